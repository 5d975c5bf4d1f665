/- -/
import Derived.Test.YtkelmheleahmpaaGreatDoorPartE
noncomputable section
set_option linter.unusedVariables false
set_option linter.unusedSimpArgs false
namespace Go.Own
open Go.Proofs
set_option maxRecDepth 100000
set_option maxHeartbeats 8000000
def X0 : XH Tryz.prog := xB zC
theorem XV : Tryz.prog.follows .mixedOrders = true := by kernel_rfl
variable {rs : List (Nat × Option Nat)}{σ : Type}{keep : Bool}{r : A}
section
variable {ctr : Ctr} {n : Fr} {Q : Exit → St → Prop} {c : Code} {fs : List Fm} {st : St}
theorem yE (X : XH Tryz.prog) (hC : zL Tryz.prog ctr) {E : St → Prop}    (hE : ∀ st x R U, z5f wq keep rs st = some (x, R, U) → LeV x r → E st) (L : List HO) (e : zbw X wq ctr n keep rs 4000 c fs st (hoH L) = some (r, hoO L) := by kernel_rfl) : AWP Tryz.prog n c st (Qf Tryz.prog n fs (z4z E)) := yE6 X zC hC XV hE L e
theorem yEx (X : XH Tryz.prog) (hC : zL Tryz.prog ctr) {E : St → Prop}    (hE : ∀ st x R U, z5f wq keep rs st = some (x, R, U) → LeV x r → E st) (L : List HO) (x : A) (hle : LeV x r) (e : zbw X wq ctr n keep rs 4000 c fs st (hoH L) = some (x, hoO L) := by kernel_rfl) : AWP Tryz.prog n c st (Qf Tryz.prog n fs (z4z E)) := zhL X zC hC XV hE L x hle e
theorem yB (X : XH Tryz.prog) (hC : zL Tryz.prog ctr) {τ : Type} {J : St → Prop} {live : List Nat} {S : τ → List (Nat × T)} {Inv : τ → Prop} (hJ : ∀ st' l' z, Inv z → Own.canon live st' = ofL l' → LeL l' (S z) → J st') (z : τ) (hz : Inv z) (L : List HO) (e : z15 X wq ctr n live 4000 c fs st (hoH L) = some (.back J, ofL (S z), hoO L) := by kernel_rfl) : AWP Tryz.prog n c st (Qf Tryz.prog n fs Q) := yB6 X zC hC XV hJ z hz L e
theorem yA (X : XH Tryz.prog) (hC : zL Tryz.prog ctr) (bd : Code) (path : List Nat) (Js : List (St → Prop)) (l : List (Nat × T)) (L : List HO) (h : AWP Tryz.prog n (sub path bd) (ofL l) (Qf Tryz.prog n (frs path Js bd []) Q)) (e : z15 X wq ctr n (WR l) 4000 c fs st (hoH L) = some (.at (sub path bd) (frs path Js bd []), ofL l, hoO L) := by kernel_rfl) : AWP Tryz.prog n c st (Qf Tryz.prog n fs Q) := yA6 X zC hC XV bd path Js l L e h
theorem yAt (X : XH Tryz.prog) (hC : zL Tryz.prog ctr) (c' : Code) (fs' : List Fm) (l : List (Nat × T)) (L : List HO) (h : ∀ st0, Own.canon (WR l) st0 = ofL l → AWP Tryz.prog n c' st0 (Qf Tryz.prog n fs' Q)) (e : z15 X wq ctr n (WR l) 4000 c fs st (hoH L) = some (.at c' fs', ofL l, hoO L) := by kernel_rfl) : AWP Tryz.prog n c st (Qf Tryz.prog n fs Q) := zhM X zC hC XV c' fs' l L e h
theorem yLx (X : XH Tryz.prog) (hC : zL Tryz.prog ctr) (bd : Code) (path : List Nat) (Js : List (St → Prop)) {σ τ : Type} (f : σ → Option (LR σ τ)) (S : σ → List (Nat × T)) (x0 : σ) {t : τ} (ht : loop f x0 = some t) (l : List (Nat × T)) (hl : LeL l (S x0)) (L : List HO) (round : ∀ x m lr, f x = some lr → zeR f m t lr → ∀ J : St → Prop, (∀ st' l' x', XY f m x' = some t → Own.canon (WR l) st' = ofL l' → LeL l' (S x') → J st') → AWP Tryz.prog n (sub (path ++ [0]) bd) (ofL (S x)) (Qf Tryz.prog n (.pre J :: frs path Js bd []) Q)) (e : z15 X wq ctr n (WR l) 4000 c fs st (hoH L) = some (.at (sub path bd) (frs path Js bd []), ofL l, hoO L) := by kernel_rfl) (e2 : sub path bd = .loop (sub (path ++ [0]) bd) := by kernel_rfl) (hk : ∀ x, WR (S x) = WR l := by exact fun _ => rfl) : AWP Tryz.prog n c st (Qf Tryz.prog n fs Q) := yL6 X zC hC XV bd path Js f S x0 ht l hl L hk e e2 round
theorem yL (X : XH Tryz.prog) (hC : zL Tryz.prog ctr) (bd : Code) (path : List Nat) (Js : List (St → Prop)) {σ τ : Type} (f : σ → Option (LR σ τ)) (S : σ → List (Nat × T)) (x0 : σ) {t : τ} (ht : loop f x0 = some t) (L : List HO) (round : ∀ x m lr, f x = some lr → zeR f m t lr → ∀ J : St → Prop, (∀ st' l' x', XY f m x' = some t → Own.canon (WR (S x0)) st' = ofL l' → LeL l' (S x') → J st') → AWP Tryz.prog n (sub (path ++ [0]) bd) (ofL (S x)) (Qf Tryz.prog n (.pre J :: frs path Js bd []) Q)) (e : z15 X wq ctr n (WR (S x0)) 4000 c fs st (hoH L) = some (.at (sub path bd) (frs path Js bd []), ofL (S x0), hoO L) := by kernel_rfl) (e2 : sub path bd = .loop (sub (path ++ [0]) bd) := by kernel_rfl) (hk : ∀ x, WR (S x) = WR (S x0) := by exact fun _ => rfl) : AWP Tryz.prog n c st (Qf Tryz.prog n fs Q) := yL6 X zC hC XV bd path Js f S x0 ht _ (LeL.refl _) L hk e e2 round
theorem yJ (X : XH Tryz.prog) (hC : zL Tryz.prog ctr) (bd : Code) (path : List Nat) (Js : List (St → Prop))  (live : List Nat) (Inv : σ → Prop) (S : σ → List (Nat × T)) (l : List (Nat × T)) (L : List HO) (h1 : ∀ z, Inv z → AWP Tryz.prog n (sub (path ++ [1]) bd) (ofL (S z)) (Qf Tryz.prog n (frs path Js bd []) Q)) (h2 : ∀ J : St → Prop, (∀ st' l' z, Inv z → Own.canon live st' = ofL l' → LeL l' (S z) → J st') → AWP Tryz.prog n (sub (path ++ [2]) bd) (ofL l) (Qf Tryz.prog n (.pre J :: frs path Js bd []) Q)) (e : z15 X wq ctr n (WR l) 4000 c fs st (hoH L) = some (.at (sub path bd) (frs path Js bd []), ofL l, hoO L) := by kernel_rfl) (e2 : sub path bd = .seq (sub (path ++ [2]) bd) (sub (path ++ [1]) bd) := by kernel_rfl) : AWP Tryz.prog n c st (Qf Tryz.prog n fs Q) := yJ6 X zC hC XV bd path Js live Inv S l L e e2 h1 h2
theorem yF (X : XH Tryz.prog) (hC : zL Tryz.prog ctr) (ex : Exit) (l : List (Nat × T)) (L : List HO) (h : ∀ st0, Own.canon (WR l) st0 = ofL l → Q ex st0) (e : z15 X wq ctr n (WR l) 4000 c fs st (hoH L) = some (.fin ex, ofL l, hoO L) := by kernel_rfl) : AWP Tryz.prog n c st (Qf Tryz.prog n fs Q) := yF6 X zC hC XV ex l L e h
theorem yO {k : Nat} {fn : Func}  {ls : List A} (keep : Bool) (rs : List (Nat × Option Nat)) (body : Code) (nt : Nat) (hf : Tryz.prog.funcs[k]? = some fn) (h : ∀ E : St → Prop, (∀ st x R U, z5f wq keep rs st = some (x, R, U) → LeV x r → E st) → AWP Tryz.prog ⟨nt, []⟩ body (ofL (z5S 0 ls)) (Qf Tryz.prog ⟨nt, []⟩ [] (z4z E))) (hb : fn.body = some body := by kernel_rfl) (hn : nt = fn.ntmps := by exact rfl) (hr : fn.results = (rs.map z1k).toArray := by exact rfl) (hnm : (fn.name == "runtime.NumGoroutine") = false := by exact rfl) (ha : Nat.ble ls.length nt = true := by kernel_rfl) : Xn Tryz.prog k ls r := yO6 zC keep rs body nt hf hb hn hr hnm ha h
end
theorem z7I : z41 Tryz.prog 67 3 4 (JF .i64) (.atom (.bool false)) := z7K Tryz.underlying67 Tryz.underlying3 ⟨.bool false, fun w => z08 (f := Tryz.t4) (by kernel_rfl) rfl w, fun S => wV.2 ⟨rfl, rfl⟩⟩ rfl
theorem zaI : z41 Tryz.prog 68 34 4 (Vs [.i64, .i64]) (.atom (.bool false)) := z3z Tryz.underlying68 _ Tryz.underlying34 (Go.Ex.z95.eqn rfl) (z4N.eqn rfl) rfl ⟨.bool false, fun w => z08 (f := Tryz.t4) (by kernel_rfl) rfl w, fun S => wV.2 ⟨rfl, rfl⟩⟩ rfl
theorem zaH : z41 Tryz.prog 69 61 4 (Vs [.i64, .i64, .i64]) (.atom (.bool false)) := z3z Tryz.underlying69 _ Tryz.underlying61 (Go.Ex.z94.eqn rfl) (z4M.eqn rfl) rfl ⟨.bool false, fun w => z08 (f := Tryz.t4) (by kernel_rfl) rfl w, fun S => wV.2 ⟨rfl, rfl⟩⟩ rfl
theorem z85 : z43 Tryz.prog 105 0 3 0 := z63 Tryz.underlying105 _ rfl rfl rfl
theorem zf5 : zbp Tryz.prog 66 1 false := z7i zC (t := 51) Tryz.so66 rfl rfl (by kernel_rfl) (by decide)
def v8 : Code := (Tryz.f20.body).getD .skip
def YR : yk := spF (α := ym) (ρ := z6) 20 (fun x => [Kz x]) (fun r => yj r) (fun x => Yv x) [] (Kq)
abbrev Qu (x_ : ym) (fj : List (List ze)) : List (Nat × T) := [(2, .own (.box (.agg [I 0, I 0, eOs 1 true uf []]))), (4, .own (.box (.agg [I (w64 (1 + (w64 (Int.tmod x_.Inputs 3)))), I (w64 (1 + (w64 (Int.tmod x_.Outputs 3)))), eOs 1 false z17 fj])))]
abbrev Qt (x_ : ym) (s_ : Int) (fc : List (List ze)) : List (Nat × T) := [(1, .own (.box (Kz x_))), (2, .own (.box (.agg [I 0, I 0, eOs 1 true uf []]))), (3, .d (I (w64 (1 + (w64 (Int.tmod x_.States 6)))))), (4, .own (.box (.agg [I (w64 (1 + (w64 (Int.tmod x_.Inputs 3)))), I (w64 (1 + (w64 (Int.tmod x_.Outputs 3)))), eOs 1 false z17 fc]))), (5, .d (I s_))]
abbrev Qs (x_ : ym) (ba : List (List ze)) (s_ : Int) (row : List ze) : List (Nat × T) := [(1, .own (.box (Kz x_))), (2, .own (.box (.agg [I 0, I 0, eOs 1 true uf []]))), (3, .d (I (w64 (1 + (w64 (Int.tmod x_.States 6)))))), (4, .own (.box (.agg [I (w64 (1 + (w64 (Int.tmod x_.Inputs 3)))), I (w64 (1 + (w64 (Int.tmod x_.Outputs 3)))), eOs 1 false z17 ba]))), (5, .d (I s_)), (6, .own (eOs 2 false F9_ row))]
abbrev Qr (x_ : ym) (ba : List (List ze)) (s_ : Int) (i_ : Int) (gi : List ze) : List (Nat × T) := [(1, .own (.box (Kz x_))), (2, .own (.box (.agg [I 0, I 0, eOs 1 true uf []]))), (3, .d (I (w64 (1 + (w64 (Int.tmod x_.States 6)))))), (4, .own (.box (.agg [I (w64 (1 + (w64 (Int.tmod x_.Inputs 3)))), I (w64 (1 + (w64 (Int.tmod x_.Outputs 3)))), eOs 1 false z17 ba]))), (5, .d (I s_)), (6, .own (eOs 2 false F9_ gi)), (7, .d (I i_))]
abbrev Qq (x_ : ym) (ba : List (List ze)) (s_ : Int) (ck : List ze) (i_ : Int) (v_ : Int) : List (Nat × T) := [(1, .own (.box (Kz x_))), (2, .own (.box (.agg [I 0, I 0, eOs 1 true uf []]))), (3, .d (I (w64 (1 + (w64 (Int.tmod x_.States 6)))))), (4, .own (.box (.agg [I (w64 (1 + (w64 (Int.tmod x_.Inputs 3)))), I (w64 (1 + (w64 (Int.tmod x_.Outputs 3)))), eOs 1 false z17 ba]))), (5, .d (I s_)), (6, .own (eOs 2 false F9_ ck)), (7, .d (I i_)), (8, .d (I v_))]
abbrev Qo (x_ : ym) (ba : List (List ze)) (s_ : Int) (ck : List ze) (i_ : Int) : List (Nat × T) := [(1, .own (.box (Kz x_))), (2, .own (.box (.agg [I 0, I 0, eOs 1 true uf []]))), (3, .d (I (w64 (1 + (w64 (Int.tmod x_.States 6)))))), (4, .own (.box (.agg [I (w64 (1 + (w64 (Int.tmod x_.Inputs 3)))), I (w64 (1 + (w64 (Int.tmod x_.Outputs 3)))), eOs 1 false z17 ba]))), (5, .d (I s_)), (6, .own (eOs 2 false F9_ ck)), (7, .d (I i_))]
abbrev Qp (x_ : ym) (ba : List (List ze)) (s_ : Int) : List (Nat × T) := [(1, .own (.box (Kz x_))), (2, .own (.box (.agg [I 0, I 0, eOs 1 true uf []]))), (3, .d (I (w64 (1 + (w64 (Int.tmod x_.States 6)))))), (4, .own (.box (.agg [I (w64 (1 + (w64 (Int.tmod x_.Inputs 3)))), I (w64 (1 + (w64 (Int.tmod x_.Outputs 3)))), eOs 1 false z17 ba]))), (5, .d (I s_))]
variable {ctr : Ctr}
theorem z1g (hC : zL Tryz.prog ctr) : YR.Ok Tryz.prog := by
 refine zS ?_
 rintro x_ r0 aa
 try unfold Yv at aa
 refine yO false [(2, some 30)] v8 87 Tryz.func20 fun E hE => ?_
 obtain ⟨g0, aa⟩ := gdE aa
 obtain ⟨g1, aa⟩ := gdE aa
 obtain ⟨g2, aa⟩ := gdE aa
 refine yJ X0 hC v8 [1,1,1] [] [2,4] (fun z : List (List ze) => kS x_ z = some r0) (fun z => Qu x_ z) [(1, .own (.box (Kz x_))), (2, .own (.box (.agg [I 0, I 0, eOs 1 true uf []]))), (3, .d (I (w64 (1 + (w64 (Int.tmod x_.States 6)))))), (4, .own (.box (.agg [I (w64 (1 + (w64 (Int.tmod x_.Inputs 3)))), I (w64 (1 + (w64 (Int.tmod x_.Outputs 3)))), eOs 1 true uf []])))] [Hn g0, Hn g1, Hn g2, Hh (.cut 3)] ?_ fun J1 ay => ?_
 ·rintro fj aa
  unfold kS at aa
  obtain rfl := zi aa
  exact yE X0 hC hE [Hm (shM z17 uf fj)]
 ·obtain ⟨t2, ht2, aa⟩ := zm aa
  refine yLx X0 hC v8 [1,1,1,2,1,0] [J1] (fun s => kP x_ s.1 s.2) (fun x => Qp x_ x.1 x.2) (([] : List (List ze)), 0) ht2 [(1, .own (.box (Kz x_))), (2, .own (.box (.agg [I 0, I 0, eOs 1 true uf []]))), (3, .d (I (w64 (1 + (w64 (Int.tmod x_.States 6)))))), (4, .own (.box (.agg [I (w64 (1 + (w64 (Int.tmod x_.Inputs 3)))), I (w64 (1 + (w64 (Int.tmod x_.Outputs 3)))), eOs 1 true z17 []]))), (5, .d (I 0))] inferInstance [] ?_
  rintro ⟨ba, s_⟩ m2 bg ae hl1 J2 a6
  try unfold kP at ae
  rcases y8 ae with ⟨c0, ae⟩ | ⟨c0, ae⟩
  ·refine yJ X0 hC v8 [1,1,1,2,1,0,0,1] [J1, J2] [1,2,3,4,5] (fun z : List (List ze) => kR s_ z = some bg) (fun z => Qt x_ s_ z) [(1, .own (.box (Kz x_))), (2, .own (.box (.agg [I 0, I 0, eOs 1 true uf []]))), (3, .d (I (w64 (1 + (w64 (Int.tmod x_.States 6)))))), (4, .own (.box (.agg [I (w64 (1 + (w64 (Int.tmod x_.Inputs 3)))), I (w64 (1 + (w64 (Int.tmod x_.Outputs 3)))), eOs 1 false z17 ba]))), (5, .d (I s_))] [Hq c0, Hh (.cut 0)] ?_ fun J3 ce => ?_
   ·rintro fc ae
    unfold kR at ae
    obtain rfl := zi ae
    exact yB X0 hC a6 (fc, w64 (s_ + 1)) hl1 []
   ·refine yJ X0 hC v8 [1,1,1,2,1,0,0,1,2,0,1] [J1, J2, J3] [1,2,3,4,5,6] (fun z : List ze => kQ ba s_ z = some bg) (fun z => Qs x_ ba s_ z) [(1, .own (.box (Kz x_))), (2, .own (.box (.agg [I 0, I 0, eOs 1 true uf []]))), (3, .d (I (w64 (1 + (w64 (Int.tmod x_.States 6)))))), (4, .own (.box (.agg [I (w64 (1 + (w64 (Int.tmod x_.Inputs 3)))), I (w64 (1 + (w64 (Int.tmod x_.Outputs 3)))), eOs 1 false z17 ba]))), (5, .d (I s_)), (6, .own (eOs 2 true F9_ []))] [Hh (.cut 1)] ?_ fun J4 d0 => ?_
    ·rintro row ae
     unfold kQ at ae
     obtain ⟨g3, ae⟩ := gdE ae
     exact yB X0 hC ce (ba ++ ([row] : List (List ze))) ae [Hq (oC z17 row []), Hn (aL z17 z17 g3), Hl (aM z17 ba ([row] : List (List ze)))]
    ·obtain ⟨t5, ht5, ae⟩ := zm ae
     refine yLx X0 hC v8 [1,1,1,2,1,0,0,1,2,0,1,2,1,0] [J1, J2, J3, J4] (fun s => qR x_ s_ s.1 s.2) (fun x => Qo x_ ba s_ x.1 x.2) (([] : List ze), 0) ht5 [(1, .own (.box (Kz x_))), (2, .own (.box (.agg [I 0, I 0, eOs 1 true uf []]))), (3, .d (I (w64 (1 + (w64 (Int.tmod x_.States 6)))))), (4, .own (.box (.agg [I (w64 (1 + (w64 (Int.tmod x_.Inputs 3)))), I (w64 (1 + (w64 (Int.tmod x_.Outputs 3)))), eOs 1 false z17 ba]))), (5, .d (I s_)), (6, .own (eOs 2 true F9_ [])), (7, .d (I 0))] inferInstance [] ?_
     rintro ⟨ck, i_⟩ m5 ff ai hl2 J5 dn
     try unfold qR at ai
     rcases y8 ai with ⟨c1, ai⟩ | ⟨c1, ai⟩
     ·refine yJ X0 hC v8 [1,1,1,2,1,0,0,1,2,0,1,2,1,0,0,1] [J1, J2, J3, J4, J5] [1,2,3,4,5,6,7] (fun z : List ze => qS i_ z = some ff) (fun z => Qr x_ ba s_ i_ z) [(1, .own (.box (Kz x_))), (2, .own (.box (.agg [I 0, I 0, eOs 1 true uf []]))), (3, .d (I (w64 (1 + (w64 (Int.tmod x_.States 6)))))), (4, .own (.box (.agg [I (w64 (1 + (w64 (Int.tmod x_.Inputs 3)))), I (w64 (1 + (w64 (Int.tmod x_.Outputs 3)))), eOs 1 false z17 ba]))), (5, .d (I s_)), (6, .own (eOs 2 false F9_ ck)), (7, .d (I i_))] [Hq c1, Hh (.cut 0)] ?_ fun J6 ew => ?_
      ·rintro gi ai
       unfold qS at ai
       obtain rfl := zi ai
       exact yB X0 hC dn (gi, w64 (i_ + 1)) hl2 []
      ·refine yJ X0 hC v8 [1,1,1,2,1,0,0,1,2,0,1,2,1,0,0,1,2,0,1] [J1, J2, J3, J4, J5, J6] [1,2,3,4,5,6,7,8] (fun z : Int => vR x_ ck i_ z = some ff) (fun z => Qq x_ ba s_ ck i_ z) [(1, .own (.box (Kz x_))), (2, .own (.box (.agg [I 0, I 0, eOs 1 true uf []]))), (3, .d (I (w64 (1 + (w64 (Int.tmod x_.States 6)))))), (4, .own (.box (.agg [I (w64 (1 + (w64 (Int.tmod x_.Inputs 3)))), I (w64 (1 + (w64 (Int.tmod x_.Outputs 3)))), eOs 1 false z17 ba]))), (5, .d (I s_)), (6, .own (eOs 2 false F9_ ck)), (7, .d (I i_)), (8, .d (I 0))] [Hh (.cut 1)] ?_ fun J7 fy => ?_
       ·rintro v_ ai
        unfold vR at ai
        rcases y8 ai with ⟨c2, ai⟩ | ⟨c2, ai⟩
        ·obtain ⟨g4, ai⟩ := gdE ai
         let Z0 : List HO := [Hq c2, Hq c2, Hn g4, Hq c2, Hq c2]
         rcases y8 ai with ⟨c3, ai⟩ | ⟨c3, ai⟩
         ·obtain ⟨g5, ai⟩ := gdE ai
          exact yB X0 hC ew (ck ++ ([(ze.mk (-1) (-1))] : List ze)) ai (Z0 ++ [Hq c3, Hq (dM F9_ ([(ze.mk (-1) (-1))] : List ze)), Hn (dM F9_ ([(ze.mk (-1) (-1))] : List ze)), Hn (aL F9_ F9_ g5), Hl (aM F9_ ck ([(ze.mk (-1) (-1))] : List ze))])
         ·obtain ⟨g6, ai⟩ := gdE ai
          obtain ⟨g7, ai⟩ := gdE ai
          obtain ⟨g8, ai⟩ := gdE ai
          obtain ⟨g9, ai⟩ := gdE ai
          obtain ⟨g10, ai⟩ := gdE ai
          obtain ⟨g11, ai⟩ := gdE ai
          exact yB X0 hC ew (ck ++ ([(ze.mk (Int.tmod (w64 (Int.tdiv v_ 4)) (w64 (1 + (w64 (Int.tmod x_.States 6))))) (Int.tmod (w64 (Int.tdiv (w64 (Int.tdiv v_ 4)) (w64 (1 + (w64 (Int.tmod x_.States 6)))))) (w64 (1 + (w64 (Int.tmod x_.Outputs 3))))))] : List ze)) ai (Z0 ++ [Hq c3, Hn g6, Hn g7, Hn g8, Hn g9, Hn g10, Hq (dM F9_ ([(ze.mk (Int.tmod (w64 (Int.tdiv v_ 4)) (w64 (1 + (w64 (Int.tmod x_.States 6))))) (Int.tmod (w64 (Int.tdiv (w64 (Int.tdiv v_ 4)) (w64 (1 + (w64 (Int.tmod x_.States 6)))))) (w64 (1 + (w64 (Int.tmod x_.Outputs 3))))))] : List ze)), Hn (dM F9_ ([(ze.mk (Int.tmod (w64 (Int.tdiv v_ 4)) (w64 (1 + (w64 (Int.tmod x_.States 6))))) (Int.tmod (w64 (Int.tdiv (w64 (Int.tdiv v_ 4)) (w64 (1 + (w64 (Int.tmod x_.States 6)))))) (w64 (1 + (w64 (Int.tmod x_.Outputs 3))))))] : List ze)), Hn (aL F9_ F9_ g11), Hl (aM F9_ ck ([(ze.mk (Int.tmod (w64 (Int.tdiv v_ 4)) (w64 (1 + (w64 (Int.tmod x_.States 6))))) (Int.tmod (w64 (Int.tdiv (w64 (Int.tdiv v_ 4)) (w64 (1 + (w64 (Int.tmod x_.States 6)))))) (w64 (1 + (w64 (Int.tmod x_.Outputs 3))))))] : List ze))])
        ·obtain ⟨g12, ai⟩ := gdE ai
         obtain ⟨g13, ai⟩ := gdE ai
         obtain ⟨g14, ai⟩ := gdE ai
         obtain ⟨g15, ai⟩ := gdE ai
         obtain ⟨g16, ai⟩ := gdE ai
         obtain ⟨g17, ai⟩ := gdE ai
         exact yB X0 hC ew (ck ++ ([(ze.mk (Int.tmod (w64 (Int.tdiv v_ 4)) (w64 (1 + (w64 (Int.tmod x_.States 6))))) (Int.tmod (w64 (Int.tdiv (w64 (Int.tdiv v_ 4)) (w64 (1 + (w64 (Int.tmod x_.States 6)))))) (w64 (1 + (w64 (Int.tmod x_.Outputs 3))))))] : List ze)) ai (rpN 4 (Hq c2) [qF, Hn g12, Hn g13, Hn g14, Hn g15, Hn g16, Hq (dM F9_ ([(ze.mk (Int.tmod (w64 (Int.tdiv v_ 4)) (w64 (1 + (w64 (Int.tmod x_.States 6))))) (Int.tmod (w64 (Int.tdiv (w64 (Int.tdiv v_ 4)) (w64 (1 + (w64 (Int.tmod x_.States 6)))))) (w64 (1 + (w64 (Int.tmod x_.Outputs 3))))))] : List ze)), Hn (dM F9_ ([(ze.mk (Int.tmod (w64 (Int.tdiv v_ 4)) (w64 (1 + (w64 (Int.tmod x_.States 6))))) (Int.tmod (w64 (Int.tdiv (w64 (Int.tdiv v_ 4)) (w64 (1 + (w64 (Int.tmod x_.States 6)))))) (w64 (1 + (w64 (Int.tmod x_.Outputs 3))))))] : List ze)), Hn (aL F9_ F9_ g17), Hl (aM F9_ ck ([(ze.mk (Int.tmod (w64 (Int.tdiv v_ 4)) (w64 (1 + (w64 (Int.tmod x_.States 6))))) (Int.tmod (w64 (Int.tdiv (w64 (Int.tdiv v_ 4)) (w64 (1 + (w64 (Int.tmod x_.States 6)))))) (w64 (1 + (w64 (Int.tmod x_.Outputs 3))))))] : List ze))])
       ·let Z1 : List HO := [Ha (lnM (eI .u16) x_.Edges)]
        rcases y8 ai with ⟨c4, ai⟩ | ⟨c4, ai⟩
        ·obtain ⟨gj, h0, ai⟩ := zm ai
         exact yB X0 hC fy (w64 (gj)) ai (Z1 ++ [Hq c4, Hi (eI .u16) h0])
        ·exact yB X0 hC fy 0 ai (Z1 ++ [Hq c4])
     ·obtain rfl := zi ai
      obtain rfl := hl2
      exact yB X0 hC d0 ck ae [Hq c1]
  ·obtain rfl := zi ae
   obtain rfl := hl1
   exact yB X0 hC ay ba aa [Hq c0]
def Xd : Code := (Tryz.f21.body).getD .skip
def YQ : yk := spF (α := List Int × Int × Int) (ρ := List Int) 21 (fun x => [F1_ x.1, (eI .i64) x.2.1, (eI .i64) x.2.2]) (fun r => F6_ r) (fun x => Yu x.1 x.2.1 x.2.2) [] (z5R)
abbrev Qn (out : List Int) : List (Nat × T) := [(7, .own (eOs 1 false (eI .i64) out))]
abbrev Qm (w_ : List Int) (inputs : Int) (most : Int) (aj : List Int) (k_ : Int) : List (Nat × T) := [(0, .d (eSl 1 false (eI .u8) w_)), (1, .d (I inputs)), (2, .d (I most)), (7, .own (eOs 1 false (eI .i64) aj)), (8, .d (I k_))]
theorem z1f (hC : zL Tryz.prog ctr) : YQ.Ok Tryz.prog := by
 refine zS ?_
 rintro ⟨w_, inputs, most⟩ r0 aa
 try unfold Yu at aa
 refine yO true [(6, none)] Xd 31 Tryz.func21 fun E hE => ?_
 refine yJ X0 hC Xd [1,1] [] [7] (fun z : List Int => kO z = some r0) (fun z => Qn z) [(0, .d (eSl 1 false (eI .u8) w_)), (1, .d (I inputs)), (2, .d (I most)), (7, .own (eOs 1 true (eI .i64) []))] [Hh (.cut 2)] ?_ fun J1 ay => ?_
 ·rintro out aa
  unfold kO at aa
  obtain rfl := zi aa
  exact yE X0 hC hE []
 ·obtain ⟨t2, ht2, aa⟩ := zm aa
  refine yLx X0 hC Xd [1,1,2,1,0] [J1] (fun s => kN w_ inputs most s.1 s.2) (fun x => Qm w_ inputs most x.1 x.2) (([] : List Int), 0) ht2 [(0, .d (eSl 1 false (eI .u8) w_)), (1, .d (I inputs)), (2, .d (I most)), (7, .own (eOs 1 true (eI .i64) [])), (8, .d (I 0))] inferInstance [] ?_
  rintro ⟨aj, k_⟩ m2 bg ae hl1 J2 a6
  try unfold kN at ae
  rcases y8 ae with ⟨c0, ae⟩ | ⟨c0, ae⟩
  ·let Z0 : List HO := (Ha (lnM (eI .u8) w_) :: (rpN 4 (Hq c0) []))
   rcases y8 ae with ⟨c1, ae⟩ | ⟨c1, ae⟩
   ·obtain ⟨bc, h0, ae⟩ := zm ae
    obtain ⟨g0, ae⟩ := gdE ae
    obtain ⟨g1, ae⟩ := gdE ae
    obtain rfl := zi ae
    exact yB X0 hC a6 ((aj ++ ([Int.tmod (w64 (bc)) inputs] : List Int)), w64 (k_ + 1)) hl1 (Z0 ++ [Hq c1, Hi (eI .u8) h0, Hn g0, Hq (dM (eI .i64) ([Int.tmod (w64 (bc)) inputs] : List Int)), Hn (dM (eI .i64) ([Int.tmod (w64 (bc)) inputs] : List Int)), Hn (aL (eI .i64) (eI .i64) g1), Hl (aM (eI .i64) aj ([Int.tmod (w64 (bc)) inputs] : List Int))])
   ·obtain rfl := zi ae
    obtain rfl := hl1
    exact yB X0 hC ay aj aa (Z0 ++ [Hq c1])
  ·obtain rfl := zi ae
   obtain rfl := hl1
   exact yB X0 hC ay aj aa (Ha (lnM (eI .u8) w_) :: (rpN 4 (Hq c0) [qF]))
def ku : Code := (Tryz.f34.body).getD .skip
def q9 : yk := spF (α := List Int × List Int) (ρ := Int) 34 (fun x => [F7_ x.1, F7_ x.2]) (fun r => (eI .i64) r) (fun x => vQ x.1 x.2) [] (Um)
abbrev V5 : List (Nat × T) := []
abbrev V4 (a_ : List Int) (b_ : List Int) (i_ : Int) : List (Nat × T) := [(0, .d (eSl 1 false (eI .i64) a_)), (1, .d (eSl 1 false (eI .i64) b_)), (5, .d (I i_))]
theorem QR (hC : zL Tryz.prog ctr) : q9.Ok Tryz.prog := by
 refine zS ?_
 rintro ⟨a_, b_⟩ r0 aa
 try unfold vQ at aa
 refine yO true [(4, none)] ku 40 Tryz.func34 fun E hE => ?_
 let Z0 : List HO := [Ha (lnM (eI .i64) a_), Ha (lnM (eI .i64) b_)]
 rcases y8 aa with ⟨c0, aa⟩ | ⟨c0, aa⟩
 ·let Z1 : List HO := (Z0 ++ [Hq c0, Ha (lnM (eI .i64) a_), Ha (lnM (eI .i64) b_)])
  rcases y8 aa with ⟨c1, aa⟩ | ⟨c1, aa⟩
  ·obtain rfl := zi aa
   exact yE X0 hC hE (Z1 ++ [Hq c1])
  ·obtain rfl := zi aa
   exact yE X0 hC hE (Z1 ++ [Hq c1])
 ·refine yJ X0 hC ku [1,1] [] [] (fun z : Unit => kn = some r0) (fun z => V5) [(0, .d (eSl 1 false (eI .i64) a_)), (1, .d (eSl 1 false (eI .i64) b_))] (Z0 ++ [Hq c0, Hh (.cut 0)]) ?_ fun J1 ay => ?_
  ·rintro ⟨⟩ aa
   unfold kn at aa
   obtain rfl := zi aa
   exact yE X0 hC hE []
  ·obtain ⟨t2, ht2, aa⟩ := zm aa
   refine yL X0 hC ku [1,1,2,1,0] [J1] (fun s => u3 a_ b_ s) (fun x => V4 a_ b_ x) 0 ht2  [] ?_
   rintro i_ m2 bg ae hl1 J2 a6
   try unfold u3 at ae
   rcases y8 ae with ⟨c2, ae⟩ | ⟨c2, ae⟩
   ·obtain ⟨fq, h0, ae⟩ := zm ae
    obtain ⟨ft, h1, ae⟩ := zm ae
    let Z2 : List HO := [Ha (lnM (eI .i64) a_), Hq c2, Hi (eI .i64) h0, Hi (eI .i64) h1]
    rcases y8 ae with ⟨c3, ae⟩ | ⟨c3, ae⟩
    ·obtain rfl := zi ae
     obtain rfl := hl1
     obtain rfl := zi aa
     exact yE X0 hC hE (Z2 ++ [Hq c3])
    ·obtain ⟨ic, h2, ae⟩ := zm ae
     obtain ⟨ie, h3, ae⟩ := zm ae
     let Z3 : List HO := (Z2 ++ [Hq c3, Hi (eI .i64) h2, Hi (eI .i64) h3])
     rcases y8 ae with ⟨c4, ae⟩ | ⟨c4, ae⟩
     ·obtain rfl := zi ae
      obtain rfl := hl1
      obtain rfl := zi aa
      exact yE X0 hC hE (Z3 ++ [Hq c4])
     ·obtain rfl := zi ae
      exact yB X0 hC a6 (w64 (i_ + 1)) hl1 (Z3 ++ [Hq c4])
   ·obtain rfl := zi ae
    obtain rfl := hl1
    exact yB X0 hC ay () aa [Ha (lnM (eI .i64) a_), Hq c2]
def qE : Code := (Tryz.f42.body).getD .skip
def XM : yk := spF (α := List (List Int) × List Int) (ρ := List (List Int)) 42 (fun x => [z6F x.1, F7_ x.2]) (fun r => z6F r) (fun x => XT x.1 x.2) [true, false] (Um)
abbrev K8 (w_ : List Int) (cp : Int) (bl : List (List Int)) : List (Nat × T) := [(0, .own (eOs 1 false F7_ bl)), (1, .d (eSl 1 false (eI .i64) w_)), (5, .d (I cp))]
abbrev K7 (w_ : List Int) (cp : Int) (dy : List (List Int)) (i_ : Int) : List (Nat × T) := [(0, .own (eOs 1 false F7_ dy)), (1, .d (eSl 1 false (eI .i64) w_)), (5, .d (I cp)), (8, .d (I i_))]
abbrev K9 (l_ : List (List Int)) (w_ : List Int) (cp : Int) : List (Nat × T) := [(0, .own (eOs 1 false F7_ l_)), (1, .d (eSl 1 false (eI .i64) w_)), (5, .d (I cp))]
abbrev Ka (l_ : List (List Int)) (w_ : List Int) (cp : Int) : List (Nat × T) := [(0, .own (eOs 1 false F7_ l_)), (1, .d (eSl 1 false (eI .i64) w_)), (5, .d (I cp))]
abbrev K6 (l_ : List (List Int)) (w_ : List Int) (dv : Int) (d8 : Int) : List (Nat × T) := [(0, .own (eOs 1 false F7_ l_)), (1, .d (eSl 1 false (eI .i64) w_)), (5, .d (I dv)), (6, .d (I d8))]
def xj : XH Tryz.prog := ((z47 zC (.inr 66) [65]).or ((z47 zC (.inl 44) [43]).or X0))
theorem z2n (hC : zL Tryz.prog ctr) (h0a : ctr.Has q9) : XM.Ok Tryz.prog := by
 refine zS ?_
 rintro ⟨l_, w_⟩ r0 aa
 try unfold XT at aa
 refine yO true [(4, none)] qE 68 Tryz.func42 fun E hE => ?_
 refine yJ xj hC qE [1,1,1] [] [0,1,5] (fun z : Int => ZX l_ w_ z = some r0) (fun z => Ka l_ w_ z) [(0, .own (eOs 1 false F7_ l_)), (1, .d (eSl 1 false (eI .i64) w_)), (5, .d (I 0)), (6, .d (I ((l_.length : Nat) : Int)))] [Ha (lnM F7_ l_), Hh (.cut 0)] ?_ fun J1 ay => ?_
 ·rintro cp aa
  unfold ZX at aa
  refine yJ xj hC qE [1,1,1,1] [] [0,1,5] (fun z : Unit => qC l_ w_ cp = some r0) (fun z => K9 l_ w_ cp) [(0, .own (eOs 1 false F7_ l_)), (1, .d (eSl 1 false (eI .i64) w_)), (5, .d (I cp))] [Hh (.cut 0)] ?_ fun J2 a6 => ?_
  ·rintro ⟨⟩ aa
   unfold qC at aa
   obtain ⟨g0, aa⟩ := gdE aa
   refine yJ ((xNb zC 43).or xj) hC qE [1,1,1,1,1,1] [] [0,1,5] (fun z : List (List Int) => ZW w_ cp z = some r0) (fun z => K8 w_ cp z) [(0, .own (eOs 1 false F7_ (l_ ++ ([[]] : List (List Int))))), (1, .d (eSl 1 false (eI .i64) w_)), (5, .d (I cp))] [Hm (shM F6_ F7_ ([[]])), Hn (dM F7_ ([[]] : List (List Int))), Hn (aL F7_ F7_ g0), Hl (aM F7_ l_ ([[]] : List (List Int))), Hh (.cut 0)] ?_ fun J3 ce => ?_
   ·rintro bl aa
    unfold ZW at aa
    obtain ⟨g1, aa⟩ := gdE aa
    obtain ⟨ax, h0, aa⟩ := zm aa
    obtain rfl := zi aa
    exact yE xj hC hE [Hn (dM (eI .i64) w_), Hn (aL (eI .i64) (eI .i64) g1), Hl (aM0 (eI .i64) w_), Hn (iL F7_ h0), Hm (shM (eI .i64) (eI .i64) w_), Hs (iM F7_ h0), Hs (iM F7_ h0), Hl (sM F7_ bl cp w_)]
   ·obtain ⟨t4, ht4, aa⟩ := zm aa
    refine yL xj hC qE [1,1,1,1,1,1,2,1,0] [J3] (fun s => jT cp s.1 s.2) (fun x => K7 w_ cp x.1 x.2) ((l_ ++ ([[]] : List (List Int))), w64 ((((l_ ++ ([[]] : List (List Int))).length : Nat) : Int) - 1)) ht4  [Ha (lnM F7_ (l_ ++ ([[]] : List (List Int))))] ?_
    rintro ⟨dy, i_⟩ m4 bg ae hl1 J4 d0
    try unfold jT at ae
    rcases y8 ae with ⟨c0, ae⟩ | ⟨c0, ae⟩
    ·obtain ⟨co, h1, ae⟩ := zm ae
     obtain ⟨ir, h2, ae⟩ := zm ae
     obtain rfl := zi ae
     exact yB xj hC d0 ((dy.set i_.toNat co), w64 (i_ - 1)) hl1 [Hq c0, Hn (iL F7_ h1), Hs (iM F7_ h1), Hn (iL F7_ h2), Hs (iM F7_ h2), Hs (iM F7_ h2), Hl (sM F7_ dy i_ co)]
    ·obtain rfl := zi ae
     obtain rfl := hl1
     exact yB xj hC ce dy aa [Hq c0]
  ·let Z0 : List HO := [Ha (lnM F7_ l_)]
   rcases y8 aa with ⟨c1, aa⟩ | ⟨c1, aa⟩
   ·obtain ⟨gb, h3, aa⟩ := zm aa
    obtain ⟨r_, h4, aa⟩ := zm aa
    let Z1 : List HO := (Z0 ++ [Hq c1, Hq c1, Hq c1, Hn (iL F7_ h3), Hq c1, Hs (iM F7_ h3), Hq c1, Hq c1, Hc h0a (x := (gb, w_)) h4 (loC F7_ gb <| loC F7_ w_ <| loN), Hq c1, Hq c1])
    rcases y8 aa with ⟨c2, aa⟩ | ⟨c2, aa⟩
    ·obtain rfl := zi aa
     exact yE xj hC hE (Z1 ++ [Hq c2])
    ·exact yB xj hC a6 () aa (Z1 ++ [Hq c2])
   ·exact yB xj hC a6 () aa (Z0 ++ (rpN 8 (Hq c1) [qF]))
 ·obtain ⟨t5, ht5, aa⟩ := zm aa
  refine yL xj hC qE [1,1,1,2,0] [J1] (fun s => jS l_ w_ s.1 s.2) (fun x => K6 l_ w_ x.1 x.2) (0, ((l_.length : Nat) : Int)) ht5  [] ?_
  rintro ⟨dv, d8⟩ m5 bg ae hl1 J5 dn
  try unfold jS at ae
  rcases y8 ae with ⟨c3, ae⟩ | ⟨c3, ae⟩
  ·obtain ⟨g2, ae⟩ := gdE ae
   obtain ⟨gc, h5, ae⟩ := zm ae
   obtain ⟨ah, h6, ae⟩ := zm ae
   let Z2 : List HO := [Hq c3, Hn g2, Hn (iL F7_ h5), Hs (iM F7_ h5), Hc h0a (x := (gc, w_)) h6 (loC F7_ gc <| loC F7_ w_ <| loN)]
   rcases y8 ae with ⟨c4, ae⟩ | ⟨c4, ae⟩
   ·obtain rfl := zi ae
    exact yB xj hC dn (w64 ((w64 (Int.tdiv (w64 (dv + d8)) 2)) + 1), d8) hl1 (Z2 ++ [Hq c4])
   ·obtain rfl := zi ae
    exact yB xj hC dn (dv, w64 (Int.tdiv (w64 (dv + d8)) 2)) hl1 (Z2 ++ [Hq c4])
  ·obtain rfl := zi ae
   obtain rfl := hl1
   exact yB xj hC ay dv aa [Hq c3]
def X9 : Code := (Tryz.f22.body).getD .skip
def YN : yk := spF (α := List (List Int)) (ρ := List (List Int)) 22 (fun x => [qA x]) (fun r => z6F r) (fun x => Yo x) [] (Kq)
abbrev Qe (out : List (List Int)) : List (Nat × T) := [(3, .own (eOs 1 false F7_ out))]
abbrev Qd (l_ : List (List Int)) (aj : List (List Int)) (i_ : Int) : List (Nat × T) := [(0, .d (eSl 1 false F7_ l_)), (3, .own (eOs 1 false F7_ aj)), (4, .d (I i_))]
theorem z1a (hC : zL Tryz.prog ctr) (h0s : ctr.Has XM) : YN.Ok Tryz.prog := by
 refine zS ?_
 rintro l_ r0 aa
 try unfold Yo at aa
 refine yO true [(2, none)] X9 18 Tryz.func22 fun E hE => ?_
 refine yJ X0 hC X9 [1,1] [] [3] (fun z : List (List Int) => YW z = some r0) (fun z => Qe z) [(0, .d (eSl 1 false F7_ l_)), (3, .own (eOs 1 true F7_ []))] [Hh (.cut 2)] ?_ fun J1 ay => ?_
 ·rintro out aa
  unfold YW at aa
  obtain rfl := zi aa
  exact yE X0 hC hE []
 ·obtain ⟨t2, ht2, aa⟩ := zm aa
  refine yLx X0 hC X9 [1,1,2,1,0] [J1] (fun s => wZ l_ s.1 s.2) (fun x => Qd l_ x.1 x.2) (([] : List (List Int)), 0) ht2 [(0, .d (eSl 1 false F7_ l_)), (3, .own (eOs 1 true F7_ [])), (4, .d (I 0))] inferInstance [] ?_
  rintro ⟨aj, i_⟩ m2 bg ae hl1 J2 a6
  try unfold wZ at ae
  let Z0 : List HO := [Ha (lnM F7_ l_)]
  rcases y8 ae with ⟨c0, ae⟩ | ⟨c0, ae⟩
  ·obtain ⟨ax, h0, ae⟩ := zm ae
   obtain ⟨r_, h1, ae⟩ := zm ae
   obtain rfl := zi ae
   exact yB X0 hC a6 (r_, w64 (i_ + 1)) hl1 (Z0 ++ [Hq c0, Hi F7_ h0, Hc h0s (x := (aj, ax)) h1 (loC z6F aj <| loC F7_ ax <| loN)])
  ·obtain rfl := zi ae
   obtain rfl := hl1
   exact yB X0 hC ay aj aa (Z0 ++ [Hq c0])
def Xc : Code := (Tryz.f7.body).getD .skip
def YP : yk := spF (α := wG) (ρ := z6 × List (List Int)) 7 (fun x => [(uW Kz (eSl 1 false F1_)) x]) (fun r => .tup [yj r.1, qA r.2]) (fun x => Yt x) [] (Kq)
abbrev Ql (r_ : z6) (l_ : List (List Int)) : List (Nat × T) := [(2, .own (.box (.agg [I 0, I 0, eOs 1 true uf []]))), (4, .own (.box (yj r_))), (5, .own (eOs 1 false F6_ l_))]
abbrev Qk (x_ : wG) (r_ : z6) (bl : List (List Int)) (i_ : Int) : List (Nat × T) := [(1, .own (.box (.agg [Kz x_.M, eSl 1 false F1_ x_.L]))), (2, .own (.box (.agg [I 0, I 0, eOs 1 true uf []]))), (4, .own (.box (yj r_))), (5, .own (eOs 1 false F6_ bl)), (6, .d (I i_))]
theorem z1e (hC : zL Tryz.prog ctr) (h0t : ctr.Has YR) (h0u : ctr.Has YQ) (h0l : ctr.Has YN) : YP.Ok Tryz.prog := by
 refine zS ?_
 rintro x_ r0 aa
 try unfold Yt at aa
 refine yO false [(2, some 30), (3, none)] Xc 35 Tryz.func7 fun E hE => ?_
 obtain ⟨r_, h0, aa⟩ := zm aa
 refine yJ X0 hC Xc [1,1,1] [] [2,4,5] (fun z : List (List Int) => kM r_ z = some r0) (fun z => Ql r_ z) [(1, .own (.box (.agg [Kz x_.M, eSl 1 false F1_ x_.L]))), (2, .own (.box (.agg [I 0, I 0, eOs 1 true uf []]))), (4, .own (.box (yj r_))), (5, .own (eOs 1 true F7_ []))] [Hc h0t (x := x_.M) h0 (loC Kz x_.M <| loN), Hh (.cut 1)] ?_ fun J1 ay => ?_
 ·rintro l_ aa
  unfold kM at aa
  obtain ⟨ah, h1, aa⟩ := zm aa
  obtain rfl := zi aa
  exact yE X0 hC hE [Hg (Kr h0l), Hm (shM F6_ F7_ l_), Hs (Ks h0l (x := l_) h1 (loC qA l_ <| loN)), Hm (shM F6_ F7_ l_), Hm (shM F7_ F7_ ah)]
 ·obtain ⟨t2, ht2, aa⟩ := zm aa
  refine yLx X0 hC Xc [1,1,1,2,1,0] [J1] (fun s => kL x_ r_ s.1 s.2) (fun x => Qk x_ r_ x.1 x.2) (([] : List (List Int)), 0) ht2 [(1, .own (.box (.agg [Kz x_.M, eSl 1 false F1_ x_.L]))), (2, .own (.box (.agg [I 0, I 0, eOs 1 true uf []]))), (4, .own (.box (yj r_))), (5, .own (eOs 1 true F6_ [])), (6, .d (I 0))] inferInstance [] ?_
  rintro ⟨bl, i_⟩ m2 bg ae hl1 J2 a6
  try unfold kL at ae
  let Z0 : List HO := [Ha (lnM F1_ x_.L)]
  rcases y8 ae with ⟨c0, ae⟩ | ⟨c0, ae⟩
  ·rcases y8 ae with ⟨c1, ae⟩ | ⟨c1, ae⟩
   ·obtain ⟨ig, h2, ae⟩ := zm ae
    obtain ⟨am, h3, ae⟩ := zm ae
    obtain ⟨g0, ae⟩ := gdE ae
    obtain rfl := zi ae
    exact yB X0 hC a6 ((bl ++ ([am] : List (List Int))), w64 (i_ + 1)) hl1 (Z0 ++ [Hq c0, Hq c0, Hq c0, Hq c1, Hi F1_ h2, Hc h0u (x := (ig, r_.Inputs, 8)) h3 (loC F1_ ig <| loC (eI .i64) r_.Inputs <| loC (eI .i64) 8 <| loN), Hq (oC F6_ am []), Hn (aL F6_ F6_ g0), Hl (aM F6_ bl ([am] : List (List Int)))])
   ·obtain rfl := zi ae
    obtain rfl := hl1
    exact yB X0 hC ay bl aa (Z0 ++ [Hq c0, Hq c0, Hq c0, Hq c1])
  ·obtain rfl := zi ae
   obtain rfl := hl1
   exact yB X0 hC ay bl aa (Z0 ++ [Hq c0, Hq c0, Hq c0, qF])
def Q2 : Code := (Tryz.f74.body).getD .skip
def kj : yk := spF (α := Unit) (ρ := ze) 74 (fun x => []) (fun r => F9_ r) (fun x => kK) [] (fun _ _ _ => rfl)
theorem QT (hC : zL Tryz.prog ctr) : kj.Ok Tryz.prog := by
 refine zS ?_
 rintro ⟨⟩ r0 aa
 try unfold kK at aa
 refine yO false [(0, some 105)] Q2 2 Tryz.func74 fun E hE => ?_
 obtain rfl := zi aa
 exact yE X0 hC hE []
def Q3 : Code := (Tryz.f59.body).getD .skip
def kl : yk := spF (α := z6 × ze) (ρ := Bool) 59 (fun x => [yj x.1, F9_ x.2]) (fun r => eB r) (fun x => qQ x.1 x.2) [] (Um)
theorem QU (hC : zL Tryz.prog ctr) (h0v : ctr.Has kj) : kl.Ok Tryz.prog := by
 refine zS ?_
 rintro ⟨m_, x_⟩ r0 aa
 try unfold qQ at aa
 refine yO true [(4, none)] Q3 33 Tryz.func59 fun E hE => ?_
 obtain ⟨r_, h0, aa⟩ := zm aa
 let Z0 : List HO := [Hc h0v (x := ()) h0 (loN)]
 rcases y8 aa with ⟨c0, aa⟩ | ⟨c0, aa⟩
 ·obtain rfl := zi aa
  exact yE X0 hC hE (Z0 ++ (rpN 10 (Hq c0) []))
 ·let Z1 : List HO := (Z0 ++ (rpN 4 (Hq c0) []))
  rcases y8 aa with ⟨c1, aa⟩ | ⟨c1, aa⟩
  ·let Z2 : List HO := (Z1 ++ (rpN 5 (Hq c1) [Ha (lnM uf m_.Rows), Hq c1, Hq c0, Hq c1, Hq c0]))
   rcases y8 aa with ⟨c2, aa⟩ | ⟨c2, aa⟩
   ·let Z3 : List HO := (Z2 ++ [Hq c2, Hq c2, Hq c2, Hq c0, Hq c2, Hq c0])
    rcases y8 aa with ⟨c3, aa⟩ | ⟨c3, aa⟩
    ·obtain rfl := zi aa
     exact yE X0 hC hE (Z3 ++ (rpN 5 (Hq c3) [Hq c0, Hq c3, Hq c0]))
    ·obtain rfl := zi aa
     exact yE X0 hC hE (Z3 ++ (rpN 5 (Hq c3) [Hq c0, Hq c3, Hq c0]))
   ·obtain rfl := zi aa
    exact yE X0 hC hE (Z2 ++ (Hq c2 :: Hq c2 :: Hq c2 :: Hq c0 :: Hq c2 :: Hq c0 :: (rpN 5 qF [Hq c0, qF, Hq c0])))
  ·obtain rfl := zi aa
   exact yE X0 hC hE (Z1 ++ (rpN 6 (Hq c1) (Hq c0 :: Hq c1 :: Hq c0 :: qF :: qF :: qF :: Hq c0 :: qF :: Hq c0 :: (rpN 5 qF [Hq c0, qF, Hq c0]))))
def WW : Code := (Tryz.f58.body).getD .skip
def qo : yk := spF (α := ze × z6) (ρ := Bool) 58 (fun x => [F9_ x.1, z8B x.2]) (fun r => eB r) (fun x => qg x.1 x.2) [] (Um)
theorem Vh (hC : zL Tryz.prog ctr) (h0w : ctr.Has kl) : qo.Ok Tryz.prog := by
 refine zS ?_
 rintro ⟨x_, x1⟩ r0 aa
 try unfold qg at aa
 refine yO true [(3, none)] WW 8 Tryz.func58 fun E hE => ?_
 obtain ⟨r_, h0, aa⟩ := zm aa
 obtain rfl := zi aa
 exact yE X0 hC hE [Hc h0w (x := (x1, x_)) h0 (loC yj x1 <| loC F9_ x_ <| loN)]
def yP : Code := (Tryz.f73.body).getD .skip
def yM : yk := spF (α := List ze × z6) (ρ := Int) 73 (fun x => [uf x.1, (z28 58 z8B) x.2]) (fun r => (eI .i64) r) (fun x => yn x.1 x.2) [] (by
 rintro ⟨a0, a1⟩ ⟨b0, b1⟩ h
 have e0 := uc.inj (f := uf) _ _ (List.cons.inj h).1
 replace h := (List.cons.inj h).2
 have e1 := uc.inj (f := (z28 58 z8B)) _ _ (List.cons.inj h).1
 subst e0 e1
 rfl)
abbrev up : List (Nat × T) := []
abbrev uo (s_ : List ze) (f_ : z6) (x8 : Int) : List (Nat × T) := [(0, .d (eSl 2 false F9_ s_)), (1, .d (.fn 58 [.sptr (.agg [I f_.Inputs, I f_.Outputs, eSl 1 false uf f_.Rows])])), (7, .d (I ((s_.length : Nat) : Int))), (8, .d (I x8))]
theorem uU (hC : zL Tryz.prog ctr) (h0x : ctr.Has qo) : yM.Ok Tryz.prog := by
 refine zS ?_
 rintro ⟨s_, f_⟩ r0 aa
 try unfold yn at aa
 refine yO true [(4, none)] yP 19 Tryz.func73 fun E hE => ?_
 refine yJ X0 hC yP [1] [] [] (fun z : Unit => yN = some r0) (fun z => up) [(0, .d (eSl 2 false F9_ s_)), (1, .d (.fn 58 [.sptr (.agg [I f_.Inputs, I f_.Outputs, eSl 1 false uf f_.Rows])]))] [Hh (.cut 1)] ?_ fun J1 ay => ?_
 ·rintro ⟨⟩ aa
  unfold yN at aa
  obtain rfl := zi aa
  exact yE X0 hC hE []
 ·obtain ⟨t2, ht2, aa⟩ := zm aa
  refine yL X0 hC yP [1,2,1,0] [J1] (fun s => zQ s_ f_ s) (fun x => uo s_ f_ x) 0 ht2  [Ha (lnM F9_ s_)] ?_
  rintro x8 m2 bg ae hl1 J2 a6
  try unfold zQ at ae
  rcases y8 ae with ⟨c0, ae⟩ | ⟨c0, ae⟩
  ·obtain ⟨dp, h0, ae⟩ := zm ae
   obtain ⟨r_, h1, ae⟩ := zm ae
   let Z0 : List HO := [Hq c0, Hi F9_ h0, Hc h0x (x := (dp, f_)) h1 (loC F9_ dp <| loC z8B f_ <| loN)]
   rcases y8 ae with ⟨c1, ae⟩ | ⟨c1, ae⟩
   ·obtain rfl := zi ae
    obtain rfl := hl1
    obtain rfl := zi aa
    exact yE X0 hC hE (Z0 ++ [Hq c1])
   ·obtain rfl := zi ae
    exact yB X0 hC a6 (w64 (x8 + 1)) hl1 (Z0 ++ [Hq c1])
  ·obtain rfl := zi ae
   obtain rfl := hl1
   exact yB X0 hC ay () aa [Hq c0]
def un : Code := (Tryz.f57.body).getD .skip
def yw : yk := spF (α := List ze × z6) (ρ := Bool) 57 (fun x => [uf x.1, (z28 58 z8B) x.2]) (fun r => eB r) (fun x => zY x.1 x.2) [] (by
 rintro ⟨a0, a1⟩ ⟨b0, b1⟩ h
 have e0 := uc.inj (f := uf) _ _ (List.cons.inj h).1
 replace h := (List.cons.inj h).2
 have e1 := uc.inj (f := (z28 58 z8B)) _ _ (List.cons.inj h).1
 subst e0 e1
 rfl)
theorem uq (hC : zL Tryz.prog ctr) (h0y : ctr.Has yM) : yw.Ok Tryz.prog := by
 refine zS ?_
 rintro ⟨s_, f_⟩ r0 aa
 try unfold zY at aa
 refine yO true [(4, none)] un 9 Tryz.func57 fun E hE => ?_
 obtain ⟨r_, h0, aa⟩ := zm aa
 obtain rfl := zi aa
 exact yE X0 hC hE [Hc h0y (x := (s_, f_)) h0 (loC uf s_ <| loC (z28 58 z8B) f_ <| loN)]
def jD : Code := (Tryz.f43.body).getD .skip
def uB : yk := spF (α := z6) (ρ := Int) 43 (fun x => [yj x]) (fun r => (eI .i64) r) (fun x => u9 x) [] (Kq)
abbrev Wx : List (Nat × T) := []
abbrev Ww (m_ : z6) (gk : Int) : List (Nat × T) := [(1, .d (.sptr (yj m_))), (34, .d (eSl 1 false uf m_.Rows)), (35, .d (I ((m_.Rows.length : Nat) : Int))), (36, .d (I gk))]
theorem UV (hC : zL Tryz.prog ctr) (h0z : ctr.Has yw) : uB.Ok Tryz.prog := by
 refine zS ?_
 rintro m_ r0 aa
 try unfold u9 at aa
 refine yO true [(2, none)] jD 51 Tryz.func43 fun E hE => ?_
 rcases y8 aa with ⟨c0, aa⟩ | ⟨c0, aa⟩
 ·obtain rfl := zi aa
  exact yE X0 hC hE (rpN 4 (Hq c0) (rpN 6 qT []))
 ·let Z0 : List HO := (rpN 4 (Hq c0) [])
  rcases y8 aa with ⟨c1, aa⟩ | ⟨c1, aa⟩
  ·obtain rfl := zi aa
   exact yE X0 hC hE (Z0 ++ (rpN 5 (Hq c1) [qT]))
  ·let Z1 : List HO := (Z0 ++ [Hq c1, Hq c1, Hq c1, Ha (lnM uf m_.Rows), Hq c1, Hq c1])
   rcases y8 aa with ⟨c2, aa⟩ | ⟨c2, aa⟩
   ·obtain rfl := zi aa
    exact yE X0 hC hE (Z1 ++ [Hq c2])
   ·rcases y8 aa with ⟨c3, aa⟩ | ⟨c3, aa⟩
    ·obtain rfl := zi aa
     exact yE X0 hC hE (Z1 ++ (Hq c2 :: (rpN 4 (Hq c3) (rpN 6 qT []))))
    ·let Z2 : List HO := (Z1 ++ (Hq c2 :: (rpN 4 (Hq c3) [])))
     rcases y8 aa with ⟨c4, aa⟩ | ⟨c4, aa⟩
     ·obtain rfl := zi aa
      exact yE X0 hC hE (Z2 ++ (rpN 5 (Hq c4) [qT]))
     ·let Z3 : List HO := (Z2 ++ [Hq c4, Hq c4, Hq c4, Ha (lnM uf m_.Rows), Hq c4, Hq c4])
      rcases y8 aa with ⟨c5, aa⟩ | ⟨c5, aa⟩
      ·obtain rfl := zi aa
       exact yE X0 hC hE (Z3 ++ [Hq c5])
      ·refine yJ X0 hC jD [1,1,1] [] [] (fun z : Unit => jx = some r0) (fun z => Wx) [(1, .own (.box (yj m_)))] (Z3 ++ [Hq c5, Hh (.cut 0)]) ?_ fun J1 ay => ?_
       ·rintro ⟨⟩ aa
        unfold jx at aa
        obtain rfl := zi aa
        exact yE X0 hC hE []
       ·obtain ⟨t2, ht2, aa⟩ := zm aa
        refine yL X0 hC jD [1,1,1,2,1,0] [J1] (fun s => wo m_ s) (fun x => Ww m_ x) 0 ht2  [Ha (lnM uf m_.Rows), Hh (.n 1 [1])] ?_
        rintro gk m2 bg ae hl1 J2 a6
        try unfold wo at ae
        rcases y8 ae with ⟨c6, ae⟩ | ⟨c6, ae⟩
        ·obtain ⟨ar, h0, ae⟩ := zm ae
         let Z4 : List HO := [Hq c6, Hi uf h0, Ha (lnM F9_ ar)]
         rcases y8 ae with ⟨c7, ae⟩ | ⟨c7, ae⟩
         ·obtain rfl := zi ae
          obtain rfl := hl1
          obtain rfl := zi aa
          exact yE X0 hC hE (Z4 ++ (rpN 4 (Hq c7) [qT]))
         ·obtain ⟨r_, h1, ae⟩ := zm ae
          let Z5 : List HO := (Z4 ++ [Hq c7, Hq c7, Hq c7, Hc h0z (x := (ar, m_)) h1 (loC uf ar <| loC (z28 58 z8B) m_ <| loN), Hq c7])
          rcases y8 ae with ⟨c8, ae⟩ | ⟨c8, ae⟩
          ·obtain rfl := zi ae
           obtain rfl := hl1
           obtain rfl := zi aa
           exact yE X0 hC hE (Z5 ++ [Hq c8])
          ·obtain rfl := zi ae
           exact yB X0 hC a6 (w64 (gk + 1)) hl1 (Z5 ++ [Hq c8])
        ·obtain rfl := zi ae
         obtain rfl := hl1
         exact yB X0 hC ay () aa [Hq c6]
def Q1 : Code := (Tryz.f78.body).getD .skip
def kg : yk := spF (α := Int × Int) (ρ := Bool) 78 (fun x => [(eI .i64) x.1, (eSp (eI .i64)) x.2]) (fun r => eB r) (fun x => kA x.1 x.2) [] (Um)
theorem QO (hC : zL Tryz.prog ctr) : kg.Ok Tryz.prog := by
 refine zS ?_
 rintro ⟨c_, x1⟩ r0 aa
 try unfold kA at aa
 refine yO true [(3, none)] Q1 11 Tryz.func78 fun E hE => ?_
 rcases y8 aa with ⟨c0, aa⟩ | ⟨c0, aa⟩
 ·obtain rfl := zi aa
  exact yE X0 hC hE (rpN 4 (Hq c0) [])
 ·obtain rfl := zi aa
  exact yE X0 hC hE (rpN 4 (Hq c0) [])
def wF : Code := (Tryz.f90.body).getD .skip
def wt : yk := spF (α := List Int × Int) (ρ := Int) 90 (fun x => [F7_ x.1, (z28 78 (eSp (eI .i64))) x.2]) (fun r => (eI .i64) r) (fun x => xZ x.1 x.2) [] (by
 rintro ⟨a0, a1⟩ ⟨b0, b1⟩ h
 have e0 := uc.inj (f := F7_) _ _ (List.cons.inj h).1
 replace h := (List.cons.inj h).2
 have e1 := uc.inj (f := (z28 78 (eSp (eI .i64)))) _ _ (List.cons.inj h).1
 subst e0 e1
 rfl)
abbrev jZ : List (Nat × T) := []
abbrev jY (s_ : List Int) (f_ : Int) (x8 : Int) : List (Nat × T) := [(0, .d (eSl 1 false (eI .i64) s_)), (1, .d (.fn 78 [.sptr (I f_)])), (7, .d (I ((s_.length : Nat) : Int))), (8, .d (I x8))]
theorem ZO (hC : zL Tryz.prog ctr) (h0A : ctr.Has kg) : wt.Ok Tryz.prog := by
 refine zS ?_
 rintro ⟨s_, f_⟩ r0 aa
 try unfold xZ at aa
 refine yO true [(4, none)] wF 19 Tryz.func90 fun E hE => ?_
 refine yJ X0 hC wF [1] [] [] (fun z : Unit => wv = some r0) (fun z => jZ) [(0, .d (eSl 1 false (eI .i64) s_)), (1, .d (.fn 78 [.sptr (I f_)]))] [Hh (.cut 1)] ?_ fun J1 ay => ?_
 ·rintro ⟨⟩ aa
  unfold wv at aa
  obtain rfl := zi aa
  exact yE X0 hC hE []
 ·obtain ⟨t2, ht2, aa⟩ := zm aa
  refine yL X0 hC wF [1,2,1,0] [J1] (fun s => yf s_ f_ s) (fun x => jY s_ f_ x) 0 ht2  [Ha (lnM (eI .i64) s_)] ?_
  rintro x8 m2 bg ae hl1 J2 a6
  try unfold yf at ae
  rcases y8 ae with ⟨c0, ae⟩ | ⟨c0, ae⟩
  ·obtain ⟨dp, h0, ae⟩ := zm ae
   obtain ⟨r_, h1, ae⟩ := zm ae
   let Z0 : List HO := [Hq c0, Hi (eI .i64) h0, Hc h0A (x := (dp, f_)) h1 (loC (eI .i64) dp <| loC (eSp (eI .i64)) f_ <| loN)]
   rcases y8 ae with ⟨c1, ae⟩ | ⟨c1, ae⟩
   ·obtain rfl := zi ae
    obtain rfl := hl1
    obtain rfl := zi aa
    exact yE X0 hC hE (Z0 ++ [Hq c1])
   ·obtain rfl := zi ae
    exact yB X0 hC a6 (w64 (x8 + 1)) hl1 (Z0 ++ [Hq c1])
  ·obtain rfl := zi ae
   obtain rfl := hl1
   exact yB X0 hC ay () aa [Hq c0]
def jX : Code := (Tryz.f77.body).getD .skip
def xN : yk := spF (α := List Int × Int) (ρ := Bool) 77 (fun x => [F7_ x.1, (z28 78 (eSp (eI .i64))) x.2]) (fun r => eB r) (fun x => xg x.1 x.2) [] (by
 rintro ⟨a0, a1⟩ ⟨b0, b1⟩ h
 have e0 := uc.inj (f := F7_) _ _ (List.cons.inj h).1
 replace h := (List.cons.inj h).2
 have e1 := uc.inj (f := (z28 78 (eSp (eI .i64)))) _ _ (List.cons.inj h).1
 subst e0 e1
 rfl)
theorem kc (hC : zL Tryz.prog ctr) (h0B : ctr.Has wt) : xN.Ok Tryz.prog := by
 refine zS ?_
 rintro ⟨s_, f_⟩ r0 aa
 try unfold xg at aa
 refine yO true [(4, none)] jX 9 Tryz.func77 fun E hE => ?_
 obtain ⟨r_, h0, aa⟩ := zm aa
 obtain rfl := zi aa
 exact yE X0 hC hE [Hc h0B (x := (s_, f_)) h0 (loC F7_ s_ <| loC (z28 78 (eSp (eI .i64))) f_ <| loN)]
def Ku : Code := (Tryz.f64.body).getD .skip
def Y2 : yk := spF (α := List Int × Int) (ρ := Int) 64 (fun x => [F7_ x.1, (eI .i64) x.2]) (fun r => (eI .i64) r) (fun x => jl x.1 x.2) [] (Um)
theorem z0b (hC : zL Tryz.prog ctr) (h0C : ctr.Has xN) : Y2.Ok Tryz.prog := by
 refine zS ?_
 rintro ⟨w_, inputs⟩ r0 aa
 try unfold jl at aa
 refine yO true [(4, none)] Ku 19 Tryz.func64 fun E hE => ?_
 rcases y8 aa with ⟨c0, aa⟩ | ⟨c0, aa⟩
 ·obtain rfl := zi aa
  exact yE X0 hC hE (rpN 4 (Hq c0) [qT])
 ·let Z0 : List HO := [Hq c0, Hq c0, Ha (lnM (eI .i64) w_), Hq c0, Hq c0]
  rcases y8 aa with ⟨c1, aa⟩ | ⟨c1, aa⟩
  ·obtain rfl := zi aa
   exact yE X0 hC hE (Z0 ++ [Hq c1])
  ·rcases y8 aa with ⟨c2, aa⟩ | ⟨c2, aa⟩
   ·obtain rfl := zi aa
    exact yE X0 hC hE (Z0 ++ (Hq c1 :: (rpN 4 (Hq c2) [qT])))
   ·obtain ⟨r_, h0, aa⟩ := zm aa
    let Z1 : List HO := (Z0 ++ [Hq c1, Hq c2, Hq c2, Hq c2, Hc h0C (x := (w_, inputs)) h0 (loC F7_ w_ <| loC (z28 78 (eSp (eI .i64))) inputs <| loN), Hq c2])
    rcases y8 aa with ⟨c3, aa⟩ | ⟨c3, aa⟩
    ·obtain rfl := zi aa
     exact yE X0 hC hE (Z1 ++ [Hq c3])
    ·obtain rfl := zi aa
     exact yE X0 hC hE (Z1 ++ [Hq c3])
def Yd : Code := (Tryz.f50.body).getD .skip
def jK : yk := spF (α := List (List Int) × Int) (ρ := Int) 50 (fun x => [qA x.1, (eI .i64) x.2]) (fun r => (eI .i64) r) (fun x => jo x.1 x.2) [] (Um)
abbrev Ux : List (Nat × T) := []
abbrev Uw (l_ : List (List Int)) (inputs : Int) (gl : Int) : List (Nat × T) := [(1, .d (I inputs)), (17, .d (eSl 1 false F7_ l_)), (18, .d (I ((l_.length : Nat) : Int))), (19, .d (I gl))]
theorem z0e (hC : zL Tryz.prog ctr) (h0D : ctr.Has Y2) : jK.Ok Tryz.prog := by
 refine zS ?_
 rintro ⟨l_, inputs⟩ r0 aa
 try unfold jo at aa
 refine yO true [(4, none)] Yd 30 Tryz.func50 fun E hE => ?_
 rcases y8 aa with ⟨c0, aa⟩ | ⟨c0, aa⟩
 ·obtain rfl := zi aa
  exact yE X0 hC hE (rpN 4 (Hq c0) [qT])
 ·let Z0 : List HO := [Hq c0, Hq c0, Ha (lnM F7_ l_), Hq c0, Hq c0]
  rcases y8 aa with ⟨c1, aa⟩ | ⟨c1, aa⟩
  ·obtain rfl := zi aa
   exact yE X0 hC hE (Z0 ++ [Hq c1])
  ·rcases y8 aa with ⟨c2, aa⟩ | ⟨c2, aa⟩
   ·obtain rfl := zi aa
    exact yE X0 hC hE (Z0 ++ [Hq c1, Hq c2])
   ·refine yJ X0 hC Yd [1,1,1] [] [] (fun z : Unit => Y1 = some r0) (fun z => Ux) [(0, .d (eSl 1 false F7_ l_)), (1, .d (I inputs))] (Z0 ++ [Hq c1, Hq c2, Hh (.cut 0)]) ?_ fun J1 ay => ?_
    ·rintro ⟨⟩ aa
     unfold Y1 at aa
     obtain rfl := zi aa
     exact yE X0 hC hE []
    ·obtain ⟨t2, ht2, aa⟩ := zm aa
     refine yL X0 hC Yd [1,1,1,2,1,0] [J1] (fun s => u6 l_ inputs s) (fun x => Uw l_ inputs x) 0 ht2  [Ha (lnM F7_ l_)] ?_
     rintro gl m2 bg ae hl1 J2 a6
     try unfold u6 at ae
     rcases y8 ae with ⟨c3, ae⟩ | ⟨c3, ae⟩
     ·obtain ⟨ax, h0, ae⟩ := zm ae
      obtain ⟨r_, h1, ae⟩ := zm ae
      let Z1 : List HO := [Hq c3, Hi F7_ h0, Hc h0D (x := (ax, inputs)) h1 (loC F7_ ax <| loC (eI .i64) inputs <| loN)]
      rcases y8 ae with ⟨c4, ae⟩ | ⟨c4, ae⟩
      ·obtain rfl := zi ae
       obtain rfl := hl1
       obtain rfl := zi aa
       exact yE X0 hC hE (Z1 ++ [Hq c4])
      ·obtain rfl := zi ae
       exact yB X0 hC a6 (w64 (gl + 1)) hl1 (Z1 ++ [Hq c4])
     ·obtain rfl := zi ae
      obtain rfl := hl1
      exact yB X0 hC ay () aa [Hq c3]
def Q4 : Code := (Tryz.f101.body).getD .skip
def km : yk := spF (α := Int) (ρ := Bool) 101 (fun x => [(eI .i64) x]) (fun r => eB r) (fun x => j4 x) [] (Kq)
theorem QX (hC : zL Tryz.prog ctr) : km.Ok Tryz.prog := by
 refine zS ?_
 rintro x_ r0 aa
 try unfold j4 at aa
 refine yO true [(2, none)] Q4 6 Tryz.func101 fun E hE => ?_
 obtain rfl := zi aa
 exact yE X0 hC hE []
def VE : Code := (Tryz.f82.body).getD .skip
def uh : yk := spF (α := Int × Int) (ρ := Int) 82 (fun x => [(eI .i64) x.1, (eI .i64) x.2]) (fun r => (eI .i64) r) (fun x => vG x.1 x.2) [] (Um)
theorem VZ (hC : zL Tryz.prog ctr) (h0m : ctr.Has km) : uh.Ok Tryz.prog := by
 refine zS ?_
 rintro ⟨x_, y_⟩ r0 aa
 try unfold vG at aa
 refine yO true [(4, none)] VE 20 Tryz.func82 fun E hE => ?_
 obtain ⟨r_, h0, aa⟩ := zm aa
 obtain ⟨ah, h1, aa⟩ := zm aa
 let Z0 : List HO := [Hc h0m (x := x_) h0 (loC (eI .i64) x_ <| loN), Hc h0m (x := y_) h1 (loC (eI .i64) y_ <| loN)]
 rcases y8 aa with ⟨c0, aa⟩ | ⟨c0, aa⟩
 ·rcases y8 aa with ⟨c1, aa⟩ | ⟨c1, aa⟩
  ·obtain rfl := zi aa
   exact yE X0 hC hE (Z0 ++ [Hq c0, Hq c1])
  ·obtain rfl := zi aa
   exact yE X0 hC hE (Z0 ++ [Hq c0, Hq c1])
 ·rcases y8 aa with ⟨c2, aa⟩ | ⟨c2, aa⟩
  ·obtain rfl := zi aa
   exact yE X0 hC hE (Z0 ++ [Hq c0, Hq c2])
  ·rcases y8 aa with ⟨c3, aa⟩ | ⟨c3, aa⟩
   ·obtain rfl := zi aa
    exact yE X0 hC hE (Z0 ++ [Hq c0, Hq c2, Hq c3])
   ·rcases y8 aa with ⟨c4, aa⟩ | ⟨c4, aa⟩
    ·obtain rfl := zi aa
     exact yE X0 hC hE (Z0 ++ [Hq c0, Hq c2, Hq c3, Hq c4])
    ·obtain rfl := zi aa
     exact yE X0 hC hE (Z0 ++ [Hq c0, Hq c2, Hq c3, Hq c4])
def vo : Code := (Tryz.f83.body).getD .skip
def vb : yk := spF (α := List Int × List Int) (ρ := Int) 83 (fun x => [F7_ x.1, F7_ x.2]) (fun r => (eI .i64) r) (fun x => xz x.1 x.2) [] (Um)
abbrev kX (s1 : List Int) (s2 : List Int) : List (Nat × T) := [(0, .d (eSl 1 false (eI .i64) s1)), (1, .d (eSl 1 false (eI .i64) s2))]
abbrev kW (s1 : List Int) (s2 : List Int) (dw : Int) : List (Nat × T) := [(0, .d (eSl 1 false (eI .i64) s1)), (1, .d (eSl 1 false (eI .i64) s2)), (9, .d (eSl 1 false (eI .i64) s1)), (10, .d (I ((s1.length : Nat) : Int))), (11, .d (I dw))]
theorem Yk (hC : zL Tryz.prog ctr) (h0d : ctr.Has uh) : vb.Ok Tryz.prog := by
 refine zS ?_
 rintro ⟨s1, s2⟩ r0 aa
 try unfold xz at aa
 refine yO true [(4, none)] vo 36 Tryz.func83 fun E hE => ?_
 refine yJ X0 hC vo [1] [] [0,1] (fun z : Unit => xM s1 s2 = some r0) (fun z => kX s1 s2) [(0, .d (eSl 1 false (eI .i64) s1)), (1, .d (eSl 1 false (eI .i64) s2))] [Hh (.cut 1)] ?_ fun J1 ay => ?_
 ·rintro ⟨⟩ aa
  unfold xM at aa
  let Z0 : List HO := [Ha (lnM (eI .i64) s1), Ha (lnM (eI .i64) s2)]
  rcases y8 aa with ⟨c0, aa⟩ | ⟨c0, aa⟩
  ·obtain rfl := zi aa
   exact yE X0 hC hE (Z0 ++ [Hq c0])
  ·obtain rfl := zi aa
   exact yE X0 hC hE (Z0 ++ [Hq c0])
 ·obtain ⟨t2, ht2, aa⟩ := zm aa
  refine yL X0 hC vo [1,2,1,0] [J1] (fun s => yo s1 s2 s) (fun x => kW s1 s2 x) 0 ht2  [Ha (lnM (eI .i64) s1)] ?_
  rintro dw m2 bg ae hl1 J2 a6
  try unfold yo at ae
  rcases y8 ae with ⟨c1, ae⟩ | ⟨c1, ae⟩
  ·obtain ⟨gm, h0, ae⟩ := zm ae
   let Z1 : List HO := [Hq c1, Hi (eI .i64) h0, Ha (lnM (eI .i64) s2)]
   rcases y8 ae with ⟨c2, ae⟩ | ⟨c2, ae⟩
   ·obtain rfl := zi ae
    obtain rfl := hl1
    obtain rfl := zi aa
    exact yE X0 hC hE (Z1 ++ [Hq c2])
   ·obtain ⟨fw, h1, ae⟩ := zm ae
    obtain ⟨r_, h2, ae⟩ := zm ae
    let Z2 : List HO := (Z1 ++ [Hq c2, Hi (eI .i64) h1, Hc h0d (x := (gm, fw)) h2 (loC (eI .i64) gm <| loC (eI .i64) fw <| loN)])
    rcases y8 ae with ⟨c3, ae⟩ | ⟨c3, ae⟩
    ·obtain rfl := zi ae
     obtain rfl := hl1
     obtain rfl := zi aa
     exact yE X0 hC hE (Z2 ++ [Hq c3])
    ·obtain rfl := zi ae
     exact yB X0 hC a6 (w64 (dw + 1)) hl1 (Z2 ++ [Hq c3])
  ·obtain rfl := zi ae
   obtain rfl := hl1
   exact yB X0 hC ay () aa [Hq c1]
def Xe : Code := (Tryz.f81.body).getD .skip
def YS : yk := spF (α := List Int) (ρ := Int) 81 (fun x => [F7_ x]) (fun r => (eI .i64) r) (fun x => Yy x) [] (Kq)
abbrev Qw : List (Nat × T) := [(3, .d (I 0))]
abbrev Qv (vals : List Int) (x8 : Int) : List (Nat × T) := [(3, .d (I 0)), (6, .d (eSl 1 false (eI .i64) vals)), (7, .d (I ((vals.length : Nat) : Int))), (8, .d (I x8))]
theorem z1h (hC : zL Tryz.prog ctr) : YS.Ok Tryz.prog := by
 refine zS ?_
 rintro vals r0 aa
 try unfold Yy at aa
 refine yO true [(2, none)] Xe 18 Tryz.func81 fun E hE => ?_
 refine yJ X0 hC Xe [1,1] [] [3] (fun z : Unit => kU = some r0) (fun z => Qw) [(0, .d (eSl 1 false (eI .i64) vals)), (3, .d (I 0))] [Hh (.cut 2)] ?_ fun J1 ay => ?_
 ·rintro ⟨⟩ aa
  unfold kU at aa
  obtain rfl := zi aa
  exact yE X0 hC hE []
 ·obtain ⟨t2, ht2, aa⟩ := zm aa
  refine yL X0 hC Xe [1,1,2,1,0] [J1] (fun s => uL vals s) (fun x => Qv vals x) 0 ht2  [Ha (lnM (eI .i64) vals)] ?_
  rintro x8 m2 bg ae hl1 J2 a6
  try unfold uL at ae
  rcases y8 ae with ⟨c0, ae⟩ | ⟨c0, ae⟩
  ·obtain ⟨gu, h0, ae⟩ := zm ae
   rcases y8 ae with ⟨c1, ae⟩ | ⟨c1, ae⟩
   ·obtain rfl := zi ae
    obtain rfl := hl1
    obtain rfl := zi aa
    exact yE X0 hC hE [Hq c0, Hi (eI .i64) h0, Hq c1]
   ·obtain rfl := zi ae
    exact yB X0 hC a6 (w64 (x8 + 1)) hl1 [Hq c0, Hi (eI .i64) h0, Hq c1]
  ·obtain rfl := zi ae
   obtain rfl := hl1
   exact yB X0 hC ay () aa [Hq c0]
def Q0 : Code := (Tryz.f67.body).getD .skip
def vW : yk := spF (α := List Int × List Int) (ρ := Int) 67 (fun x => [F7_ x.1, F7_ x.2]) (fun r => (eI .i64) r) (fun x => vK x.1 x.2) [] (Um)
theorem QN (hC : zL Tryz.prog ctr) (h0d : ctr.Has uh) (h0E : ctr.Has vb) (h0n : ctr.Has YS) : vW.Ok Tryz.prog := by
 refine zS ?_
 rintro ⟨a_, b_⟩ r0 aa
 try unfold vK at aa
 refine yO true [(4, none)] Q0 15 Tryz.func67 fun E hE => ?_
 obtain ⟨r_, h0, aa⟩ := zm aa
 obtain ⟨ah, h1, aa⟩ := zm aa
 obtain ⟨am, h2, aa⟩ := zm aa
 obtain rfl := zi aa
 exact yE X0 hC hE [Ha (lnM (eI .i64) a_), Ha (lnM (eI .i64) b_), Hc h0d (x := (((a_.length : Nat) : Int), ((b_.length : Nat) : Int))) h0 (loC (eI .i64) ((a_.length : Nat) : Int) <| loC (eI .i64) ((b_.length : Nat) : Int) <| loN), Hc h0E (x := (a_, b_)) h1 (loC F7_ a_ <| loC F7_ b_ <| loN), Hg (Kr h0n), Hm (shM (eI .i64) (eI .i64) ([r_, ah])), Hs (Ks h0n (x := [r_, ah]) h2 (loC F2_ ([r_, ah] : List Int) <| loN))]
def Ye : Code := (Tryz.f60.body).getD .skip
def Y4 : yk := spF (α := List (List Int)) (ρ := Bool) 60 (fun x => [qA x]) (fun r => eB r) (fun x => Zf x) [] (Kq)
abbrev Uz : List (Nat × T) := []
abbrev Uy (l_ : List (List Int)) (i_ : Int) : List (Nat × T) := [(0, .d (eSl 1 false F7_ l_)), (3, .d (I i_))]
theorem z0f (hC : zL Tryz.prog ctr) (h09 : ctr.Has vW) : Y4.Ok Tryz.prog := by
 refine zS ?_
 rintro l_ r0 aa
 try unfold Zf at aa
 refine yO true [(2, none)] Ye 21 Tryz.func60 fun E hE => ?_
 refine yJ X0 hC Ye [1] [] [] (fun z : Unit => jI = some r0) (fun z => Uz) [(0, .d (eSl 1 false F7_ l_))] [Hh (.cut 1)] ?_ fun J1 ay => ?_
 ·rintro ⟨⟩ aa
  unfold jI at aa
  obtain rfl := zi aa
  exact yE X0 hC hE []
 ·obtain ⟨t2, ht2, aa⟩ := zm aa
  refine yL X0 hC Ye [1,2,1,0] [J1] (fun s => u7 l_ s) (fun x => Uy l_ x) 1 ht2  [] ?_
  rintro i_ m2 bg ae hl1 J2 a6
  try unfold u7 at ae
  let Z0 : List HO := [Ha (lnM F7_ l_)]
  rcases y8 ae with ⟨c0, ae⟩ | ⟨c0, ae⟩
  ·obtain ⟨ax, h0, ae⟩ := zm ae
   obtain ⟨co, h1, ae⟩ := zm ae
   obtain ⟨r_, h2, ae⟩ := zm ae
   let Z1 : List HO := (Z0 ++ [Hq c0, Hi F7_ h0, Hi F7_ h1, Hc h09 (x := (ax, co)) h2 (loC F7_ ax <| loC F7_ co <| loN)])
   rcases y8 ae with ⟨c1, ae⟩ | ⟨c1, ae⟩
   ·obtain rfl := zi ae
    obtain rfl := hl1
    obtain rfl := zi aa
    exact yE X0 hC hE (Z1 ++ [Hq c1])
   ·obtain rfl := zi ae
    exact yB X0 hC a6 (w64 (i_ + 1)) hl1 (Z1 ++ [Hq c1])
  ·obtain rfl := zi ae
   obtain rfl := hl1
   exact yB X0 hC ay () aa (Z0 ++ [Hq c0])
def Yc : Code := (Tryz.f61.body).getD .skip
def jJ : yk := spF (α := List (List Int)) (ρ := Int) 61 (fun x => [qA x]) (fun r => (eI .i64) r) (fun x => jn x) [] (Kq)
abbrev Uv (n_ : Int) : List (Nat × T) := [(2, .d (I n_))]
abbrev Uu (l_ : List (List Int)) (dt : Int) (x7 : Int) : List (Nat × T) := [(2, .d (I dt)), (5, .d (eSl 1 false F7_ l_)), (6, .d (I ((l_.length : Nat) : Int))), (7, .d (I x7))]
theorem z0d (hC : zL Tryz.prog ctr) : jJ.Ok Tryz.prog := by
 refine zS ?_
 rintro l_ r0 aa
 try unfold jn at aa
 refine yO true [(2, none)] Yc 17 Tryz.func61 fun E hE => ?_
 refine yJ X0 hC Yc [1] [] [2] (fun z : Int => Y0 z = some r0) (fun z => Uv z) [(0, .d (eSl 1 false F7_ l_)), (2, .d (I 0))] [Hh (.cut 1)] ?_ fun J1 ay => ?_
 ·rintro n_ aa
  unfold Y0 at aa
  obtain rfl := zi aa
  exact yE X0 hC hE []
 ·obtain ⟨t2, ht2, aa⟩ := zm aa
  refine yL X0 hC Yc [1,2,1,0] [J1] (fun s => u4 l_ s.1 s.2) (fun x => Uu l_ x.1 x.2) (0,0) ht2  [Ha (lnM F7_ l_)] ?_
  rintro ⟨dt, x7⟩ m2 bg ae hl1 J2 a6
  try unfold u4 at ae
  rcases y8 ae with ⟨c0, ae⟩ | ⟨c0, ae⟩
  ·obtain ⟨ax, h0, ae⟩ := zm ae
   obtain rfl := zi ae
   exact yB X0 hC a6 (w64 (dt + ((ax.length : Nat) : Int)), w64 (x7 + 1)) hl1 [Hq c0, Hi F7_ h0, Ha (lnM (eI .i64) ax)]
  ·obtain rfl := zi ae
   obtain rfl := hl1
   exact yB X0 hC ay dt aa [Hq c0]
def Kv : Code := (Tryz.f44.body).getD .skip
def Y5 : yk := spF (α := List (List Int) × Int) (ρ := Int) 44 (fun x => [qA x.1, (eI .i64) x.2]) (fun r => (eI .i64) r) (fun x => Zg x.1 x.2) [] (Um)
theorem z0g (hC : zL Tryz.prog ctr) (h0e : ctr.Has jK) (h0F : ctr.Has Y4) (h0b : ctr.Has jJ) : Y5.Ok Tryz.prog := by
 refine zS ?_
 rintro ⟨l_, inputs⟩ r0 aa
 try unfold Zg at aa
 refine yO true [(4, none)] Kv 18 Tryz.func44 fun E hE => ?_
 obtain ⟨r_, h0, aa⟩ := zm aa
 let Z0 : List HO := [Hc h0e (x := (l_, inputs)) h0 (loC qA l_ <| loC (eI .i64) inputs <| loN)]
 rcases y8 aa with ⟨c0, aa⟩ | ⟨c0, aa⟩
 ·obtain rfl := zi aa
  exact yE X0 hC hE (Z0 ++ [Hq c0])
 ·obtain ⟨ah, h1, aa⟩ := zm aa
  let Z1 : List HO := (Z0 ++ [Hq c0, Hc h0F (x := l_) h1 (loC qA l_ <| loN)])
  rcases y8 aa with ⟨c1, aa⟩ | ⟨c1, aa⟩
  ·obtain rfl := zi aa
   exact yE X0 hC hE (Z1 ++ [Hq c1])
  ·obtain ⟨am, h2, aa⟩ := zm aa
   let Z2 : List HO := (Z1 ++ [Hq c1, Hc h0b (x := l_) h2 (loC qA l_ <| loN)])
   rcases y8 aa with ⟨c2, aa⟩ | ⟨c2, aa⟩
   ·obtain rfl := zi aa
    exact yE X0 hC hE (Z2 ++ [Hq c2])
   ·obtain rfl := zi aa
    exact yE X0 hC hE (Z2 ++ [Hq c2])
def VA : Code := (Tryz.f23.body).getD .skip
def xY : yk := spF (α := z6 × List (List Int)) (ρ := Int) 23 (fun x => [yj x.1, qA x.2]) (fun r => (eI .i64) r) (fun x => xW x.1 x.2) [] (Um)
theorem VU (hC : zL Tryz.prog ctr) (h0f : ctr.Has uB) (h0G : ctr.Has Y5) : xY.Ok Tryz.prog := by
 refine zS ?_
 rintro ⟨m_, l_⟩ r0 aa
 try unfold xW at aa
 refine yO true [(4, none)] VA 15 Tryz.func23 fun E hE => ?_
 obtain ⟨r_, h0, aa⟩ := zm aa
 let Z0 : List HO := [Hc h0f (x := m_) h0 (loC yj m_ <| loN)]
 rcases y8 aa with ⟨c0, aa⟩ | ⟨c0, aa⟩
 ·obtain rfl := zi aa
  exact yE X0 hC hE (Z0 ++ [Hq c0])
 ·obtain ⟨ah, h1, aa⟩ := zm aa
  obtain rfl := zi aa
  exact yE X0 hC hE (Z0 ++ [Hq c0, Hc h0G (x := (l_, m_.Inputs)) h1 (loC qA l_ <| loC (eI .i64) m_.Inputs <| loN)])
def Uq : Code := (Tryz.f75.body).getD .skip
def jp : yk := spF (α := z6 × Int) (ρ := z6 × Int) 75 (fun x => [yj x.1, (eI .i64) x.2]) (fun r => (zis 85 z8B (eSp (eI .i64))) r) (fun x => jG x.1 x.2) [] (Um)
theorem US (hC : zL Tryz.prog ctr) : jp.Ok Tryz.prog := by
 refine zS ?_
 rintro ⟨m_, from_⟩ r0 aa
 try unfold jG at aa
 refine yO true [(4, none)] Uq 6 Tryz.func75 fun E hE => ?_
 obtain rfl := zi aa
 exact yEx X0 hC hE [] (.fn 85 [.sptr (.agg [I m_.Inputs, I m_.Outputs, eSl 1 false uf m_.Rows]), .sptr (I from_)]) (show LeV (.fn 85 [.sptr (.agg [I m_.Inputs, I m_.Outputs, eSl 1 false uf m_.Rows]), .sptr (I from_)]) (.fn 85 [.sptr (.agg [I (((m_, from_).1).Inputs), I (((m_, from_).1).Outputs), eSl 1 false uf (((m_, from_).1).Rows)]), .sptr (I ((m_, from_).2))]) from inferInstance)
def xa : Code := (Tryz.f85.body).getD .skip
abbrev Xt (x0 : z6) (YY : σ → z30) (a7 : zj) (yr : σ × Bool) (ar : List ze) (dc : Int) (fx : List Bool) (fk : List zj) : List (Nat × T) := [(0, .own (.opq (YY yr.1).q)), (1, .d (.sptr (yj x0))), (4, .own (eOs 1 true eB fx)), (5, .own (eDq 3 qI fk)), (6, .own (.box (qI a7))), (36, .d (eSl 2 false F9_ ar)), (37, .d (I ((ar.length : Nat) : Int))), (38, .d (I dc))]
abbrev Xr (x0 : z6) (YY : σ → z30) (a7 : zj) (yr : σ × Bool) (ar : List ze) (da : List Bool) (cb : List zj) (dc : Int) : List (Nat × T) := [(0, .own (.opq (YY yr.1).q)), (1, .d (.sptr (yj x0))), (4, .own (eOs 1 true eB da)), (5, .own (eDq 3 qI cb)), (6, .own (.box (qI a7))), (36, .d (eSl 2 false F9_ ar)), (37, .d (I ((ar.length : Nat) : Int))), (38, .d (I dc))]
abbrev Xs (x0 : z6) (YY : σ → z30) (fh : σ) (fl : List Bool) (bj : List zj) : List (Nat × T) := [(0, .own (.opq (YY fh).q)), (1, .d (.sptr (yj x0))), (4, .own (eOs 1 true eB fl)), (5, .own (eDq 3 qI bj))]
theorem Vg (hC : zL Tryz.prog ctr) (x0 : z6) (x1 : Int) : z8z Tryz.prog (.fn 85 [.sptr (.agg [I x0.Inputs, I x0.Outputs, eSl 1 false uf x0.Rows]), .sptr (I x1)]) (fun (x : zj) (_ : Bool) (_ : Value) => [qI x]) (@vV x0 x1) := by
 refine zaP (tt := wq) (nt := 68) (body := xa) zC Tryz.func85 rfl (by kernel_rfl) rfl rfl (by show (3 : Nat) ≤ 68; decide) ?_
 intro σ yv YY yy hy sg r0 aa E hE
 unfold vV at aa
 obtain ⟨g0, aa⟩ := gdE aa
 obtain ⟨iw, h0, aa⟩ := zm aa
 obtain ⟨t1, ht1, aa⟩ := zm aa
 refine yLx X0 hC xa [1,1,1,0] [] (fun s => wr x0 yy s.1 s.2.1 s.2.2) (fun x => Xs x0 YY x.1 x.2.1 x.2.2) (sg, ((List.replicate ((x0.Rows.length : Nat) : Int).toNat false).set x1.toNat true), ([(zj.mk x1 (-1) (-1))] : List zj)) ht1 [(0, .own (.opq (YY sg).q)), (1, .d (.sptr (yj x0))), (4, .own (eOs 1 true eB ((List.replicate ((x0.Rows.length : Nat) : Int).toNat false).set x1.toNat true))), (5, .own (eOs 3 true qI ([(zj.mk x1 (-1) (-1))])))] inferInstance [Ha (lnM uf x0.Rows), Hn (rL g0), Ha (rM 1 eB ((x0.Rows.length : Nat) : Int) false), Hn (iL eB h0), Hs (iM eB h0), Hs (iM eB h0), Hl (sM eB (List.replicate ((x0.Rows.length : Nat) : Int).toNat false) x1 true)] ?_
 rintro ⟨fh, fl, bj⟩ m1 bg ae hl1 J1 ay
 try unfold wr at ae
 let Z0 : List HO := [Hn (rfl : eDq 3 qI bj = A.opq (Ju 3 (bj.map qI)).q), Ha (lnM qI bj)]
 rcases y8 ae with ⟨c0, ae⟩ | ⟨c0, ae⟩
 ·refine yA ((xQl zC 20 149 3 (bj.map qI) (by kernel_rfl)).or X0) hC xa [1,1,1,0,0,1,0] [J1] [(0, .own (.opq (YY fh).q)), (1, .d (.sptr (yj x0))), (4, .own (eOs 1 true eB fl)), (5, .own (eDq 3 qI bj))] (Z0 ++ [Hq c0, Hh (.cut 0)]) ?_
  obtain ⟨a7, h1, ae⟩ := zm ae
  refine z2f (by kernel_rfl) (x := (sub [1,1,1,0,0,1,0,0] xa)) (y := (sub [1,1,1,0,0,1,0,1] xa)) 5 (fun st1 => Own.canon [0,1,4,5,6] st1 = ofL [(0, .own (.opq (YY fh).q)), (1, .d (.sptr (yj x0))), (4, .own (eOs 1 true eB fl)), (5, .own (eDq 3 qI bj)), (6, .own (.box (qI a7)))]) (fun ga => yF ((xQd zC 24 3 5 ga (0 : Int) (bj.map qI) (qI a7)).or ((xQi zC 23 3 5 ga (bj.map qI)).or X0)) hC .normal [(0, .own (.opq (YY fh).q)), (1, .d (.sptr (yj x0))), (4, .own (eOs 1 true eB fl)), (5, .own (eDq 3 qI bj)), (6, .own (.box (qI a7)))] [Hn (⟨rfl, rfl, rfl, rfl, i0 h1, (iL qI h1).2⟩ : T.als 5 [] 0 0 = T.als 5 [] 0 0 ∧ some ga = some ga ∧ T.own (eDq 3 qI bj) = T.own (eDq 3 qI bj) ∧ some 3 = some 3 ∧ (0 : Int) ≤ 0 ∧ (0 : Int).toNat < (bj.map qI).length), Hn (⟨rfl, rfl, rfl, iM qI h1, rfl, Vf.isD a7⟩ : T.d (.atom (z4h 3 ga (0 : Int))) = T.d (.atom (z4h 3 ga (0 : Int))) ∧ some ga = some ga ∧ T.own (eDq 3 qI bj) = T.own (eDq 3 qI bj) ∧ (bj.map qI)[(0 : Int).toNat]? = some (qI a7) ∧ true = true ∧ (qI a7).isD = true)] fun st0 h0 => ⟨rfl, h0⟩) fun st1 h1 => z6r h1 ?_
  obtain ⟨g1, ae⟩ := gdE ae
  obtain ⟨yr, h2, ae⟩ := zm ae
  let Z1 : List HO := [Hn (rfl : eDq 3 qI bj = A.opq (Ju 3 (bj.map qI)).q), Hn (⟨g1.1, cuB qI g1⟩ : (0 : Int) ≤ 1 ∧ (1 : Int).toNat ≤ (bj.map qI).length), Hn (drM qI bj (1 : Int).toNat), Hn (za5 (yv := yv) (Y := YY) (enc := (fun (x : zj) (_ : Bool) (_ : Value) => [qI x])) (s := fh) (x := a7) (s' := yr.1) (b := yr.2) (v := .nilFunc) [qI a7] (show VS [qI a7] [qI a7] from inferInstance))]
  rcases y8 ae with ⟨c1, ae⟩ | ⟨c1, ae⟩
  ·obtain rfl := zi ae
   obtain rfl := hl1
   obtain rfl := zi aa
   exact yF ((z8D (P := Tryz.prog) wq hy 29 (s := fh) (x := a7) (s' := yr.1) (b := yr.2) .nilFunc h2).or ((xQs zC 26 3 (bj.map qI) ((bj.drop (1 : Int).toNat).map qI)).or X0)) hC .ret [(0, .own (.opq (YY yr.1).q))] (Z1 ++ [Hq c1]) fun st0 h0 => hE _ st0 (.inr rfl) h0
  ·obtain ⟨ar, h3, ae⟩ := zm ae
   obtain ⟨t2, ht2, ae⟩ := zm ae
   refine yL ((z8D (P := Tryz.prog) wq hy 29 (s := fh) (x := a7) (s' := yr.1) (b := yr.2) .nilFunc h2).or ((xQs zC 26 3 (bj.map qI) ((bj.drop (1 : Int).toNat).map qI)).or X0)) hC xa [1,1,1,0,0,1,0,1,1,1,1,0] [J1] (fun s => xG a7 yr ar s.1 s.2.1 s.2.2) (fun x => Xr x0 YY a7 yr ar x.1 x.2.1 x.2.2) (fl, (bj.drop (1 : Int).toNat), 0) ht2  (Z1 ++ [Hq c1, Hi uf h3, Ha (lnM F9_ ar)]) ?_
   rintro ⟨da, cb, dc⟩ m2 ff ai hl2 J2 a6
   try unfold xG at ai
   rcases y8 ai with ⟨c2, ai⟩ | ⟨c2, ai⟩
   ·refine yJ X0 hC xa [1,1,1,0,0,1,0,1,1,1,1,0,0,1,1] [J1, J2] [0,1,4,5,6,36,37,38] (fun z : List Bool × List zj => yz dc z.1 z.2 = some ff) (fun z => Xt x0 YY a7 yr ar dc z.1 z.2) [(0, .own (.opq (YY yr.1).q)), (1, .d (.sptr (yj x0))), (4, .own (eOs 1 true eB da)), (5, .own (eDq 3 qI cb)), (6, .own (.box (qI a7))), (36, .d (eSl 2 false F9_ ar)), (37, .d (I ((ar.length : Nat) : Int))), (38, .d (I dc))] [Hq c2, Hh (.cut 0)] ?_ fun J3 ce => ?_
    ·rintro ⟨fx, fk⟩ ai
     unfold yz at ai
     obtain rfl := zi ai
     exact yB X0 hC a6 (fx, fk, w64 (dc + 1)) hl2 []
    ·obtain ⟨ak, h4, ai⟩ := zm ai
     let Z2 : List HO := [Hi F9_ h4]
     rcases y8 ai with ⟨c3, ai⟩ | ⟨c3, ai⟩
     ·obtain ⟨gw, h5, ai⟩ := zm ai
      let Z3 : List HO := (Z2 ++ (rpN 4 (Hq c3) [Hn (iL eB h5), Hq c3, Hs (iM eB h5), Hq c3, Hq c3]))
      rcases y8 ai with ⟨c4, ai⟩ | ⟨c4, ai⟩
      ·obtain ⟨im, h6, ai⟩ := zm ai
       obtain ⟨g2, ai⟩ := gdE ai
       exact yB ((xQa zC 66 3 (cb.map qI) ((cb ++ ([(zj.mk ak.To a7.state_ dc)] : List zj)).map qI)).or X0) hC ce ((da.set ak.To.toNat true), (cb ++ ([(zj.mk ak.To a7.state_ dc)] : List zj))) ai (Z3 ++ [Hq c4, Hn (iL eB h6), Hs (iM eB h6), Hs (iM eB h6), Hl (sM eB da ak.To true), Hn (⟨rfl, dM qI ([(zj.mk ak.To a7.state_ dc)] : List zj), rfl⟩ : 3 = 3 ∧ A.areD (([(zj.mk ak.To a7.state_ dc)] : List zj).map qI) = true ∧ true = true), Hn (⟨rfl, aL qI qI g2, dM qI cb⟩ : eDq 3 qI cb = A.opq (Ju 3 (cb.map qI)).q ∧ (cb.map qI).length + (([(zj.mk ak.To a7.state_ dc)] : List zj).map qI).length ≤ lim ∧ A.areD (cb.map qI) = true), Hn (aM qI cb ([(zj.mk ak.To a7.state_ dc)] : List zj))])
      ·exact yB X0 hC ce (da, cb) ai (Z3 ++ [Hq c4])
     ·exact yB X0 hC ce (da, cb) ai (Z2 ++ (rpN 7 (Hq c3) [qF]))
   ·obtain rfl := zi ai
    obtain rfl := hl2
    obtain rfl := zi ae
    exact yB X0 hC ay (yr.1, da, cb) hl1 [Hq c2]
 ·obtain rfl := zi ae
  obtain rfl := hl1
  obtain rfl := zi aa
  exact yF ((xQl zC 20 149 3 (bj.map qI) (by kernel_rfl)).or X0) hC .normal [(0, .own (.opq (YY fh).q))] (Z0 ++ [Hq c0]) fun st0 h0 => hE _ st0 (.inl rfl) h0
def X8 : Code := (Tryz.f31.body).getD .skip
def yl : yk := spF (α := List Int) (ρ := List Int) 31 (fun x => [F7_ x]) (fun r => F6_ r) (fun x => zU x) [] (Kq)
theorem Xo (hC : zL Tryz.prog ctr) : yl.Ok Tryz.prog := by
 refine zS ?_
 rintro s_ r0 aa
 try unfold zU at aa
 refine yO true [(2, none)] X8 8 Tryz.func31 fun E hE => ?_
 refine z2X rfl 0 (sz := 1) (t := false) (es := s_.map (eI .i64)) (by kernel_rfl) fun az hv0 hn => ?_
 rcases hn with ⟨hn0, he0⟩ | hn0
 ·obtain ⟨_, aa⟩ := gdE aa
  rw [show s_ = [] from List.map_eq_nil_iff.1 he0] at aa
  obtain rfl := zi aa
  exact yEx ((zbs zC 4 51 (by kernel_rfl) hn0).or ((xMv Tryz.prog 3 0 az hv0).or X0)) hC hE [Hn (rfl : some az = some az), Hn (⟨rfl, rfl⟩ : T.d (.atom az) = T.d (.atom az) ∧ T.d (.atom (.slice none 0 0)) = T.d (.atom (.slice none 0 0))), qT] (eOs 1 true (eI .i64) []) (show LeV (eOs 1 true (eI .i64) []) (eOs 1 false (eI .i64) ([] : List Int)) from inferInstance)
 ·obtain ⟨g0, aa⟩ := gdE aa
  obtain rfl := zi aa
  exact yE ((zbs zC 4 51 (by kernel_rfl) hn0).or ((xMv Tryz.prog 3 0 az hv0).or X0)) hC hE [Hn (rfl : some az = some az), Hn (⟨rfl, rfl⟩ : T.d (.atom az) = T.d (.atom az) ∧ T.d (.atom (.slice none 0 0)) = T.d (.atom (.slice none 0 0))), qF, Hn (dM (eI .i64) s_), Hn (aL (eI .i64) (eI .i64) g0), Hl (aM0 (eI .i64) s_)]
def Xq : Code := (Tryz.f30.body).getD .skip
def yp : yk := spF (α := List Int) (ρ := List Int) 30 (fun x => [F7_ x]) (fun r => F2_ r) (fun x => y3 x) [] (Kq)
theorem XG (hC : zL Tryz.prog ctr) : yp.Ok Tryz.prog := by
 refine zS ?_
 rintro s_ r0 aa
 try unfold y3 at aa
 refine yO true [(2, none)] Xq 9 Tryz.func30 fun E hE => ?_
 obtain ⟨g0, aa⟩ := gdE aa
 obtain rfl := zi aa
 exact yE X0 hC hE [Ha (lnM (eI .i64) s_), Ha (lnM (eI .i64) s_), Hn (slB g0), Hn (slC g0), Hn (zc7 (eI .i64) g0), Ha (zh7 1 (eI .i64) s_ 0 ((s_.length : Nat) : Int).toNat)]
def ub : Code := (Tryz.f62.body).getD .skip
def Y3 : yk := spF (α := z6 × Int) (ρ := List (List Int) × List Bool) 62 (fun x => [yj x.1, (eI .i64) x.2]) (fun r => .tup [z32 r.1, (eSl 1 true eB) r.2]) (fun x => Zb x.1 x.2) [] (Um)
abbrev Ut (l_ : List (List Int)) (is : List Bool) : List (Nat × T) := [(6, .own (.box (eOs 1 true F2_ l_))), (7, .own (.box (eOs 1 true eB is)))]
abbrev jE (r_ : z6 × Int) (bl : List (List Int)) (cm : List Bool) : List (Nat × T) := [(6, .own (.box (eOs 1 true F2_ bl))), (7, .own (.box (eOs 1 true eB cm))), (19, .d (.fn 85 [.sptr (.agg [I r_.1.Inputs, I r_.1.Outputs, eSl 1 false uf r_.1.Rows]), .sptr (I r_.2)]))]
theorem z0c (hC : zL Tryz.prog ctr) (h0H : ctr.Has jp) (h01 : ctr.Has yl) (h00 : ctr.Has yp) : Y3.Ok Tryz.prog := by
 refine zS ?_
 rintro ⟨m_, from_⟩ r0 aa
 try unfold Zb at aa
 refine yO false [(4, none), (5, none)] ub 45 Tryz.func62 fun E hE => ?_
 obtain ⟨g0, aa⟩ := gdE aa
 obtain ⟨g1, aa⟩ := gdE aa
 refine yJ ((xMs zC 12 51).or X0) hC ub [1,1] [] [6,7] (fun z : List (List Int) × List Bool => jF z.1 z.2 = some r0) (fun z => Ut z.1 z.2) [(1, .d (I from_)), (2, .own (.box (yj m_))), (6, .own (.box (eOs 1 true F2_ (List.replicate ((m_.Rows.length : Nat) : Int).toNat ([] : List Int))))), (7, .own (.box (eOs 1 true eB (List.replicate ((m_.Rows.length : Nat) : Int).toNat false))))] [Ha (lnM uf m_.Rows), Hn (rL g0), Ha (rM 1 F2_ ((m_.Rows.length : Nat) : Int) ([] : List Int)), Ha (lnM uf m_.Rows), Hn (rL g1), Ha (rM 1 eB ((m_.Rows.length : Nat) : Int) false), Hh (.cut 0)] ?_ fun J1 ay => ?_
 ·rintro ⟨l_, is⟩ aa
  unfold jF at aa
  obtain rfl := zi aa
  exact yE X0 hC hE [Hm (shM F2_ F2_ l_), Hm (shM eB eB is)]
 ·obtain ⟨r_, h0, aa⟩ := zm aa
  obtain ⟨t2, ht2, aa⟩ := zm aa
  refine yAt X0 hC (sub [1,1,2,1,0] ub) (frs [1,1,2,1,0] [J1] ub []) [(6, .own (.box (eOs 1 true F2_ (List.replicate ((m_.Rows.length : Nat) : Int).toNat ([] : List Int))))), (7, .own (.box (eOs 1 true eB (List.replicate ((m_.Rows.length : Nat) : Int).toNat false)))), (19, .d (.fn 85 [.sptr (.agg [I r_.1.Inputs, I r_.1.Outputs, eSl 1 false uf r_.1.Rows]), .sptr (I r_.2)]))] [Hc h0H (x := (m_, from_)) h0 (loC yj m_ <| loC (eI .i64) from_ <| loN)] fun st0 h0 => ?_
  refine zbm (g := .tmp 19) (ps := [20]) (assign := (sub [1,1,2,1,0,0] ub)) (body := (sub [1,1,2,1,0,1] ub)) (K := 85) (caps := [.sptr (.agg [I r_.1.Inputs, I r_.1.Outputs, eSl 1 false uf r_.1.Rows]), .sptr (I r_.2)]) (by kernel_rfl) [6,7,19] (fun s => jE r_ s.1 s.2) (fun z => nomatch z) (fun z => nomatch z) ((fun (x : zj) (_ : Bool) (_ : Value) => [qI x])) (F := @vV r_.1 r_.2) (fun s x => xL s.1 s.2 x) ((List.replicate ((m_.Rows.length : Nat) : Int).toNat ([] : List Int)), (List.replicate ((m_.Rows.length : Nat) : Int).toNat false)) t2 _ h0 inferInstance (by kernel_rfl) (by decide) (fun _ => rfl) (by rintro ⟨⟩) (by kernel_rfl) (fun _ _ _ => rfl) (Vg hC r_.1 r_.2) ht2 ?_ ?_
  ·rintro ix ⟨bl, cm⟩ bw vr bg ae
   replace ae : xL bl cm bw = some bg := ae
   unfold xL at ae
   refine yF X0 hC .normal [(6, .own (.box (eOs 1 true F2_ bl))), (7, .own (.box (eOs 1 true eB cm))), (8, .own (.box (qI bw))), (19, .d (.fn 85 [.sptr (.agg [I r_.1.Inputs, I r_.1.Outputs, eSl 1 false uf r_.1.Rows]), .sptr (I r_.2)]))] [] fun st0 h0 => ⟨rfl, z6r h0 ?_⟩
   obtain ⟨gv, h1, ae⟩ := zm ae
   let Z0 : List HO := [Hn (iL eB h1), Hs (iM eB h1), Hs (iM eB h1), Hl (sM eB cm bw.state_ true)]
   rcases y8 ae with ⟨c0, ae⟩ | ⟨c0, ae⟩
   ·obtain ⟨ax, h2, ae⟩ := zm ae
    obtain ⟨ah, h3, ae⟩ := zm ae
    obtain ⟨g2, ae⟩ := gdE ae
    obtain ⟨am, h4, ae⟩ := zm ae
    obtain ⟨co, h5, ae⟩ := zm ae
    obtain rfl := zi ae
    exact yF X0 hC .normal (jE r_ (bl.set bw.state_.toNat am) (cm.set bw.state_.toNat true)) (Z0 ++ [Hq c0, Hn (iL F2_ h2), Hs (iM F2_ h2), Hc h01 (x := ax) h3 (loC F2_ ax <| loN), Hq (dM (eI .i64) ([bw.input_] : List Int)), Hn (dM (eI .i64) ([bw.input_] : List Int)), Hn (aL (eI .i64) (eI .i64) g2), Hl (aM (eI .i64) ah ([bw.input_] : List Int)), Hg (Kr h00), Hm (shM (eI .i64) (eI .i64) (ah ++ ([bw.input_] : List Int))), Hs (Ks h00 (x := (ah ++ ([bw.input_] : List Int))) h4 (loC F7_ (ah ++ ([bw.input_] : List Int)) <| loN)), Hm (shM (eI .i64) (eI .i64) (ah ++ ([bw.input_] : List Int))), Hn (iL F2_ h5), Hs (iM F2_ h5), Hs (iM F2_ h5), Hl (sM F2_ bl bw.state_ am)]) fun st0 h0 => ⟨rfl, _, h0, LeL.refl _⟩
   ·obtain rfl := zi ae
    exact yF X0 hC .normal (jE r_ bl (cm.set bw.state_.toNat true)) (Z0 ++ [Hq c0]) fun st0 h0 => ⟨rfl, _, h0, LeL.refl _⟩
  ·rcases t2 with ⟨bl, cm⟩ | z
   ·dsimp only at aa
    exact z2g (by kernel_rfl) (ay _ [(6, .own (.box (eOs 1 true F2_ bl))), (7, .own (.box (eOs 1 true eB cm)))] (bl, cm) aa (show Own.canon [6,7] _ = ofL _ by kernel_rfl) inferInstance)
   ·cases z
def K0 : Code := (Tryz.f45.body).getD .skip
def Zh : yk := spF (α := z6) (ρ := List (List Int) × List Bool × Int) 45 (fun x => [yj x]) (fun r => .tup [z32 r.1, (eSl 1 true eB) r.2.1, (eI .i64) r.2.2]) (fun x => jO x) [] (Kq)
theorem Kf (hC : zL Tryz.prog ctr) (h0f : ctr.Has uB) (h0I : ctr.Has Y3) : Zh.Ok Tryz.prog := by
 refine zS ?_
 rintro m_ r0 aa
 try unfold jO at aa
 refine yO false [(2, none), (3, none), (4, none)] K0 20 Tryz.func45 fun E hE => ?_
 obtain ⟨r_, h0, aa⟩ := zm aa
 let Z0 : List HO := [Hc h0f (x := m_) h0 (loC yj m_ <| loN)]
 rcases y8 aa with ⟨c0, aa⟩ | ⟨c0, aa⟩
 ·obtain rfl := zi aa
  exact yEx X0 hC hE (Z0 ++ [Hq c0, Hm (shM F7_ F7_ []), Hm (shM eB eB [])]) (.tup [eSl 1 true F2_ [], eSl 1 true eB [], I r_]) (show LeV (.tup [eSl 1 true F2_ [], eSl 1 true eB [], I r_]) (.tup [eSl 1 true F2_ ([] : List (List Int)), eSl 1 true eB ([] : List Bool), I r_]) from inferInstance)
 ·obtain ⟨ah, h1, aa⟩ := zm aa
  obtain rfl := zi aa
  exact yE X0 hC hE (Z0 ++ [Hq c0, Hc h0I (x := (m_, 0)) h1 (loC yj m_ <| loC (eI .i64) 0 <| loN)])
def xw : Code := (Tryz.f26.body).getD .skip
def wK : yk := spF (α := z6 × Int) (ρ := List za) 26 (fun x => [yj x.1, (eI .i64) x.2]) (fun r => (eOs 5 false (zc F7_ zH zD)) r) (fun x => v7 x.1 x.2) [] (Um)
abbrev Vc (out : List za) : List (Nat × T) := [(8, .own (eOs 5 false (zc F7_ zH zD) out))]
abbrev Vb (m_ : z6) (goal : Int) (r_ : List (List Int) × List Bool × Int) (av : Int) (a8 : List za) : List (Nat × T) := [(1, .d (I goal)), (2, .own (.box (yj m_))), (5, .d (eSl 1 true F2_ r_.1)), (6, .d (eSl 1 true eB r_.2.1)), (8, .own (eOs 5 false (zc F7_ zH zD) a8)), (24, .d (eSl 1 false uf m_.Rows)), (25, .d (I ((m_.Rows.length : Nat) : Int))), (26, .d (I av))]
abbrev Va (m_ : z6) (goal : Int) (r_ : List (List Int) × List Bool × Int) (av : Int) (ar : List ze) (a9 : Int) (cu : List za) : List (Nat × T) := [(1, .d (I goal)), (2, .own (.box (yj m_))), (5, .d (eSl 1 true F2_ r_.1)), (6, .d (eSl 1 true eB r_.2.1)), (8, .own (eOs 5 false (zc F7_ zH zD) cu)), (9, .d (.sptr (I av))), (24, .d (eSl 1 false uf m_.Rows)), (25, .d (I ((m_.Rows.length : Nat) : Int))), (26, .d (I av)), (49, .d (eSl 2 false F9_ ar)), (50, .d (I ((ar.length : Nat) : Int))), (51, .d (I a9))]
abbrev V9 (m_ : z6) (goal : Int) (r_ : List (List Int) × List Bool × Int) (av : Int) (ar : List ze) (a9 : Int) (am : List Int) (bt : List ze) (cg : Int) (cq : List za) : List (Nat × T) := [(1, .d (I goal)), (2, .own (.box (yj m_))), (5, .d (eSl 1 true F2_ r_.1)), (6, .d (eSl 1 true eB r_.2.1)), (8, .own (eOs 5 false (zc F7_ zH zD) cq)), (9, .d (.sptr (I av))), (11, .own (.box (I a9))), (13, .d (eSl 1 false (eI .i64) (am ++ ([a9] : List Int)))), (24, .d (eSl 1 false uf m_.Rows)), (25, .d (I ((m_.Rows.length : Nat) : Int))), (26, .d (I av)), (49, .d (eSl 2 false F9_ ar)), (50, .d (I ((ar.length : Nat) : Int))), (51, .d (I a9)), (84, .d (eSl 2 false F9_ bt)), (85, .d (I ((bt.length : Nat) : Int))), (86, .d (I cg))]
abbrev V6 (m_ : z6) (goal : Int) (r_ : List (List Int) × List Bool × Int) (av : Int) (ar : List ze) (a9 : Int) (am : List Int) (bt : List ze) (db : List za) (cg : Int) : List (Nat × T) := [(1, .d (I goal)), (2, .own (.box (yj m_))), (5, .d (eSl 1 true F2_ r_.1)), (6, .d (eSl 1 true eB r_.2.1)), (8, .own (eOs 5 false (zc F7_ zH zD) db)), (9, .d (.sptr (I av))), (11, .own (.box (I a9))), (13, .d (eSl 1 false (eI .i64) (am ++ ([a9] : List Int)))), (24, .d (eSl 1 false uf m_.Rows)), (25, .d (I ((m_.Rows.length : Nat) : Int))), (26, .d (I av)), (49, .d (eSl 2 false F9_ ar)), (50, .d (I ((ar.length : Nat) : Int))), (51, .d (I a9)), (84, .d (eSl 2 false F9_ bt)), (85, .d (I ((bt.length : Nat) : Int))), (86, .d (I cg))]
abbrev V7 (m_ : z6) (goal : Int) (r_ : List (List Int) × List Bool × Int) (av : Int) (ar : List ze) (br : List za) (a9 : Int) : List (Nat × T) := [(1, .d (I goal)), (2, .own (.box (yj m_))), (5, .d (eSl 1 true F2_ r_.1)), (6, .d (eSl 1 true eB r_.2.1)), (8, .own (eOs 5 false (zc F7_ zH zD) br)), (9, .d (.sptr (I av))), (24, .d (eSl 1 false uf m_.Rows)), (25, .d (I ((m_.Rows.length : Nat) : Int))), (26, .d (I av)), (49, .d (eSl 2 false F9_ ar)), (50, .d (I ((ar.length : Nat) : Int))), (51, .d (I a9))]
abbrev V8 (m_ : z6) (goal : Int) (r_ : List (List Int) × List Bool × Int) (aj : List za) (av : Int) : List (Nat × T) := [(1, .d (I goal)), (2, .own (.box (yj m_))), (5, .d (eSl 1 true F2_ r_.1)), (6, .d (eSl 1 true eB r_.2.1)), (8, .own (eOs 5 false (zc F7_ zH zD) aj)), (24, .d (eSl 1 false uf m_.Rows)), (25, .d (I ((m_.Rows.length : Nat) : Int))), (26, .d (I av))]
def zK : XH Tryz.prog := ((z47 zC (.inl 107) [104]).or ((z47 zC (.inl 71) [13]).or X0))
theorem QV (hC : zL Tryz.prog ctr) (h0J : ctr.Has Zh) (h01 : ctr.Has yl) (h00 : ctr.Has yp) : wK.Ok Tryz.prog := by
 refine zS ?_
 rintro ⟨m_, goal⟩ r0 aa
 try unfold v7 at aa
 refine yO true [(4, none)] xw 114 Tryz.func26 fun E hE => ?_
 obtain ⟨r_, h0, aa⟩ := zm aa
 refine yJ zK hC xw [1,1,1] [] [8] (fun z : List za => qm z = some r0) (fun z => Vc z) [(1, .d (I goal)), (2, .own (.box (yj m_))), (5, .d (eSl 1 true F2_ r_.1)), (6, .d (eSl 1 true eB r_.2.1)), (8, .own (eOs 5 true (zc F7_ zH zD) []))] [Hc h0J (x := m_) h0 (loC yj m_ <| loN), Hh (.cut 1)] ?_ fun J1 ay => ?_
 ·rintro out aa
  unfold qm at aa
  obtain rfl := zi aa
  exact yE zK hC hE []
 ·obtain ⟨t2, ht2, aa⟩ := zm aa
  refine yLx zK hC xw [1,1,1,2,1,0] [J1] (fun s => wR m_ goal r_ s.1 s.2) (fun x => V8 m_ goal r_ x.1 x.2) (([] : List za), 0) ht2 [(1, .d (I goal)), (2, .own (.box (yj m_))), (5, .d (eSl 1 true F2_ r_.1)), (6, .d (eSl 1 true eB r_.2.1)), (8, .own (eOs 5 true (zc F7_ zH zD) [])), (24, .d (eSl 1 false uf m_.Rows)), (25, .d (I ((m_.Rows.length : Nat) : Int))), (26, .d (I 0))] inferInstance [Ha (lnM uf m_.Rows)] ?_
  rintro ⟨aj, av⟩ m2 bg ae hl1 J2 a6
  try unfold wR at ae
  rcases y8 ae with ⟨c0, ae⟩ | ⟨c0, ae⟩
  ·refine yJ zK hC xw [1,1,1,2,1,0,0,1,1] [J1, J2] [1,2,5,6,8,24,25,26] (fun z : List za => xu av z = some bg) (fun z => Vb m_ goal r_ av z) [(1, .d (I goal)), (2, .own (.box (yj m_))), (5, .d (eSl 1 true F2_ r_.1)), (6, .d (eSl 1 true eB r_.2.1)), (8, .own (eOs 5 false (zc F7_ zH zD) aj)), (24, .d (eSl 1 false uf m_.Rows)), (25, .d (I ((m_.Rows.length : Nat) : Int))), (26, .d (I av))] [Hq c0, Hh (.cut 0)] ?_ fun J3 ce => ?_
   ·rintro a8 ae
    unfold xu at ae
    obtain rfl := zi ae
    exact yB zK hC a6 (a8, w64 (av + 1)) hl1 []
   ·obtain ⟨ar, h1, ae⟩ := zm ae
    obtain ⟨u_, h2, ae⟩ := zm ae
    let Z0 : List HO := [Hi uf h1, Hi eB h2]
    rcases y8 ae with ⟨c1, ae⟩ | ⟨c1, ae⟩
    ·exact yB zK hC ce aj ae (Z0 ++ [Hq c1])
    ·rcases y8 ae with ⟨c2, ae⟩ | ⟨c2, ae⟩
     ·obtain ⟨fm, h3, ae⟩ := zm ae
      obtain ⟨g0, ae⟩ := gdE ae
      exact yB ((xLs zC 42 (eSl 1 true (eI .i64) fm) (eSl 1 false (eI .i64) fm) inferInstance).or zK) hC ce (aj ++ ([(za.mk fm (z8.mk av 0 0) (.inl av))] : List za)) ae (Z0 ++ [Hq c1, Hh (.n 1 [9]), Hq c2, Hi F2_ h3, Hn (rfl : T.d (eSl 1 true (eI .i64) fm) = T.d (eSl 1 true (eI .i64) fm)), Hq (dM (zc F7_ zH zD) ([(za.mk fm (z8.mk av 0 0) (.inl av))] : List za)), Hn (dM (zc F7_ zH zD) ([(za.mk fm (z8.mk av 0 0) (.inl av))] : List za)), Hn (aL (zc F7_ zH zD) (zc F7_ zH zD) g0), Hl (aM (zc F7_ zH zD) aj ([(za.mk fm (z8.mk av 0 0) (.inl av))] : List za))])
     ·obtain ⟨t4, ht4, ae⟩ := zm ae
      refine yL zK hC xw [1,1,1,2,1,0,0,1,1,2,0,1,1,1,1,0] [J1, J2, J3] (fun s => wQ m_ goal r_ av ar s.1 s.2) (fun x => V7 m_ goal r_ av ar x.1 x.2) (aj,0) ht4  (Z0 ++ [Hq c1, Hh (.n 1 [9]), Hq c2, Ha (lnM F9_ ar)]) ?_
      rintro ⟨br, a9⟩ m4 ff ai hl2 J4 d0
      try unfold wQ at ai
      rcases y8 ai with ⟨c3, ai⟩ | ⟨c3, ai⟩
      ·refine yJ zK hC xw [1,1,1,2,1,0,0,1,1,2,0,1,1,1,1,0,0,1,1] [J1, J2, J3, J4] [1,2,5,6,8,9,24,25,26,49,50,51] (fun z : List za => xq a9 z = some ff) (fun z => Va m_ goal r_ av ar a9 z) [(1, .d (I goal)), (2, .own (.box (yj m_))), (5, .d (eSl 1 true F2_ r_.1)), (6, .d (eSl 1 true eB r_.2.1)), (8, .own (eOs 5 false (zc F7_ zH zD) br)), (9, .d (.sptr (I av))), (24, .d (eSl 1 false uf m_.Rows)), (25, .d (I ((m_.Rows.length : Nat) : Int))), (26, .d (I av)), (49, .d (eSl 2 false F9_ ar)), (50, .d (I ((ar.length : Nat) : Int))), (51, .d (I a9))] [Hq c3, Hh (.cut 0)] ?_ fun J5 dn => ?_
       ·rintro cu ai
        unfold xq at ai
        obtain rfl := zi ai
        exact yB zK hC d0 (cu, w64 (a9 + 1)) hl2 []
       ·obtain ⟨ak, h4, ai⟩ := zm ai
        let Z1 : List HO := [Hi F9_ h4]
        rcases y8 ai with ⟨c4, ai⟩ | ⟨c4, ai⟩
        ·exact yB zK hC dn br ai (Z1 ++ [Hq c4])
        ·obtain ⟨ii, h5, ai⟩ := zm ai
         obtain ⟨ah, h6, ai⟩ := zm ai
         obtain ⟨am, h7, ai⟩ := zm ai
         obtain ⟨g1, ai⟩ := gdE ai
         let Z2 : List HO := (Z1 ++ [Hq c4, Hi F2_ h5, Hc h01 (x := ii) h6 (loC F2_ ii <| loN), Hg (Kr h00), Hm (shM (eI .i64) (eI .i64) ah), Hs (Ks h00 (x := ah) h7 (loC F7_ ah <| loN)), Hm (shM (eI .i64) (eI .i64) ah), Hq (dM (eI .i64) ([a9] : List Int)), Hn (dM (eI .i64) ([a9] : List Int)), Hn (aN (eI .i64) (eI .i64) g1 (by simp)), Hl (aM (eI .i64) am ([a9] : List Int))])
         rcases y8 ai with ⟨c5, ai⟩ | ⟨c5, ai⟩
         ·obtain ⟨g2, ai⟩ := gdE ai
          exact yB zK hC dn (br ++ ([(za.mk (am ++ ([a9] : List Int)) (z8.mk av a9 0) (.inr (.inl (av, a9))))] : List za)) ai (Z2 ++ [Hq c5, Hm (shM (eI .i64) (eI .i64) (am ++ ([a9] : List Int))), Hq (dM (zc F7_ zH zD) ([(za.mk (am ++ ([a9] : List Int)) (z8.mk av a9 0) (.inr (.inl (av, a9))))] : List za)), Hn (dM (zc F7_ zH zD) ([(za.mk (am ++ ([a9] : List Int)) (z8.mk av a9 0) (.inr (.inl (av, a9))))] : List za)), Hn (aL (zc F7_ zH zD) (zc F7_ zH zD) g2), Hl (aM (zc F7_ zH zD) br ([(za.mk (am ++ ([a9] : List Int)) (z8.mk av a9 0) (.inr (.inl (av, a9))))] : List za))])
         ·obtain ⟨bt, h8, ai⟩ := zm ai
          obtain ⟨t6, ht6, ai⟩ := zm ai
          refine yL zK hC xw [1,1,1,2,1,0,0,1,1,2,0,1,1,1,1,0,0,1,1,2,0,1,1,1,1,1,0] [J1, J2, J3, J4, J5] (fun s => wP av a9 am bt s.1 s.2) (fun x => V6 m_ goal r_ av ar a9 am bt x.1 x.2) (br,0) ht6  (Z2 ++ [Hq c5, Hi uf h8, Ha (lnM F9_ bt), Hh (.n 1 [13]), Hm (shM (eI .i64) (eI .i64) (am ++ ([a9] : List Int)))]) ?_
          rintro ⟨db, cg⟩ m6 iq bn hl3 J6 ew
          try unfold wP at bn
          rcases y8 bn with ⟨c6, bn⟩ | ⟨c6, bn⟩
          ·refine yJ zK hC xw [1,1,1,2,1,0,0,1,1,2,0,1,1,1,1,0,0,1,1,2,0,1,1,1,1,1,0,0,1,1] [J1, J2, J3, J4, J5, J6] [1,2,5,6,8,9,11,13,24,25,26,49,50,51,84,85,86] (fun z : List za => wS cg z = some iq) (fun z => V9 m_ goal r_ av ar a9 am bt cg z) [(1, .d (I goal)), (2, .own (.box (yj m_))), (5, .d (eSl 1 true F2_ r_.1)), (6, .d (eSl 1 true eB r_.2.1)), (8, .own (eOs 5 false (zc F7_ zH zD) db)), (9, .d (.sptr (I av))), (11, .own (.box (I a9))), (13, .d (eSl 1 false (eI .i64) (am ++ ([a9] : List Int)))), (24, .d (eSl 1 false uf m_.Rows)), (25, .d (I ((m_.Rows.length : Nat) : Int))), (26, .d (I av)), (49, .d (eSl 2 false F9_ ar)), (50, .d (I ((ar.length : Nat) : Int))), (51, .d (I a9)), (84, .d (eSl 2 false F9_ bt)), (85, .d (I ((bt.length : Nat) : Int))), (86, .d (I cg))] [Hq c6, Hh (.cut 0)] ?_ fun J7 fy => ?_
           ·rintro cq bn
            unfold wS at bn
            obtain rfl := zi bn
            exact yB zK hC ew (cq, w64 (cg + 1)) hl3 []
           ·obtain ⟨bh, h9, bn⟩ := zm bn
            let Z3 : List HO := [Hi F9_ h9]
            rcases y8 bn with ⟨c7, bn⟩ | ⟨c7, bn⟩
            ·obtain ⟨au, h10, bn⟩ := zm bn
             obtain ⟨aw, h11, bn⟩ := zm bn
             obtain ⟨g3, bn⟩ := gdE bn
             obtain ⟨g4, bn⟩ := gdE bn
             exact yB zK hC fy (db ++ ([(za.mk (aw ++ ([cg] : List Int)) (z8.mk av a9 cg) (.inr (.inr (z8.mk av a9 cg))))] : List za)) bn (Z3 ++ [Hq c7, Hh (.n 2 [16]), Hc h01 (x := (am ++ ([a9] : List Int))) h10 (loC F7_ (am ++ ([a9] : List Int)) <| loN), Hg (Kr h00), Hm (shM (eI .i64) (eI .i64) au), Hs (Ks h00 (x := au) h11 (loC F7_ au <| loN)), Hm (shM (eI .i64) (eI .i64) au), Hq (dM (eI .i64) ([cg] : List Int)), Hn (dM (eI .i64) ([cg] : List Int)), Hn (aN (eI .i64) (eI .i64) g3 (by simp)), Hl (aM (eI .i64) aw ([cg] : List Int)), Hm (shM (eI .i64) (eI .i64) (aw ++ ([cg] : List Int))), Hq (dM (zc F7_ zH zD) ([(za.mk (aw ++ ([cg] : List Int)) (z8.mk av a9 cg) (.inr (.inr (z8.mk av a9 cg))))] : List za)), Hn (dM (zc F7_ zH zD) ([(za.mk (aw ++ ([cg] : List Int)) (z8.mk av a9 cg) (.inr (.inr (z8.mk av a9 cg))))] : List za)), Hn (aL (zc F7_ zH zD) (zc F7_ zH zD) g4), Hl (aM (zc F7_ zH zD) db ([(za.mk (aw ++ ([cg] : List Int)) (z8.mk av a9 cg) (.inr (.inr (z8.mk av a9 cg))))] : List za))])
            ·exact yB zK hC fy db bn (Z3 ++ [Hq c7])
          ·obtain rfl := zi bn
           obtain rfl := hl3
           exact yB zK hC dn db ai [Hq c6]
      ·obtain rfl := zi ai
       obtain rfl := hl2
       exact yB zK hC ce br ae [Hq c3]
  ·obtain rfl := zi ae
   obtain rfl := hl1
   exact yB zK hC ay aj aa [Hq c0]
def Us : Code := (Tryz.f39.body).getD .skip
def uC : yk := spF (α := Unit) (ρ := zh) 39 (fun x => []) (fun r => (zT (eMp (eI .i64) eB) (eMp F0_ eB) (eMp zH eB)) r) (fun x => ua) [] (fun _ _ _ => rfl)
theorem UW (hC : zL Tryz.prog ctr) : uC.Ok Tryz.prog := by
 refine zS ?_
 rintro ⟨⟩ r0 aa
 try unfold ua at aa
 refine z3W (tt := wq) (rs := [(true, 0, some 71)]) (n := ⟨6, []⟩) (body := Us) zC Tryz.func39 rfl (by kernel_rfl) rfl rfl (by show (0 : Nat) ≤ 6; decide) fun E hE => ?_
 obtain rfl := zi aa
 let ZE : List HO := [Hn (⟨rfl, rfl, rfl, rfl, JS (fun _ => rfl) ([] : List (Int × Bool))⟩ : T.own (.opq (yd (zt (eI .i64) eB ([] : List (Int × Bool))))) = T.own (.opq (yd (zt (eI .i64) eB ([] : List (Int × Bool))))) ∧ 1 = 1 ∧ (JF .i64) ((eI .i64) 0) = true ∧ (eB true).isD = true ∧ ∀ p ∈ zt (eI .i64) eB ([] : List (Int × Bool)), (JF .i64) p.1 = true), Hn (z0v (f := (eI .i64)) (g := eB) 0 true ([] : List (Int × Bool)))]
 exact z6s ((z9s Tryz.prog 4).or ((z9s Tryz.prog 3).or ((zhO z7I 1 (zt (eI .i64) eB ([] : List (Int × Bool))) (zt (eI .i64) eB (QB ([] : List (Int × Bool)) 0 true))).or ((z9s Tryz.prog 1).or X0)))) zC hC XV hE 4000 (hs := hoH ZE) (x := (.agg [.opq (yd (zt (eI .i64) eB (QB ([] : List (Int × Bool)) 0 true))), .opq (yd (zt F0_ eB ([] : List ((xF Int) × Bool)))), .opq (yd (zt zH eB ([] : List (z8 × Bool))))])) (hoB ZE) (by kernel_rfl) (LeV.refl _)
def ue : Code := (Tryz.f32.body).getD .skip
abbrev Yh (u0 : Value) (u1 : Value) (u2 : Value) (m_ : z6) (w_ : List Int) (al : List (Int × Bool)) (ap : List ((xF Int) × Bool)) (cd : Int) (bi : Int) (bm : Int) (d9 : Int) (bc : Int) (ak : ze) (bf : List (z8 × Bool)) : List (Nat × T) := [(3, .own (.box (.agg [.opq (vt u0 (zt (eI .i64) eB al)), .opq (vt u1 (zt F0_ eB (QB ap (xF.mk cd bc) true))), .opq (vt u2 (zt zH eB bf))]))), (4, .own (.box (yj m_))), (6, .d (I cd)), (7, .own (.box (.agg [I bi, I bm, I bc]))), (9, .d (I bc)), (10, .d (I ak.To)), (12, .d (eSl 1 false (eI .i64) w_)), (13, .d (I ((w_.length : Nat) : Int))), (14, .d (I d9))]
abbrev Yg (u0 : Value) (u1 : Value) (u2 : Value) (m_ : z6) (w_ : List Int) (al : List (Int × Bool)) (ap : List ((xF Int) × Bool)) (aq : List (z8 × Bool)) (cd : Int) (bi : Int) (bm : Int) (d9 : Int) : List (Nat × T) := [(3, .own (.box (.agg [.opq (vt u0 (zt (eI .i64) eB al)), .opq (vt u1 (zt F0_ eB ap)), .opq (vt u2 (zt zH eB aq))]))), (4, .own (.box (yj m_))), (6, .d (I cd)), (7, .own (.box (.agg [I bi, I bm, I (-1)]))), (12, .d (eSl 1 false (eI .i64) w_)), (13, .d (I ((w_.length : Nat) : Int))), (14, .d (I d9))]
theorem jP (hC : zL Tryz.prog ctr) : ∀ (m_ : z6) (w_ : List Int) (x_ : zh) (r0 : zh), xH m_ w_ x_ = some r0 → ∀ us : List Value, us.length = 3 → uA Tryz.prog (.fn 32 []) ([] ++ .agg (us.map .atom) :: [.agg [I m_.Inputs, I m_.Outputs, eSl 1 false uf m_.Rows], eSl 1 false (eI .i64) w_]) (Xp us [zt (eI .i64) eB x_.states_, zt F0_ eB x_.edges_, zt zH eB x_.pairs_]) (.tup []) ([zt (eI .i64) eB r0.states_, zt F0_ eB r0.edges_, zt zH eB r0.pairs_].map fun e => .opq (yd e)) := by
 intro m_ w_ x_ r0 aa us hus
 obtain ⟨u0, u1, u2, rfl⟩ := zby hus
 refine Wm (tt := wq) (nt := 50) (body := ue) (B := 3) [] (xl := []) (xr := [.agg [I m_.Inputs, I m_.Outputs, eSl 1 false uf m_.Rows], eSl 1 false (eI .i64) w_]) (caps := []) (es := [zt (eI .i64) eB x_.states_, zt F0_ eB x_.edges_, zt zH eB x_.pairs_]) (es' := [zt (eI .i64) eB r0.states_, zt F0_ eB r0.edges_, zt zH eB r0.pairs_]) (us := [u0, u1, u2]) (r := .tup []) Tryz.func32 rfl (by kernel_rfl) rfl rfl (by decide) (by show (3 : Nat) ≤ 50; decide) rfl rfl (.inl ⟨rfl, rfl⟩) fun E hE => ?_
 try unfold xH at aa
 obtain ⟨t1, ht1, aa⟩ := zm aa
 refine yL X0 hC ue [1,1,1,1,0] [] (fun s => xC m_ w_ s.1 s.2.1 s.2.2.1 s.2.2.2.1 s.2.2.2.2.1 s.2.2.2.2.2.1 s.2.2.2.2.2.2) (fun x => Yg u0 u1 u2 m_ w_ x.1 x.2.1 x.2.2.1 x.2.2.2.1 x.2.2.2.2.1 x.2.2.2.2.2.1 x.2.2.2.2.2.2) (x_.states_, x_.edges_, x_.pairs_, 0, (-1), (-1), 0) ht1  [Ha (lnM (eI .i64) w_)] ?_
 rintro ⟨al, ap, aq, cd, bi, bm, d9⟩ m1 bg ae hl1 J1 ay
 try unfold xC at ae
 rcases y8 ae with ⟨c0, ae⟩ | ⟨c0, ae⟩
 ·obtain ⟨bc, h0, ae⟩ := zm ae
  obtain ⟨ar, h1, ae⟩ := zm ae
  obtain ⟨ak, h2, ae⟩ := zm ae
  let Z0 : List HO := [Hq c0, Hi (eI .i64) h0, Hi uf h1, Hi F9_ h2]
  rcases y8 ae with ⟨c1, ae⟩ | ⟨c1, ae⟩
  ·obtain rfl := zi ae
   obtain rfl := hl1
   obtain rfl := zi aa
   exact yF X0 hC .ret [(3, .own (.box (.agg [.opq (vt u0 (zt (eI .i64) eB al)), .opq (vt u1 (zt F0_ eB ap)), .opq (vt u2 (zt zH eB aq))])))] (Z0 ++ [Hq c1]) fun st0 h0 => hE _ st0 (.inr rfl) (JD h0 rfl rfl) zhe
  ·refine yJ ((z9q zaI 30 (Zw u1 (zt F0_ eB ap)) (zt F0_ eB (QB ap (xF.mk cd bc) true))).or X0) hC ue [1,1,1,1,0,0,1,1,0,0,1,1,1,1] [J1] [3,4,6,7,9,10,12,13,14] (fun z : List (z8 × Bool) => yS al ap cd d9 bc ak z = some bg) (fun z => Yh u0 u1 u2 m_ w_ al ap cd bi bm d9 bc ak z) [(3, .own (.box (.agg [.opq (vt u0 (zt (eI .i64) eB al)), .opq (vt u1 (zt F0_ eB (QB ap (xF.mk cd bc) true))), .opq (vt u2 (zt zH eB aq))]))), (4, .own (.box (yj m_))), (6, .d (I cd)), (7, .own (.box (.agg [I bi, I bm, I (-1)]))), (9, .d (I bc)), (10, .d (I ak.To)), (12, .d (eSl 1 false (eI .i64) w_)), (13, .d (I ((w_.length : Nat) : Int))), (14, .d (I d9))] (Z0 ++ [Hq c1, Hn (⟨rfl, rfl, rfl, rfl, rfl, rfl, JS (fun _ => rfl) ap⟩ : (some (A.opq (vt u1 (zt F0_ eB ap))) : Option A) = some (A.opq (vt u1 (zt F0_ eB ap))) ∧ true = true ∧ 0 = 0 ∧ 0 = 0 ∧ (Vs [.i64, .i64]) (F0_ (xF.mk cd bc)) = true ∧ (eB true).isD = true ∧ ∀ p ∈ zt F0_ eB ap, (Vs [.i64, .i64]) p.1 = true), Hn (z0v (f := F0_) (g := eB) (xF.mk cd bc) true ap), Hh (.cut 1)]) ?_ fun J2 a6 => ?_
   ·rintro bf ae
    unfold yS at ae
    obtain rfl := zi ae
    exact yB ((z9q z7I 47 (Zw u0 (zt (eI .i64) eB al)) (zt (eI .i64) eB (QB al ak.To true))).or X0) hC ay ((QB al ak.To true), (QB ap (xF.mk cd bc) true), bf, ak.To, cd, bc, w64 (d9 + 1)) hl1 [Hn (⟨rfl, rfl, rfl, rfl, rfl, rfl, JS (fun _ => rfl) al⟩ : (some (A.opq (vt u0 (zt (eI .i64) eB al))) : Option A) = some (A.opq (vt u0 (zt (eI .i64) eB al))) ∧ true = true ∧ 0 = 0 ∧ 0 = 0 ∧ (JF .i64) ((eI .i64) ak.To) = true ∧ (eB true).isD = true ∧ ∀ p ∈ zt (eI .i64) eB al, (JF .i64) p.1 = true), Hn (z0v (f := (eI .i64)) (g := eB) ak.To true al)]
   ·rcases y8 ae with ⟨c2, ae⟩ | ⟨c2, ae⟩
    ·exact yB ((z9q zaH 40 (Zw u2 (zt zH eB aq)) (zt zH eB (QB aq (z8.mk bi bm bc) true))).or X0) hC a6 (QB aq (z8.mk bi bm bc) true) ae [Hq c2, Hn (⟨rfl, rfl, rfl, rfl, rfl, rfl, JS (fun _ => rfl) aq⟩ : (some (A.opq (vt u2 (zt zH eB aq))) : Option A) = some (A.opq (vt u2 (zt zH eB aq))) ∧ true = true ∧ 0 = 0 ∧ 0 = 0 ∧ (Vs [.i64, .i64, .i64]) (zH (z8.mk bi bm bc)) = true ∧ (eB true).isD = true ∧ ∀ p ∈ zt zH eB aq, (Vs [.i64, .i64, .i64]) p.1 = true), Hn (z0v (f := zH) (g := eB) (z8.mk bi bm bc) true aq)]
    ·exact yB X0 hC a6 aq ae [Hq c2]
 ·obtain rfl := zi ae
  obtain rfl := hl1
  obtain rfl := zi aa
  exact yF X0 hC .normal [(3, .own (.box (.agg [.opq (vt u0 (zt (eI .i64) eB al)), .opq (vt u1 (zt F0_ eB ap)), .opq (vt u2 (zt zH eB aq))])))] [Hq c0] fun st0 h0 => hE _ st0 (.inl rfl) (JD h0 rfl rfl) zhe
def uT : Code := (Tryz.f24.body).getD .skip
def xm : yk := spF (α := z6 × List (List Int)) (ρ := zh) 24 (fun x => [yj x.1, qA x.2]) (fun r => (zT (eMp (eI .i64) eB) (eMp F0_ eB) (eMp zH eB)) r) (fun x => yD x.1 x.2) [] (Um)
abbrev Xj (al : List (Int × Bool)) (ap : List ((xF Int) × Bool)) (aq : List (z8 × Bool)) : List (Nat × T) := [(4, .own (.box (.agg [.atom (.map none), .atom (.map none), .atom (.map none)]))), (5, .own (.box (.agg [.opq (yd (zt (eI .i64) eB al)), .opq (yd (zt F0_ eB ap)), .opq (yd (zt zH eB aq))])))]
abbrev Xi (m_ : z6) (l_ : List (List Int)) (bk : List (Int × Bool)) (bu : List ((xF Int) × Bool)) (bf : List (z8 × Bool)) (dw : Int) : List (Nat × T) := [(2, .own (.box (yj m_))), (4, .own (.box (.agg [.atom (.map none), .atom (.map none), .atom (.map none)]))), (5, .own (.box (.agg [.opq (yd (zt (eI .i64) eB bk)), .opq (yd (zt F0_ eB bu)), .opq (yd (zt zH eB bf))]))), (9, .d (eSl 1 false F7_ l_)), (10, .d (I ((l_.length : Nat) : Int))), (11, .d (I dw))]
theorem WI (hC : zL Tryz.prog ctr) (h0g : ctr.Has uC) : xm.Ok Tryz.prog := by
 refine zS ?_
 rintro ⟨m_, l_⟩ r0 aa
 try unfold yD at aa
 refine z3W (tt := wq) (rs := [(true, 4, some 71)]) (n := ⟨21, []⟩) (body := uT) zC Tryz.func24 rfl (by kernel_rfl) rfl rfl (by show (2 : Nat) ≤ 21; decide) fun E hE => ?_
 obtain ⟨r_, h0, aa⟩ := zm aa
 refine yJ X0 hC uT [1,1] [] [4,5] (fun z : (List (Int × Bool)) × (List ((xF Int) × Bool)) × (List (z8 × Bool)) => uS z.1 z.2.1 z.2.2 = some r0) (fun z => Xj z.1 z.2.1 z.2.2) [(1, .d (eSl 1 false F7_ l_)), (2, .own (.box (yj m_))), (4, .own (.box (.agg [.atom (.map none), .atom (.map none), .atom (.map none)]))), (5, .own (.box ((zT (eMp (eI .i64) eB) (eMp F0_ eB) (eMp zH eB)) r_)))] [Hc h0g (x := ()) h0 (loN), Hh (.cut 0)] ?_ fun J1 ay => ?_
 ·rintro ⟨al, ap, aq⟩ aa
  unfold uS at aa
  obtain rfl := zi aa
  let ZE : List HO := []
  exact z6s X0 zC hC XV hE 4000 (hs := hoH ZE) (x := (.agg [.opq (yd (zt (eI .i64) eB al)), .opq (yd (zt F0_ eB ap)), .opq (yd (zt zH eB aq))])) (hoB ZE) (by kernel_rfl) (LeV.refl _)
 ·obtain ⟨t2, ht2, aa⟩ := zm aa
  refine yL X0 hC uT [1,1,2,1,0] [J1] (fun s => xp m_ l_ s.1 s.2.1 s.2.2.1 s.2.2.2) (fun x => Xi m_ l_ x.1 x.2.1 x.2.2.1 x.2.2.2) (r_.states_, r_.edges_, r_.pairs_, 0) ht2  [Ha (lnM F7_ l_)] ?_
  rintro ⟨bk, bu, bf, dw⟩ m2 bg ae hl1 J2 a6
  try unfold xp at ae
  rcases y8 ae with ⟨c0, ae⟩ | ⟨c0, ae⟩
  ·obtain ⟨ax, h1, ae⟩ := zm ae
   obtain ⟨ah, h2, ae⟩ := zm ae
   obtain rfl := zi ae
   exact yB ((Yj (P := Tryz.prog) wq 5 0 [.deref] (fa := .fn 32 []) (r := .tup []) (xl := []) (xr := [yj m_, F7_ ax]) (qs := [(yd (zt (eI .i64) eB bk)), (yd (zt F0_ eB bu)), (yd (zt zH eB bf))]) (qs' := [(yd (zt (eI .i64) eB ah.states_)), (yd (zt F0_ eB ah.edges_)), (yd (zt zH eB ah.pairs_))]) (es := [(zt (eI .i64) eB bk), (zt F0_ eB bu), (zt zH eB bf)]) (es' := [(zt (eI .i64) eB ah.states_), (zt F0_ eB ah.edges_), (zt zH eB ah.pairs_)]) (.inr rfl) (z4j (by kernel_rfl)) (.cons (wh (zt (eI .i64) eB bk)) (.cons (wh (zt F0_ eB bu)) (.cons (wh (zt zH eB bf)) (.nil)))) (fun us hu => jP hC _ _ _ _ h2 us hu) (some 18)).or X0) hC a6 (ah.states_, ah.edges_, ah.pairs_, w64 (dw + 1)) hl1 [Hq c0, Hi F7_ h1, Hn (⟨rfl, leP (show VS [] [] from inferInstance), leP (show VS [yj m_, F7_ ax] [yj m_, F7_ ax] from inferInstance), rfl, rfl⟩ : ([.fn 32 []] : List A) = [.fn 32 []] ∧ LeP [] [] ∧ LeP [yj m_, F7_ ax] [yj m_, F7_ ax] ∧ T.als 5 [.deref] 0 0 = T.als 5 [.deref] 0 0 ∧ (some (.agg [.opq (yd (zt (eI .i64) eB bk)), .opq (yd (zt F0_ eB bu)), .opq (yd (zt zH eB bf))]) : Option A) = some (.agg [.opq (yd (zt (eI .i64) eB bk)), .opq (yd (zt F0_ eB bu)), .opq (yd (zt zH eB bf))]))]
  ·obtain rfl := zi ae
   obtain rfl := hl1
   exact yB X0 hC ay (bk, bu, bf) aa [Hq c0]
def VD : Code := (Tryz.f46.body).getD .skip
theorem VX (hC : zL Tryz.prog ctr) : ∀ (x0 : Int) (x_ : zh) (r0 : Bool), qX x0 x_ = some r0 → ∀ us : List Value, us.length = 3 → uA Tryz.prog (.fn 46 [.sptr (I x0)]) ([] ++ .agg (us.map .atom) :: []) (Xp us [zt (eI .i64) eB x_.states_, zt F0_ eB x_.edges_, zt zH eB x_.pairs_]) (B r0) ([zt (eI .i64) eB x_.states_, zt F0_ eB x_.edges_, zt zH eB x_.pairs_].map fun e => .opq (yd e)) := by
 intro x0 x_ r0 aa us hus
 obtain ⟨u0, u1, u2, rfl⟩ := zby hus
 refine Wm (tt := wq) (nt := 8) (body := VD) (B := 2) [3] (xl := []) (xr := []) (caps := [.sptr (I x0)]) (es := [zt (eI .i64) eB x_.states_, zt F0_ eB x_.edges_, zt zH eB x_.pairs_]) (es' := [zt (eI .i64) eB x_.states_, zt F0_ eB x_.edges_, zt zH eB x_.pairs_]) (us := [u0, u1, u2]) (r := B r0) Tryz.func46 rfl (by kernel_rfl) rfl rfl (by decide) (by show (2 : Nat) ≤ 8; decide) rfl rfl (.inr ⟨_, rfl⟩) fun E hE => ?_
 try unfold qX at aa
 obtain ⟨val, h0, aa⟩ := zm aa
 replace h0 := zi h0
 obtain rfl := zi aa
 exact yF ((z4F z7I 7 (Zw u0 (zt (eI .i64) eB x_.states_))).or X0) hC .ret [(2, .own (.box (.agg [.opq (vt u0 (zt (eI .i64) eB x_.states_)), .opq (vt u1 (zt F0_ eB x_.edges_)), .opq (vt u2 (zt zH eB x_.pairs_))]))), (3, .d (B val))] [Hn (⟨rfl, rfl, JS (fun _ => rfl) x_.states_⟩ : A.opq (vt u0 (zt (eI .i64) eB x_.states_)) = A.opq (vt u0 (zt (eI .i64) eB x_.states_)) ∧ (JF .i64) ((eI .i64) x0) = true ∧ ∀ p ∈ zt (eI .i64) eB x_.states_, (JF .i64) p.1 = true), Hx (.a (eB val)) ((zfB (f := (eI .i64)) (g := eB) (z0 := false) (z := .atom (.bool false)) rfl x0 x_.states_).trans (congrArg eB h0))] fun st0 h0 => hE _ st0 (.inr rfl) (JD h0 rfl rfl) (z5u (zd8 h0 rfl rfl))
def VC : Code := (Tryz.f47.body).getD .skip
theorem VW (hC : zL Tryz.prog ctr) : ∀ (x0 : Int) (x1 : Int) (x_ : zh) (r0 : Bool), qW x0 x1 x_ = some r0 → ∀ us : List Value, us.length = 3 → uA Tryz.prog (.fn 47 [.sptr (I x0), .sptr (I x1)]) ([] ++ .agg (us.map .atom) :: []) (Xp us [zt (eI .i64) eB x_.states_, zt F0_ eB x_.edges_, zt zH eB x_.pairs_]) (B r0) ([zt (eI .i64) eB x_.states_, zt F0_ eB x_.edges_, zt zH eB x_.pairs_].map fun e => .opq (yd e)) := by
 intro x0 x1 x_ r0 aa us hus
 obtain ⟨u0, u1, u2, rfl⟩ := zby hus
 refine Wm (tt := wq) (nt := 11) (body := VC) (B := 3) [4] (xl := []) (xr := []) (caps := [.sptr (I x0), .sptr (I x1)]) (es := [zt (eI .i64) eB x_.states_, zt F0_ eB x_.edges_, zt zH eB x_.pairs_]) (es' := [zt (eI .i64) eB x_.states_, zt F0_ eB x_.edges_, zt zH eB x_.pairs_]) (us := [u0, u1, u2]) (r := B r0) Tryz.func47 rfl (by kernel_rfl) rfl rfl (by decide) (by show (3 : Nat) ≤ 11; decide) rfl rfl (.inr ⟨_, rfl⟩) fun E hE => ?_
 try unfold qW at aa
 obtain ⟨val, h0, aa⟩ := zm aa
 replace h0 := zi h0
 obtain rfl := zi aa
 exact yF ((z4F zaI 10 (Zw u1 (zt F0_ eB x_.edges_))).or X0) hC .ret [(3, .own (.box (.agg [.opq (vt u0 (zt (eI .i64) eB x_.states_)), .opq (vt u1 (zt F0_ eB x_.edges_)), .opq (vt u2 (zt zH eB x_.pairs_))]))), (4, .d (B val))] [Hn (⟨rfl, rfl, JS (fun _ => rfl) x_.edges_⟩ : A.opq (vt u1 (zt F0_ eB x_.edges_)) = A.opq (vt u1 (zt F0_ eB x_.edges_)) ∧ (Vs [.i64, .i64]) (F0_ (xF.mk x0 x1)) = true ∧ ∀ p ∈ zt F0_ eB x_.edges_, (Vs [.i64, .i64]) p.1 = true), Hx (.a (eB val)) ((zfB (f := F0_) (g := eB) (z0 := false) (z := .atom (.bool false)) rfl (xF.mk x0 x1) x_.edges_).trans (congrArg eB h0))] fun st0 h0 => hE _ st0 (.inr rfl) (JD h0 rfl rfl) (z5u (zd8 h0 rfl rfl))
def VB : Code := (Tryz.f48.body).getD .skip
theorem VV (hC : zL Tryz.prog ctr) : ∀ (x0 : z8) (x_ : zh) (r0 : Bool), qV x0 x_ = some r0 → ∀ us : List Value, us.length = 3 → uA Tryz.prog (.fn 48 [.sptr (.agg [I x0.State, I x0.Input, I x0.Next])]) ([] ++ .agg (us.map .atom) :: []) (Xp us [zt (eI .i64) eB x_.states_, zt F0_ eB x_.edges_, zt zH eB x_.pairs_]) (B r0) ([zt (eI .i64) eB x_.states_, zt F0_ eB x_.edges_, zt zH eB x_.pairs_].map fun e => .opq (yd e)) := by
 intro x0 x_ r0 aa us hus
 obtain ⟨u0, u1, u2, rfl⟩ := zby hus
 refine Wm (tt := wq) (nt := 8) (body := VB) (B := 2) [3] (xl := []) (xr := []) (caps := [.sptr (.agg [I x0.State, I x0.Input, I x0.Next])]) (es := [zt (eI .i64) eB x_.states_, zt F0_ eB x_.edges_, zt zH eB x_.pairs_]) (es' := [zt (eI .i64) eB x_.states_, zt F0_ eB x_.edges_, zt zH eB x_.pairs_]) (us := [u0, u1, u2]) (r := B r0) Tryz.func48 rfl (by kernel_rfl) rfl rfl (by decide) (by show (2 : Nat) ≤ 8; decide) rfl rfl (.inr ⟨_, rfl⟩) fun E hE => ?_
 try unfold qV at aa
 obtain ⟨val, h0, aa⟩ := zm aa
 replace h0 := zi h0
 obtain rfl := zi aa
 exact yF ((z4F zaH 7 (Zw u2 (zt zH eB x_.pairs_))).or X0) hC .ret [(2, .own (.box (.agg [.opq (vt u0 (zt (eI .i64) eB x_.states_)), .opq (vt u1 (zt F0_ eB x_.edges_)), .opq (vt u2 (zt zH eB x_.pairs_))]))), (3, .d (B val))] [Hn (⟨rfl, rfl, JS (fun _ => rfl) x_.pairs_⟩ : A.opq (vt u2 (zt zH eB x_.pairs_)) = A.opq (vt u2 (zt zH eB x_.pairs_)) ∧ (Vs [.i64, .i64, .i64]) (zH x0) = true ∧ ∀ p ∈ zt zH eB x_.pairs_, (Vs [.i64, .i64, .i64]) p.1 = true), Hx (.a (eB val)) ((zfB (f := zH) (g := eB) (z0 := false) (z := .atom (.bool false)) rfl x0 x_.pairs_).trans (congrArg eB h0))] fun st0 h0 => hE _ st0 (.inr rfl) (JD h0 rfl rfl) (z5u (zd8 h0 rfl rfl))
theorem Ym (hC : zL Tryz.prog ctr) : ∀ (f : Int ⊕ (Int × Int) ⊕ z8) (x : zh) (r0 : Bool), W2 f x = some r0 → ∀ us : List Value, us.length = 3 → uA Tryz.prog (zD f) ([] ++ .agg (us.map .atom) :: []) (Xp us [zt (eI .i64) eB x.states_, zt F0_ eB x.edges_, zt zH eB x.pairs_]) (B r0) ([zt (eI .i64) eB x.states_, zt F0_ eB x.edges_, zt zH eB x.pairs_].map fun e => .opq (yd e)) := by
 intro f x r0 aa us hus
 rcases f with c | c | c
 ·exact VX hC c x r0 aa us hus
 ·exact VW hC c.1 c.2 x r0 aa us hus
 ·exact VV hC c x r0 aa us hus
def uN : Code := (Tryz.f37.body).getD .skip
abbrev WA (u0 : Value) (u1 : Value) (u2 : Value) (x_ : zh) (out : List Int) : List (Nat × T) := [(3, .own (.box (.agg [.opq (vt u0 (zt (eI .i64) eB x_.states_)), .opq (vt u1 (zt F0_ eB x_.edges_)), .opq (vt u2 (zt zH eB x_.pairs_))]))), (5, .own (eOs 1 true (eI .u64) out))]
abbrev Wz (u0 : Value) (u1 : Value) (u2 : Value) (bo : List za) (x_ : zh) (de : Int) (a8 : List Int) : List (Nat × T) := [(3, .own (.box (.agg [.opq (vt u0 (zt (eI .i64) eB x_.states_)), .opq (vt u1 (zt F0_ eB x_.edges_)), .opq (vt u2 (zt zH eB x_.pairs_))]))), (5, .own (eOs 1 true (eI .u64) a8)), (13, .d (eSl 5 false (zc F7_ zH zD) bo)), (14, .d (I ((bo.length : Nat) : Int))), (15, .d (I de))]
abbrev Wy (u0 : Value) (u1 : Value) (u2 : Value) (bo : List za) (x_ : zh) (aj : List Int) (de : Int) : List (Nat × T) := [(3, .own (.box (.agg [.opq (vt u0 (zt (eI .i64) eB x_.states_)), .opq (vt u1 (zt F0_ eB x_.edges_)), .opq (vt u2 (zt zH eB x_.pairs_))]))), (5, .own (eOs 1 true (eI .u64) aj)), (13, .d (eSl 5 false (zc F7_ zH zD) bo)), (14, .d (I ((bo.length : Nat) : Int))), (15, .d (I de))]
theorem uZ (hC : zL Tryz.prog ctr) : ∀ (bo : List za) (x_ : zh) (r0 : List Int), vn bo x_ = some r0 → ∀ us : List Value, us.length = 3 → uA Tryz.prog (.fn 37 []) ([eSl 5 false (zc F7_ zH zD) bo] ++ .agg (us.map .atom) :: []) (Xp us [zt (eI .i64) eB x_.states_, zt F0_ eB x_.edges_, zt zH eB x_.pairs_]) (eSl 1 true (eI .u64) r0) ([zt (eI .i64) eB x_.states_, zt F0_ eB x_.edges_, zt zH eB x_.pairs_].map fun e => .opq (yd e)) := by
 intro bo x_ r0 aa us hus
 obtain ⟨u0, u1, u2, rfl⟩ := zby hus
 refine Wm (tt := wq) (nt := 36) (body := uN) (B := 3) [4] (xl := [eSl 5 false (zc F7_ zH zD) bo]) (xr := []) (caps := []) (es := [zt (eI .i64) eB x_.states_, zt F0_ eB x_.edges_, zt zH eB x_.pairs_]) (es' := [zt (eI .i64) eB x_.states_, zt F0_ eB x_.edges_, zt zH eB x_.pairs_]) (us := [u0, u1, u2]) (r := eSl 1 true (eI .u64) r0) Tryz.func37 rfl (by kernel_rfl) rfl rfl (by decide) (by show (2 : Nat) ≤ 36; decide) rfl rfl (.inr ⟨_, rfl⟩) fun E hE => ?_
 try unfold vn at aa
 obtain ⟨g0, aa⟩ := gdE aa
 obtain ⟨g1, aa⟩ := gdE aa
 refine yJ X0 hC uN [1,1] [] [3,5] (fun z : List Int => jB z = some r0) (fun z => WA u0 u1 u2 x_ z) [(0, .d (eSl 5 false (zc F7_ zH zD) bo)), (3, .own (.box (.agg [.opq (vt u0 (zt (eI .i64) eB x_.states_)), .opq (vt u1 (zt F0_ eB x_.edges_)), .opq (vt u2 (zt zH eB x_.pairs_))]))), (5, .own (eOs 1 true (eI .u64) (List.replicate (w64 ((w64 (Int.tdiv ((bo.length : Nat) : Int) 64)) + 1)).toNat (0 : Int))))] [Ha (lnM (zc F7_ zH zD) bo), Hn g0, Hn (rL g1), Ha (rM 1 (eI .u64) (w64 ((w64 (Int.tdiv ((bo.length : Nat) : Int) 64)) + 1)) (0 : Int)), Hh (.cut 0)] ?_ fun J1 ay => ?_
 ·rintro out aa
  unfold jB at aa
  obtain rfl := zi aa
  exact yF X0 hC .ret [(3, .own (.box (.agg [.opq (vt u0 (zt (eI .i64) eB x_.states_)), .opq (vt u1 (zt F0_ eB x_.edges_)), .opq (vt u2 (zt zH eB x_.pairs_))]))), (4, .d (eSl 1 true (eI .u64) out))] [Hh (.n 0 [5]), Hm (shM (eI .u64) (eI .u64) out)] fun st0 h0 => hE _ st0 (.inr rfl) (JD h0 rfl rfl) (z5u (zd8 h0 rfl rfl))
 ·obtain ⟨t2, ht2, aa⟩ := zm aa
  refine yL X0 hC uN [1,1,2,1,0] [J1] (fun s => xI bo x_ s.1 s.2) (fun x => Wy u0 u1 u2 bo x_ x.1 x.2) ((List.replicate (w64 ((w64 (Int.tdiv ((bo.length : Nat) : Int) 64)) + 1)).toNat (0 : Int)), 0) ht2  [Ha (lnM (zc F7_ zH zD) bo)] ?_
  rintro ⟨aj, de⟩ m2 bg ae hl1 J2 a6
  try unfold xI at ae
  rcases y8 ae with ⟨c0, ae⟩ | ⟨c0, ae⟩
  ·refine yJ X0 hC uN [1,1,2,1,0,0,1,1] [J1, J2] [3,5,13,14,15] (fun z : List Int => wp de z = some bg) (fun z => Wz u0 u1 u2 bo x_ de z) [(3, .own (.box (.agg [.opq (vt u0 (zt (eI .i64) eB x_.states_)), .opq (vt u1 (zt F0_ eB x_.edges_)), .opq (vt u2 (zt zH eB x_.pairs_))]))), (5, .own (eOs 1 true (eI .u64) aj)), (13, .d (eSl 5 false (zc F7_ zH zD) bo)), (14, .d (I ((bo.length : Nat) : Int))), (15, .d (I de))] [Hq c0, Hh (.cut 0)] ?_ fun J3 ce => ?_
   ·rintro a8 ae
    unfold wp at ae
    obtain rfl := zi ae
    exact yB X0 hC a6 (a8, w64 (de + 1)) hl1 []
   ·obtain ⟨fe, h0, ae⟩ := zm ae
    obtain ⟨r_, h1, ae⟩ := zm ae
    let Z0 : List HO := [Hi (zc F7_ zH zD) h0, Hn (⟨rfl, leP (show VS [] [] from inferInstance), leP (show VS [] [] from inferInstance), rfl, rfl⟩ : ([zD fe.has_] : List A) = [zD fe.has_] ∧ LeP [] [] ∧ LeP [] [] ∧ T.als 3 [.deref] 0 0 = T.als 3 [.deref] 0 0 ∧ (some (.agg [.opq (vt u0 (zt (eI .i64) eB x_.states_)), .opq (vt u1 (zt F0_ eB x_.edges_)), .opq (vt u2 (zt zH eB x_.pairs_))]) : Option A) = some (.agg [.opq (vt u0 (zt (eI .i64) eB x_.states_)), .opq (vt u1 (zt F0_ eB x_.edges_)), .opq (vt u2 (zt zH eB x_.pairs_))]))]
    rcases y8 ae with ⟨c1, ae⟩ | ⟨c1, ae⟩
    ·obtain ⟨g2, ae⟩ := gdE ae
     obtain ⟨dj, h2, ae⟩ := zm ae
     obtain ⟨g3, ae⟩ := gdE ae
     obtain ⟨g4, ae⟩ := gdE ae
     obtain ⟨eb, h3, ae⟩ := zm ae
     exact yB ((zgw Tryz.prog).or ((zhP Tryz.prog).or ((Yj (P := Tryz.prog) wq 3 0 [.deref] (fa := zD fe.has_) (r := B r_) (xl := []) (xr := []) (qs := [(vt u0 (zt (eI .i64) eB x_.states_)), (vt u1 (zt F0_ eB x_.edges_)), (vt u2 (zt zH eB x_.pairs_))]) (qs' := [(vt u0 (zt (eI .i64) eB x_.states_)), (vt u1 (zt F0_ eB x_.edges_)), (vt u2 (zt zH eB x_.pairs_))]) (es := [(zt (eI .i64) eB x_.states_), (zt F0_ eB x_.edges_), (zt zH eB x_.pairs_)]) (es' := [(zt (eI .i64) eB x_.states_), (zt F0_ eB x_.edges_), (zt zH eB x_.pairs_)]) (.inr rfl) (z4j (by kernel_rfl)) (.cons (Zw u0 (zt (eI .i64) eB x_.states_)) (.cons (Zw u1 (zt F0_ eB x_.edges_)) (.cons (Zw u2 (zt zH eB x_.pairs_)) (.nil)))) (fun us hu => Ym hC _ _ _ h1 us hu) (some 23)).or X0))) hC ce (aj.set (w64 (Int.tdiv de 64)).toNat (orK .u64 dj (z6I .u64 1 (Int.tmod de 64)))) ae (Z0 ++ [Hq c1, Hn g2, Hn (iL (eI .u64) h2), Hs (iM (eI .u64) h2), Hn g3, Hn g4, Hn (iL (eI .u64) h3), Hs (iM (eI .u64) h3), Hs (iM (eI .u64) h3), Hl (sM (eI .u64) aj (w64 (Int.tdiv de 64)) (orK .u64 dj (z6I .u64 1 (Int.tmod de 64))))])
    ·exact yB ((Yj (P := Tryz.prog) wq 3 0 [.deref] (fa := zD fe.has_) (r := B r_) (xl := []) (xr := []) (qs := [(vt u0 (zt (eI .i64) eB x_.states_)), (vt u1 (zt F0_ eB x_.edges_)), (vt u2 (zt zH eB x_.pairs_))]) (qs' := [(vt u0 (zt (eI .i64) eB x_.states_)), (vt u1 (zt F0_ eB x_.edges_)), (vt u2 (zt zH eB x_.pairs_))]) (es := [(zt (eI .i64) eB x_.states_), (zt F0_ eB x_.edges_), (zt zH eB x_.pairs_)]) (es' := [(zt (eI .i64) eB x_.states_), (zt F0_ eB x_.edges_), (zt zH eB x_.pairs_)]) (.inr rfl) (z4j (by kernel_rfl)) (.cons (Zw u0 (zt (eI .i64) eB x_.states_)) (.cons (Zw u1 (zt F0_ eB x_.edges_)) (.cons (Zw u2 (zt zH eB x_.pairs_)) (.nil)))) (fun us hu => Ym hC _ _ _ h1 us hu) (some 23)).or X0) hC ce aj ae (Z0 ++ [Hq c1])
  ·obtain rfl := zi ae
   obtain rfl := hl1
   exact yB X0 hC ay aj aa [Hq c0]
def wc : Code := (Tryz.f54.body).getD .skip
def yU : yk := spF (α := List Int × List Int) (ρ := Bool) 54 (fun x => [F8_ x.1, F8_ x.2]) (fun r => eB r) (fun x => yH x.1 x.2) [] (Um)
abbrev jg : List (Nat × T) := []
abbrev jf (s1 : List Int) (s2 : List Int) (fz : Int) : List (Nat × T) := [(0, .d (eSl 1 false (eI .u64) s1)), (1, .d (eSl 1 false (eI .u64) s2)), (12, .d (I ((s1.length : Nat) : Int))), (13, .d (I fz))]
theorem kB (hC : zL Tryz.prog ctr) : yU.Ok Tryz.prog := by
 refine zS ?_
 rintro ⟨s1, s2⟩ r0 aa
 try unfold yH at aa
 refine yO true [(4, none)] wc 26 Tryz.func54 fun E hE => ?_
 let Z0 : List HO := [Ha (lnM (eI .u64) s1), Ha (lnM (eI .u64) s2)]
 rcases y8 aa with ⟨c0, aa⟩ | ⟨c0, aa⟩
 ·obtain rfl := zi aa
  exact yE X0 hC hE (Z0 ++ [Hq c0])
 ·refine yJ X0 hC wc [1,1] [] [] (fun z : Unit => wa = some r0) (fun z => jg) [(0, .d (eSl 1 false (eI .u64) s1)), (1, .d (eSl 1 false (eI .u64) s2))] (Z0 ++ [Hq c0, Hh (.cut 0)]) ?_ fun J1 ay => ?_
  ·rintro ⟨⟩ aa
   unfold wa at aa
   obtain rfl := zi aa
   exact yE X0 hC hE []
  ·obtain ⟨t2, ht2, aa⟩ := zm aa
   refine yL X0 hC wc [1,1,2,1,0] [J1] (fun s => y9 s1 s2 s) (fun x => jf s1 s2 x) 0 ht2  [Ha (lnM (eI .u64) s1)] ?_
   rintro fz m2 bg ae hl1 J2 a6
   try unfold y9 at ae
   rcases y8 ae with ⟨c1, ae⟩ | ⟨c1, ae⟩
   ·obtain ⟨gm, h0, ae⟩ := zm ae
    obtain ⟨fw, h1, ae⟩ := zm ae
    let Z1 : List HO := [Hq c1, Hi (eI .u64) h0, Hi (eI .u64) h1]
    rcases y8 ae with ⟨c2, ae⟩ | ⟨c2, ae⟩
    ·obtain rfl := zi ae
     obtain rfl := hl1
     obtain rfl := zi aa
     exact yE X0 hC hE (Z1 ++ [Hq c2])
    ·obtain rfl := zi ae
     exact yB X0 hC a6 (w64 (fz + 1)) hl1 (Z1 ++ [Hq c2])
   ·obtain rfl := zi ae
    obtain rfl := hl1
    exact yB X0 hC ay () aa [Hq c1]
def kq : Code := (Tryz.f55.body).getD .skip
def yV : yk := spF (α := List Int) (ρ := List Int) 55 (fun x => [F8_ x]) (fun r => (eOs 1 false (eI .u64)) r) (fun x => yI x) [] (Kq)
theorem kC (hC : zL Tryz.prog ctr) : yV.Ok Tryz.prog := by
 refine zS ?_
 rintro s_ r0 aa
 try unfold yI at aa
 refine yO true [(2, none)] kq 8 Tryz.func55 fun E hE => ?_
 refine z2X rfl 0 (sz := 1) (t := false) (es := s_.map (eI .u64)) (by kernel_rfl) fun az hv0 hn => ?_
 rcases hn with ⟨hn0, he0⟩ | hn0
 ·obtain ⟨_, aa⟩ := gdE aa
  rw [show s_ = [] from List.map_eq_nil_iff.1 he0] at aa
  obtain rfl := zi aa
  exact yEx ((zbs zC 4 91 (by kernel_rfl) hn0).or ((xMv Tryz.prog 3 0 az hv0).or X0)) hC hE [Hn (rfl : some az = some az), Hn (⟨rfl, rfl⟩ : T.d (.atom az) = T.d (.atom az) ∧ T.d (.atom (.slice none 0 0)) = T.d (.atom (.slice none 0 0))), qT] (eOs 1 true (eI .u64) []) (show LeV (eOs 1 true (eI .u64) []) (eOs 1 false (eI .u64) ([] : List Int)) from inferInstance)
 ·obtain ⟨g0, aa⟩ := gdE aa
  obtain rfl := zi aa
  exact yE ((zbs zC 4 91 (by kernel_rfl) hn0).or ((xMv Tryz.prog 3 0 az hv0).or X0)) hC hE [Hn (rfl : some az = some az), Hn (⟨rfl, rfl⟩ : T.d (.atom az) = T.d (.atom az) ∧ T.d (.atom (.slice none 0 0)) = T.d (.atom (.slice none 0 0))), qF, Hn (dM (eI .u64) s_), Hn (aL (eI .u64) (eI .u64) g0), Hl (aM0 (eI .u64) s_)]
def yh : Code := (Tryz.f38.body).getD .skip
def wu : yk := spF (α := zz × List Int × Int × Int) (ρ := List Int × Bool) 38 (fun x => [zeE x.1, F8_ x.2.1, (eI .i64) x.2.2.1, (eI .i64) x.2.2.2]) (fun r => .tup [F7_ r.1, eB r.2]) (fun x => vF x.1 x.2.1 x.2.2.1 x.2.2.2) [] (zhs)
abbrev kb : List (Nat × T) := []
abbrev ka (c_ : zz) (bv : List Int) (many : Int) (i_ : Int) : List (Nat × T) := [(0, .d (.sptr (z9o c_))), (1, .d (eSl 1 false (eI .u64) bv)), (3, .d (I many)), (10, .d (I i_))]
abbrev k9 (c_ : zz) (bv : List Int) (many : Int) (i_ : Int) (eg : List Int) : List (Nat × T) := [(0, .d (.sptr (z9o c_))), (1, .d (eSl 1 false (eI .u64) bv)), (3, .d (I many)), (10, .d (I i_)), (11, .own (eOs 1 false (eI .u64) eg))]
abbrev k7 (c_ : zz) (bv : List Int) (many : Int) (i_ : Int) (cw : List Int) (dl : List Int) (dh : Int) : List (Nat × T) := [(0, .d (.sptr (z9o c_))), (1, .d (eSl 1 false (eI .u64) bv)), (3, .d (I many)), (10, .d (I i_)), (11, .own (eOs 1 false (eI .u64) dl)), (44, .d (eSl 1 false (eI .u64) cw)), (45, .d (I ((cw.length : Nat) : Int))), (46, .d (I dh))]
abbrev k8 (c_ : zz) (bv : List Int) (many : Int) (i_ : Int) : List (Nat × T) := [(0, .d (.sptr (z9o c_))), (1, .d (eSl 1 false (eI .u64) bv)), (3, .d (I many)), (10, .d (I i_))]
theorem js : ∀ (x y : zz × List Int × Int × Int), (fun x => [zeE x.1, F8_ x.2.1, (eI .i64) x.2.2.1, (eI .i64) x.2.2.2]) x = (fun x => [zeE x.1, F8_ x.2.1, (eI .i64) x.2.2.1, (eI .i64) x.2.2.2]) y → x = y := zhs
def w9 (ct : zz → (List Int) → Int → Int → Option (List Int × Bool)) : yk := spF (α := zz × List Int × Int × Int) (ρ := List Int × Bool) 38 (fun x => [zeE x.1, F8_ x.2.1, (eI .i64) x.2.2.1, (eI .i64) x.2.2.2]) (fun r => .tup [F7_ r.1, eB r.2]) (fun x => ct x.1 x.2.1 x.2.2.1 x.2.2.2) [] (by
 intro x y h
 exact (congrArg (fun (p : zz × List Int × Int × Int) => p) (show x = y from js x y h)))
theorem kE (hC : zL Tryz.prog ctr) (h0h : ctr.Has yU) (h0i : ctr.Has yV) (ct : zz → (List Int) → Int → Int → Option (List Int × Bool)) (h03 : ctr.Has (w9 ct)) : (w9 (y7 ct)).Ok Tryz.prog := by
 refine zS ?_
 rintro ⟨c_, bv, from_, many⟩ r0 aa
 try unfold y7 at aa
 refine yO false [(8, none), (9, none)] yh 74 Tryz.func38 fun E hE => ?_
 rcases y8 aa with ⟨c0, aa⟩ | ⟨c0, aa⟩
 ·obtain ⟨r_, h0, aa⟩ := zm aa
  obtain rfl := zi aa
  exact yEx X0 hC hE [Hq c0, Hc h0h (x := (bv, c_.want_)) h0 (loC F8_ bv <| loC F8_ c_.want_ <| loN), Hm (shM (eI .i64) (eI .i64) [])] (.tup [eSl 1 true (eI .i64) [], B r_]) (show LeV (.tup [eSl 1 true (eI .i64) [], B r_]) (.tup [eSl 1 false (eI .i64) ([] : List Int), B r_]) from inferInstance)
 ·refine yJ X0 hC yh [1,1] [] [] (fun z : Unit => wz = some r0) (fun z => kb) [(0, .d (.sptr (z9o c_))), (1, .d (eSl 1 false (eI .u64) bv)), (2, .d (I from_)), (3, .d (I many))] [Hq c0, Hh (.cut 0)] ?_ fun J1 ay => ?_
  ·rintro ⟨⟩ aa
   unfold wz at aa
   obtain rfl := zi aa
   exact yEx X0 hC hE [Hm (shM (eI .i64) (eI .i64) [])] (.tup [eSl 1 true (eI .i64) [], B false]) (show LeV (.tup [eSl 1 true (eI .i64) [], B false]) (.tup [eSl 1 false (eI .i64) ([] : List Int), B false]) from inferInstance)
  ·obtain ⟨t2, ht2, aa⟩ := zm aa
   refine yL X0 hC yh [1,1,2,1,0] [J1] (fun s => y5 c_ bv many ct s) (fun x => k8 c_ bv many x) from_ ht2  [] ?_
   rintro i_ m2 bg ae hl1 J2 a6
   try unfold y5 at ae
   let Z0 : List HO := [Ha (lnM F8_ c_.sets_)]
   rcases y8 ae with ⟨c1, ae⟩ | ⟨c1, ae⟩
   ·refine yJ X0 hC yh [1,1,2,1,0,0,1] [J1, J2] [0,1,3,10] (fun z : Unit => yC i_ = some bg) (fun z => ka c_ bv many i_) [(0, .d (.sptr (z9o c_))), (1, .d (eSl 1 false (eI .u64) bv)), (3, .d (I many)), (10, .d (I i_))] (Z0 ++ [Hq c1, Hh (.cut 0)]) ?_ fun J3 ce => ?_
    ·rintro ⟨⟩ ae
     unfold yC at ae
     obtain rfl := zi ae
     exact yB X0 hC a6 (w64 (i_ + 1)) hl1 []
    ·obtain ⟨ah, h1, ae⟩ := zm ae
     refine yJ X0 hC yh [1,1,2,1,0,0,1,2,0,1] [J1, J2, J3] [0,1,3,10,11] (fun z : List Int => yg c_ many ct i_ z = some bg) (fun z => k9 c_ bv many i_ z) [(0, .d (.sptr (z9o c_))), (1, .d (eSl 1 false (eI .u64) bv)), (3, .d (I many)), (10, .d (I i_)), (11, .own (eOs 1 false (eI .u64) ah))] [Hc h0i (x := bv) h1 (loC F8_ bv <| loN), Hh (.cut 0)] ?_ fun J4 d0 => ?_
     ·rintro eg ae
      unfold yg at ae
      obtain ⟨am, h2, ae⟩ := zm ae
      let Z1 : List HO := [Hg (Kr h03), Hm (shM (eI .u64) (eI .u64) eg), Hs (Ks h03 (x := (c_, eg, w64 (i_ + 1), w64 (many - 1))) h2 (loC zeE c_ <| loC F8_ eg <| loC (eI .i64) (w64 (i_ + 1)) <| loC (eI .i64) (w64 (many - 1)) <| loN)), Hm (shM (eI .u64) (eI .u64) eg)]
      rcases y8 ae with ⟨c2, ae⟩ | ⟨c2, ae⟩
      ·obtain ⟨g0, ae⟩ := gdE ae
       obtain rfl := zi ae
       obtain rfl := hl1
       obtain rfl := zi aa
       exact yE X0 hC hE (Z1 ++ [Hq c2, Hn (dM (eI .i64) am.1), Hn (aL (eI .i64) (eI .i64) g0), Hl (aM (eI .i64) ([i_] : List Int) am.1), Hm (shM (eI .i64) (eI .i64) (([i_]) ++ am.1))])
      ·exact yB X0 hC ce () ae (Z1 ++ [Hq c2])
     ·obtain ⟨cw, h3, ae⟩ := zm ae
      obtain ⟨t5, ht5, ae⟩ := zm ae
      refine yL X0 hC yh [1,1,2,1,0,0,1,2,0,1,2,1,0] [J1, J2, J3, J4] (fun s => y4 cw s.1 s.2) (fun x => k7 c_ bv many i_ cw x.1 x.2) (ah,0) ht5  [Hi F8_ h3, Ha (lnM (eI .u64) cw)] ?_
      rintro ⟨dl, dh⟩ m5 ff ai hl2 J5 dn
      try unfold y4 at ai
      rcases y8 ai with ⟨c3, ai⟩ | ⟨c3, ai⟩
      ·obtain ⟨em, h4, ai⟩ := zm ai
       obtain ⟨fp, h5, ai⟩ := zm ai
       obtain ⟨ib, h6, ai⟩ := zm ai
       obtain rfl := zi ai
       exact yB ((zgw Tryz.prog).or X0) hC dn ((dl.set dh.toNat (orK .u64 fp em)), w64 (dh + 1)) hl2 [Hq c3, Hi (eI .u64) h4, Hn (iL (eI .u64) h5), Hs (iM (eI .u64) h5), Hn (iL (eI .u64) h6), Hs (iM (eI .u64) h6), Hs (iM (eI .u64) h6), Hl (sM (eI .u64) dl dh (orK .u64 fp em))]
      ·obtain rfl := zi ai
       obtain rfl := hl2
       exact yB X0 hC d0 dl ae [Hq c3]
   ·obtain rfl := zi ae
    obtain rfl := hl1
    exact yB X0 hC ay () aa (Z0 ++ [Hq c1])
theorem ZP (hC : zL Tryz.prog ctr) (h0h : ctr.Has yU) (h0i : ctr.Has yV) : wu.Ok Tryz.prog := by
 have H : ∀ n, (w9 (zR n)).Ok Tryz.prog := by
  intro n
  induction n with
  | zero => exact zS fun _ _ h => nomatch (show none = some _ from h)
  | succ n ih => exact kE (Ctr.add_ok hC ih) (h0h.add (by show (54 : Nat) ≠ 38; decide)) (h0i.add (by show (55 : Nat) ≠ 38; decide)) _ (Ctr.add_has _ _)
 exact zS fun x r h => Ja (H _) h
def y6 : Code := (Tryz.f15.body).getD .skip
def vM : yk := spF (α := z6 × List (List Int) × Int) (ρ := List (List Int) × Int) 15 (fun x => [yj x.1, qA x.2.1, (eI .i64) x.2.2]) (fun r => .tup [z32 r.1, (eI .i64) r.2]) (fun x => wT x.1 x.2.1 x.2.2) [] (z5R)
abbrev Xz : List (Nat × T) := []
abbrev Xy (l_ : List (List Int)) (ah : List za) (au : List Int) (cj : List (List Int)) (dz : Int) : List (Nat × T) := [(1, .d (eSl 1 false F7_ l_)), (9, .d (eSl 5 false (zc F7_ zH zD) ah)), (10, .d (.sptr (.agg [eSl 1 false F3_ cj, eSl 1 true (eI .u64) au]))), (68, .d (I (w64 (((l_.length : Nat) : Int) + 1)))), (69, .d (I dz))]
abbrev Xx (bp : List Int × Bool) (out : List (List Int)) : List (Nat × T) := [(16, .own (z6M 1 ((bp.1.length : Nat) : Int).toNat F2_ out))]
abbrev Xv (l_ : List (List Int)) (bp : List Int × Bool) (aj : List (List Int)) (gn : Int) : List (Nat × T) := [(1, .d (eSl 1 false F7_ l_)), (16, .own (z6M 1 ((bp.1.length : Nat) : Int).toNat F2_ aj)), (86, .d (eSl 1 false (eI .i64) bp.1)), (87, .d (I ((bp.1.length : Nat) : Int))), (88, .d (I gn))]
abbrev Xw (l_ : List (List Int)) (ah : List za) (au : List Int) (cj : List (List Int)) (dz : Int) : List (Nat × T) := [(1, .d (eSl 1 false F7_ l_)), (9, .d (eSl 5 false (zc F7_ zH zD) ah)), (10, .d (.sptr (.agg [eSl 1 false F3_ cj, eSl 1 true (eI .u64) au]))), (68, .d (I (w64 (((l_.length : Nat) : Int) + 1)))), (69, .d (I dz))]
abbrev XA (l_ : List (List Int)) (ah : List za) (au : List Int) (cj : List (List Int)) : List (Nat × T) := [(1, .d (eSl 1 false F7_ l_)), (9, .d (eSl 5 false (zc F7_ zH zD) ah)), (10, .own (.box (.agg [eOs 1 false F3_ cj, eSl 1 true (eI .u64) au])))]
abbrev Xu (m_ : z6) (l_ : List (List Int)) (ah : List za) (au : List Int) (cr : List (List Int)) (dh : Int) : List (Nat × T) := [(1, .d (eSl 1 false F7_ l_)), (3, .own (.box (yj m_))), (9, .d (eSl 5 false (zc F7_ zH zD) ah)), (10, .own (.box (.agg [eOs 1 false F3_ cr, eSl 1 true (eI .u64) au]))), (44, .d (eSl 1 false F7_ l_)), (45, .d (I ((l_.length : Nat) : Int))), (46, .d (I dh))]
def zB : XH Tryz.prog := ((z47 zC (.inl 99) [98]).or X0)
theorem Vi (hC : zL Tryz.prog ctr) (h04 : ctr.Has xY) (h05 : ctr.Has wK) (h02 : ctr.Has xm) (h0g : ctr.Has uC) (h0K : ctr.Has wu) (h01 : ctr.Has yl) (h00 : ctr.Has yp) : vM.Ok Tryz.prog := by
 refine zS ?_
 rintro ⟨m_, l_, goal⟩ r0 aa
 try unfold wT at aa
 refine yO false [(6, none), (7, none)] y6 104 Tryz.func15 fun E hE => ?_
 obtain ⟨r_, h0, aa⟩ := zm aa
 let Z0 : List HO := [Hc h04 (x := (m_, l_)) h0 (loC yj m_ <| loC qA l_ <| loN)]
 rcases y8 aa with ⟨c0, aa⟩ | ⟨c0, aa⟩
 ·obtain rfl := zi aa
  exact yEx zB hC hE (Z0 ++ [Hq c0, Hm (shM F7_ F7_ [])]) (.tup [eSl 1 true F2_ [], I r_]) (show LeV (.tup [eSl 1 true F2_ [], I r_]) (.tup [eSl 1 true F2_ ([] : List (List Int)), I r_]) from inferInstance)
 ·rcases y8 aa with ⟨c1, aa⟩ | ⟨c1, aa⟩
  ·obtain rfl := zi aa
   exact yEx zB hC hE (Z0 ++ [Hq c0, Hq c1, Hq c1, Hq c1, qT, Hm (shM F7_ F7_ [])]) (.tup [eSl 1 true F2_ [], I 1]) (show LeV (.tup [eSl 1 true F2_ [], I 1]) (.tup [eSl 1 true F2_ ([] : List (List Int)), I 1]) from inferInstance)
  ·let Z1 : List HO := (Z0 ++ [Hq c0, Hq c1, Hq c1, Hq c1])
   rcases y8 aa with ⟨c2, aa⟩ | ⟨c2, aa⟩
   ·obtain rfl := zi aa
    exact yEx zB hC hE (Z1 ++ [Hq c2, Hm (shM F7_ F7_ [])]) (.tup [eSl 1 true F2_ [], I 1]) (show LeV (.tup [eSl 1 true F2_ [], I 1]) (.tup [eSl 1 true F2_ ([] : List (List Int)), I 1]) from inferInstance)
   ·let Z2 : List HO := (Z1 ++ [Hq c2, Ha (lnM F7_ l_)])
    rcases y8 aa with ⟨c3, aa⟩ | ⟨c3, aa⟩
    ·obtain rfl := zi aa
     exact yEx zB hC hE (Z2 ++ [Hq c3, Hm (shM F7_ F7_ [])]) (.tup [eSl 1 true F2_ [], I 3]) (show LeV (.tup [eSl 1 true F2_ [], I 3]) (.tup [eSl 1 true F2_ ([] : List (List Int)), I 3]) from inferInstance)
    ·obtain ⟨ah, h1, aa⟩ := zm aa
     obtain ⟨am, h2, aa⟩ := zm aa
     obtain ⟨au, h3, aa⟩ := zm aa
     refine yJ ((Yj (P := Tryz.prog) wq 40 1 [] (fa := .fn 37 []) (r := eSl 1 true (eI .u64) au) (xl := [(eSl 5 false (zc F7_ zH zD)) ah]) (xr := []) (qs := [(yd (zt (eI .i64) eB am.states_)), (yd (zt F0_ eB am.edges_)), (yd (zt zH eB am.pairs_))]) (qs' := [(yd (zt (eI .i64) eB am.states_)), (yd (zt F0_ eB am.edges_)), (yd (zt zH eB am.pairs_))]) (es := [(zt (eI .i64) eB am.states_), (zt F0_ eB am.edges_), (zt zH eB am.pairs_)]) (es' := [(zt (eI .i64) eB am.states_), (zt F0_ eB am.edges_), (zt zH eB am.pairs_)]) (.inl rfl) (z4j (by kernel_rfl)) (.cons (wh (zt (eI .i64) eB am.states_)) (.cons (wh (zt F0_ eB am.edges_)) (.cons (wh (zt zH eB am.pairs_)) (.nil)))) (fun us hu => uZ hC _ _ _ h3 us hu) (some 41)).or zB) hC y6 [1,1,1,1,1,1] [] [1,9,10] (fun z : List (List Int) => vT l_ ah au z = some r0) (fun z => XA l_ ah au z) [(1, .d (eSl 1 false F7_ l_)), (3, .own (.box (yj m_))), (9, .d (eSl 5 false (zc F7_ zH zD) ah)), (10, .own (.box (.agg [eOs 1 true F8_ [], eSl 1 true (eI .u64) au])))] (Z2 ++ [Hq c3, Hc h05 (x := (m_, goal)) h1 (loC yj m_ <| loC (eI .i64) goal <| loN), Hc h02 (x := (m_, l_)) h2 (loC yj m_ <| loC qA l_ <| loN), Hm (shM (zc F7_ zH zD) (zc F7_ zH zD) ah), Hn (⟨rfl, leP (show VS [(eSl 5 false (zc F7_ zH zD)) ah] [(eSl 5 false (zc F7_ zH zD)) ah] from inferInstance), leP (show VS [] [] from inferInstance), rfl, rfl⟩ : ([.fn 37 []] : List A) = [.fn 37 []] ∧ LeP [(eSl 5 false (zc F7_ zH zD)) ah] [(eSl 5 false (zc F7_ zH zD)) ah] ∧ LeP [] [] ∧ T.als 40 [] 1 1 = T.als 40 [] 1 1 ∧ (some (.agg [.opq (yd (zt (eI .i64) eB am.states_)), .opq (yd (zt F0_ eB am.edges_)), .opq (yd (zt zH eB am.pairs_))]) : Option A) = some (.agg [.opq (yd (zt (eI .i64) eB am.states_)), .opq (yd (zt F0_ eB am.edges_)), .opq (yd (zt zH eB am.pairs_))])), Hh (.cut 0)]) ?_ fun J1 ay => ?_
     ·rintro cj aa
      unfold vT at aa
      refine yJ zB hC y6 [1,1,1,1,1,1,1] [] [] (fun z : Unit => qq = some r0) (fun z => Xz) [(1, .d (eSl 1 false F7_ l_)), (9, .d (eSl 5 false (zc F7_ zH zD) ah)), (10, .own (.box (.agg [eOs 1 false F3_ cj, eSl 1 true (eI .u64) au])))] [Hh (.cut 0)] ?_ fun J2 a6 => ?_
      ·rintro ⟨⟩ aa
       unfold qq at aa
       obtain rfl := zi aa
       exact yEx zB hC hE [Hm (shM F7_ F7_ [])] (.tup [eSl 1 true F2_ [], I 0]) (show LeV (.tup [eSl 1 true F2_ [], I 0]) (.tup [eSl 1 true F2_ ([] : List (List Int)), I 0]) from inferInstance)
      ·obtain ⟨t3, ht3, aa⟩ := zm aa
       refine yL zB hC y6 [1,1,1,1,1,1,1,2,1,0] [J2] (fun s => x9 l_ ah au cj s) (fun x => Xw l_ ah au cj x) 0 ht3  [Ha (lnM F7_ l_), Hh (.n 1 [10]), Hm (shM F3_ F3_ cj)] ?_
       rintro dz m3 bg ae hl1 J3 ce
       try unfold x9 at ae
       rcases y8 ae with ⟨c4, ae⟩ | ⟨c4, ae⟩
       ·refine yJ zB hC y6 [1,1,1,1,1,1,1,2,1,0,0,1,1] [J2, J3] [1,9,10,68,69] (fun z : Unit => wC dz = some bg) (fun z => Xy l_ ah au cj dz) [(1, .d (eSl 1 false F7_ l_)), (9, .d (eSl 5 false (zc F7_ zH zD) ah)), (10, .d (.sptr (.agg [eSl 1 false F3_ cj, eSl 1 true (eI .u64) au]))), (68, .d (I (w64 (((l_.length : Nat) : Int) + 1)))), (69, .d (I dz))] [Hq c4, Hh (.cut 0)] ?_ fun J4 d0 => ?_
        ·rintro ⟨⟩ ae
         unfold wC at ae
         obtain rfl := zi ae
         exact yB zB hC ce (w64 (dz + 1)) hl1 []
        ·obtain ⟨aw, h4, ae⟩ := zm ae
         obtain ⟨bz, h5, ae⟩ := zm ae
         obtain ⟨bp, h6, ae⟩ := zm ae
         let Z3 : List HO := [Hc h0g (x := ()) h4 (loN), Hn (⟨rfl, leP (show VS [(eSl 5 false (zc F7_ zH zD)) ah] [(eSl 5 false (zc F7_ zH zD)) ah] from inferInstance), leP (show VS [] [] from inferInstance), rfl, rfl⟩ : ([.fn 37 []] : List A) = [.fn 37 []] ∧ LeP [(eSl 5 false (zc F7_ zH zD)) ah] [(eSl 5 false (zc F7_ zH zD)) ah] ∧ LeP [] [] ∧ T.als 75 [] 1 1 = T.als 75 [] 1 1 ∧ (some (.agg [.opq (yd (zt (eI .i64) eB aw.states_)), .opq (yd (zt F0_ eB aw.edges_)), .opq (yd (zt zH eB aw.pairs_))]) : Option A) = some (.agg [.opq (yd (zt (eI .i64) eB aw.states_)), .opq (yd (zt F0_ eB aw.edges_)), .opq (yd (zt zH eB aw.pairs_))])), Hc h0K (x := ((zz.mk cj au), bz,0, dz)) h6 (loC (eSp (x5 (eSl 1 false F3_) F3_)) (zz.mk cj au) <| loC F3_ bz <| loC (eI .i64) 0 <| loC (eI .i64) dz <| loN)]
         rcases y8 ae with ⟨c5, ae⟩ | ⟨c5, ae⟩
         ·exact yB ((Yj (P := Tryz.prog) wq 75 1 [] (fa := .fn 37 []) (r := eSl 1 true (eI .u64) bz) (xl := [(eSl 5 false (zc F7_ zH zD)) ah]) (xr := []) (qs := [(yd (zt (eI .i64) eB aw.states_)), (yd (zt F0_ eB aw.edges_)), (yd (zt zH eB aw.pairs_))]) (qs' := [(yd (zt (eI .i64) eB aw.states_)), (yd (zt F0_ eB aw.edges_)), (yd (zt zH eB aw.pairs_))]) (es := [(zt (eI .i64) eB aw.states_), (zt F0_ eB aw.edges_), (zt zH eB aw.pairs_)]) (es' := [(zt (eI .i64) eB aw.states_), (zt F0_ eB aw.edges_), (zt zH eB aw.pairs_)]) (.inl rfl) (z4j (by kernel_rfl)) (.cons (wh (zt (eI .i64) eB aw.states_)) (.cons (wh (zt F0_ eB aw.edges_)) (.cons (wh (zt zH eB aw.pairs_)) (.nil)))) (fun us hu => uZ hC _ _ _ h5 us hu) (some 76)).or zB) hC d0 () ae (Z3 ++ [Hq c5])
         ·obtain ⟨g0, ae⟩ := gdE ae
          refine yJ ((xCm zC 85 1).or ((Yj (P := Tryz.prog) wq 75 1 [] (fa := .fn 37 []) (r := eSl 1 true (eI .u64) bz) (xl := [(eSl 5 false (zc F7_ zH zD)) ah]) (xr := []) (qs := [(yd (zt (eI .i64) eB aw.states_)), (yd (zt F0_ eB aw.edges_)), (yd (zt zH eB aw.pairs_))]) (qs' := [(yd (zt (eI .i64) eB aw.states_)), (yd (zt F0_ eB aw.edges_)), (yd (zt zH eB aw.pairs_))]) (es := [(zt (eI .i64) eB aw.states_), (zt F0_ eB aw.edges_), (zt zH eB aw.pairs_)]) (es' := [(zt (eI .i64) eB aw.states_), (zt F0_ eB aw.edges_), (zt zH eB aw.pairs_)]) (.inl rfl) (z4j (by kernel_rfl)) (.cons (wh (zt (eI .i64) eB aw.states_)) (.cons (wh (zt F0_ eB aw.edges_)) (.cons (wh (zt zH eB aw.pairs_)) (.nil)))) (fun us hu => uZ hC _ _ _ h5 us hu) (some 76)).or zB)) hC y6 [1,1,1,1,1,1,1,2,1,0,0,1,1,2,0,1,1,1,1] [J2, J3, J4] [16] (fun z : List (List Int) => wB bp z = some bg) (fun z => Xx bp z) [(1, .d (eSl 1 false F7_ l_)), (14, .d (eSl 1 false (eI .i64) bp.1)), (16, .own (z6M 1 ((bp.1.length : Nat) : Int).toNat F7_ ([] : List (List Int))))] (Z3 ++ [Hq c5, Ha (lnM (eI .i64) bp.1), Hn (zhz g0), Hh (.cut 0)]) ?_ fun J5 dn => ?_
          ·rintro out ae
           unfold wB at ae
           obtain ⟨g1, ae⟩ := gdE ae
           obtain rfl := zi ae
           obtain rfl := hl1
           obtain rfl := zi aa
           exact yE ((xCe Tryz.prog 6 1 (((bp.1.length : Nat) : Int).toNat) (out.map F2_)).or zB) hC hE [Hn (⟨rfl, zhB F2_ g1⟩ : z6M 1 (((bp.1.length : Nat) : Int).toNat) F2_ out = A.opq (z2b 1 (((bp.1.length : Nat) : Int).toNat) (out.map F2_)).q ∧ (out.map F2_).length = ((bp.1.length : Nat) : Int).toNat), Hm (shM F2_ F2_ out)]
          ·obtain ⟨t6, ht6, ae⟩ := zm ae
           refine yL zB hC y6 [1,1,1,1,1,1,1,2,1,0,0,1,1,2,0,1,1,1,1,2,1,0] [J2, J3, J4, J5] (fun s => x6 l_ bp s.1 s.2) (fun x => Xv l_ bp x.1 x.2) (([] : List (List Int)), 0) ht6  [Ha (lnM (eI .i64) bp.1)] ?_
           rintro ⟨aj, gn⟩ m6 ff ai hl2 J6 ew
           try unfold x6 at ai
           rcases y8 ai with ⟨c6, ai⟩ | ⟨c6, ai⟩
           ·obtain ⟨u_, h7, ai⟩ := zm ai
            obtain ⟨ax, h8, ai⟩ := zm ai
            obtain ⟨dx, h9, ai⟩ := zm ai
            obtain ⟨dr, h10, ai⟩ := zm ai
            obtain ⟨g2, ai⟩ := gdE ai
            obtain rfl := zi ai
            exact yB ((xCa zC 100 1 (((bp.1.length : Nat) : Int).toNat) (aj.map F2_) ((aj ++ ([dr] : List (List Int))).map F2_)).or zB) hC ew ((aj ++ ([dr] : List (List Int))), w64 (gn + 1)) hl2 [Hq c6, Hi (eI .i64) h7, Hi F7_ h8, Hc h01 (x := ax) h9 (loC F7_ ax <| loN), Hg (Kr h00), Hm (shM (eI .i64) (eI .i64) dx), Hs (Ks h00 (x := dx) h10 (loC F7_ dx <| loN)), Hm (shM (eI .i64) (eI .i64) dx), Hn (⟨rfl, dM F2_ ([dr] : List (List Int)), rfl⟩ : 1 = 1 ∧ A.areD (([dr] : List (List Int)).map F2_) = true ∧ true = true), Hn (⟨rfl, zhA F2_ F2_ g2⟩ : z6M 1 (((bp.1.length : Nat) : Int).toNat) F2_ aj = A.opq (z2b 1 (((bp.1.length : Nat) : Int).toNat) (aj.map F2_)).q ∧ (aj.map F2_).length + (([dr] : List (List Int)).map F2_).length ≤ ((bp.1.length : Nat) : Int).toNat), Hn (aM F2_ aj ([dr] : List (List Int)))]
           ·obtain rfl := zi ai
            obtain rfl := hl2
            exact yB zB hC dn aj ae [Hq c6]
       ·obtain rfl := zi ae
        obtain rfl := hl1
        exact yB zB hC a6 () aa [Hq c4]
     ·obtain ⟨t7, ht7, aa⟩ := zm aa
      refine yLx zB hC y6 [1,1,1,1,1,1,2,1,0] [J1] (fun s => xJ m_ l_ ah s.1 s.2) (fun x => Xu m_ l_ ah au x.1 x.2) (([] : List (List Int)), 0) ht7 [(1, .d (eSl 1 false F7_ l_)), (3, .own (.box (yj m_))), (9, .d (eSl 5 false (zc F7_ zH zD) ah)), (10, .own (.box (.agg [eOs 1 true F3_ [], eSl 1 true (eI .u64) au]))), (44, .d (eSl 1 false F7_ l_)), (45, .d (I ((l_.length : Nat) : Int))), (46, .d (I 0))] inferInstance [Ha (lnM F7_ l_)] ?_
      rintro ⟨cr, dh⟩ m7 bg ae hl1 J7 fy
      try unfold xJ at ae
      rcases y8 ae with ⟨c7, ae⟩ | ⟨c7, ae⟩
      ·refine yA zB hC y6 [1,1,1,1,1,1,2,1,0,0,1,1] [J1, J7] [(1, .d (eSl 1 false F7_ l_)), (3, .own (.box (yj m_))), (9, .d (eSl 5 false (zc F7_ zH zD) ah)), (10, .own (.box (.agg [eOs 1 false F3_ cr, eSl 1 true (eI .u64) au]))), (44, .d (eSl 1 false F7_ l_)), (45, .d (I ((l_.length : Nat) : Int))), (46, .d (I dh))] [Hq c7, Hh (.cut 0)] ?_
       obtain ⟨co, h11, ae⟩ := zm ae
       obtain ⟨cn, h12, ae⟩ := zm ae
       obtain ⟨ez, h13, ae⟩ := zm ae
       obtain ⟨g3, ae⟩ := gdE ae
       refine z6p (by kernel_rfl) (x := (sub [1,1,1,1,1,1,2,1,0,0,1,1,0] y6)) (y := (sub [1,1,1,1,1,1,2,1,0,0,1,1,1] y6)) 10 (fun st1 => Own.canon [1,3,9,10,44,45,46] st1 = ofL [(1, .d (eSl 1 false F7_ l_)), (3, .own (.box (yj m_))), (9, .d (eSl 5 false (zc F7_ zH zD) ah)), (10, .own (.box (.agg [eOs 1 false F3_ (cr ++ ([ez] : List (List Int))), eSl 1 true (eI .u64) au]))), (44, .d (eSl 1 false F7_ l_)), (45, .d (I ((l_.length : Nat) : Int))), (46, .d (I dh))]) ⟨_, rfl⟩ (fun b10 => yF ((xNc Tryz.prog 63 10 (z5m b10)).or ((Yj (P := Tryz.prog) wq 59 1 [] (fa := .fn 37 []) (r := eSl 1 true (eI .u64) ez) (xl := [(eSl 5 false (zc F7_ zH zD)) ah]) (xr := []) (qs := [(yd (zt (eI .i64) eB cn.states_)), (yd (zt F0_ eB cn.edges_)), (yd (zt zH eB cn.pairs_))]) (qs' := [(yd (zt (eI .i64) eB cn.states_)), (yd (zt F0_ eB cn.edges_)), (yd (zt zH eB cn.pairs_))]) (es := [(zt (eI .i64) eB cn.states_), (zt F0_ eB cn.edges_), (zt zH eB cn.pairs_)]) (es' := [(zt (eI .i64) eB cn.states_), (zt F0_ eB cn.edges_), (zt zH eB cn.pairs_)]) (.inl rfl) (z4j (by kernel_rfl)) (.cons (wh (zt (eI .i64) eB cn.states_)) (.cons (wh (zt F0_ eB cn.edges_)) (.cons (wh (zt zH eB cn.pairs_)) (.nil)))) (fun us hu => uZ hC _ _ _ h13 us hu) (some 60)).or ((xMv Tryz.prog 50 10 (z5m b10) rfl).or zB))) hC .normal [(1, .d (eSl 1 false F7_ l_)), (3, .own (.box (yj m_))), (9, .d (eSl 5 false (zc F7_ zH zD) ah)), (10, .own (.box (.agg [eOs 1 false F3_ (cr ++ ([ez] : List (List Int))), eSl 1 true (eI .u64) au]))), (44, .d (eSl 1 false F7_ l_)), (45, .d (I ((l_.length : Nat) : Int))), (46, .d (I dh))] [Hi F7_ h11, Hn (rfl : some (z5m b10) = some (z5m b10)), Hg (Kr h02), Hm (shM F7_ F7_ ([co])), Hs (Ks h02 (x := (m_, [co])) h12 (loC yj m_ <| loC zbr ([co] : List (List Int)) <| loN)), Hm (shM F7_ F7_ ([co])), Hn (⟨rfl, leP (show VS [(eSl 5 false (zc F7_ zH zD)) ah] [(eSl 5 false (zc F7_ zH zD)) ah] from inferInstance), leP (show VS [] [] from inferInstance), rfl, rfl⟩ : ([.fn 37 []] : List A) = [.fn 37 []] ∧ LeP [(eSl 5 false (zc F7_ zH zD)) ah] [(eSl 5 false (zc F7_ zH zD)) ah] ∧ LeP [] [] ∧ T.als 59 [] 1 1 = T.als 59 [] 1 1 ∧ (some (.agg [.opq (yd (zt (eI .i64) eB cn.states_)), .opq (yd (zt F0_ eB cn.edges_)), .opq (yd (zt zH eB cn.pairs_))]) : Option A) = some (.agg [.opq (yd (zt (eI .i64) eB cn.states_)), .opq (yd (zt F0_ eB cn.edges_)), .opq (yd (zt zH eB cn.pairs_))])), Hq (dM F3_ ([ez] : List (List Int))), Hn (dM F3_ ([ez] : List (List Int))), Hn (aL F3_ F3_ g3), Hl (aM F3_ cr ([ez] : List (List Int))), Hn (⟨rfl, rfl⟩ : T.d (.atom (z5m b10)) = T.d (.atom (z5m b10)) ∧ some (z5m b10) = some (z5m b10))] fun st0 h0 => ⟨rfl, h0⟩) fun st1 h1 => z6r h1 ?_
       obtain rfl := zi ae
       exact yB zB hC fy ((cr ++ ([ez] : List (List Int))), w64 (dh + 1)) hl1 []
      ·obtain rfl := zi ae
       obtain rfl := hl1
       exact yB zB hC ay cr aa [Hq c7]
def z0T : Code := (Tryz.f84.body).getD .skip
def kG : yk := spF (α := z6 × Int × Int) (ρ := ze) 84 (fun x => [yj x.1, (eI .i64) x.2.1, (eI .i64) x.2.2]) (fun r => F9_ r) (fun x => Yp x.1 x.2.1 x.2.2) [] (z5R)
theorem z1d (hC : zL Tryz.prog ctr) : kG.Ok Tryz.prog := by
 refine zS ?_
 rintro ⟨m_, s_, i_⟩ r0 aa
 try unfold Yp at aa
 refine yO false [(6, some 105)] z0T 18 Tryz.func84 fun E hE => ?_
 rcases y8 aa with ⟨c0, aa⟩ | ⟨c0, aa⟩
 ·obtain rfl := zi aa
  exact yE X0 hC hE [Hq c0]
 ·obtain ⟨ar, h0, aa⟩ := zm aa
  obtain ⟨ak, h1, aa⟩ := zm aa
  obtain rfl := zi aa
  exact yE X0 hC hE [Hq c0, Hi uf h0, Hi F9_ h1]
def Kw : Code := (Tryz.f72.body).getD .skip
def Y7 : yk := spF (α := z6 × Int × List Int) (ρ := Int) 72 (fun x => [yj x.1, (eI .i64) x.2.1, F7_ x.2.2]) (fun r => (eI .i64) r) (fun x => YX x.1 x.2.1 x.2.2) [] (z5R)
theorem Vm : ∀ (x y : z6 × Int × List Int), (fun x => [yj x.1, (eI .i64) x.2.1, F7_ x.2.2]) x = (fun x => [yj x.1, (eI .i64) x.2.1, F7_ x.2.2]) y → x = y := z5R
def ki (ct : z6 → Int → (List Int) → Option Int) : yk := spF (α := z6 × Int × List Int) (ρ := Int) 72 (fun x => [yj x.1, (eI .i64) x.2.1, F7_ x.2.2]) (fun r => (eI .i64) r) (fun x => ct x.1 x.2.1 x.2.2) [] (by
 intro x y h
 exact (congrArg (fun (p : z6 × Int × List Int) => p) (show x = y from Vm x y h)))
theorem QS (hC : zL Tryz.prog ctr) (h0j : ctr.Has kG) (ct : z6 → Int → (List Int) → Option Int) (h03 : ctr.Has (ki ct)) : (ki (uI ct)).Ok Tryz.prog := by
 refine zS ?_
 rintro ⟨m_, s_, w_⟩ r0 aa
 try unfold uI at aa
 refine yO true [(6, none)] Kw 22 Tryz.func72 fun E hE => ?_
 rcases y8 aa with ⟨c0, aa⟩ | ⟨c0, aa⟩
 ·obtain rfl := zi aa
  exact yE X0 hC hE [Ha (lnM (eI .i64) w_), Hq c0]
 ·obtain ⟨bc, h0, aa⟩ := zm aa
  obtain ⟨r_, h1, aa⟩ := zm aa
  obtain ⟨g0, aa⟩ := gdE aa
  obtain ⟨ah, h2, aa⟩ := zm aa
  obtain rfl := zi aa
  exact yE ((zhR zC z85).or X0) hC hE [Ha (lnM (eI .i64) w_), Hq c0, Hi (eI .i64) h0, Hc h0j (x := (m_, s_, bc)) h1 (loC yj m_ <| loC (eI .i64) s_ <| loC (eI .i64) bc <| loN), Hn (slA g0), Hn (zf6 (eI .i64) g0), Ha (slE 1 false (eI .i64) w_ (1 : Int).toNat), Hc h03 (x := (m_, r_.To, (w_.drop (1 : Int).toNat))) h2 (loC yj m_ <| loC (eI .i64) r_.To <| loC F7_ (w_.drop (1 : Int).toNat) <| loN)]
theorem z0i (hC : zL Tryz.prog ctr) (h0j : ctr.Has kG) : Y7.Ok Tryz.prog := by
 have H : ∀ n, (ki (qP n)).Ok Tryz.prog := by
  intro n
  induction n with
  | zero => exact zS fun _ _ h => nomatch (show none = some _ from h)
  | succ n ih => exact QS (Ctr.add_ok hC ih) (h0j.add (by show (84 : Nat) ≠ 72; decide)) _ (Ctr.add_has _ _)
 exact zS fun x r h => Ja (H _) h
def Xb : Code := (Tryz.f71.body).getD .skip
def YO : yk := spF (α := List Int × Int) (ρ := List Int) 71 (fun x => [F7_ x.1, (eI .i64) x.2]) (fun r => F6_ r) (fun x => kY x.1 x.2) [] (Um)
abbrev Qj (out : List Int) : List (Nat × T) := [(5, .own (eOs 1 false (eI .i64) out))]
abbrev Qi (inputs : Int) (aj : List Int) (k_ : Int) : List (Nat × T) := [(1, .d (I inputs)), (5, .own (eOs 1 false (eI .i64) aj)), (6, .d (I k_))]
theorem z1c (hC : zL Tryz.prog ctr) : YO.Ok Tryz.prog := by
 refine zS ?_
 rintro ⟨w_, inputs⟩ r0 aa
 try unfold kY at aa
 refine yO true [(4, none)] Xb 37 Tryz.func71 fun E hE => ?_
 obtain ⟨g0, aa⟩ := gdE aa
 refine yJ X0 hC Xb [1,1] [] [5] (fun z : List Int => qO z = some r0) (fun z => Qj z) [(1, .d (I inputs)), (5, .own (eOs 1 false (eI .i64) w_))] [Hn (dM (eI .i64) w_), Hn (aL (eI .i64) (eI .i64) g0), Hl (aM0 (eI .i64) w_), Hh (.cut 0)] ?_ fun J1 ay => ?_
 ·rintro out aa
  unfold qO at aa
  obtain ⟨g1, aa⟩ := gdE aa
  obtain rfl := zi aa
  exact yE X0 hC hE [Hq (dM (eI .i64) ([0] : List Int)), Hn (dM (eI .i64) ([0] : List Int)), Hn (aL (eI .i64) (eI .i64) g1), Hl (aM (eI .i64) out ([0] : List Int))]
 ·obtain ⟨t2, ht2, aa⟩ := zm aa
  refine yL X0 hC Xb [1,1,2,1,0] [J1] (fun s => qN inputs s.1 s.2) (fun x => Qi inputs x.1 x.2) (w_, w64 (((w_.length : Nat) : Int) - 1)) ht2  [Ha (lnM (eI .i64) w_)] ?_
  rintro ⟨aj, k_⟩ m2 bg ae hl1 J2 a6
  try unfold qN at ae
  rcases y8 ae with ⟨c0, ae⟩ | ⟨c0, ae⟩
  ·obtain ⟨dj, h0, ae⟩ := zm ae
   let Z0 : List HO := [Hq c0, Hn (iL (eI .i64) h0), Hs (iM (eI .i64) h0)]
   rcases y8 ae with ⟨c1, ae⟩ | ⟨c1, ae⟩
   ·obtain ⟨eb, h1, ae⟩ := zm ae
    obtain ⟨io, h2, ae⟩ := zm ae
    obtain rfl := zi ae
    obtain rfl := hl1
    obtain rfl := zi aa
    exact yE X0 hC hE (Z0 ++ [Hq c1, Hn (iL (eI .i64) h1), Hs (iM (eI .i64) h1), Hn (iL (eI .i64) h2), Hs (iM (eI .i64) h2), Hs (iM (eI .i64) h2), Hl (sM (eI .i64) aj k_ (w64 (eb + 1)))])
   ·obtain ⟨ip, h3, ae⟩ := zm ae
    obtain rfl := zi ae
    exact yB X0 hC a6 ((aj.set k_.toNat 0), w64 (k_ - 1)) hl1 (Z0 ++ [Hq c1, Hn (iL (eI .i64) h3), Hs (iM (eI .i64) h3), Hs (iM (eI .i64) h3), Hl (sM (eI .i64) aj k_ 0)])
  ·obtain rfl := zi ae
   obtain rfl := hl1
   exact yB X0 hC ay aj aa [Hq c0]
def jN : Code := (Tryz.f52.body).getD .skip
def Y6 : yk := spF (α := z6 × Int) (ρ := List (List Int) × List Bool) 52 (fun x => [yj x.1, (eI .i64) x.2]) (fun r => .tup [zbr r.1, (eSl 1 true eB) r.2]) (fun x => Zu x.1 x.2) [] (Um)
abbrev UC (l_ : List (List Int)) (is : List Bool) : List (Nat × T) := [(6, .own (eOs 1 true F7_ l_)), (7, .own (eOs 1 true eB is))]
abbrev UB (m_ : z6) (from_ : Int) (w_ : List Int) (dy : List (List Int)) (gx : List Bool) : List (Nat × T) := [(1, .d (I from_)), (2, .own (.box (yj m_))), (6, .own (eOs 1 true F7_ dy)), (7, .own (eOs 1 true eB gx)), (8, .d (eSl 1 false (eI .i64) w_))]
abbrev UA (m_ : z6) (from_ : Int) (bl : List (List Int)) (cm : List Bool) (w_ : List Int) : List (Nat × T) := [(1, .d (I from_)), (2, .own (.box (yj m_))), (6, .own (eOs 1 true F7_ bl)), (7, .own (eOs 1 true eB cm)), (8, .own (eOs 1 false (eI .i64) w_))]
def wn : XH Tryz.prog := ((z47 zC (.inr 48) [8]).or X0)
theorem z0h (hC : zL Tryz.prog ctr) (h0L : ctr.Has Y7) (h0M : ctr.Has YO) : Y6.Ok Tryz.prog := by
 refine zS ?_
 rintro ⟨m_, from_⟩ r0 aa
 try unfold Zu at aa
 refine yO false [(4, none), (5, none)] jN 51 Tryz.func52 fun E hE => ?_
 obtain ⟨g0, aa⟩ := gdE aa
 obtain ⟨g1, aa⟩ := gdE aa
 refine yJ wn hC jN [1,1,1] [] [6,7] (fun z : List (List Int) × List Bool => jM z.1 z.2 = some r0) (fun z => UC z.1 z.2) [(1, .d (I from_)), (2, .own (.box (yj m_))), (6, .own (eOs 1 true F2_ (List.replicate ((m_.Rows.length : Nat) : Int).toNat ([] : List Int)))), (7, .own (eOs 1 true eB (List.replicate ((m_.Rows.length : Nat) : Int).toNat false)))] [Ha (lnM uf m_.Rows), Hn (rL g0), Ha (rM 1 F4_ ((m_.Rows.length : Nat) : Int) ([] : List Int)), Hh (.v 0 [6]), Hm (shM F4_ F2_ (List.replicate ((m_.Rows.length : Nat) : Int).toNat ([] : List Int))), Ha (lnM uf m_.Rows), Hn (rL g1), Ha (rM 1 eB ((m_.Rows.length : Nat) : Int) false), Hh (.cut 0)] ?_ fun J1 ay => ?_
 ·rintro ⟨l_, is⟩ aa
  unfold jM at aa
  obtain rfl := zi aa
  exact yE wn hC hE [Hm (shM F7_ F7_ l_), Hm (shM eB eB is)]
 ·obtain ⟨t2, ht2, aa⟩ := zm aa
  refine yLx wn hC jN [1,1,1,2,1,0] [J1] (fun s => jL m_ from_ s.1 s.2.1 s.2.2) (fun x => UA m_ from_ x.1 x.2.1 x.2.2) ((List.replicate ((m_.Rows.length : Nat) : Int).toNat ([] : List Int)), (List.replicate ((m_.Rows.length : Nat) : Int).toNat false), ([] : List Int)) ht2 [(1, .d (I from_)), (2, .own (.box (yj m_))), (6, .own (eOs 1 true F2_ (List.replicate ((m_.Rows.length : Nat) : Int).toNat ([] : List Int)))), (7, .own (eOs 1 true eB (List.replicate ((m_.Rows.length : Nat) : Int).toNat false))), (8, .own (eOs 1 true (eI .i64) []))] inferInstance [] ?_
  rintro ⟨bl, cm, w_⟩ m2 bg ae hl1 J2 a6
  try unfold jL at ae
  let Z0 : List HO := [Ha (lnM (eI .i64) w_), Ha (lnM uf m_.Rows)]
  rcases y8 ae with ⟨c0, ae⟩ | ⟨c0, ae⟩
  ·refine yJ wn hC jN [1,1,1,2,1,0,0,1] [J1, J2] [1,2,6,7,8] (fun z : List (List Int) × List Bool => vj m_ w_ z.1 z.2 = some bg) (fun z => UB m_ from_ w_ z.1 z.2) [(1, .d (I from_)), (2, .own (.box (yj m_))), (6, .own (eOs 1 true F7_ bl)), (7, .own (eOs 1 true eB cm)), (8, .d (eSl 1 false (eI .i64) w_))] (Z0 ++ [Hq c0, Hh (.n 1 [8]), Hm (shM (eI .i64) (eI .i64) w_), Hh (.cut 0)]) ?_ fun J3 ce => ?_
   ·rintro ⟨dy, gx⟩ ae
    unfold vj at ae
    obtain ⟨r_, h0, ae⟩ := zm ae
    obtain rfl := zi ae
    exact yB wn hC a6 (dy, gx, r_) hl1 [Hc h0M (x := (w_, m_.Inputs)) h0 (loC F7_ w_ <| loC (eI .i64) m_.Inputs <| loN)]
   ·obtain ⟨ah, h1, ae⟩ := zm ae
    let Z1 : List HO := [Hc h0L (x := (m_, from_, w_)) h1 (loC yj m_ <| loC (eI .i64) from_ <| loC F7_ w_ <| loN)]
    rcases y8 ae with ⟨c1, ae⟩ | ⟨c1, ae⟩
    ·obtain ⟨gv, h2, ae⟩ := zm ae
     let Z2 : List HO := (Z1 ++ [Hq c1, Hq c1, Hq c1, Hn (iL eB h2), Hq c1, Hs (iM eB h2), Hq c1, Hq c1])
     rcases y8 ae with ⟨c2, ae⟩ | ⟨c2, ae⟩
     ·obtain ⟨iu, h3, ae⟩ := zm ae
      obtain ⟨ax, h4, ae⟩ := zm ae
      exact yB wn hC ce ((bl.set ah.toNat w_), (cm.set ah.toNat true)) ae (Z2 ++ [Hq c2, Hn (iL eB h3), Hs (iM eB h3), Hs (iM eB h3), Hl (sM eB cm ah true), Hn (iL F7_ h4), Hs (iM F7_ h4), Hs (iM F7_ h4), Hl (sM F7_ bl ah w_)])
     ·exact yB wn hC ce (bl, cm) ae (Z2 ++ [Hq c2])
    ·exact yB wn hC ce (bl, cm) ae (Z1 ++ (rpN 6 (Hq c1) [qF]))
  ·obtain rfl := zi ae
   obtain rfl := hl1
   exact yB wn hC ay (bl, cm) aa (Z0 ++ [Hq c0])
def K2 : Code := (Tryz.f35.body).getD .skip
def Zn : yk := spF (α := z6) (ρ := List (List Int) × List Bool) 35 (fun x => [yj x]) (fun r => .tup [zbr r.1, (eSl 1 true eB) r.2]) (fun x => jU x) [] (Kq)
theorem Kl (hC : zL Tryz.prog ctr) (h0N : ctr.Has Y6) : Zn.Ok Tryz.prog := by
 refine zS ?_
 rintro m_ r0 aa
 try unfold jU at aa
 refine yO false [(2, none), (3, none)] K2 8 Tryz.func35 fun E hE => ?_
 obtain ⟨r_, h0, aa⟩ := zm aa
 obtain rfl := zi aa
 exact yE X0 hC hE [Hc h0N (x := (m_, 0)) h0 (loC yj m_ <| loC (eI .i64) 0 <| loN)]
def wm : Code := (Tryz.f27.body).getD .skip
def YM : yk := spF (α := z6 × Int) (ρ := List zb) 27 (fun x => [yj x.1, (eI .i64) x.2]) (fun r => (eOs 3 false uO) r) (fun x => Yn x.1 x.2) [] (Um)
abbrev Qc (out : List zb) : List (Nat × T) := [(7, .own (eOs 3 false uO out))]
abbrev Qb (m_ : z6) (goal : Int) (r_ : List (List Int) × List Bool) (s_ : Int) (a8 : List zb) : List (Nat × T) := [(1, .d (I goal)), (2, .own (.box (yj m_))), (6, .d (eSl 1 true eB r_.2)), (7, .own (eOs 3 false uO a8)), (8, .d (I s_))]
abbrev Qa (m_ : z6) (goal : Int) (r_ : List (List Int) × List Bool) (s_ : Int) (i_ : Int) (cu : List zb) : List (Nat × T) := [(1, .d (I goal)), (2, .own (.box (yj m_))), (6, .d (eSl 1 true eB r_.2)), (7, .own (eOs 3 false uO cu)), (8, .d (I s_)), (9, .d (I i_))]
abbrev Q8 (m_ : z6) (goal : Int) (r_ : List (List Int) × List Bool) (s_ : Int) (i_ : Int) (ak : ze) (k_ : Int) (gp : List zb) : List (Nat × T) := [(1, .d (I goal)), (2, .own (.box (yj m_))), (6, .d (eSl 1 true eB r_.2)), (7, .own (eOs 3 false uO gp)), (8, .d (I s_)), (9, .d (I i_)), (10, .d (I ak.To)), (11, .d (I k_)), (68, .d (I ak.To)), (69, .d (B (ak.To != (-1)))), (72, .d (I goal)), (73, .d (B (goal == 2)))]
abbrev Q5 (m_ : z6) (goal : Int) (r_ : List (List Int) × List Bool) (s_ : Int) (i_ : Int) (ak : ze) (cq : List zb) (k_ : Int) : List (Nat × T) := [(1, .d (I goal)), (2, .own (.box (yj m_))), (6, .d (eSl 1 true eB r_.2)), (7, .own (eOs 3 false uO cq)), (8, .d (I s_)), (9, .d (I i_)), (10, .d (I ak.To)), (11, .d (I k_))]
abbrev Q9 (m_ : z6) (goal : Int) (r_ : List (List Int) × List Bool) (s_ : Int) (i_ : Int) (ak : ze) (db : List zb) : List (Nat × T) := [(1, .d (I goal)), (2, .own (.box (yj m_))), (6, .d (eSl 1 true eB r_.2)), (7, .own (eOs 3 false uO db)), (8, .d (I s_)), (9, .d (I i_)), (10, .d (I ak.To))]
abbrev Q6 (m_ : z6) (goal : Int) (r_ : List (List Int) × List Bool) (s_ : Int) (br : List zb) (i_ : Int) : List (Nat × T) := [(1, .d (I goal)), (2, .own (.box (yj m_))), (6, .d (eSl 1 true eB r_.2)), (7, .own (eOs 3 false uO br)), (8, .d (I s_)), (9, .d (I i_))]
abbrev Q7 (m_ : z6) (goal : Int) (r_ : List (List Int) × List Bool) (aj : List zb) (s_ : Int) : List (Nat × T) := [(1, .d (I goal)), (2, .own (.box (yj m_))), (6, .d (eSl 1 true eB r_.2)), (7, .own (eOs 3 false uO aj)), (8, .d (I s_))]
theorem z19 (hC : zL Tryz.prog ctr) (h0O : ctr.Has Zn) : YM.Ok Tryz.prog := by
 refine zS ?_
 rintro ⟨m_, goal⟩ r0 aa
 try unfold Yn at aa
 refine yO true [(4, none)] wm 95 Tryz.func27 fun E hE => ?_
 obtain ⟨r_, h0, aa⟩ := zm aa
 refine yJ X0 hC wm [1,1,1] [] [7] (fun z : List zb => kH z = some r0) (fun z => Qc z) [(1, .d (I goal)), (2, .own (.box (yj m_))), (6, .d (eSl 1 true eB r_.2)), (7, .own (eOs 3 true uO []))] [Hc h0O (x := m_) h0 (loC yj m_ <| loN), Hh (.cut 1)] ?_ fun J1 ay => ?_
 ·rintro out aa
  unfold kH at aa
  obtain rfl := zi aa
  exact yE X0 hC hE []
 ·obtain ⟨t2, ht2, aa⟩ := zm aa
  refine yLx X0 hC wm [1,1,1,2,1,0] [J1] (fun s => uF m_ goal r_ s.1 s.2) (fun x => Q7 m_ goal r_ x.1 x.2) (([] : List zb), 0) ht2 [(1, .d (I goal)), (2, .own (.box (yj m_))), (6, .d (eSl 1 true eB r_.2)), (7, .own (eOs 3 true uO [])), (8, .d (I 0))] inferInstance [] ?_
  rintro ⟨aj, s_⟩ m2 bg ae hl1 J2 a6
  try unfold uF at ae
  let Z0 : List HO := [Ha (lnM uf m_.Rows)]
  rcases y8 ae with ⟨c0, ae⟩ | ⟨c0, ae⟩
  ·refine yJ X0 hC wm [1,1,1,2,1,0,0,1] [J1, J2] [1,2,6,7,8] (fun z : List zb => wY s_ z = some bg) (fun z => Qb m_ goal r_ s_ z) [(1, .d (I goal)), (2, .own (.box (yj m_))), (6, .d (eSl 1 true eB r_.2)), (7, .own (eOs 3 false uO aj)), (8, .d (I s_))] (Z0 ++ [Hq c0, Hh (.cut 0)]) ?_ fun J3 ce => ?_
   ·rintro a8 ae
    unfold wY at ae
    obtain rfl := zi ae
    exact yB X0 hC a6 (a8, w64 (s_ + 1)) hl1 []
   ·obtain ⟨u_, h1, ae⟩ := zm ae
    rcases y8 ae with ⟨c1, ae⟩ | ⟨c1, ae⟩
    ·exact yB X0 hC ce aj ae [Hi eB h1, Hq c1]
    ·rcases y8 ae with ⟨c2, ae⟩ | ⟨c2, ae⟩
     ·obtain ⟨g0, ae⟩ := gdE ae
      exact yB X0 hC ce (aj ++ ([(zb.mk s_ (-1) (-1))] : List zb)) ae [Hi eB h1, Hq c1, Hq c2, Hq (dM uO ([(zb.mk s_ (-1) (-1))] : List zb)), Hn (dM uO ([(zb.mk s_ (-1) (-1))] : List zb)), Hn (aL uO uO g0), Hl (aM uO aj ([(zb.mk s_ (-1) (-1))] : List zb))]
     ·obtain ⟨t4, ht4, ae⟩ := zm ae
      refine yL X0 hC wm [1,1,1,2,1,0,0,1,2,0,1,1,1,0] [J1, J2, J3] (fun s => uE m_ goal s_ s.1 s.2) (fun x => Q6 m_ goal r_ s_ x.1 x.2) (aj,0) ht4  [Hi eB h1, Hq c1, Hq c2] ?_
      rintro ⟨br, i_⟩ m4 ff ai hl2 J4 d0
      try unfold uE at ai
      rcases y8 ai with ⟨c3, ai⟩ | ⟨c3, ai⟩
      ·refine yJ X0 hC wm [1,1,1,2,1,0,0,1,2,0,1,1,1,0,0,1] [J1, J2, J3, J4] [1,2,6,7,8,9] (fun z : List zb => qK i_ z = some ff) (fun z => Qa m_ goal r_ s_ i_ z) [(1, .d (I goal)), (2, .own (.box (yj m_))), (6, .d (eSl 1 true eB r_.2)), (7, .own (eOs 3 false uO br)), (8, .d (I s_)), (9, .d (I i_))] [Hq c3, Hh (.cut 0)] ?_ fun J5 dn => ?_
       ·rintro cu ai
        unfold qK at ai
        obtain rfl := zi ai
        exact yB X0 hC d0 (cu, w64 (i_ + 1)) hl2 []
       ·obtain ⟨ar, h2, ai⟩ := zm ai
        obtain ⟨ak, h3, ai⟩ := zm ai
        refine yJ X0 hC wm [1,1,1,2,1,0,0,1,2,0,1,1,1,0,0,1,2,0,1] [J1, J2, J3, J4, J5] [1,2,6,7,8,9,10] (fun z : List zb => wX m_ goal s_ i_ ak z = some ff) (fun z => Q9 m_ goal r_ s_ i_ ak z) [(1, .d (I goal)), (2, .own (.box (yj m_))), (6, .d (eSl 1 true eB r_.2)), (7, .own (eOs 3 false uO br)), (8, .d (I s_)), (9, .d (I i_)), (10, .d (I ak.To))] [Hi uf h2, Hi F9_ h3, Hh (.cut 0)] ?_ fun J6 ew => ?_
        ·rintro db ai
         unfold wX at ai
         obtain ⟨t7, ht7, ai⟩ := zm ai
         refine yL X0 hC wm [1,1,1,2,1,0,0,1,2,0,1,1,1,0,0,1,2,0,1,1,1,0] [J1, J2, J3, J4, J5] (fun s => vP m_ goal s_ i_ ak s.1 s.2) (fun x => Q5 m_ goal r_ s_ i_ ak x.1 x.2) (db,0) ht7  [] ?_
         rintro ⟨cq, k_⟩ m7 iq bn hl3 J7 fy
         try unfold vP at bn
         rcases y8 bn with ⟨c4, bn⟩ | ⟨c4, bn⟩
         ·rcases y8 bn with ⟨c5, bn⟩ | ⟨c5, bn⟩
          ·let Z1 : List HO := [Hq c4, Hq c4, Hq c4, Hq c5, Hq c5, Hq c5]
           rcases y8 bn with ⟨c6, bn⟩ | ⟨c6, bn⟩
           ·refine yJ X0 hC wm [1,1,1,2,1,0,0,1,2,0,1,1,1,0,0,1,2,0,1,1,1,0,0,1] [J1, J2, J3, J4, J5, J7] [1,2,6,7,8,9,10,11,68,69,72,73] (fun z : List zb => uG k_ z = some iq) (fun z => Q8 m_ goal r_ s_ i_ ak k_ z) [(1, .d (I goal)), (2, .own (.box (yj m_))), (6, .d (eSl 1 true eB r_.2)), (7, .own (eOs 3 false uO cq)), (8, .d (I s_)), (9, .d (I i_)), (10, .d (I ak.To)), (11, .d (I k_)), (68, .d (I ak.To)), (69, .d (B (ak.To != (-1)))), (72, .d (I goal)), (73, .d (B (goal == 2)))] (Z1 ++ [Hq c6, Hh (.cut 0)]) ?_ fun J8 hJ8 => ?_
            ·rintro gp bn
             unfold uG at bn
             obtain rfl := zi bn
             exact yB X0 hC fy (gp, w64 (k_ + 1)) hl3 []
            ·obtain ⟨bt, h4, bn⟩ := zm bn
             obtain ⟨bh, h5, bn⟩ := zm bn
             let Z2 : List HO := [Hi uf h4, Hi F9_ h5]
             rcases y8 bn with ⟨c7, bn⟩ | ⟨c7, bn⟩
             ·obtain ⟨g1, bn⟩ := gdE bn
              exact yB X0 hC hJ8 (cq ++ ([(zb.mk s_ i_ k_)] : List zb)) bn (Z2 ++ [Hq c7, Hq (dM uO ([(zb.mk s_ i_ k_)] : List zb)), Hn (dM uO ([(zb.mk s_ i_ k_)] : List zb)), Hn (aL uO uO g1), Hl (aM uO cq ([(zb.mk s_ i_ k_)] : List zb))])
             ·exact yB X0 hC hJ8 cq bn (Z2 ++ [Hq c7])
           ·obtain rfl := zi bn
            obtain rfl := hl3
            exact yB X0 hC dn cq ai (Z1 ++ [Hq c6])
          ·obtain rfl := zi bn
           obtain rfl := hl3
           exact yB X0 hC dn cq ai [Hq c4, Hq c4, Hq c4, Hq c5, Hq c5, Hq c5, qF]
         ·obtain rfl := zi bn
          obtain rfl := hl3
          exact yB X0 hC dn cq ai (Hq c4 :: Hq c4 :: Hq c4 :: (rpN 4 qF []))
        ·rcases y8 ai with ⟨c8, ai⟩ | ⟨c8, ai⟩
         ·rcases y8 ai with ⟨c9, ai⟩ | ⟨c9, ai⟩
          ·obtain ⟨g2, ai⟩ := gdE ai
           exact yB X0 hC ew (br ++ ([(zb.mk s_ i_ (-1))] : List zb)) ai [Hq c8, Hq c8, Hq c8, Hq c9, Hq (dM uO ([(zb.mk s_ i_ (-1))] : List zb)), Hn (dM uO ([(zb.mk s_ i_ (-1))] : List zb)), Hn (aL uO uO g2), Hl (aM uO br ([(zb.mk s_ i_ (-1))] : List zb))]
          ·exact yB X0 hC ew br ai [Hq c8, Hq c8, Hq c8, Hq c9]
         ·exact yB X0 hC ew br ai [Hq c8, Hq c8, Hq c8, qF]
      ·obtain rfl := zi ai
       obtain rfl := hl2
       exact yB X0 hC ce br ae [Hq c3]
  ·obtain rfl := zi ae
   obtain rfl := hl1
   exact yB X0 hC ay aj aa (Z0 ++ [Hq c0])
def j5 : Code := (Tryz.f53.body).getD .skip
def Zk : yk := spF (α := z6 × List Int × zb) (ρ := Bool) 53 (fun x => [yj x.1, F7_ x.2.1, uO x.2.2]) (fun r => eB r) (fun x => jQ x.1 x.2.1 x.2.2) [] (z5R)
abbrev VJ (m_ : z6) (w_ : List Int) (x_ : zb) (cd : Int) (k_ : Int) (ar : List ze) (bc : Int) (ak : ze) (bh : ze) : List (Nat × T) := [(1, .d (eSl 1 false (eI .i64) w_)), (3, .own (.box (yj m_))), (5, .own (.box (uO x_))), (8, .d (I k_)), (9, .d (I bh.To)), (27, .d (eSl 1 false uf m_.Rows)), (28, .d (I cd)), (29, .d (.sptr (eSl 2 false F9_ ar))), (30, .d (eSl 2 false F9_ ar)), (31, .d (eSl 1 false (eI .i64) w_)), (32, .d (I k_)), (33, .d (.sptr (I bc))), (34, .d (I bc)), (35, .d (.sptr (F9_ ak))), (36, .d (.sptr (I ak.To))), (37, .d (I ak.To)), (38, .d (B (ak.To == (-1))))]
abbrev VK (m_ : z6) (w_ : List Int) (x_ : zb) (cd : Int) (k_ : Int) : List (Nat × T) := [(1, .d (eSl 1 false (eI .i64) w_)), (3, .own (.box (yj m_))), (5, .own (.box (uO x_))), (7, .d (I cd)), (8, .d (I k_))]
abbrev VI (m_ : z6) (w_ : List Int) (x_ : zb) (cd : Int) (k_ : Int) : List (Nat × T) := [(1, .d (eSl 1 false (eI .i64) w_)), (3, .own (.box (yj m_))), (5, .own (.box (uO x_))), (7, .d (I cd)), (8, .d (I k_))]
theorem Ki (hC : zL Tryz.prog ctr) : Zk.Ok Tryz.prog := by
 refine zS ?_
 rintro ⟨m_, w_, x_⟩ r0 aa
 try unfold jQ at aa
 refine yO true [(6, none)] j5 101 Tryz.func53 fun E hE => ?_
 obtain ⟨t1, ht1, aa⟩ := zm aa
 refine yL X0 hC j5 [1,1,1,0] [] (fun s => ut m_ w_ x_ s.1 s.2) (fun x => VI m_ w_ x_ x.1 x.2) (0,0) ht1  [] ?_
 rintro ⟨cd, k_⟩ m1 bg ae hl1 J1 ay
 try unfold ut at ae
 refine yJ X0 hC j5 [1,1,1,0,0,0,0] [J1] [1,3,5,7,8] (fun z : Unit => vD m_ w_ x_ cd k_ = some bg) (fun z => VK m_ w_ x_ cd k_) [(1, .d (eSl 1 false (eI .i64) w_)), (3, .own (.box (yj m_))), (5, .own (.box (uO x_))), (7, .d (I cd)), (8, .d (I k_))] [Hh (.cut 1)] ?_ fun J2 a6 => ?_
 ·rintro ⟨⟩ ae
  unfold vD at ae
  rcases y8 ae with ⟨c0, ae⟩ | ⟨c0, ae⟩
  ·obtain rfl := zi ae
   obtain rfl := hl1
   obtain rfl := zi aa
   exact yE X0 hC hE (Ha (lnM (eI .i64) w_) :: (rpN 14 (Hq c0) [qT]))
  ·obtain ⟨ar, h0, ae⟩ := zm ae
   obtain ⟨bc, h1, ae⟩ := zm ae
   obtain ⟨ak, h2, ae⟩ := zm ae
   let Z0 : List HO := (Ha (lnM (eI .i64) w_) :: (rpN 4 (Hq c0) (Hi uf h0 :: (rpN 4 (Hq c0) (Hi (eI .i64) h1 :: Hq c0 :: Hq c0 :: Hi F9_ h2 :: (rpN 4 (Hq c0) []))))))
   rcases y8 ae with ⟨c1, ae⟩ | ⟨c1, ae⟩
   ·obtain rfl := zi ae
    obtain rfl := hl1
    obtain rfl := zi aa
    exact yE X0 hC hE (Z0 ++ [Hq c1])
   ·obtain ⟨bt, h3, ae⟩ := zm ae
    obtain ⟨ij, h4, ae⟩ := zm ae
    obtain ⟨bh, h5, ae⟩ := zm ae
    refine yJ X0 hC j5 [1,1,1,0,0,0,0,1,1,1] [J1] [1,3,5,8,9,27,28,29,30,31,32,33,34,35,36,37,38] (fun z : Unit => xh k_ bh = some bg) (fun z => VJ m_ w_ x_ cd k_ ar bc ak bh) [(1, .d (eSl 1 false (eI .i64) w_)), (3, .own (.box (yj m_))), (5, .own (.box (uO x_))), (7, .d (I cd)), (8, .d (I k_)), (9, .d (I bh.To)), (27, .d (eSl 1 false uf m_.Rows)), (28, .d (I cd)), (29, .d (.sptr (eSl 2 false F9_ ar))), (30, .d (eSl 2 false F9_ ar)), (31, .d (eSl 1 false (eI .i64) w_)), (32, .d (I k_)), (33, .d (.sptr (I bc))), (34, .d (I bc)), (35, .d (.sptr (F9_ ak))), (36, .d (.sptr (I ak.To))), (37, .d (I ak.To)), (38, .d (B (ak.To == (-1))))] (Z0 ++ [Hq c1, Hi uf h3, Hi (eI .i64) h4, Hi F9_ h5, Hh (.cut 0)]) ?_ fun J3 ce => ?_
    ·rintro ⟨⟩ ae
     unfold xh at ae
     obtain rfl := zi ae
     exact yB X0 hC ay (bh.To, w64 (k_ + 1)) hl1 []
    ·rcases y8 ae with ⟨c2, ae⟩ | ⟨c2, ae⟩
     ·obtain ⟨ik, h6, ae⟩ := zm ae
      let Z1 : List HO := (rpN 5 (Hq c2) [Hi (eI .i64) h6, Hq c2, Hq c2, Hq c2])
      rcases y8 ae with ⟨c3, ae⟩ | ⟨c3, ae⟩
      ·let Z2 : List HO := (Z1 ++ (rpN 4 (Hq c3) []))
       rcases y8 ae with ⟨c4, ae⟩ | ⟨c4, ae⟩
       ·obtain rfl := zi ae
        obtain rfl := hl1
        obtain rfl := zi aa
        exact yE X0 hC hE (Z2 ++ (rpN 9 (Hq c4) [Hq c3, Hq c4, Hq c3, qT]))
       ·let Z3 : List HO := (Z2 ++ (rpN 4 (Hq c4) [Ha (lnM (eI .i64) w_), Hq c4, Hq c4]))
        rcases y8 ae with ⟨c5, ae⟩ | ⟨c5, ae⟩
        ·obtain ⟨il, h7, ae⟩ := zm ae
         let Z4 : List HO := (Z3 ++ (rpN 4 (Hq c5) (Hi (eI .i64) h7 :: (rpN 4 (Hq c5) [Hq c4, Hq c5, Hq c4]))))
         rcases y8 ae with ⟨c6, ae⟩ | ⟨c6, ae⟩
         ·obtain ⟨gy, h8, ae⟩ := zm ae
          obtain ⟨gq, h9, ae⟩ := zm ae
          let Z5 : List HO := (Z4 ++ (rpN 4 (Hq c6) (Hi uf h8 :: (rpN 4 (Hq c6) [Hi F9_ h9, Hq c6, Hq c6, Hq c6, Hq c4, Hq c6, Hq c3, Hq c4, Hq c3]))))
          rcases y8 ae with ⟨c7, ae⟩ | ⟨c7, ae⟩
          ·obtain rfl := zi ae
           obtain rfl := hl1
           obtain rfl := zi aa
           exact yE X0 hC hE (Z5 ++ [Hq c7])
          ·exact yB X0 hC ce () ae (Z5 ++ [Hq c7])
         ·exact yB X0 hC ce () ae (Z4 ++ (rpN 11 (Hq c6) [Hq c4, Hq c6, Hq c3, Hq c4, Hq c3, qF]))
        ·exact yB X0 hC ce () ae (Z3 ++ (rpN 8 (Hq c5) (Hq c4 :: Hq c5 :: Hq c4 :: (rpN 11 qF [Hq c4, qF, Hq c3, Hq c4, Hq c3, qF]))))
      ·exact yB X0 hC ce () ae (Z1 ++ (rpN 6 (Hq c3) [qF]))
     ·exact yB X0 hC ce () ae (rpN 8 (Hq c2) (rpN 7 qF []))
 ·rcases y8 ae with ⟨c8, ae⟩ | ⟨c8, ae⟩
  ·let Z6 : List HO := (rpN 5 (Hq c8) [])
   rcases y8 ae with ⟨c9, ae⟩ | ⟨c9, ae⟩
   ·obtain rfl := zi ae
    obtain rfl := hl1
    obtain rfl := zi aa
    exact yE X0 hC hE (Z6 ++ [Hq c9])
   ·exact yB X0 hC a6 () ae (Z6 ++ [Hq c9])
  ·exact yB X0 hC a6 () ae (rpN 5 (Hq c8) [qF])
def kr : Code := (Tryz.f36.body).getD .skip
def kh : yk := spF (α := z6 × List (List Int) × zb) (ρ := Bool) 36 (fun x => [yj x.1, qA x.2.1, uO x.2.2]) (fun r => eB r) (fun x => qM x.1 x.2.1 x.2.2) [] (z5R)
abbrev V3 (x_ : zb) : List (Nat × T) := [(5, .own (.box (uO x_)))]
abbrev V2 (m_ : z6) (l_ : List (List Int)) (x_ : zb) (i_ : Int) : List (Nat × T) := [(1, .d (eSl 1 false F7_ l_)), (3, .own (.box (yj m_))), (5, .own (.box (uO x_))), (7, .d (I i_))]
theorem QQ (hC : zL Tryz.prog ctr) (h0P : ctr.Has Zk) : kh.Ok Tryz.prog := by
 refine zS ?_
 rintro ⟨m_, l_, x_⟩ r0 aa
 try unfold qM at aa
 refine yO true [(6, none)] kr 24 Tryz.func36 fun E hE => ?_
 refine yJ X0 hC kr [1] [] [5] (fun z : Unit => qb x_ = some r0) (fun z => V3 x_) [(1, .d (eSl 1 false F7_ l_)), (3, .own (.box (yj m_))), (5, .own (.box (uO x_)))] [Hh (.cut 1)] ?_ fun J1 ay => ?_
 ·rintro ⟨⟩ aa
  unfold qb at aa
  obtain rfl := zi aa
  exact yE X0 hC hE []
 ·obtain ⟨t2, ht2, aa⟩ := zm aa
  refine yL X0 hC kr [1,2,1,0] [J1] (fun s => vZ m_ l_ x_ s) (fun x => V2 m_ l_ x_ x) 0 ht2  [] ?_
  rintro i_ m2 bg ae hl1 J2 a6
  try unfold vZ at ae
  let Z0 : List HO := [Ha (lnM F7_ l_)]
  rcases y8 ae with ⟨c0, ae⟩ | ⟨c0, ae⟩
  ·obtain ⟨ax, h0, ae⟩ := zm ae
   obtain ⟨r_, h1, ae⟩ := zm ae
   let Z1 : List HO := (Z0 ++ [Hq c0, Hi F7_ h0, Hc h0P (x := (m_, ax, x_)) h1 (loC yj m_ <| loC F7_ ax <| loC uO x_ <| loN)])
   rcases y8 ae with ⟨c1, ae⟩ | ⟨c1, ae⟩
   ·obtain rfl := zi ae
    obtain rfl := hl1
    obtain rfl := zi aa
    exact yE X0 hC hE (Z1 ++ [Hq c1])
   ·obtain rfl := zi ae
    exact yB X0 hC a6 (w64 (i_ + 1)) hl1 (Z1 ++ [Hq c1])
  ·obtain rfl := zi ae
   obtain rfl := hl1
   exact yB X0 hC ay () aa (Z0 ++ [Hq c0])
def qn : Code := (Tryz.f14.body).getD .skip
def vX : yk := spF (α := z6 × List (List Int) × Int) (ρ := List zb) 14 (fun x => [yj x.1, qA x.2.1, (eI .i64) x.2.2]) (fun r => (eOs 3 false uO) r) (fun x => wW x.1 x.2.1 x.2.2) [] (z5R)
abbrev V1 (out : List zb) : List (Nat × T) := [(8, .own (eOs 3 false uO out))]
abbrev V0 (m_ : z6) (l_ : List (List Int)) (r_ : List zb) (i_ : Int) (a8 : List zb) : List (Nat × T) := [(1, .d (eSl 1 false F7_ l_)), (3, .own (.box (yj m_))), (7, .own (eOs 3 false uO r_)), (8, .own (eOs 3 false uO a8)), (9, .d (I i_))]
abbrev WZ (m_ : z6) (l_ : List (List Int)) (r_ : List zb) (aj : List zb) (i_ : Int) : List (Nat × T) := [(1, .d (eSl 1 false F7_ l_)), (3, .own (.box (yj m_))), (7, .own (eOs 3 false uO r_)), (8, .own (eOs 3 false uO aj)), (9, .d (I i_))]
theorem QP (hC : zL Tryz.prog ctr) (h0Q : ctr.Has YM) (h0R : ctr.Has kh) : vX.Ok Tryz.prog := by
 refine zS ?_
 rintro ⟨m_, l_, goal⟩ r0 aa
 try unfold wW at aa
 refine yO true [(6, none)] qn 35 Tryz.func14 fun E hE => ?_
 obtain ⟨r_, h0, aa⟩ := zm aa
 refine yJ X0 hC qn [1,1,1] [] [8] (fun z : List zb => qa z = some r0) (fun z => V1 z) [(1, .d (eSl 1 false F7_ l_)), (3, .own (.box (yj m_))), (7, .own (eOs 3 false uO r_)), (8, .own (eOs 3 true uO []))] [Hc h0Q (x := (m_, goal)) h0 (loC yj m_ <| loC (eI .i64) goal <| loN), Hh (.cut 1)] ?_ fun J1 ay => ?_
 ·rintro out aa
  unfold qa at aa
  obtain rfl := zi aa
  exact yE X0 hC hE []
 ·obtain ⟨t2, ht2, aa⟩ := zm aa
  refine yLx X0 hC qn [1,1,1,2,1,0] [J1] (fun s => wL m_ l_ r_ s.1 s.2) (fun x => WZ m_ l_ r_ x.1 x.2) (([] : List zb), 0) ht2 [(1, .d (eSl 1 false F7_ l_)), (3, .own (.box (yj m_))), (7, .own (eOs 3 false uO r_)), (8, .own (eOs 3 true uO [])), (9, .d (I 0))] inferInstance [] ?_
  rintro ⟨aj, i_⟩ m2 bg ae hl1 J2 a6
  try unfold wL at ae
  let Z0 : List HO := [Ha (lnM uO r_)]
  rcases y8 ae with ⟨c0, ae⟩ | ⟨c0, ae⟩
  ·refine yJ X0 hC qn [1,1,1,2,1,0,0,1] [J1, J2] [1,3,7,8,9] (fun z : List zb => wM i_ z = some bg) (fun z => V0 m_ l_ r_ i_ z) [(1, .d (eSl 1 false F7_ l_)), (3, .own (.box (yj m_))), (7, .own (eOs 3 false uO r_)), (8, .own (eOs 3 false uO aj)), (9, .d (I i_))] (Z0 ++ [Hq c0, Hh (.cut 0)]) ?_ fun J3 ce => ?_
   ·rintro a8 ae
    unfold wM at ae
    obtain rfl := zi ae
    exact yB X0 hC a6 (a8, w64 (i_ + 1)) hl1 []
   ·obtain ⟨ca, h1, ae⟩ := zm ae
    obtain ⟨ah, h2, ae⟩ := zm ae
    let Z1 : List HO := [Hn (iL uO h1), Hs (iM uO h1), Hc h0R (x := (m_, l_, ca)) h2 (loC yj m_ <| loC qA l_ <| loC uO ca <| loN)]
    rcases y8 ae with ⟨c1, ae⟩ | ⟨c1, ae⟩
    ·obtain ⟨fg, h3, ae⟩ := zm ae
     obtain ⟨g0, ae⟩ := gdE ae
     exact yB X0 hC ce (aj ++ ([fg] : List zb)) ae (Z1 ++ [Hq c1, Hn (iL uO h3), Hs (iM uO h3), Hq (dM uO ([fg] : List zb)), Hn (dM uO ([fg] : List zb)), Hn (aL uO uO g0), Hl (aM uO aj ([fg] : List zb))])
    ·exact yB X0 hC ce aj ae (Z1 ++ [Hq c1])
  ·obtain rfl := zi ae
   obtain rfl := hl1
   exact yB X0 hC ay aj aa (Z0 ++ [Hq c0])
def ZH : Code := (Tryz.f40.body).getD .skip
def Zl : yk := spF (α := z6 × List (List Int) × List (List Int) × Int × Int × Int) (ρ := List (List Int) × Bool) 40 (fun x => [yj x.1, qA x.2.1, qA x.2.2.1, (eI .i64) x.2.2.2.1, (eI .i64) x.2.2.2.2.1, (eI .i64) x.2.2.2.2.2]) (fun r => .tup [qA r.1, eB r.2]) (fun x => XS x.1 x.2.1 x.2.2.1 x.2.2.2.1 x.2.2.2.2.1 x.2.2.2.2.2) [] (by
 rintro ⟨a0, a1, a2, a3, a4, a5⟩ ⟨b0, b1, b2, b3, b4, b5⟩ h
 have e0 := uc.inj (f := yj) _ _ (List.cons.inj h).1
 replace h := (List.cons.inj h).2
 have e1 := uc.inj (f := qA) _ _ (List.cons.inj h).1
 replace h := (List.cons.inj h).2
 have e2 := uc.inj (f := qA) _ _ (List.cons.inj h).1
 replace h := (List.cons.inj h).2
 have e3 := uc.inj (f := (eI .i64)) _ _ (List.cons.inj h).1
 replace h := (List.cons.inj h).2
 have e4 := uc.inj (f := (eI .i64)) _ _ (List.cons.inj h).1
 replace h := (List.cons.inj h).2
 have e5 := uc.inj (f := (eI .i64)) _ _ (List.cons.inj h).1
 subst e0 e1 e2 e3 e4 e5
 rfl)
abbrev VN : List (Nat × T) := []
abbrev VL (m_ : z6) (l_ : List (List Int)) (bq : List (List Int)) (many : Int) (goal : Int) (i_ : Int) : List (Nat × T) := [(1, .d (eSl 1 false F7_ l_)), (2, .d (eSl 1 false F7_ bq)), (4, .d (I many)), (5, .d (I goal)), (6, .own (.box (yj m_))), (14, .d (I i_))]
theorem WJ : ∀ (x y : z6 × List (List Int) × List (List Int) × Int × Int × Int), (fun x => [yj x.1, qA x.2.1, qA x.2.2.1, (eI .i64) x.2.2.2.1, (eI .i64) x.2.2.2.2.1, (eI .i64) x.2.2.2.2.2]) x = (fun x => [yj x.1, qA x.2.1, qA x.2.2.1, (eI .i64) x.2.2.2.1, (eI .i64) x.2.2.2.2.1, (eI .i64) x.2.2.2.2.2]) y → x = y := by
 rintro ⟨a0, a1, a2, a3, a4, a5⟩ ⟨b0, b1, b2, b3, b4, b5⟩ h
 have e0 := uc.inj (f := yj) _ _ (List.cons.inj h).1
 replace h := (List.cons.inj h).2
 have e1 := uc.inj (f := qA) _ _ (List.cons.inj h).1
 replace h := (List.cons.inj h).2
 have e2 := uc.inj (f := qA) _ _ (List.cons.inj h).1
 replace h := (List.cons.inj h).2
 have e3 := uc.inj (f := (eI .i64)) _ _ (List.cons.inj h).1
 replace h := (List.cons.inj h).2
 have e4 := uc.inj (f := (eI .i64)) _ _ (List.cons.inj h).1
 replace h := (List.cons.inj h).2
 have e5 := uc.inj (f := (eI .i64)) _ _ (List.cons.inj h).1
 subst e0 e1 e2 e3 e4 e5
 rfl
def jr (ct : z6 → (List (List Int)) → (List (List Int)) → Int → Int → Int → Option (List (List Int) × Bool)) : yk := spF (α := z6 × List (List Int) × List (List Int) × Int × Int × Int) (ρ := List (List Int) × Bool) 40 (fun x => [yj x.1, qA x.2.1, qA x.2.2.1, (eI .i64) x.2.2.2.1, (eI .i64) x.2.2.2.2.1, (eI .i64) x.2.2.2.2.2]) (fun r => .tup [qA r.1, eB r.2]) (fun x => ct x.1 x.2.1 x.2.2.1 x.2.2.2.1 x.2.2.2.2.1 x.2.2.2.2.2) [] (by
 intro x y h
 exact (congrArg (fun (p : z6 × List (List Int) × List (List Int) × Int × Int × Int) => p) (show x = y from WJ x y h)))
theorem UU (hC : zL Tryz.prog ctr) (h06 : ctr.Has vX) (ct : z6 → (List (List Int)) → (List (List Int)) → Int → Int → Int → Option (List (List Int) × Bool)) (h03 : ctr.Has (jr ct)) : (jr (vg ct)).Ok Tryz.prog := by
 refine zS ?_
 rintro ⟨m_, l_, bq, from_, many, goal⟩ r0 aa
 try unfold vg at aa
 refine yO false [(12, none), (13, none)] ZH 60 Tryz.func40 fun E hE => ?_
 rcases y8 aa with ⟨c0, aa⟩ | ⟨c0, aa⟩
 ·obtain ⟨r_, h0, aa⟩ := zm aa
  obtain ⟨ah, h1, aa⟩ := zm aa
  obtain rfl := zi aa
  exact yE X0 hC hE [Hq c0, Hc h06 (x := (m_, bq, goal)) h0 (loC yj m_ <| loC qA bq <| loC (eI .i64) goal <| loN), Ha (lnM uO r_), Hc h06 (x := (m_, l_, goal)) h1 (loC yj m_ <| loC qA l_ <| loC (eI .i64) goal <| loN), Ha (lnM uO ah)]
 ·refine yJ X0 hC ZH [1,1] [] [] (fun z : Unit => Zt = some r0) (fun z => VN) [(1, .d (eSl 1 false F7_ l_)), (2, .d (eSl 1 false F7_ bq)), (3, .d (I from_)), (4, .d (I many)), (5, .d (I goal)), (6, .own (.box (yj m_)))] [Hq c0, Hh (.cut 0)] ?_ fun J1 ay => ?_
  ·rintro ⟨⟩ aa
   unfold Zt at aa
   obtain rfl := zi aa
   exact yEx X0 hC hE [Hm (shM F7_ F7_ [])] (.tup [eSl 1 true F7_ [], B false]) (show LeV (.tup [eSl 1 true F7_ [], B false]) (.tup [eSl 1 false F7_ ([] : List (List Int)), B false]) from inferInstance)
  ·obtain ⟨t2, ht2, aa⟩ := zm aa
   refine yL X0 hC ZH [1,1,2,1,0] [J1] (fun s => wx m_ l_ bq many goal ct s) (fun x => VL m_ l_ bq many goal x) from_ ht2  [] ?_
   rintro i_ m2 bg ae hl1 J2 a6
   try unfold wx at ae
   let Z0 : List HO := [Ha (lnM F7_ l_)]
   rcases y8 ae with ⟨c1, ae⟩ | ⟨c1, ae⟩
   ·obtain ⟨g0, ae⟩ := gdE ae
    obtain ⟨ax, h2, ae⟩ := zm ae
    obtain ⟨g1, ae⟩ := gdE ae
    obtain ⟨am, h3, ae⟩ := zm ae
    let Z1 : List HO := (Z0 ++ [Hq c1, Hn (dM F7_ bq), Hn (aL F7_ F7_ g0), Hl (aM0 F7_ bq), Hi F7_ h2, Hq (dM F7_ ([ax] : List (List Int))), Hn (dM F7_ ([ax] : List (List Int))), Hn (aL F7_ F7_ g1), Hl (aM F7_ bq ([ax] : List (List Int))), Hg (Kr h03), Hm (shM F7_ F7_ (bq ++ ([ax] : List (List Int)))), Hs (Ks h03 (x := (m_, l_, (bq ++ ([ax] : List (List Int))), w64 (i_ + 1), w64 (many - 1), goal)) h3 (loC yj m_ <| loC qA l_ <| loC qA (bq ++ ([ax] : List (List Int))) <| loC (eI .i64) (w64 (i_ + 1)) <| loC (eI .i64) (w64 (many - 1)) <| loC (eI .i64) goal <| loN)), Hm (shM F7_ F7_ (bq ++ ([ax] : List (List Int))))])
    rcases y8 ae with ⟨c2, ae⟩ | ⟨c2, ae⟩
    ·obtain rfl := zi ae
     obtain rfl := hl1
     obtain rfl := zi aa
     exact yE X0 hC hE (Z1 ++ [Hq c2])
    ·obtain rfl := zi ae
     exact yB X0 hC a6 (w64 (i_ + 1)) hl1 (Z1 ++ [Hq c2])
   ·obtain rfl := zi ae
    obtain rfl := hl1
    exact yB X0 hC ay () aa (Z0 ++ [Hq c1])
theorem Kj (hC : zL Tryz.prog ctr) (h06 : ctr.Has vX) : Zl.Ok Tryz.prog := by
 have H : ∀ n, (jr (ve n)).Ok Tryz.prog := by
  intro n
  induction n with
  | zero => exact zS fun _ _ h => nomatch (show none = some _ from h)
  | succ n ih => exact UU (Ctr.add_ok hC ih) (h06.add (by show (14 : Nat) ≠ 40; decide)) _ (Ctr.add_has _ _)
 exact zS fun x r h => Ja (H _) h
def ZI : Code := (Tryz.f16.body).getD .skip
def Zm : yk := spF (α := z6 × List (List Int) × Int) (ρ := List (List Int)) 16 (fun x => [yj x.1, qA x.2.1, (eI .i64) x.2.2]) (fun r => qA r) (fun x => jR x.1 x.2.1 x.2.2) [] (z5R)
abbrev VP (l_ : List (List Int)) : List (Nat × T) := [(1, .d (eSl 1 false F7_ l_))]
abbrev VO (m_ : z6) (l_ : List (List Int)) (goal : Int) (many : Int) : List (Nat × T) := [(1, .d (eSl 1 false F7_ l_)), (2, .d (I goal)), (3, .own (.box (yj m_))), (7, .d (I many))]
theorem Kk (hC : zL Tryz.prog ctr) (h0S : ctr.Has Zl) : Zm.Ok Tryz.prog := by
 refine zS ?_
 rintro ⟨m_, l_, goal⟩ r0 aa
 try unfold jR at aa
 refine yO true [(6, none)] ZI 27 Tryz.func16 fun E hE => ?_
 refine yJ X0 hC ZI [1] [] [1] (fun z : Unit => qL l_ = some r0) (fun z => VP l_) [(1, .d (eSl 1 false F7_ l_)), (2, .d (I goal)), (3, .own (.box (yj m_)))] [Hh (.cut 1)] ?_ fun J1 ay => ?_
 ·rintro ⟨⟩ aa
  unfold qL at aa
  obtain rfl := zi aa
  exact yE X0 hC hE []
 ·obtain ⟨t2, ht2, aa⟩ := zm aa
  refine yL X0 hC ZI [1,2,1,0] [J1] (fun s => wy m_ l_ goal s) (fun x => VO m_ l_ goal x) 0 ht2  [] ?_
  rintro many m2 bg ae hl1 J2 a6
  try unfold wy at ae
  let Z0 : List HO := [Ha (lnM F7_ l_)]
  rcases y8 ae with ⟨c0, ae⟩ | ⟨c0, ae⟩
  ·obtain ⟨r_, h0, ae⟩ := zm ae
   let Z1 : List HO := (Z0 ++ [Hq c0, Hc h0S (x := (m_, l_, [], 0, many, goal)) h0 (loC yj m_ <| loC qA l_ <| loC zbr ([] : List (List Int)) <| loC (eI .i64) 0 <| loC (eI .i64) many <| loC (eI .i64) goal <| loN)])
   rcases y8 ae with ⟨c1, ae⟩ | ⟨c1, ae⟩
   ·obtain rfl := zi ae
    obtain rfl := hl1
    obtain rfl := zi aa
    exact yE X0 hC hE (Z1 ++ [Hq c1])
   ·obtain rfl := zi ae
    exact yB X0 hC a6 (w64 (many + 1)) hl1 (Z1 ++ [Hq c1])
  ·obtain rfl := zi ae
   obtain rfl := hl1
   exact yB X0 hC ay () aa (Z0 ++ [Hq c0])
def Xa : Code := (Tryz.f12.body).getD .skip
def kF : yk := spF (α := List (List Int) × List (List Int)) (ρ := Bool) 12 (fun x => [qA x.1, qA x.2]) (fun r => eB r) (fun x => jw x.1 x.2) [] (Um)
abbrev Qh : List (Nat × T) := []
abbrev Qg (a_ : List (List Int)) (b_ : List (List Int)) (i_ : Int) : List (Nat × T) := [(0, .d (eSl 1 false F7_ a_)), (1, .d (eSl 1 false F7_ b_)), (5, .d (I i_))]
theorem z1b (hC : zL Tryz.prog ctr) (h0a : ctr.Has q9) : kF.Ok Tryz.prog := by
 refine zS ?_
 rintro ⟨a_, b_⟩ r0 aa
 try unfold jw at aa
 refine yO true [(4, none)] Xa 27 Tryz.func12 fun E hE => ?_
 let Z0 : List HO := [Ha (lnM F7_ a_), Ha (lnM F7_ b_)]
 rcases y8 aa with ⟨c0, aa⟩ | ⟨c0, aa⟩
 ·obtain rfl := zi aa
  exact yE X0 hC hE (Z0 ++ [Hq c0])
 ·refine yJ X0 hC Xa [1,1] [] [] (fun z : Unit => kI = some r0) (fun z => Qh) [(0, .d (eSl 1 false F7_ a_)), (1, .d (eSl 1 false F7_ b_))] (Z0 ++ [Hq c0, Hh (.cut 0)]) ?_ fun J1 ay => ?_
  ·rintro ⟨⟩ aa
   unfold kI at aa
   obtain rfl := zi aa
   exact yE X0 hC hE []
  ·obtain ⟨t2, ht2, aa⟩ := zm aa
   refine yL X0 hC Xa [1,1,2,1,0] [J1] (fun s => uH a_ b_ s) (fun x => Qg a_ b_ x) 0 ht2  [] ?_
   rintro i_ m2 bg ae hl1 J2 a6
   try unfold uH at ae
   let Z1 : List HO := [Ha (lnM F7_ a_)]
   rcases y8 ae with ⟨c1, ae⟩ | ⟨c1, ae⟩
   ·obtain ⟨fq, h0, ae⟩ := zm ae
    obtain ⟨ft, h1, ae⟩ := zm ae
    obtain ⟨r_, h2, ae⟩ := zm ae
    let Z2 : List HO := (Z1 ++ [Hq c1, Hi F7_ h0, Hi F7_ h1, Hc h0a (x := (fq, ft)) h2 (loC F7_ fq <| loC F7_ ft <| loN)])
    rcases y8 ae with ⟨c2, ae⟩ | ⟨c2, ae⟩
    ·obtain rfl := zi ae
     obtain rfl := hl1
     obtain rfl := zi aa
     exact yE X0 hC hE (Z2 ++ [Hq c2])
    ·obtain rfl := zi ae
     exact yB X0 hC a6 (w64 (i_ + 1)) hl1 (Z2 ++ [Hq c2])
   ·obtain rfl := zi ae
    obtain rfl := hl1
    exact yB X0 hC ay () aa (Z1 ++ [Hq c1])
def K3 : Code := (Tryz.f28.body).getD .skip
def Zo : yk := spF (α := Unit) (ρ := z6) 28 (fun x => []) (fun r => zbC r) (fun x => W0) [] (fun _ _ _ => rfl)
theorem Km (hC : zL Tryz.prog ctr) : Zo.Ok Tryz.prog := by
 refine zS ?_
 rintro ⟨⟩ r0 aa
 try unfold W0 at aa
 refine yO false [(0, some 30)] K3 9 Tryz.func28 fun E hE => ?_
 obtain rfl := zi aa
 exact yE X0 hC hE [Hm (shM (eOs 2 true F9_) zhJ ([[(ze.mk 1 0), (ze.mk 0 0)], [(ze.mk 0 1), (ze.mk 1 0)]]))]
def YC : Code := (Tryz.f25.body).getD .skip
theorem YJ (hC : zL Tryz.prog ctr) : ∀ (goal : Int) (x_ : zh) (r0 : Int), uz goal x_ = some r0 → ∀ us : List Value, us.length = 3 → uA Tryz.prog (.fn 25 []) ([] ++ .agg (us.map .atom) :: [I goal]) (Xp us [zt (eI .i64) eB x_.states_, zt F0_ eB x_.edges_, zt zH eB x_.pairs_]) (I r0) ([zt (eI .i64) eB x_.states_, zt F0_ eB x_.edges_, zt zH eB x_.pairs_].map fun e => .opq (yd e)) := by
 intro goal x_ r0 aa us hus
 obtain ⟨u0, u1, u2, rfl⟩ := zby hus
 refine Wm (tt := wq) (nt := 17) (body := YC) (B := 2) [4] (xl := []) (xr := [I goal]) (caps := []) (es := [zt (eI .i64) eB x_.states_, zt F0_ eB x_.edges_, zt zH eB x_.pairs_]) (es' := [zt (eI .i64) eB x_.states_, zt F0_ eB x_.edges_, zt zH eB x_.pairs_]) (us := [u0, u1, u2]) (r := I r0) Tryz.func25 rfl (by kernel_rfl) rfl rfl (by decide) (by show (2 : Nat) ≤ 17; decide) rfl rfl (.inr ⟨_, rfl⟩) fun E hE => ?_
 try unfold uz at aa
 obtain ⟨cell, h0, aa⟩ := zm aa
 obtain rfl := zi aa
 exact yF ((zhQ zC 16).or ((z4E zaH 13 (Zw u2 (zt zH eB x_.pairs_))).or ((z4E zaI 10 (Zw u1 (zt F0_ eB x_.edges_))).or ((z4E z7I 7 (Zw u0 (zt (eI .i64) eB x_.states_))).or X0)))) hC .ret [(2, .own (.box (.agg [.opq (vt u0 (zt (eI .i64) eB x_.states_)), .opq (vt u1 (zt F0_ eB x_.edges_)), .opq (vt u2 (zt zH eB x_.pairs_))]))), (4, .d (I cell))] [Hn (rfl : A.opq (vt u0 (zt (eI .i64) eB x_.states_)) = A.opq (vt u0 (zt (eI .i64) eB x_.states_))), Hx (aLn x_.states_.length) (z2S (eI .i64) eB x_.states_), Hn (rfl : A.opq (vt u1 (zt F0_ eB x_.edges_)) = A.opq (vt u1 (zt F0_ eB x_.edges_))), Hx (aLn x_.edges_.length) (z2S F0_ eB x_.edges_), Hn (rfl : A.opq (vt u2 (zt zH eB x_.pairs_)) = A.opq (vt u2 (zt zH eB x_.pairs_))), Hx (aLn x_.pairs_.length) (z2S zH eB x_.pairs_), Hs (iM (eI .i64) h0), Hn (ixV (k := .i64) (tt := wq) (e := 3) (l := ([((x_.states_.length : Nat) : Int), ((x_.edges_.length : Nat) : Int), ((x_.pairs_.length : Nat) : Int)] : List Int)) (fun _ => by kernel_rfl) h0 (m := 3) rfl)] fun st0 h0 => hE _ st0 (.inr rfl) (JD h0 rfl rfl) (z5u (zd8 h0 rfl rfl))
def ZJ : Code := (Tryz.f8.body).getD .skip
def Zp : yk := spF (α := z6 × List (List Int)) (ρ := ye × Int) 8 (fun x => [yj x.1, qA x.2]) (fun r => .tup [zeS r.1, (eI .i64) r.2]) (fun x => ZZ x.1 x.2) [] (Um)
abbrev VR (n_ : Wb (xF Int)) : List (Nat × T) := [(4, .own (.box (.agg [.agg [I 0, I 0], .agg [I 0, I 0], .agg [I 0, I 0]]))), (8, .own (.box ((zd7 F0_) n_)))]
abbrev VQ (m_ : z6) (ah : zh) (dt : Wb (xF Int)) (bw : Int) : List (Nat × T) := [(2, .own (.box (yj m_))), (4, .own (.box (.agg [.agg [I 0, I 0], .agg [I 0, I 0], .agg [I 0, I 0]]))), (7, .own (.box ((zT (eMp (eI .i64) eB) (eMp F0_ eB) (eMp zH eB)) ah))), (8, .own (.box ((zd7 F0_) dt))), (20, .d (I bw))]
theorem Kn (hC : zL Tryz.prog ctr) (h04 : ctr.Has xY) (h02 : ctr.Has xm) (h05 : ctr.Has wK) : Zp.Ok Tryz.prog := by
 refine zS ?_
 rintro ⟨m_, l_⟩ r0 aa
 try unfold ZZ at aa
 refine yO false [(4, some 36), (5, none)] ZJ 41 Tryz.func8 fun E hE => ?_
 obtain ⟨r_, h0, aa⟩ := zm aa
 let Z0 : List HO := [Hc h04 (x := (m_, l_)) h0 (loC yj m_ <| loC qA l_ <| loN)]
 rcases y8 aa with ⟨c0, aa⟩ | ⟨c0, aa⟩
 ·obtain rfl := zi aa
  exact yE X0 hC hE (Z0 ++ [Hq c0])
 ·obtain ⟨ah, h1, aa⟩ := zm aa
  refine yJ X0 hC ZJ [1,1,1,1] [] [4,8] (fun z : Wb (xF Int) => ZC z = some r0) (fun z => VR z) [(2, .own (.box (yj m_))), (4, .own (.box (.agg [.agg [I 0, I 0], .agg [I 0, I 0], .agg [I 0, I 0]]))), (7, .own (.box ((zT (eMp (eI .i64) eB) (eMp F0_ eB) (eMp zH eB)) ah))), (8, .own (.box (.agg [.agg [I 0, I 0], .agg [I 0, I 0], .agg [I 0, I 0]])))] (Z0 ++ [Hq c0, Hc h02 (x := (m_, l_)) h1 (loC yj m_ <| loC qA l_ <| loN), Hh (.cut 1)]) ?_ fun J1 ay => ?_
  ·rintro n_ aa
   unfold ZC at aa
   obtain rfl := zi aa
   exact yE X0 hC hE [Hn (⟨rfl, by decide⟩ : true = true ∧ 0 < 3), Hn (⟨rfl, by decide⟩ : true = true ∧ 1 < 3), Hn (⟨rfl, by decide⟩ : true = true ∧ 2 < 3)]
  ·obtain ⟨t2, ht2, aa⟩ := zm aa
   refine yL X0 hC ZJ [1,1,1,1,2,1,0] [J1] (fun s => ZB m_ ah s.1 s.2) (fun x => VQ m_ ah x.1 x.2) ((Wb.mk (xF.mk 0 0) (xF.mk 0 0) (xF.mk 0 0)), 0) ht2  [] ?_
   rintro ⟨dt, bw⟩ m2 bg ae hl1 J2 a6
   try unfold ZB at ae
   rcases y8 ae with ⟨c1, ae⟩ | ⟨c1, ae⟩
   ·obtain ⟨am, h2, ae⟩ := zm ae
    obtain ⟨au, h3, ae⟩ := zm ae
    obtain ⟨cell, h4, ae⟩ := zm ae
    obtain ⟨arr, h5, ae⟩ := zm ae
    replace h5 := zi h5
    obtain rfl := zi ae
    exact yB ((Yj (P := Tryz.prog) wq 7 0 [.deref] (fa := .fn 25 []) (r := I am) (xl := []) (xr := [(eI .i64) bw]) (qs := [(yd (zt (eI .i64) eB ah.states_)), (yd (zt F0_ eB ah.edges_)), (yd (zt zH eB ah.pairs_))]) (qs' := [(yd (zt (eI .i64) eB ah.states_)), (yd (zt F0_ eB ah.edges_)), (yd (zt zH eB ah.pairs_))]) (es := [(zt (eI .i64) eB ah.states_), (zt F0_ eB ah.edges_), (zt zH eB ah.pairs_)]) (es' := [(zt (eI .i64) eB ah.states_), (zt F0_ eB ah.edges_), (zt zH eB ah.pairs_)]) (.inr rfl) (z4j (by kernel_rfl)) (.cons (wh (zt (eI .i64) eB ah.states_)) (.cons (wh (zt F0_ eB ah.edges_)) (.cons (wh (zt zH eB ah.pairs_)) (.nil)))) (fun us hu => YJ hC _ _ _ h2 us hu) (some 26)).or X0) hC a6 (arr, w64 (bw + 1)) hl1 [Hq c1, Hn (⟨rfl, leP (show VS [] [] from inferInstance), leP (show VS [(eI .i64) bw] [(eI .i64) bw] from inferInstance), rfl, rfl⟩ : ([.fn 25 []] : List A) = [.fn 25 []] ∧ LeP [] [] ∧ LeP [(eI .i64) bw] [(eI .i64) bw] ∧ T.als 7 [.deref] 0 0 = T.als 7 [.deref] 0 0 ∧ (some (.agg [.opq (yd (zt (eI .i64) eB ah.states_)), .opq (yd (zt F0_ eB ah.edges_)), .opq (yd (zt zH eB ah.pairs_))]) : Option A) = some (.agg [.opq (yd (zt (eI .i64) eB ah.states_)), .opq (yd (zt F0_ eB ah.edges_)), .opq (yd (zt zH eB ah.pairs_))])), Hc h05 (x := (m_, bw)) h3 (loC yj m_ <| loC (eI .i64) bw <| loN), Ha (lnM (zc F7_ zH zD) au), Hn (⟨arJ (by kernel_rfl) (i0 h4), (iL F0_ h4).2⟩ : K4 wq 73 ((Wb.toL dt).map F0_) bw = true ∧ bw.toNat < ((Wb.toL dt).map F0_).length), Hh (.op 2), Hh (.f), Hs (iM F0_ h4), Hh (.f), Hs (iM F0_ h4), Hx (.l ((Wb.toL arr).map F0_)) ((Wb.setL F0_ dt bw (xF.mk am ((au.length : Nat) : Int))).trans (congrArg (fun q => (Wb.toL q).map F0_) h5))]
   ·obtain rfl := zi ae
    obtain rfl := hl1
    exact yB X0 hC ay dt aa [Hq c1]
def vH : Code := (Tryz.f56.body).getD .skip
def yi : yk := spF (α := List z8) (ρ := List z8) 56 (fun x => [(eSl 3 false zH) x]) (fun r => (eSl 3 true zH) r) (fun x => yq x) [] (Kq)
theorem vL (hC : zL Tryz.prog ctr) : yi.Ok Tryz.prog := by
 refine zS ?_
 rintro s_ r0 aa
 try unfold yq at aa
 refine yO true [(2, none)] vH 9 Tryz.func56 fun E hE => ?_
 obtain ⟨g0, aa⟩ := gdE aa
 obtain rfl := zi aa
 exact yE X0 hC hE [Ha (lnM zH s_), Ha (lnM zH s_), Hn (slB g0), Hn (slC g0), Hn (zc7 zH g0), Ha (zh7 3 zH s_ 0 ((s_.length : Nat) : Int).toNat)]
def vw : Code := (Tryz.f41.body).getD .skip
def uP : yk := spF (α := z6 × List (List Int) × Int) (ρ := List z8 × Int) 41 (fun x => [yj x.1, qA x.2.1, (eI .i64) x.2.2]) (fun r => .tup [(eSl 3 true zH) r.1, (eI .i64) r.2]) (fun x => jA x.1 x.2.1 x.2.2) [] (z5R)
abbrev Xh (out : List z8) : List (Nat × T) := [(10, .own (eOs 3 false zH out))]
abbrev Xg (ah : zh) (au : List za) (av : Int) (a8 : List z8) : List (Nat × T) := [(9, .own (.box ((zT (eMp (eI .i64) eB) (eMp F0_ eB) (eMp zH eB)) ah))), (10, .own (eOs 3 false zH a8)), (24, .own (eOs 5 false (zc F7_ zH zD) au)), (25, .d (I ((au.length : Nat) : Int))), (26, .d (I av))]
abbrev Xf (ah : zh) (au : List za) (aj : List z8) (av : Int) : List (Nat × T) := [(9, .own (.box ((zT (eMp (eI .i64) eB) (eMp F0_ eB) (eMp zH eB)) ah))), (10, .own (eOs 3 false zH aj)), (24, .own (eOs 5 false (zc F7_ zH zD) au)), (25, .d (I ((au.length : Nat) : Int))), (26, .d (I av))]
theorem WH (hC : zL Tryz.prog ctr) (h04 : ctr.Has xY) (h02 : ctr.Has xm) (h05 : ctr.Has wK) (h0o : ctr.Has yi) : uP.Ok Tryz.prog := by
 refine zS ?_
 rintro ⟨m_, l_, goal⟩ r0 aa
 try unfold jA at aa
 refine yO false [(6, none), (7, none)] vw 43 Tryz.func41 fun E hE => ?_
 obtain ⟨r_, h0, aa⟩ := zm aa
 let Z0 : List HO := [Hc h04 (x := (m_, l_)) h0 (loC yj m_ <| loC qA l_ <| loN)]
 rcases y8 aa with ⟨c0, aa⟩ | ⟨c0, aa⟩
 ·obtain rfl := zi aa
  exact yEx X0 hC hE (Z0 ++ [Hq c0, Hm (shM zH zH [])]) (.tup [eSl 3 true zH [], I r_]) (show LeV (.tup [eSl 3 true zH [], I r_]) (.tup [eSl 3 true zH ([] : List z8), I r_]) from inferInstance)
 ·obtain ⟨ah, h1, aa⟩ := zm aa
  refine yJ X0 hC vw [1,1,1,1] [] [10] (fun z : List z8 => uR z = some r0) (fun z => Xh z) [(2, .d (I goal)), (3, .own (.box (yj m_))), (9, .own (.box ((zT (eMp (eI .i64) eB) (eMp F0_ eB) (eMp zH eB)) ah))), (10, .own (eOs 3 true zH []))] (Z0 ++ [Hq c0, Hc h02 (x := (m_, l_)) h1 (loC yj m_ <| loC qA l_ <| loN), Hh (.cut 1)]) ?_ fun J1 ay => ?_
  ·rintro out aa
   unfold uR at aa
   obtain ⟨am, h2, aa⟩ := zm aa
   obtain rfl := zi aa
   exact yE X0 hC hE [Hg (Kr h0o), Hm (shM zH zH out), Hs (Ks h0o (x := out) h2 (loC (eSl 3 false zH) out <| loN)), Hm (shM zH zH out)]
  ·obtain ⟨au, h3, aa⟩ := zm aa
   obtain ⟨t2, ht2, aa⟩ := zm aa
   refine yLx X0 hC vw [1,1,1,1,2,1,0] [J1] (fun s => uQ ah au s.1 s.2) (fun x => Xf ah au x.1 x.2) (([] : List z8), 0) ht2 [(9, .own (.box ((zT (eMp (eI .i64) eB) (eMp F0_ eB) (eMp zH eB)) ah))), (10, .own (eOs 3 true zH [])), (24, .own (eOs 5 false (zc F7_ zH zD) au)), (25, .d (I ((au.length : Nat) : Int))), (26, .d (I 0))] inferInstance [Hc h05 (x := (m_, goal)) h3 (loC yj m_ <| loC (eI .i64) goal <| loN), Ha (lnM (zc F7_ zH zD) au)] ?_
   rintro ⟨aj, av⟩ m2 bg ae hl1 J2 a6
   try unfold uQ at ae
   rcases y8 ae with ⟨c1, ae⟩ | ⟨c1, ae⟩
   ·refine yJ X0 hC vw [1,1,1,1,2,1,0,0,1,1] [J1, J2] [9,10,24,25,26] (fun z : List z8 => vu av z = some bg) (fun z => Xg ah au av z) [(9, .own (.box ((zT (eMp (eI .i64) eB) (eMp F0_ eB) (eMp zH eB)) ah))), (10, .own (eOs 3 false zH aj)), (24, .own (eOs 5 false (zc F7_ zH zD) au)), (25, .d (I ((au.length : Nat) : Int))), (26, .d (I av))] [Hq c1, Hh (.cut 0)] ?_ fun J3 ce => ?_
    ·rintro a8 ae
     unfold vu at ae
     obtain rfl := zi ae
     exact yB X0 hC a6 (a8, w64 (av + 1)) hl1 []
    ·obtain ⟨ca, h4, ae⟩ := zm ae
     obtain ⟨aw, h5, ae⟩ := zm ae
     let Z1 : List HO := [Hn (iL (zc F7_ zH zD) h4), Hs (iM (zc F7_ zH zD) h4), Hn (⟨rfl, leP (show VS [] [] from inferInstance), leP (show VS [] [] from inferInstance), rfl, rfl⟩ : ([zD ca.has_] : List A) = [zD ca.has_] ∧ LeP [] [] ∧ LeP [] [] ∧ T.als 9 [.deref] 0 0 = T.als 9 [.deref] 0 0 ∧ (some (.agg [.opq (yd (zt (eI .i64) eB ah.states_)), .opq (yd (zt F0_ eB ah.edges_)), .opq (yd (zt zH eB ah.pairs_))]) : Option A) = some (.agg [.opq (yd (zt (eI .i64) eB ah.states_)), .opq (yd (zt F0_ eB ah.edges_)), .opq (yd (zt zH eB ah.pairs_))]))]
     rcases y8 ae with ⟨c2, ae⟩ | ⟨c2, ae⟩
     ·obtain ⟨g0, ae⟩ := gdE ae
      exact yB ((Yj (P := Tryz.prog) wq 9 0 [.deref] (fa := zD ca.has_) (r := B aw) (xl := []) (xr := []) (qs := [(yd (zt (eI .i64) eB ah.states_)), (yd (zt F0_ eB ah.edges_)), (yd (zt zH eB ah.pairs_))]) (qs' := [(yd (zt (eI .i64) eB ah.states_)), (yd (zt F0_ eB ah.edges_)), (yd (zt zH eB ah.pairs_))]) (es := [(zt (eI .i64) eB ah.states_), (zt F0_ eB ah.edges_), (zt zH eB ah.pairs_)]) (es' := [(zt (eI .i64) eB ah.states_), (zt F0_ eB ah.edges_), (zt zH eB ah.pairs_)]) (.inr rfl) (z4j (by kernel_rfl)) (.cons (wh (zt (eI .i64) eB ah.states_)) (.cons (wh (zt F0_ eB ah.edges_)) (.cons (wh (zt zH eB ah.pairs_)) (.nil)))) (fun us hu => Ym hC _ _ _ h5 us hu) (some 33)).or X0) hC ce (aj ++ ([ca.pair_] : List z8)) ae (Z1 ++ [Hq c2, Hq (dM zH ([ca.pair_] : List z8)), Hn (dM zH ([ca.pair_] : List z8)), Hn (aL zH zH g0), Hl (aM zH aj ([ca.pair_] : List z8))])
     ·exact yB ((Yj (P := Tryz.prog) wq 9 0 [.deref] (fa := zD ca.has_) (r := B aw) (xl := []) (xr := []) (qs := [(yd (zt (eI .i64) eB ah.states_)), (yd (zt F0_ eB ah.edges_)), (yd (zt zH eB ah.pairs_))]) (qs' := [(yd (zt (eI .i64) eB ah.states_)), (yd (zt F0_ eB ah.edges_)), (yd (zt zH eB ah.pairs_))]) (es := [(zt (eI .i64) eB ah.states_), (zt F0_ eB ah.edges_), (zt zH eB ah.pairs_)]) (es' := [(zt (eI .i64) eB ah.states_), (zt F0_ eB ah.edges_), (zt zH eB ah.pairs_)]) (.inr rfl) (z4j (by kernel_rfl)) (.cons (wh (zt (eI .i64) eB ah.states_)) (.cons (wh (zt F0_ eB ah.edges_)) (.cons (wh (zt zH eB ah.pairs_)) (.nil)))) (fun us hu => Ym hC _ _ _ h5 us hu) (some 33)).or X0) hC ce aj ae (Z1 ++ [Hq c2])
   ·obtain rfl := zi ae
    obtain rfl := hl1
    exact yB X0 hC ay aj aa [Hq c1]
def j6 : Code := (Tryz.f18.body).getD .skip
def qJ : yk := spF (α := z6 × List (List Int)) (ρ := List (xF Int) × Int) 18 (fun x => [yj x.1, qA x.2]) (fun r => .tup [(eSl 2 true F0_) r.1, (eI .i64) r.2]) (fun x => ZD x.1 x.2) [] (Um)
abbrev W9 (r_ : List z8 × Int) (out : List (xF Int)) : List (Nat × T) := [(7, .d (I r_.2)), (8, .own (z6M 2 ((r_.1.length : Nat) : Int).toNat F0_ out))]
abbrev W8 (r_ : List z8 × Int) (aj : List (xF Int)) (gr : Int) : List (Nat × T) := [(7, .d (I r_.2)), (8, .own (z6M 2 ((r_.1.length : Nat) : Int).toNat F0_ aj)), (20, .d (eSl 3 true zH r_.1)), (21, .d (I ((r_.1.length : Nat) : Int))), (22, .d (I gr))]
theorem VY (hC : zL Tryz.prog ctr) (h0T : ctr.Has uP) : qJ.Ok Tryz.prog := by
 refine zS ?_
 rintro ⟨m_, l_⟩ r0 aa
 try unfold ZD at aa
 refine yO false [(4, none), (5, none)] j6 37 Tryz.func18 fun E hE => ?_
 obtain ⟨r_, h0, aa⟩ := zm aa
 obtain ⟨g0, aa⟩ := gdE aa
 refine yJ ((xCm zC 19 2).or X0) hC j6 [1,1,1] [] [7,8] (fun z : List (xF Int) => qZ r_ z = some r0) (fun z => W9 r_ z) [(6, .d (eSl 3 true zH r_.1)), (7, .d (I r_.2)), (8, .own (z6M 2 ((r_.1.length : Nat) : Int).toNat F0_ ([] : List (xF Int))))] [Hc h0T (x := (m_, l_, 1)) h0 (loC yj m_ <| loC qA l_ <| loC (eI .i64) 1 <| loN), Ha (lnM zH r_.1), Hn (zhz g0), Hh (.cut 0)] ?_ fun J1 ay => ?_
 ·rintro out aa
  unfold qZ at aa
  obtain ⟨g1, aa⟩ := gdE aa
  obtain rfl := zi aa
  exact yE ((xCe Tryz.prog 4 2 (((r_.1.length : Nat) : Int).toNat) (out.map F0_)).or X0) hC hE [Hn (⟨rfl, zhB F0_ g1⟩ : z6M 2 (((r_.1.length : Nat) : Int).toNat) F0_ out = A.opq (z2b 2 (((r_.1.length : Nat) : Int).toNat) (out.map F0_)).q ∧ (out.map F0_).length = ((r_.1.length : Nat) : Int).toNat), Hm (shM F0_ F0_ out)]
 ·obtain ⟨t2, ht2, aa⟩ := zm aa
  refine yL X0 hC j6 [1,1,1,2,1,0] [J1] (fun s => qY r_ s.1 s.2) (fun x => W8 r_ x.1 x.2) (([] : List (xF Int)), 0) ht2  [Ha (lnM zH r_.1)] ?_
  rintro ⟨aj, gr⟩ m2 bg ae hl1 J2 a6
  try unfold qY at ae
  rcases y8 ae with ⟨c0, ae⟩ | ⟨c0, ae⟩
  ·obtain ⟨u_, h1, ae⟩ := zm ae
   obtain ⟨g2, ae⟩ := gdE ae
   obtain rfl := zi ae
   exact yB ((xCa zC 33 2 (((r_.1.length : Nat) : Int).toNat) (aj.map F0_) ((aj ++ ([(xF.mk u_.State u_.Input)] : List (xF Int))).map F0_)).or X0) hC a6 ((aj ++ ([(xF.mk u_.State u_.Input)] : List (xF Int))), w64 (gr + 1)) hl1 [Hq c0, Hi zH h1, Hn (⟨rfl, dM F0_ ([(xF.mk u_.State u_.Input)] : List (xF Int)), rfl⟩ : 2 = 2 ∧ A.areD (([(xF.mk u_.State u_.Input)] : List (xF Int)).map F0_) = true ∧ true = true), Hn (⟨rfl, zhA F0_ F0_ g2⟩ : z6M 2 (((r_.1.length : Nat) : Int).toNat) F0_ aj = A.opq (z2b 2 (((r_.1.length : Nat) : Int).toNat) (aj.map F0_)).q ∧ (aj.map F0_).length + (([(xF.mk u_.State u_.Input)] : List (xF Int)).map F0_).length ≤ ((r_.1.length : Nat) : Int).toNat), Hn (aM F0_ aj ([(xF.mk u_.State u_.Input)] : List (xF Int)))]
  ·obtain rfl := zi ae
   obtain rfl := hl1
   exact yB X0 hC ay aj aa [Hq c0]
def Yz : Code := (Tryz.f65.body).getD .skip
def vz : yk := spF (α := List (List Int)) (ρ := List (List Int)) 65 (fun x => [qA x]) (fun r => z6F r) (fun x => ur x) [] (Kq)
theorem YG (hC : zL Tryz.prog ctr) : vz.Ok Tryz.prog := by
 refine zS ?_
 rintro s_ r0 aa
 try unfold ur at aa
 refine yO true [(2, none)] Yz 8 Tryz.func65 fun E hE => ?_
 refine z2X rfl 0 (sz := 1) (t := false) (es := s_.map F7_) (by kernel_rfl) fun az hv0 hn => ?_
 rcases hn with ⟨hn0, he0⟩ | hn0
 ·obtain ⟨_, aa⟩ := gdE aa
  rw [show s_ = [] from List.map_eq_nil_iff.1 he0] at aa
  obtain rfl := zi aa
  exact yEx ((zbs zC 4 31 (by kernel_rfl) hn0).or ((xMv Tryz.prog 3 0 az hv0).or X0)) hC hE [Hn (rfl : some az = some az), Hn (⟨rfl, rfl⟩ : T.d (.atom az) = T.d (.atom az) ∧ T.d (.atom (.slice none 0 0)) = T.d (.atom (.slice none 0 0))), qT] (eOs 1 true F7_ []) (show LeV (eOs 1 true F7_ []) (eOs 1 false F7_ ([] : List (List Int))) from inferInstance)
 ·obtain ⟨g0, aa⟩ := gdE aa
  obtain rfl := zi aa
  exact yE ((zbs zC 4 31 (by kernel_rfl) hn0).or ((xMv Tryz.prog 3 0 az hv0).or X0)) hC hE [Hn (rfl : some az = some az), Hn (⟨rfl, rfl⟩ : T.d (.atom az) = T.d (.atom az) ∧ T.d (.atom (.slice none 0 0)) = T.d (.atom (.slice none 0 0))), qF, Hn (dM F7_ s_), Hn (aL F7_ F7_ g0), Hl (aM0 F7_ s_)]
def Ur : Code := (Tryz.f70.body).getD .skip
def jq : yk := spF (α := List Int × List Int) (ρ := Bool) 70 (fun x => [F7_ x.1, F7_ x.2]) (fun r => eB r) (fun x => jH x.1 x.2) [] (Um)
theorem UT (hC : zL Tryz.prog ctr) (h09 : ctr.Has vW) : jq.Ok Tryz.prog := by
 refine zS ?_
 rintro ⟨a_, b_⟩ r0 aa
 try unfold jH at aa
 refine yO true [(4, none)] Ur 9 Tryz.func70 fun E hE => ?_
 obtain ⟨r_, h0, aa⟩ := zm aa
 obtain rfl := zi aa
 exact yE X0 hC hE [Hc h09 (x := (a_, b_)) h0 (loC F7_ a_ <| loC F7_ b_ <| loN)]
def zV : Code := (Tryz.f69.body).getD .skip
def xO : yk := spF (α := List (List Int) × Unit) (ρ := List (List Int)) 69 (fun x => [z6F x.1, (zbA 70) x.2]) (fun r => z6F r) (fun x => ww x.1 x.2) [true, false] (by
 rintro ⟨a0, a1⟩ ⟨b0, b1⟩ h
 have e0 := uc.inj (f := z6F) _ _ (List.cons.inj h).1
 replace h := (List.cons.inj h).2
 have e1 := uc.inj (f := (zbA 70)) _ _ (List.cons.inj h).1
 subst e0 e1
 rfl)
abbrev je (s_ : List (List Int)) : List (Nat × T) := [(0, .own (eOs 1 false F7_ s_))]
abbrev jd (s_ : List (List Int)) (k_ : Int) : List (Nat × T) := [(0, .own (eOs 1 false F7_ s_)), (1, .d (.fn 70 [])), (5, .d (I k_))]
abbrev jb (du : List (List Int)) (cx : Int) : List (Nat × T) := [(0, .own (eOs 1 false F7_ du)), (5, .d (I cx))]
abbrev ja (az : Value) (k_ : Int) (k2 : Int) (gz : List (List Int)) (ia : Int) : List (Nat × T) := [(0, .own (eOs 1 false F7_ gz)), (1, .d (.fn 70 [])), (5, .d (I ia)), (6, .d (.atom (Ya 1 az k_))), (7, .d (I k2))]
abbrev j8 (az : Value) (k_ : Int) (dm : List (List Int)) (ep : Int) (k2 : Int) : List (Nat × T) := [(0, .own (eOs 1 false F7_ dm)), (1, .d (.fn 70 [])), (5, .d (I ep)), (6, .d (.atom (Ya 1 az k_))), (7, .d (I k2))]
abbrev j9 (s_ : List (List Int)) (k_ : Int) : List (Nat × T) := [(0, .own (eOs 1 false F7_ s_)), (1, .d (.fn 70 [])), (5, .d (I k_))]
def zx : XH Tryz.prog := ((zhS zC 64).or X0)
theorem ke (hC : zL Tryz.prog ctr) (h0p : ctr.Has jq) : xO.Ok Tryz.prog := by
 refine zS ?_
 rintro ⟨s_, eq⟩ r0 aa
 try unfold ww at aa
 refine yO true [(4, none)] zV 66 Tryz.func69 fun E hE => ?_
 refine z6q (y := eOs 1 false F7_ s_) rfl 0 (by kernel_rfl) (by kernel_rfl) fun az hv0 => ?_
 let Z0 : List HO := [Ha (lnM F7_ s_)]
 rcases y8 aa with ⟨c0, aa⟩ | ⟨c0, aa⟩
 ·obtain rfl := zi aa
  exact yE zx hC hE (Z0 ++ [Hq c0])
 ·refine yJ zx hC zV [1,1] [] [0] (fun z : Unit => xT s_ = some r0) (fun z => je s_) [(0, .own (eOs 1 false F7_ s_)), (1, .d (.fn 70 []))] (Z0 ++ [Hq c0, Hh (.cut 0)]) ?_ fun J1 ay => ?_
  ·rintro ⟨⟩ aa
   unfold xT at aa
   obtain rfl := zi aa
   exact yE zx hC hE []
  ·obtain ⟨t2, ht2, aa⟩ := zm aa
   refine yL zx hC zV [1,1,2,1,0] [J1] (fun s => xQ s_ s) (fun x => j9 s_ x) 1 ht2  [] ?_
   rintro k_ m2 bg ae hl1 J2 a6
   try unfold xQ at ae
   let Z1 : List HO := [Ha (lnM F7_ s_)]
   rcases y8 ae with ⟨c1, ae⟩ | ⟨c1, ae⟩
   ·refine yJ zx hC zV [1,1,2,1,0,0,1] [J1, J2] [0,1,5] (fun z : Unit => xS k_ = some bg) (fun z => jd s_ k_) [(0, .own (eOs 1 false F7_ s_)), (1, .d (.fn 70 [])), (5, .d (I k_))] (Z1 ++ [Hq c1, Hh (.cut 0)]) ?_ fun J3 ce => ?_
    ·rintro ⟨⟩ ae
     unfold xS at ae
     obtain rfl := zi ae
     exact yB zx hC a6 (w64 (k_ + 1)) hl1 []
    ·obtain ⟨dp, h0, ae⟩ := zm ae
     obtain ⟨gh, h1, ae⟩ := zm ae
     obtain ⟨r_, h2, ae⟩ := zm ae
     let Z2 : List HO := [Hn (iL F7_ h0), Hs (iM F7_ h0), Hn (iL F7_ h1), Hs (iM F7_ h1), Hc h0p (x := (dp, gh)) h2 (loC F7_ dp <| loC F7_ gh <| loN)]
     rcases y8 ae with ⟨c2, ae⟩ | ⟨c2, ae⟩
     ·obtain ⟨g0, ae⟩ := gdE ae
      refine yJ ((xAs Tryz.prog 6 (Ya 1 az k_)).or ((xVw zC 31 0 az).or zx)) hC zV [1,1,2,1,0,0,1,2,0,1,0,1] [J1, J2, J3] [0,5] (fun z : List (List Int) × Int => xR z.1 z.2 = some bg) (fun z => jb z.1 z.2) [(0, .own (eOs 1 false F7_ s_)), (1, .d (.fn 70 [])), (5, .d (I k_)), (6, .d (.atom (Ya 1 az k_)))] (Z2 ++ [Hq c2, Hn (⟨.inl rfl, rfl⟩ : (T.als 0 [] 0 0 = T.als 0 [] 0 0 ∨ T.als 0 [] 0 0 = T.d (.atom az)) ∧ some az = some az), Hn (⟨g0.1, cuB F7_ g0⟩ : (0 : Int) ≤ k_ ∧ k_.toNat ≤ (s_.map F7_).length), Hn (rfl : T.d (.atom (Ya 1 az k_)) = T.d (.atom (Ya 1 az k_))), Hh (.cut 1)]) ?_ fun J4 d0 => ?_
      ·rintro ⟨du, cx⟩ ae
       unfold xR at ae
       obtain ⟨g1, ae⟩ := gdE ae
       obtain ⟨g2, ae⟩ := gdE ae
       obtain ⟨g3, ae⟩ := gdE ae
       obtain rfl := zi ae
       obtain rfl := hl1
       obtain rfl := zi aa
       exact yE ((xVc zC 61 1 0 az cx).or ((xVw zC 61 0 az).or zx)) hC hE [Hn (⟨.inl rfl, rfl⟩ : (T.als 0 [] 0 0 = T.als 0 [] 0 0 ∨ T.als 0 [] 0 0 = T.d (.atom az)) ∧ some az = some az), Hn (⟨g1.1, cuB F7_ g1⟩ : (0 : Int) ≤ cx ∧ cx.toNat ≤ (du.map F7_).length), Hn (⟨rfl, rfl⟩ : T.d (.atom (Ya 1 az cx)) = T.d (.atom (Ya 1 az cx)) ∧ some az = some az), Hn (⟨g2.1, cuB F7_ g2, dM F7_ du⟩ : (0 : Int) ≤ cx ∧ cx.toNat ≤ (du.map F7_).length ∧ A.areD (du.map F7_) = true), Hx (.l ((du.take cx.toNat ++ List.replicate (du.length - cx.toNat) []).map F7_)) (vcM F7_ du cx.toNat ([] : List Int)), Hn g3.1, Hn (cuB F7_ g3), Hl (cuM F7_ (du.take cx.toNat ++ List.replicate (du.length - cx.toNat) []) cx)]
      ·obtain ⟨t5, ht5, ae⟩ := zm ae
       refine yL zx hC zV [1,1,2,1,0,0,1,2,0,1,0,1,2,1,0] [J1, J2, J3, J4] (fun s => xP k_ s.1 s.2.1 s.2.2) (fun x => j8 az k_ x.1 x.2.1 x.2.2) (s_, k_, 1) ht5  [] ?_
       rintro ⟨dm, ep, k2⟩ m5 ff ai hl2 J5 dn
       try unfold xP at ai
       let Z3 : List HO := [Hn (⟨rfl, rfl⟩ : T.d (.atom (Ya 1 az k_)) = T.d (.atom (Ya 1 az k_)) ∧ some az = some az), Hx (.a (.atom (.int .i64 ((dm.length - k_.toNat : Nat) : Int)))) (vlM F7_ dm k_.toNat)]
       rcases y8 ai with ⟨c3, ai⟩ | ⟨c3, ai⟩
       ·refine yJ ((xVl zC 34 31 1 0 az k_ (by kernel_rfl)).or zx) hC zV [1,1,2,1,0,0,1,2,0,1,0,1,2,1,0,0,1] [J1, J2, J3, J4, J5] [0,1,5,6,7] (fun z : List (List Int) × Int => yQ k2 z.1 z.2 = some ff) (fun z => ja az k_ k2 z.1 z.2) [(0, .own (eOs 1 false F7_ dm)), (1, .d (.fn 70 [])), (5, .d (I ep)), (6, .d (.atom (Ya 1 az k_))), (7, .d (I k2))] (Z3 ++ [Hq c3, Hh (.cut 0)]) ?_ fun J6 ew => ?_
        ·rintro ⟨gz, ia⟩ ai
         unfold yQ at ai
         obtain rfl := zi ai
         exact yB zx hC dn (gz, ia, w64 (k2 + 1)) hl2 []
        ·obtain ⟨g4, ai⟩ := gdE ai
         obtain ⟨ge, h3, ai⟩ := zm ai
         obtain ⟨g5, ai⟩ := gdE ai
         obtain ⟨gf, h4, ai⟩ := zm ai
         obtain ⟨ah, h5, ai⟩ := zm ai
         let Z4 : List HO := [Hn (⟨rfl, rfl⟩ : T.d (.atom (Ya 1 az k_)) = T.d (.atom (Ya 1 az k_)) ∧ some az = some az), Hn (⟨g4.1, g4.2, (iL F7_ h3).2⟩ : (0 : Int) ≤ k_ ∧ (0 : Int) ≤ k2 ∧ (k_ + k2).toNat < (dm.map F7_).length), Hs (iM F7_ h3), Hn (⟨rfl, rfl⟩ : T.d (.atom (Ya 1 az k_)) = T.d (.atom (Ya 1 az k_)) ∧ some az = some az), Hn (⟨g5.1, g5.2, (iL F7_ h4).2⟩ : (0 : Int) ≤ k_ ∧ (0 : Int) ≤ w64 (k2 - 1) ∧ (k_ + (w64 (k2 - 1))).toNat < (dm.map F7_).length), Hs (iM F7_ h4), Hc h0p (x := (ge, gf)) h5 (loC F7_ ge <| loC F7_ gf <| loN)]
         rcases y8 ai with ⟨c4, ai⟩ | ⟨c4, ai⟩
         ·obtain ⟨g6, ai⟩ := gdE ai
          obtain ⟨gg, h6, ai⟩ := zm ai
          obtain ⟨iv, h7, ai⟩ := zm ai
          exact yB ((xVi zC 54 1 0 az k_).or ((xVi zC 46 1 0 az k_).or ((xVi zC 41 1 0 az k_).or zx))) hC ew ((dm.set ep.toNat gg), w64 (ep + 1)) ai (Z4 ++ [Hq c4, Hn (⟨rfl, rfl⟩ : T.d (.atom (Ya 1 az k_)) = T.d (.atom (Ya 1 az k_)) ∧ some az = some az), Hn (⟨g6.1, g6.2, (iL F7_ h6).2⟩ : (0 : Int) ≤ k_ ∧ (0 : Int) ≤ k2 ∧ (k_ + k2).toNat < (dm.map F7_).length), Hs (iM F7_ h6), Hn (iL F7_ h7), Hs (iM F7_ h7), Hs (iM F7_ h7), Hl (sM F7_ dm ep gg)])
         ·exact yB ((xVi zC 46 1 0 az k_).or ((xVi zC 41 1 0 az k_).or zx)) hC ew (dm, ep) ai (Z4 ++ [Hq c4])
       ·obtain rfl := zi ai
        obtain rfl := hl2
        exact yB ((xVl zC 34 31 1 0 az k_ (by kernel_rfl)).or zx) hC d0 (dm, ep) ae (Z3 ++ [Hq c3])
     ·exact yB zx hC ce () ae (Z2 ++ [Hq c2])
   ·obtain rfl := zi ae
    obtain rfl := hl1
    exact yB zx hC ay () aa (Z1 ++ [Hq c1])
def ZT : Code := (Tryz.f68.body).getD .skip
def yG : yk := spR (α := List (List Int)) (ρ := List (List Int)) 68 (fun x => [z6F x]) (fun r => (eOs 1 true F7_) r) (fun x => wj x) [true] (Kq)
theorem ZR : ∀ x r, (fun x => wj x) x = some r → (Kt.add yG).run 68 ((Kt.add yG).norm 68 ((fun x => [z6F x]) x)) = some ((fun r => (eOs 1 true F7_) r) r) := fun x r h => zir h rfl
theorem ZS : (Kt.add yG).lend 68 = none ∧ (Kt.add yG).gives 68 = [true] := zfz
theorem va (hC : zL Tryz.prog ctr) : yG.Ok Tryz.prog := by
 refine zc6 ?_
 rintro s_ r0 aa
 try unfold wj at aa
 refine yO true [(2, none)] ZT 9 Tryz.func68 fun E hE => ?_
 obtain rfl := zi aa
 exact yE ((xCl zC 8).or X0) hC hE [Ha (lnM F7_ s_), Ha (lnM F7_ s_), Hn (Int.natCast_nonneg _ : (0 : Int) ≤ ((s_.length : Nat) : Int)), Hn (Int.natCast_nonneg _ : (0 : Int) ≤ ((s_.length : Nat) : Int)), Hn (clB F7_ s_), Ha (clE 1 F7_ s_)]
end Go.Own
end
