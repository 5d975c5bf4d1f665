/- -/
import Derived.Test.YtkelmheleahmpaaGreatDoorPartE
noncomputable section
set_option linter.unusedVariables false
set_option linter.unusedSimpArgs false
namespace Go.Own
open Go.Proofs
set_option maxRecDepth 100000
set_option maxHeartbeats 8000000
def X0 : XH Tryz.prog := xB zB
theorem XA : Tryz.prog.follows .mixedOrders = true := by kernel_rfl
variable {rs : List (Nat × Option Nat)}{σ : Type}{keep : Bool}{r : A}
section
variable {ctr : Ctr} {n : Fr} {Q : Exit → St → Prop} {c : Code} {fs : List Fm} {st : St}
theorem yE (X : XH Tryz.prog) (hC : zN Tryz.prog ctr) {E : St → Prop}    (hE : ∀ st x R U, z4E xX keep rs st = some (x, R, U) → LeV x r → E st) (L : List HO) (e : zaL X xX ctr n keep rs 4000 c fs st (hoH L) = some (r, hoO L) := by kernel_rfl) : AWP Tryz.prog n c st (Qf Tryz.prog n fs (z3Z E)) := yE6 X zB hC XA hE L e
theorem yEx (X : XH Tryz.prog) (hC : zN Tryz.prog ctr) {E : St → Prop}    (hE : ∀ st x R U, z4E xX keep rs st = some (x, R, U) → LeV x r → E st) (L : List HO) (x : A) (hle : LeV x r) (e : zaL X xX ctr n keep rs 4000 c fs st (hoH L) = some (x, hoO L) := by kernel_rfl) : AWP Tryz.prog n c st (Qf Tryz.prog n fs (z3Z E)) := zgO X zB hC XA hE L x hle e
theorem yB (X : XH Tryz.prog) (hC : zN Tryz.prog ctr) {τ : Type} {J : St → Prop} {live : List Nat} {S : τ → List (Nat × T)} {Inv : τ → Prop} (hJ : ∀ st' l' z, Inv z → Own.canon live st' = ofL l' → LeL l' (S z) → J st') (z : τ) (hz : Inv z) (L : List HO) (e : z0B X xX ctr n live 4000 c fs st (hoH L) = some (.back J, ofL (S z), hoO L) := by kernel_rfl) : AWP Tryz.prog n c st (Qf Tryz.prog n fs Q) := yB6 X zB hC XA hJ z hz L e
theorem yA (X : XH Tryz.prog) (hC : zN Tryz.prog ctr) (bd : Code) (path : List Nat) (Js : List (St → Prop)) (l : List (Nat × T)) (L : List HO) (h : AWP Tryz.prog n (sub path bd) (ofL l) (Qf Tryz.prog n (frs path Js bd []) Q)) (e : z0B X xX ctr n (Ww l) 4000 c fs st (hoH L) = some (.at (sub path bd) (frs path Js bd []), ofL l, hoO L) := by kernel_rfl) : AWP Tryz.prog n c st (Qf Tryz.prog n fs Q) := yA6 X zB hC XA bd path Js l L e h
theorem yAt (X : XH Tryz.prog) (hC : zN Tryz.prog ctr) (c' : Code) (fs' : List Fm) (l : List (Nat × T)) (L : List HO) (h : ∀ st0, Own.canon (Ww l) st0 = ofL l → AWP Tryz.prog n c' st0 (Qf Tryz.prog n fs' Q)) (e : z0B X xX ctr n (Ww l) 4000 c fs st (hoH L) = some (.at c' fs', ofL l, hoO L) := by kernel_rfl) : AWP Tryz.prog n c st (Qf Tryz.prog n fs Q) := zgP X zB hC XA c' fs' l L e h
theorem yLx (X : XH Tryz.prog) (hC : zN Tryz.prog ctr) (bd : Code) (path : List Nat) (Js : List (St → Prop)) {σ τ : Type} (f : σ → Option (LR σ τ)) (S : σ → List (Nat × T)) (x0 : σ) {t : τ} (ht : loop f x0 = some t) (l : List (Nat × T)) (hl : LeL l (S x0)) (L : List HO) (round : ∀ x m lr, f x = some lr → zdZ f m t lr → ∀ J : St → Prop, (∀ st' l' x', Wv f m x' = some t → Own.canon (Ww l) st' = ofL l' → LeL l' (S x') → J st') → AWP Tryz.prog n (sub (path ++ [0]) bd) (ofL (S x)) (Qf Tryz.prog n (.pre J :: frs path Js bd []) Q)) (e : z0B X xX ctr n (Ww l) 4000 c fs st (hoH L) = some (.at (sub path bd) (frs path Js bd []), ofL l, hoO L) := by kernel_rfl) (e2 : sub path bd = .loop (sub (path ++ [0]) bd) := by kernel_rfl) (hk : ∀ x, Ww (S x) = Ww l := by exact fun _ => rfl) : AWP Tryz.prog n c st (Qf Tryz.prog n fs Q) := yL6 X zB hC XA bd path Js f S x0 ht l hl L hk e e2 round
theorem yL (X : XH Tryz.prog) (hC : zN Tryz.prog ctr) (bd : Code) (path : List Nat) (Js : List (St → Prop)) {σ τ : Type} (f : σ → Option (LR σ τ)) (S : σ → List (Nat × T)) (x0 : σ) {t : τ} (ht : loop f x0 = some t) (L : List HO) (round : ∀ x m lr, f x = some lr → zdZ f m t lr → ∀ J : St → Prop, (∀ st' l' x', Wv f m x' = some t → Own.canon (Ww (S x0)) st' = ofL l' → LeL l' (S x') → J st') → AWP Tryz.prog n (sub (path ++ [0]) bd) (ofL (S x)) (Qf Tryz.prog n (.pre J :: frs path Js bd []) Q)) (e : z0B X xX ctr n (Ww (S x0)) 4000 c fs st (hoH L) = some (.at (sub path bd) (frs path Js bd []), ofL (S x0), hoO L) := by kernel_rfl) (e2 : sub path bd = .loop (sub (path ++ [0]) bd) := by kernel_rfl) (hk : ∀ x, Ww (S x) = Ww (S x0) := by exact fun _ => rfl) : AWP Tryz.prog n c st (Qf Tryz.prog n fs Q) := yL6 X zB hC XA bd path Js f S x0 ht _ (LeL.refl _) L hk e e2 round
theorem yJ (X : XH Tryz.prog) (hC : zN Tryz.prog ctr) (bd : Code) (path : List Nat) (Js : List (St → Prop))  (live : List Nat) (Inv : σ → Prop) (S : σ → List (Nat × T)) (l : List (Nat × T)) (L : List HO) (h1 : ∀ z, Inv z → AWP Tryz.prog n (sub (path ++ [1]) bd) (ofL (S z)) (Qf Tryz.prog n (frs path Js bd []) Q)) (h2 : ∀ J : St → Prop, (∀ st' l' z, Inv z → Own.canon live st' = ofL l' → LeL l' (S z) → J st') → AWP Tryz.prog n (sub (path ++ [2]) bd) (ofL l) (Qf Tryz.prog n (.pre J :: frs path Js bd []) Q)) (e : z0B X xX ctr n (Ww l) 4000 c fs st (hoH L) = some (.at (sub path bd) (frs path Js bd []), ofL l, hoO L) := by kernel_rfl) (e2 : sub path bd = .seq (sub (path ++ [2]) bd) (sub (path ++ [1]) bd) := by kernel_rfl) : AWP Tryz.prog n c st (Qf Tryz.prog n fs Q) := yJ6 X zB hC XA bd path Js live Inv S l L e e2 h1 h2
theorem yF (X : XH Tryz.prog) (hC : zN Tryz.prog ctr) (ex : Exit) (l : List (Nat × T)) (L : List HO) (h : ∀ st0, Own.canon (Ww l) st0 = ofL l → Q ex st0) (e : z0B X xX ctr n (Ww l) 4000 c fs st (hoH L) = some (.fin ex, ofL l, hoO L) := by kernel_rfl) : AWP Tryz.prog n c st (Qf Tryz.prog n fs Q) := yF6 X zB hC XA ex l L e h
theorem yO {k : Nat} {fn : Func}  {ls : List A} (keep : Bool) (rs : List (Nat × Option Nat)) (body : Code) (nt : Nat) (hf : Tryz.prog.funcs[k]? = some fn) (h : ∀ E : St → Prop, (∀ st x R U, z4E xX keep rs st = some (x, R, U) → LeV x r → E st) → AWP Tryz.prog ⟨nt, []⟩ body (ofL (z5l 0 ls)) (Qf Tryz.prog ⟨nt, []⟩ [] (z3Z E))) (hb : fn.body = some body := by kernel_rfl) (hn : nt = fn.ntmps := by exact rfl) (hr : fn.results = (rs.map z0Q).toArray := by exact rfl) (hnm : (fn.name == "runtime.NumGoroutine") = false := by exact rfl) (ha : Nat.ble ls.length nt = true := by kernel_rfl) : X6 Tryz.prog k ls r := yO6 zB keep rs body nt hf hb hn hr hnm ha h
end
theorem z7d : z3w Tryz.prog 67 3 4 (Jf .i64) (.atom (.bool false)) := z7g Tryz.underlying67 Tryz.underlying3 ⟨.bool false, fun w => KI (f := Tryz.t4) (by kernel_rfl) rfl w, fun S => wI.2 ⟨rfl, rfl⟩⟩ rfl
theorem za4 : z3w Tryz.prog 68 34 4 (Vb [.i64, .i64]) (.atom (.bool false)) := z32 Tryz.underlying68 _ Tryz.underlying34 (Go.Ex.z8D.eqn rfl) (z4f.eqn rfl) rfl ⟨.bool false, fun w => KI (f := Tryz.t4) (by kernel_rfl) rfl w, fun S => wI.2 ⟨rfl, rfl⟩⟩ rfl
theorem za3 : z3w Tryz.prog 69 61 4 (Vb [.i64, .i64, .i64]) (.atom (.bool false)) := z32 Tryz.underlying69 _ Tryz.underlying61 (Go.Ex.z8C.eqn rfl) (z4e.eqn rfl) rfl ⟨.bool false, fun w => KI (f := Tryz.t4) (by kernel_rfl) rfl w, fun S => wI.2 ⟨rfl, rfl⟩⟩ rfl
theorem z7B : z3x Tryz.prog 105 0 3 0 := z5w Tryz.underlying105 _ rfl rfl rfl
theorem zec : zaF Tryz.prog 66 1 false := z6M zB (t := 51) Tryz.so66 rfl rfl (by kernel_rfl) (by decide)
def wO : Code := (Tryz.f20.body).getD .skip
def Yv : yd := spF (α := ye) (ρ := z6) 20 (fun x => [K6 x]) (fun r => yj r) (fun x => Yc x) [] (JL)
abbrev Q9 (x_ : ye) (fk : List (List ze)) : List (Nat × T) := [(2, .own (.box (.agg [I 0, I 0, eOs 1 true vO []]))), (4, .own (.box (.agg [I (w64 (1 + (w64 (Int.tmod x_.Inputs 3)))), I (w64 (1 + (w64 (Int.tmod x_.Outputs 3)))), eOs 1 false z0D fk])))]
abbrev Q8 (x_ : ye) (s_ : Int) (fe : List (List ze)) : List (Nat × T) := [(1, .own (.box (K6 x_))), (2, .own (.box (.agg [I 0, I 0, eOs 1 true vO []]))), (3, .d (I (w64 (1 + (w64 (Int.tmod x_.States 6)))))), (4, .own (.box (.agg [I (w64 (1 + (w64 (Int.tmod x_.Inputs 3)))), I (w64 (1 + (w64 (Int.tmod x_.Outputs 3)))), eOs 1 false z0D fe]))), (5, .d (I s_))]
abbrev Q7 (x_ : ye) (a9 : List (List ze)) (s_ : Int) (row : List ze) : List (Nat × T) := [(1, .own (.box (K6 x_))), (2, .own (.box (.agg [I 0, I 0, eOs 1 true vO []]))), (3, .d (I (w64 (1 + (w64 (Int.tmod x_.States 6)))))), (4, .own (.box (.agg [I (w64 (1 + (w64 (Int.tmod x_.Inputs 3)))), I (w64 (1 + (w64 (Int.tmod x_.Outputs 3)))), eOs 1 false z0D a9]))), (5, .d (I s_)), (6, .own (eOs 2 false up row))]
abbrev Q6 (x_ : ye) (a9 : List (List ze)) (s_ : Int) (i_ : Int) (gj : List ze) : List (Nat × T) := [(1, .own (.box (K6 x_))), (2, .own (.box (.agg [I 0, I 0, eOs 1 true vO []]))), (3, .d (I (w64 (1 + (w64 (Int.tmod x_.States 6)))))), (4, .own (.box (.agg [I (w64 (1 + (w64 (Int.tmod x_.Inputs 3)))), I (w64 (1 + (w64 (Int.tmod x_.Outputs 3)))), eOs 1 false z0D a9]))), (5, .d (I s_)), (6, .own (eOs 2 false up gj)), (7, .d (I i_))]
abbrev Q5 (x_ : ye) (a9 : List (List ze)) (s_ : Int) (cg : List ze) (i_ : Int) (v_ : Int) : List (Nat × T) := [(1, .own (.box (K6 x_))), (2, .own (.box (.agg [I 0, I 0, eOs 1 true vO []]))), (3, .d (I (w64 (1 + (w64 (Int.tmod x_.States 6)))))), (4, .own (.box (.agg [I (w64 (1 + (w64 (Int.tmod x_.Inputs 3)))), I (w64 (1 + (w64 (Int.tmod x_.Outputs 3)))), eOs 1 false z0D a9]))), (5, .d (I s_)), (6, .own (eOs 2 false up cg)), (7, .d (I i_)), (8, .d (I v_))]
abbrev Q3 (x_ : ye) (a9 : List (List ze)) (s_ : Int) (cg : List ze) (i_ : Int) : List (Nat × T) := [(1, .own (.box (K6 x_))), (2, .own (.box (.agg [I 0, I 0, eOs 1 true vO []]))), (3, .d (I (w64 (1 + (w64 (Int.tmod x_.States 6)))))), (4, .own (.box (.agg [I (w64 (1 + (w64 (Int.tmod x_.Inputs 3)))), I (w64 (1 + (w64 (Int.tmod x_.Outputs 3)))), eOs 1 false z0D a9]))), (5, .d (I s_)), (6, .own (eOs 2 false up cg)), (7, .d (I i_))]
abbrev Q4 (x_ : ye) (a9 : List (List ze)) (s_ : Int) : List (Nat × T) := [(1, .own (.box (K6 x_))), (2, .own (.box (.agg [I 0, I 0, eOs 1 true vO []]))), (3, .d (I (w64 (1 + (w64 (Int.tmod x_.States 6)))))), (4, .own (.box (.agg [I (w64 (1 + (w64 (Int.tmod x_.Inputs 3)))), I (w64 (1 + (w64 (Int.tmod x_.Outputs 3)))), eOs 1 false z0D a9]))), (5, .d (I s_))]
variable {ctr : Ctr}
theorem z0M (hC : zN Tryz.prog ctr) : Yv.Ok Tryz.prog := by
 refine zT ?_
 rintro x_ r0 aa
 try unfold Yc at aa
 refine yO false [(2, some 30)] wO 87 Tryz.func20 fun E hE => ?_
 obtain ⟨g0, aa⟩ := gdE aa
 obtain ⟨g1, aa⟩ := gdE aa
 obtain ⟨g2, aa⟩ := gdE aa
 refine yJ X0 hC wO [1,1,1] [] [2,4] (fun z : List (List ze) => kD x_ z = some r0) (fun z => Q9 x_ z) [(1, .own (.box (K6 x_))), (2, .own (.box (.agg [I 0, I 0, eOs 1 true vO []]))), (3, .d (I (w64 (1 + (w64 (Int.tmod x_.States 6)))))), (4, .own (.box (.agg [I (w64 (1 + (w64 (Int.tmod x_.Inputs 3)))), I (w64 (1 + (w64 (Int.tmod x_.Outputs 3)))), eOs 1 true vO []])))] [Hn g0, Hn g1, Hn g2, Hh (.cut 3)] ?_ fun J1 ax => ?_
 ·rintro fk aa
  unfold kD at aa
  obtain rfl := zj aa
  exact yE X0 hC hE [Hm (shM z0D vO fk)]
 ·obtain ⟨t2, ht2, aa⟩ := zl aa
  refine yLx X0 hC wO [1,1,1,2,1,0] [J1] (fun s => kA x_ s.1 s.2) (fun x => Q4 x_ x.1 x.2) (([] : List (List ze)), 0) ht2 [(1, .own (.box (K6 x_))), (2, .own (.box (.agg [I 0, I 0, eOs 1 true vO []]))), (3, .d (I (w64 (1 + (w64 (Int.tmod x_.States 6)))))), (4, .own (.box (.agg [I (w64 (1 + (w64 (Int.tmod x_.Inputs 3)))), I (w64 (1 + (w64 (Int.tmod x_.Outputs 3)))), eOs 1 true z0D []]))), (5, .d (I 0))] inferInstance [] ?_
  rintro ⟨a9, s_⟩ m2 bg ae hl1 J2 a6
  try unfold kA at ae
  rcases y5 ae with ⟨c0, ae⟩ | ⟨c0, ae⟩
  ·refine yJ X0 hC wO [1,1,1,2,1,0,0,1] [J1, J2] [1,2,3,4,5] (fun z : List (List ze) => kC s_ z = some bg) (fun z => Q8 x_ s_ z) [(1, .own (.box (K6 x_))), (2, .own (.box (.agg [I 0, I 0, eOs 1 true vO []]))), (3, .d (I (w64 (1 + (w64 (Int.tmod x_.States 6)))))), (4, .own (.box (.agg [I (w64 (1 + (w64 (Int.tmod x_.Inputs 3)))), I (w64 (1 + (w64 (Int.tmod x_.Outputs 3)))), eOs 1 false z0D a9]))), (5, .d (I s_))] [Hq c0, Hh (.cut 0)] ?_ fun J3 ca => ?_
   ·rintro fe ae
    unfold kC at ae
    obtain rfl := zj ae
    exact yB X0 hC a6 (fe, w64 (s_ + 1)) hl1 []
   ·refine yJ X0 hC wO [1,1,1,2,1,0,0,1,2,0,1] [J1, J2, J3] [1,2,3,4,5,6] (fun z : List ze => kB a9 s_ z = some bg) (fun z => Q7 x_ a9 s_ z) [(1, .own (.box (K6 x_))), (2, .own (.box (.agg [I 0, I 0, eOs 1 true vO []]))), (3, .d (I (w64 (1 + (w64 (Int.tmod x_.States 6)))))), (4, .own (.box (.agg [I (w64 (1 + (w64 (Int.tmod x_.Inputs 3)))), I (w64 (1 + (w64 (Int.tmod x_.Outputs 3)))), eOs 1 false z0D a9]))), (5, .d (I s_)), (6, .own (eOs 2 true up []))] [Hh (.cut 1)] ?_ fun J4 d0 => ?_
    ·rintro row ae
     unfold kB at ae
     obtain ⟨g3, ae⟩ := gdE ae
     exact yB X0 hC ca (a9 ++ ([row] : List (List ze))) ae [Hq (oC z0D row []), Hn (aL z0D z0D g3), Hl (aM z0D a9 ([row] : List (List ze)))]
    ·obtain ⟨t5, ht5, ae⟩ := zl ae
     refine yLx X0 hC wO [1,1,1,2,1,0,0,1,2,0,1,2,1,0] [J1, J2, J3, J4] (fun s => qJ x_ s_ s.1 s.2) (fun x => Q3 x_ a9 s_ x.1 x.2) (([] : List ze), 0) ht5 [(1, .own (.box (K6 x_))), (2, .own (.box (.agg [I 0, I 0, eOs 1 true vO []]))), (3, .d (I (w64 (1 + (w64 (Int.tmod x_.States 6)))))), (4, .own (.box (.agg [I (w64 (1 + (w64 (Int.tmod x_.Inputs 3)))), I (w64 (1 + (w64 (Int.tmod x_.Outputs 3)))), eOs 1 false z0D a9]))), (5, .d (I s_)), (6, .own (eOs 2 true up [])), (7, .d (I 0))] inferInstance [] ?_
     rintro ⟨cg, i_⟩ m5 fg ai hl2 J5 dn
     try unfold qJ at ai
     rcases y5 ai with ⟨c1, ai⟩ | ⟨c1, ai⟩
     ·refine yJ X0 hC wO [1,1,1,2,1,0,0,1,2,0,1,2,1,0,0,1] [J1, J2, J3, J4, J5] [1,2,3,4,5,6,7] (fun z : List ze => qK i_ z = some fg) (fun z => Q6 x_ a9 s_ i_ z) [(1, .own (.box (K6 x_))), (2, .own (.box (.agg [I 0, I 0, eOs 1 true vO []]))), (3, .d (I (w64 (1 + (w64 (Int.tmod x_.States 6)))))), (4, .own (.box (.agg [I (w64 (1 + (w64 (Int.tmod x_.Inputs 3)))), I (w64 (1 + (w64 (Int.tmod x_.Outputs 3)))), eOs 1 false z0D a9]))), (5, .d (I s_)), (6, .own (eOs 2 false up cg)), (7, .d (I i_))] [Hq c1, Hh (.cut 0)] ?_ fun J6 ez => ?_
      ·rintro gj ai
       unfold qK at ai
       obtain rfl := zj ai
       exact yB X0 hC dn (gj, w64 (i_ + 1)) hl2 []
      ·refine yJ X0 hC wO [1,1,1,2,1,0,0,1,2,0,1,2,1,0,0,1,2,0,1] [J1, J2, J3, J4, J5, J6] [1,2,3,4,5,6,7,8] (fun z : Int => vw x_ cg i_ z = some fg) (fun z => Q5 x_ a9 s_ cg i_ z) [(1, .own (.box (K6 x_))), (2, .own (.box (.agg [I 0, I 0, eOs 1 true vO []]))), (3, .d (I (w64 (1 + (w64 (Int.tmod x_.States 6)))))), (4, .own (.box (.agg [I (w64 (1 + (w64 (Int.tmod x_.Inputs 3)))), I (w64 (1 + (w64 (Int.tmod x_.Outputs 3)))), eOs 1 false z0D a9]))), (5, .d (I s_)), (6, .own (eOs 2 false up cg)), (7, .d (I i_)), (8, .d (I 0))] [Hh (.cut 1)] ?_ fun J7 fz => ?_
       ·rintro v_ ai
        unfold vw at ai
        rcases y5 ai with ⟨c2, ai⟩ | ⟨c2, ai⟩
        ·obtain ⟨g4, ai⟩ := gdE ai
         let Z0 : List HO := [Hq c2, Hq c2, Hn g4, Hq c2, Hq c2]
         rcases y5 ai with ⟨c3, ai⟩ | ⟨c3, ai⟩
         ·obtain ⟨g5, ai⟩ := gdE ai
          exact yB X0 hC ez (cg ++ ([(ze.mk (-1) (-1))] : List ze)) ai (Z0 ++ [Hq c3, Hq (dM up ([(ze.mk (-1) (-1))] : List ze)), Hn (dM up ([(ze.mk (-1) (-1))] : List ze)), Hn (aL up up g5), Hl (aM up cg ([(ze.mk (-1) (-1))] : List ze))])
         ·obtain ⟨g6, ai⟩ := gdE ai
          obtain ⟨g7, ai⟩ := gdE ai
          obtain ⟨g8, ai⟩ := gdE ai
          obtain ⟨g9, ai⟩ := gdE ai
          obtain ⟨g10, ai⟩ := gdE ai
          obtain ⟨g11, ai⟩ := gdE ai
          exact yB X0 hC ez (cg ++ ([(ze.mk (Int.tmod (w64 (Int.tdiv v_ 4)) (w64 (1 + (w64 (Int.tmod x_.States 6))))) (Int.tmod (w64 (Int.tdiv (w64 (Int.tdiv v_ 4)) (w64 (1 + (w64 (Int.tmod x_.States 6)))))) (w64 (1 + (w64 (Int.tmod x_.Outputs 3))))))] : List ze)) ai (Z0 ++ [Hq c3, Hn g6, Hn g7, Hn g8, Hn g9, Hn g10, Hq (dM up ([(ze.mk (Int.tmod (w64 (Int.tdiv v_ 4)) (w64 (1 + (w64 (Int.tmod x_.States 6))))) (Int.tmod (w64 (Int.tdiv (w64 (Int.tdiv v_ 4)) (w64 (1 + (w64 (Int.tmod x_.States 6)))))) (w64 (1 + (w64 (Int.tmod x_.Outputs 3))))))] : List ze)), Hn (dM up ([(ze.mk (Int.tmod (w64 (Int.tdiv v_ 4)) (w64 (1 + (w64 (Int.tmod x_.States 6))))) (Int.tmod (w64 (Int.tdiv (w64 (Int.tdiv v_ 4)) (w64 (1 + (w64 (Int.tmod x_.States 6)))))) (w64 (1 + (w64 (Int.tmod x_.Outputs 3))))))] : List ze)), Hn (aL up up g11), Hl (aM up cg ([(ze.mk (Int.tmod (w64 (Int.tdiv v_ 4)) (w64 (1 + (w64 (Int.tmod x_.States 6))))) (Int.tmod (w64 (Int.tdiv (w64 (Int.tdiv v_ 4)) (w64 (1 + (w64 (Int.tmod x_.States 6)))))) (w64 (1 + (w64 (Int.tmod x_.Outputs 3))))))] : List ze))])
        ·obtain ⟨g12, ai⟩ := gdE ai
         obtain ⟨g13, ai⟩ := gdE ai
         obtain ⟨g14, ai⟩ := gdE ai
         obtain ⟨g15, ai⟩ := gdE ai
         obtain ⟨g16, ai⟩ := gdE ai
         obtain ⟨g17, ai⟩ := gdE ai
         exact yB X0 hC ez (cg ++ ([(ze.mk (Int.tmod (w64 (Int.tdiv v_ 4)) (w64 (1 + (w64 (Int.tmod x_.States 6))))) (Int.tmod (w64 (Int.tdiv (w64 (Int.tdiv v_ 4)) (w64 (1 + (w64 (Int.tmod x_.States 6)))))) (w64 (1 + (w64 (Int.tmod x_.Outputs 3))))))] : List ze)) ai (rpN 4 (Hq c2) [qF, Hn g12, Hn g13, Hn g14, Hn g15, Hn g16, Hq (dM up ([(ze.mk (Int.tmod (w64 (Int.tdiv v_ 4)) (w64 (1 + (w64 (Int.tmod x_.States 6))))) (Int.tmod (w64 (Int.tdiv (w64 (Int.tdiv v_ 4)) (w64 (1 + (w64 (Int.tmod x_.States 6)))))) (w64 (1 + (w64 (Int.tmod x_.Outputs 3))))))] : List ze)), Hn (dM up ([(ze.mk (Int.tmod (w64 (Int.tdiv v_ 4)) (w64 (1 + (w64 (Int.tmod x_.States 6))))) (Int.tmod (w64 (Int.tdiv (w64 (Int.tdiv v_ 4)) (w64 (1 + (w64 (Int.tmod x_.States 6)))))) (w64 (1 + (w64 (Int.tmod x_.Outputs 3))))))] : List ze)), Hn (aL up up g17), Hl (aM up cg ([(ze.mk (Int.tmod (w64 (Int.tdiv v_ 4)) (w64 (1 + (w64 (Int.tmod x_.States 6))))) (Int.tmod (w64 (Int.tdiv (w64 (Int.tdiv v_ 4)) (w64 (1 + (w64 (Int.tmod x_.States 6)))))) (w64 (1 + (w64 (Int.tmod x_.Outputs 3))))))] : List ze))])
       ·let Z1 : List HO := [Ha (lnM (eI .u16) x_.Edges)]
        rcases y5 ai with ⟨c4, ai⟩ | ⟨c4, ai⟩
        ·obtain ⟨gk, h0, ai⟩ := zl ai
         exact yB X0 hC fz (w64 (gk)) ai (Z1 ++ [Hq c4, Hi (eI .u16) h0])
        ·exact yB X0 hC fz 0 ai (Z1 ++ [Hq c4])
     ·obtain rfl := zj ai
      obtain rfl := hl2
      exact yB X0 hC d0 cg ae [Hq c1]
  ·obtain rfl := zj ae
   obtain rfl := hl1
   exact yB X0 hC ax a9 aa [Hq c0]
def YT : Code := (Tryz.f21.body).getD .skip
def Yu : yd := spF (α := List Int × Int × Int) (ρ := List Int) 21 (fun x => [F1_ x.1, (eI .i64) x.2.1, (eI .i64) x.2.2]) (fun r => F6_ r) (fun x => Yb x.1 x.2.1 x.2.2) [] (z6h)
abbrev Q2 (out : List Int) : List (Nat × T) := [(7, .own (eOs 1 false (eI .i64) out))]
abbrev Q1 (w_ : List Int) (inputs : Int) (most : Int) (ak : List Int) (k_ : Int) : List (Nat × T) := [(0, .d (eSl 1 false (eI .u8) w_)), (1, .d (I inputs)), (2, .d (I most)), (7, .own (eOs 1 false (eI .i64) ak)), (8, .d (I k_))]
theorem z0L (hC : zN Tryz.prog ctr) : Yu.Ok Tryz.prog := by
 refine zT ?_
 rintro ⟨w_, inputs, most⟩ r0 aa
 try unfold Yb at aa
 refine yO true [(6, none)] YT 31 Tryz.func21 fun E hE => ?_
 refine yJ X0 hC YT [1,1] [] [7] (fun z : List Int => kz z = some r0) (fun z => Q2 z) [(0, .d (eSl 1 false (eI .u8) w_)), (1, .d (I inputs)), (2, .d (I most)), (7, .own (eOs 1 true (eI .i64) []))] [Hh (.cut 2)] ?_ fun J1 ax => ?_
 ·rintro out aa
  unfold kz at aa
  obtain rfl := zj aa
  exact yE X0 hC hE []
 ·obtain ⟨t2, ht2, aa⟩ := zl aa
  refine yLx X0 hC YT [1,1,2,1,0] [J1] (fun s => ky w_ inputs most s.1 s.2) (fun x => Q1 w_ inputs most x.1 x.2) (([] : List Int), 0) ht2 [(0, .d (eSl 1 false (eI .u8) w_)), (1, .d (I inputs)), (2, .d (I most)), (7, .own (eOs 1 true (eI .i64) [])), (8, .d (I 0))] inferInstance [] ?_
  rintro ⟨ak, k_⟩ m2 bg ae hl1 J2 a6
  try unfold ky at ae
  rcases y5 ae with ⟨c0, ae⟩ | ⟨c0, ae⟩
  ·let Z0 : List HO := (Ha (lnM (eI .u8) w_) :: (rpN 4 (Hq c0) []))
   rcases y5 ae with ⟨c1, ae⟩ | ⟨c1, ae⟩
   ·obtain ⟨bc, h0, ae⟩ := zl ae
    obtain ⟨g0, ae⟩ := gdE ae
    obtain ⟨g1, ae⟩ := gdE ae
    obtain rfl := zj ae
    exact yB X0 hC a6 ((ak ++ ([Int.tmod (w64 (bc)) inputs] : List Int)), w64 (k_ + 1)) hl1 (Z0 ++ [Hq c1, Hi (eI .u8) h0, Hn g0, Hq (dM (eI .i64) ([Int.tmod (w64 (bc)) inputs] : List Int)), Hn (dM (eI .i64) ([Int.tmod (w64 (bc)) inputs] : List Int)), Hn (aL (eI .i64) (eI .i64) g1), Hl (aM (eI .i64) ak ([Int.tmod (w64 (bc)) inputs] : List Int))])
   ·obtain rfl := zj ae
    obtain rfl := hl1
    exact yB X0 hC ax ak aa (Z0 ++ [Hq c1])
  ·obtain rfl := zj ae
   obtain rfl := hl1
   exact yB X0 hC ax ak aa (Ha (lnM (eI .u8) w_) :: (rpN 4 (Hq c0) [qF]))
def kc : Code := (Tryz.f34.body).getD .skip
def uK : yd := spF (α := List Int × List Int) (ρ := Int) 34 (fun x => [F7_ x.1, F7_ x.2]) (fun r => (eI .i64) r) (fun x => vu x.1 x.2) [] (VT)
abbrev WN : List (Nat × T) := []
abbrev WK (a_ : List Int) (b_ : List Int) (i_ : Int) : List (Nat × T) := [(0, .d (eSl 1 false (eI .i64) a_)), (1, .d (eSl 1 false (eI .i64) b_)), (5, .d (I i_))]
theorem Qv (hC : zN Tryz.prog ctr) : uK.Ok Tryz.prog := by
 refine zT ?_
 rintro ⟨a_, b_⟩ r0 aa
 try unfold vu at aa
 refine yO true [(4, none)] kc 40 Tryz.func34 fun E hE => ?_
 let Z0 : List HO := [Ha (lnM (eI .i64) a_), Ha (lnM (eI .i64) b_)]
 rcases y5 aa with ⟨c0, aa⟩ | ⟨c0, aa⟩
 ·let Z1 : List HO := (Z0 ++ [Hq c0, Ha (lnM (eI .i64) a_), Ha (lnM (eI .i64) b_)])
  rcases y5 aa with ⟨c1, aa⟩ | ⟨c1, aa⟩
  ·obtain rfl := zj aa
   exact yE X0 hC hE (Z1 ++ [Hq c1])
  ·obtain rfl := zj aa
   exact yE X0 hC hE (Z1 ++ [Hq c1])
 ·refine yJ X0 hC kc [1,1] [] [] (fun z : Unit => jZ = some r0) (fun z => WN) [(0, .d (eSl 1 false (eI .i64) a_)), (1, .d (eSl 1 false (eI .i64) b_))] (Z0 ++ [Hq c0, Hh (.cut 0)]) ?_ fun J1 ax => ?_
  ·rintro ⟨⟩ aa
   unfold jZ at aa
   obtain rfl := zj aa
   exact yE X0 hC hE []
  ·obtain ⟨t2, ht2, aa⟩ := zl aa
   refine yL X0 hC kc [1,1,2,1,0] [J1] (fun s => vF a_ b_ s) (fun x => WK a_ b_ x) 0 ht2  [] ?_
   rintro i_ m2 bg ae hl1 J2 a6
   try unfold vF at ae
   rcases y5 ae with ⟨c2, ae⟩ | ⟨c2, ae⟩
   ·obtain ⟨ft, h0, ae⟩ := zl ae
    obtain ⟨fw, h1, ae⟩ := zl ae
    let Z2 : List HO := [Ha (lnM (eI .i64) a_), Hq c2, Hi (eI .i64) h0, Hi (eI .i64) h1]
    rcases y5 ae with ⟨c3, ae⟩ | ⟨c3, ae⟩
    ·obtain rfl := zj ae
     obtain rfl := hl1
     obtain rfl := zj aa
     exact yE X0 hC hE (Z2 ++ [Hq c3])
    ·obtain ⟨ie, h2, ae⟩ := zl ae
     obtain ⟨ig, h3, ae⟩ := zl ae
     let Z3 : List HO := (Z2 ++ [Hq c3, Hi (eI .i64) h2, Hi (eI .i64) h3])
     rcases y5 ae with ⟨c4, ae⟩ | ⟨c4, ae⟩
     ·obtain rfl := zj ae
      obtain rfl := hl1
      obtain rfl := zj aa
      exact yE X0 hC hE (Z3 ++ [Hq c4])
     ·obtain rfl := zj ae
      exact yB X0 hC a6 (w64 (i_ + 1)) hl1 (Z3 ++ [Hq c4])
   ·obtain rfl := zj ae
    obtain rfl := hl1
    exact yB X0 hC ax () aa [Ha (lnM (eI .i64) a_), Hq c2]
def qq : Code := (Tryz.f42.body).getD .skip
def Xr : yd := spF (α := List (List Int) × List Int) (ρ := List (List Int)) 42 (fun x => [z6c x.1, F7_ x.2]) (fun r => z6c r) (fun x => Xx x.1 x.2) [true, false] (VT)
abbrev JH (w_ : List Int) (co : Int) (bl : List (List Int)) : List (Nat × T) := [(0, .own (eOs 1 false F7_ bl)), (1, .d (eSl 1 false (eI .i64) w_)), (5, .d (I co))]
abbrev JG (w_ : List Int) (co : Int) (dy : List (List Int)) (i_ : Int) : List (Nat × T) := [(0, .own (eOs 1 false F7_ dy)), (1, .d (eSl 1 false (eI .i64) w_)), (5, .d (I co)), (8, .d (I i_))]
abbrev JI (l_ : List (List Int)) (w_ : List Int) (co : Int) : List (Nat × T) := [(0, .own (eOs 1 false F7_ l_)), (1, .d (eSl 1 false (eI .i64) w_)), (5, .d (I co))]
abbrev JJ (l_ : List (List Int)) (w_ : List Int) (co : Int) : List (Nat × T) := [(0, .own (eOs 1 false F7_ l_)), (1, .d (eSl 1 false (eI .i64) w_)), (5, .d (I co))]
abbrev JF (l_ : List (List Int)) (w_ : List Int) (du : Int) (d9 : Int) : List (Nat × T) := [(0, .own (eOs 1 false F7_ l_)), (1, .d (eSl 1 false (eI .i64) w_)), (5, .d (I du)), (6, .d (I d9))]
def yZ : XH Tryz.prog := ((z44 zB (.inr 66) [65]).or ((z44 zB (.inl 44) [43]).or X0))
theorem z1P (hC : zN Tryz.prog ctr) (h08 : ctr.Has uK) : Xr.Ok Tryz.prog := by
 refine zT ?_
 rintro ⟨l_, w_⟩ r0 aa
 try unfold Xx at aa
 refine yO true [(4, none)] qq 68 Tryz.func42 fun E hE => ?_
 refine yJ yZ hC qq [1,1,1] [] [0,1,5] (fun z : Int => ZF l_ w_ z = some r0) (fun z => JJ l_ w_ z) [(0, .own (eOs 1 false F7_ l_)), (1, .d (eSl 1 false (eI .i64) w_)), (5, .d (I 0)), (6, .d (I ((l_.length : Nat) : Int)))] [Ha (lnM F7_ l_), Hh (.cut 0)] ?_ fun J1 ax => ?_
 ·rintro co aa
  unfold ZF at aa
  refine yJ yZ hC qq [1,1,1,1] [] [0,1,5] (fun z : Unit => qo l_ w_ co = some r0) (fun z => JI l_ w_ co) [(0, .own (eOs 1 false F7_ l_)), (1, .d (eSl 1 false (eI .i64) w_)), (5, .d (I co))] [Hh (.cut 0)] ?_ fun J2 a6 => ?_
  ·rintro ⟨⟩ aa
   unfold qo at aa
   obtain ⟨g0, aa⟩ := gdE aa
   refine yJ ((xNb zB 43).or yZ) hC qq [1,1,1,1,1,1] [] [0,1,5] (fun z : List (List Int) => ZD w_ co z = some r0) (fun z => JH w_ co z) [(0, .own (eOs 1 false F7_ (l_ ++ ([[]] : List (List Int))))), (1, .d (eSl 1 false (eI .i64) w_)), (5, .d (I co))] [Hm (shM F6_ F7_ ([[]])), Hn (dM F7_ ([[]] : List (List Int))), Hn (aL F7_ F7_ g0), Hl (aM F7_ l_ ([[]] : List (List Int))), Hh (.cut 0)] ?_ fun J3 ca => ?_
   ·rintro bl aa
    unfold ZD at aa
    obtain ⟨g1, aa⟩ := gdE aa
    obtain ⟨ba, h0, aa⟩ := zl aa
    obtain rfl := zj aa
    exact yE yZ hC hE [Hn (dM (eI .i64) w_), Hn (aL (eI .i64) (eI .i64) g1), Hl (aM0 (eI .i64) w_), Hn (iL F7_ h0), Hm (shM (eI .i64) (eI .i64) w_), Hs (iM F7_ h0), Hs (iM F7_ h0), Hl (sM F7_ bl co w_)]
   ·obtain ⟨t4, ht4, aa⟩ := zl aa
    refine yL yZ hC qq [1,1,1,1,1,1,2,1,0] [J3] (fun s => jF co s.1 s.2) (fun x => JG w_ co x.1 x.2) ((l_ ++ ([[]] : List (List Int))), w64 ((((l_ ++ ([[]] : List (List Int))).length : Nat) : Int) - 1)) ht4  [Ha (lnM F7_ (l_ ++ ([[]] : List (List Int))))] ?_
    rintro ⟨dy, i_⟩ m4 bg ae hl1 J4 d0
    try unfold jF at ae
    rcases y5 ae with ⟨c0, ae⟩ | ⟨c0, ae⟩
    ·obtain ⟨cn, h1, ae⟩ := zl ae
     obtain ⟨iu, h2, ae⟩ := zl ae
     obtain rfl := zj ae
     exact yB yZ hC d0 ((dy.set i_.toNat cn), w64 (i_ - 1)) hl1 [Hq c0, Hn (iL F7_ h1), Hs (iM F7_ h1), Hn (iL F7_ h2), Hs (iM F7_ h2), Hs (iM F7_ h2), Hl (sM F7_ dy i_ cn)]
    ·obtain rfl := zj ae
     obtain rfl := hl1
     exact yB yZ hC ca dy aa [Hq c0]
  ·let Z0 : List HO := [Ha (lnM F7_ l_)]
   rcases y5 aa with ⟨c1, aa⟩ | ⟨c1, aa⟩
   ·obtain ⟨gc, h3, aa⟩ := zl aa
    obtain ⟨r_, h4, aa⟩ := zl aa
    let Z1 : List HO := (Z0 ++ [Hq c1, Hq c1, Hq c1, Hn (iL F7_ h3), Hq c1, Hs (iM F7_ h3), Hq c1, Hq c1, Hc h08 (x := (gc, w_)) h4 (loC F7_ gc <| loC F7_ w_ <| loN), Hq c1, Hq c1])
    rcases y5 aa with ⟨c2, aa⟩ | ⟨c2, aa⟩
    ·obtain rfl := zj aa
     exact yE yZ hC hE (Z1 ++ [Hq c2])
    ·exact yB yZ hC a6 () aa (Z1 ++ [Hq c2])
   ·exact yB yZ hC a6 () aa (Z0 ++ (rpN 8 (Hq c1) [qF]))
 ·obtain ⟨t5, ht5, aa⟩ := zl aa
  refine yL yZ hC qq [1,1,1,2,0] [J1] (fun s => jE l_ w_ s.1 s.2) (fun x => JF l_ w_ x.1 x.2) (0, ((l_.length : Nat) : Int)) ht5  [] ?_
  rintro ⟨du, d9⟩ m5 bg ae hl1 J5 dn
  try unfold jE at ae
  rcases y5 ae with ⟨c3, ae⟩ | ⟨c3, ae⟩
  ·obtain ⟨g2, ae⟩ := gdE ae
   obtain ⟨ge, h5, ae⟩ := zl ae
   obtain ⟨ah, h6, ae⟩ := zl ae
   let Z2 : List HO := [Hq c3, Hn g2, Hn (iL F7_ h5), Hs (iM F7_ h5), Hc h08 (x := (ge, w_)) h6 (loC F7_ ge <| loC F7_ w_ <| loN)]
   rcases y5 ae with ⟨c4, ae⟩ | ⟨c4, ae⟩
   ·obtain rfl := zj ae
    exact yB yZ hC dn (w64 ((w64 (Int.tdiv (w64 (du + d9)) 2)) + 1), d9) hl1 (Z2 ++ [Hq c4])
   ·obtain rfl := zj ae
    exact yB yZ hC dn (du, w64 (Int.tdiv (w64 (du + d9)) 2)) hl1 (Z2 ++ [Hq c4])
  ·obtain rfl := zj ae
   obtain rfl := hl1
   exact yB yZ hC ax du aa [Hq c3]
def YP : Code := (Tryz.f22.body).getD .skip
def Yq : yd := spF (α := List (List Int)) (ρ := List (List Int)) 22 (fun x => [ZZ x]) (fun r => z6c r) (fun x => Y5 x) [] (JL)
abbrev UU (out : List (List Int)) : List (Nat × T) := [(3, .own (eOs 1 false F7_ out))]
abbrev UT (l_ : List (List Int)) (ak : List (List Int)) (i_ : Int) : List (Nat × T) := [(0, .d (eSl 1 false F7_ l_)), (3, .own (eOs 1 false F7_ ak)), (4, .d (I i_))]
theorem z0G (hC : zN Tryz.prog ctr) (h0s : ctr.Has Xr) : Yq.Ok Tryz.prog := by
 refine zT ?_
 rintro l_ r0 aa
 try unfold Y5 at aa
 refine yO true [(2, none)] YP 18 Tryz.func22 fun E hE => ?_
 refine yJ X0 hC YP [1,1] [] [3] (fun z : List (List Int) => YA z = some r0) (fun z => UU z) [(0, .d (eSl 1 false F7_ l_)), (3, .own (eOs 1 true F7_ []))] [Hh (.cut 2)] ?_ fun J1 ax => ?_
 ·rintro out aa
  unfold YA at aa
  obtain rfl := zj aa
  exact yE X0 hC hE []
 ·obtain ⟨t2, ht2, aa⟩ := zl aa
  refine yLx X0 hC YP [1,1,2,1,0] [J1] (fun s => wL l_ s.1 s.2) (fun x => UT l_ x.1 x.2) (([] : List (List Int)), 0) ht2 [(0, .d (eSl 1 false F7_ l_)), (3, .own (eOs 1 true F7_ [])), (4, .d (I 0))] inferInstance [] ?_
  rintro ⟨ak, i_⟩ m2 bg ae hl1 J2 a6
  try unfold wL at ae
  let Z0 : List HO := [Ha (lnM F7_ l_)]
  rcases y5 ae with ⟨c0, ae⟩ | ⟨c0, ae⟩
  ·obtain ⟨ba, h0, ae⟩ := zl ae
   obtain ⟨r_, h1, ae⟩ := zl ae
   obtain rfl := zj ae
   exact yB X0 hC a6 (r_, w64 (i_ + 1)) hl1 (Z0 ++ [Hq c0, Hi F7_ h0, Hc h0s (x := (ak, ba)) h1 (loC z6c ak <| loC F7_ ba <| loN)])
  ·obtain rfl := zj ae
   obtain rfl := hl1
   exact yB X0 hC ax ak aa (Z0 ++ [Hq c0])
def YS : Code := (Tryz.f7.body).getD .skip
def Yt : yd := spF (α := xW) (ρ := z6 × List (List Int)) 7 (fun x => [(uE K6 (eSl 1 false F1_)) x]) (fun r => .tup [yj r.1, ZZ r.2]) (fun x => kL x) [] (JL)
abbrev Q0 (r_ : z6) (l_ : List (List Int)) : List (Nat × T) := [(2, .own (.box (.agg [I 0, I 0, eOs 1 true vO []]))), (4, .own (.box (yj r_))), (5, .own (eOs 1 false F6_ l_))]
abbrev UZ (x_ : xW) (r_ : z6) (bl : List (List Int)) (i_ : Int) : List (Nat × T) := [(1, .own (.box (.agg [K6 x_.M, eSl 1 false F1_ x_.L]))), (2, .own (.box (.agg [I 0, I 0, eOs 1 true vO []]))), (4, .own (.box (yj r_))), (5, .own (eOs 1 false F6_ bl)), (6, .d (I i_))]
theorem z0K (hC : zN Tryz.prog ctr) (h0t : ctr.Has Yv) (h0u : ctr.Has Yu) (h0k : ctr.Has Yq) : Yt.Ok Tryz.prog := by
 refine zT ?_
 rintro x_ r0 aa
 try unfold kL at aa
 refine yO false [(2, some 30), (3, none)] YS 35 Tryz.func7 fun E hE => ?_
 obtain ⟨r_, h0, aa⟩ := zl aa
 refine yJ X0 hC YS [1,1,1] [] [2,4,5] (fun z : List (List Int) => kx r_ z = some r0) (fun z => Q0 r_ z) [(1, .own (.box (.agg [K6 x_.M, eSl 1 false F1_ x_.L]))), (2, .own (.box (.agg [I 0, I 0, eOs 1 true vO []]))), (4, .own (.box (yj r_))), (5, .own (eOs 1 true F7_ []))] [Hc h0t (x := x_.M) h0 (loC K6 x_.M <| loN), Hh (.cut 1)] ?_ fun J1 ax => ?_
 ·rintro l_ aa
  unfold kx at aa
  obtain ⟨ah, h1, aa⟩ := zl aa
  obtain rfl := zj aa
  exact yE X0 hC hE [Hg (Ku h0k), Hm (shM F6_ F7_ l_), Hs (Kv h0k (x := l_) h1 (loC ZZ l_ <| loN)), Hm (shM F6_ F7_ l_), Hm (shM F7_ F7_ ah)]
 ·obtain ⟨t2, ht2, aa⟩ := zl aa
  refine yLx X0 hC YS [1,1,1,2,1,0] [J1] (fun s => kw x_ r_ s.1 s.2) (fun x => UZ x_ r_ x.1 x.2) (([] : List (List Int)), 0) ht2 [(1, .own (.box (.agg [K6 x_.M, eSl 1 false F1_ x_.L]))), (2, .own (.box (.agg [I 0, I 0, eOs 1 true vO []]))), (4, .own (.box (yj r_))), (5, .own (eOs 1 true F6_ [])), (6, .d (I 0))] inferInstance [] ?_
  rintro ⟨bl, i_⟩ m2 bg ae hl1 J2 a6
  try unfold kw at ae
  let Z0 : List HO := [Ha (lnM F1_ x_.L)]
  rcases y5 ae with ⟨c0, ae⟩ | ⟨c0, ae⟩
  ·rcases y5 ae with ⟨c1, ae⟩ | ⟨c1, ae⟩
   ·obtain ⟨ii, h2, ae⟩ := zl ae
    obtain ⟨am, h3, ae⟩ := zl ae
    obtain ⟨g0, ae⟩ := gdE ae
    obtain rfl := zj ae
    exact yB X0 hC a6 ((bl ++ ([am] : List (List Int))), w64 (i_ + 1)) hl1 (Z0 ++ [Hq c0, Hq c0, Hq c0, Hq c1, Hi F1_ h2, Hc h0u (x := (ii, r_.Inputs, 8)) h3 (loC F1_ ii <| loC (eI .i64) r_.Inputs <| loC (eI .i64) 8 <| loN), Hq (oC F6_ am []), Hn (aL F6_ F6_ g0), Hl (aM F6_ bl ([am] : List (List Int)))])
   ·obtain rfl := zj ae
    obtain rfl := hl1
    exact yB X0 hC ax bl aa (Z0 ++ [Hq c0, Hq c0, Hq c0, Hq c1])
  ·obtain rfl := zj ae
   obtain rfl := hl1
   exact yB X0 hC ax bl aa (Z0 ++ [Hq c0, Hq c0, Hq c0, qF])
def UI : Code := (Tryz.f74.body).getD .skip
def jW : yd := spF (α := Unit) (ρ := ze) 74 (fun x => []) (fun r => up r) (fun x => ku) [] (fun _ _ _ => rfl)
theorem Qx (hC : zN Tryz.prog ctr) : jW.Ok Tryz.prog := by
 refine zT ?_
 rintro ⟨⟩ r0 aa
 try unfold ku at aa
 refine yO false [(0, some 105)] UI 2 Tryz.func74 fun E hE => ?_
 obtain rfl := zj aa
 exact yE X0 hC hE []
def UJ : Code := (Tryz.f59.body).getD .skip
def jX : yd := spF (α := z6 × ze) (ρ := Bool) 59 (fun x => [yj x.1, up x.2]) (fun r => eB r) (fun x => qI x.1 x.2) [] (VT)
theorem Qy (hC : zN Tryz.prog ctr) (h0v : ctr.Has jW) : jX.Ok Tryz.prog := by
 refine zT ?_
 rintro ⟨m_, x_⟩ r0 aa
 try unfold qI at aa
 refine yO true [(4, none)] UJ 33 Tryz.func59 fun E hE => ?_
 obtain ⟨r_, h0, aa⟩ := zl aa
 let Z0 : List HO := [Hc h0v (x := ()) h0 (loN)]
 rcases y5 aa with ⟨c0, aa⟩ | ⟨c0, aa⟩
 ·obtain rfl := zj aa
  exact yE X0 hC hE (Z0 ++ (rpN 10 (Hq c0) []))
 ·let Z1 : List HO := (Z0 ++ (rpN 4 (Hq c0) []))
  rcases y5 aa with ⟨c1, aa⟩ | ⟨c1, aa⟩
  ·let Z2 : List HO := (Z1 ++ (rpN 5 (Hq c1) [Ha (lnM vO m_.Rows), Hq c1, Hq c0, Hq c1, Hq c0]))
   rcases y5 aa with ⟨c2, aa⟩ | ⟨c2, aa⟩
   ·let Z3 : List HO := (Z2 ++ [Hq c2, Hq c2, Hq c2, Hq c0, Hq c2, Hq c0])
    rcases y5 aa with ⟨c3, aa⟩ | ⟨c3, aa⟩
    ·obtain rfl := zj aa
     exact yE X0 hC hE (Z3 ++ (rpN 5 (Hq c3) [Hq c0, Hq c3, Hq c0]))
    ·obtain rfl := zj aa
     exact yE X0 hC hE (Z3 ++ (rpN 5 (Hq c3) [Hq c0, Hq c3, Hq c0]))
   ·obtain rfl := zj aa
    exact yE X0 hC hE (Z2 ++ (Hq c2 :: Hq c2 :: Hq c2 :: Hq c0 :: Hq c2 :: Hq c0 :: (rpN 5 qF [Hq c0, qF, Hq c0])))
  ·obtain rfl := zj aa
   exact yE X0 hC hE (Z1 ++ (rpN 6 (Hq c1) (Hq c0 :: Hq c1 :: Hq c0 :: qF :: qF :: qF :: Hq c0 :: qF :: Hq c0 :: (rpN 5 qF [Hq c0, qF, Hq c0]))))
def WC : Code := (Tryz.f58.body).getD .skip
def uT : yd := spF (α := ze × z6) (ρ := Bool) 58 (fun x => [up x.1, z8a x.2]) (fun r => eB r) (fun x => uO x.1 x.2) [] (VT)
theorem V0 (hC : zN Tryz.prog ctr) (h0w : ctr.Has jX) : uT.Ok Tryz.prog := by
 refine zT ?_
 rintro ⟨x_, x1⟩ r0 aa
 try unfold uO at aa
 refine yO true [(3, none)] WC 8 Tryz.func58 fun E hE => ?_
 obtain ⟨r_, h0, aa⟩ := zl aa
 obtain rfl := zj aa
 exact yE X0 hC hE [Hc h0w (x := (x1, x_)) h0 (loC yj x1 <| loC up x_ <| loN)]
def yx : Code := (Tryz.f73.body).getD .skip
def yq : yd := spF (α := List ze × z6) (ρ := Int) 73 (fun x => [vO x.1, (z1D 58 z8a) x.2]) (fun r => (eI .i64) r) (fun x => yf x.1 x.2) [] (by
 rintro ⟨a0, a1⟩ ⟨b0, b1⟩ h
 have e0 := uS.inj (f := vO) _ _ (List.cons.inj h).1
 replace h := (List.cons.inj h).2
 have e1 := uS.inj (f := (z1D 58 z8a)) _ _ (List.cons.inj h).1
 subst e0 e1
 rfl)
abbrev vW : List (Nat × T) := []
abbrev vV (s_ : List ze) (f_ : z6) (x8 : Int) : List (Nat × T) := [(0, .d (eSl 2 false up s_)), (1, .d (.fn 58 [.sptr (.agg [I f_.Inputs, I f_.Outputs, eSl 1 false vO f_.Rows])])), (7, .d (I ((s_.length : Nat) : Int))), (8, .d (I x8))]
theorem uC (hC : zN Tryz.prog ctr) (h0x : ctr.Has uT) : yq.Ok Tryz.prog := by
 refine zT ?_
 rintro ⟨s_, f_⟩ r0 aa
 try unfold yf at aa
 refine yO true [(4, none)] yx 19 Tryz.func73 fun E hE => ?_
 refine yJ X0 hC yx [1] [] [] (fun z : Unit => yu = some r0) (fun z => vW) [(0, .d (eSl 2 false up s_)), (1, .d (.fn 58 [.sptr (.agg [I f_.Inputs, I f_.Outputs, eSl 1 false vO f_.Rows])]))] [Hh (.cut 1)] ?_ fun J1 ax => ?_
 ·rintro ⟨⟩ aa
  unfold yu at aa
  obtain rfl := zj aa
  exact yE X0 hC hE []
 ·obtain ⟨t2, ht2, aa⟩ := zl aa
  refine yL X0 hC yx [1,2,1,0] [J1] (fun s => zP s_ f_ s) (fun x => vV s_ f_ x) 0 ht2  [Ha (lnM up s_)] ?_
  rintro x8 m2 bg ae hl1 J2 a6
  try unfold zP at ae
  rcases y5 ae with ⟨c0, ae⟩ | ⟨c0, ae⟩
  ·obtain ⟨dp, h0, ae⟩ := zl ae
   obtain ⟨r_, h1, ae⟩ := zl ae
   let Z0 : List HO := [Hq c0, Hi up h0, Hc h0x (x := (dp, f_)) h1 (loC up dp <| loC z8a f_ <| loN)]
   rcases y5 ae with ⟨c1, ae⟩ | ⟨c1, ae⟩
   ·obtain rfl := zj ae
    obtain rfl := hl1
    obtain rfl := zj aa
    exact yE X0 hC hE (Z0 ++ [Hq c1])
   ·obtain rfl := zj ae
    exact yB X0 hC a6 (w64 (x8 + 1)) hl1 (Z0 ++ [Hq c1])
  ·obtain rfl := zj ae
   obtain rfl := hl1
   exact yB X0 hC ax () aa [Hq c0]
def vU : Code := (Tryz.f57.body).getD .skip
def yl : yd := spF (α := List ze × z6) (ρ := Bool) 57 (fun x => [vO x.1, (z1D 58 z8a) x.2]) (fun r => eB r) (fun x => zW x.1 x.2) [] (by
 rintro ⟨a0, a1⟩ ⟨b0, b1⟩ h
 have e0 := uS.inj (f := vO) _ _ (List.cons.inj h).1
 replace h := (List.cons.inj h).2
 have e1 := uS.inj (f := (z1D 58 z8a)) _ _ (List.cons.inj h).1
 subst e0 e1
 rfl)
theorem vX (hC : zN Tryz.prog ctr) (h0y : ctr.Has yq) : yl.Ok Tryz.prog := by
 refine zT ?_
 rintro ⟨s_, f_⟩ r0 aa
 try unfold zW at aa
 refine yO true [(4, none)] vU 9 Tryz.func57 fun E hE => ?_
 obtain ⟨r_, h0, aa⟩ := zl aa
 obtain rfl := zj aa
 exact yE X0 hC hE [Hc h0y (x := (s_, f_)) h0 (loC vO s_ <| loC (z1D 58 z8a) f_ <| loN)]
def jq : Code := (Tryz.f43.body).getD .skip
def ub : yd := spF (α := z6) (ρ := Int) 43 (fun x => [yj x]) (fun r => (eI .i64) r) (fun x => vJ x) [] (JL)
abbrev Wa : List (Nat × T) := []
abbrev W9 (m_ : z6) (gl : Int) : List (Nat × T) := [(1, .d (.sptr (yj m_))), (34, .d (eSl 1 false vO m_.Rows)), (35, .d (I ((m_.Rows.length : Nat) : Int))), (36, .d (I gl))]
theorem UA (hC : zN Tryz.prog ctr) (h0z : ctr.Has yl) : ub.Ok Tryz.prog := by
 refine zT ?_
 rintro m_ r0 aa
 try unfold vJ at aa
 refine yO true [(2, none)] jq 51 Tryz.func43 fun E hE => ?_
 rcases y5 aa with ⟨c0, aa⟩ | ⟨c0, aa⟩
 ·obtain rfl := zj aa
  exact yE X0 hC hE (rpN 4 (Hq c0) (rpN 6 qT []))
 ·let Z0 : List HO := (rpN 4 (Hq c0) [])
  rcases y5 aa with ⟨c1, aa⟩ | ⟨c1, aa⟩
  ·obtain rfl := zj aa
   exact yE X0 hC hE (Z0 ++ (rpN 5 (Hq c1) [qT]))
  ·let Z1 : List HO := (Z0 ++ [Hq c1, Hq c1, Hq c1, Ha (lnM vO m_.Rows), Hq c1, Hq c1])
   rcases y5 aa with ⟨c2, aa⟩ | ⟨c2, aa⟩
   ·obtain rfl := zj aa
    exact yE X0 hC hE (Z1 ++ [Hq c2])
   ·rcases y5 aa with ⟨c3, aa⟩ | ⟨c3, aa⟩
    ·obtain rfl := zj aa
     exact yE X0 hC hE (Z1 ++ (Hq c2 :: (rpN 4 (Hq c3) (rpN 6 qT []))))
    ·let Z2 : List HO := (Z1 ++ (Hq c2 :: (rpN 4 (Hq c3) [])))
     rcases y5 aa with ⟨c4, aa⟩ | ⟨c4, aa⟩
     ·obtain rfl := zj aa
      exact yE X0 hC hE (Z2 ++ (rpN 5 (Hq c4) [qT]))
     ·let Z3 : List HO := (Z2 ++ [Hq c4, Hq c4, Hq c4, Ha (lnM vO m_.Rows), Hq c4, Hq c4])
      rcases y5 aa with ⟨c5, aa⟩ | ⟨c5, aa⟩
      ·obtain rfl := zj aa
       exact yE X0 hC hE (Z3 ++ [Hq c5])
      ·refine yJ X0 hC jq [1,1,1] [] [] (fun z : Unit => jk = some r0) (fun z => Wa) [(1, .own (.box (yj m_)))] (Z3 ++ [Hq c5, Hh (.cut 0)]) ?_ fun J1 ax => ?_
       ·rintro ⟨⟩ aa
        unfold jk at aa
        obtain rfl := zj aa
        exact yE X0 hC hE []
       ·obtain ⟨t2, ht2, aa⟩ := zl aa
        refine yL X0 hC jq [1,1,1,2,1,0] [J1] (fun s => w9 m_ s) (fun x => W9 m_ x) 0 ht2  [Ha (lnM vO m_.Rows), Hh (.n 1 [1])] ?_
        rintro gl m2 bg ae hl1 J2 a6
        try unfold w9 at ae
        rcases y5 ae with ⟨c6, ae⟩ | ⟨c6, ae⟩
        ·obtain ⟨ar, h0, ae⟩ := zl ae
         let Z4 : List HO := [Hq c6, Hi vO h0, Ha (lnM up ar)]
         rcases y5 ae with ⟨c7, ae⟩ | ⟨c7, ae⟩
         ·obtain rfl := zj ae
          obtain rfl := hl1
          obtain rfl := zj aa
          exact yE X0 hC hE (Z4 ++ (rpN 4 (Hq c7) [qT]))
         ·obtain ⟨r_, h1, ae⟩ := zl ae
          let Z5 : List HO := (Z4 ++ [Hq c7, Hq c7, Hq c7, Hc h0z (x := (ar, m_)) h1 (loC vO ar <| loC (z1D 58 z8a) m_ <| loN), Hq c7])
          rcases y5 ae with ⟨c8, ae⟩ | ⟨c8, ae⟩
          ·obtain rfl := zj ae
           obtain rfl := hl1
           obtain rfl := zj aa
           exact yE X0 hC hE (Z5 ++ [Hq c8])
          ·obtain rfl := zj ae
           exact yB X0 hC a6 (w64 (gl + 1)) hl1 (Z5 ++ [Hq c8])
        ·obtain rfl := zj ae
         obtain rfl := hl1
         exact yB X0 hC ax () aa [Hq c6]
def UH : Code := (Tryz.f78.body).getD .skip
def jS : yd := spF (α := Int × Int) (ρ := Bool) 78 (fun x => [(eI .i64) x.1, (eSp (eI .i64)) x.2]) (fun r => eB r) (fun x => ki x.1 x.2) [] (VT)
theorem Qs (hC : zN Tryz.prog ctr) : jS.Ok Tryz.prog := by
 refine zT ?_
 rintro ⟨c_, x1⟩ r0 aa
 try unfold ki at aa
 refine yO true [(3, none)] UH 11 Tryz.func78 fun E hE => ?_
 rcases y5 aa with ⟨c0, aa⟩ | ⟨c0, aa⟩
 ·obtain rfl := zj aa
  exact yE X0 hC hE (rpN 4 (Hq c0) [])
 ·obtain rfl := zj aa
  exact yE X0 hC hE (rpN 4 (Hq c0) [])
def wq : Code := (Tryz.f90.body).getD .skip
def wb : yd := spF (α := List Int × Int) (ρ := Int) 90 (fun x => [F7_ x.1, (z1D 78 (eSp (eI .i64))) x.2]) (fun r => (eI .i64) r) (fun x => xM x.1 x.2) [] (by
 rintro ⟨a0, a1⟩ ⟨b0, b1⟩ h
 have e0 := uS.inj (f := F7_) _ _ (List.cons.inj h).1
 replace h := (List.cons.inj h).2
 have e1 := uS.inj (f := (z1D 78 (eSp (eI .i64)))) _ _ (List.cons.inj h).1
 subst e0 e1
 rfl)
abbrev jK : List (Nat × T) := []
abbrev jJ (s_ : List Int) (f_ : Int) (x8 : Int) : List (Nat × T) := [(0, .d (eSl 1 false (eI .i64) s_)), (1, .d (.fn 78 [.sptr (I f_)])), (7, .d (I ((s_.length : Nat) : Int))), (8, .d (I x8))]
theorem Zv (hC : zN Tryz.prog ctr) (h0A : ctr.Has jS) : wb.Ok Tryz.prog := by
 refine zT ?_
 rintro ⟨s_, f_⟩ r0 aa
 try unfold xM at aa
 refine yO true [(4, none)] wq 19 Tryz.func90 fun E hE => ?_
 refine yJ X0 hC wq [1] [] [] (fun z : Unit => we = some r0) (fun z => jK) [(0, .d (eSl 1 false (eI .i64) s_)), (1, .d (.fn 78 [.sptr (I f_)]))] [Hh (.cut 1)] ?_ fun J1 ax => ?_
 ·rintro ⟨⟩ aa
  unfold we at aa
  obtain rfl := zj aa
  exact yE X0 hC hE []
 ·obtain ⟨t2, ht2, aa⟩ := zl aa
  refine yL X0 hC wq [1,2,1,0] [J1] (fun s => y9 s_ f_ s) (fun x => jJ s_ f_ x) 0 ht2  [Ha (lnM (eI .i64) s_)] ?_
  rintro x8 m2 bg ae hl1 J2 a6
  try unfold y9 at ae
  rcases y5 ae with ⟨c0, ae⟩ | ⟨c0, ae⟩
  ·obtain ⟨dp, h0, ae⟩ := zl ae
   obtain ⟨r_, h1, ae⟩ := zl ae
   let Z0 : List HO := [Hq c0, Hi (eI .i64) h0, Hc h0A (x := (dp, f_)) h1 (loC (eI .i64) dp <| loC (eSp (eI .i64)) f_ <| loN)]
   rcases y5 ae with ⟨c1, ae⟩ | ⟨c1, ae⟩
   ·obtain rfl := zj ae
    obtain rfl := hl1
    obtain rfl := zj aa
    exact yE X0 hC hE (Z0 ++ [Hq c1])
   ·obtain rfl := zj ae
    exact yB X0 hC a6 (w64 (x8 + 1)) hl1 (Z0 ++ [Hq c1])
  ·obtain rfl := zj ae
   obtain rfl := hl1
   exact yB X0 hC ax () aa [Hq c0]
def jI : Code := (Tryz.f77.body).getD .skip
def xw : yd := spF (α := List Int × Int) (ρ := Bool) 77 (fun x => [F7_ x.1, (z1D 78 (eSp (eI .i64))) x.2]) (fun r => eB r) (fun x => yV x.1 x.2) [] (by
 rintro ⟨a0, a1⟩ ⟨b0, b1⟩ h
 have e0 := uS.inj (f := F7_) _ _ (List.cons.inj h).1
 replace h := (List.cons.inj h).2
 have e1 := uS.inj (f := (z1D 78 (eSp (eI .i64)))) _ _ (List.cons.inj h).1
 subst e0 e1
 rfl)
theorem jQ (hC : zN Tryz.prog ctr) (h0B : ctr.Has wb) : xw.Ok Tryz.prog := by
 refine zT ?_
 rintro ⟨s_, f_⟩ r0 aa
 try unfold yV at aa
 refine yO true [(4, none)] jI 9 Tryz.func77 fun E hE => ?_
 obtain ⟨r_, h0, aa⟩ := zl aa
 obtain rfl := zj aa
 exact yE X0 hC hE [Hc h0B (x := (s_, f_)) h0 (loC F7_ s_ <| loC (z1D 78 (eSp (eI .i64))) f_ <| loN)]
def JZ : Code := (Tryz.f64.body).getD .skip
def ZJ : yd := spF (α := List Int × Int) (ρ := Int) 64 (fun x => [F7_ x.1, (eI .i64) x.2]) (fun r => (eI .i64) r) (fun x => j9 x.1 x.2) [] (VT)
theorem KL (hC : zN Tryz.prog ctr) (h0C : ctr.Has xw) : ZJ.Ok Tryz.prog := by
 refine zT ?_
 rintro ⟨w_, inputs⟩ r0 aa
 try unfold j9 at aa
 refine yO true [(4, none)] JZ 19 Tryz.func64 fun E hE => ?_
 rcases y5 aa with ⟨c0, aa⟩ | ⟨c0, aa⟩
 ·obtain rfl := zj aa
  exact yE X0 hC hE (rpN 4 (Hq c0) [qT])
 ·let Z0 : List HO := [Hq c0, Hq c0, Ha (lnM (eI .i64) w_), Hq c0, Hq c0]
  rcases y5 aa with ⟨c1, aa⟩ | ⟨c1, aa⟩
  ·obtain rfl := zj aa
   exact yE X0 hC hE (Z0 ++ [Hq c1])
  ·rcases y5 aa with ⟨c2, aa⟩ | ⟨c2, aa⟩
   ·obtain rfl := zj aa
    exact yE X0 hC hE (Z0 ++ (Hq c1 :: (rpN 4 (Hq c2) [qT])))
   ·obtain ⟨r_, h0, aa⟩ := zl aa
    let Z1 : List HO := (Z0 ++ [Hq c1, Hq c2, Hq c2, Hq c2, Hc h0C (x := (w_, inputs)) h0 (loC F7_ w_ <| loC (z1D 78 (eSp (eI .i64))) inputs <| loN), Hq c2])
    rcases y5 aa with ⟨c3, aa⟩ | ⟨c3, aa⟩
    ·obtain rfl := zj aa
     exact yE X0 hC hE (Z1 ++ [Hq c3])
    ·obtain rfl := zj aa
     exact yE X0 hC hE (Z1 ++ [Hq c3])
def ZU : Code := (Tryz.f50.body).getD .skip
def jx : yd := spF (α := List (List Int) × Int) (ρ := Int) 50 (fun x => [ZZ x.1, (eI .i64) x.2]) (fun r => (eI .i64) r) (fun x => jd x.1 x.2) [] (VT)
abbrev Ud : List (Nat × T) := []
abbrev Uc (l_ : List (List Int)) (inputs : Int) (gm : Int) : List (Nat × T) := [(1, .d (I inputs)), (17, .d (eSl 1 false F7_ l_)), (18, .d (I ((l_.length : Nat) : Int))), (19, .d (I gm))]
theorem KO (hC : zN Tryz.prog ctr) (h0D : ctr.Has ZJ) : jx.Ok Tryz.prog := by
 refine zT ?_
 rintro ⟨l_, inputs⟩ r0 aa
 try unfold jd at aa
 refine yO true [(4, none)] ZU 30 Tryz.func50 fun E hE => ?_
 rcases y5 aa with ⟨c0, aa⟩ | ⟨c0, aa⟩
 ·obtain rfl := zj aa
  exact yE X0 hC hE (rpN 4 (Hq c0) [qT])
 ·let Z0 : List HO := [Hq c0, Hq c0, Ha (lnM F7_ l_), Hq c0, Hq c0]
  rcases y5 aa with ⟨c1, aa⟩ | ⟨c1, aa⟩
  ·obtain rfl := zj aa
   exact yE X0 hC hE (Z0 ++ [Hq c1])
  ·rcases y5 aa with ⟨c2, aa⟩ | ⟨c2, aa⟩
   ·obtain rfl := zj aa
    exact yE X0 hC hE (Z0 ++ [Hq c1, Hq c2])
   ·refine yJ X0 hC ZU [1,1,1] [] [] (fun z : Unit => ZI = some r0) (fun z => Ud) [(0, .d (eSl 1 false F7_ l_)), (1, .d (I inputs))] (Z0 ++ [Hq c1, Hq c2, Hh (.cut 0)]) ?_ fun J1 ax => ?_
    ·rintro ⟨⟩ aa
     unfold ZI at aa
     obtain rfl := zj aa
     exact yE X0 hC hE []
    ·obtain ⟨t2, ht2, aa⟩ := zl aa
     refine yL X0 hC ZU [1,1,1,2,1,0] [J1] (fun s => vH l_ inputs s) (fun x => Uc l_ inputs x) 0 ht2  [Ha (lnM F7_ l_)] ?_
     rintro gm m2 bg ae hl1 J2 a6
     try unfold vH at ae
     rcases y5 ae with ⟨c3, ae⟩ | ⟨c3, ae⟩
     ·obtain ⟨ba, h0, ae⟩ := zl ae
      obtain ⟨r_, h1, ae⟩ := zl ae
      let Z1 : List HO := [Hq c3, Hi F7_ h0, Hc h0D (x := (ba, inputs)) h1 (loC F7_ ba <| loC (eI .i64) inputs <| loN)]
      rcases y5 ae with ⟨c4, ae⟩ | ⟨c4, ae⟩
      ·obtain rfl := zj ae
       obtain rfl := hl1
       obtain rfl := zj aa
       exact yE X0 hC hE (Z1 ++ [Hq c4])
      ·obtain rfl := zj ae
       exact yB X0 hC a6 (w64 (gm + 1)) hl1 (Z1 ++ [Hq c4])
     ·obtain rfl := zj ae
      obtain rfl := hl1
      exact yB X0 hC ax () aa [Hq c3]
def UK : Code := (Tryz.f101.body).getD .skip
def jY : yd := spF (α := Int) (ρ := Bool) 101 (fun x => [(eI .i64) x]) (fun r => eB r) (fun x => qO x) [] (JL)
theorem QA (hC : zN Tryz.prog ctr) : jY.Ok Tryz.prog := by
 refine zT ?_
 rintro x_ r0 aa
 try unfold qO at aa
 refine yO true [(2, none)] UK 6 Tryz.func101 fun E hE => ?_
 obtain rfl := zj aa
 exact yE X0 hC hE []
def Vl : Code := (Tryz.f82.body).getD .skip
def vQ : yd := spF (α := Int × Int) (ρ := Int) 82 (fun x => [(eI .i64) x.1, (eI .i64) x.2]) (fun r => (eI .i64) r) (fun x => vd x.1 x.2) [] (VT)
theorem VC (hC : zN Tryz.prog ctr) (h0l : ctr.Has jY) : vQ.Ok Tryz.prog := by
 refine zT ?_
 rintro ⟨x_, y_⟩ r0 aa
 try unfold vd at aa
 refine yO true [(4, none)] Vl 20 Tryz.func82 fun E hE => ?_
 obtain ⟨r_, h0, aa⟩ := zl aa
 obtain ⟨ah, h1, aa⟩ := zl aa
 let Z0 : List HO := [Hc h0l (x := x_) h0 (loC (eI .i64) x_ <| loN), Hc h0l (x := y_) h1 (loC (eI .i64) y_ <| loN)]
 rcases y5 aa with ⟨c0, aa⟩ | ⟨c0, aa⟩
 ·rcases y5 aa with ⟨c1, aa⟩ | ⟨c1, aa⟩
  ·obtain rfl := zj aa
   exact yE X0 hC hE (Z0 ++ [Hq c0, Hq c1])
  ·obtain rfl := zj aa
   exact yE X0 hC hE (Z0 ++ [Hq c0, Hq c1])
 ·rcases y5 aa with ⟨c2, aa⟩ | ⟨c2, aa⟩
  ·obtain rfl := zj aa
   exact yE X0 hC hE (Z0 ++ [Hq c0, Hq c2])
  ·rcases y5 aa with ⟨c3, aa⟩ | ⟨c3, aa⟩
   ·obtain rfl := zj aa
    exact yE X0 hC hE (Z0 ++ [Hq c0, Hq c2, Hq c3])
   ·rcases y5 aa with ⟨c4, aa⟩ | ⟨c4, aa⟩
    ·obtain rfl := zj aa
     exact yE X0 hC hE (Z0 ++ [Hq c0, Hq c2, Hq c3, Hq c4])
    ·obtain rfl := zj aa
     exact yE X0 hC hE (Z0 ++ [Hq c0, Hq c2, Hq c3, Hq c4])
def wU : Code := (Tryz.f83.body).getD .skip
def wR : yd := spF (α := List Int × List Int) (ρ := Int) 83 (fun x => [F7_ x.1, F7_ x.2]) (fun r => (eI .i64) r) (fun x => xg x.1 x.2) [] (VT)
abbrev kH (s1 : List Int) (s2 : List Int) : List (Nat × T) := [(0, .d (eSl 1 false (eI .i64) s1)), (1, .d (eSl 1 false (eI .i64) s2))]
abbrev kG (s1 : List Int) (s2 : List Int) (dv : Int) : List (Nat × T) := [(0, .d (eSl 1 false (eI .i64) s1)), (1, .d (eSl 1 false (eI .i64) s2)), (9, .d (eSl 1 false (eI .i64) s1)), (10, .d (I ((s1.length : Nat) : Int))), (11, .d (I dv))]
theorem Y2 (hC : zN Tryz.prog ctr) (h0c : ctr.Has vQ) : wR.Ok Tryz.prog := by
 refine zT ?_
 rintro ⟨s1, s2⟩ r0 aa
 try unfold xg at aa
 refine yO true [(4, none)] wU 36 Tryz.func83 fun E hE => ?_
 refine yJ X0 hC wU [1] [] [0,1] (fun z : Unit => xq s1 s2 = some r0) (fun z => kH s1 s2) [(0, .d (eSl 1 false (eI .i64) s1)), (1, .d (eSl 1 false (eI .i64) s2))] [Hh (.cut 1)] ?_ fun J1 ax => ?_
 ·rintro ⟨⟩ aa
  unfold xq at aa
  let Z0 : List HO := [Ha (lnM (eI .i64) s1), Ha (lnM (eI .i64) s2)]
  rcases y5 aa with ⟨c0, aa⟩ | ⟨c0, aa⟩
  ·obtain rfl := zj aa
   exact yE X0 hC hE (Z0 ++ [Hq c0])
  ·obtain rfl := zj aa
   exact yE X0 hC hE (Z0 ++ [Hq c0])
 ·obtain ⟨t2, ht2, aa⟩ := zl aa
  refine yL X0 hC wU [1,2,1,0] [J1] (fun s => yg s1 s2 s) (fun x => kG s1 s2 x) 0 ht2  [Ha (lnM (eI .i64) s1)] ?_
  rintro dv m2 bg ae hl1 J2 a6
  try unfold yg at ae
  rcases y5 ae with ⟨c1, ae⟩ | ⟨c1, ae⟩
  ·obtain ⟨gn, h0, ae⟩ := zl ae
   let Z1 : List HO := [Hq c1, Hi (eI .i64) h0, Ha (lnM (eI .i64) s2)]
   rcases y5 ae with ⟨c2, ae⟩ | ⟨c2, ae⟩
   ·obtain rfl := zj ae
    obtain rfl := hl1
    obtain rfl := zj aa
    exact yE X0 hC hE (Z1 ++ [Hq c2])
   ·obtain ⟨fx, h1, ae⟩ := zl ae
    obtain ⟨r_, h2, ae⟩ := zl ae
    let Z2 : List HO := (Z1 ++ [Hq c2, Hi (eI .i64) h1, Hc h0c (x := (gn, fx)) h2 (loC (eI .i64) gn <| loC (eI .i64) fx <| loN)])
    rcases y5 ae with ⟨c3, ae⟩ | ⟨c3, ae⟩
    ·obtain rfl := zj ae
     obtain rfl := hl1
     obtain rfl := zj aa
     exact yE X0 hC hE (Z2 ++ [Hq c3])
    ·obtain rfl := zj ae
     exact yB X0 hC a6 (w64 (dv + 1)) hl1 (Z2 ++ [Hq c3])
  ·obtain rfl := zj ae
   obtain rfl := hl1
   exact yB X0 hC ax () aa [Hq c1]
def YU : Code := (Tryz.f81.body).getD .skip
def Yw : yd := spF (α := List Int) (ρ := Int) 81 (fun x => [F7_ x]) (fun r => (eI .i64) r) (fun x => Yg x) [] (JL)
abbrev Qb : List (Nat × T) := [(3, .d (I 0))]
abbrev Qa (vals : List Int) (x8 : Int) : List (Nat × T) := [(3, .d (I 0)), (6, .d (eSl 1 false (eI .i64) vals)), (7, .d (I ((vals.length : Nat) : Int))), (8, .d (I x8))]
theorem z0N (hC : zN Tryz.prog ctr) : Yw.Ok Tryz.prog := by
 refine zT ?_
 rintro vals r0 aa
 try unfold Yg at aa
 refine yO true [(2, none)] YU 18 Tryz.func81 fun E hE => ?_
 refine yJ X0 hC YU [1,1] [] [3] (fun z : Unit => kE = some r0) (fun z => Qb) [(0, .d (eSl 1 false (eI .i64) vals)), (3, .d (I 0))] [Hh (.cut 2)] ?_ fun J1 ax => ?_
 ·rintro ⟨⟩ aa
  unfold kE at aa
  obtain rfl := zj aa
  exact yE X0 hC hE []
 ·obtain ⟨t2, ht2, aa⟩ := zl aa
  refine yL X0 hC YU [1,1,2,1,0] [J1] (fun s => un vals s) (fun x => Qa vals x) 0 ht2  [Ha (lnM (eI .i64) vals)] ?_
  rintro x8 m2 bg ae hl1 J2 a6
  try unfold un at ae
  rcases y5 ae with ⟨c0, ae⟩ | ⟨c0, ae⟩
  ·obtain ⟨gv, h0, ae⟩ := zl ae
   rcases y5 ae with ⟨c1, ae⟩ | ⟨c1, ae⟩
   ·obtain rfl := zj ae
    obtain rfl := hl1
    obtain rfl := zj aa
    exact yE X0 hC hE [Hq c0, Hi (eI .i64) h0, Hq c1]
   ·obtain rfl := zj ae
    exact yB X0 hC a6 (w64 (x8 + 1)) hl1 [Hq c0, Hi (eI .i64) h0, Hq c1]
  ·obtain rfl := zj ae
   obtain rfl := hl1
   exact yB X0 hC ax () aa [Hq c0]
def UG : Code := (Tryz.f67.body).getD .skip
def vC : yd := spF (α := List Int × List Int) (ρ := Int) 67 (fun x => [F7_ x.1, F7_ x.2]) (fun r => (eI .i64) r) (fun x => vo x.1 x.2) [] (VT)
theorem Qr (hC : zN Tryz.prog ctr) (h0c : ctr.Has vQ) (h0E : ctr.Has wR) (h0m : ctr.Has Yw) : vC.Ok Tryz.prog := by
 refine zT ?_
 rintro ⟨a_, b_⟩ r0 aa
 try unfold vo at aa
 refine yO true [(4, none)] UG 15 Tryz.func67 fun E hE => ?_
 obtain ⟨r_, h0, aa⟩ := zl aa
 obtain ⟨ah, h1, aa⟩ := zl aa
 obtain ⟨am, h2, aa⟩ := zl aa
 obtain rfl := zj aa
 exact yE X0 hC hE [Ha (lnM (eI .i64) a_), Ha (lnM (eI .i64) b_), Hc h0c (x := (((a_.length : Nat) : Int), ((b_.length : Nat) : Int))) h0 (loC (eI .i64) ((a_.length : Nat) : Int) <| loC (eI .i64) ((b_.length : Nat) : Int) <| loN), Hc h0E (x := (a_, b_)) h1 (loC F7_ a_ <| loC F7_ b_ <| loN), Hg (Ku h0m), Hm (shM (eI .i64) (eI .i64) ([r_, ah])), Hs (Kv h0m (x := [r_, ah]) h2 (loC F2_ ([r_, ah] : List Int) <| loN))]
def ZV : Code := (Tryz.f60.body).getD .skip
def ZL : yd := spF (α := List (List Int)) (ρ := Bool) 60 (fun x => [ZZ x]) (fun r => eB r) (fun x => kR x) [] (JL)
abbrev Uf : List (Nat × T) := []
abbrev Ue (l_ : List (List Int)) (i_ : Int) : List (Nat × T) := [(0, .d (eSl 1 false F7_ l_)), (3, .d (I i_))]
theorem KP (hC : zN Tryz.prog ctr) (h06 : ctr.Has vC) : ZL.Ok Tryz.prog := by
 refine zT ?_
 rintro l_ r0 aa
 try unfold kR at aa
 refine yO true [(2, none)] ZV 21 Tryz.func60 fun E hE => ?_
 refine yJ X0 hC ZV [1] [] [] (fun z : Unit => jv = some r0) (fun z => Uf) [(0, .d (eSl 1 false F7_ l_))] [Hh (.cut 1)] ?_ fun J1 ax => ?_
 ·rintro ⟨⟩ aa
  unfold jv at aa
  obtain rfl := zj aa
  exact yE X0 hC hE []
 ·obtain ⟨t2, ht2, aa⟩ := zl aa
  refine yL X0 hC ZV [1,2,1,0] [J1] (fun s => vI l_ s) (fun x => Ue l_ x) 1 ht2  [] ?_
  rintro i_ m2 bg ae hl1 J2 a6
  try unfold vI at ae
  let Z0 : List HO := [Ha (lnM F7_ l_)]
  rcases y5 ae with ⟨c0, ae⟩ | ⟨c0, ae⟩
  ·obtain ⟨ba, h0, ae⟩ := zl ae
   obtain ⟨cn, h1, ae⟩ := zl ae
   obtain ⟨r_, h2, ae⟩ := zl ae
   let Z1 : List HO := (Z0 ++ [Hq c0, Hi F7_ h0, Hi F7_ h1, Hc h06 (x := (ba, cn)) h2 (loC F7_ ba <| loC F7_ cn <| loN)])
   rcases y5 ae with ⟨c1, ae⟩ | ⟨c1, ae⟩
   ·obtain rfl := zj ae
    obtain rfl := hl1
    obtain rfl := zj aa
    exact yE X0 hC hE (Z1 ++ [Hq c1])
   ·obtain rfl := zj ae
    exact yB X0 hC a6 (w64 (i_ + 1)) hl1 (Z1 ++ [Hq c1])
  ·obtain rfl := zj ae
   obtain rfl := hl1
   exact yB X0 hC ax () aa (Z0 ++ [Hq c0])
def ZT : Code := (Tryz.f61.body).getD .skip
def jw : yd := spF (α := List (List Int)) (ρ := Int) 61 (fun x => [ZZ x]) (fun r => (eI .i64) r) (fun x => jb x) [] (JL)
abbrev Ub (n_ : Int) : List (Nat × T) := [(2, .d (I n_))]
abbrev Ua (l_ : List (List Int)) (cr : Int) (x7 : Int) : List (Nat × T) := [(2, .d (I cr)), (5, .d (eSl 1 false F7_ l_)), (6, .d (I ((l_.length : Nat) : Int))), (7, .d (I x7))]
theorem KN (hC : zN Tryz.prog ctr) : jw.Ok Tryz.prog := by
 refine zT ?_
 rintro l_ r0 aa
 try unfold jb at aa
 refine yO true [(2, none)] ZT 17 Tryz.func61 fun E hE => ?_
 refine yJ X0 hC ZT [1] [] [2] (fun z : Int => ZH z = some r0) (fun z => Ub z) [(0, .d (eSl 1 false F7_ l_)), (2, .d (I 0))] [Hh (.cut 1)] ?_ fun J1 ax => ?_
 ·rintro n_ aa
  unfold ZH at aa
  obtain rfl := zj aa
  exact yE X0 hC hE []
 ·obtain ⟨t2, ht2, aa⟩ := zl aa
  refine yL X0 hC ZT [1,2,1,0] [J1] (fun s => vG l_ s.1 s.2) (fun x => Ua l_ x.1 x.2) (0,0) ht2  [Ha (lnM F7_ l_)] ?_
  rintro ⟨cr, x7⟩ m2 bg ae hl1 J2 a6
  try unfold vG at ae
  rcases y5 ae with ⟨c0, ae⟩ | ⟨c0, ae⟩
  ·obtain ⟨ba, h0, ae⟩ := zl ae
   obtain rfl := zj ae
   exact yB X0 hC a6 (w64 (cr + ((ba.length : Nat) : Int)), w64 (x7 + 1)) hl1 [Hq c0, Hi F7_ h0, Ha (lnM (eI .i64) ba)]
  ·obtain rfl := zj ae
   obtain rfl := hl1
   exact yB X0 hC ax cr aa [Hq c0]
def K0 : Code := (Tryz.f44.body).getD .skip
def ZM : yd := spF (α := List (List Int) × Int) (ρ := Int) 44 (fun x => [ZZ x.1, (eI .i64) x.2]) (fun r => (eI .i64) r) (fun x => kS x.1 x.2) [] (VT)
theorem KQ (hC : zN Tryz.prog ctr) (h0d : ctr.Has jx) (h0F : ctr.Has ZL) (h09 : ctr.Has jw) : ZM.Ok Tryz.prog := by
 refine zT ?_
 rintro ⟨l_, inputs⟩ r0 aa
 try unfold kS at aa
 refine yO true [(4, none)] K0 18 Tryz.func44 fun E hE => ?_
 obtain ⟨r_, h0, aa⟩ := zl aa
 let Z0 : List HO := [Hc h0d (x := (l_, inputs)) h0 (loC ZZ l_ <| loC (eI .i64) inputs <| loN)]
 rcases y5 aa with ⟨c0, aa⟩ | ⟨c0, aa⟩
 ·obtain rfl := zj aa
  exact yE X0 hC hE (Z0 ++ [Hq c0])
 ·obtain ⟨ah, h1, aa⟩ := zl aa
  let Z1 : List HO := (Z0 ++ [Hq c0, Hc h0F (x := l_) h1 (loC ZZ l_ <| loN)])
  rcases y5 aa with ⟨c1, aa⟩ | ⟨c1, aa⟩
  ·obtain rfl := zj aa
   exact yE X0 hC hE (Z1 ++ [Hq c1])
  ·obtain ⟨am, h2, aa⟩ := zl aa
   let Z2 : List HO := (Z1 ++ [Hq c1, Hc h09 (x := l_) h2 (loC ZZ l_ <| loN)])
   rcases y5 aa with ⟨c2, aa⟩ | ⟨c2, aa⟩
   ·obtain rfl := zj aa
    exact yE X0 hC hE (Z2 ++ [Hq c2])
   ·obtain rfl := zj aa
    exact yE X0 hC hE (Z2 ++ [Hq c2])
def Vh : Code := (Tryz.f23.body).getD .skip
def xL : yd := spF (α := z6 × List (List Int)) (ρ := Int) 23 (fun x => [yj x.1, ZZ x.2]) (fun r => (eI .i64) r) (fun x => xG x.1 x.2) [] (VT)
theorem Vx (hC : zN Tryz.prog ctr) (h0e : ctr.Has ub) (h0G : ctr.Has ZM) : xL.Ok Tryz.prog := by
 refine zT ?_
 rintro ⟨m_, l_⟩ r0 aa
 try unfold xG at aa
 refine yO true [(4, none)] Vh 15 Tryz.func23 fun E hE => ?_
 obtain ⟨r_, h0, aa⟩ := zl aa
 let Z0 : List HO := [Hc h0e (x := m_) h0 (loC yj m_ <| loN)]
 rcases y5 aa with ⟨c0, aa⟩ | ⟨c0, aa⟩
 ·obtain rfl := zj aa
  exact yE X0 hC hE (Z0 ++ [Hq c0])
 ·obtain ⟨ah, h1, aa⟩ := zl aa
  obtain rfl := zj aa
  exact yE X0 hC hE (Z0 ++ [Hq c0, Hc h0G (x := (l_, m_.Inputs)) h1 (loC ZZ l_ <| loC (eI .i64) m_.Inputs <| loN)])
def VZ : Code := (Tryz.f39.body).getD .skip
def uc : yd := spF (α := Unit) (ρ := zh) 39 (fun x => []) (fun r => (zR (eMp (eI .i64) eB) (eMp F0_ eB) (eMp zG eB)) r) (fun x => uG) [] (fun _ _ _ => rfl)
theorem UB (hC : zN Tryz.prog ctr) : uc.Ok Tryz.prog := by
 refine zT ?_
 rintro ⟨⟩ r0 aa
 try unfold uG at aa
 refine z3p (tt := xX) (rs := [(true, 0, some 71)]) (n := ⟨6, []⟩) (body := VZ) zB Tryz.func39 rfl (by kernel_rfl) rfl rfl (by show (0 : Nat) ≤ 6; decide) fun E hE => ?_
 obtain rfl := zj aa
 let ZE : List HO := [Hn (⟨rfl, rfl, rfl, rfl, Jt (fun _ => rfl) ([] : List (Int × Bool))⟩ : T.own (.opq (y8 (zq (eI .i64) eB ([] : List (Int × Bool))))) = T.own (.opq (y8 (zq (eI .i64) eB ([] : List (Int × Bool))))) ∧ 1 = 1 ∧ (Jf .i64) ((eI .i64) 0) = true ∧ (eB true).isD = true ∧ ∀ p ∈ zq (eI .i64) eB ([] : List (Int × Bool)), (Jf .i64) p.1 = true), Hn (z04 (f := (eI .i64)) (g := eB) 0 true ([] : List (Int × Bool)))]
 exact z5Y ((z8S Tryz.prog 4).or ((z8S Tryz.prog 3).or ((zgR z7d 1 (zq (eI .i64) eB ([] : List (Int × Bool))) (zq (eI .i64) eB (Qg ([] : List (Int × Bool)) 0 true))).or ((z8S Tryz.prog 1).or X0)))) zB hC XA hE 4000 (hs := hoH ZE) (x := (.agg [.opq (y8 (zq (eI .i64) eB (Qg ([] : List (Int × Bool)) 0 true))), .opq (y8 (zq F0_ eB ([] : List ((yp Int) × Bool)))), .opq (y8 (zq zG eB ([] : List (z8 × Bool))))])) (hoB ZE) (by kernel_rfl) (LeV.refl _)
def vN : Code := (Tryz.f32.body).getD .skip
abbrev ZY (u0 : Value) (u1 : Value) (u2 : Value) (m_ : z6) (w_ : List Int) (al : List (Int × Bool)) (ap : List ((yp Int) × Bool)) (bz : Int) (bi : Int) (bm : Int) (eb : Int) (bc : Int) (aj : ze) (bf : List (z8 × Bool)) : List (Nat × T) := [(3, .own (.box (.agg [.opq (wW u0 (zq (eI .i64) eB al)), .opq (wW u1 (zq F0_ eB (Qg ap (yp.mk bz bc) true))), .opq (wW u2 (zq zG eB bf))]))), (4, .own (.box (yj m_))), (6, .d (I bz)), (7, .own (.box (.agg [I bi, I bm, I bc]))), (9, .d (I bc)), (10, .d (I aj.To)), (12, .d (eSl 1 false (eI .i64) w_)), (13, .d (I ((w_.length : Nat) : Int))), (14, .d (I eb))]
abbrev ZX (u0 : Value) (u1 : Value) (u2 : Value) (m_ : z6) (w_ : List Int) (al : List (Int × Bool)) (ap : List ((yp Int) × Bool)) (aq : List (z8 × Bool)) (bz : Int) (bi : Int) (bm : Int) (eb : Int) : List (Nat × T) := [(3, .own (.box (.agg [.opq (wW u0 (zq (eI .i64) eB al)), .opq (wW u1 (zq F0_ eB ap)), .opq (wW u2 (zq zG eB aq))]))), (4, .own (.box (yj m_))), (6, .d (I bz)), (7, .own (.box (.agg [I bi, I bm, I (-1)]))), (12, .d (eSl 1 false (eI .i64) w_)), (13, .d (I ((w_.length : Nat) : Int))), (14, .d (I eb))]
theorem jC (hC : zN Tryz.prog ctr) : ∀ (m_ : z6) (w_ : List Int) (x_ : zh) (r0 : zh), xj m_ w_ x_ = some r0 → ∀ us : List Value, us.length = 3 → u9 Tryz.prog (.fn 32 []) ([] ++ .agg (us.map .atom) :: [.agg [I m_.Inputs, I m_.Outputs, eSl 1 false vO m_.Rows], eSl 1 false (eI .i64) w_]) (X8 us [zq (eI .i64) eB x_.states_, zq F0_ eB x_.edges_, zq zG eB x_.pairs_]) (.tup []) ([zq (eI .i64) eB r0.states_, zq F0_ eB r0.edges_, zq zG eB r0.pairs_].map fun e => .opq (y8 e)) := by
 intro m_ w_ x_ r0 aa us hus
 obtain ⟨u0, u1, u2, rfl⟩ := zaN hus
 refine XX (tt := xX) (nt := 50) (body := vN) (B := 3) [] (xl := []) (xr := [.agg [I m_.Inputs, I m_.Outputs, eSl 1 false vO m_.Rows], eSl 1 false (eI .i64) w_]) (caps := []) (es := [zq (eI .i64) eB x_.states_, zq F0_ eB x_.edges_, zq zG eB x_.pairs_]) (es' := [zq (eI .i64) eB r0.states_, zq F0_ eB r0.edges_, zq zG eB r0.pairs_]) (us := [u0, u1, u2]) (r := .tup []) Tryz.func32 rfl (by kernel_rfl) rfl rfl (by decide) (by show (3 : Nat) ≤ 50; decide) rfl rfl (.inl ⟨rfl, rfl⟩) fun E hE => ?_
 try unfold xj at aa
 obtain ⟨t1, ht1, aa⟩ := zl aa
 refine yL X0 hC vN [1,1,1,1,0] [] (fun s => xh m_ w_ s.1 s.2.1 s.2.2.1 s.2.2.2.1 s.2.2.2.2.1 s.2.2.2.2.2.1 s.2.2.2.2.2.2) (fun x => ZX u0 u1 u2 m_ w_ x.1 x.2.1 x.2.2.1 x.2.2.2.1 x.2.2.2.2.1 x.2.2.2.2.2.1 x.2.2.2.2.2.2) (x_.states_, x_.edges_, x_.pairs_, 0, (-1), (-1), 0) ht1  [Ha (lnM (eI .i64) w_)] ?_
 rintro ⟨al, ap, aq, bz, bi, bm, eb⟩ m1 bg ae hl1 J1 ax
 try unfold xh at ae
 rcases y5 ae with ⟨c0, ae⟩ | ⟨c0, ae⟩
 ·obtain ⟨bc, h0, ae⟩ := zl ae
  obtain ⟨ar, h1, ae⟩ := zl ae
  obtain ⟨aj, h2, ae⟩ := zl ae
  let Z0 : List HO := [Hq c0, Hi (eI .i64) h0, Hi vO h1, Hi up h2]
  rcases y5 ae with ⟨c1, ae⟩ | ⟨c1, ae⟩
  ·obtain rfl := zj ae
   obtain rfl := hl1
   obtain rfl := zj aa
   exact yF X0 hC .ret [(3, .own (.box (.agg [.opq (wW u0 (zq (eI .i64) eB al)), .opq (wW u1 (zq F0_ eB ap)), .opq (wW u2 (zq zG eB aq))])))] (Z0 ++ [Hq c1]) fun st0 h0 => hE _ st0 (.inr rfl) (Jd h0 rfl rfl) zgk
  ·refine yJ ((z8Q za4 30 (Zc u1 (zq F0_ eB ap)) (zq F0_ eB (Qg ap (yp.mk bz bc) true))).or X0) hC vN [1,1,1,1,0,0,1,1,0,0,1,1,1,1] [J1] [3,4,6,7,9,10,12,13,14] (fun z : List (z8 × Bool) => yD al ap bz eb bc aj z = some bg) (fun z => ZY u0 u1 u2 m_ w_ al ap bz bi bm eb bc aj z) [(3, .own (.box (.agg [.opq (wW u0 (zq (eI .i64) eB al)), .opq (wW u1 (zq F0_ eB (Qg ap (yp.mk bz bc) true))), .opq (wW u2 (zq zG eB aq))]))), (4, .own (.box (yj m_))), (6, .d (I bz)), (7, .own (.box (.agg [I bi, I bm, I (-1)]))), (9, .d (I bc)), (10, .d (I aj.To)), (12, .d (eSl 1 false (eI .i64) w_)), (13, .d (I ((w_.length : Nat) : Int))), (14, .d (I eb))] (Z0 ++ [Hq c1, Hn (⟨rfl, rfl, rfl, rfl, rfl, rfl, Jt (fun _ => rfl) ap⟩ : (some (A.opq (wW u1 (zq F0_ eB ap))) : Option A) = some (A.opq (wW u1 (zq F0_ eB ap))) ∧ true = true ∧ 0 = 0 ∧ 0 = 0 ∧ (Vb [.i64, .i64]) (F0_ (yp.mk bz bc)) = true ∧ (eB true).isD = true ∧ ∀ p ∈ zq F0_ eB ap, (Vb [.i64, .i64]) p.1 = true), Hn (z04 (f := F0_) (g := eB) (yp.mk bz bc) true ap), Hh (.cut 1)]) ?_ fun J2 a6 => ?_
   ·rintro bf ae
    unfold yD at ae
    obtain rfl := zj ae
    exact yB ((z8Q z7d 47 (Zc u0 (zq (eI .i64) eB al)) (zq (eI .i64) eB (Qg al aj.To true))).or X0) hC ax ((Qg al aj.To true), (Qg ap (yp.mk bz bc) true), bf, aj.To, bz, bc, w64 (eb + 1)) hl1 [Hn (⟨rfl, rfl, rfl, rfl, rfl, rfl, Jt (fun _ => rfl) al⟩ : (some (A.opq (wW u0 (zq (eI .i64) eB al))) : Option A) = some (A.opq (wW u0 (zq (eI .i64) eB al))) ∧ true = true ∧ 0 = 0 ∧ 0 = 0 ∧ (Jf .i64) ((eI .i64) aj.To) = true ∧ (eB true).isD = true ∧ ∀ p ∈ zq (eI .i64) eB al, (Jf .i64) p.1 = true), Hn (z04 (f := (eI .i64)) (g := eB) aj.To true al)]
   ·rcases y5 ae with ⟨c2, ae⟩ | ⟨c2, ae⟩
    ·exact yB ((z8Q za3 40 (Zc u2 (zq zG eB aq)) (zq zG eB (Qg aq (z8.mk bi bm bc) true))).or X0) hC a6 (Qg aq (z8.mk bi bm bc) true) ae [Hq c2, Hn (⟨rfl, rfl, rfl, rfl, rfl, rfl, Jt (fun _ => rfl) aq⟩ : (some (A.opq (wW u2 (zq zG eB aq))) : Option A) = some (A.opq (wW u2 (zq zG eB aq))) ∧ true = true ∧ 0 = 0 ∧ 0 = 0 ∧ (Vb [.i64, .i64, .i64]) (zG (z8.mk bi bm bc)) = true ∧ (eB true).isD = true ∧ ∀ p ∈ zq zG eB aq, (Vb [.i64, .i64, .i64]) p.1 = true), Hn (z04 (f := zG) (g := eB) (z8.mk bi bm bc) true aq)]
    ·exact yB X0 hC a6 aq ae [Hq c2]
 ·obtain rfl := zj ae
  obtain rfl := hl1
  obtain rfl := zj aa
  exact yF X0 hC .normal [(3, .own (.box (.agg [.opq (wW u0 (zq (eI .i64) eB al)), .opq (wW u1 (zq F0_ eB ap)), .opq (wW u2 (zq zG eB aq))])))] [Hq c0] fun st0 h0 => hE _ st0 (.inl rfl) (Jd h0 rfl rfl) zgk
def uA : Code := (Tryz.f24.body).getD .skip
def x4 : yd := spF (α := z6 × List (List Int)) (ρ := zh) 24 (fun x => [yj x.1, ZZ x.2]) (fun r => (zR (eMp (eI .i64) eB) (eMp F0_ eB) (eMp zG eB)) r) (fun x => yn x.1 x.2) [] (VT)
abbrev X1 (al : List (Int × Bool)) (ap : List ((yp Int) × Bool)) (aq : List (z8 × Bool)) : List (Nat × T) := [(4, .own (.box (.agg [.atom (.map none), .atom (.map none), .atom (.map none)]))), (5, .own (.box (.agg [.opq (y8 (zq (eI .i64) eB al)), .opq (y8 (zq F0_ eB ap)), .opq (y8 (zq zG eB aq))])))]
abbrev YZ (m_ : z6) (l_ : List (List Int)) (bk : List (Int × Bool)) (bq : List ((yp Int) × Bool)) (bf : List (z8 × Bool)) (dv : Int) : List (Nat × T) := [(2, .own (.box (yj m_))), (4, .own (.box (.agg [.atom (.map none), .atom (.map none), .atom (.map none)]))), (5, .own (.box (.agg [.opq (y8 (zq (eI .i64) eB bk)), .opq (y8 (zq F0_ eB bq)), .opq (y8 (zq zG eB bf))]))), (9, .d (eSl 1 false F7_ l_)), (10, .d (I ((l_.length : Nat) : Int))), (11, .d (I dv))]
theorem Wm (hC : zN Tryz.prog ctr) (h0f : ctr.Has uc) : x4.Ok Tryz.prog := by
 refine zT ?_
 rintro ⟨m_, l_⟩ r0 aa
 try unfold yn at aa
 refine z3p (tt := xX) (rs := [(true, 4, some 71)]) (n := ⟨21, []⟩) (body := uA) zB Tryz.func24 rfl (by kernel_rfl) rfl rfl (by show (2 : Nat) ≤ 21; decide) fun E hE => ?_
 obtain ⟨r_, h0, aa⟩ := zl aa
 refine yJ X0 hC uA [1,1] [] [4,5] (fun z : (List (Int × Bool)) × (List ((yp Int) × Bool)) × (List (z8 × Bool)) => uz z.1 z.2.1 z.2.2 = some r0) (fun z => X1 z.1 z.2.1 z.2.2) [(1, .d (eSl 1 false F7_ l_)), (2, .own (.box (yj m_))), (4, .own (.box (.agg [.atom (.map none), .atom (.map none), .atom (.map none)]))), (5, .own (.box ((zR (eMp (eI .i64) eB) (eMp F0_ eB) (eMp zG eB)) r_)))] [Hc h0f (x := ()) h0 (loN), Hh (.cut 0)] ?_ fun J1 ax => ?_
 ·rintro ⟨al, ap, aq⟩ aa
  unfold uz at aa
  obtain rfl := zj aa
  let ZE : List HO := []
  exact z5Y X0 zB hC XA hE 4000 (hs := hoH ZE) (x := (.agg [.opq (y8 (zq (eI .i64) eB al)), .opq (y8 (zq F0_ eB ap)), .opq (y8 (zq zG eB aq))])) (hoB ZE) (by kernel_rfl) (LeV.refl _)
 ·obtain ⟨t2, ht2, aa⟩ := zl aa
  refine yL X0 hC uA [1,1,2,1,0] [J1] (fun s => x6 m_ l_ s.1 s.2.1 s.2.2.1 s.2.2.2) (fun x => YZ m_ l_ x.1 x.2.1 x.2.2.1 x.2.2.2) (r_.states_, r_.edges_, r_.pairs_, 0) ht2  [Ha (lnM F7_ l_)] ?_
  rintro ⟨bk, bq, bf, dv⟩ m2 bg ae hl1 J2 a6
  try unfold x6 at ae
  rcases y5 ae with ⟨c0, ae⟩ | ⟨c0, ae⟩
  ·obtain ⟨ba, h1, ae⟩ := zl ae
   obtain ⟨ah, h2, ae⟩ := zl ae
   obtain rfl := zj ae
   exact yB ((Y0 (P := Tryz.prog) xX 5 0 [.deref] (fa := .fn 32 []) (r := .tup []) (xl := []) (xr := [yj m_, F7_ ba]) (qs := [(y8 (zq (eI .i64) eB bk)), (y8 (zq F0_ eB bq)), (y8 (zq zG eB bf))]) (qs' := [(y8 (zq (eI .i64) eB ah.states_)), (y8 (zq F0_ eB ah.edges_)), (y8 (zq zG eB ah.pairs_))]) (es := [(zq (eI .i64) eB bk), (zq F0_ eB bq), (zq zG eB bf)]) (es' := [(zq (eI .i64) eB ah.states_), (zq F0_ eB ah.edges_), (zq zG eB ah.pairs_)]) (.inr rfl) (z3J (by kernel_rfl)) (.cons (xV (zq (eI .i64) eB bk)) (.cons (xV (zq F0_ eB bq)) (.cons (xV (zq zG eB bf)) (.nil)))) (fun us hu => jC hC _ _ _ _ h2 us hu) (some 18)).or X0) hC a6 (ah.states_, ah.edges_, ah.pairs_, w64 (dv + 1)) hl1 [Hq c0, Hi F7_ h1, Hn (⟨rfl, leP (show Vv [] [] from inferInstance), leP (show Vv [yj m_, F7_ ba] [yj m_, F7_ ba] from inferInstance), rfl, rfl⟩ : ([.fn 32 []] : List A) = [.fn 32 []] ∧ LeP [] [] ∧ LeP [yj m_, F7_ ba] [yj m_, F7_ ba] ∧ T.als 5 [.deref] 0 0 = T.als 5 [.deref] 0 0 ∧ (some (.agg [.opq (y8 (zq (eI .i64) eB bk)), .opq (y8 (zq F0_ eB bq)), .opq (y8 (zq zG eB bf))]) : Option A) = some (.agg [.opq (y8 (zq (eI .i64) eB bk)), .opq (y8 (zq F0_ eB bq)), .opq (y8 (zq zG eB bf))]))]
  ·obtain rfl := zj ae
   obtain rfl := hl1
   exact yB X0 hC ax (bk, bq, bf) aa [Hq c0]
def Yj : Code := (Tryz.f25.body).getD .skip
theorem Yn (hC : zN Tryz.prog ctr) : ∀ (goal : Int) (x_ : zh) (r0 : Int), xF goal x_ = some r0 → ∀ us : List Value, us.length = 3 → u9 Tryz.prog (.fn 25 []) ([] ++ .agg (us.map .atom) :: [I goal]) (X8 us [zq (eI .i64) eB x_.states_, zq F0_ eB x_.edges_, zq zG eB x_.pairs_]) (I r0) ([zq (eI .i64) eB x_.states_, zq F0_ eB x_.edges_, zq zG eB x_.pairs_].map fun e => .opq (y8 e)) := by
 intro goal x_ r0 aa us hus
 obtain ⟨u0, u1, u2, rfl⟩ := zaN hus
 refine XX (tt := xX) (nt := 17) (body := Yj) (B := 2) [4] (xl := []) (xr := [I goal]) (caps := []) (es := [zq (eI .i64) eB x_.states_, zq F0_ eB x_.edges_, zq zG eB x_.pairs_]) (es' := [zq (eI .i64) eB x_.states_, zq F0_ eB x_.edges_, zq zG eB x_.pairs_]) (us := [u0, u1, u2]) (r := I r0) Tryz.func25 rfl (by kernel_rfl) rfl rfl (by decide) (by show (2 : Nat) ≤ 17; decide) rfl rfl (.inr ⟨_, rfl⟩) fun E hE => ?_
 try unfold xF at aa
 obtain ⟨cell, h0, aa⟩ := zl aa
 obtain rfl := zj aa
 exact yF ((zgT zB 16).or ((z47 za3 13 (Zc u2 (zq zG eB x_.pairs_))).or ((z47 za4 10 (Zc u1 (zq F0_ eB x_.edges_))).or ((z47 z7d 7 (Zc u0 (zq (eI .i64) eB x_.states_))).or X0)))) hC .ret [(2, .own (.box (.agg [.opq (wW u0 (zq (eI .i64) eB x_.states_)), .opq (wW u1 (zq F0_ eB x_.edges_)), .opq (wW u2 (zq zG eB x_.pairs_))]))), (4, .d (I cell))] [Hn (rfl : A.opq (wW u0 (zq (eI .i64) eB x_.states_)) = A.opq (wW u0 (zq (eI .i64) eB x_.states_))), Hx (aLn x_.states_.length) (z2o (eI .i64) eB x_.states_), Hn (rfl : A.opq (wW u1 (zq F0_ eB x_.edges_)) = A.opq (wW u1 (zq F0_ eB x_.edges_))), Hx (aLn x_.edges_.length) (z2o F0_ eB x_.edges_), Hn (rfl : A.opq (wW u2 (zq zG eB x_.pairs_)) = A.opq (wW u2 (zq zG eB x_.pairs_))), Hx (aLn x_.pairs_.length) (z2o zG eB x_.pairs_), Hs (iM (eI .i64) h0), Hn (ixV (k := .i64) (tt := xX) (e := 3) (l := ([((x_.states_.length : Nat) : Int), ((x_.edges_.length : Nat) : Int), ((x_.pairs_.length : Nat) : Int)] : List Int)) (fun _ => by kernel_rfl) h0 (m := 3) rfl)] fun st0 h0 => hE _ st0 (.inr rfl) (Jd h0 rfl rfl) (z4W (zci h0 rfl rfl))
def VX : Code := (Tryz.f75.body).getD .skip
def je : yd := spF (α := z6 × Int) (ρ := z6 × Int) 75 (fun x => [yj x.1, (eI .i64) x.2]) (fun r => (zhu 85 z8a (eSp (eI .i64))) r) (fun x => jt x.1 x.2) [] (VT)
theorem Uy (hC : zN Tryz.prog ctr) : je.Ok Tryz.prog := by
 refine zT ?_
 rintro ⟨m_, from_⟩ r0 aa
 try unfold jt at aa
 refine yO true [(4, none)] VX 6 Tryz.func75 fun E hE => ?_
 obtain rfl := zj aa
 exact yEx X0 hC hE [] (.fn 85 [.sptr (.agg [I m_.Inputs, I m_.Outputs, eSl 1 false vO m_.Rows]), .sptr (I from_)]) (show LeV (.fn 85 [.sptr (.agg [I m_.Inputs, I m_.Outputs, eSl 1 false vO m_.Rows]), .sptr (I from_)]) (.fn 85 [.sptr (.agg [I (((m_, from_).1).Inputs), I (((m_, from_).1).Outputs), eSl 1 false vO (((m_, from_).1).Rows)]), .sptr (I ((m_, from_).2))]) from inferInstance)
def yS : Code := (Tryz.f85.body).getD .skip
abbrev Xc (x0 : z6) (YY : σ → z3v) (az : zi) (yr : σ × Bool) (ar : List ze) (db : Int) (fy : List Bool) (fl : List zi) : List (Nat × T) := [(0, .own (.opq (YY yr.1).q)), (1, .d (.sptr (yj x0))), (4, .own (eOs 1 true eB fy)), (5, .own (eDq 3 qu fl)), (6, .own (.box (qu az))), (36, .d (eSl 2 false up ar)), (37, .d (I ((ar.length : Nat) : Int))), (38, .d (I db))]
abbrev Xa (x0 : z6) (YY : σ → z3v) (az : zi) (yr : σ × Bool) (ar : List ze) (cx : List Bool) (bw : List zi) (db : Int) : List (Nat × T) := [(0, .own (.opq (YY yr.1).q)), (1, .d (.sptr (yj x0))), (4, .own (eOs 1 true eB cx)), (5, .own (eDq 3 qu bw)), (6, .own (.box (qu az))), (36, .d (eSl 2 false up ar)), (37, .d (I ((ar.length : Nat) : Int))), (38, .d (I db))]
abbrev Xb (x0 : z6) (YY : σ → z3v) (fj : σ) (fm : List Bool) (bj : List zi) : List (Nat × T) := [(0, .own (.opq (YY fj).q)), (1, .d (.sptr (yj x0))), (4, .own (eOs 1 true eB fm)), (5, .own (eDq 3 qu bj))]
theorem WZ (hC : zN Tryz.prog ctr) (x0 : z6) (x1 : Int) : z87 Tryz.prog (.fn 85 [.sptr (.agg [I x0.Inputs, I x0.Outputs, eSl 1 false vO x0.Rows]), .sptr (I x1)]) (fun (x : zi) (_ : Bool) (_ : Value) => [qu x]) (@vB x0 x1) := by
 refine zab (tt := xX) (nt := 68) (body := yS) zB Tryz.func85 rfl (by kernel_rfl) rfl rfl (by show (3 : Nat) ≤ 68; decide) ?_
 intro σ yv YY yy hy sg r0 aa E hE
 unfold vB at aa
 obtain ⟨g0, aa⟩ := gdE aa
 obtain ⟨ix, h0, aa⟩ := zl aa
 obtain ⟨t1, ht1, aa⟩ := zl aa
 refine yLx X0 hC yS [1,1,1,0] [] (fun s => wa x0 yy s.1 s.2.1 s.2.2) (fun x => Xb x0 YY x.1 x.2.1 x.2.2) (sg, ((List.replicate ((x0.Rows.length : Nat) : Int).toNat false).set x1.toNat true), ([(zi.mk x1 (-1) (-1))] : List zi)) ht1 [(0, .own (.opq (YY sg).q)), (1, .d (.sptr (yj x0))), (4, .own (eOs 1 true eB ((List.replicate ((x0.Rows.length : Nat) : Int).toNat false).set x1.toNat true))), (5, .own (eOs 3 true qu ([(zi.mk x1 (-1) (-1))])))] inferInstance [Ha (lnM vO x0.Rows), Hn (rL g0), Ha (rM 1 eB ((x0.Rows.length : Nat) : Int) false), Hn (iL eB h0), Hs (iM eB h0), Hs (iM eB h0), Hl (sM eB (List.replicate ((x0.Rows.length : Nat) : Int).toNat false) x1 true)] ?_
 rintro ⟨fj, fm, bj⟩ m1 bg ae hl1 J1 ax
 try unfold wa at ae
 let Z0 : List HO := [Hn (rfl : eDq 3 qu bj = A.opq (QV 3 (bj.map qu)).q), Ha (lnM qu bj)]
 rcases y5 ae with ⟨c0, ae⟩ | ⟨c0, ae⟩
 ·refine yA ((xQl zB 20 149 3 (bj.map qu) (by kernel_rfl)).or X0) hC yS [1,1,1,0,0,1,0] [J1] [(0, .own (.opq (YY fj).q)), (1, .d (.sptr (yj x0))), (4, .own (eOs 1 true eB fm)), (5, .own (eDq 3 qu bj))] (Z0 ++ [Hq c0, Hh (.cut 0)]) ?_
  obtain ⟨az, h1, ae⟩ := zl ae
  refine z1I (by kernel_rfl) (x := (sub [1,1,1,0,0,1,0,0] yS)) (y := (sub [1,1,1,0,0,1,0,1] yS)) 5 (fun st1 => Own.canon [0,1,4,5,6] st1 = ofL [(0, .own (.opq (YY fj).q)), (1, .d (.sptr (yj x0))), (4, .own (eOs 1 true eB fm)), (5, .own (eDq 3 qu bj)), (6, .own (.box (qu az)))]) (fun gb => yF ((xQd zB 24 3 5 gb (0 : Int) (bj.map qu) (qu az)).or ((xQi zB 23 3 5 gb (bj.map qu)).or X0)) hC .normal [(0, .own (.opq (YY fj).q)), (1, .d (.sptr (yj x0))), (4, .own (eOs 1 true eB fm)), (5, .own (eDq 3 qu bj)), (6, .own (.box (qu az)))] [Hn (⟨rfl, rfl, rfl, rfl, i0 h1, (iL qu h1).2⟩ : T.als 5 [] 0 0 = T.als 5 [] 0 0 ∧ some gb = some gb ∧ T.own (eDq 3 qu bj) = T.own (eDq 3 qu bj) ∧ some 3 = some 3 ∧ (0 : Int) ≤ 0 ∧ (0 : Int).toNat < (bj.map qu).length), Hn (⟨rfl, rfl, rfl, iM qu h1, rfl, WY.isD az⟩ : T.d (.atom (z3I 3 gb (0 : Int))) = T.d (.atom (z3I 3 gb (0 : Int))) ∧ some gb = some gb ∧ T.own (eDq 3 qu bj) = T.own (eDq 3 qu bj) ∧ (bj.map qu)[(0 : Int).toNat]? = some (qu az) ∧ true = true ∧ (qu az).isD = true)] fun st0 h0 => ⟨rfl, h0⟩) fun st1 h1 => z5X h1 ?_
  obtain ⟨g1, ae⟩ := gdE ae
  obtain ⟨yr, h2, ae⟩ := zl ae
  let Z1 : List HO := [Hn (rfl : eDq 3 qu bj = A.opq (QV 3 (bj.map qu)).q), Hn (⟨g1.1, cuB qu g1⟩ : (0 : Int) ≤ 1 ∧ (1 : Int).toNat ≤ (bj.map qu).length), Hn (drM qu bj (1 : Int).toNat), Hn (z9t (yv := yv) (Y := YY) (enc := (fun (x : zi) (_ : Bool) (_ : Value) => [qu x])) (s := fj) (x := az) (s' := yr.1) (b := yr.2) (v := .nilFunc) [qu az] (show Vv [qu az] [qu az] from inferInstance))]
  rcases y5 ae with ⟨c1, ae⟩ | ⟨c1, ae⟩
  ·obtain rfl := zj ae
   obtain rfl := hl1
   obtain rfl := zj aa
   exact yF ((z8c (P := Tryz.prog) xX hy 29 (s := fj) (x := az) (s' := yr.1) (b := yr.2) .nilFunc h2).or ((xQs zB 26 3 (bj.map qu) ((bj.drop (1 : Int).toNat).map qu)).or X0)) hC .ret [(0, .own (.opq (YY yr.1).q))] (Z1 ++ [Hq c1]) fun st0 h0 => hE _ st0 (.inr rfl) h0
  ·obtain ⟨ar, h3, ae⟩ := zl ae
   obtain ⟨t2, ht2, ae⟩ := zl ae
   refine yL ((z8c (P := Tryz.prog) xX hy 29 (s := fj) (x := az) (s' := yr.1) (b := yr.2) .nilFunc h2).or ((xQs zB 26 3 (bj.map qu) ((bj.drop (1 : Int).toNat).map qu)).or X0)) hC yS [1,1,1,0,0,1,0,1,1,1,1,0] [J1] (fun s => xi az yr ar s.1 s.2.1 s.2.2) (fun x => Xa x0 YY az yr ar x.1 x.2.1 x.2.2) (fm, (bj.drop (1 : Int).toNat), 0) ht2  (Z1 ++ [Hq c1, Hi vO h3, Ha (lnM up ar)]) ?_
   rintro ⟨cx, bw, db⟩ m2 fg ai hl2 J2 a6
   try unfold xi at ai
   rcases y5 ai with ⟨c2, ai⟩ | ⟨c2, ai⟩
   ·refine yJ X0 hC yS [1,1,1,0,0,1,0,1,1,1,1,0,0,1,1] [J1, J2] [0,1,4,5,6,36,37,38] (fun z : List Bool × List zi => ym db z.1 z.2 = some fg) (fun z => Xc x0 YY az yr ar db z.1 z.2) [(0, .own (.opq (YY yr.1).q)), (1, .d (.sptr (yj x0))), (4, .own (eOs 1 true eB cx)), (5, .own (eDq 3 qu bw)), (6, .own (.box (qu az))), (36, .d (eSl 2 false up ar)), (37, .d (I ((ar.length : Nat) : Int))), (38, .d (I db))] [Hq c2, Hh (.cut 0)] ?_ fun J3 ca => ?_
    ·rintro ⟨fy, fl⟩ ai
     unfold ym at ai
     obtain rfl := zj ai
     exact yB X0 hC a6 (fy, fl, w64 (db + 1)) hl2 []
    ·obtain ⟨aj, h4, ai⟩ := zl ai
     let Z2 : List HO := [Hi up h4]
     rcases y5 ai with ⟨c3, ai⟩ | ⟨c3, ai⟩
     ·obtain ⟨gx, h5, ai⟩ := zl ai
      let Z3 : List HO := (Z2 ++ (rpN 4 (Hq c3) [Hn (iL eB h5), Hq c3, Hs (iM eB h5), Hq c3, Hq c3]))
      rcases y5 ai with ⟨c4, ai⟩ | ⟨c4, ai⟩
      ·obtain ⟨io, h6, ai⟩ := zl ai
       obtain ⟨g2, ai⟩ := gdE ai
       exact yB ((xQa zB 66 3 (bw.map qu) ((bw ++ ([(zi.mk aj.To az.state_ db)] : List zi)).map qu)).or X0) hC ca ((cx.set aj.To.toNat true), (bw ++ ([(zi.mk aj.To az.state_ db)] : List zi))) ai (Z3 ++ [Hq c4, Hn (iL eB h6), Hs (iM eB h6), Hs (iM eB h6), Hl (sM eB cx aj.To true), Hn (⟨rfl, dM qu ([(zi.mk aj.To az.state_ db)] : List zi), rfl⟩ : 3 = 3 ∧ A.areD (([(zi.mk aj.To az.state_ db)] : List zi).map qu) = true ∧ true = true), Hn (⟨rfl, aL qu qu g2, dM qu bw⟩ : eDq 3 qu bw = A.opq (QV 3 (bw.map qu)).q ∧ (bw.map qu).length + (([(zi.mk aj.To az.state_ db)] : List zi).map qu).length ≤ lim ∧ A.areD (bw.map qu) = true), Hn (aM qu bw ([(zi.mk aj.To az.state_ db)] : List zi))])
      ·exact yB X0 hC ca (cx, bw) ai (Z3 ++ [Hq c4])
     ·exact yB X0 hC ca (cx, bw) ai (Z2 ++ (rpN 7 (Hq c3) [qF]))
   ·obtain rfl := zj ai
    obtain rfl := hl2
    obtain rfl := zj ae
    exact yB X0 hC ax (yr.1, cx, bw) hl1 [Hq c2]
 ·obtain rfl := zj ae
  obtain rfl := hl1
  obtain rfl := zj aa
  exact yF ((xQl zB 20 149 3 (bj.map qu) (by kernel_rfl)).or X0) hC .normal [(0, .own (.opq (YY fj).q))] (Z0 ++ [Hq c0]) fun st0 h0 => hE _ st0 (.inl rfl) h0
def YO : Code := (Tryz.f31.body).getD .skip
def yc : yd := spF (α := List Int) (ρ := List Int) 31 (fun x => [F7_ x]) (fun r => F6_ r) (fun x => zS x) [] (JL)
theorem X7 (hC : zN Tryz.prog ctr) : yc.Ok Tryz.prog := by
 refine zT ?_
 rintro s_ r0 aa
 try unfold zS at aa
 refine yO true [(2, none)] YO 8 Tryz.func31 fun E hE => ?_
 refine z2u rfl 0 (sz := 1) (t := false) (es := s_.map (eI .i64)) (by kernel_rfl) fun ay hv0 hn => ?_
 rcases hn with ⟨hn0, he0⟩ | hn0
 ·obtain ⟨_, aa⟩ := gdE aa
  rw [show s_ = [] from List.map_eq_nil_iff.1 he0] at aa
  obtain rfl := zj aa
  exact yEx ((zaH zB 4 51 (by kernel_rfl) hn0).or ((xMv Tryz.prog 3 0 ay hv0).or X0)) hC hE [Hn (rfl : some ay = some ay), Hn (⟨rfl, rfl⟩ : T.d (.atom ay) = T.d (.atom ay) ∧ T.d (.atom (.slice none 0 0)) = T.d (.atom (.slice none 0 0))), qT] (eOs 1 true (eI .i64) []) (show LeV (eOs 1 true (eI .i64) []) (eOs 1 false (eI .i64) ([] : List Int)) from inferInstance)
 ·obtain ⟨g0, aa⟩ := gdE aa
  obtain rfl := zj aa
  exact yE ((zaH zB 4 51 (by kernel_rfl) hn0).or ((xMv Tryz.prog 3 0 ay hv0).or X0)) hC hE [Hn (rfl : some ay = some ay), Hn (⟨rfl, rfl⟩ : T.d (.atom ay) = T.d (.atom ay) ∧ T.d (.atom (.slice none 0 0)) = T.d (.atom (.slice none 0 0))), qF, Hn (dM (eI .i64) s_), Hn (aL (eI .i64) (eI .i64) g0), Hl (aM0 (eI .i64) s_)]
def X9 : Code := (Tryz.f30.body).getD .skip
def yh : yd := spF (α := List Int) (ρ := List Int) 30 (fun x => [F7_ x]) (fun r => F2_ r) (fun x => zZ x) [] (JL)
theorem Xp (hC : zN Tryz.prog ctr) : yh.Ok Tryz.prog := by
 refine zT ?_
 rintro s_ r0 aa
 try unfold zZ at aa
 refine yO true [(2, none)] X9 9 Tryz.func30 fun E hE => ?_
 obtain ⟨g0, aa⟩ := gdE aa
 obtain rfl := zj aa
 exact yE X0 hC hE [Ha (lnM (eI .i64) s_), Ha (lnM (eI .i64) s_), Hn (slB g0), Hn (slC g0), Hn (zbn (eI .i64) g0), Ha (zgd 1 (eI .i64) s_ 0 ((s_.length : Nat) : Int).toNat)]
def vK : Code := (Tryz.f62.body).getD .skip
def ZK : yd := spF (α := z6 × Int) (ρ := List (List Int) × List Bool) 62 (fun x => [yj x.1, (eI .i64) x.2]) (fun r => .tup [z6d r.1, (eSl 1 true eB) r.2]) (fun x => kN x.1 x.2) [] (VT)
abbrev U0 (l_ : List (List Int)) (is : List Bool) : List (Nat × T) := [(6, .own (.box (eOs 1 true F2_ l_))), (7, .own (.box (eOs 1 true eB is)))]
abbrev jr (r_ : z6 × Int) (bl : List (List Int)) (ck : List Bool) : List (Nat × T) := [(6, .own (.box (eOs 1 true F2_ bl))), (7, .own (.box (eOs 1 true eB ck))), (19, .d (.fn 85 [.sptr (.agg [I r_.1.Inputs, I r_.1.Outputs, eSl 1 false vO r_.1.Rows]), .sptr (I r_.2)]))]
theorem KM (hC : zN Tryz.prog ctr) (h0H : ctr.Has je) (h01 : ctr.Has yc) (h00 : ctr.Has yh) : ZK.Ok Tryz.prog := by
 refine zT ?_
 rintro ⟨m_, from_⟩ r0 aa
 try unfold kN at aa
 refine yO false [(4, none), (5, none)] vK 45 Tryz.func62 fun E hE => ?_
 obtain ⟨g0, aa⟩ := gdE aa
 obtain ⟨g1, aa⟩ := gdE aa
 refine yJ ((xMs zB 12 51).or X0) hC vK [1,1] [] [6,7] (fun z : List (List Int) × List Bool => js z.1 z.2 = some r0) (fun z => U0 z.1 z.2) [(1, .d (I from_)), (2, .own (.box (yj m_))), (6, .own (.box (eOs 1 true F2_ (List.replicate ((m_.Rows.length : Nat) : Int).toNat ([] : List Int))))), (7, .own (.box (eOs 1 true eB (List.replicate ((m_.Rows.length : Nat) : Int).toNat false))))] [Ha (lnM vO m_.Rows), Hn (rL g0), Ha (rM 1 F2_ ((m_.Rows.length : Nat) : Int) ([] : List Int)), Ha (lnM vO m_.Rows), Hn (rL g1), Ha (rM 1 eB ((m_.Rows.length : Nat) : Int) false), Hh (.cut 0)] ?_ fun J1 ax => ?_
 ·rintro ⟨l_, is⟩ aa
  unfold js at aa
  obtain rfl := zj aa
  exact yE X0 hC hE [Hm (shM F2_ F2_ l_), Hm (shM eB eB is)]
 ·obtain ⟨r_, h0, aa⟩ := zl aa
  obtain ⟨t2, ht2, aa⟩ := zl aa
  refine yAt X0 hC (sub [1,1,2,1,0] vK) (frs [1,1,2,1,0] [J1] vK []) [(6, .own (.box (eOs 1 true F2_ (List.replicate ((m_.Rows.length : Nat) : Int).toNat ([] : List Int))))), (7, .own (.box (eOs 1 true eB (List.replicate ((m_.Rows.length : Nat) : Int).toNat false)))), (19, .d (.fn 85 [.sptr (.agg [I r_.1.Inputs, I r_.1.Outputs, eSl 1 false vO r_.1.Rows]), .sptr (I r_.2)]))] [Hc h0H (x := (m_, from_)) h0 (loC yj m_ <| loC (eI .i64) from_ <| loN)] fun st0 h0 => ?_
  refine zaB (g := .tmp 19) (ps := [20]) (assign := (sub [1,1,2,1,0,0] vK)) (body := (sub [1,1,2,1,0,1] vK)) (K := 85) (caps := [.sptr (.agg [I r_.1.Inputs, I r_.1.Outputs, eSl 1 false vO r_.1.Rows]), .sptr (I r_.2)]) (by kernel_rfl) [6,7,19] (fun s => jr r_ s.1 s.2) (fun z => nomatch z) (fun z => nomatch z) ((fun (x : zi) (_ : Bool) (_ : Value) => [qu x])) (F := @vB r_.1 r_.2) (fun s x => xp s.1 s.2 x) ((List.replicate ((m_.Rows.length : Nat) : Int).toNat ([] : List Int)), (List.replicate ((m_.Rows.length : Nat) : Int).toNat false)) t2 _ h0 inferInstance (by kernel_rfl) (by decide) (fun _ => rfl) (by rintro ⟨⟩) (by kernel_rfl) (fun _ _ _ => rfl) (WZ hC r_.1 r_.2) ht2 ?_ ?_
  ·rintro iy ⟨bl, ck⟩ bu vr bg ae
   replace ae : xp bl ck bu = some bg := ae
   unfold xp at ae
   refine yF X0 hC .normal [(6, .own (.box (eOs 1 true F2_ bl))), (7, .own (.box (eOs 1 true eB ck))), (8, .own (.box (qu bu))), (19, .d (.fn 85 [.sptr (.agg [I r_.1.Inputs, I r_.1.Outputs, eSl 1 false vO r_.1.Rows]), .sptr (I r_.2)]))] [] fun st0 h0 => ⟨rfl, z5X h0 ?_⟩
   obtain ⟨gw, h1, ae⟩ := zl ae
   let Z0 : List HO := [Hn (iL eB h1), Hs (iM eB h1), Hs (iM eB h1), Hl (sM eB ck bu.state_ true)]
   rcases y5 ae with ⟨c0, ae⟩ | ⟨c0, ae⟩
   ·obtain ⟨ba, h2, ae⟩ := zl ae
    obtain ⟨ah, h3, ae⟩ := zl ae
    obtain ⟨g2, ae⟩ := gdE ae
    obtain ⟨am, h4, ae⟩ := zl ae
    obtain ⟨cn, h5, ae⟩ := zl ae
    obtain rfl := zj ae
    exact yF X0 hC .normal (jr r_ (bl.set bu.state_.toNat am) (ck.set bu.state_.toNat true)) (Z0 ++ [Hq c0, Hn (iL F2_ h2), Hs (iM F2_ h2), Hc h01 (x := ba) h3 (loC F2_ ba <| loN), Hq (dM (eI .i64) ([bu.input_] : List Int)), Hn (dM (eI .i64) ([bu.input_] : List Int)), Hn (aL (eI .i64) (eI .i64) g2), Hl (aM (eI .i64) ah ([bu.input_] : List Int)), Hg (Ku h00), Hm (shM (eI .i64) (eI .i64) (ah ++ ([bu.input_] : List Int))), Hs (Kv h00 (x := (ah ++ ([bu.input_] : List Int))) h4 (loC F7_ (ah ++ ([bu.input_] : List Int)) <| loN)), Hm (shM (eI .i64) (eI .i64) (ah ++ ([bu.input_] : List Int))), Hn (iL F2_ h5), Hs (iM F2_ h5), Hs (iM F2_ h5), Hl (sM F2_ bl bu.state_ am)]) fun st0 h0 => ⟨rfl, _, h0, LeL.refl _⟩
   ·obtain rfl := zj ae
    exact yF X0 hC .normal (jr r_ bl (ck.set bu.state_.toNat true)) (Z0 ++ [Hq c0]) fun st0 h0 => ⟨rfl, _, h0, LeL.refl _⟩
  ·rcases t2 with ⟨bl, ck⟩ | z
   ·dsimp only at aa
    exact z1J (by kernel_rfl) (ax _ [(6, .own (.box (eOs 1 true F2_ bl))), (7, .own (.box (eOs 1 true eB ck)))] (bl, ck) aa (show Own.canon [6,7] _ = ofL _ by kernel_rfl) inferInstance)
   ·cases z
def Jz : Code := (Tryz.f45.body).getD .skip
def kT : yd := spF (α := z6) (ρ := List (List Int) × List Bool × Int) 45 (fun x => [yj x]) (fun r => .tup [z6d r.1, (eSl 1 true eB) r.2.1, (eI .i64) r.2.2]) (fun x => jB x) [] (JL)
theorem JP (hC : zN Tryz.prog ctr) (h0e : ctr.Has ub) (h0I : ctr.Has ZK) : kT.Ok Tryz.prog := by
 refine zT ?_
 rintro m_ r0 aa
 try unfold jB at aa
 refine yO false [(2, none), (3, none), (4, none)] Jz 20 Tryz.func45 fun E hE => ?_
 obtain ⟨r_, h0, aa⟩ := zl aa
 let Z0 : List HO := [Hc h0e (x := m_) h0 (loC yj m_ <| loN)]
 rcases y5 aa with ⟨c0, aa⟩ | ⟨c0, aa⟩
 ·obtain rfl := zj aa
  exact yEx X0 hC hE (Z0 ++ [Hq c0, Hm (shM F7_ F7_ []), Hm (shM eB eB [])]) (.tup [eSl 1 true F2_ [], eSl 1 true eB [], I r_]) (show LeV (.tup [eSl 1 true F2_ [], eSl 1 true eB [], I r_]) (.tup [eSl 1 true F2_ ([] : List (List Int)), eSl 1 true eB ([] : List Bool), I r_]) from inferInstance)
 ·obtain ⟨ah, h1, aa⟩ := zl aa
  obtain rfl := zj aa
  exact yE X0 hC hE (Z0 ++ [Hq c0, Hc h0I (x := (m_, 0)) h1 (loC yj m_ <| loC (eI .i64) 0 <| loN)])
def xc : Code := (Tryz.f26.body).getD .skip
def wx : yd := spF (α := z6 × Int) (ρ := List zb) 26 (fun x => [yj x.1, (eI .i64) x.2]) (fun r => (eOs 5 false (zc F7_ zG zC)) r) (fun x => wM x.1 x.2) [] (VT)
abbrev WU (out : List zb) : List (Nat × T) := [(8, .own (eOs 5 false (zc F7_ zG zC) out))]
abbrev WT (m_ : z6) (goal : Int) (r_ : List (List Int) × List Bool × Int) (av : Int) (a7 : List zb) : List (Nat × T) := [(1, .d (I goal)), (2, .own (.box (yj m_))), (5, .d (eSl 1 true F2_ r_.1)), (6, .d (eSl 1 true eB r_.2.1)), (8, .own (eOs 5 false (zc F7_ zG zC) a7)), (24, .d (eSl 1 false vO m_.Rows)), (25, .d (I ((m_.Rows.length : Nat) : Int))), (26, .d (I av))]
abbrev WS (m_ : z6) (goal : Int) (r_ : List (List Int) × List Bool × Int) (av : Int) (ar : List ze) (a8 : Int) (ct : List zb) : List (Nat × T) := [(1, .d (I goal)), (2, .own (.box (yj m_))), (5, .d (eSl 1 true F2_ r_.1)), (6, .d (eSl 1 true eB r_.2.1)), (8, .own (eOs 5 false (zc F7_ zG zC) ct)), (9, .d (.sptr (I av))), (24, .d (eSl 1 false vO m_.Rows)), (25, .d (I ((m_.Rows.length : Nat) : Int))), (26, .d (I av)), (49, .d (eSl 2 false up ar)), (50, .d (I ((ar.length : Nat) : Int))), (51, .d (I a8))]
abbrev WR (m_ : z6) (goal : Int) (r_ : List (List Int) × List Bool × Int) (av : Int) (ar : List ze) (a8 : Int) (am : List Int) (br : List ze) (cd : Int) (cp : List zb) : List (Nat × T) := [(1, .d (I goal)), (2, .own (.box (yj m_))), (5, .d (eSl 1 true F2_ r_.1)), (6, .d (eSl 1 true eB r_.2.1)), (8, .own (eOs 5 false (zc F7_ zG zC) cp)), (9, .d (.sptr (I av))), (11, .own (.box (I a8))), (13, .d (eSl 1 false (eI .i64) (am ++ ([a8] : List Int)))), (24, .d (eSl 1 false vO m_.Rows)), (25, .d (I ((m_.Rows.length : Nat) : Int))), (26, .d (I av)), (49, .d (eSl 2 false up ar)), (50, .d (I ((ar.length : Nat) : Int))), (51, .d (I a8)), (84, .d (eSl 2 false up br)), (85, .d (I ((br.length : Nat) : Int))), (86, .d (I cd))]
abbrev WO (m_ : z6) (goal : Int) (r_ : List (List Int) × List Bool × Int) (av : Int) (ar : List ze) (a8 : Int) (am : List Int) (br : List ze) (da : List zb) (cd : Int) : List (Nat × T) := [(1, .d (I goal)), (2, .own (.box (yj m_))), (5, .d (eSl 1 true F2_ r_.1)), (6, .d (eSl 1 true eB r_.2.1)), (8, .own (eOs 5 false (zc F7_ zG zC) da)), (9, .d (.sptr (I av))), (11, .own (.box (I a8))), (13, .d (eSl 1 false (eI .i64) (am ++ ([a8] : List Int)))), (24, .d (eSl 1 false vO m_.Rows)), (25, .d (I ((m_.Rows.length : Nat) : Int))), (26, .d (I av)), (49, .d (eSl 2 false up ar)), (50, .d (I ((ar.length : Nat) : Int))), (51, .d (I a8)), (84, .d (eSl 2 false up br)), (85, .d (I ((br.length : Nat) : Int))), (86, .d (I cd))]
abbrev WP (m_ : z6) (goal : Int) (r_ : List (List Int) × List Bool × Int) (av : Int) (ar : List ze) (bp : List zb) (a8 : Int) : List (Nat × T) := [(1, .d (I goal)), (2, .own (.box (yj m_))), (5, .d (eSl 1 true F2_ r_.1)), (6, .d (eSl 1 true eB r_.2.1)), (8, .own (eOs 5 false (zc F7_ zG zC) bp)), (9, .d (.sptr (I av))), (24, .d (eSl 1 false vO m_.Rows)), (25, .d (I ((m_.Rows.length : Nat) : Int))), (26, .d (I av)), (49, .d (eSl 2 false up ar)), (50, .d (I ((ar.length : Nat) : Int))), (51, .d (I a8))]
abbrev WQ (m_ : z6) (goal : Int) (r_ : List (List Int) × List Bool × Int) (ak : List zb) (av : Int) : List (Nat × T) := [(1, .d (I goal)), (2, .own (.box (yj m_))), (5, .d (eSl 1 true F2_ r_.1)), (6, .d (eSl 1 true eB r_.2.1)), (8, .own (eOs 5 false (zc F7_ zG zC) ak)), (24, .d (eSl 1 false vO m_.Rows)), (25, .d (I ((m_.Rows.length : Nat) : Int))), (26, .d (I av))]
def zK : XH Tryz.prog := ((z44 zB (.inl 107) [104]).or ((z44 zB (.inl 71) [13]).or X0))
theorem Qz (hC : zN Tryz.prog ctr) (h0J : ctr.Has kT) (h01 : ctr.Has yc) (h00 : ctr.Has yh) : wx.Ok Tryz.prog := by
 refine zT ?_
 rintro ⟨m_, goal⟩ r0 aa
 try unfold wM at aa
 refine yO true [(4, none)] xc 114 Tryz.func26 fun E hE => ?_
 obtain ⟨r_, h0, aa⟩ := zl aa
 refine yJ zK hC xc [1,1,1] [] [8] (fun z : List zb => uQ z = some r0) (fun z => WU z) [(1, .d (I goal)), (2, .own (.box (yj m_))), (5, .d (eSl 1 true F2_ r_.1)), (6, .d (eSl 1 true eB r_.2.1)), (8, .own (eOs 5 true (zc F7_ zG zC) []))] [Hc h0J (x := m_) h0 (loC yj m_ <| loN), Hh (.cut 1)] ?_ fun J1 ax => ?_
 ·rintro out aa
  unfold uQ at aa
  obtain rfl := zj aa
  exact yE zK hC hE []
 ·obtain ⟨t2, ht2, aa⟩ := zl aa
  refine yLx zK hC xc [1,1,1,2,1,0] [J1] (fun s => wF m_ goal r_ s.1 s.2) (fun x => WQ m_ goal r_ x.1 x.2) (([] : List zb), 0) ht2 [(1, .d (I goal)), (2, .own (.box (yj m_))), (5, .d (eSl 1 true F2_ r_.1)), (6, .d (eSl 1 true eB r_.2.1)), (8, .own (eOs 5 true (zc F7_ zG zC) [])), (24, .d (eSl 1 false vO m_.Rows)), (25, .d (I ((m_.Rows.length : Nat) : Int))), (26, .d (I 0))] inferInstance [Ha (lnM vO m_.Rows)] ?_
  rintro ⟨ak, av⟩ m2 bg ae hl1 J2 a6
  try unfold wF at ae
  rcases y5 ae with ⟨c0, ae⟩ | ⟨c0, ae⟩
  ·refine yJ zK hC xc [1,1,1,2,1,0,0,1,1] [J1, J2] [1,2,5,6,8,24,25,26] (fun z : List zb => xa av z = some bg) (fun z => WT m_ goal r_ av z) [(1, .d (I goal)), (2, .own (.box (yj m_))), (5, .d (eSl 1 true F2_ r_.1)), (6, .d (eSl 1 true eB r_.2.1)), (8, .own (eOs 5 false (zc F7_ zG zC) ak)), (24, .d (eSl 1 false vO m_.Rows)), (25, .d (I ((m_.Rows.length : Nat) : Int))), (26, .d (I av))] [Hq c0, Hh (.cut 0)] ?_ fun J3 ca => ?_
   ·rintro a7 ae
    unfold xa at ae
    obtain rfl := zj ae
    exact yB zK hC a6 (a7, w64 (av + 1)) hl1 []
   ·obtain ⟨ar, h1, ae⟩ := zl ae
    obtain ⟨u_, h2, ae⟩ := zl ae
    let Z0 : List HO := [Hi vO h1, Hi eB h2]
    rcases y5 ae with ⟨c1, ae⟩ | ⟨c1, ae⟩
    ·exact yB zK hC ca ak ae (Z0 ++ [Hq c1])
    ·rcases y5 ae with ⟨c2, ae⟩ | ⟨c2, ae⟩
     ·obtain ⟨fp, h3, ae⟩ := zl ae
      obtain ⟨g0, ae⟩ := gdE ae
      exact yB ((xLs zB 42 (eSl 1 true (eI .i64) fp) (eSl 1 false (eI .i64) fp) inferInstance).or zK) hC ca (ak ++ ([(zb.mk fp (z8.mk av 0 0) (.inl av))] : List zb)) ae (Z0 ++ [Hq c1, Hh (.n 1 [9]), Hq c2, Hi F2_ h3, Hn (rfl : T.d (eSl 1 true (eI .i64) fp) = T.d (eSl 1 true (eI .i64) fp)), Hq (dM (zc F7_ zG zC) ([(zb.mk fp (z8.mk av 0 0) (.inl av))] : List zb)), Hn (dM (zc F7_ zG zC) ([(zb.mk fp (z8.mk av 0 0) (.inl av))] : List zb)), Hn (aL (zc F7_ zG zC) (zc F7_ zG zC) g0), Hl (aM (zc F7_ zG zC) ak ([(zb.mk fp (z8.mk av 0 0) (.inl av))] : List zb))])
     ·obtain ⟨t4, ht4, ae⟩ := zl ae
      refine yL zK hC xc [1,1,1,2,1,0,0,1,1,2,0,1,1,1,1,0] [J1, J2, J3] (fun s => wD m_ goal r_ av ar s.1 s.2) (fun x => WP m_ goal r_ av ar x.1 x.2) (ak,0) ht4  (Z0 ++ [Hq c1, Hh (.n 1 [9]), Hq c2, Ha (lnM up ar)]) ?_
      rintro ⟨bp, a8⟩ m4 fg ai hl2 J4 d0
      try unfold wD at ai
      rcases y5 ai with ⟨c3, ai⟩ | ⟨c3, ai⟩
      ·refine yJ zK hC xc [1,1,1,2,1,0,0,1,1,2,0,1,1,1,1,0,0,1,1] [J1, J2, J3, J4] [1,2,5,6,8,9,24,25,26,49,50,51] (fun z : List zb => x9 a8 z = some fg) (fun z => WS m_ goal r_ av ar a8 z) [(1, .d (I goal)), (2, .own (.box (yj m_))), (5, .d (eSl 1 true F2_ r_.1)), (6, .d (eSl 1 true eB r_.2.1)), (8, .own (eOs 5 false (zc F7_ zG zC) bp)), (9, .d (.sptr (I av))), (24, .d (eSl 1 false vO m_.Rows)), (25, .d (I ((m_.Rows.length : Nat) : Int))), (26, .d (I av)), (49, .d (eSl 2 false up ar)), (50, .d (I ((ar.length : Nat) : Int))), (51, .d (I a8))] [Hq c3, Hh (.cut 0)] ?_ fun J5 dn => ?_
       ·rintro ct ai
        unfold x9 at ai
        obtain rfl := zj ai
        exact yB zK hC d0 (ct, w64 (a8 + 1)) hl2 []
       ·obtain ⟨aj, h4, ai⟩ := zl ai
        let Z1 : List HO := [Hi up h4]
        rcases y5 ai with ⟨c4, ai⟩ | ⟨c4, ai⟩
        ·exact yB zK hC dn bp ai (Z1 ++ [Hq c4])
        ·obtain ⟨ij, h5, ai⟩ := zl ai
         obtain ⟨ah, h6, ai⟩ := zl ai
         obtain ⟨am, h7, ai⟩ := zl ai
         obtain ⟨g1, ai⟩ := gdE ai
         let Z2 : List HO := (Z1 ++ [Hq c4, Hi F2_ h5, Hc h01 (x := ij) h6 (loC F2_ ij <| loN), Hg (Ku h00), Hm (shM (eI .i64) (eI .i64) ah), Hs (Kv h00 (x := ah) h7 (loC F7_ ah <| loN)), Hm (shM (eI .i64) (eI .i64) ah), Hq (dM (eI .i64) ([a8] : List Int)), Hn (dM (eI .i64) ([a8] : List Int)), Hn (aN (eI .i64) (eI .i64) g1 (by simp)), Hl (aM (eI .i64) am ([a8] : List Int))])
         rcases y5 ai with ⟨c5, ai⟩ | ⟨c5, ai⟩
         ·obtain ⟨g2, ai⟩ := gdE ai
          exact yB zK hC dn (bp ++ ([(zb.mk (am ++ ([a8] : List Int)) (z8.mk av a8 0) (.inr (.inl (av, a8))))] : List zb)) ai (Z2 ++ [Hq c5, Hm (shM (eI .i64) (eI .i64) (am ++ ([a8] : List Int))), Hq (dM (zc F7_ zG zC) ([(zb.mk (am ++ ([a8] : List Int)) (z8.mk av a8 0) (.inr (.inl (av, a8))))] : List zb)), Hn (dM (zc F7_ zG zC) ([(zb.mk (am ++ ([a8] : List Int)) (z8.mk av a8 0) (.inr (.inl (av, a8))))] : List zb)), Hn (aL (zc F7_ zG zC) (zc F7_ zG zC) g2), Hl (aM (zc F7_ zG zC) bp ([(zb.mk (am ++ ([a8] : List Int)) (z8.mk av a8 0) (.inr (.inl (av, a8))))] : List zb))])
         ·obtain ⟨br, h8, ai⟩ := zl ai
          obtain ⟨t6, ht6, ai⟩ := zl ai
          refine yL zK hC xc [1,1,1,2,1,0,0,1,1,2,0,1,1,1,1,0,0,1,1,2,0,1,1,1,1,1,0] [J1, J2, J3, J4, J5] (fun s => wC av a8 am br s.1 s.2) (fun x => WO m_ goal r_ av ar a8 am br x.1 x.2) (bp,0) ht6  (Z2 ++ [Hq c5, Hi vO h8, Ha (lnM up br), Hh (.n 1 [13]), Hm (shM (eI .i64) (eI .i64) (am ++ ([a8] : List Int)))]) ?_
          rintro ⟨da, cd⟩ m6 ir bn hl3 J6 ez
          try unfold wC at bn
          rcases y5 bn with ⟨c6, bn⟩ | ⟨c6, bn⟩
          ·refine yJ zK hC xc [1,1,1,2,1,0,0,1,1,2,0,1,1,1,1,0,0,1,1,2,0,1,1,1,1,1,0,0,1,1] [J1, J2, J3, J4, J5, J6] [1,2,5,6,8,9,11,13,24,25,26,49,50,51,84,85,86] (fun z : List zb => wG cd z = some ir) (fun z => WR m_ goal r_ av ar a8 am br cd z) [(1, .d (I goal)), (2, .own (.box (yj m_))), (5, .d (eSl 1 true F2_ r_.1)), (6, .d (eSl 1 true eB r_.2.1)), (8, .own (eOs 5 false (zc F7_ zG zC) da)), (9, .d (.sptr (I av))), (11, .own (.box (I a8))), (13, .d (eSl 1 false (eI .i64) (am ++ ([a8] : List Int)))), (24, .d (eSl 1 false vO m_.Rows)), (25, .d (I ((m_.Rows.length : Nat) : Int))), (26, .d (I av)), (49, .d (eSl 2 false up ar)), (50, .d (I ((ar.length : Nat) : Int))), (51, .d (I a8)), (84, .d (eSl 2 false up br)), (85, .d (I ((br.length : Nat) : Int))), (86, .d (I cd))] [Hq c6, Hh (.cut 0)] ?_ fun J7 fz => ?_
           ·rintro cp bn
            unfold wG at bn
            obtain rfl := zj bn
            exact yB zK hC ez (cp, w64 (cd + 1)) hl3 []
           ·obtain ⟨bh, h9, bn⟩ := zl bn
            let Z3 : List HO := [Hi up h9]
            rcases y5 bn with ⟨c7, bn⟩ | ⟨c7, bn⟩
            ·obtain ⟨au, h10, bn⟩ := zl bn
             obtain ⟨aw, h11, bn⟩ := zl bn
             obtain ⟨g3, bn⟩ := gdE bn
             obtain ⟨g4, bn⟩ := gdE bn
             exact yB zK hC fz (da ++ ([(zb.mk (aw ++ ([cd] : List Int)) (z8.mk av a8 cd) (.inr (.inr (z8.mk av a8 cd))))] : List zb)) bn (Z3 ++ [Hq c7, Hh (.n 2 [16]), Hc h01 (x := (am ++ ([a8] : List Int))) h10 (loC F7_ (am ++ ([a8] : List Int)) <| loN), Hg (Ku h00), Hm (shM (eI .i64) (eI .i64) au), Hs (Kv h00 (x := au) h11 (loC F7_ au <| loN)), Hm (shM (eI .i64) (eI .i64) au), Hq (dM (eI .i64) ([cd] : List Int)), Hn (dM (eI .i64) ([cd] : List Int)), Hn (aN (eI .i64) (eI .i64) g3 (by simp)), Hl (aM (eI .i64) aw ([cd] : List Int)), Hm (shM (eI .i64) (eI .i64) (aw ++ ([cd] : List Int))), Hq (dM (zc F7_ zG zC) ([(zb.mk (aw ++ ([cd] : List Int)) (z8.mk av a8 cd) (.inr (.inr (z8.mk av a8 cd))))] : List zb)), Hn (dM (zc F7_ zG zC) ([(zb.mk (aw ++ ([cd] : List Int)) (z8.mk av a8 cd) (.inr (.inr (z8.mk av a8 cd))))] : List zb)), Hn (aL (zc F7_ zG zC) (zc F7_ zG zC) g4), Hl (aM (zc F7_ zG zC) da ([(zb.mk (aw ++ ([cd] : List Int)) (z8.mk av a8 cd) (.inr (.inr (z8.mk av a8 cd))))] : List zb))])
            ·exact yB zK hC fz da bn (Z3 ++ [Hq c7])
          ·obtain rfl := zj bn
           obtain rfl := hl3
           exact yB zK hC dn da ai [Hq c6]
      ·obtain rfl := zj ai
       obtain rfl := hl2
       exact yB zK hC ca bp ae [Hq c3]
  ·obtain rfl := zj ae
   obtain rfl := hl1
   exact yB zK hC ax ak aa [Hq c0]
def Zq : Code := (Tryz.f8.body).getD .skip
def qw : yd := spF (α := z6 × List (List Int)) (ρ := zJ × Int) 8 (fun x => [yj x.1, ZZ x.2]) (fun r => .tup [zdM r.1, (eI .i64) r.2]) (fun x => u7 x.1 x.2) [] (VT)
abbrev Vu (n_ : ua (yp Int)) : List (Nat × T) := [(4, .own (.box (.agg [.agg [I 0, I 0], .agg [I 0, I 0], .agg [I 0, I 0]]))), (8, .own (.box (F9_ n_)))]
abbrev Vt (m_ : z6) (ah : zh) (cr : ua (yp Int)) (bu : Int) : List (Nat × T) := [(2, .own (.box (yj m_))), (4, .own (.box (.agg [.agg [I 0, I 0], .agg [I 0, I 0], .agg [I 0, I 0]]))), (7, .own (.box ((zR (eMp (eI .i64) eB) (eMp F0_ eB) (eMp zG eB)) ah))), (8, .own (.box (F9_ cr))), (20, .d (I bu))]
theorem JV (hC : zN Tryz.prog ctr) (h03 : ctr.Has xL) (h02 : ctr.Has x4) (h04 : ctr.Has wx) : qw.Ok Tryz.prog := by
 refine zT ?_
 rintro ⟨m_, l_⟩ r0 aa
 try unfold u7 at aa
 refine yO false [(4, some 36), (5, none)] Zq 41 Tryz.func8 fun E hE => ?_
 obtain ⟨r_, h0, aa⟩ := zl aa
 let Z0 : List HO := [Hc h03 (x := (m_, l_)) h0 (loC yj m_ <| loC ZZ l_ <| loN)]
 rcases y5 aa with ⟨c0, aa⟩ | ⟨c0, aa⟩
 ·obtain rfl := zj aa
  exact yE X0 hC hE (Z0 ++ [Hq c0])
 ·obtain ⟨ah, h1, aa⟩ := zl aa
  refine yJ X0 hC Zq [1,1,1,1] [] [4,8] (fun z : ua (yp Int) => Zm z = some r0) (fun z => Vu z) [(2, .own (.box (yj m_))), (4, .own (.box (.agg [.agg [I 0, I 0], .agg [I 0, I 0], .agg [I 0, I 0]]))), (7, .own (.box ((zR (eMp (eI .i64) eB) (eMp F0_ eB) (eMp zG eB)) ah))), (8, .own (.box (.agg [.agg [I 0, I 0], .agg [I 0, I 0], .agg [I 0, I 0]])))] (Z0 ++ [Hq c0, Hc h02 (x := (m_, l_)) h1 (loC yj m_ <| loC ZZ l_ <| loN), Hh (.cut 1)]) ?_ fun J1 ax => ?_
  ·rintro n_ aa
   unfold Zm at aa
   obtain rfl := zj aa
   exact yE X0 hC hE [Hn (⟨rfl, by decide⟩ : true = true ∧ 0 < 3), Hn (⟨rfl, by decide⟩ : true = true ∧ 1 < 3), Hn (⟨rfl, by decide⟩ : true = true ∧ 2 < 3)]
  ·obtain ⟨t2, ht2, aa⟩ := zl aa
   refine yL X0 hC Zq [1,1,1,1,2,1,0] [J1] (fun s => xH m_ ah s.1 s.2) (fun x => Vt m_ ah x.1 x.2) ((ua.mk (yp.mk 0 0) (yp.mk 0 0) (yp.mk 0 0)), 0) ht2  [] ?_
   rintro ⟨cr, bu⟩ m2 bg ae hl1 J2 a6
   try unfold xH at ae
   rcases y5 ae with ⟨c1, ae⟩ | ⟨c1, ae⟩
   ·obtain ⟨am, h2, ae⟩ := zl ae
    obtain ⟨au, h3, ae⟩ := zl ae
    obtain ⟨cell, h4, ae⟩ := zl ae
    obtain ⟨arr, h5, ae⟩ := zl ae
    replace h5 := zj h5
    obtain rfl := zj ae
    exact yB ((Y0 (P := Tryz.prog) xX 7 0 [.deref] (fa := .fn 25 []) (r := I am) (xl := []) (xr := [(eI .i64) bu]) (qs := [(y8 (zq (eI .i64) eB ah.states_)), (y8 (zq F0_ eB ah.edges_)), (y8 (zq zG eB ah.pairs_))]) (qs' := [(y8 (zq (eI .i64) eB ah.states_)), (y8 (zq F0_ eB ah.edges_)), (y8 (zq zG eB ah.pairs_))]) (es := [(zq (eI .i64) eB ah.states_), (zq F0_ eB ah.edges_), (zq zG eB ah.pairs_)]) (es' := [(zq (eI .i64) eB ah.states_), (zq F0_ eB ah.edges_), (zq zG eB ah.pairs_)]) (.inr rfl) (z3J (by kernel_rfl)) (.cons (xV (zq (eI .i64) eB ah.states_)) (.cons (xV (zq F0_ eB ah.edges_)) (.cons (xV (zq zG eB ah.pairs_)) (.nil)))) (fun us hu => Yn hC _ _ _ h2 us hu) (some 26)).or X0) hC a6 (arr, w64 (bu + 1)) hl1 [Hq c1, Hn (⟨rfl, leP (show Vv [] [] from inferInstance), leP (show Vv [(eI .i64) bu] [(eI .i64) bu] from inferInstance), rfl, rfl⟩ : ([.fn 25 []] : List A) = [.fn 25 []] ∧ LeP [] [] ∧ LeP [(eI .i64) bu] [(eI .i64) bu] ∧ T.als 7 [.deref] 0 0 = T.als 7 [.deref] 0 0 ∧ (some (.agg [.opq (y8 (zq (eI .i64) eB ah.states_)), .opq (y8 (zq F0_ eB ah.edges_)), .opq (y8 (zq zG eB ah.pairs_))]) : Option A) = some (.agg [.opq (y8 (zq (eI .i64) eB ah.states_)), .opq (y8 (zq F0_ eB ah.edges_)), .opq (y8 (zq zG eB ah.pairs_))])), Hc h04 (x := (m_, bu)) h3 (loC yj m_ <| loC (eI .i64) bu <| loN), Ha (lnM (zc F7_ zG zC) au), Hn (⟨arJ (by kernel_rfl) (i0 h4), (iL F0_ h4).2⟩ : Vm xX 73 ((ua.toL cr).map F0_) bu = true ∧ bu.toNat < ((ua.toL cr).map F0_).length), Hh (.op 2), Hh (.f), Hs (iM F0_ h4), Hh (.f), Hs (iM F0_ h4), Hx (.l ((ua.toL arr).map F0_)) ((ua.setL F0_ cr bu (yp.mk am ((au.length : Nat) : Int))).trans (congrArg (fun q => (ua.toL q).map F0_) h5))]
   ·obtain rfl := zj ae
    obtain rfl := hl1
    exact yB X0 hC ax cr aa [Hq c1]
def z0q : Code := (Tryz.f84.body).getD .skip
def kp : yd := spF (α := z6 × Int × Int) (ρ := ze) 84 (fun x => [yj x.1, (eI .i64) x.2.1, (eI .i64) x.2.2]) (fun r => up r) (fun x => Y6 x.1 x.2.1 x.2.2) [] (z6h)
theorem z0J (hC : zN Tryz.prog ctr) : kp.Ok Tryz.prog := by
 refine zT ?_
 rintro ⟨m_, s_, i_⟩ r0 aa
 try unfold Y6 at aa
 refine yO false [(6, some 105)] z0q 18 Tryz.func84 fun E hE => ?_
 rcases y5 aa with ⟨c0, aa⟩ | ⟨c0, aa⟩
 ·obtain rfl := zj aa
  exact yE X0 hC hE [Hq c0]
 ·obtain ⟨ar, h0, aa⟩ := zl aa
  obtain ⟨aj, h1, aa⟩ := zl aa
  obtain rfl := zj aa
  exact yE X0 hC hE [Hq c0, Hi vO h0, Hi up h1]
def K1 : Code := (Tryz.f72.body).getD .skip
def ZO : yd := spF (α := z6 × Int × List Int) (ρ := Int) 72 (fun x => [yj x.1, (eI .i64) x.2.1, F7_ x.2.2]) (fun r => (eI .i64) r) (fun x => YD x.1 x.2.1 x.2.2) [] (z6h)
theorem V5 : ∀ (x y : z6 × Int × List Int), (fun x => [yj x.1, (eI .i64) x.2.1, F7_ x.2.2]) x = (fun x => [yj x.1, (eI .i64) x.2.1, F7_ x.2.2]) y → x = y := z6h
def jV (dr : z6 → Int → (List Int) → Option Int) : yd := spF (α := z6 × Int × List Int) (ρ := Int) 72 (fun x => [yj x.1, (eI .i64) x.2.1, F7_ x.2.2]) (fun r => (eI .i64) r) (fun x => dr x.1 x.2.1 x.2.2) [] (by
 intro x y h
 exact (congrArg (fun (p : z6 × Int × List Int) => p) (show x = y from V5 x y h)))
theorem Qw (hC : zN Tryz.prog ctr) (h0g : ctr.Has kp) (dr : z6 → Int → (List Int) → Option Int) (h0a : ctr.Has (jV dr)) : (jV (uh dr)).Ok Tryz.prog := by
 refine zT ?_
 rintro ⟨m_, s_, w_⟩ r0 aa
 try unfold uh at aa
 refine yO true [(6, none)] K1 22 Tryz.func72 fun E hE => ?_
 rcases y5 aa with ⟨c0, aa⟩ | ⟨c0, aa⟩
 ·obtain rfl := zj aa
  exact yE X0 hC hE [Ha (lnM (eI .i64) w_), Hq c0]
 ·obtain ⟨bc, h0, aa⟩ := zl aa
  obtain ⟨r_, h1, aa⟩ := zl aa
  obtain ⟨g0, aa⟩ := gdE aa
  obtain ⟨ah, h2, aa⟩ := zl aa
  obtain rfl := zj aa
  exact yE ((zgU zB z7B).or X0) hC hE [Ha (lnM (eI .i64) w_), Hq c0, Hi (eI .i64) h0, Hc h0g (x := (m_, s_, bc)) h1 (loC yj m_ <| loC (eI .i64) s_ <| loC (eI .i64) bc <| loN), Hn (slA g0), Hn (zed (eI .i64) g0), Ha (slE 1 false (eI .i64) w_ (1 : Int).toNat), Hc h0a (x := (m_, r_.To, (w_.drop (1 : Int).toNat))) h2 (loC yj m_ <| loC (eI .i64) r_.To <| loC F7_ (w_.drop (1 : Int).toNat) <| loN)]
theorem KS (hC : zN Tryz.prog ctr) (h0g : ctr.Has kp) : ZO.Ok Tryz.prog := by
 have H : ∀ n, (jV (qG n)).Ok Tryz.prog := by
  intro n
  induction n with
  | zero => exact zT fun _ _ h => nomatch (show none = some _ from h)
  | succ n ih => exact Qw (Ctr.add_ok hC ih) (h0g.add (by show (84 : Nat) ≠ 72; decide)) _ (Ctr.add_has _ _)
 exact zT fun x r h => z0S (H _) h
def YR : Code := (Tryz.f71.body).getD .skip
def Ys : yd := spF (α := List Int × Int) (ρ := List Int) 71 (fun x => [F7_ x.1, (eI .i64) x.2]) (fun r => F6_ r) (fun x => kJ x.1 x.2) [] (VT)
abbrev UY (out : List Int) : List (Nat × T) := [(5, .own (eOs 1 false (eI .i64) out))]
abbrev UX (inputs : Int) (ak : List Int) (k_ : Int) : List (Nat × T) := [(1, .d (I inputs)), (5, .own (eOs 1 false (eI .i64) ak)), (6, .d (I k_))]
theorem z0I (hC : zN Tryz.prog ctr) : Ys.Ok Tryz.prog := by
 refine zT ?_
 rintro ⟨w_, inputs⟩ r0 aa
 try unfold kJ at aa
 refine yO true [(4, none)] YR 37 Tryz.func71 fun E hE => ?_
 obtain ⟨g0, aa⟩ := gdE aa
 refine yJ X0 hC YR [1,1] [] [5] (fun z : List Int => qE z = some r0) (fun z => UY z) [(1, .d (I inputs)), (5, .own (eOs 1 false (eI .i64) w_))] [Hn (dM (eI .i64) w_), Hn (aL (eI .i64) (eI .i64) g0), Hl (aM0 (eI .i64) w_), Hh (.cut 0)] ?_ fun J1 ax => ?_
 ·rintro out aa
  unfold qE at aa
  obtain ⟨g1, aa⟩ := gdE aa
  obtain rfl := zj aa
  exact yE X0 hC hE [Hq (dM (eI .i64) ([0] : List Int)), Hn (dM (eI .i64) ([0] : List Int)), Hn (aL (eI .i64) (eI .i64) g1), Hl (aM (eI .i64) out ([0] : List Int))]
 ·obtain ⟨t2, ht2, aa⟩ := zl aa
  refine yL X0 hC YR [1,1,2,1,0] [J1] (fun s => qD inputs s.1 s.2) (fun x => UX inputs x.1 x.2) (w_, w64 (((w_.length : Nat) : Int) - 1)) ht2  [Ha (lnM (eI .i64) w_)] ?_
  rintro ⟨ak, k_⟩ m2 bg ae hl1 J2 a6
  try unfold qD at ae
  rcases y5 ae with ⟨c0, ae⟩ | ⟨c0, ae⟩
  ·obtain ⟨dh, h0, ae⟩ := zl ae
   let Z0 : List HO := [Hq c0, Hn (iL (eI .i64) h0), Hs (iM (eI .i64) h0)]
   rcases y5 ae with ⟨c1, ae⟩ | ⟨c1, ae⟩
   ·obtain ⟨ee, h1, ae⟩ := zl ae
    obtain ⟨ip, h2, ae⟩ := zl ae
    obtain rfl := zj ae
    obtain rfl := hl1
    obtain rfl := zj aa
    exact yE X0 hC hE (Z0 ++ [Hq c1, Hn (iL (eI .i64) h1), Hs (iM (eI .i64) h1), Hn (iL (eI .i64) h2), Hs (iM (eI .i64) h2), Hs (iM (eI .i64) h2), Hl (sM (eI .i64) ak k_ (w64 (ee + 1)))])
   ·obtain ⟨iq, h3, ae⟩ := zl ae
    obtain rfl := zj ae
    exact yB X0 hC a6 ((ak.set k_.toNat 0), w64 (k_ - 1)) hl1 (Z0 ++ [Hq c1, Hn (iL (eI .i64) h3), Hs (iM (eI .i64) h3), Hs (iM (eI .i64) h3), Hl (sM (eI .i64) ak k_ 0)])
  ·obtain rfl := zj ae
   obtain rfl := hl1
   exact yB X0 hC ax ak aa [Hq c0]
def jA : Code := (Tryz.f52.body).getD .skip
def ZN : yd := spF (α := z6 × Int) (ρ := List (List Int) × List Bool) 52 (fun x => [yj x.1, (eI .i64) x.2]) (fun r => .tup [zaS r.1, (eSl 1 true eB) r.2]) (fun x => Za x.1 x.2) [] (VT)
abbrev Ui (l_ : List (List Int)) (is : List Bool) : List (Nat × T) := [(6, .own (eOs 1 true F7_ l_)), (7, .own (eOs 1 true eB is))]
abbrev Uh (m_ : z6) (from_ : Int) (w_ : List Int) (dy : List (List Int)) (gy : List Bool) : List (Nat × T) := [(1, .d (I from_)), (2, .own (.box (yj m_))), (6, .own (eOs 1 true F7_ dy)), (7, .own (eOs 1 true eB gy)), (8, .d (eSl 1 false (eI .i64) w_))]
abbrev Ug (m_ : z6) (from_ : Int) (bl : List (List Int)) (ck : List Bool) (w_ : List Int) : List (Nat × T) := [(1, .d (I from_)), (2, .own (.box (yj m_))), (6, .own (eOs 1 true F7_ bl)), (7, .own (eOs 1 true eB ck)), (8, .own (eOs 1 false (eI .i64) w_))]
def w7 : XH Tryz.prog := ((z44 zB (.inr 48) [8]).or X0)
theorem KR (hC : zN Tryz.prog ctr) (h0K : ctr.Has ZO) (h0L : ctr.Has Ys) : ZN.Ok Tryz.prog := by
 refine zT ?_
 rintro ⟨m_, from_⟩ r0 aa
 try unfold Za at aa
 refine yO false [(4, none), (5, none)] jA 51 Tryz.func52 fun E hE => ?_
 obtain ⟨g0, aa⟩ := gdE aa
 obtain ⟨g1, aa⟩ := gdE aa
 refine yJ w7 hC jA [1,1,1] [] [6,7] (fun z : List (List Int) × List Bool => jz z.1 z.2 = some r0) (fun z => Ui z.1 z.2) [(1, .d (I from_)), (2, .own (.box (yj m_))), (6, .own (eOs 1 true F2_ (List.replicate ((m_.Rows.length : Nat) : Int).toNat ([] : List Int)))), (7, .own (eOs 1 true eB (List.replicate ((m_.Rows.length : Nat) : Int).toNat false)))] [Ha (lnM vO m_.Rows), Hn (rL g0), Ha (rM 1 F3_ ((m_.Rows.length : Nat) : Int) ([] : List Int)), Hh (.v 0 [6]), Hm (shM F3_ F2_ (List.replicate ((m_.Rows.length : Nat) : Int).toNat ([] : List Int))), Ha (lnM vO m_.Rows), Hn (rL g1), Ha (rM 1 eB ((m_.Rows.length : Nat) : Int) false), Hh (.cut 0)] ?_ fun J1 ax => ?_
 ·rintro ⟨l_, is⟩ aa
  unfold jz at aa
  obtain rfl := zj aa
  exact yE w7 hC hE [Hm (shM F7_ F7_ l_), Hm (shM eB eB is)]
 ·obtain ⟨t2, ht2, aa⟩ := zl aa
  refine yLx w7 hC jA [1,1,1,2,1,0] [J1] (fun s => jy m_ from_ s.1 s.2.1 s.2.2) (fun x => Ug m_ from_ x.1 x.2.1 x.2.2) ((List.replicate ((m_.Rows.length : Nat) : Int).toNat ([] : List Int)), (List.replicate ((m_.Rows.length : Nat) : Int).toNat false), ([] : List Int)) ht2 [(1, .d (I from_)), (2, .own (.box (yj m_))), (6, .own (eOs 1 true F2_ (List.replicate ((m_.Rows.length : Nat) : Int).toNat ([] : List Int)))), (7, .own (eOs 1 true eB (List.replicate ((m_.Rows.length : Nat) : Int).toNat false))), (8, .own (eOs 1 true (eI .i64) []))] inferInstance [] ?_
  rintro ⟨bl, ck, w_⟩ m2 bg ae hl1 J2 a6
  try unfold jy at ae
  let Z0 : List HO := [Ha (lnM (eI .i64) w_), Ha (lnM vO m_.Rows)]
  rcases y5 ae with ⟨c0, ae⟩ | ⟨c0, ae⟩
  ·refine yJ w7 hC jA [1,1,1,2,1,0,0,1] [J1, J2] [1,2,6,7,8] (fun z : List (List Int) × List Bool => wT m_ w_ z.1 z.2 = some bg) (fun z => Uh m_ from_ w_ z.1 z.2) [(1, .d (I from_)), (2, .own (.box (yj m_))), (6, .own (eOs 1 true F7_ bl)), (7, .own (eOs 1 true eB ck)), (8, .d (eSl 1 false (eI .i64) w_))] (Z0 ++ [Hq c0, Hh (.n 1 [8]), Hm (shM (eI .i64) (eI .i64) w_), Hh (.cut 0)]) ?_ fun J3 ca => ?_
   ·rintro ⟨dy, gy⟩ ae
    unfold wT at ae
    obtain ⟨r_, h0, ae⟩ := zl ae
    obtain rfl := zj ae
    exact yB w7 hC a6 (dy, gy, r_) hl1 [Hc h0L (x := (w_, m_.Inputs)) h0 (loC F7_ w_ <| loC (eI .i64) m_.Inputs <| loN)]
   ·obtain ⟨ah, h1, ae⟩ := zl ae
    let Z1 : List HO := [Hc h0K (x := (m_, from_, w_)) h1 (loC yj m_ <| loC (eI .i64) from_ <| loC F7_ w_ <| loN)]
    rcases y5 ae with ⟨c1, ae⟩ | ⟨c1, ae⟩
    ·obtain ⟨gw, h2, ae⟩ := zl ae
     let Z2 : List HO := (Z1 ++ [Hq c1, Hq c1, Hq c1, Hn (iL eB h2), Hq c1, Hs (iM eB h2), Hq c1, Hq c1])
     rcases y5 ae with ⟨c2, ae⟩ | ⟨c2, ae⟩
     ·obtain ⟨iv, h3, ae⟩ := zl ae
      obtain ⟨ba, h4, ae⟩ := zl ae
      exact yB w7 hC ca ((bl.set ah.toNat w_), (ck.set ah.toNat true)) ae (Z2 ++ [Hq c2, Hn (iL eB h3), Hs (iM eB h3), Hs (iM eB h3), Hl (sM eB ck ah true), Hn (iL F7_ h4), Hs (iM F7_ h4), Hs (iM F7_ h4), Hl (sM F7_ bl ah w_)])
     ·exact yB w7 hC ca (bl, ck) ae (Z2 ++ [Hq c2])
    ·exact yB w7 hC ca (bl, ck) ae (Z1 ++ (rpN 6 (Hq c1) [qF]))
  ·obtain rfl := zj ae
   obtain rfl := hl1
   exact yB w7 hC ax (bl, ck) aa (Z0 ++ [Hq c0])
def JB : Code := (Tryz.f35.body).getD .skip
def kX : yd := spF (α := z6) (ρ := List (List Int) × List Bool) 35 (fun x => [yj x]) (fun r => .tup [zaS r.1, (eSl 1 true eB) r.2]) (fun x => jG x) [] (JL)
theorem JT (hC : zN Tryz.prog ctr) (h0M : ctr.Has ZN) : kX.Ok Tryz.prog := by
 refine zT ?_
 rintro m_ r0 aa
 try unfold jG at aa
 refine yO false [(2, none), (3, none)] JB 8 Tryz.func35 fun E hE => ?_
 obtain ⟨r_, h0, aa⟩ := zl aa
 obtain rfl := zj aa
 exact yE X0 hC hE [Hc h0M (x := (m_, 0)) h0 (loC yj m_ <| loC (eI .i64) 0 <| loN)]
def w6 : Code := (Tryz.f27.body).getD .skip
def ko : yd := spF (α := z6 × Int) (ρ := List za) 27 (fun x => [yj x.1, (eI .i64) x.2]) (fun r => (eOs 3 false uB) r) (fun x => kI x.1 x.2) [] (VT)
abbrev US (out : List za) : List (Nat × T) := [(7, .own (eOs 3 false uB out))]
abbrev UR (m_ : z6) (goal : Int) (r_ : List (List Int) × List Bool) (s_ : Int) (a7 : List za) : List (Nat × T) := [(1, .d (I goal)), (2, .own (.box (yj m_))), (6, .d (eSl 1 true eB r_.2)), (7, .own (eOs 3 false uB a7)), (8, .d (I s_))]
abbrev UQ (m_ : z6) (goal : Int) (r_ : List (List Int) × List Bool) (s_ : Int) (i_ : Int) (ct : List za) : List (Nat × T) := [(1, .d (I goal)), (2, .own (.box (yj m_))), (6, .d (eSl 1 true eB r_.2)), (7, .own (eOs 3 false uB ct)), (8, .d (I s_)), (9, .d (I i_))]
abbrev UO (m_ : z6) (goal : Int) (r_ : List (List Int) × List Bool) (s_ : Int) (i_ : Int) (aj : ze) (k_ : Int) (gp : List za) : List (Nat × T) := [(1, .d (I goal)), (2, .own (.box (yj m_))), (6, .d (eSl 1 true eB r_.2)), (7, .own (eOs 3 false uB gp)), (8, .d (I s_)), (9, .d (I i_)), (10, .d (I aj.To)), (11, .d (I k_)), (68, .d (I aj.To)), (69, .d (B (aj.To != (-1)))), (72, .d (I goal)), (73, .d (B (goal == 2)))]
abbrev UL (m_ : z6) (goal : Int) (r_ : List (List Int) × List Bool) (s_ : Int) (i_ : Int) (aj : ze) (cp : List za) (k_ : Int) : List (Nat × T) := [(1, .d (I goal)), (2, .own (.box (yj m_))), (6, .d (eSl 1 true eB r_.2)), (7, .own (eOs 3 false uB cp)), (8, .d (I s_)), (9, .d (I i_)), (10, .d (I aj.To)), (11, .d (I k_))]
abbrev UP (m_ : z6) (goal : Int) (r_ : List (List Int) × List Bool) (s_ : Int) (i_ : Int) (aj : ze) (da : List za) : List (Nat × T) := [(1, .d (I goal)), (2, .own (.box (yj m_))), (6, .d (eSl 1 true eB r_.2)), (7, .own (eOs 3 false uB da)), (8, .d (I s_)), (9, .d (I i_)), (10, .d (I aj.To))]
abbrev UM (m_ : z6) (goal : Int) (r_ : List (List Int) × List Bool) (s_ : Int) (bp : List za) (i_ : Int) : List (Nat × T) := [(1, .d (I goal)), (2, .own (.box (yj m_))), (6, .d (eSl 1 true eB r_.2)), (7, .own (eOs 3 false uB bp)), (8, .d (I s_)), (9, .d (I i_))]
abbrev UN (m_ : z6) (goal : Int) (r_ : List (List Int) × List Bool) (ak : List za) (s_ : Int) : List (Nat × T) := [(1, .d (I goal)), (2, .own (.box (yj m_))), (6, .d (eSl 1 true eB r_.2)), (7, .own (eOs 3 false uB ak)), (8, .d (I s_))]
theorem z0F (hC : zN Tryz.prog ctr) (h0N : ctr.Has kX) : ko.Ok Tryz.prog := by
 refine zT ?_
 rintro ⟨m_, goal⟩ r0 aa
 try unfold kI at aa
 refine yO true [(4, none)] w6 95 Tryz.func27 fun E hE => ?_
 obtain ⟨r_, h0, aa⟩ := zl aa
 refine yJ X0 hC w6 [1,1,1] [] [7] (fun z : List za => kq z = some r0) (fun z => US z) [(1, .d (I goal)), (2, .own (.box (yj m_))), (6, .d (eSl 1 true eB r_.2)), (7, .own (eOs 3 true uB []))] [Hc h0N (x := m_) h0 (loC yj m_ <| loN), Hh (.cut 1)] ?_ fun J1 ax => ?_
 ·rintro out aa
  unfold kq at aa
  obtain rfl := zj aa
  exact yE X0 hC hE []
 ·obtain ⟨t2, ht2, aa⟩ := zl aa
  refine yLx X0 hC w6 [1,1,1,2,1,0] [J1] (fun s => uf m_ goal r_ s.1 s.2) (fun x => UN m_ goal r_ x.1 x.2) (([] : List za), 0) ht2 [(1, .d (I goal)), (2, .own (.box (yj m_))), (6, .d (eSl 1 true eB r_.2)), (7, .own (eOs 3 true uB [])), (8, .d (I 0))] inferInstance [] ?_
  rintro ⟨ak, s_⟩ m2 bg ae hl1 J2 a6
  try unfold uf at ae
  let Z0 : List HO := [Ha (lnM vO m_.Rows)]
  rcases y5 ae with ⟨c0, ae⟩ | ⟨c0, ae⟩
  ·refine yJ X0 hC w6 [1,1,1,2,1,0,0,1] [J1, J2] [1,2,6,7,8] (fun z : List za => wK s_ z = some bg) (fun z => UR m_ goal r_ s_ z) [(1, .d (I goal)), (2, .own (.box (yj m_))), (6, .d (eSl 1 true eB r_.2)), (7, .own (eOs 3 false uB ak)), (8, .d (I s_))] (Z0 ++ [Hq c0, Hh (.cut 0)]) ?_ fun J3 ca => ?_
   ·rintro a7 ae
    unfold wK at ae
    obtain rfl := zj ae
    exact yB X0 hC a6 (a7, w64 (s_ + 1)) hl1 []
   ·obtain ⟨u_, h1, ae⟩ := zl ae
    rcases y5 ae with ⟨c1, ae⟩ | ⟨c1, ae⟩
    ·exact yB X0 hC ca ak ae [Hi eB h1, Hq c1]
    ·rcases y5 ae with ⟨c2, ae⟩ | ⟨c2, ae⟩
     ·obtain ⟨g0, ae⟩ := gdE ae
      exact yB X0 hC ca (ak ++ ([(za.mk s_ (-1) (-1))] : List za)) ae [Hi eB h1, Hq c1, Hq c2, Hq (dM uB ([(za.mk s_ (-1) (-1))] : List za)), Hn (dM uB ([(za.mk s_ (-1) (-1))] : List za)), Hn (aL uB uB g0), Hl (aM uB ak ([(za.mk s_ (-1) (-1))] : List za))]
     ·obtain ⟨t4, ht4, ae⟩ := zl ae
      refine yL X0 hC w6 [1,1,1,2,1,0,0,1,2,0,1,1,1,0] [J1, J2, J3] (fun s => ue m_ goal s_ s.1 s.2) (fun x => UM m_ goal r_ s_ x.1 x.2) (ak,0) ht4  [Hi eB h1, Hq c1, Hq c2] ?_
      rintro ⟨bp, i_⟩ m4 fg ai hl2 J4 d0
      try unfold ue at ai
      rcases y5 ai with ⟨c3, ai⟩ | ⟨c3, ai⟩
      ·refine yJ X0 hC w6 [1,1,1,2,1,0,0,1,2,0,1,1,1,0,0,1] [J1, J2, J3, J4] [1,2,6,7,8,9] (fun z : List za => qB i_ z = some fg) (fun z => UQ m_ goal r_ s_ i_ z) [(1, .d (I goal)), (2, .own (.box (yj m_))), (6, .d (eSl 1 true eB r_.2)), (7, .own (eOs 3 false uB bp)), (8, .d (I s_)), (9, .d (I i_))] [Hq c3, Hh (.cut 0)] ?_ fun J5 dn => ?_
       ·rintro ct ai
        unfold qB at ai
        obtain rfl := zj ai
        exact yB X0 hC d0 (ct, w64 (i_ + 1)) hl2 []
       ·obtain ⟨ar, h2, ai⟩ := zl ai
        obtain ⟨aj, h3, ai⟩ := zl ai
        refine yJ X0 hC w6 [1,1,1,2,1,0,0,1,2,0,1,1,1,0,0,1,2,0,1] [J1, J2, J3, J4, J5] [1,2,6,7,8,9,10] (fun z : List za => wJ m_ goal s_ i_ aj z = some fg) (fun z => UP m_ goal r_ s_ i_ aj z) [(1, .d (I goal)), (2, .own (.box (yj m_))), (6, .d (eSl 1 true eB r_.2)), (7, .own (eOs 3 false uB bp)), (8, .d (I s_)), (9, .d (I i_)), (10, .d (I aj.To))] [Hi vO h2, Hi up h3, Hh (.cut 0)] ?_ fun J6 ez => ?_
        ·rintro da ai
         unfold wJ at ai
         obtain ⟨t7, ht7, ai⟩ := zl ai
         refine yL X0 hC w6 [1,1,1,2,1,0,0,1,2,0,1,1,1,0,0,1,2,0,1,1,1,0] [J1, J2, J3, J4, J5] (fun s => vt m_ goal s_ i_ aj s.1 s.2) (fun x => UL m_ goal r_ s_ i_ aj x.1 x.2) (da,0) ht7  [] ?_
         rintro ⟨cp, k_⟩ m7 ir bn hl3 J7 fz
         try unfold vt at bn
         rcases y5 bn with ⟨c4, bn⟩ | ⟨c4, bn⟩
         ·rcases y5 bn with ⟨c5, bn⟩ | ⟨c5, bn⟩
          ·let Z1 : List HO := [Hq c4, Hq c4, Hq c4, Hq c5, Hq c5, Hq c5]
           rcases y5 bn with ⟨c6, bn⟩ | ⟨c6, bn⟩
           ·refine yJ X0 hC w6 [1,1,1,2,1,0,0,1,2,0,1,1,1,0,0,1,2,0,1,1,1,0,0,1] [J1, J2, J3, J4, J5, J7] [1,2,6,7,8,9,10,11,68,69,72,73] (fun z : List za => ug k_ z = some ir) (fun z => UO m_ goal r_ s_ i_ aj k_ z) [(1, .d (I goal)), (2, .own (.box (yj m_))), (6, .d (eSl 1 true eB r_.2)), (7, .own (eOs 3 false uB cp)), (8, .d (I s_)), (9, .d (I i_)), (10, .d (I aj.To)), (11, .d (I k_)), (68, .d (I aj.To)), (69, .d (B (aj.To != (-1)))), (72, .d (I goal)), (73, .d (B (goal == 2)))] (Z1 ++ [Hq c6, Hh (.cut 0)]) ?_ fun J8 hJ8 => ?_
            ·rintro gp bn
             unfold ug at bn
             obtain rfl := zj bn
             exact yB X0 hC fz (gp, w64 (k_ + 1)) hl3 []
            ·obtain ⟨br, h4, bn⟩ := zl bn
             obtain ⟨bh, h5, bn⟩ := zl bn
             let Z2 : List HO := [Hi vO h4, Hi up h5]
             rcases y5 bn with ⟨c7, bn⟩ | ⟨c7, bn⟩
             ·obtain ⟨g1, bn⟩ := gdE bn
              exact yB X0 hC hJ8 (cp ++ ([(za.mk s_ i_ k_)] : List za)) bn (Z2 ++ [Hq c7, Hq (dM uB ([(za.mk s_ i_ k_)] : List za)), Hn (dM uB ([(za.mk s_ i_ k_)] : List za)), Hn (aL uB uB g1), Hl (aM uB cp ([(za.mk s_ i_ k_)] : List za))])
             ·exact yB X0 hC hJ8 cp bn (Z2 ++ [Hq c7])
           ·obtain rfl := zj bn
            obtain rfl := hl3
            exact yB X0 hC dn cp ai (Z1 ++ [Hq c6])
          ·obtain rfl := zj bn
           obtain rfl := hl3
           exact yB X0 hC dn cp ai [Hq c4, Hq c4, Hq c4, Hq c5, Hq c5, Hq c5, qF]
         ·obtain rfl := zj bn
          obtain rfl := hl3
          exact yB X0 hC dn cp ai (Hq c4 :: Hq c4 :: Hq c4 :: (rpN 4 qF []))
        ·rcases y5 ai with ⟨c8, ai⟩ | ⟨c8, ai⟩
         ·rcases y5 ai with ⟨c9, ai⟩ | ⟨c9, ai⟩
          ·obtain ⟨g2, ai⟩ := gdE ai
           exact yB X0 hC ez (bp ++ ([(za.mk s_ i_ (-1))] : List za)) ai [Hq c8, Hq c8, Hq c8, Hq c9, Hq (dM uB ([(za.mk s_ i_ (-1))] : List za)), Hn (dM uB ([(za.mk s_ i_ (-1))] : List za)), Hn (aL uB uB g2), Hl (aM uB bp ([(za.mk s_ i_ (-1))] : List za))]
          ·exact yB X0 hC ez bp ai [Hq c8, Hq c8, Hq c8, Hq c9]
         ·exact yB X0 hC ez bp ai [Hq c8, Hq c8, Hq c8, qF]
      ·obtain rfl := zj ai
       obtain rfl := hl2
       exact yB X0 hC ca bp ae [Hq c3]
  ·obtain rfl := zj ae
   obtain rfl := hl1
   exact yB X0 hC ax ak aa (Z0 ++ [Hq c0])
def qP : Code := (Tryz.f53.body).getD .skip
def kW : yd := spF (α := z6 × List Int × za) (ρ := Bool) 53 (fun x => [yj x.1, F7_ x.2.1, uB x.2.2]) (fun r => eB r) (fun x => jD x.1 x.2.1 x.2.2) [] (z6h)
abbrev Vr (m_ : z6) (w_ : List Int) (x_ : za) (bz : Int) (k_ : Int) (ar : List ze) (bc : Int) (aj : ze) (bh : ze) : List (Nat × T) := [(1, .d (eSl 1 false (eI .i64) w_)), (3, .own (.box (yj m_))), (5, .own (.box (uB x_))), (8, .d (I k_)), (9, .d (I bh.To)), (27, .d (eSl 1 false vO m_.Rows)), (28, .d (I bz)), (29, .d (.sptr (eSl 2 false up ar))), (30, .d (eSl 2 false up ar)), (31, .d (eSl 1 false (eI .i64) w_)), (32, .d (I k_)), (33, .d (.sptr (I bc))), (34, .d (I bc)), (35, .d (.sptr (up aj))), (36, .d (.sptr (I aj.To))), (37, .d (I aj.To)), (38, .d (B (aj.To == (-1))))]
abbrev Vs (m_ : z6) (w_ : List Int) (x_ : za) (bz : Int) (k_ : Int) : List (Nat × T) := [(1, .d (eSl 1 false (eI .i64) w_)), (3, .own (.box (yj m_))), (5, .own (.box (uB x_))), (7, .d (I bz)), (8, .d (I k_))]
abbrev Vq (m_ : z6) (w_ : List Int) (x_ : za) (bz : Int) (k_ : Int) : List (Nat × T) := [(1, .d (eSl 1 false (eI .i64) w_)), (3, .own (.box (yj m_))), (5, .own (.box (uB x_))), (7, .d (I bz)), (8, .d (I k_))]
theorem JS (hC : zN Tryz.prog ctr) : kW.Ok Tryz.prog := by
 refine zT ?_
 rintro ⟨m_, w_, x_⟩ r0 aa
 try unfold jD at aa
 refine yO true [(6, none)] qP 101 Tryz.func53 fun E hE => ?_
 obtain ⟨t1, ht1, aa⟩ := zl aa
 refine yL X0 hC qP [1,1,1,0] [] (fun s => vZ m_ w_ x_ s.1 s.2) (fun x => Vq m_ w_ x_ x.1 x.2) (0,0) ht1  [] ?_
 rintro ⟨bz, k_⟩ m1 bg ae hl1 J1 ax
 try unfold vZ at ae
 refine yJ X0 hC qP [1,1,1,0,0,0,0] [J1] [1,3,5,7,8] (fun z : Unit => va m_ w_ x_ bz k_ = some bg) (fun z => Vs m_ w_ x_ bz k_) [(1, .d (eSl 1 false (eI .i64) w_)), (3, .own (.box (yj m_))), (5, .own (.box (uB x_))), (7, .d (I bz)), (8, .d (I k_))] [Hh (.cut 1)] ?_ fun J2 a6 => ?_
 ·rintro ⟨⟩ ae
  unfold va at ae
  rcases y5 ae with ⟨c0, ae⟩ | ⟨c0, ae⟩
  ·obtain rfl := zj ae
   obtain rfl := hl1
   obtain rfl := zj aa
   exact yE X0 hC hE (Ha (lnM (eI .i64) w_) :: (rpN 14 (Hq c0) [qT]))
  ·obtain ⟨ar, h0, ae⟩ := zl ae
   obtain ⟨bc, h1, ae⟩ := zl ae
   obtain ⟨aj, h2, ae⟩ := zl ae
   let Z0 : List HO := (Ha (lnM (eI .i64) w_) :: (rpN 4 (Hq c0) (Hi vO h0 :: (rpN 4 (Hq c0) (Hi (eI .i64) h1 :: Hq c0 :: Hq c0 :: Hi up h2 :: (rpN 4 (Hq c0) []))))))
   rcases y5 ae with ⟨c1, ae⟩ | ⟨c1, ae⟩
   ·obtain rfl := zj ae
    obtain rfl := hl1
    obtain rfl := zj aa
    exact yE X0 hC hE (Z0 ++ [Hq c1])
   ·obtain ⟨br, h3, ae⟩ := zl ae
    obtain ⟨ik, h4, ae⟩ := zl ae
    obtain ⟨bh, h5, ae⟩ := zl ae
    refine yJ X0 hC qP [1,1,1,0,0,0,0,1,1,1] [J1] [1,3,5,8,9,27,28,29,30,31,32,33,34,35,36,37,38] (fun z : Unit => yW k_ bh = some bg) (fun z => Vr m_ w_ x_ bz k_ ar bc aj bh) [(1, .d (eSl 1 false (eI .i64) w_)), (3, .own (.box (yj m_))), (5, .own (.box (uB x_))), (7, .d (I bz)), (8, .d (I k_)), (9, .d (I bh.To)), (27, .d (eSl 1 false vO m_.Rows)), (28, .d (I bz)), (29, .d (.sptr (eSl 2 false up ar))), (30, .d (eSl 2 false up ar)), (31, .d (eSl 1 false (eI .i64) w_)), (32, .d (I k_)), (33, .d (.sptr (I bc))), (34, .d (I bc)), (35, .d (.sptr (up aj))), (36, .d (.sptr (I aj.To))), (37, .d (I aj.To)), (38, .d (B (aj.To == (-1))))] (Z0 ++ [Hq c1, Hi vO h3, Hi (eI .i64) h4, Hi up h5, Hh (.cut 0)]) ?_ fun J3 ca => ?_
    ·rintro ⟨⟩ ae
     unfold yW at ae
     obtain rfl := zj ae
     exact yB X0 hC ax (bh.To, w64 (k_ + 1)) hl1 []
    ·rcases y5 ae with ⟨c2, ae⟩ | ⟨c2, ae⟩
     ·obtain ⟨il, h6, ae⟩ := zl ae
      let Z1 : List HO := (rpN 5 (Hq c2) [Hi (eI .i64) h6, Hq c2, Hq c2, Hq c2])
      rcases y5 ae with ⟨c3, ae⟩ | ⟨c3, ae⟩
      ·let Z2 : List HO := (Z1 ++ (rpN 4 (Hq c3) []))
       rcases y5 ae with ⟨c4, ae⟩ | ⟨c4, ae⟩
       ·obtain rfl := zj ae
        obtain rfl := hl1
        obtain rfl := zj aa
        exact yE X0 hC hE (Z2 ++ (rpN 9 (Hq c4) [Hq c3, Hq c4, Hq c3, qT]))
       ·let Z3 : List HO := (Z2 ++ (rpN 4 (Hq c4) [Ha (lnM (eI .i64) w_), Hq c4, Hq c4]))
        rcases y5 ae with ⟨c5, ae⟩ | ⟨c5, ae⟩
        ·obtain ⟨im, h7, ae⟩ := zl ae
         let Z4 : List HO := (Z3 ++ (rpN 4 (Hq c5) (Hi (eI .i64) h7 :: (rpN 4 (Hq c5) [Hq c4, Hq c5, Hq c4]))))
         rcases y5 ae with ⟨c6, ae⟩ | ⟨c6, ae⟩
         ·obtain ⟨gz, h8, ae⟩ := zl ae
          obtain ⟨gq, h9, ae⟩ := zl ae
          let Z5 : List HO := (Z4 ++ (rpN 4 (Hq c6) (Hi vO h8 :: (rpN 4 (Hq c6) [Hi up h9, Hq c6, Hq c6, Hq c6, Hq c4, Hq c6, Hq c3, Hq c4, Hq c3]))))
          rcases y5 ae with ⟨c7, ae⟩ | ⟨c7, ae⟩
          ·obtain rfl := zj ae
           obtain rfl := hl1
           obtain rfl := zj aa
           exact yE X0 hC hE (Z5 ++ [Hq c7])
          ·exact yB X0 hC ca () ae (Z5 ++ [Hq c7])
         ·exact yB X0 hC ca () ae (Z4 ++ (rpN 11 (Hq c6) [Hq c4, Hq c6, Hq c3, Hq c4, Hq c3, qF]))
        ·exact yB X0 hC ca () ae (Z3 ++ (rpN 8 (Hq c5) (Hq c4 :: Hq c5 :: Hq c4 :: (rpN 11 qF [Hq c4, qF, Hq c3, Hq c4, Hq c3, qF]))))
      ·exact yB X0 hC ca () ae (Z1 ++ (rpN 6 (Hq c3) [qF]))
     ·exact yB X0 hC ca () ae (rpN 8 (Hq c2) (rpN 7 qF []))
 ·rcases y5 ae with ⟨c8, ae⟩ | ⟨c8, ae⟩
  ·let Z6 : List HO := (rpN 5 (Hq c8) [])
   rcases y5 ae with ⟨c9, ae⟩ | ⟨c9, ae⟩
   ·obtain rfl := zj ae
    obtain rfl := hl1
    obtain rfl := zj aa
    exact yE X0 hC hE (Z6 ++ [Hq c9])
   ·exact yB X0 hC a6 () ae (Z6 ++ [Hq c9])
  ·exact yB X0 hC a6 () ae (rpN 5 (Hq c8) [qF])
def kb : Code := (Tryz.f36.body).getD .skip
def jU : yd := spF (α := z6 × List (List Int) × za) (ρ := Bool) 36 (fun x => [yj x.1, ZZ x.2.1, uB x.2.2]) (fun r => eB r) (fun x => qC x.1 x.2.1 x.2.2) [] (z6h)
abbrev WJ (x_ : za) : List (Nat × T) := [(5, .own (.box (uB x_)))]
abbrev WI (m_ : z6) (l_ : List (List Int)) (x_ : za) (i_ : Int) : List (Nat × T) := [(1, .d (eSl 1 false F7_ l_)), (3, .own (.box (yj m_))), (5, .own (.box (uB x_))), (7, .d (I i_))]
theorem Qu (hC : zN Tryz.prog ctr) (h0O : ctr.Has kW) : jU.Ok Tryz.prog := by
 refine zT ?_
 rintro ⟨m_, l_, x_⟩ r0 aa
 try unfold qC at aa
 refine yO true [(6, none)] kb 24 Tryz.func36 fun E hE => ?_
 refine yJ X0 hC kb [1] [] [5] (fun z : Unit => uM x_ = some r0) (fun z => WJ x_) [(1, .d (eSl 1 false F7_ l_)), (3, .own (.box (yj m_))), (5, .own (.box (uB x_)))] [Hh (.cut 1)] ?_ fun J1 ax => ?_
 ·rintro ⟨⟩ aa
  unfold uM at aa
  obtain rfl := zj aa
  exact yE X0 hC hE []
 ·obtain ⟨t2, ht2, aa⟩ := zl aa
  refine yL X0 hC kb [1,2,1,0] [J1] (fun s => vE m_ l_ x_ s) (fun x => WI m_ l_ x_ x) 0 ht2  [] ?_
  rintro i_ m2 bg ae hl1 J2 a6
  try unfold vE at ae
  let Z0 : List HO := [Ha (lnM F7_ l_)]
  rcases y5 ae with ⟨c0, ae⟩ | ⟨c0, ae⟩
  ·obtain ⟨ba, h0, ae⟩ := zl ae
   obtain ⟨r_, h1, ae⟩ := zl ae
   let Z1 : List HO := (Z0 ++ [Hq c0, Hi F7_ h0, Hc h0O (x := (m_, ba, x_)) h1 (loC yj m_ <| loC F7_ ba <| loC uB x_ <| loN)])
   rcases y5 ae with ⟨c1, ae⟩ | ⟨c1, ae⟩
   ·obtain rfl := zj ae
    obtain rfl := hl1
    obtain rfl := zj aa
    exact yE X0 hC hE (Z1 ++ [Hq c1])
   ·obtain rfl := zj ae
    exact yB X0 hC a6 (w64 (i_ + 1)) hl1 (Z1 ++ [Hq c1])
  ·obtain rfl := zj ae
   obtain rfl := hl1
   exact yB X0 hC ax () aa (Z0 ++ [Hq c0])
def uR : Code := (Tryz.f14.body).getD .skip
def jT : yd := spF (α := z6 × List (List Int) × Int) (ρ := List za) 14 (fun x => [yj x.1, ZZ x.2.1, (eI .i64) x.2.2]) (fun r => (eOs 3 false uB) r) (fun x => qA x.1 x.2.1 x.2.2) [] (z6h)
abbrev WH (out : List za) : List (Nat × T) := [(8, .own (eOs 3 false uB out))]
abbrev WG (m_ : z6) (l_ : List (List Int)) (r_ : List za) (i_ : Int) (a7 : List za) : List (Nat × T) := [(1, .d (eSl 1 false F7_ l_)), (3, .own (.box (yj m_))), (7, .own (eOs 3 false uB r_)), (8, .own (eOs 3 false uB a7)), (9, .d (I i_))]
abbrev WF (m_ : z6) (l_ : List (List Int)) (r_ : List za) (ak : List za) (i_ : Int) : List (Nat × T) := [(1, .d (eSl 1 false F7_ l_)), (3, .own (.box (yj m_))), (7, .own (eOs 3 false uB r_)), (8, .own (eOs 3 false uB ak)), (9, .d (I i_))]
theorem Qt (hC : zN Tryz.prog ctr) (h0h : ctr.Has ko) (h0P : ctr.Has jU) : jT.Ok Tryz.prog := by
 refine zT ?_
 rintro ⟨m_, l_, goal⟩ r0 aa
 try unfold qA at aa
 refine yO true [(6, none)] uR 35 Tryz.func14 fun E hE => ?_
 obtain ⟨r_, h0, aa⟩ := zl aa
 refine yJ X0 hC uR [1,1,1] [] [8] (fun z : List za => uL z = some r0) (fun z => WH z) [(1, .d (eSl 1 false F7_ l_)), (3, .own (.box (yj m_))), (7, .own (eOs 3 false uB r_)), (8, .own (eOs 3 true uB []))] [Hc h0h (x := (m_, goal)) h0 (loC yj m_ <| loC (eI .i64) goal <| loN), Hh (.cut 1)] ?_ fun J1 ax => ?_
 ·rintro out aa
  unfold uL at aa
  obtain rfl := zj aa
  exact yE X0 hC hE []
 ·obtain ⟨t2, ht2, aa⟩ := zl aa
  refine yLx X0 hC uR [1,1,1,2,1,0] [J1] (fun s => wy m_ l_ r_ s.1 s.2) (fun x => WF m_ l_ r_ x.1 x.2) (([] : List za), 0) ht2 [(1, .d (eSl 1 false F7_ l_)), (3, .own (.box (yj m_))), (7, .own (eOs 3 false uB r_)), (8, .own (eOs 3 true uB [])), (9, .d (I 0))] inferInstance [] ?_
  rintro ⟨ak, i_⟩ m2 bg ae hl1 J2 a6
  try unfold wy at ae
  let Z0 : List HO := [Ha (lnM uB r_)]
  rcases y5 ae with ⟨c0, ae⟩ | ⟨c0, ae⟩
  ·refine yJ X0 hC uR [1,1,1,2,1,0,0,1] [J1, J2] [1,3,7,8,9] (fun z : List za => wz i_ z = some bg) (fun z => WG m_ l_ r_ i_ z) [(1, .d (eSl 1 false F7_ l_)), (3, .own (.box (yj m_))), (7, .own (eOs 3 false uB r_)), (8, .own (eOs 3 false uB ak)), (9, .d (I i_))] (Z0 ++ [Hq c0, Hh (.cut 0)]) ?_ fun J3 ca => ?_
   ·rintro a7 ae
    unfold wz at ae
    obtain rfl := zj ae
    exact yB X0 hC a6 (a7, w64 (i_ + 1)) hl1 []
   ·obtain ⟨bv, h1, ae⟩ := zl ae
    obtain ⟨ah, h2, ae⟩ := zl ae
    let Z1 : List HO := [Hn (iL uB h1), Hs (iM uB h1), Hc h0P (x := (m_, l_, bv)) h2 (loC yj m_ <| loC ZZ l_ <| loC uB bv <| loN)]
    rcases y5 ae with ⟨c1, ae⟩ | ⟨c1, ae⟩
    ·obtain ⟨fh, h3, ae⟩ := zl ae
     obtain ⟨g0, ae⟩ := gdE ae
     exact yB X0 hC ca (ak ++ ([fh] : List za)) ae (Z1 ++ [Hq c1, Hn (iL uB h3), Hs (iM uB h3), Hq (dM uB ([fh] : List za)), Hn (dM uB ([fh] : List za)), Hn (aL uB uB g0), Hl (aM uB ak ([fh] : List za))])
    ·exact yB X0 hC ca ak ae (Z1 ++ [Hq c1])
  ·obtain rfl := zj ae
   obtain rfl := hl1
   exact yB X0 hC ax ak aa (Z0 ++ [Hq c0])
def WB : Code := (Tryz.f9.body).getD .skip
def Wn : yd := spF (α := z6 × List (List Int)) (ρ := zJ) 9 (fun x => [yj x.1, ZZ x.2]) (fun r => zdM r) (fun x => V9 x.1 x.2) [] (VT)
abbrev K4 (n_ : ua (yp Int)) : List (Nat × T) := [(4, .own (.box (.agg [.agg [I 0, I 0], .agg [I 0, I 0], .agg [I 0, I 0]]))), (5, .own (.box (F9_ n_)))]
abbrev K3 (m_ : z6) (l_ : List (List Int)) (cr : ua (yp Int)) (goal : Int) : List (Nat × T) := [(1, .d (eSl 1 false F7_ l_)), (2, .own (.box (yj m_))), (4, .own (.box (.agg [.agg [I 0, I 0], .agg [I 0, I 0], .agg [I 0, I 0]]))), (5, .own (.box (F9_ cr))), (6, .d (I goal))]
theorem z3z (hC : zN Tryz.prog ctr) (h0h : ctr.Has ko) (h0Q : ctr.Has jT) : Wn.Ok Tryz.prog := by
 refine zT ?_
 rintro ⟨m_, l_⟩ r0 aa
 try unfold V9 at aa
 refine yO false [(4, some 36)] WB 38 Tryz.func9 fun E hE => ?_
 refine yJ X0 hC WB [1,1] [] [4,5] (fun z : ua (yp Int) => Wr z = some r0) (fun z => K4 z) [(1, .d (eSl 1 false F7_ l_)), (2, .own (.box (yj m_))), (4, .own (.box (.agg [.agg [I 0, I 0], .agg [I 0, I 0], .agg [I 0, I 0]]))), (5, .own (.box (.agg [.agg [I 0, I 0], .agg [I 0, I 0], .agg [I 0, I 0]])))] [Hh (.cut 2)] ?_ fun J1 ax => ?_
 ·rintro n_ aa
  unfold Wr at aa
  obtain rfl := zj aa
  exact yE X0 hC hE [Hn (⟨rfl, by decide⟩ : true = true ∧ 0 < 3), Hn (⟨rfl, by decide⟩ : true = true ∧ 1 < 3), Hn (⟨rfl, by decide⟩ : true = true ∧ 2 < 3)]
 ·obtain ⟨t2, ht2, aa⟩ := zl aa
  refine yL X0 hC WB [1,1,2,1,0] [J1] (fun s => u3 m_ l_ s.1 s.2) (fun x => K3 m_ l_ x.1 x.2) ((ua.mk (yp.mk 0 0) (yp.mk 0 0) (yp.mk 0 0)), 0) ht2  [] ?_
  rintro ⟨cr, goal⟩ m2 bg ae hl1 J2 a6
  try unfold u3 at ae
  rcases y5 ae with ⟨c0, ae⟩ | ⟨c0, ae⟩
  ·obtain ⟨r_, h0, ae⟩ := zl ae
   obtain ⟨cell, h1, ae⟩ := zl ae
   obtain ⟨arr, h2, ae⟩ := zl ae
   replace h2 := zj h2
   obtain ⟨d8, h3, ae⟩ := zl ae
   obtain ⟨ah, h4, ae⟩ := zl ae
   obtain ⟨dm, h5, ae⟩ := zl ae
   obtain ⟨arr1, h6, ae⟩ := zl ae
   replace h6 := zj h6
   obtain rfl := zj ae
   exact yB X0 hC a6 (arr1, w64 (goal + 1)) hl1 [Hq c0, Hc h0h (x := (m_, goal)) h0 (loC yj m_ <| loC (eI .i64) goal <| loN), Ha (lnM uB r_), Hn (⟨arJ (by kernel_rfl) (i0 h1), (iL F0_ h1).2⟩ : Vm xX 73 ((ua.toL cr).map F0_) goal = true ∧ goal.toNat < ((ua.toL cr).map F0_).length), Hh (.op 1), Hh (.f), Hs (iM F0_ h1), Hn (⟨rfl, by decide⟩ : true = true ∧ 1 < 2), Hh (.op 0), Hh (.f), Hs (iM F0_ h1), Hh (.f), Hx (.a (I cell.e1)) (rfl : some (I cell.e1 : A) = some (I cell.e1)), Hh (.f), Hs (iM F0_ h1), Hh (.f), Hx (.a (I cell.e1)) (rfl : some (I cell.e1 : A) = some (I cell.e1)), Hx (.l [I cell.e0, I ((r_.length : Nat) : Int)]) (rfl : ([I cell.e0, I ((r_.length : Nat) : Int)] : List A) = [I cell.e0, I ((r_.length : Nat) : Int)]), Hx (.l ((ua.toL arr).map F0_)) ((ua.setL F0_ cr goal (yp.mk cell.e0 ((r_.length : Nat) : Int))).trans (congrArg (fun q => (ua.toL q).map F0_) h2)), Hn (⟨arJ (by kernel_rfl) (i0 h3), (iL F0_ h3).2⟩ : Vm xX 73 ((ua.toL arr).map F0_) goal = true ∧ goal.toNat < ((ua.toL arr).map F0_).length), Hh (.op 3), Hh (.f), Hs (iM F0_ h3), Hn (⟨rfl, by decide⟩ : true = true ∧ 1 < 2), Hh (.op 0), Hh (.f), Hs (iM F0_ h3), Hh (.f), Hx (.a (I d8.e1)) (rfl : some (I d8.e1 : A) = some (I d8.e1)), Hc h0Q (x := (m_, l_, goal)) h4 (loC yj m_ <| loC ZZ l_ <| loC (eI .i64) goal <| loN), Ha (lnM uB ah), Hn (⟨arJ (by kernel_rfl) (i0 h5), (iL F0_ h5).2⟩ : Vm xX 73 ((ua.toL arr).map F0_) goal = true ∧ goal.toNat < ((ua.toL arr).map F0_).length), Hh (.op 2), Hh (.f), Hs (iM F0_ h5), Hn (⟨rfl, by decide⟩ : true = true ∧ 0 < 2), Hh (.op 0), Hh (.f), Hs (iM F0_ h5), Hh (.f), Hx (.a (I dm.e0)) (rfl : some (I dm.e0 : A) = some (I dm.e0)), Hh (.f), Hs (iM F0_ h5), Hh (.f), Hx (.a (I dm.e0)) (rfl : some (I dm.e0 : A) = some (I dm.e0)), Hx (.l [I (w64 (d8.e1 - ((ah.length : Nat) : Int))), I dm.e1]) (rfl : ([I (w64 (d8.e1 - ((ah.length : Nat) : Int))), I dm.e1] : List A) = [I (w64 (d8.e1 - ((ah.length : Nat) : Int))), I dm.e1]), Hx (.l ((ua.toL arr1).map F0_)) ((ua.setL F0_ arr goal (yp.mk (w64 (d8.e1 - ((ah.length : Nat) : Int))) dm.e1)).trans (congrArg (fun q => (ua.toL q).map F0_) h6))]
  ·obtain rfl := zj ae
   obtain rfl := hl1
   exact yB X0 hC ax cr aa [Hq c0]
def JC : Code := (Tryz.f28.body).getD .skip
def kY : yd := spF (α := Unit) (ρ := z6) 28 (fun x => []) (fun r => zaR r) (fun x => XE) [] (fun _ _ _ => rfl)
theorem JU (hC : zN Tryz.prog ctr) : kY.Ok Tryz.prog := by
 refine zT ?_
 rintro ⟨⟩ r0 aa
 try unfold XE at aa
 refine yO false [(0, some 30)] JC 9 Tryz.func28 fun E hE => ?_
 obtain rfl := zj aa
 exact yE X0 hC hE [Hm (shM (eOs 2 true up) zgM ([[(ze.mk 1 0), (ze.mk 0 0)], [(ze.mk 0 1), (ze.mk 1 0)]]))]
def Vk : Code := (Tryz.f46.body).getD .skip
theorem VA (hC : zN Tryz.prog ctr) : ∀ (x0 : Int) (x_ : zh) (r0 : Bool), Zl x0 x_ = some r0 → ∀ us : List Value, us.length = 3 → u9 Tryz.prog (.fn 46 [.sptr (I x0)]) ([] ++ .agg (us.map .atom) :: []) (X8 us [zq (eI .i64) eB x_.states_, zq F0_ eB x_.edges_, zq zG eB x_.pairs_]) (B r0) ([zq (eI .i64) eB x_.states_, zq F0_ eB x_.edges_, zq zG eB x_.pairs_].map fun e => .opq (y8 e)) := by
 intro x0 x_ r0 aa us hus
 obtain ⟨u0, u1, u2, rfl⟩ := zaN hus
 refine XX (tt := xX) (nt := 8) (body := Vk) (B := 2) [3] (xl := []) (xr := []) (caps := [.sptr (I x0)]) (es := [zq (eI .i64) eB x_.states_, zq F0_ eB x_.edges_, zq zG eB x_.pairs_]) (es' := [zq (eI .i64) eB x_.states_, zq F0_ eB x_.edges_, zq zG eB x_.pairs_]) (us := [u0, u1, u2]) (r := B r0) Tryz.func46 rfl (by kernel_rfl) rfl rfl (by decide) (by show (2 : Nat) ≤ 8; decide) rfl rfl (.inr ⟨_, rfl⟩) fun E hE => ?_
 try unfold Zl at aa
 obtain ⟨val, h0, aa⟩ := zl aa
 replace h0 := zj h0
 obtain rfl := zj aa
 exact yF ((z48 z7d 7 (Zc u0 (zq (eI .i64) eB x_.states_))).or X0) hC .ret [(2, .own (.box (.agg [.opq (wW u0 (zq (eI .i64) eB x_.states_)), .opq (wW u1 (zq F0_ eB x_.edges_)), .opq (wW u2 (zq zG eB x_.pairs_))]))), (3, .d (B val))] [Hn (⟨rfl, rfl, Jt (fun _ => rfl) x_.states_⟩ : A.opq (wW u0 (zq (eI .i64) eB x_.states_)) = A.opq (wW u0 (zq (eI .i64) eB x_.states_)) ∧ (Jf .i64) ((eI .i64) x0) = true ∧ ∀ p ∈ zq (eI .i64) eB x_.states_, (Jf .i64) p.1 = true), Hx (.a (eB val)) ((zeG (f := (eI .i64)) (g := eB) (z0 := false) (z := .atom (.bool false)) rfl x0 x_.states_).trans (congrArg eB h0))] fun st0 h0 => hE _ st0 (.inr rfl) (Jd h0 rfl rfl) (z4W (zci h0 rfl rfl))
def Vj : Code := (Tryz.f47.body).getD .skip
theorem Vz (hC : zN Tryz.prog ctr) : ∀ (x0 : Int) (x1 : Int) (x_ : zh) (r0 : Bool), Zk x0 x1 x_ = some r0 → ∀ us : List Value, us.length = 3 → u9 Tryz.prog (.fn 47 [.sptr (I x0), .sptr (I x1)]) ([] ++ .agg (us.map .atom) :: []) (X8 us [zq (eI .i64) eB x_.states_, zq F0_ eB x_.edges_, zq zG eB x_.pairs_]) (B r0) ([zq (eI .i64) eB x_.states_, zq F0_ eB x_.edges_, zq zG eB x_.pairs_].map fun e => .opq (y8 e)) := by
 intro x0 x1 x_ r0 aa us hus
 obtain ⟨u0, u1, u2, rfl⟩ := zaN hus
 refine XX (tt := xX) (nt := 11) (body := Vj) (B := 3) [4] (xl := []) (xr := []) (caps := [.sptr (I x0), .sptr (I x1)]) (es := [zq (eI .i64) eB x_.states_, zq F0_ eB x_.edges_, zq zG eB x_.pairs_]) (es' := [zq (eI .i64) eB x_.states_, zq F0_ eB x_.edges_, zq zG eB x_.pairs_]) (us := [u0, u1, u2]) (r := B r0) Tryz.func47 rfl (by kernel_rfl) rfl rfl (by decide) (by show (3 : Nat) ≤ 11; decide) rfl rfl (.inr ⟨_, rfl⟩) fun E hE => ?_
 try unfold Zk at aa
 obtain ⟨val, h0, aa⟩ := zl aa
 replace h0 := zj h0
 obtain rfl := zj aa
 exact yF ((z48 za4 10 (Zc u1 (zq F0_ eB x_.edges_))).or X0) hC .ret [(3, .own (.box (.agg [.opq (wW u0 (zq (eI .i64) eB x_.states_)), .opq (wW u1 (zq F0_ eB x_.edges_)), .opq (wW u2 (zq zG eB x_.pairs_))]))), (4, .d (B val))] [Hn (⟨rfl, rfl, Jt (fun _ => rfl) x_.edges_⟩ : A.opq (wW u1 (zq F0_ eB x_.edges_)) = A.opq (wW u1 (zq F0_ eB x_.edges_)) ∧ (Vb [.i64, .i64]) (F0_ (yp.mk x0 x1)) = true ∧ ∀ p ∈ zq F0_ eB x_.edges_, (Vb [.i64, .i64]) p.1 = true), Hx (.a (eB val)) ((zeG (f := F0_) (g := eB) (z0 := false) (z := .atom (.bool false)) rfl (yp.mk x0 x1) x_.edges_).trans (congrArg eB h0))] fun st0 h0 => hE _ st0 (.inr rfl) (Jd h0 rfl rfl) (z4W (zci h0 rfl rfl))
def Vi : Code := (Tryz.f48.body).getD .skip
theorem Vy (hC : zN Tryz.prog ctr) : ∀ (x0 : z8) (x_ : zh) (r0 : Bool), Zj x0 x_ = some r0 → ∀ us : List Value, us.length = 3 → u9 Tryz.prog (.fn 48 [.sptr (.agg [I x0.State, I x0.Input, I x0.Next])]) ([] ++ .agg (us.map .atom) :: []) (X8 us [zq (eI .i64) eB x_.states_, zq F0_ eB x_.edges_, zq zG eB x_.pairs_]) (B r0) ([zq (eI .i64) eB x_.states_, zq F0_ eB x_.edges_, zq zG eB x_.pairs_].map fun e => .opq (y8 e)) := by
 intro x0 x_ r0 aa us hus
 obtain ⟨u0, u1, u2, rfl⟩ := zaN hus
 refine XX (tt := xX) (nt := 8) (body := Vi) (B := 2) [3] (xl := []) (xr := []) (caps := [.sptr (.agg [I x0.State, I x0.Input, I x0.Next])]) (es := [zq (eI .i64) eB x_.states_, zq F0_ eB x_.edges_, zq zG eB x_.pairs_]) (es' := [zq (eI .i64) eB x_.states_, zq F0_ eB x_.edges_, zq zG eB x_.pairs_]) (us := [u0, u1, u2]) (r := B r0) Tryz.func48 rfl (by kernel_rfl) rfl rfl (by decide) (by show (2 : Nat) ≤ 8; decide) rfl rfl (.inr ⟨_, rfl⟩) fun E hE => ?_
 try unfold Zj at aa
 obtain ⟨val, h0, aa⟩ := zl aa
 replace h0 := zj h0
 obtain rfl := zj aa
 exact yF ((z48 za3 7 (Zc u2 (zq zG eB x_.pairs_))).or X0) hC .ret [(2, .own (.box (.agg [.opq (wW u0 (zq (eI .i64) eB x_.states_)), .opq (wW u1 (zq F0_ eB x_.edges_)), .opq (wW u2 (zq zG eB x_.pairs_))]))), (3, .d (B val))] [Hn (⟨rfl, rfl, Jt (fun _ => rfl) x_.pairs_⟩ : A.opq (wW u2 (zq zG eB x_.pairs_)) = A.opq (wW u2 (zq zG eB x_.pairs_)) ∧ (Vb [.i64, .i64, .i64]) (zG x0) = true ∧ ∀ p ∈ zq zG eB x_.pairs_, (Vb [.i64, .i64, .i64]) p.1 = true), Hx (.a (eB val)) ((zeG (f := zG) (g := eB) (z0 := false) (z := .atom (.bool false)) rfl x0 x_.pairs_).trans (congrArg eB h0))] fun st0 h0 => hE _ st0 (.inr rfl) (Jd h0 rfl rfl) (z4W (zci h0 rfl rfl))
theorem Y4 (hC : zN Tryz.prog ctr) : ∀ (f : Int ⊕ (Int × Int) ⊕ z8) (x : zh) (r0 : Bool), z0i f x = some r0 → ∀ us : List Value, us.length = 3 → u9 Tryz.prog (zC f) ([] ++ .agg (us.map .atom) :: []) (X8 us [zq (eI .i64) eB x.states_, zq F0_ eB x.edges_, zq zG eB x.pairs_]) (B r0) ([zq (eI .i64) eB x.states_, zq F0_ eB x.edges_, zq zG eB x.pairs_].map fun e => .opq (y8 e)) := by
 intro f x r0 aa us hus
 rcases f with c | c | c
 ·exact VA hC c x r0 aa us hus
 ·exact Vz hC c.1 c.2 x r0 aa us hus
 ·exact Vy hC c x r0 aa us hus
def vg : Code := (Tryz.f56.body).getD .skip
def yb : yd := spF (α := List z8) (ρ := List z8) 56 (fun x => [(eSl 3 false zG) x]) (fun r => (eSl 3 true zG) r) (fun x => yi x) [] (JL)
theorem vp (hC : zN Tryz.prog ctr) : yb.Ok Tryz.prog := by
 refine zT ?_
 rintro s_ r0 aa
 try unfold yi at aa
 refine yO true [(2, none)] vg 9 Tryz.func56 fun E hE => ?_
 obtain ⟨g0, aa⟩ := gdE aa
 obtain rfl := zj aa
 exact yE X0 hC hE [Ha (lnM zG s_), Ha (lnM zG s_), Hn (slB g0), Hn (slC g0), Hn (zbn zG g0), Ha (zgd 3 zG s_ 0 ((s_.length : Nat) : Int).toNat)]
def wY : Code := (Tryz.f41.body).getD .skip
def ut : yd := spF (α := z6 × List (List Int) × Int) (ρ := List z8 × Int) 41 (fun x => [yj x.1, ZZ x.2.1, (eI .i64) x.2.2]) (fun r => .tup [(eSl 3 true zG) r.1, (eI .i64) r.2]) (fun x => jm x.1 x.2.1 x.2.2) [] (z6h)
abbrev YX (out : List z8) : List (Nat × T) := [(10, .own (eOs 3 false zG out))]
abbrev YW (ah : zh) (au : List zb) (av : Int) (a7 : List z8) : List (Nat × T) := [(9, .own (.box ((zR (eMp (eI .i64) eB) (eMp F0_ eB) (eMp zG eB)) ah))), (10, .own (eOs 3 false zG a7)), (24, .own (eOs 5 false (zc F7_ zG zC) au)), (25, .d (I ((au.length : Nat) : Int))), (26, .d (I av))]
abbrev YV (ah : zh) (au : List zb) (ak : List z8) (av : Int) : List (Nat × T) := [(9, .own (.box ((zR (eMp (eI .i64) eB) (eMp F0_ eB) (eMp zG eB)) ah))), (10, .own (eOs 3 false zG ak)), (24, .own (eOs 5 false (zc F7_ zG zC) au)), (25, .d (I ((au.length : Nat) : Int))), (26, .d (I av))]
theorem Wl (hC : zN Tryz.prog ctr) (h03 : ctr.Has xL) (h02 : ctr.Has x4) (h04 : ctr.Has wx) (h0n : ctr.Has yb) : ut.Ok Tryz.prog := by
 refine zT ?_
 rintro ⟨m_, l_, goal⟩ r0 aa
 try unfold jm at aa
 refine yO false [(6, none), (7, none)] wY 43 Tryz.func41 fun E hE => ?_
 obtain ⟨r_, h0, aa⟩ := zl aa
 let Z0 : List HO := [Hc h03 (x := (m_, l_)) h0 (loC yj m_ <| loC ZZ l_ <| loN)]
 rcases y5 aa with ⟨c0, aa⟩ | ⟨c0, aa⟩
 ·obtain rfl := zj aa
  exact yEx X0 hC hE (Z0 ++ [Hq c0, Hm (shM zG zG [])]) (.tup [eSl 3 true zG [], I r_]) (show LeV (.tup [eSl 3 true zG [], I r_]) (.tup [eSl 3 true zG ([] : List z8), I r_]) from inferInstance)
 ·obtain ⟨ah, h1, aa⟩ := zl aa
  refine yJ X0 hC wY [1,1,1,1] [] [10] (fun z : List z8 => uw z = some r0) (fun z => YX z) [(2, .d (I goal)), (3, .own (.box (yj m_))), (9, .own (.box ((zR (eMp (eI .i64) eB) (eMp F0_ eB) (eMp zG eB)) ah))), (10, .own (eOs 3 true zG []))] (Z0 ++ [Hq c0, Hc h02 (x := (m_, l_)) h1 (loC yj m_ <| loC ZZ l_ <| loN), Hh (.cut 1)]) ?_ fun J1 ax => ?_
  ·rintro out aa
   unfold uw at aa
   obtain ⟨am, h2, aa⟩ := zl aa
   obtain rfl := zj aa
   exact yE X0 hC hE [Hg (Ku h0n), Hm (shM zG zG out), Hs (Kv h0n (x := out) h2 (loC (eSl 3 false zG) out <| loN)), Hm (shM zG zG out)]
  ·obtain ⟨au, h3, aa⟩ := zl aa
   obtain ⟨t2, ht2, aa⟩ := zl aa
   refine yLx X0 hC wY [1,1,1,1,2,1,0] [J1] (fun s => uu ah au s.1 s.2) (fun x => YV ah au x.1 x.2) (([] : List z8), 0) ht2 [(9, .own (.box ((zR (eMp (eI .i64) eB) (eMp F0_ eB) (eMp zG eB)) ah))), (10, .own (eOs 3 true zG [])), (24, .own (eOs 5 false (zc F7_ zG zC) au)), (25, .d (I ((au.length : Nat) : Int))), (26, .d (I 0))] inferInstance [Hc h04 (x := (m_, goal)) h3 (loC yj m_ <| loC (eI .i64) goal <| loN), Ha (lnM (zc F7_ zG zC) au)] ?_
   rintro ⟨ak, av⟩ m2 bg ae hl1 J2 a6
   try unfold uu at ae
   rcases y5 ae with ⟨c1, ae⟩ | ⟨c1, ae⟩
   ·refine yJ X0 hC wY [1,1,1,1,2,1,0,0,1,1] [J1, J2] [9,10,24,25,26] (fun z : List z8 => wX av z = some bg) (fun z => YW ah au av z) [(9, .own (.box ((zR (eMp (eI .i64) eB) (eMp F0_ eB) (eMp zG eB)) ah))), (10, .own (eOs 3 false zG ak)), (24, .own (eOs 5 false (zc F7_ zG zC) au)), (25, .d (I ((au.length : Nat) : Int))), (26, .d (I av))] [Hq c1, Hh (.cut 0)] ?_ fun J3 ca => ?_
    ·rintro a7 ae
     unfold wX at ae
     obtain rfl := zj ae
     exact yB X0 hC a6 (a7, w64 (av + 1)) hl1 []
    ·obtain ⟨bv, h4, ae⟩ := zl ae
     obtain ⟨aw, h5, ae⟩ := zl ae
     let Z1 : List HO := [Hn (iL (zc F7_ zG zC) h4), Hs (iM (zc F7_ zG zC) h4), Hn (⟨rfl, leP (show Vv [] [] from inferInstance), leP (show Vv [] [] from inferInstance), rfl, rfl⟩ : ([zC bv.has_] : List A) = [zC bv.has_] ∧ LeP [] [] ∧ LeP [] [] ∧ T.als 9 [.deref] 0 0 = T.als 9 [.deref] 0 0 ∧ (some (.agg [.opq (y8 (zq (eI .i64) eB ah.states_)), .opq (y8 (zq F0_ eB ah.edges_)), .opq (y8 (zq zG eB ah.pairs_))]) : Option A) = some (.agg [.opq (y8 (zq (eI .i64) eB ah.states_)), .opq (y8 (zq F0_ eB ah.edges_)), .opq (y8 (zq zG eB ah.pairs_))]))]
     rcases y5 ae with ⟨c2, ae⟩ | ⟨c2, ae⟩
     ·obtain ⟨g0, ae⟩ := gdE ae
      exact yB ((Y0 (P := Tryz.prog) xX 9 0 [.deref] (fa := zC bv.has_) (r := B aw) (xl := []) (xr := []) (qs := [(y8 (zq (eI .i64) eB ah.states_)), (y8 (zq F0_ eB ah.edges_)), (y8 (zq zG eB ah.pairs_))]) (qs' := [(y8 (zq (eI .i64) eB ah.states_)), (y8 (zq F0_ eB ah.edges_)), (y8 (zq zG eB ah.pairs_))]) (es := [(zq (eI .i64) eB ah.states_), (zq F0_ eB ah.edges_), (zq zG eB ah.pairs_)]) (es' := [(zq (eI .i64) eB ah.states_), (zq F0_ eB ah.edges_), (zq zG eB ah.pairs_)]) (.inr rfl) (z3J (by kernel_rfl)) (.cons (xV (zq (eI .i64) eB ah.states_)) (.cons (xV (zq F0_ eB ah.edges_)) (.cons (xV (zq zG eB ah.pairs_)) (.nil)))) (fun us hu => Y4 hC _ _ _ h5 us hu) (some 33)).or X0) hC ca (ak ++ ([bv.pair_] : List z8)) ae (Z1 ++ [Hq c2, Hq (dM zG ([bv.pair_] : List z8)), Hn (dM zG ([bv.pair_] : List z8)), Hn (aL zG zG g0), Hl (aM zG ak ([bv.pair_] : List z8))])
     ·exact yB ((Y0 (P := Tryz.prog) xX 9 0 [.deref] (fa := zC bv.has_) (r := B aw) (xl := []) (xr := []) (qs := [(y8 (zq (eI .i64) eB ah.states_)), (y8 (zq F0_ eB ah.edges_)), (y8 (zq zG eB ah.pairs_))]) (qs' := [(y8 (zq (eI .i64) eB ah.states_)), (y8 (zq F0_ eB ah.edges_)), (y8 (zq zG eB ah.pairs_))]) (es := [(zq (eI .i64) eB ah.states_), (zq F0_ eB ah.edges_), (zq zG eB ah.pairs_)]) (es' := [(zq (eI .i64) eB ah.states_), (zq F0_ eB ah.edges_), (zq zG eB ah.pairs_)]) (.inr rfl) (z3J (by kernel_rfl)) (.cons (xV (zq (eI .i64) eB ah.states_)) (.cons (xV (zq F0_ eB ah.edges_)) (.cons (xV (zq zG eB ah.pairs_)) (.nil)))) (fun us hu => Y4 hC _ _ _ h5 us hu) (some 33)).or X0) hC ca ak ae (Z1 ++ [Hq c2])
   ·obtain rfl := zj ae
    obtain rfl := hl1
    exact yB X0 hC ax ak aa [Hq c1]
def qQ : Code := (Tryz.f18.body).getD .skip
def qz : yd := spF (α := z6 × List (List Int)) (ρ := List (yp Int) × Int) 18 (fun x => [yj x.1, ZZ x.2]) (fun r => .tup [(eSl 2 false F0_) r.1, (eI .i64) r.2]) (fun x => Zn x.1 x.2) [] (VT)
abbrev XN (r_ : List z8 × Int) (out : List (yp Int)) : List (Nat × T) := [(7, .d (I r_.2)), (8, .own (eOs 2 false F0_ out))]
abbrev XM (r_ : List z8 × Int) (ak : List (yp Int)) (gr : Int) : List (Nat × T) := [(7, .d (I r_.2)), (8, .own (eOs 2 false F0_ ak)), (20, .d (eSl 3 true zG r_.1)), (21, .d (I ((r_.1.length : Nat) : Int))), (22, .d (I gr))]
theorem VB (hC : zN Tryz.prog ctr) (h0R : ctr.Has ut) : qz.Ok Tryz.prog := by
 refine zT ?_
 rintro ⟨m_, l_⟩ r0 aa
 try unfold Zn at aa
 refine yO false [(4, none), (5, none)] qQ 37 Tryz.func18 fun E hE => ?_
 obtain ⟨r_, h0, aa⟩ := zl aa
 obtain ⟨g0, aa⟩ := gdE aa
 refine yJ X0 hC qQ [1,1,1] [] [7,8] (fun z : List (yp Int) => qN r_ z = some r0) (fun z => XN r_ z) [(6, .d (eSl 3 true zG r_.1)), (7, .d (I r_.2)), (8, .own (eOs 2 (decide ((0 : Int) = ((r_.1.length : Nat) : Int))) F0_ []))] [Hc h0R (x := (m_, l_, 1)) h0 (loC yj m_ <| loC ZZ l_ <| loC (eI .i64) 1 <| loN), Ha (lnM zG r_.1), Hn (rL0 g0), Hx (.a (eOs 2 (decide ((0 : Int) = ((r_.1.length : Nat) : Int))) F0_ ([] : List (yp Int)))) (rM0 2 F0_ ((r_.1.length : Nat) : Int) (.agg [I 0, I 0])), Hh (.cut 0)] ?_ fun J1 ax => ?_
 ·rintro out aa
  unfold qN at aa
  obtain rfl := zj aa
  exact yE X0 hC hE [Hm (shM F0_ F0_ out)]
 ·obtain ⟨t2, ht2, aa⟩ := zl aa
  refine yLx X0 hC qQ [1,1,1,2,1,0] [J1] (fun s => qM r_ s.1 s.2) (fun x => XM r_ x.1 x.2) (([] : List (yp Int)), 0) ht2 [(7, .d (I r_.2)), (8, .own (eOs 2 (decide ((0 : Int) = ((r_.1.length : Nat) : Int))) F0_ [])), (20, .d (eSl 3 true zG r_.1)), (21, .d (I ((r_.1.length : Nat) : Int))), (22, .d (I 0))] inferInstance [Ha (lnM zG r_.1)] ?_
  rintro ⟨ak, gr⟩ m2 bg ae hl1 J2 a6
  try unfold qM at ae
  rcases y5 ae with ⟨c0, ae⟩ | ⟨c0, ae⟩
  ·obtain ⟨u_, h1, ae⟩ := zl ae
   obtain ⟨g1, ae⟩ := gdE ae
   obtain rfl := zj ae
   exact yB X0 hC a6 ((ak ++ ([(yp.mk u_.State u_.Input)] : List (yp Int))), w64 (gr + 1)) hl1 [Hq c0, Hi zG h1, Hq (dM F0_ ([(yp.mk u_.State u_.Input)] : List (yp Int))), Hn (dM F0_ ([(yp.mk u_.State u_.Input)] : List (yp Int))), Hn (aL F0_ F0_ g1), Hl (aM F0_ ak ([(yp.mk u_.State u_.Input)] : List (yp Int)))]
  ·obtain rfl := zj ae
   obtain rfl := hl1
   exact yB X0 hC ax ak aa [Hq c0]
def Yh : Code := (Tryz.f65.body).getD .skip
def v6 : yd := spF (α := List (List Int)) (ρ := List (List Int)) 65 (fun x => [ZZ x]) (fun r => z6c r) (fun x => vY x) [] (JL)
theorem Yl (hC : zN Tryz.prog ctr) : v6.Ok Tryz.prog := by
 refine zT ?_
 rintro s_ r0 aa
 try unfold vY at aa
 refine yO true [(2, none)] Yh 8 Tryz.func65 fun E hE => ?_
 refine z2u rfl 0 (sz := 1) (t := false) (es := s_.map F7_) (by kernel_rfl) fun ay hv0 hn => ?_
 rcases hn with ⟨hn0, he0⟩ | hn0
 ·obtain ⟨_, aa⟩ := gdE aa
  rw [show s_ = [] from List.map_eq_nil_iff.1 he0] at aa
  obtain rfl := zj aa
  exact yEx ((zaH zB 4 31 (by kernel_rfl) hn0).or ((xMv Tryz.prog 3 0 ay hv0).or X0)) hC hE [Hn (rfl : some ay = some ay), Hn (⟨rfl, rfl⟩ : T.d (.atom ay) = T.d (.atom ay) ∧ T.d (.atom (.slice none 0 0)) = T.d (.atom (.slice none 0 0))), qT] (eOs 1 true F7_ []) (show LeV (eOs 1 true F7_ []) (eOs 1 false F7_ ([] : List (List Int))) from inferInstance)
 ·obtain ⟨g0, aa⟩ := gdE aa
  obtain rfl := zj aa
  exact yE ((zaH zB 4 31 (by kernel_rfl) hn0).or ((xMv Tryz.prog 3 0 ay hv0).or X0)) hC hE [Hn (rfl : some ay = some ay), Hn (⟨rfl, rfl⟩ : T.d (.atom ay) = T.d (.atom ay) ∧ T.d (.atom (.slice none 0 0)) = T.d (.atom (.slice none 0 0))), qF, Hn (dM F7_ s_), Hn (aL F7_ F7_ g0), Hl (aM0 F7_ s_)]
def VY : Code := (Tryz.f70.body).getD .skip
def jf : yd := spF (α := List Int × List Int) (ρ := Bool) 70 (fun x => [F7_ x.1, F7_ x.2]) (fun r => eB r) (fun x => ju x.1 x.2) [] (VT)
theorem Uz (hC : zN Tryz.prog ctr) (h06 : ctr.Has vC) : jf.Ok Tryz.prog := by
 refine zT ?_
 rintro ⟨a_, b_⟩ r0 aa
 try unfold ju at aa
 refine yO true [(4, none)] VY 9 Tryz.func70 fun E hE => ?_
 obtain ⟨r_, h0, aa⟩ := zl aa
 obtain rfl := zj aa
 exact yE X0 hC hE [Hc h06 (x := (a_, b_)) h0 (loC F7_ a_ <| loC F7_ b_ <| loN)]
def zU : Code := (Tryz.f69.body).getD .skip
def xx : yd := spF (α := List (List Int) × Unit) (ρ := List (List Int)) 69 (fun x => [z6c x.1, (zaP 70) x.2]) (fun r => z6c r) (fun x => wg x.1 x.2) [true, false] (by
 rintro ⟨a0, a1⟩ ⟨b0, b1⟩ h
 have e0 := uS.inj (f := z6c) _ _ (List.cons.inj h).1
 replace h := (List.cons.inj h).2
 have e1 := uS.inj (f := (zaP 70)) _ _ (List.cons.inj h).1
 subst e0 e1
 rfl)
abbrev qY (s_ : List (List Int)) : List (Nat × T) := [(0, .own (eOs 1 false F7_ s_))]
abbrev qX (s_ : List (List Int)) (k_ : Int) : List (Nat × T) := [(0, .own (eOs 1 false F7_ s_)), (1, .d (.fn 70 [])), (5, .d (I k_))]
abbrev qW (dt : List (List Int)) (cu : Int) : List (Nat × T) := [(0, .own (eOs 1 false F7_ dt)), (5, .d (I cu))]
abbrev qV (ay : Value) (k_ : Int) (k2 : Int) (ia : List (List Int)) (ib : Int) : List (Nat × T) := [(0, .own (eOs 1 false F7_ ia)), (1, .d (.fn 70 [])), (5, .d (I ib)), (6, .d (.atom (ZR 1 ay k_))), (7, .d (I k2))]
abbrev qS (ay : Value) (k_ : Int) (dj : List (List Int)) (em : Int) (k2 : Int) : List (Nat × T) := [(0, .own (eOs 1 false F7_ dj)), (1, .d (.fn 70 [])), (5, .d (I em)), (6, .d (.atom (ZR 1 ay k_))), (7, .d (I k2))]
abbrev qU (s_ : List (List Int)) (k_ : Int) : List (Nat × T) := [(0, .own (eOs 1 false F7_ s_)), (1, .d (.fn 70 [])), (5, .d (I k_))]
def zw : XH Tryz.prog := ((zgV zB 64).or X0)
theorem jR (hC : zN Tryz.prog ctr) (h0o : ctr.Has jf) : xx.Ok Tryz.prog := by
 refine zT ?_
 rintro ⟨s_, eq⟩ r0 aa
 try unfold wg at aa
 refine yO true [(4, none)] zU 66 Tryz.func69 fun E hE => ?_
 refine z5W (y := eOs 1 false F7_ s_) rfl 0 (by kernel_rfl) (by kernel_rfl) fun ay hv0 => ?_
 let Z0 : List HO := [Ha (lnM F7_ s_)]
 rcases y5 aa with ⟨c0, aa⟩ | ⟨c0, aa⟩
 ·obtain rfl := zj aa
  exact yE zw hC hE (Z0 ++ [Hq c0])
 ·refine yJ zw hC zU [1,1] [] [0] (fun z : Unit => xD s_ = some r0) (fun z => qY s_) [(0, .own (eOs 1 false F7_ s_)), (1, .d (.fn 70 []))] (Z0 ++ [Hq c0, Hh (.cut 0)]) ?_ fun J1 ax => ?_
  ·rintro ⟨⟩ aa
   unfold xD at aa
   obtain rfl := zj aa
   exact yE zw hC hE []
  ·obtain ⟨t2, ht2, aa⟩ := zl aa
   refine yL zw hC zU [1,1,2,1,0] [J1] (fun s => xz s_ s) (fun x => qU s_ x) 1 ht2  [] ?_
   rintro k_ m2 bg ae hl1 J2 a6
   try unfold xz at ae
   let Z1 : List HO := [Ha (lnM F7_ s_)]
   rcases y5 ae with ⟨c1, ae⟩ | ⟨c1, ae⟩
   ·refine yJ zw hC zU [1,1,2,1,0,0,1] [J1, J2] [0,1,5] (fun z : Unit => xC k_ = some bg) (fun z => qX s_ k_) [(0, .own (eOs 1 false F7_ s_)), (1, .d (.fn 70 [])), (5, .d (I k_))] (Z1 ++ [Hq c1, Hh (.cut 0)]) ?_ fun J3 ca => ?_
    ·rintro ⟨⟩ ae
     unfold xC at ae
     obtain rfl := zj ae
     exact yB zw hC a6 (w64 (k_ + 1)) hl1 []
    ·obtain ⟨dp, h0, ae⟩ := zl ae
     obtain ⟨gi, h1, ae⟩ := zl ae
     obtain ⟨r_, h2, ae⟩ := zl ae
     let Z2 : List HO := [Hn (iL F7_ h0), Hs (iM F7_ h0), Hn (iL F7_ h1), Hs (iM F7_ h1), Hc h0o (x := (dp, gi)) h2 (loC F7_ dp <| loC F7_ gi <| loN)]
     rcases y5 ae with ⟨c2, ae⟩ | ⟨c2, ae⟩
     ·obtain ⟨g0, ae⟩ := gdE ae
      refine yJ ((xAs Tryz.prog 6 (ZR 1 ay k_)).or ((xVw zB 31 0 ay).or zw)) hC zU [1,1,2,1,0,0,1,2,0,1,0,1] [J1, J2, J3] [0,5] (fun z : List (List Int) × Int => xA z.1 z.2 = some bg) (fun z => qW z.1 z.2) [(0, .own (eOs 1 false F7_ s_)), (1, .d (.fn 70 [])), (5, .d (I k_)), (6, .d (.atom (ZR 1 ay k_)))] (Z2 ++ [Hq c2, Hn (⟨.inl rfl, rfl⟩ : (T.als 0 [] 0 0 = T.als 0 [] 0 0 ∨ T.als 0 [] 0 0 = T.d (.atom ay)) ∧ some ay = some ay), Hn (⟨g0.1, cuB F7_ g0⟩ : (0 : Int) ≤ k_ ∧ k_.toNat ≤ (s_.map F7_).length), Hn (rfl : T.d (.atom (ZR 1 ay k_)) = T.d (.atom (ZR 1 ay k_))), Hh (.cut 1)]) ?_ fun J4 d0 => ?_
      ·rintro ⟨dt, cu⟩ ae
       unfold xA at ae
       obtain ⟨g1, ae⟩ := gdE ae
       obtain ⟨g2, ae⟩ := gdE ae
       obtain ⟨g3, ae⟩ := gdE ae
       obtain rfl := zj ae
       obtain rfl := hl1
       obtain rfl := zj aa
       exact yE ((xVc zB 61 1 0 ay cu).or ((xVw zB 61 0 ay).or zw)) hC hE [Hn (⟨.inl rfl, rfl⟩ : (T.als 0 [] 0 0 = T.als 0 [] 0 0 ∨ T.als 0 [] 0 0 = T.d (.atom ay)) ∧ some ay = some ay), Hn (⟨g1.1, cuB F7_ g1⟩ : (0 : Int) ≤ cu ∧ cu.toNat ≤ (dt.map F7_).length), Hn (⟨rfl, rfl⟩ : T.d (.atom (ZR 1 ay cu)) = T.d (.atom (ZR 1 ay cu)) ∧ some ay = some ay), Hn (⟨g2.1, cuB F7_ g2, dM F7_ dt⟩ : (0 : Int) ≤ cu ∧ cu.toNat ≤ (dt.map F7_).length ∧ A.areD (dt.map F7_) = true), Hx (.l ((dt.take cu.toNat ++ List.replicate (dt.length - cu.toNat) []).map F7_)) (vcM F7_ dt cu.toNat ([] : List Int)), Hn g3.1, Hn (cuB F7_ g3), Hl (cuM F7_ (dt.take cu.toNat ++ List.replicate (dt.length - cu.toNat) []) cu)]
      ·obtain ⟨t5, ht5, ae⟩ := zl ae
       refine yL zw hC zU [1,1,2,1,0,0,1,2,0,1,0,1,2,1,0] [J1, J2, J3, J4] (fun s => xy k_ s.1 s.2.1 s.2.2) (fun x => qS ay k_ x.1 x.2.1 x.2.2) (s_, k_, 1) ht5  [] ?_
       rintro ⟨dj, em, k2⟩ m5 fg ai hl2 J5 dn
       try unfold xy at ai
       let Z3 : List HO := [Hn (⟨rfl, rfl⟩ : T.d (.atom (ZR 1 ay k_)) = T.d (.atom (ZR 1 ay k_)) ∧ some ay = some ay), Hx (.a (.atom (.int .i64 ((dj.length - k_.toNat : Nat) : Int)))) (vlM F7_ dj k_.toNat)]
       rcases y5 ai with ⟨c3, ai⟩ | ⟨c3, ai⟩
       ·refine yJ ((xVl zB 34 31 1 0 ay k_ (by kernel_rfl)).or zw) hC zU [1,1,2,1,0,0,1,2,0,1,0,1,2,1,0,0,1] [J1, J2, J3, J4, J5] [0,1,5,6,7] (fun z : List (List Int) × Int => yz k2 z.1 z.2 = some fg) (fun z => qV ay k_ k2 z.1 z.2) [(0, .own (eOs 1 false F7_ dj)), (1, .d (.fn 70 [])), (5, .d (I em)), (6, .d (.atom (ZR 1 ay k_))), (7, .d (I k2))] (Z3 ++ [Hq c3, Hh (.cut 0)]) ?_ fun J6 ez => ?_
        ·rintro ⟨ia, ib⟩ ai
         unfold yz at ai
         obtain rfl := zj ai
         exact yB zw hC dn (ia, ib, w64 (k2 + 1)) hl2 []
        ·obtain ⟨g4, ai⟩ := gdE ai
         obtain ⟨gf, h3, ai⟩ := zl ai
         obtain ⟨g5, ai⟩ := gdE ai
         obtain ⟨gg, h4, ai⟩ := zl ai
         obtain ⟨ah, h5, ai⟩ := zl ai
         let Z4 : List HO := [Hn (⟨rfl, rfl⟩ : T.d (.atom (ZR 1 ay k_)) = T.d (.atom (ZR 1 ay k_)) ∧ some ay = some ay), Hn (⟨g4.1, g4.2, (iL F7_ h3).2⟩ : (0 : Int) ≤ k_ ∧ (0 : Int) ≤ k2 ∧ (k_ + k2).toNat < (dj.map F7_).length), Hs (iM F7_ h3), Hn (⟨rfl, rfl⟩ : T.d (.atom (ZR 1 ay k_)) = T.d (.atom (ZR 1 ay k_)) ∧ some ay = some ay), Hn (⟨g5.1, g5.2, (iL F7_ h4).2⟩ : (0 : Int) ≤ k_ ∧ (0 : Int) ≤ w64 (k2 - 1) ∧ (k_ + (w64 (k2 - 1))).toNat < (dj.map F7_).length), Hs (iM F7_ h4), Hc h0o (x := (gf, gg)) h5 (loC F7_ gf <| loC F7_ gg <| loN)]
         rcases y5 ai with ⟨c4, ai⟩ | ⟨c4, ai⟩
         ·obtain ⟨g6, ai⟩ := gdE ai
          obtain ⟨gh, h6, ai⟩ := zl ai
          obtain ⟨iw, h7, ai⟩ := zl ai
          exact yB ((xVi zB 54 1 0 ay k_).or ((xVi zB 46 1 0 ay k_).or ((xVi zB 41 1 0 ay k_).or zw))) hC ez ((dj.set em.toNat gh), w64 (em + 1)) ai (Z4 ++ [Hq c4, Hn (⟨rfl, rfl⟩ : T.d (.atom (ZR 1 ay k_)) = T.d (.atom (ZR 1 ay k_)) ∧ some ay = some ay), Hn (⟨g6.1, g6.2, (iL F7_ h6).2⟩ : (0 : Int) ≤ k_ ∧ (0 : Int) ≤ k2 ∧ (k_ + k2).toNat < (dj.map F7_).length), Hs (iM F7_ h6), Hn (iL F7_ h7), Hs (iM F7_ h7), Hs (iM F7_ h7), Hl (sM F7_ dj em gh)])
         ·exact yB ((xVi zB 46 1 0 ay k_).or ((xVi zB 41 1 0 ay k_).or zw)) hC ez (dj, em) ai (Z4 ++ [Hq c4])
       ·obtain rfl := zj ai
        obtain rfl := hl2
        exact yB ((xVl zB 34 31 1 0 ay k_ (by kernel_rfl)).or zw) hC d0 (dj, em) ae (Z3 ++ [Hq c3])
     ·exact yB zw hC ca () ae (Z2 ++ [Hq c2])
   ·obtain rfl := zj ae
    obtain rfl := hl1
    exact yB zw hC ax () aa (Z1 ++ [Hq c1])
def ZA : Code := (Tryz.f68.body).getD .skip
def yo : yd := spR (α := List (List Int)) (ρ := List (List Int)) 68 (fun x => [z6c x]) (fun r => (eOs 1 true F7_) r) (fun x => xY x) [true] (JL)
theorem Zy : ∀ x r, (fun x => xY x) x = some r → (JY.add yo).run 68 ((JY.add yo).norm 68 ((fun x => [z6c x]) x)) = some ((fun r => (eOs 1 true F7_) r) r) := fun x r h => zht h rfl
theorem Zz : (JY.add yo).lend 68 = none ∧ (JY.add yo).gives 68 = [true] := zeE
theorem wQ (hC : zN Tryz.prog ctr) : yo.Ok Tryz.prog := by
 refine zbm ?_
 rintro s_ r0 aa
 try unfold xY at aa
 refine yO true [(2, none)] ZA 9 Tryz.func68 fun E hE => ?_
 obtain rfl := zj aa
 exact yE ((xCl zB 8).or X0) hC hE [Ha (lnM F7_ s_), Ha (lnM F7_ s_), Hn (Int.natCast_nonneg _ : (0 : Int) ≤ ((s_.length : Nat) : Int)), Hn (Int.natCast_nonneg _ : (0 : Int) ≤ ((s_.length : Nat) : Int)), Hn (clB F7_ s_), Ha (clE 1 F7_ s_)]
def wp : Code := (Tryz.f51.body).getD .skip
def kU : yd := spF (α := List (List Int)) (ρ := List (List Int) × Int) 51 (fun x => [ZZ x]) (fun r => .tup [z6d r.1, (eI .i64) r.2]) (fun x => Xq x) [] (JL)
abbrev Vp (out : List (List Int × Bool)) : List (Nat × T) := [(4, .own (eOs 1 true (eFl 1 (eI .i64)) out))]
abbrev Vo (de : Value) (am : List (List Int)) (a7 : List (List Int × Bool)) (ep : Int) : List (Nat × T) := [(4, .own (eOs 1 true (eFl 1 (eI .i64)) a7)), (22, .d (.atom (ZR 1 de (0 : Int)))), (23, .d (I ((am.length - (0 : Int).toNat : Nat) : Int))), (24, .d (I ep))]
theorem JQ (hC : zN Tryz.prog ctr) (h0S : ctr.Has v6) (h06 : ctr.Has vC) (h0T : ctr.Has xx) (h09 : ctr.Has jw) (h01 : ctr.Has yc) (h00 : ctr.Has yh) : kU.Ok Tryz.prog := by
 refine zT ?_
 rintro l_ r0 aa
 try unfold Xq at aa
 refine yO false [(2, none), (3, none)] wp 37 Tryz.func51 fun E hE => ?_
 obtain ⟨r_, h0, aa⟩ := zl aa
 refine yA X0 hC wp [1,1] [] [(4, .own (eOs 1 false F7_ r_))] [Hc h0S (x := l_) h0 (loC ZZ l_ <| loN), Hh (.cut 0)] ?_
 obtain ⟨sorted, h1, aa⟩ := zl aa
 refine z1I (by kernel_rfl) (x := (sub [1,1,0] wp)) (y := (sub [1,1,1] wp)) 4 (fun st1 => Own.canon [4] st1 = ofL [(4, .own (eOs 1 false F7_ sorted))]) (fun de => yF ((ze1 (P := Tryz.prog) xX [4] (z4n zec (f := F7_) (t := false) (v := de) (fun _ => rfl) (fun _ => rfl) (fun x y c h => zak hC h06 (x := (x, y)) h) h1) 10).or X0) hC .normal [(4, .own (eOs 1 false F7_ sorted))] [Hn (z9w (f := .fn 66 []) (xs := [.atom de, .fn 67 []]) (ls := [(de, eOs 1 false F7_ r_)]) (r := .tup []) (ys := [eOs 1 false F7_ sorted]) [.atom de, .fn 67 []] (show Vv [.atom de, .fn 67 []] [.atom de, .fn 67 []] from inferInstance))] fun st0 h0 => ⟨rfl, h0⟩) fun st1 h1 => z5X h1 ?_
 obtain ⟨ah, h2, aa⟩ := zl aa
 obtain ⟨am, h3, aa⟩ := zl aa
 let Z0 : List HO := [Hc h0T (x := (sorted, ())) h2 (loC z6c sorted <| loC (zaP 70) () <| loN), Hh (.g [true]), Hn Zz, Hx (.a ((eOs 1 true F7_) am)) (Zy ah _ h3), Ha (lnM F7_ am)]
 rcases y5 aa with ⟨c0, aa⟩ | ⟨c0, aa⟩
 ·obtain rfl := zj aa
  exact yEx ((z8R zB (wQ hC) 13).or X0) hC hE (Z0 ++ (rpN 4 (Hq c0) [qT, Hm (shM F7_ F7_ [])])) (.tup [eSl 1 true F2_ [], I 3]) (show LeV (.tup [eSl 1 true F2_ [], I 3]) (.tup [eSl 1 true F2_ ([] : List (List Int)), I 3]) from inferInstance)
 ·obtain ⟨au, h4, aa⟩ := zl aa
  let Z1 : List HO := (Z0 ++ [Hq c0, Hq c0, Hg (Ku h09), Hm (shM F7_ F7_ am), Hs (Kv h09 (x := am) h4 (loC zaS am <| loN)), Hq c0, Hq c0])
  rcases y5 aa with ⟨c1, aa⟩ | ⟨c1, aa⟩
  ·obtain rfl := zj aa
   exact yEx ((z8R zB (wQ hC) 13).or X0) hC hE (Z1 ++ [Hq c1, Hm (shM F7_ F7_ [])]) (.tup [eSl 1 true F2_ [], I 3]) (show LeV (.tup [eSl 1 true F2_ [], I 3]) (.tup [eSl 1 true F2_ ([] : List (List Int)), I 3]) from inferInstance)
  ·refine yA ((z8R zB (wQ hC) 13).or X0) hC wp [1,1,1,1,1] [] [(4, .own (eOs 1 true F7_ am))] (Z1 ++ [Hq c1, Hh (.cut 0)]) ?_
   refine z5W (y := eOs 1 true F7_ am) (by kernel_rfl) 4 (by kernel_rfl) (by kernel_rfl) fun de hv4 => ?_
   refine yJ X0 hC wp [1,1,1,1,1] [] [4] (fun z : List (List Int × Bool) => kQ z = some r0) (fun z => Vp z) [(4, .own (eOs 1 true F7_ am))] [Hh (.cut 0)] ?_ fun J1 ax => ?_
   ·rintro out aa
    unfold kQ at aa
    obtain ⟨hfl0, aa⟩ := gdE aa
    obtain rfl := zj aa
    exact yEx X0 hC hE [Hm (shM (eFl 1 (eI .i64)) (eFl 1 (eI .i64)) out)] (.tup [eSl 1 true (eFl 1 (eI .i64)) out, I 0]) (haveI := flA (s := 1) (t := 1) (b := true) (f := (eI .i64)) hfl0; show LeV (.tup [eSl 1 true (eFl 1 (eI .i64)) out, I 0]) (.tup [eSl 1 true F2_ (out.map (·.1)), I 0]) from inferInstance)
   ·obtain ⟨t2, ht2, aa⟩ := zl aa
    refine yLx ((xVl zB 23 31 1 4 de (0 : Int) (by kernel_rfl)).or ((xMw Tryz.prog 22 4 1 de).or X0)) hC wp [1,1,1,1,1,2,1,0] [J1] (fun s => kP am s.1 s.2) (fun x => Vo de am x.1 x.2) ((am.map fun q => (q, false)), 0) ht2 [(4, .own (eOs 1 true F7_ am)), (22, .d (.atom (ZR 1 de (0 : Int)))), (23, .d (I ((am.length - (0 : Int).toNat : Nat) : Int))), (24, .d (I 0))] inferInstance [Hn (rfl : some de = some de), Hn (⟨rfl, rfl⟩ : T.d (.atom (ZR 1 de (0 : Int))) = T.d (.atom (ZR 1 de (0 : Int))) ∧ some de = some de), Hx (.a (.atom (.int .i64 ((am.length - (0 : Int).toNat : Nat) : Int)))) (vlM F7_ am (0 : Int).toNat)] ?_
    rintro ⟨a7, ep⟩ m2 bg ae hl1 J2 a6
    try unfold kP at ae
    rcases y5 ae with ⟨c2, ae⟩ | ⟨c2, ae⟩
    ·obtain ⟨g0, ae⟩ := gdE ae
     obtain ⟨dh, h5, ae⟩ := zl ae
     obtain ⟨aw, h6, ae⟩ := zl ae
     obtain ⟨cb, h7, ae⟩ := zl ae
     obtain ⟨ee, h8, ae⟩ := zl ae
     obtain rfl := zj ae
     exact yB ((xVi zB 27 1 4 de (0 : Int)).or X0) hC a6 ((a7.set ep.toNat (cb, true)), w64 (ep + 1)) hl1 [Hq c2, Hn (⟨rfl, rfl⟩ : T.d (.atom (ZR 1 de (0 : Int))) = T.d (.atom (ZR 1 de (0 : Int))) ∧ some de = some de), Hn (⟨g0.1, g0.2, (iL (eFl 1 (eI .i64)) h5).2⟩ : (0 : Int) ≤ 0 ∧ (0 : Int) ≤ ep ∧ (0 + ep).toNat < (a7.map (eFl 1 (eI .i64))).length), Hs (iM (eFl 1 (eI .i64)) h5), Hc h01 (x := dh.1) h6 (loC (eSl 1 dh.2 (eI .i64)) dh.1 <| loN), Hg (Ku h00), Hm (shM (eI .i64) (eI .i64) aw), Hs (Kv h00 (x := aw) h7 (loC F7_ aw <| loN)), Hm (shM (eI .i64) (eI .i64) aw), Hn (iL (eFl 1 (eI .i64)) h8), Hs (iM (eFl 1 (eI .i64)) h8), Hs (iM (eFl 1 (eI .i64)) h8), Hl (sM (eFl 1 (eI .i64)) a7 ep (cb, true))]
    ·obtain rfl := zj ae
     obtain rfl := hl1
     exact yB X0 hC ax a7 aa [Hq c2]
def z0p : Code := (Tryz.f33.body).getD .skip
def Yp : yd := spF (α := List (List Int) × Int) (ρ := List (List Int) × Int) 33 (fun x => [ZZ x.1, (eI .i64) x.2]) (fun r => .tup [z6d r.1, (eI .i64) r.2]) (fun x => VF x.1 x.2) [] (VT)
theorem z0E (hC : zN Tryz.prog ctr) (h0d : ctr.Has jx) (h0U : ctr.Has kU) : Yp.Ok Tryz.prog := by
 refine zT ?_
 rintro ⟨l_, inputs⟩ r0 aa
 try unfold VF at aa
 refine yO false [(4, none), (5, none)] z0p 17 Tryz.func33 fun E hE => ?_
 obtain ⟨r_, h0, aa⟩ := zl aa
 let Z0 : List HO := [Hc h0d (x := (l_, inputs)) h0 (loC ZZ l_ <| loC (eI .i64) inputs <| loN)]
 rcases y5 aa with ⟨c0, aa⟩ | ⟨c0, aa⟩
 ·obtain rfl := zj aa
  exact yEx X0 hC hE (Z0 ++ [Hq c0, Hm (shM F7_ F7_ [])]) (.tup [eSl 1 true F2_ [], I r_]) (show LeV (.tup [eSl 1 true F2_ [], I r_]) (.tup [eSl 1 true F2_ ([] : List (List Int)), I r_]) from inferInstance)
 ·obtain ⟨ah, h1, aa⟩ := zl aa
  obtain rfl := zj aa
  exact yE X0 hC hE (Z0 ++ [Hq c0, Hc h0U (x := l_) h1 (loC ZZ l_ <| loN)])
def xk : Code := (Tryz.f11.body).getD .skip
def uV : yd := spF (α := z6 × List (List Int) × Int) (ρ := List (List Int) × Int) 11 (fun x => [yj x.1, ZZ x.2.1, (eI .i64) x.2.2]) (fun r => .tup [z6d r.1, (eI .i64) r.2]) (fun x => k9 x.1 x.2.1 x.2.2) [] (z6h)
abbrev Xn (m_ : z6) (ak : List (List Int)) : List (Nat × T) := [(3, .own (.box (yj m_))), (10, .own (eOs 1 false F2_ ak))]
abbrev Xm (m_ : z6) (au : List zb) (eg : Int) (bk : List (Int × Bool)) (bq : List ((yp Int) × Bool)) (bf : List (z8 × Bool)) (bp : List (List Int)) : List (Nat × T) := [(3, .own (.box (yj m_))), (9, .own (.box (.agg [.opq (y8 (zq (eI .i64) eB bk)), .opq (y8 (zq F0_ eB bq)), .opq (y8 (zq zG eB bf))]))), (10, .own (eOs 1 false F2_ bp)), (48, .own (eOs 5 false (zc F7_ zG zC) au)), (49, .d (I ((au.length : Nat) : Int))), (50, .d (I eg))]
abbrev Xl (m_ : z6) (au : List zb) (al : List (Int × Bool)) (ap : List ((yp Int) × Bool)) (aq : List (z8 × Bool)) (a7 : List (List Int)) (eg : Int) : List (Nat × T) := [(3, .own (.box (yj m_))), (9, .own (.box (.agg [.opq (y8 (zq (eI .i64) eB al)), .opq (y8 (zq F0_ eB ap)), .opq (y8 (zq zG eB aq))]))), (10, .own (eOs 1 false F2_ a7)), (48, .own (eOs 5 false (zc F7_ zG zC) au)), (49, .d (I ((au.length : Nat) : Int))), (50, .d (I eg))]
abbrev Xo (m_ : z6) (goal : Int) (ah : zh) (out : List (List Int)) : List (Nat × T) := [(2, .d (I goal)), (3, .own (.box (yj m_))), (9, .own (.box ((zR (eMp (eI .i64) eB) (eMp F0_ eB) (eMp zG eB)) ah))), (10, .own (eOs 1 false F2_ out))]
abbrev Xk (m_ : z6) (l_ : List (List Int)) (goal : Int) (ah : zh) (ct : List (List Int)) (gt : Int) : List (Nat × T) := [(2, .d (I goal)), (3, .own (.box (yj m_))), (9, .own (.box ((zR (eMp (eI .i64) eB) (eMp F0_ eB) (eMp zG eB)) ah))), (10, .own (eOs 1 false F2_ ct)), (33, .d (eSl 1 false F7_ l_)), (34, .d (I ((l_.length : Nat) : Int))), (35, .d (I gt))]
theorem V2 (hC : zN Tryz.prog ctr) (h03 : ctr.Has xL) (h02 : ctr.Has x4) (h01 : ctr.Has yc) (h00 : ctr.Has yh) (h04 : ctr.Has wx) (h0p : ctr.Has Yp) : uV.Ok Tryz.prog := by
 refine zT ?_
 rintro ⟨m_, l_, goal⟩ r0 aa
 try unfold k9 at aa
 refine yO false [(6, none), (7, none)] xk 81 Tryz.func11 fun E hE => ?_
 obtain ⟨r_, h0, aa⟩ := zl aa
 let Z0 : List HO := [Hc h03 (x := (m_, l_)) h0 (loC yj m_ <| loC ZZ l_ <| loN)]
 rcases y5 aa with ⟨c0, aa⟩ | ⟨c0, aa⟩
 ·obtain rfl := zj aa
  exact yEx X0 hC hE (Z0 ++ [Hq c0, Hm (shM F7_ F7_ [])]) (.tup [eSl 1 true F2_ [], I r_]) (show LeV (.tup [eSl 1 true F2_ [], I r_]) (.tup [eSl 1 true F2_ ([] : List (List Int)), I r_]) from inferInstance)
 ·rcases y5 aa with ⟨c1, aa⟩ | ⟨c1, aa⟩
  ·obtain rfl := zj aa
   exact yEx X0 hC hE (Z0 ++ [Hq c0, Hq c1, Hq c1, Hq c1, qT, Hm (shM F7_ F7_ [])]) (.tup [eSl 1 true F2_ [], I 1]) (show LeV (.tup [eSl 1 true F2_ [], I 1]) (.tup [eSl 1 true F2_ ([] : List (List Int)), I 1]) from inferInstance)
  ·let Z1 : List HO := (Z0 ++ [Hq c0, Hq c1, Hq c1, Hq c1])
   rcases y5 aa with ⟨c2, aa⟩ | ⟨c2, aa⟩
   ·obtain rfl := zj aa
    exact yEx X0 hC hE (Z1 ++ [Hq c2, Hm (shM F7_ F7_ [])]) (.tup [eSl 1 true F2_ [], I 1]) (show LeV (.tup [eSl 1 true F2_ [], I 1]) (.tup [eSl 1 true F2_ ([] : List (List Int)), I 1]) from inferInstance)
   ·obtain ⟨ah, h1, aa⟩ := zl aa
    obtain ⟨g0, aa⟩ := gdE aa
    refine yJ X0 hC xk [1,1,1,1,1] [] [2,3,9,10] (fun z : List (List Int) => qj m_ goal ah z = some r0) (fun z => Xo m_ goal ah z) [(1, .d (eSl 1 false F7_ l_)), (2, .d (I goal)), (3, .own (.box (yj m_))), (9, .own (.box ((zR (eMp (eI .i64) eB) (eMp F0_ eB) (eMp zG eB)) ah))), (10, .own (eOs 1 (decide ((0 : Int) = ((l_.length : Nat) : Int))) F7_ []))] (Z1 ++ [Hq c2, Hc h02 (x := (m_, l_)) h1 (loC yj m_ <| loC ZZ l_ <| loN), Ha (lnM F7_ l_), Hn (rL0 g0), Hx (.a (eOs 1 (decide ((0 : Int) = ((l_.length : Nat) : Int))) F7_ ([] : List (List Int)))) (rM0 1 F7_ ((l_.length : Nat) : Int) (eOs 1 true (eI .i64) [])), Hh (.cut 0)]) ?_ fun J1 ax => ?_
    ·rintro out aa
     unfold qj at aa
     refine yJ X0 hC xk [1,1,1,1,1,1] [] [3,10] (fun z : List (List Int) => qg m_ z = some r0) (fun z => Xn m_ z) [(2, .d (I goal)), (3, .own (.box (yj m_))), (9, .own (.box ((zR (eMp (eI .i64) eB) (eMp F0_ eB) (eMp zG eB)) ah))), (10, .own (eOs 1 false F2_ out))] [Hh (.cut 0)] ?_ fun J2 a6 => ?_
     ·rintro ak aa
      unfold qg at aa
      let Z2 : List HO := [Ha (lnM F2_ ak)]
      rcases y5 aa with ⟨c3, aa⟩ | ⟨c3, aa⟩
      ·obtain rfl := zj aa
       exact yEx X0 hC hE (Z2 ++ [Hq c3, Hm (shM F7_ F7_ [])]) (.tup [eSl 1 true F2_ [], I 3]) (show LeV (.tup [eSl 1 true F2_ [], I 3]) (.tup [eSl 1 true F2_ ([] : List (List Int)), I 3]) from inferInstance)
      ·obtain ⟨am, h2, aa⟩ := zl aa
       obtain rfl := zj aa
       exact yE X0 hC hE (Z2 ++ [Hq c3, Hg (Ku h0p), Hm (shM F2_ F2_ ak), Hs (Kv h0p (x := (ak, m_.Inputs)) h2 (loC (eSl 1 false F2_) ak <| loC (eI .i64) m_.Inputs <| loN)), Hm (shM F2_ F2_ ak)])
     ·obtain ⟨au, h3, aa⟩ := zl aa
      obtain ⟨t3, ht3, aa⟩ := zl aa
      refine yL X0 hC xk [1,1,1,1,1,1,2,1,0] [J2] (fun s => qe m_ au s.1 s.2.1 s.2.2.1 s.2.2.2.1 s.2.2.2.2) (fun x => Xl m_ au x.1 x.2.1 x.2.2.1 x.2.2.2.1 x.2.2.2.2) (ah.states_, ah.edges_, ah.pairs_, out, 0) ht3  [Hc h04 (x := (m_, goal)) h3 (loC yj m_ <| loC (eI .i64) goal <| loN), Ha (lnM (zc F7_ zG zC) au)] ?_
      rintro ⟨al, ap, aq, a7, eg⟩ m3 bg ae hl1 J3 ca
      try unfold qe at ae
      rcases y5 ae with ⟨c4, ae⟩ | ⟨c4, ae⟩
      ·refine yJ X0 hC xk [1,1,1,1,1,1,2,1,0,0,1,1] [J2, J3] [3,9,10,48,49,50] (fun z : (List (Int × Bool)) × (List ((yp Int) × Bool)) × (List (z8 × Bool)) × List (List Int) => vA eg z.1 z.2.1 z.2.2.1 z.2.2.2 = some bg) (fun z => Xm m_ au eg z.1 z.2.1 z.2.2.1 z.2.2.2) [(3, .own (.box (yj m_))), (9, .own (.box (.agg [.opq (y8 (zq (eI .i64) eB al)), .opq (y8 (zq F0_ eB ap)), .opq (y8 (zq zG eB aq))]))), (10, .own (eOs 1 false F2_ a7)), (48, .own (eOs 5 false (zc F7_ zG zC) au)), (49, .d (I ((au.length : Nat) : Int))), (50, .d (I eg))] [Hq c4, Hh (.cut 0)] ?_ fun J4 d0 => ?_
       ·rintro ⟨bk, bq, bf, bp⟩ ae
        unfold vA at ae
        obtain rfl := zj ae
        exact yB X0 hC ca (bk, bq, bf, bp, w64 (eg + 1)) hl1 []
       ·obtain ⟨bv, h4, ae⟩ := zl ae
        obtain ⟨aw, h5, ae⟩ := zl ae
        let Z3 : List HO := [Hn (iL (zc F7_ zG zC) h4), Hs (iM (zc F7_ zG zC) h4), Hn (⟨rfl, leP (show Vv [] [] from inferInstance), leP (show Vv [] [] from inferInstance), rfl, rfl⟩ : ([zC bv.has_] : List A) = [zC bv.has_] ∧ LeP [] [] ∧ LeP [] [] ∧ T.als 9 [.deref] 0 0 = T.als 9 [.deref] 0 0 ∧ (some (.agg [.opq (y8 (zq (eI .i64) eB al)), .opq (y8 (zq F0_ eB ap)), .opq (y8 (zq zG eB aq))]) : Option A) = some (.agg [.opq (y8 (zq (eI .i64) eB al)), .opq (y8 (zq F0_ eB ap)), .opq (y8 (zq zG eB aq))]))]
        rcases y5 ae with ⟨c5, ae⟩ | ⟨c5, ae⟩
        ·obtain ⟨cb, h6, ae⟩ := zl ae
         obtain ⟨cj, h7, ae⟩ := zl ae
         obtain ⟨dw, h8, ae⟩ := zl ae
         obtain ⟨g1, ae⟩ := gdE ae
         exact yB ((Y0 (P := Tryz.prog) xX 9 0 [.deref] (fa := .fn 32 []) (r := .tup []) (xl := []) (xr := [yj m_, F7_ bv.word_]) (qs := [(y8 (zq (eI .i64) eB al)), (y8 (zq F0_ eB ap)), (y8 (zq zG eB aq))]) (qs' := [(y8 (zq (eI .i64) eB cb.states_)), (y8 (zq F0_ eB cb.edges_)), (y8 (zq zG eB cb.pairs_))]) (es := [(zq (eI .i64) eB al), (zq F0_ eB ap), (zq zG eB aq)]) (es' := [(zq (eI .i64) eB cb.states_), (zq F0_ eB cb.edges_), (zq zG eB cb.pairs_)]) (.inr rfl) (z3J (by kernel_rfl)) (.cons (xV (zq (eI .i64) eB al)) (.cons (xV (zq F0_ eB ap)) (.cons (xV (zq zG eB aq)) (.nil)))) (fun us hu => jC hC _ _ _ _ h6 us hu) (some 63)).or ((Y0 (P := Tryz.prog) xX 9 0 [.deref] (fa := zC bv.has_) (r := B aw) (xl := []) (xr := []) (qs := [(y8 (zq (eI .i64) eB al)), (y8 (zq F0_ eB ap)), (y8 (zq zG eB aq))]) (qs' := [(y8 (zq (eI .i64) eB al)), (y8 (zq F0_ eB ap)), (y8 (zq zG eB aq))]) (es := [(zq (eI .i64) eB al), (zq F0_ eB ap), (zq zG eB aq)]) (es' := [(zq (eI .i64) eB al), (zq F0_ eB ap), (zq zG eB aq)]) (.inr rfl) (z3J (by kernel_rfl)) (.cons (xV (zq (eI .i64) eB al)) (.cons (xV (zq F0_ eB ap)) (.cons (xV (zq zG eB aq)) (.nil)))) (fun us hu => Y4 hC _ _ _ h5 us hu) (some 57)).or X0)) hC d0 (cb.states_, cb.edges_, cb.pairs_, (a7 ++ ([dw] : List (List Int)))) ae (Z3 ++ [Hq c5, Hn (⟨rfl, leP (show Vv [] [] from inferInstance), leP (show Vv [yj m_, F7_ bv.word_] [yj m_, F7_ bv.word_] from inferInstance), rfl, rfl⟩ : ([.fn 32 []] : List A) = [.fn 32 []] ∧ LeP [] [] ∧ LeP [yj m_, F7_ bv.word_] [yj m_, F7_ bv.word_] ∧ T.als 9 [.deref] 0 1 = T.als 9 [.deref] 0 1 ∧ (some (.agg [.opq (y8 (zq (eI .i64) eB al)), .opq (y8 (zq F0_ eB ap)), .opq (y8 (zq zG eB aq))]) : Option A) = some (.agg [.opq (y8 (zq (eI .i64) eB al)), .opq (y8 (zq F0_ eB ap)), .opq (y8 (zq zG eB aq))])), Hc h01 (x := bv.word_) h7 (loC F7_ bv.word_ <| loN), Hg (Ku h00), Hm (shM (eI .i64) (eI .i64) cj), Hs (Kv h00 (x := cj) h8 (loC F7_ cj <| loN)), Hm (shM (eI .i64) (eI .i64) cj), Hq (dM F2_ ([dw] : List (List Int))), Hn (dM F2_ ([dw] : List (List Int))), Hn (aL F2_ F2_ g1), Hl (aM F2_ a7 ([dw] : List (List Int)))])
        ·exact yB ((Y0 (P := Tryz.prog) xX 9 0 [.deref] (fa := zC bv.has_) (r := B aw) (xl := []) (xr := []) (qs := [(y8 (zq (eI .i64) eB al)), (y8 (zq F0_ eB ap)), (y8 (zq zG eB aq))]) (qs' := [(y8 (zq (eI .i64) eB al)), (y8 (zq F0_ eB ap)), (y8 (zq zG eB aq))]) (es := [(zq (eI .i64) eB al), (zq F0_ eB ap), (zq zG eB aq)]) (es' := [(zq (eI .i64) eB al), (zq F0_ eB ap), (zq zG eB aq)]) (.inr rfl) (z3J (by kernel_rfl)) (.cons (xV (zq (eI .i64) eB al)) (.cons (xV (zq F0_ eB ap)) (.cons (xV (zq zG eB aq)) (.nil)))) (fun us hu => Y4 hC _ _ _ h5 us hu) (some 57)).or X0) hC d0 (al, ap, aq, a7) ae (Z3 ++ [Hq c5])
      ·obtain rfl := zj ae
       obtain rfl := hl1
       exact yB X0 hC a6 a7 aa [Hq c4]
    ·obtain ⟨t5, ht5, aa⟩ := zl aa
     refine yLx X0 hC xk [1,1,1,1,1,2,1,0] [J1] (fun s => qd l_ s.1 s.2) (fun x => Xk m_ l_ goal ah x.1 x.2) (([] : List (List Int)), 0) ht5 [(2, .d (I goal)), (3, .own (.box (yj m_))), (9, .own (.box ((zR (eMp (eI .i64) eB) (eMp F0_ eB) (eMp zG eB)) ah))), (10, .own (eOs 1 (decide ((0 : Int) = ((l_.length : Nat) : Int))) F2_ [])), (33, .d (eSl 1 false F7_ l_)), (34, .d (I ((l_.length : Nat) : Int))), (35, .d (I 0))] inferInstance [Ha (lnM F7_ l_)] ?_
     rintro ⟨ct, gt⟩ m5 bg ae hl1 J5 dn
     try unfold qd at ae
     rcases y5 ae with ⟨c6, ae⟩ | ⟨c6, ae⟩
     ·obtain ⟨ba, h9, ae⟩ := zl ae
      obtain ⟨dx, h10, ae⟩ := zl ae
      obtain ⟨cm, h11, ae⟩ := zl ae
      obtain ⟨g2, ae⟩ := gdE ae
      obtain rfl := zj ae
      exact yB X0 hC dn ((ct ++ ([cm] : List (List Int))), w64 (gt + 1)) hl1 [Hq c6, Hi F7_ h9, Hc h01 (x := ba) h10 (loC F7_ ba <| loN), Hg (Ku h00), Hm (shM (eI .i64) (eI .i64) dx), Hs (Kv h00 (x := dx) h11 (loC F7_ dx <| loN)), Hm (shM (eI .i64) (eI .i64) dx), Hq (dM F2_ ([cm] : List (List Int))), Hn (dM F2_ ([cm] : List (List Int))), Hn (aL F2_ F2_ g2), Hl (aM F2_ ct ([cm] : List (List Int)))]
     ·obtain rfl := zj ae
      obtain rfl := hl1
      exact yB X0 hC ax ct aa [Hq c6]
def uo : Code := (Tryz.f37.body).getD .skip
abbrev We (u0 : Value) (u1 : Value) (u2 : Value) (x_ : zh) (out : List Int) : List (Nat × T) := [(3, .own (.box (.agg [.opq (wW u0 (zq (eI .i64) eB x_.states_)), .opq (wW u1 (zq F0_ eB x_.edges_)), .opq (wW u2 (zq zG eB x_.pairs_))]))), (5, .own (eOs 1 true (eI .u64) out))]
abbrev Wc (u0 : Value) (u1 : Value) (u2 : Value) (bo : List zb) (x_ : zh) (dc : Int) (a7 : List Int) : List (Nat × T) := [(3, .own (.box (.agg [.opq (wW u0 (zq (eI .i64) eB x_.states_)), .opq (wW u1 (zq F0_ eB x_.edges_)), .opq (wW u2 (zq zG eB x_.pairs_))]))), (5, .own (eOs 1 true (eI .u64) a7)), (13, .d (eSl 5 false (zc F7_ zG zC) bo)), (14, .d (I ((bo.length : Nat) : Int))), (15, .d (I dc))]
abbrev Wb (u0 : Value) (u1 : Value) (u2 : Value) (bo : List zb) (x_ : zh) (ak : List Int) (dc : Int) : List (Nat × T) := [(3, .own (.box (.agg [.opq (wW u0 (zq (eI .i64) eB x_.states_)), .opq (wW u1 (zq F0_ eB x_.edges_)), .opq (wW u2 (zq zG eB x_.pairs_))]))), (5, .own (eOs 1 true (eI .u64) ak)), (13, .d (eSl 5 false (zc F7_ zG zC) bo)), (14, .d (I ((bo.length : Nat) : Int))), (15, .d (I dc))]
theorem uJ (hC : zN Tryz.prog ctr) : ∀ (bo : List zb) (x_ : zh) (r0 : List Int), uH bo x_ = some r0 → ∀ us : List Value, us.length = 3 → u9 Tryz.prog (.fn 37 []) ([eSl 5 false (zc F7_ zG zC) bo] ++ .agg (us.map .atom) :: []) (X8 us [zq (eI .i64) eB x_.states_, zq F0_ eB x_.edges_, zq zG eB x_.pairs_]) (eSl 1 true (eI .u64) r0) ([zq (eI .i64) eB x_.states_, zq F0_ eB x_.edges_, zq zG eB x_.pairs_].map fun e => .opq (y8 e)) := by
 intro bo x_ r0 aa us hus
 obtain ⟨u0, u1, u2, rfl⟩ := zaN hus
 refine XX (tt := xX) (nt := 36) (body := uo) (B := 3) [4] (xl := [eSl 5 false (zc F7_ zG zC) bo]) (xr := []) (caps := []) (es := [zq (eI .i64) eB x_.states_, zq F0_ eB x_.edges_, zq zG eB x_.pairs_]) (es' := [zq (eI .i64) eB x_.states_, zq F0_ eB x_.edges_, zq zG eB x_.pairs_]) (us := [u0, u1, u2]) (r := eSl 1 true (eI .u64) r0) Tryz.func37 rfl (by kernel_rfl) rfl rfl (by decide) (by show (2 : Nat) ≤ 36; decide) rfl rfl (.inr ⟨_, rfl⟩) fun E hE => ?_
 try unfold uH at aa
 obtain ⟨g0, aa⟩ := gdE aa
 obtain ⟨g1, aa⟩ := gdE aa
 refine yJ X0 hC uo [1,1] [] [3,5] (fun z : List Int => jo z = some r0) (fun z => We u0 u1 u2 x_ z) [(0, .d (eSl 5 false (zc F7_ zG zC) bo)), (3, .own (.box (.agg [.opq (wW u0 (zq (eI .i64) eB x_.states_)), .opq (wW u1 (zq F0_ eB x_.edges_)), .opq (wW u2 (zq zG eB x_.pairs_))]))), (5, .own (eOs 1 true (eI .u64) (List.replicate (w64 ((w64 (Int.tdiv ((bo.length : Nat) : Int) 64)) + 1)).toNat (0 : Int))))] [Ha (lnM (zc F7_ zG zC) bo), Hn g0, Hn (rL g1), Ha (rM 1 (eI .u64) (w64 ((w64 (Int.tdiv ((bo.length : Nat) : Int) 64)) + 1)) (0 : Int)), Hh (.cut 0)] ?_ fun J1 ax => ?_
 ·rintro out aa
  unfold jo at aa
  obtain rfl := zj aa
  exact yF X0 hC .ret [(3, .own (.box (.agg [.opq (wW u0 (zq (eI .i64) eB x_.states_)), .opq (wW u1 (zq F0_ eB x_.edges_)), .opq (wW u2 (zq zG eB x_.pairs_))]))), (4, .d (eSl 1 true (eI .u64) out))] [Hh (.n 0 [5]), Hm (shM (eI .u64) (eI .u64) out)] fun st0 h0 => hE _ st0 (.inr rfl) (Jd h0 rfl rfl) (z4W (zci h0 rfl rfl))
 ·obtain ⟨t2, ht2, aa⟩ := zl aa
  refine yL X0 hC uo [1,1,2,1,0] [J1] (fun s => jn bo x_ s.1 s.2) (fun x => Wb u0 u1 u2 bo x_ x.1 x.2) ((List.replicate (w64 ((w64 (Int.tdiv ((bo.length : Nat) : Int) 64)) + 1)).toNat (0 : Int)), 0) ht2  [Ha (lnM (zc F7_ zG zC) bo)] ?_
  rintro ⟨ak, dc⟩ m2 bg ae hl1 J2 a6
  try unfold jn at ae
  rcases y5 ae with ⟨c0, ae⟩ | ⟨c0, ae⟩
  ·refine yJ X0 hC uo [1,1,2,1,0,0,1,1] [J1, J2] [3,5,13,14,15] (fun z : List Int => um dc z = some bg) (fun z => Wc u0 u1 u2 bo x_ dc z) [(3, .own (.box (.agg [.opq (wW u0 (zq (eI .i64) eB x_.states_)), .opq (wW u1 (zq F0_ eB x_.edges_)), .opq (wW u2 (zq zG eB x_.pairs_))]))), (5, .own (eOs 1 true (eI .u64) ak)), (13, .d (eSl 5 false (zc F7_ zG zC) bo)), (14, .d (I ((bo.length : Nat) : Int))), (15, .d (I dc))] [Hq c0, Hh (.cut 0)] ?_ fun J3 ca => ?_
   ·rintro a7 ae
    unfold um at ae
    obtain rfl := zj ae
    exact yB X0 hC a6 (a7, w64 (dc + 1)) hl1 []
   ·obtain ⟨ff, h0, ae⟩ := zl ae
    obtain ⟨r_, h1, ae⟩ := zl ae
    let Z0 : List HO := [Hi (zc F7_ zG zC) h0, Hn (⟨rfl, leP (show Vv [] [] from inferInstance), leP (show Vv [] [] from inferInstance), rfl, rfl⟩ : ([zC ff.has_] : List A) = [zC ff.has_] ∧ LeP [] [] ∧ LeP [] [] ∧ T.als 3 [.deref] 0 0 = T.als 3 [.deref] 0 0 ∧ (some (.agg [.opq (wW u0 (zq (eI .i64) eB x_.states_)), .opq (wW u1 (zq F0_ eB x_.edges_)), .opq (wW u2 (zq zG eB x_.pairs_))]) : Option A) = some (.agg [.opq (wW u0 (zq (eI .i64) eB x_.states_)), .opq (wW u1 (zq F0_ eB x_.edges_)), .opq (wW u2 (zq zG eB x_.pairs_))]))]
    rcases y5 ae with ⟨c1, ae⟩ | ⟨c1, ae⟩
    ·obtain ⟨g2, ae⟩ := gdE ae
     obtain ⟨dh, h2, ae⟩ := zl ae
     obtain ⟨g3, ae⟩ := gdE ae
     obtain ⟨g4, ae⟩ := gdE ae
     obtain ⟨ee, h3, ae⟩ := zl ae
     exact yB ((zfC Tryz.prog).or ((zgS Tryz.prog).or ((Y0 (P := Tryz.prog) xX 3 0 [.deref] (fa := zC ff.has_) (r := B r_) (xl := []) (xr := []) (qs := [(wW u0 (zq (eI .i64) eB x_.states_)), (wW u1 (zq F0_ eB x_.edges_)), (wW u2 (zq zG eB x_.pairs_))]) (qs' := [(wW u0 (zq (eI .i64) eB x_.states_)), (wW u1 (zq F0_ eB x_.edges_)), (wW u2 (zq zG eB x_.pairs_))]) (es := [(zq (eI .i64) eB x_.states_), (zq F0_ eB x_.edges_), (zq zG eB x_.pairs_)]) (es' := [(zq (eI .i64) eB x_.states_), (zq F0_ eB x_.edges_), (zq zG eB x_.pairs_)]) (.inr rfl) (z3J (by kernel_rfl)) (.cons (Zc u0 (zq (eI .i64) eB x_.states_)) (.cons (Zc u1 (zq F0_ eB x_.edges_)) (.cons (Zc u2 (zq zG eB x_.pairs_)) (.nil)))) (fun us hu => Y4 hC _ _ _ h1 us hu) (some 23)).or X0))) hC ca (ak.set (w64 (Int.tdiv dc 64)).toNat (orK .u64 dh (z8i .u64 1 (Int.tmod dc 64)))) ae (Z0 ++ [Hq c1, Hn g2, Hn (iL (eI .u64) h2), Hs (iM (eI .u64) h2), Hn g3, Hn g4, Hn (iL (eI .u64) h3), Hs (iM (eI .u64) h3), Hs (iM (eI .u64) h3), Hl (sM (eI .u64) ak (w64 (Int.tdiv dc 64)) (orK .u64 dh (z8i .u64 1 (Int.tmod dc 64))))])
    ·exact yB ((Y0 (P := Tryz.prog) xX 3 0 [.deref] (fa := zC ff.has_) (r := B r_) (xl := []) (xr := []) (qs := [(wW u0 (zq (eI .i64) eB x_.states_)), (wW u1 (zq F0_ eB x_.edges_)), (wW u2 (zq zG eB x_.pairs_))]) (qs' := [(wW u0 (zq (eI .i64) eB x_.states_)), (wW u1 (zq F0_ eB x_.edges_)), (wW u2 (zq zG eB x_.pairs_))]) (es := [(zq (eI .i64) eB x_.states_), (zq F0_ eB x_.edges_), (zq zG eB x_.pairs_)]) (es' := [(zq (eI .i64) eB x_.states_), (zq F0_ eB x_.edges_), (zq zG eB x_.pairs_)]) (.inr rfl) (z3J (by kernel_rfl)) (.cons (Zc u0 (zq (eI .i64) eB x_.states_)) (.cons (Zc u1 (zq F0_ eB x_.edges_)) (.cons (Zc u2 (zq zG eB x_.pairs_)) (.nil)))) (fun us hu => Y4 hC _ _ _ h1 us hu) (some 23)).or X0) hC ca ak ae (Z0 ++ [Hq c1])
  ·obtain rfl := zj ae
   obtain rfl := hl1
   exact yB X0 hC ax ak aa [Hq c0]
def xS : Code := (Tryz.f54.body).getD .skip
def yH : yd := spF (α := List Int × List Int) (ρ := Bool) 54 (fun x => [F8_ x.1, F8_ x.2]) (fun r => eB r) (fun x => wr x.1 x.2) [] (VT)
abbrev j4 : List (Nat × T) := []
abbrev qZ (s1 : List Int) (s2 : List Int) (ga : Int) : List (Nat × T) := [(0, .d (eSl 1 false (eI .u64) s1)), (1, .d (eSl 1 false (eI .u64) s2)), (12, .d (I ((s1.length : Nat) : Int))), (13, .d (I ga))]
theorem kj (hC : zN Tryz.prog ctr) : yH.Ok Tryz.prog := by
 refine zT ?_
 rintro ⟨s1, s2⟩ r0 aa
 try unfold wr at aa
 refine yO true [(4, none)] xS 26 Tryz.func54 fun E hE => ?_
 let Z0 : List HO := [Ha (lnM (eI .u64) s1), Ha (lnM (eI .u64) s2)]
 rcases y5 aa with ⟨c0, aa⟩ | ⟨c0, aa⟩
 ·obtain rfl := zj aa
  exact yE X0 hC hE (Z0 ++ [Hq c0])
 ·refine yJ X0 hC xS [1,1] [] [] (fun z : Unit => xR = some r0) (fun z => j4) [(0, .d (eSl 1 false (eI .u64) s1)), (1, .d (eSl 1 false (eI .u64) s2))] (Z0 ++ [Hq c0, Hh (.cut 0)]) ?_ fun J1 ax => ?_
  ·rintro ⟨⟩ aa
   unfold xR at aa
   obtain rfl := zj aa
   exact yE X0 hC hE []
  ·obtain ⟨t2, ht2, aa⟩ := zl aa
   refine yL X0 hC xS [1,1,2,1,0] [J1] (fun s => xQ s1 s2 s) (fun x => qZ s1 s2 x) 0 ht2  [Ha (lnM (eI .u64) s1)] ?_
   rintro ga m2 bg ae hl1 J2 a6
   try unfold xQ at ae
   rcases y5 ae with ⟨c1, ae⟩ | ⟨c1, ae⟩
   ·obtain ⟨gn, h0, ae⟩ := zl ae
    obtain ⟨fx, h1, ae⟩ := zl ae
    let Z1 : List HO := [Hq c1, Hi (eI .u64) h0, Hi (eI .u64) h1]
    rcases y5 ae with ⟨c2, ae⟩ | ⟨c2, ae⟩
    ·obtain rfl := zj ae
     obtain rfl := hl1
     obtain rfl := zj aa
     exact yE X0 hC hE (Z1 ++ [Hq c2])
    ·obtain rfl := zj ae
     exact yB X0 hC a6 (w64 (ga + 1)) hl1 (Z1 ++ [Hq c2])
   ·obtain rfl := zj ae
    obtain rfl := hl1
    exact yB X0 hC ax () aa [Hq c1]
def ka : Code := (Tryz.f55.body).getD .skip
def yI : yd := spF (α := List Int) (ρ := List Int) 55 (fun x => [F8_ x]) (fun r => (eOs 1 false (eI .u64)) r) (fun x => ws x) [] (JL)
theorem kl (hC : zN Tryz.prog ctr) : yI.Ok Tryz.prog := by
 refine zT ?_
 rintro s_ r0 aa
 try unfold ws at aa
 refine yO true [(2, none)] ka 8 Tryz.func55 fun E hE => ?_
 refine z2u rfl 0 (sz := 1) (t := false) (es := s_.map (eI .u64)) (by kernel_rfl) fun ay hv0 hn => ?_
 rcases hn with ⟨hn0, he0⟩ | hn0
 ·obtain ⟨_, aa⟩ := gdE aa
  rw [show s_ = [] from List.map_eq_nil_iff.1 he0] at aa
  obtain rfl := zj aa
  exact yEx ((zaH zB 4 91 (by kernel_rfl) hn0).or ((xMv Tryz.prog 3 0 ay hv0).or X0)) hC hE [Hn (rfl : some ay = some ay), Hn (⟨rfl, rfl⟩ : T.d (.atom ay) = T.d (.atom ay) ∧ T.d (.atom (.slice none 0 0)) = T.d (.atom (.slice none 0 0))), qT] (eOs 1 true (eI .u64) []) (show LeV (eOs 1 true (eI .u64) []) (eOs 1 false (eI .u64) ([] : List Int)) from inferInstance)
 ·obtain ⟨g0, aa⟩ := gdE aa
  obtain rfl := zj aa
  exact yE ((zaH zB 4 91 (by kernel_rfl) hn0).or ((xMv Tryz.prog 3 0 ay hv0).or X0)) hC hE [Hn (rfl : some ay = some ay), Hn (⟨rfl, rfl⟩ : T.d (.atom ay) = T.d (.atom ay) ∧ T.d (.atom (.slice none 0 0)) = T.d (.atom (.slice none 0 0))), qF, Hn (dM (eI .u64) s_), Hn (aL (eI .u64) (eI .u64) g0), Hl (aM0 (eI .u64) s_)]
def ya : Code := (Tryz.f38.body).getD .skip
def wc : yd := spF (α := zz × List Int × Int × Int) (ρ := List Int × Bool) 38 (fun x => [zdL x.1, F8_ x.2.1, (eI .i64) x.2.2.1, (eI .i64) x.2.2.2]) (fun r => .tup [F7_ r.1, eB r.2]) (fun x => qp x.1 x.2.1 x.2.2.1 x.2.2.2) [] (zgy)
abbrev jP : List (Nat × T) := []
abbrev jO (c_ : zz) (bt : List Int) (many : Int) (i_ : Int) : List (Nat × T) := [(0, .d (.sptr (z8O c_))), (1, .d (eSl 1 false (eI .u64) bt)), (3, .d (I many)), (10, .d (I i_))]
abbrev jN (c_ : zz) (bt : List Int) (many : Int) (i_ : Int) (eu : List Int) : List (Nat × T) := [(0, .d (.sptr (z8O c_))), (1, .d (eSl 1 false (eI .u64) bt)), (3, .d (I many)), (10, .d (I i_)), (11, .own (eOs 1 false (eI .u64) eu))]
abbrev jL (c_ : zz) (bt : List Int) (many : Int) (i_ : Int) (cw : List Int) (dl : List Int) (dg : Int) : List (Nat × T) := [(0, .d (.sptr (z8O c_))), (1, .d (eSl 1 false (eI .u64) bt)), (3, .d (I many)), (10, .d (I i_)), (11, .own (eOs 1 false (eI .u64) dl)), (44, .d (eSl 1 false (eI .u64) cw)), (45, .d (I ((cw.length : Nat) : Int))), (46, .d (I dg))]
abbrev jM (c_ : zz) (bt : List Int) (many : Int) (i_ : Int) : List (Nat × T) := [(0, .d (.sptr (z8O c_))), (1, .d (eSl 1 false (eI .u64) bt)), (3, .d (I many)), (10, .d (I i_))]
theorem jg : ∀ (x y : zz × List Int × Int × Int), (fun x => [zdL x.1, F8_ x.2.1, (eI .i64) x.2.2.1, (eI .i64) x.2.2.2]) x = (fun x => [zdL x.1, F8_ x.2.1, (eI .i64) x.2.2.1, (eI .i64) x.2.2.2]) y → x = y := zgy
def xP (dr : zz → (List Int) → Int → Int → Option (List Int × Bool)) : yd := spF (α := zz × List Int × Int × Int) (ρ := List Int × Bool) 38 (fun x => [zdL x.1, F8_ x.2.1, (eI .i64) x.2.2.1, (eI .i64) x.2.2.2]) (fun r => .tup [F7_ r.1, eB r.2]) (fun x => dr x.1 x.2.1 x.2.2.1 x.2.2.2) [] (by
 intro x y h
 exact (congrArg (fun (p : zz × List Int × Int × Int) => p) (show x = y from jg x y h)))
theorem kn (hC : zN Tryz.prog ctr) (h0i : ctr.Has yH) (h0j : ctr.Has yI) (dr : zz → (List Int) → Int → Int → Option (List Int × Bool)) (h0a : ctr.Has (xP dr)) : (xP (ww dr)).Ok Tryz.prog := by
 refine zT ?_
 rintro ⟨c_, bt, from_, many⟩ r0 aa
 try unfold ww at aa
 refine yO false [(8, none), (9, none)] ya 74 Tryz.func38 fun E hE => ?_
 rcases y5 aa with ⟨c0, aa⟩ | ⟨c0, aa⟩
 ·obtain ⟨r_, h0, aa⟩ := zl aa
  obtain rfl := zj aa
  exact yEx X0 hC hE [Hq c0, Hc h0i (x := (bt, c_.want_)) h0 (loC F8_ bt <| loC F8_ c_.want_ <| loN), Hm (shM (eI .i64) (eI .i64) [])] (.tup [eSl 1 true (eI .i64) [], B r_]) (show LeV (.tup [eSl 1 true (eI .i64) [], B r_]) (.tup [eSl 1 false (eI .i64) ([] : List Int), B r_]) from inferInstance)
 ·refine yJ X0 hC ya [1,1] [] [] (fun z : Unit => wo = some r0) (fun z => jP) [(0, .d (.sptr (z8O c_))), (1, .d (eSl 1 false (eI .u64) bt)), (2, .d (I from_)), (3, .d (I many))] [Hq c0, Hh (.cut 0)] ?_ fun J1 ax => ?_
  ·rintro ⟨⟩ aa
   unfold wo at aa
   obtain rfl := zj aa
   exact yEx X0 hC hE [Hm (shM (eI .i64) (eI .i64) [])] (.tup [eSl 1 true (eI .i64) [], B false]) (show LeV (.tup [eSl 1 true (eI .i64) [], B false]) (.tup [eSl 1 false (eI .i64) ([] : List Int), B false]) from inferInstance)
  ·obtain ⟨t2, ht2, aa⟩ := zl aa
   refine yL X0 hC ya [1,1,2,1,0] [J1] (fun s => wk c_ bt many dr s) (fun x => jM c_ bt many x) from_ ht2  [] ?_
   rintro i_ m2 bg ae hl1 J2 a6
   try unfold wk at ae
   let Z0 : List HO := [Ha (lnM F8_ c_.sets_)]
   rcases y5 ae with ⟨c1, ae⟩ | ⟨c1, ae⟩
   ·refine yJ X0 hC ya [1,1,2,1,0,0,1] [J1, J2] [0,1,3,10] (fun z : Unit => wn i_ = some bg) (fun z => jO c_ bt many i_) [(0, .d (.sptr (z8O c_))), (1, .d (eSl 1 false (eI .u64) bt)), (3, .d (I many)), (10, .d (I i_))] (Z0 ++ [Hq c1, Hh (.cut 0)]) ?_ fun J3 ca => ?_
    ·rintro ⟨⟩ ae
     unfold wn at ae
     obtain rfl := zj ae
     exact yB X0 hC a6 (w64 (i_ + 1)) hl1 []
    ·obtain ⟨ah, h1, ae⟩ := zl ae
     refine yJ X0 hC ya [1,1,2,1,0,0,1,2,0,1] [J1, J2, J3] [0,1,3,10,11] (fun z : List Int => wm c_ many dr i_ z = some bg) (fun z => jN c_ bt many i_ z) [(0, .d (.sptr (z8O c_))), (1, .d (eSl 1 false (eI .u64) bt)), (3, .d (I many)), (10, .d (I i_)), (11, .own (eOs 1 false (eI .u64) ah))] [Hc h0j (x := bt) h1 (loC F8_ bt <| loN), Hh (.cut 0)] ?_ fun J4 d0 => ?_
     ·rintro eu ae
      unfold wm at ae
      obtain ⟨am, h2, ae⟩ := zl ae
      let Z1 : List HO := [Hg (Ku h0a), Hm (shM (eI .u64) (eI .u64) eu), Hs (Kv h0a (x := (c_, eu, w64 (i_ + 1), w64 (many - 1))) h2 (loC zdL c_ <| loC F8_ eu <| loC (eI .i64) (w64 (i_ + 1)) <| loC (eI .i64) (w64 (many - 1)) <| loN)), Hm (shM (eI .u64) (eI .u64) eu)]
      rcases y5 ae with ⟨c2, ae⟩ | ⟨c2, ae⟩
      ·obtain ⟨g0, ae⟩ := gdE ae
       obtain rfl := zj ae
       obtain rfl := hl1
       obtain rfl := zj aa
       exact yE X0 hC hE (Z1 ++ [Hq c2, Hn (dM (eI .i64) am.1), Hn (aL (eI .i64) (eI .i64) g0), Hl (aM (eI .i64) ([i_] : List Int) am.1), Hm (shM (eI .i64) (eI .i64) (([i_]) ++ am.1))])
      ·exact yB X0 hC ca () ae (Z1 ++ [Hq c2])
     ·obtain ⟨cw, h3, ae⟩ := zl ae
      obtain ⟨t5, ht5, ae⟩ := zl ae
      refine yL X0 hC ya [1,1,2,1,0,0,1,2,0,1,2,1,0] [J1, J2, J3, J4] (fun s => wj cw s.1 s.2) (fun x => jL c_ bt many i_ cw x.1 x.2) (ah,0) ht5  [Hi F8_ h3, Ha (lnM (eI .u64) cw)] ?_
      rintro ⟨dl, dg⟩ m5 fg ai hl2 J5 dn
      try unfold wj at ai
      rcases y5 ai with ⟨c3, ai⟩ | ⟨c3, ai⟩
      ·obtain ⟨ew, h4, ai⟩ := zl ai
       obtain ⟨fq, h5, ai⟩ := zl ai
       obtain ⟨ic, h6, ai⟩ := zl ai
       obtain rfl := zj ai
       exact yB ((zfC Tryz.prog).or X0) hC dn ((dl.set dg.toNat (orK .u64 fq ew)), w64 (dg + 1)) hl2 [Hq c3, Hi (eI .u64) h4, Hn (iL (eI .u64) h5), Hs (iM (eI .u64) h5), Hn (iL (eI .u64) h6), Hs (iM (eI .u64) h6), Hs (iM (eI .u64) h6), Hl (sM (eI .u64) dl dg (orK .u64 fq ew))]
      ·obtain rfl := zj ai
       obtain rfl := hl2
       exact yB X0 hC d0 dl ae [Hq c3]
   ·obtain rfl := zj ae
    obtain rfl := hl1
    exact yB X0 hC ax () aa (Z0 ++ [Hq c1])
theorem Zw (hC : zN Tryz.prog ctr) (h0i : ctr.Has yH) (h0j : ctr.Has yI) : wc.Ok Tryz.prog := by
 have H : ∀ n, (xP (uq n)).Ok Tryz.prog := by
  intro n
  induction n with
  | zero => exact zT fun _ _ h => nomatch (show none = some _ from h)
  | succ n ih => exact kn (Ctr.add_ok hC ih) (h0i.add (by show (54 : Nat) ≠ 38; decide)) (h0j.add (by show (55 : Nat) ≠ 38; decide)) _ (Ctr.add_has _ _)
 exact zT fun x r h => z0S (H _) h
end Go.Own
end
