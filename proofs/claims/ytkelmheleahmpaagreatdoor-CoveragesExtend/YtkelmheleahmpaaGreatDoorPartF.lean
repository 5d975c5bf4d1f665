/- -/
import Derived.Test.YtkelmheleahmpaaGreatDoorPartE
noncomputable section
set_option linter.unusedVariables false
set_option linter.unusedSimpArgs false
namespace Go.Own
open Go.Proofs
set_option maxRecDepth 100000
set_option maxHeartbeats 8000000
def X0 : XH Tryz.prog := xB zD
theorem XT : Tryz.prog.follows .mixedOrders = true := by kernel_rfl
variable {rs : List (Nat × Option Nat)}{σ : Type}{keep : Bool}{r : A}
section
variable {ctr : Ctr} {n : Fr} {Q : Exit → St → Prop} {c : Code} {fs : List Fm} {st : St}
theorem yE (X : XH Tryz.prog) (hC : zM Tryz.prog ctr) {E : St → Prop}    (hE : ∀ st x R U, z5A wm keep rs st = some (x, R, U) → LeV x r → E st) (L : List HO) (e : zbA X wm ctr n keep rs 4000 c fs st (hoH L) = some (r, hoO L) := by kernel_rfl) : AWP Tryz.prog n c st (Qf Tryz.prog n fs (z4O E)) := yE6 X zD hC XT hE L e
theorem yEx (X : XH Tryz.prog) (hC : zM Tryz.prog ctr) {E : St → Prop}    (hE : ∀ st x R U, z5A wm keep rs st = some (x, R, U) → LeV x r → E st) (L : List HO) (x : A) (hle : LeV x r) (e : zbA X wm ctr n keep rs 4000 c fs st (hoH L) = some (x, hoO L) := by kernel_rfl) : AWP Tryz.prog n c st (Qf Tryz.prog n fs (z4O E)) := zhA X zD hC XT hE L x hle e
theorem yB (X : XH Tryz.prog) (hC : zM Tryz.prog ctr) {τ : Type} {J : St → Prop} {live : List Nat} {S : τ → List (Nat × T)} {Inv : τ → Prop} (hJ : ∀ st' l' z, Inv z → Own.canon live st' = ofL l' → LeL l' (S z) → J st') (z : τ) (hz : Inv z) (L : List HO) (e : z1c X wm ctr n live 4000 c fs st (hoH L) = some (.back J, ofL (S z), hoO L) := by kernel_rfl) : AWP Tryz.prog n c st (Qf Tryz.prog n fs Q) := yB6 X zD hC XT hJ z hz L e
theorem yA (X : XH Tryz.prog) (hC : zM Tryz.prog ctr) (bd : Code) (path : List Nat) (Js : List (St → Prop)) (l : List (Nat × T)) (L : List HO) (h : AWP Tryz.prog n (sub path bd) (ofL l) (Qf Tryz.prog n (frs path Js bd []) Q)) (e : z1c X wm ctr n (WT l) 4000 c fs st (hoH L) = some (.at (sub path bd) (frs path Js bd []), ofL l, hoO L) := by kernel_rfl) : AWP Tryz.prog n c st (Qf Tryz.prog n fs Q) := yA6 X zD hC XT bd path Js l L e h
theorem yAt (X : XH Tryz.prog) (hC : zM Tryz.prog ctr) (c' : Code) (fs' : List Fm) (l : List (Nat × T)) (L : List HO) (h : ∀ st0, Own.canon (WT l) st0 = ofL l → AWP Tryz.prog n c' st0 (Qf Tryz.prog n fs' Q)) (e : z1c X wm ctr n (WT l) 4000 c fs st (hoH L) = some (.at c' fs', ofL l, hoO L) := by kernel_rfl) : AWP Tryz.prog n c st (Qf Tryz.prog n fs Q) := zhB X zD hC XT c' fs' l L e h
theorem yLx (X : XH Tryz.prog) (hC : zM Tryz.prog ctr) (bd : Code) (path : List Nat) (Js : List (St → Prop)) {σ τ : Type} (f : σ → Option (LR σ τ)) (S : σ → List (Nat × T)) (x0 : σ) {t : τ} (ht : loop f x0 = some t) (l : List (Nat × T)) (hl : LeL l (S x0)) (L : List HO) (round : ∀ x m lr, f x = some lr → zeL f m t lr → ∀ J : St → Prop, (∀ st' l' x', WS f m x' = some t → Own.canon (WT l) st' = ofL l' → LeL l' (S x') → J st') → AWP Tryz.prog n (sub (path ++ [0]) bd) (ofL (S x)) (Qf Tryz.prog n (.pre J :: frs path Js bd []) Q)) (e : z1c X wm ctr n (WT l) 4000 c fs st (hoH L) = some (.at (sub path bd) (frs path Js bd []), ofL l, hoO L) := by kernel_rfl) (e2 : sub path bd = .loop (sub (path ++ [0]) bd) := by kernel_rfl) (hk : ∀ x, WT (S x) = WT l := by exact fun _ => rfl) : AWP Tryz.prog n c st (Qf Tryz.prog n fs Q) := yL6 X zD hC XT bd path Js f S x0 ht l hl L hk e e2 round
theorem yL (X : XH Tryz.prog) (hC : zM Tryz.prog ctr) (bd : Code) (path : List Nat) (Js : List (St → Prop)) {σ τ : Type} (f : σ → Option (LR σ τ)) (S : σ → List (Nat × T)) (x0 : σ) {t : τ} (ht : loop f x0 = some t) (L : List HO) (round : ∀ x m lr, f x = some lr → zeL f m t lr → ∀ J : St → Prop, (∀ st' l' x', WS f m x' = some t → Own.canon (WT (S x0)) st' = ofL l' → LeL l' (S x') → J st') → AWP Tryz.prog n (sub (path ++ [0]) bd) (ofL (S x)) (Qf Tryz.prog n (.pre J :: frs path Js bd []) Q)) (e : z1c X wm ctr n (WT (S x0)) 4000 c fs st (hoH L) = some (.at (sub path bd) (frs path Js bd []), ofL (S x0), hoO L) := by kernel_rfl) (e2 : sub path bd = .loop (sub (path ++ [0]) bd) := by kernel_rfl) (hk : ∀ x, WT (S x) = WT (S x0) := by exact fun _ => rfl) : AWP Tryz.prog n c st (Qf Tryz.prog n fs Q) := yL6 X zD hC XT bd path Js f S x0 ht _ (LeL.refl _) L hk e e2 round
theorem yJ (X : XH Tryz.prog) (hC : zM Tryz.prog ctr) (bd : Code) (path : List Nat) (Js : List (St → Prop))  (live : List Nat) (Inv : σ → Prop) (S : σ → List (Nat × T)) (l : List (Nat × T)) (L : List HO) (h1 : ∀ z, Inv z → AWP Tryz.prog n (sub (path ++ [1]) bd) (ofL (S z)) (Qf Tryz.prog n (frs path Js bd []) Q)) (h2 : ∀ J : St → Prop, (∀ st' l' z, Inv z → Own.canon live st' = ofL l' → LeL l' (S z) → J st') → AWP Tryz.prog n (sub (path ++ [2]) bd) (ofL l) (Qf Tryz.prog n (.pre J :: frs path Js bd []) Q)) (e : z1c X wm ctr n (WT l) 4000 c fs st (hoH L) = some (.at (sub path bd) (frs path Js bd []), ofL l, hoO L) := by kernel_rfl) (e2 : sub path bd = .seq (sub (path ++ [2]) bd) (sub (path ++ [1]) bd) := by kernel_rfl) : AWP Tryz.prog n c st (Qf Tryz.prog n fs Q) := yJ6 X zD hC XT bd path Js live Inv S l L e e2 h1 h2
theorem yF (X : XH Tryz.prog) (hC : zM Tryz.prog ctr) (ex : Exit) (l : List (Nat × T)) (L : List HO) (h : ∀ st0, Own.canon (WT l) st0 = ofL l → Q ex st0) (e : z1c X wm ctr n (WT l) 4000 c fs st (hoH L) = some (.fin ex, ofL l, hoO L) := by kernel_rfl) : AWP Tryz.prog n c st (Qf Tryz.prog n fs Q) := yF6 X zD hC XT ex l L e h
theorem yO {k : Nat} {fn : Func}  {ls : List A} (keep : Bool) (rs : List (Nat × Option Nat)) (body : Code) (nt : Nat) (hf : Tryz.prog.funcs[k]? = some fn) (h : ∀ E : St → Prop, (∀ st x R U, z5A wm keep rs st = some (x, R, U) → LeV x r → E st) → AWP Tryz.prog ⟨nt, []⟩ body (ofL (z6h 0 ls)) (Qf Tryz.prog ⟨nt, []⟩ [] (z4O E))) (hb : fn.body = some body := by kernel_rfl) (hn : nt = fn.ntmps := by exact rfl) (hr : fn.results = (rs.map z1r).toArray := by exact rfl) (hnm : (fn.name == "runtime.NumGoroutine") = false := by exact rfl) (ha : Nat.ble ls.length nt = true := by kernel_rfl) : Xo Tryz.prog k ls r := yO6 zD keep rs body nt hf hb hn hr hnm ha h
end
theorem z86 : z4j Tryz.prog 67 3 4 (JM .i64) (.atom (.bool false)) := z87 Tryz.underlying67 Tryz.underlying3 ⟨.bool false, fun w => z0f (f := Tryz.t4) (by kernel_rfl) rfl w, fun S => wW.2 ⟨rfl, rfl⟩⟩ rfl
theorem zaR : z4j Tryz.prog 68 34 4 (Vu [.i64, .i64]) (.atom (.bool false)) := z3K Tryz.underlying68 _ Tryz.underlying34 (Go.Ex.z9q.eqn rfl) (z59.eqn rfl) rfl ⟨.bool false, fun w => z0f (f := Tryz.t4) (by kernel_rfl) rfl w, fun S => wW.2 ⟨rfl, rfl⟩⟩ rfl
theorem zaQ : z4j Tryz.prog 69 61 4 (Vu [.i64, .i64, .i64]) (.atom (.bool false)) := z3K Tryz.underlying69 _ Tryz.underlying61 (Go.Ex.z9p.eqn rfl) (z58.eqn rfl) rfl ⟨.bool false, fun w => z0f (f := Tryz.t4) (by kernel_rfl) rfl w, fun S => wW.2 ⟨rfl, rfl⟩⟩ rfl
theorem z8r : z4k Tryz.prog 105 0 3 0 := z6t Tryz.underlying105 _ rfl rfl rfl
theorem zeZ : zbu Tryz.prog 66 1 false := z7G zD (t := 51) Tryz.so66 rfl rfl (by kernel_rfl) (by decide)
def v8 : Code := (Tryz.f20.body).getD .skip
def YS : yj := spF (α := yk) (ρ := z6) 20 (fun x => [KG x]) (fun r => yh r) (fun x => YA x) [] (Kz)
abbrev QA (x_ : yk) (fh : List (List ze)) : List (Nat × T) := [(2, .own (.box (.agg [I 0, I 0, eOs 1 true ue []]))), (4, .own (.box (.agg [I (w64 (1 + (w64 (Int.tmod x_.Inputs 3)))), I (w64 (1 + (w64 (Int.tmod x_.Outputs 3)))), eOs 1 false z1e fh])))]
abbrev Qz (x_ : yk) (s_ : Int) (ez : List (List ze)) : List (Nat × T) := [(1, .own (.box (KG x_))), (2, .own (.box (.agg [I 0, I 0, eOs 1 true ue []]))), (3, .d (I (w64 (1 + (w64 (Int.tmod x_.States 6)))))), (4, .own (.box (.agg [I (w64 (1 + (w64 (Int.tmod x_.Inputs 3)))), I (w64 (1 + (w64 (Int.tmod x_.Outputs 3)))), eOs 1 false z1e ez]))), (5, .d (I s_))]
abbrev Qy (x_ : yk) (ba : List (List ze)) (s_ : Int) (row : List ze) : List (Nat × T) := [(1, .own (.box (KG x_))), (2, .own (.box (.agg [I 0, I 0, eOs 1 true ue []]))), (3, .d (I (w64 (1 + (w64 (Int.tmod x_.States 6)))))), (4, .own (.box (.agg [I (w64 (1 + (w64 (Int.tmod x_.Inputs 3)))), I (w64 (1 + (w64 (Int.tmod x_.Outputs 3)))), eOs 1 false z1e ba]))), (5, .d (I s_)), (6, .own (eOs 2 false F9_ row))]
abbrev Qx (x_ : yk) (ba : List (List ze)) (s_ : Int) (i_ : Int) (gi : List ze) : List (Nat × T) := [(1, .own (.box (KG x_))), (2, .own (.box (.agg [I 0, I 0, eOs 1 true ue []]))), (3, .d (I (w64 (1 + (w64 (Int.tmod x_.States 6)))))), (4, .own (.box (.agg [I (w64 (1 + (w64 (Int.tmod x_.Inputs 3)))), I (w64 (1 + (w64 (Int.tmod x_.Outputs 3)))), eOs 1 false z1e ba]))), (5, .d (I s_)), (6, .own (eOs 2 false F9_ gi)), (7, .d (I i_))]
abbrev Qw (x_ : yk) (ba : List (List ze)) (s_ : Int) (cj : List ze) (i_ : Int) (v_ : Int) : List (Nat × T) := [(1, .own (.box (KG x_))), (2, .own (.box (.agg [I 0, I 0, eOs 1 true ue []]))), (3, .d (I (w64 (1 + (w64 (Int.tmod x_.States 6)))))), (4, .own (.box (.agg [I (w64 (1 + (w64 (Int.tmod x_.Inputs 3)))), I (w64 (1 + (w64 (Int.tmod x_.Outputs 3)))), eOs 1 false z1e ba]))), (5, .d (I s_)), (6, .own (eOs 2 false F9_ cj)), (7, .d (I i_)), (8, .d (I v_))]
abbrev Qu (x_ : yk) (ba : List (List ze)) (s_ : Int) (cj : List ze) (i_ : Int) : List (Nat × T) := [(1, .own (.box (KG x_))), (2, .own (.box (.agg [I 0, I 0, eOs 1 true ue []]))), (3, .d (I (w64 (1 + (w64 (Int.tmod x_.States 6)))))), (4, .own (.box (.agg [I (w64 (1 + (w64 (Int.tmod x_.Inputs 3)))), I (w64 (1 + (w64 (Int.tmod x_.Outputs 3)))), eOs 1 false z1e ba]))), (5, .d (I s_)), (6, .own (eOs 2 false F9_ cj)), (7, .d (I i_))]
abbrev Qv (x_ : yk) (ba : List (List ze)) (s_ : Int) : List (Nat × T) := [(1, .own (.box (KG x_))), (2, .own (.box (.agg [I 0, I 0, eOs 1 true ue []]))), (3, .d (I (w64 (1 + (w64 (Int.tmod x_.States 6)))))), (4, .own (.box (.agg [I (w64 (1 + (w64 (Int.tmod x_.Inputs 3)))), I (w64 (1 + (w64 (Int.tmod x_.Outputs 3)))), eOs 1 false z1e ba]))), (5, .d (I s_))]
variable {ctr : Ctr}
theorem z1n (hC : zM Tryz.prog ctr) : YS.Ok Tryz.prog := by
 refine zS ?_
 rintro x_ r0 aa
 try unfold YA at aa
 refine yO false [(2, some 30)] v8 87 Tryz.func20 fun E hE => ?_
 obtain ⟨g0, aa⟩ := gdE aa
 obtain ⟨g1, aa⟩ := gdE aa
 obtain ⟨g2, aa⟩ := gdE aa
 refine yJ X0 hC v8 [1,1,1] [] [2,4] (fun z : List (List ze) => Zf x_ z = some r0) (fun z => QA x_ z) [(1, .own (.box (KG x_))), (2, .own (.box (.agg [I 0, I 0, eOs 1 true ue []]))), (3, .d (I (w64 (1 + (w64 (Int.tmod x_.States 6)))))), (4, .own (.box (.agg [I (w64 (1 + (w64 (Int.tmod x_.Inputs 3)))), I (w64 (1 + (w64 (Int.tmod x_.Outputs 3)))), eOs 1 true ue []])))] [Hn g0, Hn g1, Hn g2, Hh (.cut 3)] ?_ fun J1 az => ?_
 ·rintro fh aa
  unfold Zf at aa
  obtain rfl := zi aa
  exact yE X0 hC hE [Hm (shM z1e ue fh)]
 ·obtain ⟨t2, ht2, aa⟩ := zl aa
  refine yLx X0 hC v8 [1,1,1,2,1,0] [J1] (fun s => Zc x_ s.1 s.2) (fun x => Qv x_ x.1 x.2) (([] : List (List ze)), 0) ht2 [(1, .own (.box (KG x_))), (2, .own (.box (.agg [I 0, I 0, eOs 1 true ue []]))), (3, .d (I (w64 (1 + (w64 (Int.tmod x_.States 6)))))), (4, .own (.box (.agg [I (w64 (1 + (w64 (Int.tmod x_.Inputs 3)))), I (w64 (1 + (w64 (Int.tmod x_.Outputs 3)))), eOs 1 true z1e []]))), (5, .d (I 0))] inferInstance [] ?_
  rintro ⟨ba, s_⟩ m2 bh ae hl1 J2 a8
  try unfold Zc at ae
  rcases y6 ae with ⟨c0, ae⟩ | ⟨c0, ae⟩
  ·refine yJ X0 hC v8 [1,1,1,2,1,0,0,1] [J1, J2] [1,2,3,4,5] (fun z : List (List ze) => Ze s_ z = some bh) (fun z => Qz x_ s_ z) [(1, .own (.box (KG x_))), (2, .own (.box (.agg [I 0, I 0, eOs 1 true ue []]))), (3, .d (I (w64 (1 + (w64 (Int.tmod x_.States 6)))))), (4, .own (.box (.agg [I (w64 (1 + (w64 (Int.tmod x_.Inputs 3)))), I (w64 (1 + (w64 (Int.tmod x_.Outputs 3)))), eOs 1 false z1e ba]))), (5, .d (I s_))] [Hq c0, Hh (.cut 0)] ?_ fun J3 bz => ?_
   ·rintro ez ae
    unfold Ze at ae
    obtain rfl := zi ae
    exact yB X0 hC a8 (ez, w64 (s_ + 1)) hl1 []
   ·refine yJ X0 hC v8 [1,1,1,2,1,0,0,1,2,0,1] [J1, J2, J3] [1,2,3,4,5,6] (fun z : List ze => Zd ba s_ z = some bh) (fun z => Qy x_ ba s_ z) [(1, .own (.box (KG x_))), (2, .own (.box (.agg [I 0, I 0, eOs 1 true ue []]))), (3, .d (I (w64 (1 + (w64 (Int.tmod x_.States 6)))))), (4, .own (.box (.agg [I (w64 (1 + (w64 (Int.tmod x_.Inputs 3)))), I (w64 (1 + (w64 (Int.tmod x_.Outputs 3)))), eOs 1 false z1e ba]))), (5, .d (I s_)), (6, .own (eOs 2 true F9_ []))] [Hh (.cut 1)] ?_ fun J4 dr => ?_
    ·rintro row ae
     unfold Zd at ae
     obtain ⟨g3, ae⟩ := gdE ae
     exact yB X0 hC bz (ba ++ ([row] : List (List ze))) ae [Hq (oC z1e row []), Hn (aL z1e z1e g3), Hl (aM z1e ba ([row] : List (List ze)))]
    ·obtain ⟨t5, ht5, ae⟩ := zl ae
     refine yLx X0 hC v8 [1,1,1,2,1,0,0,1,2,0,1,2,1,0] [J1, J2, J3, J4] (fun s => j6 x_ s_ s.1 s.2) (fun x => Qu x_ ba s_ x.1 x.2) (([] : List ze), 0) ht5 [(1, .own (.box (KG x_))), (2, .own (.box (.agg [I 0, I 0, eOs 1 true ue []]))), (3, .d (I (w64 (1 + (w64 (Int.tmod x_.States 6)))))), (4, .own (.box (.agg [I (w64 (1 + (w64 (Int.tmod x_.Inputs 3)))), I (w64 (1 + (w64 (Int.tmod x_.Outputs 3)))), eOs 1 false z1e ba]))), (5, .d (I s_)), (6, .own (eOs 2 true F9_ [])), (7, .d (I 0))] inferInstance [] ?_
     rintro ⟨cj, i_⟩ m5 fe aj hl2 J5 dg
     try unfold j6 at aj
     rcases y6 aj with ⟨c1, aj⟩ | ⟨c1, aj⟩
     ·refine yJ X0 hC v8 [1,1,1,2,1,0,0,1,2,0,1,2,1,0,0,1] [J1, J2, J3, J4, J5] [1,2,3,4,5,6,7] (fun z : List ze => j7 i_ z = some fe) (fun z => Qx x_ ba s_ i_ z) [(1, .own (.box (KG x_))), (2, .own (.box (.agg [I 0, I 0, eOs 1 true ue []]))), (3, .d (I (w64 (1 + (w64 (Int.tmod x_.States 6)))))), (4, .own (.box (.agg [I (w64 (1 + (w64 (Int.tmod x_.Inputs 3)))), I (w64 (1 + (w64 (Int.tmod x_.Outputs 3)))), eOs 1 false z1e ba]))), (5, .d (I s_)), (6, .own (eOs 2 false F9_ cj)), (7, .d (I i_))] [Hq c1, Hh (.cut 0)] ?_ fun J6 eu => ?_
      ·rintro gi aj
       unfold j7 at aj
       obtain rfl := zi aj
       exact yB X0 hC dg (gi, w64 (i_ + 1)) hl2 []
      ·refine yJ X0 hC v8 [1,1,1,2,1,0,0,1,2,0,1,2,1,0,0,1,2,0,1] [J1, J2, J3, J4, J5, J6] [1,2,3,4,5,6,7,8] (fun z : Int => vR x_ cj i_ z = some fe) (fun z => Qw x_ ba s_ cj i_ z) [(1, .own (.box (KG x_))), (2, .own (.box (.agg [I 0, I 0, eOs 1 true ue []]))), (3, .d (I (w64 (1 + (w64 (Int.tmod x_.States 6)))))), (4, .own (.box (.agg [I (w64 (1 + (w64 (Int.tmod x_.Inputs 3)))), I (w64 (1 + (w64 (Int.tmod x_.Outputs 3)))), eOs 1 false z1e ba]))), (5, .d (I s_)), (6, .own (eOs 2 false F9_ cj)), (7, .d (I i_)), (8, .d (I 0))] [Hh (.cut 1)] ?_ fun J7 fy => ?_
       ·rintro v_ aj
        unfold vR at aj
        rcases y6 aj with ⟨c2, aj⟩ | ⟨c2, aj⟩
        ·obtain ⟨g4, aj⟩ := gdE aj
         let Z0 : List HO := [Hq c2, Hq c2, Hn g4, Hq c2, Hq c2]
         rcases y6 aj with ⟨c3, aj⟩ | ⟨c3, aj⟩
         ·obtain ⟨g5, aj⟩ := gdE aj
          exact yB X0 hC eu (cj ++ ([(ze.mk (-1) (-1))] : List ze)) aj (Z0 ++ [Hq c3, Hq (dM F9_ ([(ze.mk (-1) (-1))] : List ze)), Hn (dM F9_ ([(ze.mk (-1) (-1))] : List ze)), Hn (aL F9_ F9_ g5), Hl (aM F9_ cj ([(ze.mk (-1) (-1))] : List ze))])
         ·obtain ⟨g6, aj⟩ := gdE aj
          obtain ⟨g7, aj⟩ := gdE aj
          obtain ⟨g8, aj⟩ := gdE aj
          obtain ⟨g9, aj⟩ := gdE aj
          obtain ⟨g10, aj⟩ := gdE aj
          obtain ⟨g11, aj⟩ := gdE aj
          exact yB X0 hC eu (cj ++ ([(ze.mk (Int.tmod (w64 (Int.tdiv v_ 4)) (w64 (1 + (w64 (Int.tmod x_.States 6))))) (Int.tmod (w64 (Int.tdiv (w64 (Int.tdiv v_ 4)) (w64 (1 + (w64 (Int.tmod x_.States 6)))))) (w64 (1 + (w64 (Int.tmod x_.Outputs 3))))))] : List ze)) aj (Z0 ++ [Hq c3, Hn g6, Hn g7, Hn g8, Hn g9, Hn g10, Hq (dM F9_ ([(ze.mk (Int.tmod (w64 (Int.tdiv v_ 4)) (w64 (1 + (w64 (Int.tmod x_.States 6))))) (Int.tmod (w64 (Int.tdiv (w64 (Int.tdiv v_ 4)) (w64 (1 + (w64 (Int.tmod x_.States 6)))))) (w64 (1 + (w64 (Int.tmod x_.Outputs 3))))))] : List ze)), Hn (dM F9_ ([(ze.mk (Int.tmod (w64 (Int.tdiv v_ 4)) (w64 (1 + (w64 (Int.tmod x_.States 6))))) (Int.tmod (w64 (Int.tdiv (w64 (Int.tdiv v_ 4)) (w64 (1 + (w64 (Int.tmod x_.States 6)))))) (w64 (1 + (w64 (Int.tmod x_.Outputs 3))))))] : List ze)), Hn (aL F9_ F9_ g11), Hl (aM F9_ cj ([(ze.mk (Int.tmod (w64 (Int.tdiv v_ 4)) (w64 (1 + (w64 (Int.tmod x_.States 6))))) (Int.tmod (w64 (Int.tdiv (w64 (Int.tdiv v_ 4)) (w64 (1 + (w64 (Int.tmod x_.States 6)))))) (w64 (1 + (w64 (Int.tmod x_.Outputs 3))))))] : List ze))])
        ·obtain ⟨g12, aj⟩ := gdE aj
         obtain ⟨g13, aj⟩ := gdE aj
         obtain ⟨g14, aj⟩ := gdE aj
         obtain ⟨g15, aj⟩ := gdE aj
         obtain ⟨g16, aj⟩ := gdE aj
         obtain ⟨g17, aj⟩ := gdE aj
         exact yB X0 hC eu (cj ++ ([(ze.mk (Int.tmod (w64 (Int.tdiv v_ 4)) (w64 (1 + (w64 (Int.tmod x_.States 6))))) (Int.tmod (w64 (Int.tdiv (w64 (Int.tdiv v_ 4)) (w64 (1 + (w64 (Int.tmod x_.States 6)))))) (w64 (1 + (w64 (Int.tmod x_.Outputs 3))))))] : List ze)) aj (rpN 4 (Hq c2) [qF, Hn g12, Hn g13, Hn g14, Hn g15, Hn g16, Hq (dM F9_ ([(ze.mk (Int.tmod (w64 (Int.tdiv v_ 4)) (w64 (1 + (w64 (Int.tmod x_.States 6))))) (Int.tmod (w64 (Int.tdiv (w64 (Int.tdiv v_ 4)) (w64 (1 + (w64 (Int.tmod x_.States 6)))))) (w64 (1 + (w64 (Int.tmod x_.Outputs 3))))))] : List ze)), Hn (dM F9_ ([(ze.mk (Int.tmod (w64 (Int.tdiv v_ 4)) (w64 (1 + (w64 (Int.tmod x_.States 6))))) (Int.tmod (w64 (Int.tdiv (w64 (Int.tdiv v_ 4)) (w64 (1 + (w64 (Int.tmod x_.States 6)))))) (w64 (1 + (w64 (Int.tmod x_.Outputs 3))))))] : List ze)), Hn (aL F9_ F9_ g17), Hl (aM F9_ cj ([(ze.mk (Int.tmod (w64 (Int.tdiv v_ 4)) (w64 (1 + (w64 (Int.tmod x_.States 6))))) (Int.tmod (w64 (Int.tdiv (w64 (Int.tdiv v_ 4)) (w64 (1 + (w64 (Int.tmod x_.States 6)))))) (w64 (1 + (w64 (Int.tmod x_.Outputs 3))))))] : List ze))])
       ·let Z1 : List HO := [Ha (lnM (eI .u16) x_.Edges)]
        rcases y6 aj with ⟨c4, aj⟩ | ⟨c4, aj⟩
        ·obtain ⟨gj, h0, aj⟩ := zl aj
         exact yB X0 hC fy (w64 (gj)) aj (Z1 ++ [Hq c4, Hi (eI .u16) h0])
        ·exact yB X0 hC fy 0 aj (Z1 ++ [Hq c4])
     ·obtain rfl := zi aj
      obtain rfl := hl2
      exact yB X0 hC dr cj ae [Hq c1]
  ·obtain rfl := zi ae
   obtain rfl := hl1
   exact yB X0 hC az ba aa [Hq c0]
def Xd : Code := (Tryz.f21.body).getD .skip
def YR : yj := spF (α := List Int × Int × Int) (ρ := List Int) 21 (fun x => [F1_ x.1, (eI .i64) x.2.1, (eI .i64) x.2.2]) (fun r => F6_ r) (fun x => Yz x.1 x.2.1 x.2.2) [] (z6g)
abbrev Qt (out : List Int) : List (Nat × T) := [(7, .own (eOs 1 false (eI .i64) out))]
abbrev Qs (w_ : List Int) (inputs : Int) (most : Int) (ai : List Int) (k_ : Int) : List (Nat × T) := [(0, .d (eSl 1 false (eI .u8) w_)), (1, .d (I inputs)), (2, .d (I most)), (7, .own (eOs 1 false (eI .i64) ai)), (8, .d (I k_))]
theorem z1m (hC : zM Tryz.prog ctr) : YR.Ok Tryz.prog := by
 refine zS ?_
 rintro ⟨w_, inputs, most⟩ r0 aa
 try unfold Yz at aa
 refine yO true [(6, none)] Xd 31 Tryz.func21 fun E hE => ?_
 refine yJ X0 hC Xd [1,1] [] [7] (fun z : List Int => Zb z = some r0) (fun z => Qt z) [(0, .d (eSl 1 false (eI .u8) w_)), (1, .d (I inputs)), (2, .d (I most)), (7, .own (eOs 1 true (eI .i64) []))] [Hh (.cut 2)] ?_ fun J1 az => ?_
 ·rintro out aa
  unfold Zb at aa
  obtain rfl := zi aa
  exact yE X0 hC hE []
 ·obtain ⟨t2, ht2, aa⟩ := zl aa
  refine yLx X0 hC Xd [1,1,2,1,0] [J1] (fun s => Za w_ inputs most s.1 s.2) (fun x => Qs w_ inputs most x.1 x.2) (([] : List Int), 0) ht2 [(0, .d (eSl 1 false (eI .u8) w_)), (1, .d (I inputs)), (2, .d (I most)), (7, .own (eOs 1 true (eI .i64) [])), (8, .d (I 0))] inferInstance [] ?_
  rintro ⟨ai, k_⟩ m2 bh ae hl1 J2 a8
  try unfold Za at ae
  rcases y6 ae with ⟨c0, ae⟩ | ⟨c0, ae⟩
  ·let Z0 : List HO := (Ha (lnM (eI .u8) w_) :: (rpN 4 (Hq c0) []))
   rcases y6 ae with ⟨c1, ae⟩ | ⟨c1, ae⟩
   ·obtain ⟨bf, h0, ae⟩ := zl ae
    obtain ⟨g0, ae⟩ := gdE ae
    obtain ⟨g1, ae⟩ := gdE ae
    obtain rfl := zi ae
    exact yB X0 hC a8 ((ai ++ ([Int.tmod (w64 (bf)) inputs] : List Int)), w64 (k_ + 1)) hl1 (Z0 ++ [Hq c1, Hi (eI .u8) h0, Hn g0, Hq (dM (eI .i64) ([Int.tmod (w64 (bf)) inputs] : List Int)), Hn (dM (eI .i64) ([Int.tmod (w64 (bf)) inputs] : List Int)), Hn (aL (eI .i64) (eI .i64) g1), Hl (aM (eI .i64) ai ([Int.tmod (w64 (bf)) inputs] : List Int))])
   ·obtain rfl := zi ae
    obtain rfl := hl1
    exact yB X0 hC az ai aa (Z0 ++ [Hq c1])
  ·obtain rfl := zi ae
   obtain rfl := hl1
   exact yB X0 hC az ai aa (Ha (lnM (eI .u8) w_) :: (rpN 4 (Hq c0) [qF]))
def kF : Code := (Tryz.f34.body).getD .skip
def qa : yj := spF (α := List Int × List Int) (ρ := Int) 34 (fun x => [F7_ x.1, F7_ x.2]) (fun r => (eI .i64) r) (fun x => vQ x.1 x.2) [] (Ur)
abbrev V8 : List (Nat × T) := []
abbrev V7 (a_ : List Int) (b_ : List Int) (i_ : Int) : List (Nat × T) := [(0, .d (eSl 1 false (eI .i64) a_)), (1, .d (eSl 1 false (eI .i64) b_)), (5, .d (I i_))]
theorem QZ (hC : zM Tryz.prog ctr) : qa.Ok Tryz.prog := by
 refine zS ?_
 rintro ⟨a_, b_⟩ r0 aa
 try unfold vQ at aa
 refine yO true [(4, none)] kF 40 Tryz.func34 fun E hE => ?_
 let Z0 : List HO := [Ha (lnM (eI .i64) a_), Ha (lnM (eI .i64) b_)]
 rcases y6 aa with ⟨c0, aa⟩ | ⟨c0, aa⟩
 ·let Z1 : List HO := (Z0 ++ [Hq c0, Ha (lnM (eI .i64) a_), Ha (lnM (eI .i64) b_)])
  rcases y6 aa with ⟨c1, aa⟩ | ⟨c1, aa⟩
  ·obtain rfl := zi aa
   exact yE X0 hC hE (Z1 ++ [Hq c1])
  ·obtain rfl := zi aa
   exact yE X0 hC hE (Z1 ++ [Hq c1])
 ·refine yJ X0 hC kF [1,1] [] [] (fun z : Unit => kA = some r0) (fun z => V8) [(0, .d (eSl 1 false (eI .i64) a_)), (1, .d (eSl 1 false (eI .i64) b_))] (Z0 ++ [Hq c0, Hh (.cut 0)]) ?_ fun J1 az => ?_
  ·rintro ⟨⟩ aa
   unfold kA at aa
   obtain rfl := zi aa
   exact yE X0 hC hE []
  ·obtain ⟨t2, ht2, aa⟩ := zl aa
   refine yL X0 hC kF [1,1,2,1,0] [J1] (fun s => vZ a_ b_ s) (fun x => V7 a_ b_ x) 0 ht2  [] ?_
   rintro i_ m2 bh ae hl1 J2 a8
   try unfold vZ at ae
   rcases y6 ae with ⟨c2, ae⟩ | ⟨c2, ae⟩
   ·obtain ⟨fp, h0, ae⟩ := zl ae
    obtain ⟨fq, h1, ae⟩ := zl ae
    let Z2 : List HO := [Ha (lnM (eI .i64) a_), Hq c2, Hi (eI .i64) h0, Hi (eI .i64) h1]
    rcases y6 ae with ⟨c3, ae⟩ | ⟨c3, ae⟩
    ·obtain rfl := zi ae
     obtain rfl := hl1
     obtain rfl := zi aa
     exact yE X0 hC hE (Z2 ++ [Hq c3])
    ·obtain ⟨ic, h2, ae⟩ := zl ae
     obtain ⟨ie, h3, ae⟩ := zl ae
     let Z3 : List HO := (Z2 ++ [Hq c3, Hi (eI .i64) h2, Hi (eI .i64) h3])
     rcases y6 ae with ⟨c4, ae⟩ | ⟨c4, ae⟩
     ·obtain rfl := zi ae
      obtain rfl := hl1
      obtain rfl := zi aa
      exact yE X0 hC hE (Z3 ++ [Hq c4])
     ·obtain rfl := zi ae
      exact yB X0 hC a8 (w64 (i_ + 1)) hl1 (Z3 ++ [Hq c4])
   ·obtain rfl := zi ae
    obtain rfl := hl1
    exact yB X0 hC az () aa [Ha (lnM (eI .i64) a_), Hq c2]
def qI : Code := (Tryz.f42.body).getD .skip
def XK : yj := spF (α := List (List Int) × List Int) (ρ := List (List Int)) 42 (fun x => [z4U x.1, F7_ x.2]) (fun r => z4U r) (fun x => XQ x.1 x.2) [true, false] (Ur)
abbrev Ki (w_ : List Int) (co : Int) (bn : List (List Int)) : List (Nat × T) := [(0, .own (eOs 1 false F7_ bn)), (1, .d (eSl 1 false (eI .i64) w_)), (5, .d (I co))]
abbrev Kh (w_ : List Int) (co : Int) (dy : List (List Int)) (i_ : Int) : List (Nat × T) := [(0, .own (eOs 1 false F7_ dy)), (1, .d (eSl 1 false (eI .i64) w_)), (5, .d (I co)), (8, .d (I i_))]
abbrev Kj (l_ : List (List Int)) (w_ : List Int) (co : Int) : List (Nat × T) := [(0, .own (eOs 1 false F7_ l_)), (1, .d (eSl 1 false (eI .i64) w_)), (5, .d (I co))]
abbrev Kk (l_ : List (List Int)) (w_ : List Int) (co : Int) : List (Nat × T) := [(0, .own (eOs 1 false F7_ l_)), (1, .d (eSl 1 false (eI .i64) w_)), (5, .d (I co))]
abbrev Kg (l_ : List (List Int)) (w_ : List Int) (dv : Int) (d0 : Int) : List (Nat × T) := [(0, .own (eOs 1 false F7_ l_)), (1, .d (eSl 1 false (eI .i64) w_)), (5, .d (I dv)), (6, .d (I d0))]
def xc : XH Tryz.prog := ((z4n zD (.inr 66) [65]).or ((z4n zD (.inl 44) [43]).or X0))
theorem z2D (hC : zM Tryz.prog ctr) (h0a : ctr.Has qa) : XK.Ok Tryz.prog := by
 refine zS ?_
 rintro ⟨l_, w_⟩ r0 aa
 try unfold XQ at aa
 refine yO true [(4, none)] qI 68 Tryz.func42 fun E hE => ?_
 refine yJ xc hC qI [1,1,1] [] [0,1,5] (fun z : Int => Y2 l_ w_ z = some r0) (fun z => Kk l_ w_ z) [(0, .own (eOs 1 false F7_ l_)), (1, .d (eSl 1 false (eI .i64) w_)), (5, .d (I 0)), (6, .d (I ((l_.length : Nat) : Int)))] [Ha (lnM F7_ l_), Hh (.cut 0)] ?_ fun J1 az => ?_
 ·rintro co aa
  unfold Y2 at aa
  refine yJ xc hC qI [1,1,1,1] [] [0,1,5] (fun z : Unit => qE l_ w_ co = some r0) (fun z => Kj l_ w_ co) [(0, .own (eOs 1 false F7_ l_)), (1, .d (eSl 1 false (eI .i64) w_)), (5, .d (I co))] [Hh (.cut 0)] ?_ fun J2 a8 => ?_
  ·rintro ⟨⟩ aa
   unfold qE at aa
   obtain ⟨g0, aa⟩ := gdE aa
   refine yJ ((xNb zD 43).or xc) hC qI [1,1,1,1,1,1] [] [0,1,5] (fun z : List (List Int) => Y1 w_ co z = some r0) (fun z => Ki w_ co z) [(0, .own (eOs 1 false F7_ (l_ ++ ([[]] : List (List Int))))), (1, .d (eSl 1 false (eI .i64) w_)), (5, .d (I co))] [Hm (shM F6_ F7_ ([[]])), Hn (dM F7_ ([[]] : List (List Int))), Hn (aL F7_ F7_ g0), Hl (aM F7_ l_ ([[]] : List (List Int))), Hh (.cut 0)] ?_ fun J3 bz => ?_
   ·rintro bn aa
    unfold Y1 at aa
    obtain ⟨g1, aa⟩ := gdE aa
    obtain ⟨bc, h0, aa⟩ := zl aa
    obtain rfl := zi aa
    exact yE xc hC hE [Hn (dM (eI .i64) w_), Hn (aL (eI .i64) (eI .i64) g1), Hl (aM0 (eI .i64) w_), Hn (iL F7_ h0), Hm (shM (eI .i64) (eI .i64) w_), Hs (iM F7_ h0), Hs (iM F7_ h0), Hl (sM F7_ bn co w_)]
   ·obtain ⟨t4, ht4, aa⟩ := zl aa
    refine yL xc hC qI [1,1,1,1,1,1,2,1,0] [J3] (fun s => kb co s.1 s.2) (fun x => Kh w_ co x.1 x.2) ((l_ ++ ([[]] : List (List Int))), w64 ((((l_ ++ ([[]] : List (List Int))).length : Nat) : Int) - 1)) ht4  [Ha (lnM F7_ (l_ ++ ([[]] : List (List Int))))] ?_
    rintro ⟨dy, i_⟩ m4 bh ae hl1 J4 dr
    try unfold kb at ae
    rcases y6 ae with ⟨c0, ae⟩ | ⟨c0, ae⟩
    ·obtain ⟨cn, h1, ae⟩ := zl ae
     obtain ⟨iv, h2, ae⟩ := zl ae
     obtain rfl := zi ae
     exact yB xc hC dr ((dy.set i_.toNat cn), w64 (i_ - 1)) hl1 [Hq c0, Hn (iL F7_ h1), Hs (iM F7_ h1), Hn (iL F7_ h2), Hs (iM F7_ h2), Hs (iM F7_ h2), Hl (sM F7_ dy i_ cn)]
    ·obtain rfl := zi ae
     obtain rfl := hl1
     exact yB xc hC bz dy aa [Hq c0]
  ·let Z0 : List HO := [Ha (lnM F7_ l_)]
   rcases y6 aa with ⟨c1, aa⟩ | ⟨c1, aa⟩
   ·obtain ⟨gb, h3, aa⟩ := zl aa
    obtain ⟨r_, h4, aa⟩ := zl aa
    let Z1 : List HO := (Z0 ++ [Hq c1, Hq c1, Hq c1, Hn (iL F7_ h3), Hq c1, Hs (iM F7_ h3), Hq c1, Hq c1, Hc h0a (x := (gb, w_)) h4 (loC F7_ gb <| loC F7_ w_ <| loN), Hq c1, Hq c1])
    rcases y6 aa with ⟨c2, aa⟩ | ⟨c2, aa⟩
    ·obtain rfl := zi aa
     exact yE xc hC hE (Z1 ++ [Hq c2])
    ·exact yB xc hC a8 () aa (Z1 ++ [Hq c2])
   ·exact yB xc hC a8 () aa (Z0 ++ (rpN 8 (Hq c1) [qF]))
 ·obtain ⟨t5, ht5, aa⟩ := zl aa
  refine yL xc hC qI [1,1,1,2,0] [J1] (fun s => ka l_ w_ s.1 s.2) (fun x => Kg l_ w_ x.1 x.2) (0, ((l_.length : Nat) : Int)) ht5  [] ?_
  rintro ⟨dv, d0⟩ m5 bh ae hl1 J5 dg
  try unfold ka at ae
  rcases y6 ae with ⟨c3, ae⟩ | ⟨c3, ae⟩
  ·obtain ⟨g2, ae⟩ := gdE ae
   obtain ⟨gc, h5, ae⟩ := zl ae
   obtain ⟨ah, h6, ae⟩ := zl ae
   let Z2 : List HO := [Hq c3, Hn g2, Hn (iL F7_ h5), Hs (iM F7_ h5), Hc h0a (x := (gc, w_)) h6 (loC F7_ gc <| loC F7_ w_ <| loN)]
   rcases y6 ae with ⟨c4, ae⟩ | ⟨c4, ae⟩
   ·obtain rfl := zi ae
    exact yB xc hC dg (w64 ((w64 (Int.tdiv (w64 (dv + d0)) 2)) + 1), d0) hl1 (Z2 ++ [Hq c4])
   ·obtain rfl := zi ae
    exact yB xc hC dg (dv, w64 (Int.tdiv (w64 (dv + d0)) 2)) hl1 (Z2 ++ [Hq c4])
  ·obtain rfl := zi ae
   obtain rfl := hl1
   exact yB xc hC az dv aa [Hq c3]
def X9 : Code := (Tryz.f22.body).getD .skip
def kQ : yj := spF (α := List (List Int)) (ρ := List (List Int)) 22 (fun x => [Y4 x]) (fun r => z4U r) (fun x => Zm x) [] (Kz)
abbrev Ql (out : List (List Int)) : List (Nat × T) := [(3, .own (eOs 1 false F7_ out))]
abbrev Qk (l_ : List (List Int)) (ai : List (List Int)) (i_ : Int) : List (Nat × T) := [(0, .d (eSl 1 false F7_ l_)), (3, .own (eOs 1 false F7_ ai)), (4, .d (I i_))]
theorem z1h (hC : zM Tryz.prog ctr) (h0w : ctr.Has XK) : kQ.Ok Tryz.prog := by
 refine zS ?_
 rintro l_ r0 aa
 try unfold Zm at aa
 refine yO true [(2, none)] X9 18 Tryz.func22 fun E hE => ?_
 refine yJ X0 hC X9 [1,1] [] [3] (fun z : List (List Int) => YX z = some r0) (fun z => Ql z) [(0, .d (eSl 1 false F7_ l_)), (3, .own (eOs 1 true F7_ []))] [Hh (.cut 2)] ?_ fun J1 az => ?_
 ·rintro out aa
  unfold YX at aa
  obtain rfl := zi aa
  exact yE X0 hC hE []
 ·obtain ⟨t2, ht2, aa⟩ := zl aa
  refine yLx X0 hC X9 [1,1,2,1,0] [J1] (fun s => wZ l_ s.1 s.2) (fun x => Qk l_ x.1 x.2) (([] : List (List Int)), 0) ht2 [(0, .d (eSl 1 false F7_ l_)), (3, .own (eOs 1 true F7_ [])), (4, .d (I 0))] inferInstance [] ?_
  rintro ⟨ai, i_⟩ m2 bh ae hl1 J2 a8
  try unfold wZ at ae
  let Z0 : List HO := [Ha (lnM F7_ l_)]
  rcases y6 ae with ⟨c0, ae⟩ | ⟨c0, ae⟩
  ·obtain ⟨bc, h0, ae⟩ := zl ae
   obtain ⟨r_, h1, ae⟩ := zl ae
   obtain rfl := zi ae
   exact yB X0 hC a8 (r_, w64 (i_ + 1)) hl1 (Z0 ++ [Hq c0, Hi F7_ h0, Hc h0w (x := (ai, bc)) h1 (loC z4U ai <| loC F7_ bc <| loN)])
  ·obtain rfl := zi ae
   obtain rfl := hl1
   exact yB X0 hC az ai aa (Z0 ++ [Hq c0])
def Xc : Code := (Tryz.f7.body).getD .skip
def YQ : yj := spF (α := wc) (ρ := z6 × List (List Int)) 7 (fun x => [(uU KG (eSl 1 false F1_)) x]) (fun r => .tup [yh r.1, Y4 r.2]) (fun x => Zp x) [] (Kz)
abbrev Qr (r_ : z6) (l_ : List (List Int)) : List (Nat × T) := [(2, .own (.box (.agg [I 0, I 0, eOs 1 true ue []]))), (4, .own (.box (yh r_))), (5, .own (eOs 1 false F6_ l_))]
abbrev Qq (x_ : wc) (r_ : z6) (bn : List (List Int)) (i_ : Int) : List (Nat × T) := [(1, .own (.box (.agg [KG x_.M, eSl 1 false F1_ x_.L]))), (2, .own (.box (.agg [I 0, I 0, eOs 1 true ue []]))), (4, .own (.box (yh r_))), (5, .own (eOs 1 false F6_ bn)), (6, .d (I i_))]
theorem z1l (hC : zM Tryz.prog ctr) (h0x : ctr.Has YS) (h0y : ctr.Has YR) (h07 : ctr.Has kQ) : YQ.Ok Tryz.prog := by
 refine zS ?_
 rintro x_ r0 aa
 try unfold Zp at aa
 refine yO false [(2, some 30), (3, none)] Xc 35 Tryz.func7 fun E hE => ?_
 obtain ⟨r_, h0, aa⟩ := zl aa
 refine yJ X0 hC Xc [1,1,1] [] [2,4,5] (fun z : List (List Int) => Z9 r_ z = some r0) (fun z => Qr r_ z) [(1, .own (.box (.agg [KG x_.M, eSl 1 false F1_ x_.L]))), (2, .own (.box (.agg [I 0, I 0, eOs 1 true ue []]))), (4, .own (.box (yh r_))), (5, .own (eOs 1 true F7_ []))] [Hc h0x (x := x_.M) h0 (loC KG x_.M <| loN), Hh (.cut 1)] ?_ fun J1 az => ?_
 ·rintro l_ aa
  unfold Z9 at aa
  obtain ⟨ah, h1, aa⟩ := zl aa
  obtain rfl := zi aa
  exact yE X0 hC hE [Hg (JV h07), Hm (shM F6_ F7_ l_), Hs (JW h07 (x := l_) h1 (loC Y4 l_ <| loN)), Hm (shM F6_ F7_ l_), Hm (shM F7_ F7_ ah)]
 ·obtain ⟨t2, ht2, aa⟩ := zl aa
  refine yLx X0 hC Xc [1,1,1,2,1,0] [J1] (fun s => kZ x_ r_ s.1 s.2) (fun x => Qq x_ r_ x.1 x.2) (([] : List (List Int)), 0) ht2 [(1, .own (.box (.agg [KG x_.M, eSl 1 false F1_ x_.L]))), (2, .own (.box (.agg [I 0, I 0, eOs 1 true ue []]))), (4, .own (.box (yh r_))), (5, .own (eOs 1 true F6_ [])), (6, .d (I 0))] inferInstance [] ?_
  rintro ⟨bn, i_⟩ m2 bh ae hl1 J2 a8
  try unfold kZ at ae
  let Z0 : List HO := [Ha (lnM F1_ x_.L)]
  rcases y6 ae with ⟨c0, ae⟩ | ⟨c0, ae⟩
  ·rcases y6 ae with ⟨c1, ae⟩ | ⟨c1, ae⟩
   ·obtain ⟨ig, h2, ae⟩ := zl ae
    obtain ⟨am, h3, ae⟩ := zl ae
    obtain ⟨g0, ae⟩ := gdE ae
    obtain rfl := zi ae
    exact yB X0 hC a8 ((bn ++ ([am] : List (List Int))), w64 (i_ + 1)) hl1 (Z0 ++ [Hq c0, Hq c0, Hq c0, Hq c1, Hi F1_ h2, Hc h0y (x := (ig, r_.Inputs, 8)) h3 (loC F1_ ig <| loC (eI .i64) r_.Inputs <| loC (eI .i64) 8 <| loN), Hq (oC F6_ am []), Hn (aL F6_ F6_ g0), Hl (aM F6_ bn ([am] : List (List Int)))])
   ·obtain rfl := zi ae
    obtain rfl := hl1
    exact yB X0 hC az bn aa (Z0 ++ [Hq c0, Hq c0, Hq c0, Hq c1])
  ·obtain rfl := zi ae
   obtain rfl := hl1
   exact yB X0 hC az bn aa (Z0 ++ [Hq c0, Hq c0, Hq c0, qF])
def Q8 : Code := (Tryz.f74.body).getD .skip
def kx : yj := spF (α := Unit) (ρ := ze) 74 (fun x => []) (fun r => F9_ r) (fun x => kY) [] (fun _ _ _ => rfl)
theorem J9 (hC : zM Tryz.prog ctr) : kx.Ok Tryz.prog := by
 refine zS ?_
 rintro ⟨⟩ r0 aa
 try unfold kY at aa
 refine yO false [(0, some 105)] Q8 2 Tryz.func74 fun E hE => ?_
 obtain rfl := zi aa
 exact yE X0 hC hE []
def Q9 : Code := (Tryz.f59.body).getD .skip
def ky : yj := spF (α := z6 × ze) (ρ := Bool) 59 (fun x => [yh x.1, F9_ x.2]) (fun r => eB r) (fun x => j5 x.1 x.2) [] (Ur)
theorem Ja (hC : zM Tryz.prog ctr) (h0z : ctr.Has kx) : ky.Ok Tryz.prog := by
 refine zS ?_
 rintro ⟨m_, x_⟩ r0 aa
 try unfold j5 at aa
 refine yO true [(4, none)] Q9 33 Tryz.func59 fun E hE => ?_
 obtain ⟨r_, h0, aa⟩ := zl aa
 let Z0 : List HO := [Hc h0z (x := ()) h0 (loN)]
 rcases y6 aa with ⟨c0, aa⟩ | ⟨c0, aa⟩
 ·obtain rfl := zi aa
  exact yE X0 hC hE (Z0 ++ (rpN 10 (Hq c0) []))
 ·let Z1 : List HO := (Z0 ++ (rpN 4 (Hq c0) []))
  rcases y6 aa with ⟨c1, aa⟩ | ⟨c1, aa⟩
  ·let Z2 : List HO := (Z1 ++ (rpN 5 (Hq c1) [Ha (lnM ue m_.Rows), Hq c1, Hq c0, Hq c1, Hq c0]))
   rcases y6 aa with ⟨c2, aa⟩ | ⟨c2, aa⟩
   ·let Z3 : List HO := (Z2 ++ [Hq c2, Hq c2, Hq c2, Hq c0, Hq c2, Hq c0])
    rcases y6 aa with ⟨c3, aa⟩ | ⟨c3, aa⟩
    ·obtain rfl := zi aa
     exact yE X0 hC hE (Z3 ++ (rpN 5 (Hq c3) [Hq c0, Hq c3, Hq c0]))
    ·obtain rfl := zi aa
     exact yE X0 hC hE (Z3 ++ (rpN 5 (Hq c3) [Hq c0, Hq c3, Hq c0]))
   ·obtain rfl := zi aa
    exact yE X0 hC hE (Z2 ++ (Hq c2 :: Hq c2 :: Hq c2 :: Hq c0 :: Hq c2 :: Hq c0 :: (rpN 5 qF [Hq c0, qF, Hq c0])))
  ·obtain rfl := zi aa
   exact yE X0 hC hE (Z1 ++ (rpN 6 (Hq c1) (Hq c0 :: Hq c1 :: Hq c0 :: qF :: qF :: qF :: Hq c0 :: qF :: Hq c0 :: (rpN 5 qF [Hq c0, qF, Hq c0]))))
def WZ : Code := (Tryz.f58.body).getD .skip
def qp : yj := spF (α := ze × z6) (ρ := Bool) 58 (fun x => [F9_ x.1, z8W x.2]) (fun r => eB r) (fun x => qg x.1 x.2) [] (Ur)
theorem Vk (hC : zM Tryz.prog ctr) (h0A : ctr.Has ky) : qp.Ok Tryz.prog := by
 refine zS ?_
 rintro ⟨x_, x1⟩ r0 aa
 try unfold qg at aa
 refine yO true [(3, none)] WZ 8 Tryz.func58 fun E hE => ?_
 obtain ⟨r_, h0, aa⟩ := zl aa
 obtain rfl := zi aa
 exact yE X0 hC hE [Hc h0A (x := (x1, x_)) h0 (loC yh x1 <| loC F9_ x_ <| loN)]
def yK : Code := (Tryz.f73.body).getD .skip
def yG : yj := spF (α := List ze × z6) (ρ := Int) 73 (fun x => [ue x.1, (z2l 58 z8W) x.2]) (fun r => (eI .i64) r) (fun x => yl x.1 x.2) [] (by
 rintro ⟨a0, a1⟩ ⟨b0, b1⟩ h
 have e0 := qo.inj (f := ue) _ _ (List.cons.inj h).1
 replace h := (List.cons.inj h).2
 have e1 := qo.inj (f := (z2l 58 z8W)) _ _ (List.cons.inj h).1
 subst e0 e1
 rfl)
abbrev ul : List (Nat × T) := []
abbrev uk (s_ : List ze) (f_ : z6) (x8 : Int) : List (Nat × T) := [(0, .d (eSl 2 false F9_ s_)), (1, .d (.fn 58 [.sptr (.agg [I f_.Inputs, I f_.Outputs, eSl 1 false ue f_.Rows])])), (7, .d (I ((s_.length : Nat) : Int))), (8, .d (I x8))]
theorem uS (hC : zM Tryz.prog ctr) (h0B : ctr.Has qp) : yG.Ok Tryz.prog := by
 refine zS ?_
 rintro ⟨s_, f_⟩ r0 aa
 try unfold yl at aa
 refine yO true [(4, none)] yK 19 Tryz.func73 fun E hE => ?_
 refine yJ X0 hC yK [1] [] [] (fun z : Unit => yH = some r0) (fun z => ul) [(0, .d (eSl 2 false F9_ s_)), (1, .d (.fn 58 [.sptr (.agg [I f_.Inputs, I f_.Outputs, eSl 1 false ue f_.Rows])]))] [Hh (.cut 1)] ?_ fun J1 az => ?_
 ·rintro ⟨⟩ aa
  unfold yH at aa
  obtain rfl := zi aa
  exact yE X0 hC hE []
 ·obtain ⟨t2, ht2, aa⟩ := zl aa
  refine yL X0 hC yK [1,2,1,0] [J1] (fun s => zO s_ f_ s) (fun x => uk s_ f_ x) 0 ht2  [Ha (lnM F9_ s_)] ?_
  rintro x8 m2 bh ae hl1 J2 a8
  try unfold zO at ae
  rcases y6 ae with ⟨c0, ae⟩ | ⟨c0, ae⟩
  ·obtain ⟨dn, h0, ae⟩ := zl ae
   obtain ⟨r_, h1, ae⟩ := zl ae
   let Z0 : List HO := [Hq c0, Hi F9_ h0, Hc h0B (x := (dn, f_)) h1 (loC F9_ dn <| loC z8W f_ <| loN)]
   rcases y6 ae with ⟨c1, ae⟩ | ⟨c1, ae⟩
   ·obtain rfl := zi ae
    obtain rfl := hl1
    obtain rfl := zi aa
    exact yE X0 hC hE (Z0 ++ [Hq c1])
   ·obtain rfl := zi ae
    exact yB X0 hC a8 (w64 (x8 + 1)) hl1 (Z0 ++ [Hq c1])
  ·obtain rfl := zi ae
   obtain rfl := hl1
   exact yB X0 hC az () aa [Hq c0]
def uj : Code := (Tryz.f57.body).getD .skip
def yu : yj := spF (α := List ze × z6) (ρ := Bool) 57 (fun x => [ue x.1, (z2l 58 z8W) x.2]) (fun r => eB r) (fun x => zV x.1 x.2) [] (by
 rintro ⟨a0, a1⟩ ⟨b0, b1⟩ h
 have e0 := qo.inj (f := ue) _ _ (List.cons.inj h).1
 replace h := (List.cons.inj h).2
 have e1 := qo.inj (f := (z2l 58 z8W)) _ _ (List.cons.inj h).1
 subst e0 e1
 rfl)
theorem um (hC : zM Tryz.prog ctr) (h0C : ctr.Has yG) : yu.Ok Tryz.prog := by
 refine zS ?_
 rintro ⟨s_, f_⟩ r0 aa
 try unfold zV at aa
 refine yO true [(4, none)] uj 9 Tryz.func57 fun E hE => ?_
 obtain ⟨r_, h0, aa⟩ := zl aa
 obtain rfl := zi aa
 exact yE X0 hC hE [Hc h0C (x := (s_, f_)) h0 (loC ue s_ <| loC (z2l 58 z8W) f_ <| loN)]
def jO : Code := (Tryz.f43.body).getD .skip
def ut : yj := spF (α := z6) (ρ := Int) 43 (fun x => [yh x]) (fun r => (eI .i64) r) (fun x => u9 x) [] (Kz)
abbrev Wx : List (Nat × T) := []
abbrev Ww (m_ : z6) (gk : Int) : List (Nat × T) := [(1, .d (.sptr (yh m_))), (34, .d (eSl 1 false ue m_.Rows)), (35, .d (I ((m_.Rows.length : Nat) : Int))), (36, .d (I gk))]
theorem Q1 (hC : zM Tryz.prog ctr) (h0D : ctr.Has yu) : ut.Ok Tryz.prog := by
 refine zS ?_
 rintro m_ r0 aa
 try unfold u9 at aa
 refine yO true [(2, none)] jO 51 Tryz.func43 fun E hE => ?_
 rcases y6 aa with ⟨c0, aa⟩ | ⟨c0, aa⟩
 ·obtain rfl := zi aa
  exact yE X0 hC hE (rpN 4 (Hq c0) (rpN 6 qT []))
 ·let Z0 : List HO := (rpN 4 (Hq c0) [])
  rcases y6 aa with ⟨c1, aa⟩ | ⟨c1, aa⟩
  ·obtain rfl := zi aa
   exact yE X0 hC hE (Z0 ++ (rpN 5 (Hq c1) [qT]))
  ·let Z1 : List HO := (Z0 ++ [Hq c1, Hq c1, Hq c1, Ha (lnM ue m_.Rows), Hq c1, Hq c1])
   rcases y6 aa with ⟨c2, aa⟩ | ⟨c2, aa⟩
   ·obtain rfl := zi aa
    exact yE X0 hC hE (Z1 ++ [Hq c2])
   ·rcases y6 aa with ⟨c3, aa⟩ | ⟨c3, aa⟩
    ·obtain rfl := zi aa
     exact yE X0 hC hE (Z1 ++ (Hq c2 :: (rpN 4 (Hq c3) (rpN 6 qT []))))
    ·let Z2 : List HO := (Z1 ++ (Hq c2 :: (rpN 4 (Hq c3) [])))
     rcases y6 aa with ⟨c4, aa⟩ | ⟨c4, aa⟩
     ·obtain rfl := zi aa
      exact yE X0 hC hE (Z2 ++ (rpN 5 (Hq c4) [qT]))
     ·let Z3 : List HO := (Z2 ++ [Hq c4, Hq c4, Hq c4, Ha (lnM ue m_.Rows), Hq c4, Hq c4])
      rcases y6 aa with ⟨c5, aa⟩ | ⟨c5, aa⟩
      ·obtain rfl := zi aa
       exact yE X0 hC hE (Z3 ++ [Hq c5])
      ·refine yJ X0 hC jO [1,1,1] [] [] (fun z : Unit => jG = some r0) (fun z => Wx) [(1, .own (.box (yh m_)))] (Z3 ++ [Hq c5, Hh (.cut 0)]) ?_ fun J1 az => ?_
       ·rintro ⟨⟩ aa
        unfold jG at aa
        obtain rfl := zi aa
        exact yE X0 hC hE []
       ·obtain ⟨t2, ht2, aa⟩ := zl aa
        refine yL X0 hC jO [1,1,1,2,1,0] [J1] (fun s => wj m_ s) (fun x => Ww m_ x) 0 ht2  [Ha (lnM ue m_.Rows), Hh (.n 1 [1])] ?_
        rintro gk m2 bh ae hl1 J2 a8
        try unfold wj at ae
        rcases y6 ae with ⟨c6, ae⟩ | ⟨c6, ae⟩
        ·obtain ⟨ar, h0, ae⟩ := zl ae
         let Z4 : List HO := [Hq c6, Hi ue h0, Ha (lnM F9_ ar)]
         rcases y6 ae with ⟨c7, ae⟩ | ⟨c7, ae⟩
         ·obtain rfl := zi ae
          obtain rfl := hl1
          obtain rfl := zi aa
          exact yE X0 hC hE (Z4 ++ (rpN 4 (Hq c7) [qT]))
         ·obtain ⟨r_, h1, ae⟩ := zl ae
          let Z5 : List HO := (Z4 ++ [Hq c7, Hq c7, Hq c7, Hc h0D (x := (ar, m_)) h1 (loC ue ar <| loC (z2l 58 z8W) m_ <| loN), Hq c7])
          rcases y6 ae with ⟨c8, ae⟩ | ⟨c8, ae⟩
          ·obtain rfl := zi ae
           obtain rfl := hl1
           obtain rfl := zi aa
           exact yE X0 hC hE (Z5 ++ [Hq c8])
          ·obtain rfl := zi ae
           exact yB X0 hC a8 (w64 (gk + 1)) hl1 (Z5 ++ [Hq c8])
        ·obtain rfl := zi ae
         obtain rfl := hl1
         exact yB X0 hC az () aa [Hq c6]
def Q7 : Code := (Tryz.f78.body).getD .skip
def kr : yj := spF (α := Int × Int) (ρ := Bool) 78 (fun x => [(eI .i64) x.1, (eSp (eI .i64)) x.2]) (fun r => eB r) (fun x => kK x.1 x.2) [] (Ur)
theorem QV (hC : zM Tryz.prog ctr) : kr.Ok Tryz.prog := by
 refine zS ?_
 rintro ⟨c_, x1⟩ r0 aa
 try unfold kK at aa
 refine yO true [(3, none)] Q7 11 Tryz.func78 fun E hE => ?_
 rcases y6 aa with ⟨c0, aa⟩ | ⟨c0, aa⟩
 ·obtain rfl := zi aa
  exact yE X0 hC hE (rpN 4 (Hq c0) [])
 ·obtain rfl := zi aa
  exact yE X0 hC hE (rpN 4 (Hq c0) [])
def wB : Code := (Tryz.f90.body).getD .skip
def wo : yj := spF (α := List Int × Int) (ρ := Int) 90 (fun x => [F7_ x.1, (z2l 78 (eSp (eI .i64))) x.2]) (fun r => (eI .i64) r) (fun x => xV x.1 x.2) [] (by
 rintro ⟨a0, a1⟩ ⟨b0, b1⟩ h
 have e0 := qo.inj (f := F7_) _ _ (List.cons.inj h).1
 replace h := (List.cons.inj h).2
 have e1 := qo.inj (f := (z2l 78 (eSp (eI .i64)))) _ _ (List.cons.inj h).1
 subst e0 e1
 rfl)
abbrev ki : List (Nat × T) := []
abbrev kh (s_ : List Int) (f_ : Int) (x8 : Int) : List (Nat × T) := [(0, .d (eSl 1 false (eI .i64) s_)), (1, .d (.fn 78 [.sptr (I f_)])), (7, .d (I ((s_.length : Nat) : Int))), (8, .d (I x8))]
theorem ZT (hC : zM Tryz.prog ctr) (h0E : ctr.Has kr) : wo.Ok Tryz.prog := by
 refine zS ?_
 rintro ⟨s_, f_⟩ r0 aa
 try unfold xV at aa
 refine yO true [(4, none)] wB 19 Tryz.func90 fun E hE => ?_
 refine yJ X0 hC wB [1] [] [] (fun z : Unit => wq = some r0) (fun z => ki) [(0, .d (eSl 1 false (eI .i64) s_)), (1, .d (.fn 78 [.sptr (I f_)]))] [Hh (.cut 1)] ?_ fun J1 az => ?_
 ·rintro ⟨⟩ aa
  unfold wq at aa
  obtain rfl := zi aa
  exact yE X0 hC hE []
 ·obtain ⟨t2, ht2, aa⟩ := zl aa
  refine yL X0 hC wB [1,2,1,0] [J1] (fun s => yc s_ f_ s) (fun x => kh s_ f_ x) 0 ht2  [Ha (lnM (eI .i64) s_)] ?_
  rintro x8 m2 bh ae hl1 J2 a8
  try unfold yc at ae
  rcases y6 ae with ⟨c0, ae⟩ | ⟨c0, ae⟩
  ·obtain ⟨dn, h0, ae⟩ := zl ae
   obtain ⟨r_, h1, ae⟩ := zl ae
   let Z0 : List HO := [Hq c0, Hi (eI .i64) h0, Hc h0E (x := (dn, f_)) h1 (loC (eI .i64) dn <| loC (eSp (eI .i64)) f_ <| loN)]
   rcases y6 ae with ⟨c1, ae⟩ | ⟨c1, ae⟩
   ·obtain rfl := zi ae
    obtain rfl := hl1
    obtain rfl := zi aa
    exact yE X0 hC hE (Z0 ++ [Hq c1])
   ·obtain rfl := zi ae
    exact yB X0 hC a8 (w64 (x8 + 1)) hl1 (Z0 ++ [Hq c1])
  ·obtain rfl := zi ae
   obtain rfl := hl1
   exact yB X0 hC az () aa [Hq c0]
def kg : Code := (Tryz.f77.body).getD .skip
def xK : yj := spF (α := List Int × Int) (ρ := Bool) 77 (fun x => [F7_ x.1, (z2l 78 (eSp (eI .i64))) x.2]) (fun r => eB r) (fun x => x5 x.1 x.2) [] (by
 rintro ⟨a0, a1⟩ ⟨b0, b1⟩ h
 have e0 := qo.inj (f := F7_) _ _ (List.cons.inj h).1
 replace h := (List.cons.inj h).2
 have e1 := qo.inj (f := (z2l 78 (eSp (eI .i64)))) _ _ (List.cons.inj h).1
 subst e0 e1
 rfl)
theorem kp (hC : zM Tryz.prog ctr) (h0F : ctr.Has wo) : xK.Ok Tryz.prog := by
 refine zS ?_
 rintro ⟨s_, f_⟩ r0 aa
 try unfold x5 at aa
 refine yO true [(4, none)] kg 9 Tryz.func77 fun E hE => ?_
 obtain ⟨r_, h0, aa⟩ := zl aa
 obtain rfl := zi aa
 exact yE X0 hC hE [Hc h0F (x := (s_, f_)) h0 (loC F7_ s_ <| loC (z2l 78 (eSp (eI .i64))) f_ <| loN)]
def KB : Code := (Tryz.f64.body).getD .skip
def Y8 : yj := spF (α := List Int × Int) (ρ := Int) 64 (fun x => [F7_ x.1, (eI .i64) x.2]) (fun r => (eI .i64) r) (fun x => jv x.1 x.2) [] (Ur)
theorem z0i (hC : zM Tryz.prog ctr) (h0G : ctr.Has xK) : Y8.Ok Tryz.prog := by
 refine zS ?_
 rintro ⟨w_, inputs⟩ r0 aa
 try unfold jv at aa
 refine yO true [(4, none)] KB 19 Tryz.func64 fun E hE => ?_
 rcases y6 aa with ⟨c0, aa⟩ | ⟨c0, aa⟩
 ·obtain rfl := zi aa
  exact yE X0 hC hE (rpN 4 (Hq c0) [qT])
 ·let Z0 : List HO := [Hq c0, Hq c0, Ha (lnM (eI .i64) w_), Hq c0, Hq c0]
  rcases y6 aa with ⟨c1, aa⟩ | ⟨c1, aa⟩
  ·obtain rfl := zi aa
   exact yE X0 hC hE (Z0 ++ [Hq c1])
  ·rcases y6 aa with ⟨c2, aa⟩ | ⟨c2, aa⟩
   ·obtain rfl := zi aa
    exact yE X0 hC hE (Z0 ++ (Hq c1 :: (rpN 4 (Hq c2) [qT])))
   ·obtain ⟨r_, h0, aa⟩ := zl aa
    let Z1 : List HO := (Z0 ++ [Hq c1, Hq c2, Hq c2, Hq c2, Hc h0G (x := (w_, inputs)) h0 (loC F7_ w_ <| loC (z2l 78 (eSp (eI .i64))) inputs <| loN), Hq c2])
    rcases y6 aa with ⟨c3, aa⟩ | ⟨c3, aa⟩
    ·obtain rfl := zi aa
     exact yE X0 hC hE (Z1 ++ [Hq c3])
    ·obtain rfl := zi aa
     exact yE X0 hC hE (Z1 ++ [Hq c3])
def Yk : Code := (Tryz.f50.body).getD .skip
def jU : yj := spF (α := List (List Int) × Int) (ρ := Int) 50 (fun x => [Y4 x.1, (eI .i64) x.2]) (fun r => (eI .i64) r) (fun x => jy x.1 x.2) [] (Ur)
abbrev UF : List (Nat × T) := []
abbrev UE (l_ : List (List Int)) (inputs : Int) (gl : Int) : List (Nat × T) := [(1, .d (I inputs)), (17, .d (eSl 1 false F7_ l_)), (18, .d (I ((l_.length : Nat) : Int))), (19, .d (I gl))]
theorem z0l (hC : zM Tryz.prog ctr) (h0H : ctr.Has Y8) : jU.Ok Tryz.prog := by
 refine zS ?_
 rintro ⟨l_, inputs⟩ r0 aa
 try unfold jy at aa
 refine yO true [(4, none)] Yk 30 Tryz.func50 fun E hE => ?_
 rcases y6 aa with ⟨c0, aa⟩ | ⟨c0, aa⟩
 ·obtain rfl := zi aa
  exact yE X0 hC hE (rpN 4 (Hq c0) [qT])
 ·let Z0 : List HO := [Hq c0, Hq c0, Ha (lnM F7_ l_), Hq c0, Hq c0]
  rcases y6 aa with ⟨c1, aa⟩ | ⟨c1, aa⟩
  ·obtain rfl := zi aa
   exact yE X0 hC hE (Z0 ++ [Hq c1])
  ·rcases y6 aa with ⟨c2, aa⟩ | ⟨c2, aa⟩
   ·obtain rfl := zi aa
    exact yE X0 hC hE (Z0 ++ [Hq c1, Hq c2])
   ·refine yJ X0 hC Yk [1,1,1] [] [] (fun z : Unit => Y7 = some r0) (fun z => UF) [(0, .d (eSl 1 false F7_ l_)), (1, .d (I inputs))] (Z0 ++ [Hq c1, Hq c2, Hh (.cut 0)]) ?_ fun J1 az => ?_
    ·rintro ⟨⟩ aa
     unfold Y7 at aa
     obtain rfl := zi aa
     exact yE X0 hC hE []
    ·obtain ⟨t2, ht2, aa⟩ := zl aa
     refine yL X0 hC Yk [1,1,1,2,1,0] [J1] (fun s => u6 l_ inputs s) (fun x => UE l_ inputs x) 0 ht2  [Ha (lnM F7_ l_)] ?_
     rintro gl m2 bh ae hl1 J2 a8
     try unfold u6 at ae
     rcases y6 ae with ⟨c3, ae⟩ | ⟨c3, ae⟩
     ·obtain ⟨bc, h0, ae⟩ := zl ae
      obtain ⟨r_, h1, ae⟩ := zl ae
      let Z1 : List HO := [Hq c3, Hi F7_ h0, Hc h0H (x := (bc, inputs)) h1 (loC F7_ bc <| loC (eI .i64) inputs <| loN)]
      rcases y6 ae with ⟨c4, ae⟩ | ⟨c4, ae⟩
      ·obtain rfl := zi ae
       obtain rfl := hl1
       obtain rfl := zi aa
       exact yE X0 hC hE (Z1 ++ [Hq c4])
      ·obtain rfl := zi ae
       exact yB X0 hC a8 (w64 (gl + 1)) hl1 (Z1 ++ [Hq c4])
     ·obtain rfl := zi ae
      obtain rfl := hl1
      exact yB X0 hC az () aa [Hq c3]
def Qa : Code := (Tryz.f101.body).getD .skip
def kz : yj := spF (α := Int) (ρ := Bool) 101 (fun x => [(eI .i64) x]) (fun r => eB r) (fun x => jf x) [] (Kz)
theorem Jc (hC : zM Tryz.prog ctr) : kz.Ok Tryz.prog := by
 refine zS ?_
 rintro x_ r0 aa
 try unfold jf at aa
 refine yO true [(2, none)] Qa 6 Tryz.func101 fun E hE => ?_
 obtain rfl := zi aa
 exact yE X0 hC hE []
def VF : Code := (Tryz.f82.body).getD .skip
def ug : yj := spF (α := Int × Int) (ρ := Int) 82 (fun x => [(eI .i64) x.1, (eI .i64) x.2]) (fun r => (eI .i64) r) (fun x => vE x.1 x.2) [] (Ur)
theorem Ub (hC : zM Tryz.prog ctr) (h0o : ctr.Has kz) : ug.Ok Tryz.prog := by
 refine zS ?_
 rintro ⟨x_, y_⟩ r0 aa
 try unfold vE at aa
 refine yO true [(4, none)] VF 20 Tryz.func82 fun E hE => ?_
 obtain ⟨r_, h0, aa⟩ := zl aa
 obtain ⟨ah, h1, aa⟩ := zl aa
 let Z0 : List HO := [Hc h0o (x := x_) h0 (loC (eI .i64) x_ <| loN), Hc h0o (x := y_) h1 (loC (eI .i64) y_ <| loN)]
 rcases y6 aa with ⟨c0, aa⟩ | ⟨c0, aa⟩
 ·rcases y6 aa with ⟨c1, aa⟩ | ⟨c1, aa⟩
  ·obtain rfl := zi aa
   exact yE X0 hC hE (Z0 ++ [Hq c0, Hq c1])
  ·obtain rfl := zi aa
   exact yE X0 hC hE (Z0 ++ [Hq c0, Hq c1])
 ·rcases y6 aa with ⟨c2, aa⟩ | ⟨c2, aa⟩
  ·obtain rfl := zi aa
   exact yE X0 hC hE (Z0 ++ [Hq c0, Hq c2])
  ·rcases y6 aa with ⟨c3, aa⟩ | ⟨c3, aa⟩
   ·obtain rfl := zi aa
    exact yE X0 hC hE (Z0 ++ [Hq c0, Hq c2, Hq c3])
   ·rcases y6 aa with ⟨c4, aa⟩ | ⟨c4, aa⟩
    ·obtain rfl := zi aa
     exact yE X0 hC hE (Z0 ++ [Hq c0, Hq c2, Hq c3, Hq c4])
    ·obtain rfl := zi aa
     exact yE X0 hC hE (Z0 ++ [Hq c0, Hq c2, Hq c3, Hq c4])
def vg : Code := (Tryz.f83.body).getD .skip
def vb : yj := spF (α := List Int × List Int) (ρ := Int) 83 (fun x => [F7_ x.1, F7_ x.2]) (fun r => (eI .i64) r) (fun x => xv x.1 x.2) [] (Ur)
abbrev Zk (s1 : List Int) (s2 : List Int) : List (Nat × T) := [(0, .d (eSl 1 false (eI .i64) s1)), (1, .d (eSl 1 false (eI .i64) s2))]
abbrev Zj (s1 : List Int) (s2 : List Int) (dw : Int) : List (Nat × T) := [(0, .d (eSl 1 false (eI .i64) s1)), (1, .d (eSl 1 false (eI .i64) s2)), (9, .d (eSl 1 false (eI .i64) s1)), (10, .d (I ((s1.length : Nat) : Int))), (11, .d (I dw))]
theorem Yr (hC : zM Tryz.prog ctr) (h0e : ctr.Has ug) : vb.Ok Tryz.prog := by
 refine zS ?_
 rintro ⟨s1, s2⟩ r0 aa
 try unfold xv at aa
 refine yO true [(4, none)] vg 36 Tryz.func83 fun E hE => ?_
 refine yJ X0 hC vg [1] [] [0,1] (fun z : Unit => xG s1 s2 = some r0) (fun z => Zk s1 s2) [(0, .d (eSl 1 false (eI .i64) s1)), (1, .d (eSl 1 false (eI .i64) s2))] [Hh (.cut 1)] ?_ fun J1 az => ?_
 ·rintro ⟨⟩ aa
  unfold xG at aa
  let Z0 : List HO := [Ha (lnM (eI .i64) s1), Ha (lnM (eI .i64) s2)]
  rcases y6 aa with ⟨c0, aa⟩ | ⟨c0, aa⟩
  ·obtain rfl := zi aa
   exact yE X0 hC hE (Z0 ++ [Hq c0])
  ·obtain rfl := zi aa
   exact yE X0 hC hE (Z0 ++ [Hq c0])
 ·obtain ⟨t2, ht2, aa⟩ := zl aa
  refine yL X0 hC vg [1,2,1,0] [J1] (fun s => ym s1 s2 s) (fun x => Zj s1 s2 x) 0 ht2  [Ha (lnM (eI .i64) s1)] ?_
  rintro dw m2 bh ae hl1 J2 a8
  try unfold ym at ae
  rcases y6 ae with ⟨c1, ae⟩ | ⟨c1, ae⟩
  ·obtain ⟨gm, h0, ae⟩ := zl ae
   let Z1 : List HO := [Hq c1, Hi (eI .i64) h0, Ha (lnM (eI .i64) s2)]
   rcases y6 ae with ⟨c2, ae⟩ | ⟨c2, ae⟩
   ·obtain rfl := zi ae
    obtain rfl := hl1
    obtain rfl := zi aa
    exact yE X0 hC hE (Z1 ++ [Hq c2])
   ·obtain ⟨ft, h1, ae⟩ := zl ae
    obtain ⟨r_, h2, ae⟩ := zl ae
    let Z2 : List HO := (Z1 ++ [Hq c2, Hi (eI .i64) h1, Hc h0e (x := (gm, ft)) h2 (loC (eI .i64) gm <| loC (eI .i64) ft <| loN)])
    rcases y6 ae with ⟨c3, ae⟩ | ⟨c3, ae⟩
    ·obtain rfl := zi ae
     obtain rfl := hl1
     obtain rfl := zi aa
     exact yE X0 hC hE (Z2 ++ [Hq c3])
    ·obtain rfl := zi ae
     exact yB X0 hC a8 (w64 (dw + 1)) hl1 (Z2 ++ [Hq c3])
  ·obtain rfl := zi ae
   obtain rfl := hl1
   exact yB X0 hC az () aa [Hq c1]
def Xe : Code := (Tryz.f81.body).getD .skip
def YT : yj := spF (α := List Int) (ρ := Int) 81 (fun x => [F7_ x]) (fun r => (eI .i64) r) (fun x => YC x) [] (Kz)
abbrev QC : List (Nat × T) := [(3, .d (I 0))]
abbrev QB (vals : List Int) (x8 : Int) : List (Nat × T) := [(3, .d (I 0)), (6, .d (eSl 1 false (eI .i64) vals)), (7, .d (I ((vals.length : Nat) : Int))), (8, .d (I x8))]
theorem z1o (hC : zM Tryz.prog ctr) : YT.Ok Tryz.prog := by
 refine zS ?_
 rintro vals r0 aa
 try unfold YC at aa
 refine yO true [(2, none)] Xe 18 Tryz.func81 fun E hE => ?_
 refine yJ X0 hC Xe [1,1] [] [3] (fun z : Unit => Zh = some r0) (fun z => QC) [(0, .d (eSl 1 false (eI .i64) vals)), (3, .d (I 0))] [Hh (.cut 2)] ?_ fun J1 az => ?_
 ·rintro ⟨⟩ aa
  unfold Zh at aa
  obtain rfl := zi aa
  exact yE X0 hC hE []
 ·obtain ⟨t2, ht2, aa⟩ := zl aa
  refine yL X0 hC Xe [1,1,2,1,0] [J1] (fun s => uJ vals s) (fun x => QB vals x) 0 ht2  [Ha (lnM (eI .i64) vals)] ?_
  rintro x8 m2 bh ae hl1 J2 a8
  try unfold uJ at ae
  rcases y6 ae with ⟨c0, ae⟩ | ⟨c0, ae⟩
  ·obtain ⟨gu, h0, ae⟩ := zl ae
   rcases y6 ae with ⟨c1, ae⟩ | ⟨c1, ae⟩
   ·obtain rfl := zi ae
    obtain rfl := hl1
    obtain rfl := zi aa
    exact yE X0 hC hE [Hq c0, Hi (eI .i64) h0, Hq c1]
   ·obtain rfl := zi ae
    exact yB X0 hC a8 (w64 (x8 + 1)) hl1 [Hq c0, Hi (eI .i64) h0, Hq c1]
  ·obtain rfl := zi ae
   obtain rfl := hl1
   exact yB X0 hC az () aa [Hq c0]
def Q6 : Code := (Tryz.f67.body).getD .skip
def vW : yj := spF (α := List Int × List Int) (ρ := Int) 67 (fun x => [F7_ x.1, F7_ x.2]) (fun r => (eI .i64) r) (fun x => yR x.1 x.2) [] (Ur)
theorem QU (hC : zM Tryz.prog ctr) (h0e : ctr.Has ug) (h0I : ctr.Has vb) (h0p : ctr.Has YT) : vW.Ok Tryz.prog := by
 refine zS ?_
 rintro ⟨a_, b_⟩ r0 aa
 try unfold yR at aa
 refine yO true [(4, none)] Q6 15 Tryz.func67 fun E hE => ?_
 obtain ⟨r_, h0, aa⟩ := zl aa
 obtain ⟨ah, h1, aa⟩ := zl aa
 obtain ⟨am, h2, aa⟩ := zl aa
 obtain rfl := zi aa
 exact yE X0 hC hE [Ha (lnM (eI .i64) a_), Ha (lnM (eI .i64) b_), Hc h0e (x := (((a_.length : Nat) : Int), ((b_.length : Nat) : Int))) h0 (loC (eI .i64) ((a_.length : Nat) : Int) <| loC (eI .i64) ((b_.length : Nat) : Int) <| loN), Hc h0I (x := (a_, b_)) h1 (loC F7_ a_ <| loC F7_ b_ <| loN), Hg (JV h0p), Hm (shM (eI .i64) (eI .i64) ([r_, ah])), Hs (JW h0p (x := [r_, ah]) h2 (loC F2_ ([r_, ah] : List Int) <| loN))]
def Yl : Code := (Tryz.f60.body).getD .skip
def Ya : yj := spF (α := List (List Int)) (ρ := Bool) 60 (fun x => [Y4 x]) (fun r => eB r) (fun x => Zs x) [] (Kz)
abbrev UH : List (Nat × T) := []
abbrev UG (l_ : List (List Int)) (i_ : Int) : List (Nat × T) := [(0, .d (eSl 1 false F7_ l_)), (3, .d (I i_))]
theorem z0m (hC : zM Tryz.prog ctr) (h08 : ctr.Has vW) : Ya.Ok Tryz.prog := by
 refine zS ?_
 rintro l_ r0 aa
 try unfold Zs at aa
 refine yO true [(2, none)] Yl 21 Tryz.func60 fun E hE => ?_
 refine yJ X0 hC Yl [1] [] [] (fun z : Unit => jS = some r0) (fun z => UH) [(0, .d (eSl 1 false F7_ l_))] [Hh (.cut 1)] ?_ fun J1 az => ?_
 ·rintro ⟨⟩ aa
  unfold jS at aa
  obtain rfl := zi aa
  exact yE X0 hC hE []
 ·obtain ⟨t2, ht2, aa⟩ := zl aa
  refine yL X0 hC Yl [1,2,1,0] [J1] (fun s => u7 l_ s) (fun x => UG l_ x) 1 ht2  [] ?_
  rintro i_ m2 bh ae hl1 J2 a8
  try unfold u7 at ae
  let Z0 : List HO := [Ha (lnM F7_ l_)]
  rcases y6 ae with ⟨c0, ae⟩ | ⟨c0, ae⟩
  ·obtain ⟨bc, h0, ae⟩ := zl ae
   obtain ⟨cn, h1, ae⟩ := zl ae
   obtain ⟨r_, h2, ae⟩ := zl ae
   let Z1 : List HO := (Z0 ++ [Hq c0, Hi F7_ h0, Hi F7_ h1, Hc h08 (x := (bc, cn)) h2 (loC F7_ bc <| loC F7_ cn <| loN)])
   rcases y6 ae with ⟨c1, ae⟩ | ⟨c1, ae⟩
   ·obtain rfl := zi ae
    obtain rfl := hl1
    obtain rfl := zi aa
    exact yE X0 hC hE (Z1 ++ [Hq c1])
   ·obtain rfl := zi ae
    exact yB X0 hC a8 (w64 (i_ + 1)) hl1 (Z1 ++ [Hq c1])
  ·obtain rfl := zi ae
   obtain rfl := hl1
   exact yB X0 hC az () aa (Z0 ++ [Hq c0])
def Yj : Code := (Tryz.f61.body).getD .skip
def jT : yj := spF (α := List (List Int)) (ρ := Int) 61 (fun x => [Y4 x]) (fun r => (eI .i64) r) (fun x => jx x) [] (Kz)
abbrev UD (n_ : Int) : List (Nat × T) := [(2, .d (I n_))]
abbrev UC (l_ : List (List Int)) (dt : Int) (x7 : Int) : List (Nat × T) := [(2, .d (I dt)), (5, .d (eSl 1 false F7_ l_)), (6, .d (I ((l_.length : Nat) : Int))), (7, .d (I x7))]
theorem z0k (hC : zM Tryz.prog ctr) : jT.Ok Tryz.prog := by
 refine zS ?_
 rintro l_ r0 aa
 try unfold jx at aa
 refine yO true [(2, none)] Yj 17 Tryz.func61 fun E hE => ?_
 refine yJ X0 hC Yj [1] [] [2] (fun z : Int => Y6 z = some r0) (fun z => UD z) [(0, .d (eSl 1 false F7_ l_)), (2, .d (I 0))] [Hh (.cut 1)] ?_ fun J1 az => ?_
 ·rintro n_ aa
  unfold Y6 at aa
  obtain rfl := zi aa
  exact yE X0 hC hE []
 ·obtain ⟨t2, ht2, aa⟩ := zl aa
  refine yL X0 hC Yj [1,2,1,0] [J1] (fun s => u3 l_ s.1 s.2) (fun x => UC l_ x.1 x.2) (0,0) ht2  [Ha (lnM F7_ l_)] ?_
  rintro ⟨dt, x7⟩ m2 bh ae hl1 J2 a8
  try unfold u3 at ae
  rcases y6 ae with ⟨c0, ae⟩ | ⟨c0, ae⟩
  ·obtain ⟨bc, h0, ae⟩ := zl ae
   obtain rfl := zi ae
   exact yB X0 hC a8 (w64 (dt + ((bc.length : Nat) : Int)), w64 (x7 + 1)) hl1 [Hq c0, Hi F7_ h0, Ha (lnM (eI .i64) bc)]
  ·obtain rfl := zi ae
   obtain rfl := hl1
   exact yB X0 hC az dt aa [Hq c0]
def KC : Code := (Tryz.f44.body).getD .skip
def Yb : yj := spF (α := List (List Int) × Int) (ρ := Int) 44 (fun x => [Y4 x.1, (eI .i64) x.2]) (fun r => (eI .i64) r) (fun x => Zt x.1 x.2) [] (Ur)
theorem z0n (hC : zM Tryz.prog ctr) (h0f : ctr.Has jU) (h0J : ctr.Has Ya) (h0b : ctr.Has jT) : Yb.Ok Tryz.prog := by
 refine zS ?_
 rintro ⟨l_, inputs⟩ r0 aa
 try unfold Zt at aa
 refine yO true [(4, none)] KC 18 Tryz.func44 fun E hE => ?_
 obtain ⟨r_, h0, aa⟩ := zl aa
 let Z0 : List HO := [Hc h0f (x := (l_, inputs)) h0 (loC Y4 l_ <| loC (eI .i64) inputs <| loN)]
 rcases y6 aa with ⟨c0, aa⟩ | ⟨c0, aa⟩
 ·obtain rfl := zi aa
  exact yE X0 hC hE (Z0 ++ [Hq c0])
 ·obtain ⟨ah, h1, aa⟩ := zl aa
  let Z1 : List HO := (Z0 ++ [Hq c0, Hc h0J (x := l_) h1 (loC Y4 l_ <| loN)])
  rcases y6 aa with ⟨c1, aa⟩ | ⟨c1, aa⟩
  ·obtain rfl := zi aa
   exact yE X0 hC hE (Z1 ++ [Hq c1])
  ·obtain ⟨am, h2, aa⟩ := zl aa
   let Z2 : List HO := (Z1 ++ [Hq c1, Hc h0b (x := l_) h2 (loC Y4 l_ <| loN)])
   rcases y6 aa with ⟨c2, aa⟩ | ⟨c2, aa⟩
   ·obtain rfl := zi aa
    exact yE X0 hC hE (Z2 ++ [Hq c2])
   ·obtain rfl := zi aa
    exact yE X0 hC hE (Z2 ++ [Hq c2])
def VB : Code := (Tryz.f23.body).getD .skip
def xU : yj := spF (α := z6 × List (List Int)) (ρ := Int) 23 (fun x => [yh x.1, Y4 x.2]) (fun r => (eI .i64) r) (fun x => xP x.1 x.2) [] (Ur)
theorem VX (hC : zM Tryz.prog ctr) (h0g : ctr.Has ut) (h0K : ctr.Has Yb) : xU.Ok Tryz.prog := by
 refine zS ?_
 rintro ⟨m_, l_⟩ r0 aa
 try unfold xP at aa
 refine yO true [(4, none)] VB 15 Tryz.func23 fun E hE => ?_
 obtain ⟨r_, h0, aa⟩ := zl aa
 let Z0 : List HO := [Hc h0g (x := m_) h0 (loC yh m_ <| loN)]
 rcases y6 aa with ⟨c0, aa⟩ | ⟨c0, aa⟩
 ·obtain rfl := zi aa
  exact yE X0 hC hE (Z0 ++ [Hq c0])
 ·obtain ⟨ah, h1, aa⟩ := zl aa
  obtain rfl := zi aa
  exact yE X0 hC hE (Z0 ++ [Hq c0, Hc h0K (x := (l_, m_.Inputs)) h1 (loC Y4 l_ <| loC (eI .i64) m_.Inputs <| loN)])
def Uz : Code := (Tryz.f39.body).getD .skip
def uu : yj := spF (α := Unit) (ρ := zh) 39 (fun x => []) (fun r => (zQ (eMp (eI .i64) eB) (eMp F0_ eB) (eMp zH eB)) r) (fun x => uW) [] (fun _ _ _ => rfl)
theorem Q2 (hC : zM Tryz.prog ctr) : uu.Ok Tryz.prog := by
 refine zS ?_
 rintro ⟨⟩ r0 aa
 try unfold uW at aa
 refine z4b (tt := wm) (rs := [(true, 0, some 71)]) (n := ⟨6, []⟩) (body := Uz) zD Tryz.func39 rfl (by kernel_rfl) rfl rfl (by show (0 : Nat) ≤ 6; decide) fun E hE => ?_
 obtain rfl := zi aa
 let ZE : List HO := [Hn (⟨rfl, rfl, rfl, rfl, K2 (fun _ => rfl) ([] : List (Int × Bool))⟩ : T.own (.opq (yb (zq (eI .i64) eB ([] : List (Int × Bool))))) = T.own (.opq (yb (zq (eI .i64) eB ([] : List (Int × Bool))))) ∧ 1 = 1 ∧ (JM .i64) ((eI .i64) 0) = true ∧ (eB true).isD = true ∧ ∀ p ∈ zq (eI .i64) eB ([] : List (Int × Bool)), (JM .i64) p.1 = true), Hn (z0B (f := (eI .i64)) (g := eB) 0 true ([] : List (Int × Bool)))]
 exact z6S ((z9F Tryz.prog 4).or ((z9F Tryz.prog 3).or ((zhD z86 1 (zq (eI .i64) eB ([] : List (Int × Bool))) (zq (eI .i64) eB (QG ([] : List (Int × Bool)) 0 true))).or ((z9F Tryz.prog 1).or X0)))) zD hC XT hE 4000 (hs := hoH ZE) (x := (.agg [.opq (yb (zq (eI .i64) eB (QG ([] : List (Int × Bool)) 0 true))), .opq (yb (zq F0_ eB ([] : List ((xp Int) × Bool)))), .opq (yb (zq zH eB ([] : List (z8 × Bool))))])) (hoB ZE) (by kernel_rfl) (LeV.refl _)
def ud : Code := (Tryz.f32.body).getD .skip
abbrev Yo (u0 : Value) (u1 : Value) (u2 : Value) (m_ : z6) (w_ : List Int) (al : List (Int × Bool)) (ap : List ((xp Int) × Bool)) (cb : Int) (bj : Int) (bo : Int) (d8 : Int) (bf : Int) (ak : ze) (bg : List (z8 × Bool)) : List (Nat × T) := [(3, .own (.box (.agg [.opq (vo u0 (zq (eI .i64) eB al)), .opq (vo u1 (zq F0_ eB (QG ap (xp.mk cb bf) true))), .opq (vo u2 (zq zH eB bg))]))), (4, .own (.box (yh m_))), (6, .d (I cb)), (7, .own (.box (.agg [I bj, I bo, I bf]))), (9, .d (I bf)), (10, .d (I ak.To)), (12, .d (eSl 1 false (eI .i64) w_)), (13, .d (I ((w_.length : Nat) : Int))), (14, .d (I d8))]
abbrev Yn (u0 : Value) (u1 : Value) (u2 : Value) (m_ : z6) (w_ : List Int) (al : List (Int × Bool)) (ap : List ((xp Int) × Bool)) (aq : List (z8 × Bool)) (cb : Int) (bj : Int) (bo : Int) (d8 : Int) : List (Nat × T) := [(3, .own (.box (.agg [.opq (vo u0 (zq (eI .i64) eB al)), .opq (vo u1 (zq F0_ eB ap)), .opq (vo u2 (zq zH eB aq))]))), (4, .own (.box (yh m_))), (6, .d (I cb)), (7, .own (.box (.agg [I bj, I bo, I (-1)]))), (12, .d (eSl 1 false (eI .i64) w_)), (13, .d (I ((w_.length : Nat) : Int))), (14, .d (I d8))]
theorem jZ (hC : zM Tryz.prog ctr) : ∀ (m_ : z6) (w_ : List Int) (x_ : zh) (r0 : zh), xz m_ w_ x_ = some r0 → ∀ us : List Value, us.length = 3 → ur Tryz.prog (.fn 32 []) ([] ++ .agg (us.map .atom) :: [.agg [I m_.Inputs, I m_.Outputs, eSl 1 false ue m_.Rows], eSl 1 false (eI .i64) w_]) (Xr us [zq (eI .i64) eB x_.states_, zq F0_ eB x_.edges_, zq zH eB x_.pairs_]) (.tup []) ([zq (eI .i64) eB r0.states_, zq F0_ eB r0.edges_, zq zH eB r0.pairs_].map fun e => .opq (yb e)) := by
 intro m_ w_ x_ r0 aa us hus
 obtain ⟨u0, u1, u2, rfl⟩ := zbC hus
 refine Wl (tt := wm) (nt := 50) (body := ud) (B := 3) [] (xl := []) (xr := [.agg [I m_.Inputs, I m_.Outputs, eSl 1 false ue m_.Rows], eSl 1 false (eI .i64) w_]) (caps := []) (es := [zq (eI .i64) eB x_.states_, zq F0_ eB x_.edges_, zq zH eB x_.pairs_]) (es' := [zq (eI .i64) eB r0.states_, zq F0_ eB r0.edges_, zq zH eB r0.pairs_]) (us := [u0, u1, u2]) (r := .tup []) Tryz.func32 rfl (by kernel_rfl) rfl rfl (by decide) (by show (3 : Nat) ≤ 50; decide) rfl rfl (.inl ⟨rfl, rfl⟩) fun E hE => ?_
 try unfold xz at aa
 obtain ⟨t1, ht1, aa⟩ := zl aa
 refine yL X0 hC ud [1,1,1,1,0] [] (fun s => xx m_ w_ s.1 s.2.1 s.2.2.1 s.2.2.2.1 s.2.2.2.2.1 s.2.2.2.2.2.1 s.2.2.2.2.2.2) (fun x => Yn u0 u1 u2 m_ w_ x.1 x.2.1 x.2.2.1 x.2.2.2.1 x.2.2.2.2.1 x.2.2.2.2.2.1 x.2.2.2.2.2.2) (x_.states_, x_.edges_, x_.pairs_, 0, (-1), (-1), 0) ht1  [Ha (lnM (eI .i64) w_)] ?_
 rintro ⟨al, ap, aq, cb, bj, bo, d8⟩ m1 bh ae hl1 J1 az
 try unfold xx at ae
 rcases y6 ae with ⟨c0, ae⟩ | ⟨c0, ae⟩
 ·obtain ⟨bf, h0, ae⟩ := zl ae
  obtain ⟨ar, h1, ae⟩ := zl ae
  obtain ⟨ak, h2, ae⟩ := zl ae
  let Z0 : List HO := [Hq c0, Hi (eI .i64) h0, Hi ue h1, Hi F9_ h2]
  rcases y6 ae with ⟨c1, ae⟩ | ⟨c1, ae⟩
  ·obtain rfl := zi ae
   obtain rfl := hl1
   obtain rfl := zi aa
   exact yF X0 hC .ret [(3, .own (.box (.agg [.opq (vo u0 (zq (eI .i64) eB al)), .opq (vo u1 (zq F0_ eB ap)), .opq (vo u2 (zq zH eB aq))])))] (Z0 ++ [Hq c1]) fun st0 h0 => hE _ st0 (.inr rfl) (JK h0 rfl rfl) zh6
  ·refine yJ ((z9D zaR 30 (ZF u1 (zq F0_ eB ap)) (zq F0_ eB (QG ap (xp.mk cb bf) true))).or X0) hC ud [1,1,1,1,0,0,1,1,0,0,1,1,1,1] [J1] [3,4,6,7,9,10,12,13,14] (fun z : List (z8 × Bool) => yP al ap cb d8 bf ak z = some bh) (fun z => Yo u0 u1 u2 m_ w_ al ap cb bj bo d8 bf ak z) [(3, .own (.box (.agg [.opq (vo u0 (zq (eI .i64) eB al)), .opq (vo u1 (zq F0_ eB (QG ap (xp.mk cb bf) true))), .opq (vo u2 (zq zH eB aq))]))), (4, .own (.box (yh m_))), (6, .d (I cb)), (7, .own (.box (.agg [I bj, I bo, I (-1)]))), (9, .d (I bf)), (10, .d (I ak.To)), (12, .d (eSl 1 false (eI .i64) w_)), (13, .d (I ((w_.length : Nat) : Int))), (14, .d (I d8))] (Z0 ++ [Hq c1, Hn (⟨rfl, rfl, rfl, rfl, rfl, rfl, K2 (fun _ => rfl) ap⟩ : (some (A.opq (vo u1 (zq F0_ eB ap))) : Option A) = some (A.opq (vo u1 (zq F0_ eB ap))) ∧ true = true ∧ 0 = 0 ∧ 0 = 0 ∧ (Vu [.i64, .i64]) (F0_ (xp.mk cb bf)) = true ∧ (eB true).isD = true ∧ ∀ p ∈ zq F0_ eB ap, (Vu [.i64, .i64]) p.1 = true), Hn (z0B (f := F0_) (g := eB) (xp.mk cb bf) true ap), Hh (.cut 1)]) ?_ fun J2 a8 => ?_
   ·rintro bg ae
    unfold yP at ae
    obtain rfl := zi ae
    exact yB ((z9D z86 47 (ZF u0 (zq (eI .i64) eB al)) (zq (eI .i64) eB (QG al ak.To true))).or X0) hC az ((QG al ak.To true), (QG ap (xp.mk cb bf) true), bg, ak.To, cb, bf, w64 (d8 + 1)) hl1 [Hn (⟨rfl, rfl, rfl, rfl, rfl, rfl, K2 (fun _ => rfl) al⟩ : (some (A.opq (vo u0 (zq (eI .i64) eB al))) : Option A) = some (A.opq (vo u0 (zq (eI .i64) eB al))) ∧ true = true ∧ 0 = 0 ∧ 0 = 0 ∧ (JM .i64) ((eI .i64) ak.To) = true ∧ (eB true).isD = true ∧ ∀ p ∈ zq (eI .i64) eB al, (JM .i64) p.1 = true), Hn (z0B (f := (eI .i64)) (g := eB) ak.To true al)]
   ·rcases y6 ae with ⟨c2, ae⟩ | ⟨c2, ae⟩
    ·exact yB ((z9D zaQ 40 (ZF u2 (zq zH eB aq)) (zq zH eB (QG aq (z8.mk bj bo bf) true))).or X0) hC a8 (QG aq (z8.mk bj bo bf) true) ae [Hq c2, Hn (⟨rfl, rfl, rfl, rfl, rfl, rfl, K2 (fun _ => rfl) aq⟩ : (some (A.opq (vo u2 (zq zH eB aq))) : Option A) = some (A.opq (vo u2 (zq zH eB aq))) ∧ true = true ∧ 0 = 0 ∧ 0 = 0 ∧ (Vu [.i64, .i64, .i64]) (zH (z8.mk bj bo bf)) = true ∧ (eB true).isD = true ∧ ∀ p ∈ zq zH eB aq, (Vu [.i64, .i64, .i64]) p.1 = true), Hn (z0B (f := zH) (g := eB) (z8.mk bj bo bf) true aq)]
    ·exact yB X0 hC a8 aq ae [Hq c2]
 ·obtain rfl := zi ae
  obtain rfl := hl1
  obtain rfl := zi aa
  exact yF X0 hC .normal [(3, .own (.box (.agg [.opq (vo u0 (zq (eI .i64) eB al)), .opq (vo u1 (zq F0_ eB ap)), .opq (vo u2 (zq zH eB aq))])))] [Hq c0] fun st0 h0 => hE _ st0 (.inl rfl) (JK h0 rfl rfl) zh6
def uR : Code := (Tryz.f24.body).getD .skip
def xg : yj := spF (α := z6 × List (List Int)) (ρ := zh) 24 (fun x => [yh x.1, Y4 x.2]) (fun r => (zQ (eMp (eI .i64) eB) (eMp F0_ eB) (eMp zH eB)) r) (fun x => yC x.1 x.2) [] (Ur)
abbrev Xj (al : List (Int × Bool)) (ap : List ((xp Int) × Bool)) (aq : List (z8 × Bool)) : List (Nat × T) := [(4, .own (.box (.agg [.atom (.map none), .atom (.map none), .atom (.map none)]))), (5, .own (.box (.agg [.opq (yb (zq (eI .i64) eB al)), .opq (yb (zq F0_ eB ap)), .opq (yb (zq zH eB aq))])))]
abbrev Xi (m_ : z6) (l_ : List (List Int)) (bl : List (Int × Bool)) (bt : List ((xp Int) × Bool)) (bg : List (z8 × Bool)) (dw : Int) : List (Nat × T) := [(2, .own (.box (yh m_))), (4, .own (.box (.agg [.atom (.map none), .atom (.map none), .atom (.map none)]))), (5, .own (.box (.agg [.opq (yb (zq (eI .i64) eB bl)), .opq (yb (zq F0_ eB bt)), .opq (yb (zq zH eB bg))]))), (9, .d (eSl 1 false F7_ l_)), (10, .d (I ((l_.length : Nat) : Int))), (11, .d (I dw))]
theorem WH (hC : zM Tryz.prog ctr) (h0h : ctr.Has uu) : xg.Ok Tryz.prog := by
 refine zS ?_
 rintro ⟨m_, l_⟩ r0 aa
 try unfold yC at aa
 refine z4b (tt := wm) (rs := [(true, 4, some 71)]) (n := ⟨21, []⟩) (body := uR) zD Tryz.func24 rfl (by kernel_rfl) rfl rfl (by show (2 : Nat) ≤ 21; decide) fun E hE => ?_
 obtain ⟨r_, h0, aa⟩ := zl aa
 refine yJ X0 hC uR [1,1] [] [4,5] (fun z : (List (Int × Bool)) × (List ((xp Int) × Bool)) × (List (z8 × Bool)) => uQ z.1 z.2.1 z.2.2 = some r0) (fun z => Xj z.1 z.2.1 z.2.2) [(1, .d (eSl 1 false F7_ l_)), (2, .own (.box (yh m_))), (4, .own (.box (.agg [.atom (.map none), .atom (.map none), .atom (.map none)]))), (5, .own (.box ((zQ (eMp (eI .i64) eB) (eMp F0_ eB) (eMp zH eB)) r_)))] [Hc h0h (x := ()) h0 (loN), Hh (.cut 0)] ?_ fun J1 az => ?_
 ·rintro ⟨al, ap, aq⟩ aa
  unfold uQ at aa
  obtain rfl := zi aa
  let ZE : List HO := []
  exact z6S X0 zD hC XT hE 4000 (hs := hoH ZE) (x := (.agg [.opq (yb (zq (eI .i64) eB al)), .opq (yb (zq F0_ eB ap)), .opq (yb (zq zH eB aq))])) (hoB ZE) (by kernel_rfl) (LeV.refl _)
 ·obtain ⟨t2, ht2, aa⟩ := zl aa
  refine yL X0 hC uR [1,1,2,1,0] [J1] (fun s => xi m_ l_ s.1 s.2.1 s.2.2.1 s.2.2.2) (fun x => Xi m_ l_ x.1 x.2.1 x.2.2.1 x.2.2.2) (r_.states_, r_.edges_, r_.pairs_, 0) ht2  [Ha (lnM F7_ l_)] ?_
  rintro ⟨bl, bt, bg, dw⟩ m2 bh ae hl1 J2 a8
  try unfold xi at ae
  rcases y6 ae with ⟨c0, ae⟩ | ⟨c0, ae⟩
  ·obtain ⟨bc, h1, ae⟩ := zl ae
   obtain ⟨ah, h2, ae⟩ := zl ae
   obtain rfl := zi ae
   exact yB ((Yp (P := Tryz.prog) wm 5 0 [.deref] (fa := .fn 32 []) (r := .tup []) (xl := []) (xr := [yh m_, F7_ bc]) (qs := [(yb (zq (eI .i64) eB bl)), (yb (zq F0_ eB bt)), (yb (zq zH eB bg))]) (qs' := [(yb (zq (eI .i64) eB ah.states_)), (yb (zq F0_ eB ah.edges_)), (yb (zq zH eB ah.pairs_))]) (es := [(zq (eI .i64) eB bl), (zq F0_ eB bt), (zq zH eB bg)]) (es' := [(zq (eI .i64) eB ah.states_), (zq F0_ eB ah.edges_), (zq zH eB ah.pairs_)]) (.inr rfl) (z4z (by kernel_rfl)) (.cons (wb (zq (eI .i64) eB bl)) (.cons (wb (zq F0_ eB bt)) (.cons (wb (zq zH eB bg)) (.nil)))) (fun us hu => jZ hC _ _ _ _ h2 us hu) (some 18)).or X0) hC a8 (ah.states_, ah.edges_, ah.pairs_, w64 (dw + 1)) hl1 [Hq c0, Hi F7_ h1, Hn (⟨rfl, leP (show VU [] [] from inferInstance), leP (show VU [yh m_, F7_ bc] [yh m_, F7_ bc] from inferInstance), rfl, rfl⟩ : ([.fn 32 []] : List A) = [.fn 32 []] ∧ LeP [] [] ∧ LeP [yh m_, F7_ bc] [yh m_, F7_ bc] ∧ T.als 5 [.deref] 0 0 = T.als 5 [.deref] 0 0 ∧ (some (.agg [.opq (yb (zq (eI .i64) eB bl)), .opq (yb (zq F0_ eB bt)), .opq (yb (zq zH eB bg))]) : Option A) = some (.agg [.opq (yb (zq (eI .i64) eB bl)), .opq (yb (zq F0_ eB bt)), .opq (yb (zq zH eB bg))]))]
  ·obtain rfl := zi ae
   obtain rfl := hl1
   exact yB X0 hC az (bl, bt, bg) aa [Hq c0]
def X8 : Code := (Tryz.f31.body).getD .skip
def yi : yj := spF (α := List Int) (ρ := List Int) 31 (fun x => [F7_ x]) (fun r => F6_ r) (fun x => zR x) [] (Kz)
theorem Xq (hC : zM Tryz.prog ctr) : yi.Ok Tryz.prog := by
 refine zS ?_
 rintro s_ r0 aa
 try unfold zR at aa
 refine yO true [(2, none)] X8 8 Tryz.func31 fun E hE => ?_
 refine z3b rfl 0 (sz := 1) (t := false) (es := s_.map (eI .i64)) (by kernel_rfl) fun a6 hv0 hn => ?_
 rcases hn with ⟨hn0, he0⟩ | hn0
 ·obtain ⟨_, aa⟩ := gdE aa
  rw [show s_ = [] from List.map_eq_nil_iff.1 he0] at aa
  obtain rfl := zi aa
  exact yEx ((zbw zD 4 51 (by kernel_rfl) hn0).or ((xMv Tryz.prog 3 0 a6 hv0).or X0)) hC hE [Hn (rfl : some a6 = some a6), Hn (⟨rfl, rfl⟩ : T.d (.atom a6) = T.d (.atom a6) ∧ T.d (.atom (.slice none 0 0)) = T.d (.atom (.slice none 0 0))), qT] (eOs 1 true (eI .i64) []) (show LeV (eOs 1 true (eI .i64) []) (eOs 1 false (eI .i64) ([] : List Int)) from inferInstance)
 ·obtain ⟨g0, aa⟩ := gdE aa
  obtain rfl := zi aa
  exact yE ((zbw zD 4 51 (by kernel_rfl) hn0).or ((xMv Tryz.prog 3 0 a6 hv0).or X0)) hC hE [Hn (rfl : some a6 = some a6), Hn (⟨rfl, rfl⟩ : T.d (.atom a6) = T.d (.atom a6) ∧ T.d (.atom (.slice none 0 0)) = T.d (.atom (.slice none 0 0))), qF, Hn (dM (eI .i64) s_), Hn (aL (eI .i64) (eI .i64) g0), Hl (aM0 (eI .i64) s_)]
def Xs : Code := (Tryz.f30.body).getD .skip
def yn : yj := spF (α := List Int) (ρ := List Int) 30 (fun x => [F7_ x]) (fun r => F2_ r) (fun x => zY x) [] (Kz)
theorem XJ (hC : zM Tryz.prog ctr) : yn.Ok Tryz.prog := by
 refine zS ?_
 rintro s_ r0 aa
 try unfold zY at aa
 refine yO true [(2, none)] Xs 9 Tryz.func30 fun E hE => ?_
 obtain ⟨g0, aa⟩ := gdE aa
 obtain rfl := zi aa
 exact yE X0 hC hE [Ha (lnM (eI .i64) s_), Ha (lnM (eI .i64) s_), Hn (slB g0), Hn (slC g0), Hn (zcb (eI .i64) g0), Ha (zgZ 1 (eI .i64) s_ 0 ((s_.length : Nat) : Int).toNat)]
def Ux : Code := (Tryz.f75.body).getD .skip
def jz : yj := spF (α := z6 × Int) (ρ := z6 × Int) 75 (fun x => [yh x.1, (eI .i64) x.2]) (fun r => (zig 85 z8W (eSp (eI .i64))) r) (fun x => jR x.1 x.2) [] (Ur)
theorem UZ (hC : zM Tryz.prog ctr) : jz.Ok Tryz.prog := by
 refine zS ?_
 rintro ⟨m_, from_⟩ r0 aa
 try unfold jR at aa
 refine yO true [(4, none)] Ux 6 Tryz.func75 fun E hE => ?_
 obtain rfl := zi aa
 exact yEx X0 hC hE [] (.fn 85 [.sptr (.agg [I m_.Inputs, I m_.Outputs, eSl 1 false ue m_.Rows]), .sptr (I from_)]) (show LeV (.fn 85 [.sptr (.agg [I m_.Inputs, I m_.Outputs, eSl 1 false ue m_.Rows]), .sptr (I from_)]) (.fn 85 [.sptr (.agg [I (((m_, from_).1).Inputs), I (((m_, from_).1).Outputs), eSl 1 false ue (((m_, from_).1).Rows)]), .sptr (I ((m_, from_).2))]) from inferInstance)
def yZ : Code := (Tryz.f85.body).getD .skip
abbrev Xv (x0 : z6) (YY : σ → z4i) (a7 : zj) (yr : σ × Bool) (ar : List ze) (da : Int) (fw : List Bool) (fj : List zj) : List (Nat × T) := [(0, .own (.opq (YY yr.1).q)), (1, .d (.sptr (yh x0))), (4, .own (eOs 1 true eB fw)), (5, .own (eDq 3 qO fj)), (6, .own (.box (qO a7))), (36, .d (eSl 2 false F9_ ar)), (37, .d (I ((ar.length : Nat) : Int))), (38, .d (I da))]
abbrev Xt (x0 : z6) (YY : σ → z4i) (a7 : zj) (yr : σ × Bool) (ar : List ze) (cw : List Bool) (ca : List zj) (da : Int) : List (Nat × T) := [(0, .own (.opq (YY yr.1).q)), (1, .d (.sptr (yh x0))), (4, .own (eOs 1 true eB cw)), (5, .own (eDq 3 qO ca)), (6, .own (.box (qO a7))), (36, .d (eSl 2 false F9_ ar)), (37, .d (I ((ar.length : Nat) : Int))), (38, .d (I da))]
abbrev Xu (x0 : z6) (YY : σ → z4i) (fg : σ) (fk : List Bool) (bk : List zj) : List (Nat × T) := [(0, .own (.opq (YY fg).q)), (1, .d (.sptr (yh x0))), (4, .own (eOs 1 true eB fk)), (5, .own (eDq 3 qO bk))]
theorem Vj (hC : zM Tryz.prog ctr) (x0 : z6) (x1 : Int) : z8T Tryz.prog (.fn 85 [.sptr (.agg [I x0.Inputs, I x0.Outputs, eSl 1 false ue x0.Rows]), .sptr (I x1)]) (fun (x : zj) (_ : Bool) (_ : Value) => [qO x]) (@vV x0 x1) := by
 refine zaZ (tt := wm) (nt := 68) (body := yZ) zD Tryz.func85 rfl (by kernel_rfl) rfl rfl (by show (3 : Nat) ≤ 68; decide) ?_
 intro σ yv YY yy hy sg r0 aa E hE
 unfold vV at aa
 obtain ⟨g0, aa⟩ := gdE aa
 obtain ⟨ii, h0, aa⟩ := zl aa
 obtain ⟨t1, ht1, aa⟩ := zl aa
 refine yLx X0 hC yZ [1,1,1,0] [] (fun s => wn x0 yy s.1 s.2.1 s.2.2) (fun x => Xu x0 YY x.1 x.2.1 x.2.2) (sg, ((List.replicate ((x0.Rows.length : Nat) : Int).toNat false).set x1.toNat true), ([(zj.mk x1 (-1) (-1))] : List zj)) ht1 [(0, .own (.opq (YY sg).q)), (1, .d (.sptr (yh x0))), (4, .own (eOs 1 true eB ((List.replicate ((x0.Rows.length : Nat) : Int).toNat false).set x1.toNat true))), (5, .own (eOs 3 true qO ([(zj.mk x1 (-1) (-1))])))] inferInstance [Ha (lnM ue x0.Rows), Hn (rL g0), Ha (rM 1 eB ((x0.Rows.length : Nat) : Int) false), Hn (iL eB h0), Hs (iM eB h0), Hs (iM eB h0), Hl (sM eB (List.replicate ((x0.Rows.length : Nat) : Int).toNat false) x1 true)] ?_
 rintro ⟨fg, fk, bk⟩ m1 bh ae hl1 J1 az
 try unfold wn at ae
 let Z0 : List HO := [Hn (rfl : eDq 3 qO bk = A.opq (JB 3 (bk.map qO)).q), Ha (lnM qO bk)]
 rcases y6 ae with ⟨c0, ae⟩ | ⟨c0, ae⟩
 ·refine yA ((xQl zD 20 149 3 (bk.map qO) (by kernel_rfl)).or X0) hC yZ [1,1,1,0,0,1,0] [J1] [(0, .own (.opq (YY fg).q)), (1, .d (.sptr (yh x0))), (4, .own (eOs 1 true eB fk)), (5, .own (eDq 3 qO bk))] (Z0 ++ [Hq c0, Hh (.cut 0)]) ?_
  obtain ⟨a7, h1, ae⟩ := zl ae
  refine z2v (by kernel_rfl) (x := (sub [1,1,1,0,0,1,0,0] yZ)) (y := (sub [1,1,1,0,0,1,0,1] yZ)) 5 (fun st1 => Own.canon [0,1,4,5,6] st1 = ofL [(0, .own (.opq (YY fg).q)), (1, .d (.sptr (yh x0))), (4, .own (eOs 1 true eB fk)), (5, .own (eDq 3 qO bk)), (6, .own (.box (qO a7)))]) (fun ga => yF ((xQd zD 24 3 5 ga (0 : Int) (bk.map qO) (qO a7)).or ((xQi zD 23 3 5 ga (bk.map qO)).or X0)) hC .normal [(0, .own (.opq (YY fg).q)), (1, .d (.sptr (yh x0))), (4, .own (eOs 1 true eB fk)), (5, .own (eDq 3 qO bk)), (6, .own (.box (qO a7)))] [Hn (⟨rfl, rfl, rfl, rfl, i0 h1, (iL qO h1).2⟩ : T.als 5 [] 0 0 = T.als 5 [] 0 0 ∧ some ga = some ga ∧ T.own (eDq 3 qO bk) = T.own (eDq 3 qO bk) ∧ some 3 = some 3 ∧ (0 : Int) ≤ 0 ∧ (0 : Int).toNat < (bk.map qO).length), Hn (⟨rfl, rfl, rfl, iM qO h1, rfl, Vi.isD a7⟩ : T.d (.atom (z4x 3 ga (0 : Int))) = T.d (.atom (z4x 3 ga (0 : Int))) ∧ some ga = some ga ∧ T.own (eDq 3 qO bk) = T.own (eDq 3 qO bk) ∧ (bk.map qO)[(0 : Int).toNat]? = some (qO a7) ∧ true = true ∧ (qO a7).isD = true)] fun st0 h0 => ⟨rfl, h0⟩) fun st1 h1 => z6R h1 ?_
  obtain ⟨g1, ae⟩ := gdE ae
  obtain ⟨yr, h2, ae⟩ := zl ae
  let Z1 : List HO := [Hn (rfl : eDq 3 qO bk = A.opq (JB 3 (bk.map qO)).q), Hn (⟨g1.1, cuB qO g1⟩ : (0 : Int) ≤ 1 ∧ (1 : Int).toNat ≤ (bk.map qO).length), Hn (drM qO bk (1 : Int).toNat), Hn (zah (yv := yv) (Y := YY) (enc := (fun (x : zj) (_ : Bool) (_ : Value) => [qO x])) (s := fg) (x := a7) (s' := yr.1) (b := yr.2) (v := .nilFunc) [qO a7] (show VU [qO a7] [qO a7] from inferInstance))]
  rcases y6 ae with ⟨c1, ae⟩ | ⟨c1, ae⟩
  ·obtain rfl := zi ae
   obtain rfl := hl1
   obtain rfl := zi aa
   exact yF ((z8Y (P := Tryz.prog) wm hy 29 (s := fg) (x := a7) (s' := yr.1) (b := yr.2) .nilFunc h2).or ((xQs zD 26 3 (bk.map qO) ((bk.drop (1 : Int).toNat).map qO)).or X0)) hC .ret [(0, .own (.opq (YY yr.1).q))] (Z1 ++ [Hq c1]) fun st0 h0 => hE _ st0 (.inr rfl) h0
  ·obtain ⟨ar, h3, ae⟩ := zl ae
   obtain ⟨t2, ht2, ae⟩ := zl ae
   refine yL ((z8Y (P := Tryz.prog) wm hy 29 (s := fg) (x := a7) (s' := yr.1) (b := yr.2) .nilFunc h2).or ((xQs zD 26 3 (bk.map qO) ((bk.drop (1 : Int).toNat).map qO)).or X0)) hC yZ [1,1,1,0,0,1,0,1,1,1,1,0] [J1] (fun s => xy a7 yr ar s.1 s.2.1 s.2.2) (fun x => Xt x0 YY a7 yr ar x.1 x.2.1 x.2.2) (fk, (bk.drop (1 : Int).toNat), 0) ht2  (Z1 ++ [Hq c1, Hi ue h3, Ha (lnM F9_ ar)]) ?_
   rintro ⟨cw, ca, da⟩ m2 fe aj hl2 J2 a8
   try unfold xy at aj
   rcases y6 aj with ⟨c2, aj⟩ | ⟨c2, aj⟩
   ·refine yJ X0 hC yZ [1,1,1,0,0,1,0,1,1,1,1,0,0,1,1] [J1, J2] [0,1,4,5,6,36,37,38] (fun z : List Bool × List zj => yx da z.1 z.2 = some fe) (fun z => Xv x0 YY a7 yr ar da z.1 z.2) [(0, .own (.opq (YY yr.1).q)), (1, .d (.sptr (yh x0))), (4, .own (eOs 1 true eB cw)), (5, .own (eDq 3 qO ca)), (6, .own (.box (qO a7))), (36, .d (eSl 2 false F9_ ar)), (37, .d (I ((ar.length : Nat) : Int))), (38, .d (I da))] [Hq c2, Hh (.cut 0)] ?_ fun J3 bz => ?_
    ·rintro ⟨fw, fj⟩ aj
     unfold yx at aj
     obtain rfl := zi aj
     exact yB X0 hC a8 (fw, fj, w64 (da + 1)) hl2 []
    ·obtain ⟨ak, h4, aj⟩ := zl aj
     let Z2 : List HO := [Hi F9_ h4]
     rcases y6 aj with ⟨c3, aj⟩ | ⟨c3, aj⟩
     ·obtain ⟨gw, h5, aj⟩ := zl aj
      let Z3 : List HO := (Z2 ++ (rpN 4 (Hq c3) [Hn (iL eB h5), Hq c3, Hs (iM eB h5), Hq c3, Hq c3]))
      rcases y6 aj with ⟨c4, aj⟩ | ⟨c4, aj⟩
      ·obtain ⟨io, h6, aj⟩ := zl aj
       obtain ⟨g2, aj⟩ := gdE aj
       exact yB ((xQa zD 66 3 (ca.map qO) ((ca ++ ([(zj.mk ak.To a7.state_ da)] : List zj)).map qO)).or X0) hC bz ((cw.set ak.To.toNat true), (ca ++ ([(zj.mk ak.To a7.state_ da)] : List zj))) aj (Z3 ++ [Hq c4, Hn (iL eB h6), Hs (iM eB h6), Hs (iM eB h6), Hl (sM eB cw ak.To true), Hn (⟨rfl, dM qO ([(zj.mk ak.To a7.state_ da)] : List zj), rfl⟩ : 3 = 3 ∧ A.areD (([(zj.mk ak.To a7.state_ da)] : List zj).map qO) = true ∧ true = true), Hn (⟨rfl, aL qO qO g2, dM qO ca⟩ : eDq 3 qO ca = A.opq (JB 3 (ca.map qO)).q ∧ (ca.map qO).length + (([(zj.mk ak.To a7.state_ da)] : List zj).map qO).length ≤ lim ∧ A.areD (ca.map qO) = true), Hn (aM qO ca ([(zj.mk ak.To a7.state_ da)] : List zj))])
      ·exact yB X0 hC bz (cw, ca) aj (Z3 ++ [Hq c4])
     ·exact yB X0 hC bz (cw, ca) aj (Z2 ++ (rpN 7 (Hq c3) [qF]))
   ·obtain rfl := zi aj
    obtain rfl := hl2
    obtain rfl := zi ae
    exact yB X0 hC az (yr.1, cw, ca) hl1 [Hq c2]
 ·obtain rfl := zi ae
  obtain rfl := hl1
  obtain rfl := zi aa
  exact yF ((xQl zD 20 149 3 (bk.map qO) (by kernel_rfl)).or X0) hC .normal [(0, .own (.opq (YY fg).q))] (Z0 ++ [Hq c0]) fun st0 h0 => hE _ st0 (.inl rfl) h0
def ua : Code := (Tryz.f62.body).getD .skip
def Y9 : yj := spF (α := z6 × Int) (ρ := List (List Int) × List Bool) 62 (fun x => [yh x.1, (eI .i64) x.2]) (fun r => .tup [z4l r.1, (eSl 1 true eB) r.2]) (fun x => Zq x.1 x.2) [] (Ur)
abbrev UB (l_ : List (List Int)) (is : List Bool) : List (Nat × T) := [(6, .own (.box (eOs 1 true F2_ l_))), (7, .own (.box (eOs 1 true eB is)))]
abbrev jP (r_ : z6 × Int) (bn : List (List Int)) (ck : List Bool) : List (Nat × T) := [(6, .own (.box (eOs 1 true F2_ bn))), (7, .own (.box (eOs 1 true eB ck))), (19, .d (.fn 85 [.sptr (.agg [I r_.1.Inputs, I r_.1.Outputs, eSl 1 false ue r_.1.Rows]), .sptr (I r_.2)]))]
theorem z0j (hC : zM Tryz.prog ctr) (h0L : ctr.Has jz) (h01 : ctr.Has yi) (h00 : ctr.Has yn) : Y9.Ok Tryz.prog := by
 refine zS ?_
 rintro ⟨m_, from_⟩ r0 aa
 try unfold Zq at aa
 refine yO false [(4, none), (5, none)] ua 45 Tryz.func62 fun E hE => ?_
 obtain ⟨g0, aa⟩ := gdE aa
 obtain ⟨g1, aa⟩ := gdE aa
 refine yJ ((xMs zD 12 51).or X0) hC ua [1,1] [] [6,7] (fun z : List (List Int) × List Bool => jQ z.1 z.2 = some r0) (fun z => UB z.1 z.2) [(1, .d (I from_)), (2, .own (.box (yh m_))), (6, .own (.box (eOs 1 true F2_ (List.replicate ((m_.Rows.length : Nat) : Int).toNat ([] : List Int))))), (7, .own (.box (eOs 1 true eB (List.replicate ((m_.Rows.length : Nat) : Int).toNat false))))] [Ha (lnM ue m_.Rows), Hn (rL g0), Ha (rM 1 F2_ ((m_.Rows.length : Nat) : Int) ([] : List Int)), Ha (lnM ue m_.Rows), Hn (rL g1), Ha (rM 1 eB ((m_.Rows.length : Nat) : Int) false), Hh (.cut 0)] ?_ fun J1 az => ?_
 ·rintro ⟨l_, is⟩ aa
  unfold jQ at aa
  obtain rfl := zi aa
  exact yE X0 hC hE [Hm (shM F2_ F2_ l_), Hm (shM eB eB is)]
 ·obtain ⟨r_, h0, aa⟩ := zl aa
  obtain ⟨t2, ht2, aa⟩ := zl aa
  refine yAt X0 hC (sub [1,1,2,1,0] ua) (frs [1,1,2,1,0] [J1] ua []) [(6, .own (.box (eOs 1 true F2_ (List.replicate ((m_.Rows.length : Nat) : Int).toNat ([] : List Int))))), (7, .own (.box (eOs 1 true eB (List.replicate ((m_.Rows.length : Nat) : Int).toNat false)))), (19, .d (.fn 85 [.sptr (.agg [I r_.1.Inputs, I r_.1.Outputs, eSl 1 false ue r_.1.Rows]), .sptr (I r_.2)]))] [Hc h0L (x := (m_, from_)) h0 (loC yh m_ <| loC (eI .i64) from_ <| loN)] fun st0 h0 => ?_
  refine zbq (g := .tmp 19) (ps := [20]) (assign := (sub [1,1,2,1,0,0] ua)) (body := (sub [1,1,2,1,0,1] ua)) (K := 85) (caps := [.sptr (.agg [I r_.1.Inputs, I r_.1.Outputs, eSl 1 false ue r_.1.Rows]), .sptr (I r_.2)]) (by kernel_rfl) [6,7,19] (fun s => jP r_ s.1 s.2) (fun z => nomatch z) (fun z => nomatch z) ((fun (x : zj) (_ : Bool) (_ : Value) => [qO x])) (F := @vV r_.1 r_.2) (fun s x => xF s.1 s.2 x) ((List.replicate ((m_.Rows.length : Nat) : Int).toNat ([] : List Int)), (List.replicate ((m_.Rows.length : Nat) : Int).toNat false)) t2 _ h0 inferInstance (by kernel_rfl) (by decide) (fun _ => rfl) (by rintro ⟨⟩) (by kernel_rfl) (fun _ _ _ => rfl) (Vj hC r_.1 r_.2) ht2 ?_ ?_
  ·rintro iy ⟨bn, ck⟩ bw vr bh ae
   replace ae : xF bn ck bw = some bh := ae
   unfold xF at ae
   refine yF X0 hC .normal [(6, .own (.box (eOs 1 true F2_ bn))), (7, .own (.box (eOs 1 true eB ck))), (8, .own (.box (qO bw))), (19, .d (.fn 85 [.sptr (.agg [I r_.1.Inputs, I r_.1.Outputs, eSl 1 false ue r_.1.Rows]), .sptr (I r_.2)]))] [] fun st0 h0 => ⟨rfl, z6R h0 ?_⟩
   obtain ⟨gv, h1, ae⟩ := zl ae
   let Z0 : List HO := [Hn (iL eB h1), Hs (iM eB h1), Hs (iM eB h1), Hl (sM eB ck bw.state_ true)]
   rcases y6 ae with ⟨c0, ae⟩ | ⟨c0, ae⟩
   ·obtain ⟨bc, h2, ae⟩ := zl ae
    obtain ⟨ah, h3, ae⟩ := zl ae
    obtain ⟨g2, ae⟩ := gdE ae
    obtain ⟨am, h4, ae⟩ := zl ae
    obtain ⟨cn, h5, ae⟩ := zl ae
    obtain rfl := zi ae
    exact yF X0 hC .normal (jP r_ (bn.set bw.state_.toNat am) (ck.set bw.state_.toNat true)) (Z0 ++ [Hq c0, Hn (iL F2_ h2), Hs (iM F2_ h2), Hc h01 (x := bc) h3 (loC F2_ bc <| loN), Hq (dM (eI .i64) ([bw.input_] : List Int)), Hn (dM (eI .i64) ([bw.input_] : List Int)), Hn (aL (eI .i64) (eI .i64) g2), Hl (aM (eI .i64) ah ([bw.input_] : List Int)), Hg (JV h00), Hm (shM (eI .i64) (eI .i64) (ah ++ ([bw.input_] : List Int))), Hs (JW h00 (x := (ah ++ ([bw.input_] : List Int))) h4 (loC F7_ (ah ++ ([bw.input_] : List Int)) <| loN)), Hm (shM (eI .i64) (eI .i64) (ah ++ ([bw.input_] : List Int))), Hn (iL F2_ h5), Hs (iM F2_ h5), Hs (iM F2_ h5), Hl (sM F2_ bn bw.state_ am)]) fun st0 h0 => ⟨rfl, _, h0, LeL.refl _⟩
   ·obtain rfl := zi ae
    exact yF X0 hC .normal (jP r_ bn (ck.set bw.state_.toNat true)) (Z0 ++ [Hq c0]) fun st0 h0 => ⟨rfl, _, h0, LeL.refl _⟩
  ·rcases t2 with ⟨bn, ck⟩ | z
   ·dsimp only at aa
    exact z2w (by kernel_rfl) (az _ [(6, .own (.box (eOs 1 true F2_ bn))), (7, .own (.box (eOs 1 true eB ck)))] (bn, ck) aa (show Own.canon [6,7] _ = ofL _ by kernel_rfl) inferInstance)
   ·cases z
def Ka : Code := (Tryz.f45.body).getD .skip
def Zu : yj := spF (α := z6) (ρ := List (List Int) × List Bool × Int) 45 (fun x => [yh x]) (fun r => .tup [z4l r.1, (eSl 1 true eB) r.2.1, (eI .i64) r.2.2]) (fun x => jY x) [] (Kz)
theorem Kp (hC : zM Tryz.prog ctr) (h0g : ctr.Has ut) (h0M : ctr.Has Y9) : Zu.Ok Tryz.prog := by
 refine zS ?_
 rintro m_ r0 aa
 try unfold jY at aa
 refine yO false [(2, none), (3, none), (4, none)] Ka 20 Tryz.func45 fun E hE => ?_
 obtain ⟨r_, h0, aa⟩ := zl aa
 let Z0 : List HO := [Hc h0g (x := m_) h0 (loC yh m_ <| loN)]
 rcases y6 aa with ⟨c0, aa⟩ | ⟨c0, aa⟩
 ·obtain rfl := zi aa
  exact yEx X0 hC hE (Z0 ++ [Hq c0, Hm (shM F7_ F7_ []), Hm (shM eB eB [])]) (.tup [eSl 1 true F2_ [], eSl 1 true eB [], I r_]) (show LeV (.tup [eSl 1 true F2_ [], eSl 1 true eB [], I r_]) (.tup [eSl 1 true F2_ ([] : List (List Int)), eSl 1 true eB ([] : List Bool), I r_]) from inferInstance)
 ·obtain ⟨ah, h1, aa⟩ := zl aa
  obtain rfl := zi aa
  exact yE X0 hC hE (Z0 ++ [Hq c0, Hc h0M (x := (m_, 0)) h1 (loC yh m_ <| loC (eI .i64) 0 <| loN)])
def xm : Code := (Tryz.f26.body).getD .skip
def wJ : yj := spF (α := z6 × Int) (ρ := List zb) 26 (fun x => [yh x.1, (eI .i64) x.2]) (fun r => (eOs 5 false (zc F7_ zH zF)) r) (fun x => v7 x.1 x.2) [] (Ur)
abbrev Vf (out : List zb) : List (Nat × T) := [(8, .own (eOs 5 false (zc F7_ zH zF) out))]
abbrev Ve (m_ : z6) (goal : Int) (r_ : List (List Int) × List Bool × Int) (av : Int) (ay : List zb) : List (Nat × T) := [(1, .d (I goal)), (2, .own (.box (yh m_))), (5, .d (eSl 1 true F2_ r_.1)), (6, .d (eSl 1 true eB r_.2.1)), (8, .own (eOs 5 false (zc F7_ zH zF) ay)), (24, .d (eSl 1 false ue m_.Rows)), (25, .d (I ((m_.Rows.length : Nat) : Int))), (26, .d (I av))]
abbrev Vd (m_ : z6) (goal : Int) (r_ : List (List Int) × List Bool × Int) (av : Int) (ar : List ze) (a9 : Int) (cr : List zb) : List (Nat × T) := [(1, .d (I goal)), (2, .own (.box (yh m_))), (5, .d (eSl 1 true F2_ r_.1)), (6, .d (eSl 1 true eB r_.2.1)), (8, .own (eOs 5 false (zc F7_ zH zF) cr)), (9, .d (.sptr (I av))), (24, .d (eSl 1 false ue m_.Rows)), (25, .d (I ((m_.Rows.length : Nat) : Int))), (26, .d (I av)), (49, .d (eSl 2 false F9_ ar)), (50, .d (I ((ar.length : Nat) : Int))), (51, .d (I a9))]
abbrev Vc (m_ : z6) (goal : Int) (r_ : List (List Int) × List Bool × Int) (av : Int) (ar : List ze) (a9 : Int) (am : List Int) (bu : List ze) (cd : Int) (cp : List zb) : List (Nat × T) := [(1, .d (I goal)), (2, .own (.box (yh m_))), (5, .d (eSl 1 true F2_ r_.1)), (6, .d (eSl 1 true eB r_.2.1)), (8, .own (eOs 5 false (zc F7_ zH zF) cp)), (9, .d (.sptr (I av))), (11, .own (.box (I a9))), (13, .d (eSl 1 false (eI .i64) (am ++ ([a9] : List Int)))), (24, .d (eSl 1 false ue m_.Rows)), (25, .d (I ((m_.Rows.length : Nat) : Int))), (26, .d (I av)), (49, .d (eSl 2 false F9_ ar)), (50, .d (I ((ar.length : Nat) : Int))), (51, .d (I a9)), (84, .d (eSl 2 false F9_ bu)), (85, .d (I ((bu.length : Nat) : Int))), (86, .d (I cd))]
abbrev V9 (m_ : z6) (goal : Int) (r_ : List (List Int) × List Bool × Int) (av : Int) (ar : List ze) (a9 : Int) (am : List Int) (bu : List ze) (cx : List zb) (cd : Int) : List (Nat × T) := [(1, .d (I goal)), (2, .own (.box (yh m_))), (5, .d (eSl 1 true F2_ r_.1)), (6, .d (eSl 1 true eB r_.2.1)), (8, .own (eOs 5 false (zc F7_ zH zF) cx)), (9, .d (.sptr (I av))), (11, .own (.box (I a9))), (13, .d (eSl 1 false (eI .i64) (am ++ ([a9] : List Int)))), (24, .d (eSl 1 false ue m_.Rows)), (25, .d (I ((m_.Rows.length : Nat) : Int))), (26, .d (I av)), (49, .d (eSl 2 false F9_ ar)), (50, .d (I ((ar.length : Nat) : Int))), (51, .d (I a9)), (84, .d (eSl 2 false F9_ bu)), (85, .d (I ((bu.length : Nat) : Int))), (86, .d (I cd))]
abbrev Va (m_ : z6) (goal : Int) (r_ : List (List Int) × List Bool × Int) (av : Int) (ar : List ze) (br : List zb) (a9 : Int) : List (Nat × T) := [(1, .d (I goal)), (2, .own (.box (yh m_))), (5, .d (eSl 1 true F2_ r_.1)), (6, .d (eSl 1 true eB r_.2.1)), (8, .own (eOs 5 false (zc F7_ zH zF) br)), (9, .d (.sptr (I av))), (24, .d (eSl 1 false ue m_.Rows)), (25, .d (I ((m_.Rows.length : Nat) : Int))), (26, .d (I av)), (49, .d (eSl 2 false F9_ ar)), (50, .d (I ((ar.length : Nat) : Int))), (51, .d (I a9))]
abbrev Vb (m_ : z6) (goal : Int) (r_ : List (List Int) × List Bool × Int) (ai : List zb) (av : Int) : List (Nat × T) := [(1, .d (I goal)), (2, .own (.box (yh m_))), (5, .d (eSl 1 true F2_ r_.1)), (6, .d (eSl 1 true eB r_.2.1)), (8, .own (eOs 5 false (zc F7_ zH zF) ai)), (24, .d (eSl 1 false ue m_.Rows)), (25, .d (I ((m_.Rows.length : Nat) : Int))), (26, .d (I av))]
def zK : XH Tryz.prog := ((z4n zD (.inl 107) [104]).or ((z4n zD (.inl 71) [13]).or X0))
theorem Jb (hC : zM Tryz.prog ctr) (h0N : ctr.Has Zu) (h01 : ctr.Has yi) (h00 : ctr.Has yn) : wJ.Ok Tryz.prog := by
 refine zS ?_
 rintro ⟨m_, goal⟩ r0 aa
 try unfold v7 at aa
 refine yO true [(4, none)] xm 114 Tryz.func26 fun E hE => ?_
 obtain ⟨r_, h0, aa⟩ := zl aa
 refine yJ zK hC xm [1,1,1] [] [8] (fun z : List zb => qm z = some r0) (fun z => Vf z) [(1, .d (I goal)), (2, .own (.box (yh m_))), (5, .d (eSl 1 true F2_ r_.1)), (6, .d (eSl 1 true eB r_.2.1)), (8, .own (eOs 5 true (zc F7_ zH zF) []))] [Hc h0N (x := m_) h0 (loC yh m_ <| loN), Hh (.cut 1)] ?_ fun J1 az => ?_
 ·rintro out aa
  unfold qm at aa
  obtain rfl := zi aa
  exact yE zK hC hE []
 ·obtain ⟨t2, ht2, aa⟩ := zl aa
  refine yLx zK hC xm [1,1,1,2,1,0] [J1] (fun s => wQ m_ goal r_ s.1 s.2) (fun x => Vb m_ goal r_ x.1 x.2) (([] : List zb), 0) ht2 [(1, .d (I goal)), (2, .own (.box (yh m_))), (5, .d (eSl 1 true F2_ r_.1)), (6, .d (eSl 1 true eB r_.2.1)), (8, .own (eOs 5 true (zc F7_ zH zF) [])), (24, .d (eSl 1 false ue m_.Rows)), (25, .d (I ((m_.Rows.length : Nat) : Int))), (26, .d (I 0))] inferInstance [Ha (lnM ue m_.Rows)] ?_
  rintro ⟨ai, av⟩ m2 bh ae hl1 J2 a8
  try unfold wQ at ae
  rcases y6 ae with ⟨c0, ae⟩ | ⟨c0, ae⟩
  ·refine yJ zK hC xm [1,1,1,2,1,0,0,1,1] [J1, J2] [1,2,5,6,8,24,25,26] (fun z : List zb => xk av z = some bh) (fun z => Ve m_ goal r_ av z) [(1, .d (I goal)), (2, .own (.box (yh m_))), (5, .d (eSl 1 true F2_ r_.1)), (6, .d (eSl 1 true eB r_.2.1)), (8, .own (eOs 5 false (zc F7_ zH zF) ai)), (24, .d (eSl 1 false ue m_.Rows)), (25, .d (I ((m_.Rows.length : Nat) : Int))), (26, .d (I av))] [Hq c0, Hh (.cut 0)] ?_ fun J3 bz => ?_
   ·rintro ay ae
    unfold xk at ae
    obtain rfl := zi ae
    exact yB zK hC a8 (ay, w64 (av + 1)) hl1 []
   ·obtain ⟨ar, h1, ae⟩ := zl ae
    obtain ⟨u_, h2, ae⟩ := zl ae
    let Z0 : List HO := [Hi ue h1, Hi eB h2]
    rcases y6 ae with ⟨c1, ae⟩ | ⟨c1, ae⟩
    ·exact yB zK hC bz ai ae (Z0 ++ [Hq c1])
    ·rcases y6 ae with ⟨c2, ae⟩ | ⟨c2, ae⟩
     ·obtain ⟨fl, h3, ae⟩ := zl ae
      obtain ⟨g0, ae⟩ := gdE ae
      exact yB ((xLs zD 42 (eSl 1 true (eI .i64) fl) (eSl 1 false (eI .i64) fl) inferInstance).or zK) hC bz (ai ++ ([(zb.mk fl (z8.mk av 0 0) (.inl av))] : List zb)) ae (Z0 ++ [Hq c1, Hh (.n 1 [9]), Hq c2, Hi F2_ h3, Hn (rfl : T.d (eSl 1 true (eI .i64) fl) = T.d (eSl 1 true (eI .i64) fl)), Hq (dM (zc F7_ zH zF) ([(zb.mk fl (z8.mk av 0 0) (.inl av))] : List zb)), Hn (dM (zc F7_ zH zF) ([(zb.mk fl (z8.mk av 0 0) (.inl av))] : List zb)), Hn (aL (zc F7_ zH zF) (zc F7_ zH zF) g0), Hl (aM (zc F7_ zH zF) ai ([(zb.mk fl (z8.mk av 0 0) (.inl av))] : List zb))])
     ·obtain ⟨t4, ht4, ae⟩ := zl ae
      refine yL zK hC xm [1,1,1,2,1,0,0,1,1,2,0,1,1,1,1,0] [J1, J2, J3] (fun s => wP m_ goal r_ av ar s.1 s.2) (fun x => Va m_ goal r_ av ar x.1 x.2) (ai,0) ht4  (Z0 ++ [Hq c1, Hh (.n 1 [9]), Hq c2, Ha (lnM F9_ ar)]) ?_
      rintro ⟨br, a9⟩ m4 fe aj hl2 J4 dr
      try unfold wP at aj
      rcases y6 aj with ⟨c3, aj⟩ | ⟨c3, aj⟩
      ·refine yJ zK hC xm [1,1,1,2,1,0,0,1,1,2,0,1,1,1,1,0,0,1,1] [J1, J2, J3, J4] [1,2,5,6,8,9,24,25,26,49,50,51] (fun z : List zb => xj a9 z = some fe) (fun z => Vd m_ goal r_ av ar a9 z) [(1, .d (I goal)), (2, .own (.box (yh m_))), (5, .d (eSl 1 true F2_ r_.1)), (6, .d (eSl 1 true eB r_.2.1)), (8, .own (eOs 5 false (zc F7_ zH zF) br)), (9, .d (.sptr (I av))), (24, .d (eSl 1 false ue m_.Rows)), (25, .d (I ((m_.Rows.length : Nat) : Int))), (26, .d (I av)), (49, .d (eSl 2 false F9_ ar)), (50, .d (I ((ar.length : Nat) : Int))), (51, .d (I a9))] [Hq c3, Hh (.cut 0)] ?_ fun J5 dg => ?_
       ·rintro cr aj
        unfold xj at aj
        obtain rfl := zi aj
        exact yB zK hC dr (cr, w64 (a9 + 1)) hl2 []
       ·obtain ⟨ak, h4, aj⟩ := zl aj
        let Z1 : List HO := [Hi F9_ h4]
        rcases y6 aj with ⟨c4, aj⟩ | ⟨c4, aj⟩
        ·exact yB zK hC dg br aj (Z1 ++ [Hq c4])
        ·obtain ⟨ij, h5, aj⟩ := zl aj
         obtain ⟨ah, h6, aj⟩ := zl aj
         obtain ⟨am, h7, aj⟩ := zl aj
         obtain ⟨g1, aj⟩ := gdE aj
         let Z2 : List HO := (Z1 ++ [Hq c4, Hi F2_ h5, Hc h01 (x := ij) h6 (loC F2_ ij <| loN), Hg (JV h00), Hm (shM (eI .i64) (eI .i64) ah), Hs (JW h00 (x := ah) h7 (loC F7_ ah <| loN)), Hm (shM (eI .i64) (eI .i64) ah), Hq (dM (eI .i64) ([a9] : List Int)), Hn (dM (eI .i64) ([a9] : List Int)), Hn (aN (eI .i64) (eI .i64) g1 (by simp)), Hl (aM (eI .i64) am ([a9] : List Int))])
         rcases y6 aj with ⟨c5, aj⟩ | ⟨c5, aj⟩
         ·obtain ⟨g2, aj⟩ := gdE aj
          exact yB zK hC dg (br ++ ([(zb.mk (am ++ ([a9] : List Int)) (z8.mk av a9 0) (.inr (.inl (av, a9))))] : List zb)) aj (Z2 ++ [Hq c5, Hm (shM (eI .i64) (eI .i64) (am ++ ([a9] : List Int))), Hq (dM (zc F7_ zH zF) ([(zb.mk (am ++ ([a9] : List Int)) (z8.mk av a9 0) (.inr (.inl (av, a9))))] : List zb)), Hn (dM (zc F7_ zH zF) ([(zb.mk (am ++ ([a9] : List Int)) (z8.mk av a9 0) (.inr (.inl (av, a9))))] : List zb)), Hn (aL (zc F7_ zH zF) (zc F7_ zH zF) g2), Hl (aM (zc F7_ zH zF) br ([(zb.mk (am ++ ([a9] : List Int)) (z8.mk av a9 0) (.inr (.inl (av, a9))))] : List zb))])
         ·obtain ⟨bu, h8, aj⟩ := zl aj
          obtain ⟨t6, ht6, aj⟩ := zl aj
          refine yL zK hC xm [1,1,1,2,1,0,0,1,1,2,0,1,1,1,1,0,0,1,1,2,0,1,1,1,1,1,0] [J1, J2, J3, J4, J5] (fun s => wO av a9 am bu s.1 s.2) (fun x => V9 m_ goal r_ av ar a9 am bu x.1 x.2) (br,0) ht6  (Z2 ++ [Hq c5, Hi ue h8, Ha (lnM F9_ bu), Hh (.n 1 [13]), Hm (shM (eI .i64) (eI .i64) (am ++ ([a9] : List Int)))]) ?_
          rintro ⟨cx, cd⟩ m6 iu bp hl3 J6 eu
          try unfold wO at bp
          rcases y6 bp with ⟨c6, bp⟩ | ⟨c6, bp⟩
          ·refine yJ zK hC xm [1,1,1,2,1,0,0,1,1,2,0,1,1,1,1,0,0,1,1,2,0,1,1,1,1,1,0,0,1,1] [J1, J2, J3, J4, J5, J6] [1,2,5,6,8,9,11,13,24,25,26,49,50,51,84,85,86] (fun z : List zb => wR cd z = some iu) (fun z => Vc m_ goal r_ av ar a9 am bu cd z) [(1, .d (I goal)), (2, .own (.box (yh m_))), (5, .d (eSl 1 true F2_ r_.1)), (6, .d (eSl 1 true eB r_.2.1)), (8, .own (eOs 5 false (zc F7_ zH zF) cx)), (9, .d (.sptr (I av))), (11, .own (.box (I a9))), (13, .d (eSl 1 false (eI .i64) (am ++ ([a9] : List Int)))), (24, .d (eSl 1 false ue m_.Rows)), (25, .d (I ((m_.Rows.length : Nat) : Int))), (26, .d (I av)), (49, .d (eSl 2 false F9_ ar)), (50, .d (I ((ar.length : Nat) : Int))), (51, .d (I a9)), (84, .d (eSl 2 false F9_ bu)), (85, .d (I ((bu.length : Nat) : Int))), (86, .d (I cd))] [Hq c6, Hh (.cut 0)] ?_ fun J7 fy => ?_
           ·rintro cp bp
            unfold wR at bp
            obtain rfl := zi bp
            exact yB zK hC eu (cp, w64 (cd + 1)) hl3 []
           ·obtain ⟨bi, h9, bp⟩ := zl bp
            let Z3 : List HO := [Hi F9_ h9]
            rcases y6 bp with ⟨c7, bp⟩ | ⟨c7, bp⟩
            ·obtain ⟨au, h10, bp⟩ := zl bp
             obtain ⟨aw, h11, bp⟩ := zl bp
             obtain ⟨g3, bp⟩ := gdE bp
             obtain ⟨g4, bp⟩ := gdE bp
             exact yB zK hC fy (cx ++ ([(zb.mk (aw ++ ([cd] : List Int)) (z8.mk av a9 cd) (.inr (.inr (z8.mk av a9 cd))))] : List zb)) bp (Z3 ++ [Hq c7, Hh (.n 2 [16]), Hc h01 (x := (am ++ ([a9] : List Int))) h10 (loC F7_ (am ++ ([a9] : List Int)) <| loN), Hg (JV h00), Hm (shM (eI .i64) (eI .i64) au), Hs (JW h00 (x := au) h11 (loC F7_ au <| loN)), Hm (shM (eI .i64) (eI .i64) au), Hq (dM (eI .i64) ([cd] : List Int)), Hn (dM (eI .i64) ([cd] : List Int)), Hn (aN (eI .i64) (eI .i64) g3 (by simp)), Hl (aM (eI .i64) aw ([cd] : List Int)), Hm (shM (eI .i64) (eI .i64) (aw ++ ([cd] : List Int))), Hq (dM (zc F7_ zH zF) ([(zb.mk (aw ++ ([cd] : List Int)) (z8.mk av a9 cd) (.inr (.inr (z8.mk av a9 cd))))] : List zb)), Hn (dM (zc F7_ zH zF) ([(zb.mk (aw ++ ([cd] : List Int)) (z8.mk av a9 cd) (.inr (.inr (z8.mk av a9 cd))))] : List zb)), Hn (aL (zc F7_ zH zF) (zc F7_ zH zF) g4), Hl (aM (zc F7_ zH zF) cx ([(zb.mk (aw ++ ([cd] : List Int)) (z8.mk av a9 cd) (.inr (.inr (z8.mk av a9 cd))))] : List zb))])
            ·exact yB zK hC fy cx bp (Z3 ++ [Hq c7])
          ·obtain rfl := zi bp
           obtain rfl := hl3
           exact yB zK hC dg cx aj [Hq c6]
      ·obtain rfl := zi aj
       obtain rfl := hl2
       exact yB zK hC bz br ae [Hq c3]
  ·obtain rfl := zi ae
   obtain rfl := hl1
   exact yB zK hC az ai aa [Hq c0]
def VE : Code := (Tryz.f46.body).getD .skip
theorem U0 (hC : zM Tryz.prog ctr) : ∀ (x0 : Int) (x_ : zh) (r0 : Bool), jb x0 x_ = some r0 → ∀ us : List Value, us.length = 3 → ur Tryz.prog (.fn 46 [.sptr (I x0)]) ([] ++ .agg (us.map .atom) :: []) (Xr us [zq (eI .i64) eB x_.states_, zq F0_ eB x_.edges_, zq zH eB x_.pairs_]) (B r0) ([zq (eI .i64) eB x_.states_, zq F0_ eB x_.edges_, zq zH eB x_.pairs_].map fun e => .opq (yb e)) := by
 intro x0 x_ r0 aa us hus
 obtain ⟨u0, u1, u2, rfl⟩ := zbC hus
 refine Wl (tt := wm) (nt := 8) (body := VE) (B := 2) [3] (xl := []) (xr := []) (caps := [.sptr (I x0)]) (es := [zq (eI .i64) eB x_.states_, zq F0_ eB x_.edges_, zq zH eB x_.pairs_]) (es' := [zq (eI .i64) eB x_.states_, zq F0_ eB x_.edges_, zq zH eB x_.pairs_]) (us := [u0, u1, u2]) (r := B r0) Tryz.func46 rfl (by kernel_rfl) rfl rfl (by decide) (by show (2 : Nat) ≤ 8; decide) rfl rfl (.inr ⟨_, rfl⟩) fun E hE => ?_
 try unfold jb at aa
 obtain ⟨val, h0, aa⟩ := zl aa
 replace h0 := zi h0
 obtain rfl := zi aa
 exact yF ((z4Y z86 7 (ZF u0 (zq (eI .i64) eB x_.states_))).or X0) hC .ret [(2, .own (.box (.agg [.opq (vo u0 (zq (eI .i64) eB x_.states_)), .opq (vo u1 (zq F0_ eB x_.edges_)), .opq (vo u2 (zq zH eB x_.pairs_))]))), (3, .d (B val))] [Hn (⟨rfl, rfl, K2 (fun _ => rfl) x_.states_⟩ : A.opq (vo u0 (zq (eI .i64) eB x_.states_)) = A.opq (vo u0 (zq (eI .i64) eB x_.states_)) ∧ (JM .i64) ((eI .i64) x0) = true ∧ ∀ p ∈ zq (eI .i64) eB x_.states_, (JM .i64) p.1 = true), Hx (.a (eB val)) ((zft (f := (eI .i64)) (g := eB) (z0 := false) (z := .atom (.bool false)) rfl x0 x_.states_).trans (congrArg eB h0))] fun st0 h0 => hE _ st0 (.inr rfl) (JK h0 rfl rfl) (z5S (zd4 h0 rfl rfl))
def VD : Code := (Tryz.f47.body).getD .skip
theorem VZ (hC : zM Tryz.prog ctr) : ∀ (x0 : Int) (x1 : Int) (x_ : zh) (r0 : Bool), ja x0 x1 x_ = some r0 → ∀ us : List Value, us.length = 3 → ur Tryz.prog (.fn 47 [.sptr (I x0), .sptr (I x1)]) ([] ++ .agg (us.map .atom) :: []) (Xr us [zq (eI .i64) eB x_.states_, zq F0_ eB x_.edges_, zq zH eB x_.pairs_]) (B r0) ([zq (eI .i64) eB x_.states_, zq F0_ eB x_.edges_, zq zH eB x_.pairs_].map fun e => .opq (yb e)) := by
 intro x0 x1 x_ r0 aa us hus
 obtain ⟨u0, u1, u2, rfl⟩ := zbC hus
 refine Wl (tt := wm) (nt := 11) (body := VD) (B := 3) [4] (xl := []) (xr := []) (caps := [.sptr (I x0), .sptr (I x1)]) (es := [zq (eI .i64) eB x_.states_, zq F0_ eB x_.edges_, zq zH eB x_.pairs_]) (es' := [zq (eI .i64) eB x_.states_, zq F0_ eB x_.edges_, zq zH eB x_.pairs_]) (us := [u0, u1, u2]) (r := B r0) Tryz.func47 rfl (by kernel_rfl) rfl rfl (by decide) (by show (3 : Nat) ≤ 11; decide) rfl rfl (.inr ⟨_, rfl⟩) fun E hE => ?_
 try unfold ja at aa
 obtain ⟨val, h0, aa⟩ := zl aa
 replace h0 := zi h0
 obtain rfl := zi aa
 exact yF ((z4Y zaR 10 (ZF u1 (zq F0_ eB x_.edges_))).or X0) hC .ret [(3, .own (.box (.agg [.opq (vo u0 (zq (eI .i64) eB x_.states_)), .opq (vo u1 (zq F0_ eB x_.edges_)), .opq (vo u2 (zq zH eB x_.pairs_))]))), (4, .d (B val))] [Hn (⟨rfl, rfl, K2 (fun _ => rfl) x_.edges_⟩ : A.opq (vo u1 (zq F0_ eB x_.edges_)) = A.opq (vo u1 (zq F0_ eB x_.edges_)) ∧ (Vu [.i64, .i64]) (F0_ (xp.mk x0 x1)) = true ∧ ∀ p ∈ zq F0_ eB x_.edges_, (Vu [.i64, .i64]) p.1 = true), Hx (.a (eB val)) ((zft (f := F0_) (g := eB) (z0 := false) (z := .atom (.bool false)) rfl (xp.mk x0 x1) x_.edges_).trans (congrArg eB h0))] fun st0 h0 => hE _ st0 (.inr rfl) (JK h0 rfl rfl) (z5S (zd4 h0 rfl rfl))
def VC : Code := (Tryz.f48.body).getD .skip
theorem VY (hC : zM Tryz.prog ctr) : ∀ (x0 : z8) (x_ : zh) (r0 : Bool), j9 x0 x_ = some r0 → ∀ us : List Value, us.length = 3 → ur Tryz.prog (.fn 48 [.sptr (.agg [I x0.State, I x0.Input, I x0.Next])]) ([] ++ .agg (us.map .atom) :: []) (Xr us [zq (eI .i64) eB x_.states_, zq F0_ eB x_.edges_, zq zH eB x_.pairs_]) (B r0) ([zq (eI .i64) eB x_.states_, zq F0_ eB x_.edges_, zq zH eB x_.pairs_].map fun e => .opq (yb e)) := by
 intro x0 x_ r0 aa us hus
 obtain ⟨u0, u1, u2, rfl⟩ := zbC hus
 refine Wl (tt := wm) (nt := 8) (body := VC) (B := 2) [3] (xl := []) (xr := []) (caps := [.sptr (.agg [I x0.State, I x0.Input, I x0.Next])]) (es := [zq (eI .i64) eB x_.states_, zq F0_ eB x_.edges_, zq zH eB x_.pairs_]) (es' := [zq (eI .i64) eB x_.states_, zq F0_ eB x_.edges_, zq zH eB x_.pairs_]) (us := [u0, u1, u2]) (r := B r0) Tryz.func48 rfl (by kernel_rfl) rfl rfl (by decide) (by show (2 : Nat) ≤ 8; decide) rfl rfl (.inr ⟨_, rfl⟩) fun E hE => ?_
 try unfold j9 at aa
 obtain ⟨val, h0, aa⟩ := zl aa
 replace h0 := zi h0
 obtain rfl := zi aa
 exact yF ((z4Y zaQ 7 (ZF u2 (zq zH eB x_.pairs_))).or X0) hC .ret [(2, .own (.box (.agg [.opq (vo u0 (zq (eI .i64) eB x_.states_)), .opq (vo u1 (zq F0_ eB x_.edges_)), .opq (vo u2 (zq zH eB x_.pairs_))]))), (3, .d (B val))] [Hn (⟨rfl, rfl, K2 (fun _ => rfl) x_.pairs_⟩ : A.opq (vo u2 (zq zH eB x_.pairs_)) = A.opq (vo u2 (zq zH eB x_.pairs_)) ∧ (Vu [.i64, .i64, .i64]) (zH x0) = true ∧ ∀ p ∈ zq zH eB x_.pairs_, (Vu [.i64, .i64, .i64]) p.1 = true), Hx (.a (eB val)) ((zft (f := zH) (g := eB) (z0 := false) (z := .atom (.bool false)) rfl x0 x_.pairs_).trans (congrArg eB h0))] fun st0 h0 => hE _ st0 (.inr rfl) (JK h0 rfl rfl) (z5S (zd4 h0 rfl rfl))
theorem Yt (hC : zM Tryz.prog ctr) : ∀ (f : Int ⊕ (Int × Int) ⊕ z8) (x : zh) (r0 : Bool), W0 f x = some r0 → ∀ us : List Value, us.length = 3 → ur Tryz.prog (zF f) ([] ++ .agg (us.map .atom) :: []) (Xr us [zq (eI .i64) eB x.states_, zq F0_ eB x.edges_, zq zH eB x.pairs_]) (B r0) ([zq (eI .i64) eB x.states_, zq F0_ eB x.edges_, zq zH eB x.pairs_].map fun e => .opq (yb e)) := by
 intro f x r0 aa us hus
 rcases f with c | c | c
 ·exact U0 hC c x r0 aa us hus
 ·exact VZ hC c.1 c.2 x r0 aa us hus
 ·exact VY hC c x r0 aa us hus
def YD : Code := (Tryz.f65.body).getD .skip
def vt : yj := spF (α := List (List Int)) (ρ := List (List Int)) 65 (fun x => [Y4 x]) (fun r => z4U r) (fun x => wU x) [] (Kz)
theorem YJ (hC : zM Tryz.prog ctr) : vt.Ok Tryz.prog := by
 refine zS ?_
 rintro s_ r0 aa
 try unfold wU at aa
 refine yO true [(2, none)] YD 8 Tryz.func65 fun E hE => ?_
 refine z3b rfl 0 (sz := 1) (t := false) (es := s_.map F7_) (by kernel_rfl) fun a6 hv0 hn => ?_
 rcases hn with ⟨hn0, he0⟩ | hn0
 ·obtain ⟨_, aa⟩ := gdE aa
  rw [show s_ = [] from List.map_eq_nil_iff.1 he0] at aa
  obtain rfl := zi aa
  exact yEx ((zbw zD 4 31 (by kernel_rfl) hn0).or ((xMv Tryz.prog 3 0 a6 hv0).or X0)) hC hE [Hn (rfl : some a6 = some a6), Hn (⟨rfl, rfl⟩ : T.d (.atom a6) = T.d (.atom a6) ∧ T.d (.atom (.slice none 0 0)) = T.d (.atom (.slice none 0 0))), qT] (eOs 1 true F7_ []) (show LeV (eOs 1 true F7_ []) (eOs 1 false F7_ ([] : List (List Int))) from inferInstance)
 ·obtain ⟨g0, aa⟩ := gdE aa
  obtain rfl := zi aa
  exact yE ((zbw zD 4 31 (by kernel_rfl) hn0).or ((xMv Tryz.prog 3 0 a6 hv0).or X0)) hC hE [Hn (rfl : some a6 = some a6), Hn (⟨rfl, rfl⟩ : T.d (.atom a6) = T.d (.atom a6) ∧ T.d (.atom (.slice none 0 0)) = T.d (.atom (.slice none 0 0))), qF, Hn (dM F7_ s_), Hn (aL F7_ F7_ g0), Hl (aM0 F7_ s_)]
def Uy : Code := (Tryz.f70.body).getD .skip
def jA : yj := spF (α := List Int × List Int) (ρ := Bool) 70 (fun x => [F7_ x.1, F7_ x.2]) (fun r => eB r) (fun x => u4 x.1 x.2) [] (Ur)
theorem Q0 (hC : zM Tryz.prog ctr) (h08 : ctr.Has vW) : jA.Ok Tryz.prog := by
 refine zS ?_
 rintro ⟨a_, b_⟩ r0 aa
 try unfold u4 at aa
 refine yO true [(4, none)] Uy 9 Tryz.func70 fun E hE => ?_
 obtain ⟨r_, h0, aa⟩ := zl aa
 obtain rfl := zi aa
 exact yE X0 hC hE [Hc h08 (x := (a_, b_)) h0 (loC F7_ a_ <| loC F7_ b_ <| loN)]
def zT : Code := (Tryz.f69.body).getD .skip
def xL : yj := spF (α := List (List Int) × Unit) (ρ := List (List Int)) 69 (fun x => [z4U x.1, (zbE 70) x.2]) (fun r => z4U r) (fun x => yz x.1 x.2) [true, false] (by
 rintro ⟨a0, a1⟩ ⟨b0, b1⟩ h
 have e0 := qo.inj (f := z4U) _ _ (List.cons.inj h).1
 replace h := (List.cons.inj h).2
 have e1 := qo.inj (f := (zbE 70)) _ _ (List.cons.inj h).1
 subst e0 e1
 rfl)
abbrev jo (s_ : List (List Int)) : List (Nat × T) := [(0, .own (eOs 1 false F7_ s_))]
abbrev jn (s_ : List (List Int)) (k_ : Int) : List (Nat × T) := [(0, .own (eOs 1 false F7_ s_)), (1, .d (.fn 70 [])), (5, .d (I k_))]
abbrev jm (du : List (List Int)) (ct : Int) : List (Nat × T) := [(0, .own (eOs 1 false F7_ du)), (5, .d (I ct))]
abbrev jl (a6 : Value) (k_ : Int) (k2 : Int) (gx : List (List Int)) (gy : Int) : List (Nat × T) := [(0, .own (eOs 1 false F7_ gx)), (1, .d (.fn 70 [])), (5, .d (I gy)), (6, .d (.atom (Yh 1 a6 k_))), (7, .d (I k2))]
abbrev jj (a6 : Value) (k_ : Int) (dj : List (List Int)) (ee : Int) (k2 : Int) : List (Nat × T) := [(0, .own (eOs 1 false F7_ dj)), (1, .d (.fn 70 [])), (5, .d (I ee)), (6, .d (.atom (Yh 1 a6 k_))), (7, .d (I k2))]
abbrev jk (s_ : List (List Int)) (k_ : Int) : List (Nat × T) := [(0, .own (eOs 1 false F7_ s_)), (1, .d (.fn 70 [])), (5, .d (I k_))]
def zw : XH Tryz.prog := ((zhH zD 64).or X0)
theorem kq (hC : zM Tryz.prog ctr) (h0q : ctr.Has jA) : xL.Ok Tryz.prog := by
 refine zS ?_
 rintro ⟨s_, eq⟩ r0 aa
 try unfold yz at aa
 refine yO true [(4, none)] zT 66 Tryz.func69 fun E hE => ?_
 refine z6Q (y := eOs 1 false F7_ s_) rfl 0 (by kernel_rfl) (by kernel_rfl) fun a6 hv0 => ?_
 let Z0 : List HO := [Ha (lnM F7_ s_)]
 rcases y6 aa with ⟨c0, aa⟩ | ⟨c0, aa⟩
 ·obtain rfl := zi aa
  exact yE zw hC hE (Z0 ++ [Hq c0])
 ·refine yJ zw hC zT [1,1] [] [0] (fun z : Unit => xM s_ = some r0) (fun z => jo s_) [(0, .own (eOs 1 false F7_ s_)), (1, .d (.fn 70 []))] (Z0 ++ [Hq c0, Hh (.cut 0)]) ?_ fun J1 az => ?_
  ·rintro ⟨⟩ aa
   unfold xM at aa
   obtain rfl := zi aa
   exact yE zw hC hE []
  ·obtain ⟨t2, ht2, aa⟩ := zl aa
   refine yL zw hC zT [1,1,2,1,0] [J1] (fun s => yg s_ s) (fun x => jk s_ x) 1 ht2  [] ?_
   rintro k_ m2 bh ae hl1 J2 a8
   try unfold yg at ae
   let Z1 : List HO := [Ha (lnM F7_ s_)]
   rcases y6 ae with ⟨c1, ae⟩ | ⟨c1, ae⟩
   ·refine yJ zw hC zT [1,1,2,1,0,0,1] [J1, J2] [0,1,5] (fun z : Unit => yM k_ = some bh) (fun z => jn s_ k_) [(0, .own (eOs 1 false F7_ s_)), (1, .d (.fn 70 [])), (5, .d (I k_))] (Z1 ++ [Hq c1, Hh (.cut 0)]) ?_ fun J3 bz => ?_
    ·rintro ⟨⟩ ae
     unfold yM at ae
     obtain rfl := zi ae
     exact yB zw hC a8 (w64 (k_ + 1)) hl1 []
    ·obtain ⟨dn, h0, ae⟩ := zl ae
     obtain ⟨gh, h1, ae⟩ := zl ae
     obtain ⟨r_, h2, ae⟩ := zl ae
     let Z2 : List HO := [Hn (iL F7_ h0), Hs (iM F7_ h0), Hn (iL F7_ h1), Hs (iM F7_ h1), Hc h0q (x := (dn, gh)) h2 (loC F7_ dn <| loC F7_ gh <| loN)]
     rcases y6 ae with ⟨c2, ae⟩ | ⟨c2, ae⟩
     ·obtain ⟨g0, ae⟩ := gdE ae
      refine yJ ((xAs Tryz.prog 6 (Yh 1 a6 k_)).or ((xVw zD 31 0 a6).or zw)) hC zT [1,1,2,1,0,0,1,2,0,1,0,1] [J1, J2, J3] [0,5] (fun z : List (List Int) × Int => y5 z.1 z.2 = some bh) (fun z => jm z.1 z.2) [(0, .own (eOs 1 false F7_ s_)), (1, .d (.fn 70 [])), (5, .d (I k_)), (6, .d (.atom (Yh 1 a6 k_)))] (Z2 ++ [Hq c2, Hn (⟨.inl rfl, rfl⟩ : (T.als 0 [] 0 0 = T.als 0 [] 0 0 ∨ T.als 0 [] 0 0 = T.d (.atom a6)) ∧ some a6 = some a6), Hn (⟨g0.1, cuB F7_ g0⟩ : (0 : Int) ≤ k_ ∧ k_.toNat ≤ (s_.map F7_).length), Hn (rfl : T.d (.atom (Yh 1 a6 k_)) = T.d (.atom (Yh 1 a6 k_))), Hh (.cut 1)]) ?_ fun J4 dr => ?_
      ·rintro ⟨du, ct⟩ ae
       unfold y5 at ae
       obtain ⟨g1, ae⟩ := gdE ae
       obtain ⟨g2, ae⟩ := gdE ae
       obtain ⟨g3, ae⟩ := gdE ae
       obtain rfl := zi ae
       obtain rfl := hl1
       obtain rfl := zi aa
       exact yE ((xVc zD 61 1 0 a6 ct).or ((xVw zD 61 0 a6).or zw)) hC hE [Hn (⟨.inl rfl, rfl⟩ : (T.als 0 [] 0 0 = T.als 0 [] 0 0 ∨ T.als 0 [] 0 0 = T.d (.atom a6)) ∧ some a6 = some a6), Hn (⟨g1.1, cuB F7_ g1⟩ : (0 : Int) ≤ ct ∧ ct.toNat ≤ (du.map F7_).length), Hn (⟨rfl, rfl⟩ : T.d (.atom (Yh 1 a6 ct)) = T.d (.atom (Yh 1 a6 ct)) ∧ some a6 = some a6), Hn (⟨g2.1, cuB F7_ g2, dM F7_ du⟩ : (0 : Int) ≤ ct ∧ ct.toNat ≤ (du.map F7_).length ∧ A.areD (du.map F7_) = true), Hx (.l ((du.take ct.toNat ++ List.replicate (du.length - ct.toNat) []).map F7_)) (vcM F7_ du ct.toNat ([] : List Int)), Hn g3.1, Hn (cuB F7_ g3), Hl (cuM F7_ (du.take ct.toNat ++ List.replicate (du.length - ct.toNat) []) ct)]
      ·obtain ⟨t5, ht5, ae⟩ := zl ae
       refine yL zw hC zT [1,1,2,1,0,0,1,2,0,1,0,1,2,1,0] [J1, J2, J3, J4] (fun s => y3 k_ s.1 s.2.1 s.2.2) (fun x => jj a6 k_ x.1 x.2.1 x.2.2) (s_, k_, 1) ht5  [] ?_
       rintro ⟨dj, ee, k2⟩ m5 fe aj hl2 J5 dg
       try unfold y3 at aj
       let Z3 : List HO := [Hn (⟨rfl, rfl⟩ : T.d (.atom (Yh 1 a6 k_)) = T.d (.atom (Yh 1 a6 k_)) ∧ some a6 = some a6), Hx (.a (.atom (.int .i64 ((dj.length - k_.toNat : Nat) : Int)))) (vlM F7_ dj k_.toNat)]
       rcases y6 aj with ⟨c3, aj⟩ | ⟨c3, aj⟩
       ·refine yJ ((xVl zD 34 31 1 0 a6 k_ (by kernel_rfl)).or zw) hC zT [1,1,2,1,0,0,1,2,0,1,0,1,2,1,0,0,1] [J1, J2, J3, J4, J5] [0,1,5,6,7] (fun z : List (List Int) × Int => y4 k2 z.1 z.2 = some fe) (fun z => jl a6 k_ k2 z.1 z.2) [(0, .own (eOs 1 false F7_ dj)), (1, .d (.fn 70 [])), (5, .d (I ee)), (6, .d (.atom (Yh 1 a6 k_))), (7, .d (I k2))] (Z3 ++ [Hq c3, Hh (.cut 0)]) ?_ fun J6 eu => ?_
        ·rintro ⟨gx, gy⟩ aj
         unfold y4 at aj
         obtain rfl := zi aj
         exact yB zw hC dg (gx, gy, w64 (k2 + 1)) hl2 []
        ·obtain ⟨g4, aj⟩ := gdE aj
         obtain ⟨ge, h3, aj⟩ := zl aj
         obtain ⟨g5, aj⟩ := gdE aj
         obtain ⟨gf, h4, aj⟩ := zl aj
         obtain ⟨ah, h5, aj⟩ := zl aj
         let Z4 : List HO := [Hn (⟨rfl, rfl⟩ : T.d (.atom (Yh 1 a6 k_)) = T.d (.atom (Yh 1 a6 k_)) ∧ some a6 = some a6), Hn (⟨g4.1, g4.2, (iL F7_ h3).2⟩ : (0 : Int) ≤ k_ ∧ (0 : Int) ≤ k2 ∧ (k_ + k2).toNat < (dj.map F7_).length), Hs (iM F7_ h3), Hn (⟨rfl, rfl⟩ : T.d (.atom (Yh 1 a6 k_)) = T.d (.atom (Yh 1 a6 k_)) ∧ some a6 = some a6), Hn (⟨g5.1, g5.2, (iL F7_ h4).2⟩ : (0 : Int) ≤ k_ ∧ (0 : Int) ≤ w64 (k2 - 1) ∧ (k_ + (w64 (k2 - 1))).toNat < (dj.map F7_).length), Hs (iM F7_ h4), Hc h0q (x := (ge, gf)) h5 (loC F7_ ge <| loC F7_ gf <| loN)]
         rcases y6 aj with ⟨c4, aj⟩ | ⟨c4, aj⟩
         ·obtain ⟨g6, aj⟩ := gdE aj
          obtain ⟨gg, h6, aj⟩ := zl aj
          obtain ⟨iw, h7, aj⟩ := zl aj
          exact yB ((xVi zD 54 1 0 a6 k_).or ((xVi zD 46 1 0 a6 k_).or ((xVi zD 41 1 0 a6 k_).or zw))) hC eu ((dj.set ee.toNat gg), w64 (ee + 1)) aj (Z4 ++ [Hq c4, Hn (⟨rfl, rfl⟩ : T.d (.atom (Yh 1 a6 k_)) = T.d (.atom (Yh 1 a6 k_)) ∧ some a6 = some a6), Hn (⟨g6.1, g6.2, (iL F7_ h6).2⟩ : (0 : Int) ≤ k_ ∧ (0 : Int) ≤ k2 ∧ (k_ + k2).toNat < (dj.map F7_).length), Hs (iM F7_ h6), Hn (iL F7_ h7), Hs (iM F7_ h7), Hs (iM F7_ h7), Hl (sM F7_ dj ee gg)])
         ·exact yB ((xVi zD 46 1 0 a6 k_).or ((xVi zD 41 1 0 a6 k_).or zw)) hC eu (dj, ee) aj (Z4 ++ [Hq c4])
       ·obtain rfl := zi aj
        obtain rfl := hl2
        exact yB ((xVl zD 34 31 1 0 a6 k_ (by kernel_rfl)).or zw) hC dr (dj, ee) ae (Z3 ++ [Hq c3])
     ·exact yB zw hC bz () ae (Z2 ++ [Hq c2])
   ·obtain rfl := zi ae
    obtain rfl := hl1
    exact yB zw hC az () aa (Z1 ++ [Hq c1])
def ZY : Code := (Tryz.f68.body).getD .skip
def yD : yj := spR (α := List (List Int)) (ρ := List (List Int)) 68 (fun x => [z4U x]) (fun r => (eOs 1 true F7_) r) (fun x => x6 x) [true] (Kz)
theorem ZW : ∀ x r, (fun x => x6 x) x = some r → (KA.add yD).run 68 ((KA.add yD).norm 68 ((fun x => [z4U x]) x)) = some ((fun r => (eOs 1 true F7_) r) r) := fun x r h => zif h rfl
theorem ZX : (KA.add yD).lend 68 = none ∧ (KA.add yD).gives 68 = [true] := zfr
theorem va (hC : zM Tryz.prog ctr) : yD.Ok Tryz.prog := by
 refine zca ?_
 rintro s_ r0 aa
 try unfold x6 at aa
 refine yO true [(2, none)] ZY 9 Tryz.func68 fun E hE => ?_
 obtain rfl := zi aa
 exact yE ((xCl zD 8).or X0) hC hE [Ha (lnM F7_ s_), Ha (lnM F7_ s_), Hn (Int.natCast_nonneg _ : (0 : Int) ≤ ((s_.length : Nat) : Int)), Hn (Int.natCast_nonneg _ : (0 : Int) ≤ ((s_.length : Nat) : Int)), Hn (clB F7_ s_), Ha (clE 1 F7_ s_)]
def wz : Code := (Tryz.f51.body).getD .skip
def Zv : yj := spF (α := List (List Int)) (ρ := List (List Int) × Int) 51 (fun x => [Y4 x]) (fun r => .tup [z4l r.1, (eI .i64) r.2]) (fun x => k7 x) [] (Kz)
abbrev VI (out : List (List Int × Bool)) : List (Nat × T) := [(4, .own (eOs 1 true (eFl 1 (eI .i64)) out))]
abbrev VH (dc : Value) (am : List (List Int)) (ay : List (List Int × Bool)) (eg : Int) : List (Nat × T) := [(4, .own (eOs 1 true (eFl 1 (eI .i64)) ay)), (22, .d (.atom (Yh 1 dc (0 : Int)))), (23, .d (I ((am.length - (0 : Int).toNat : Nat) : Int))), (24, .d (I eg))]
theorem Kq (hC : zM Tryz.prog ctr) (h0O : ctr.Has vt) (h08 : ctr.Has vW) (h0P : ctr.Has xL) (h0b : ctr.Has jT) (h01 : ctr.Has yi) (h00 : ctr.Has yn) : Zv.Ok Tryz.prog := by
 refine zS ?_
 rintro l_ r0 aa
 try unfold k7 at aa
 refine yO false [(2, none), (3, none)] wz 37 Tryz.func51 fun E hE => ?_
 obtain ⟨r_, h0, aa⟩ := zl aa
 refine yA X0 hC wz [1,1] [] [(4, .own (eOs 1 false F7_ r_))] [Hc h0O (x := l_) h0 (loC Y4 l_ <| loN), Hh (.cut 0)] ?_
 obtain ⟨sorted, h1, aa⟩ := zl aa
 refine z2v (by kernel_rfl) (x := (sub [1,1,0] wz)) (y := (sub [1,1,1] wz)) 4 (fun st1 => Own.canon [4] st1 = ofL [(4, .own (eOs 1 false F7_ sorted))]) (fun dc => yF ((zeO (P := Tryz.prog) wm [4] (z5i zeZ (f := F7_) (t := false) (v := dc) (fun _ => rfl) (fun _ => rfl) (fun x y c h => zb7 hC h08 (x := (x, y)) h) h1) 10).or X0) hC .normal [(4, .own (eOs 1 false F7_ sorted))] [Hn (zak (f := .fn 66 []) (xs := [.atom dc, .fn 67 []]) (ls := [(dc, eOs 1 false F7_ r_)]) (r := .tup []) (ys := [eOs 1 false F7_ sorted]) [.atom dc, .fn 67 []] (show VU [.atom dc, .fn 67 []] [.atom dc, .fn 67 []] from inferInstance))] fun st0 h0 => ⟨rfl, h0⟩) fun st1 h1 => z6R h1 ?_
 obtain ⟨ah, h2, aa⟩ := zl aa
 obtain ⟨am, h3, aa⟩ := zl aa
 let Z0 : List HO := [Hc h0P (x := (sorted, ())) h2 (loC z4U sorted <| loC (zbE 70) () <| loN), Hh (.g [true]), Hn ZX, Hx (.a ((eOs 1 true F7_) am)) (ZW ah _ h3), Ha (lnM F7_ am)]
 rcases y6 aa with ⟨c0, aa⟩ | ⟨c0, aa⟩
 ·obtain rfl := zi aa
  exact yEx ((z9E zD (va hC) 13).or X0) hC hE (Z0 ++ (rpN 4 (Hq c0) [qT, Hm (shM F7_ F7_ [])])) (.tup [eSl 1 true F2_ [], I 3]) (show LeV (.tup [eSl 1 true F2_ [], I 3]) (.tup [eSl 1 true F2_ ([] : List (List Int)), I 3]) from inferInstance)
 ·obtain ⟨au, h4, aa⟩ := zl aa
  let Z1 : List HO := (Z0 ++ [Hq c0, Hq c0, Hg (JV h0b), Hm (shM F7_ F7_ am), Hs (JW h0b (x := am) h4 (loC zbH am <| loN)), Hq c0, Hq c0])
  rcases y6 aa with ⟨c1, aa⟩ | ⟨c1, aa⟩
  ·obtain rfl := zi aa
   exact yEx ((z9E zD (va hC) 13).or X0) hC hE (Z1 ++ [Hq c1, Hm (shM F7_ F7_ [])]) (.tup [eSl 1 true F2_ [], I 3]) (show LeV (.tup [eSl 1 true F2_ [], I 3]) (.tup [eSl 1 true F2_ ([] : List (List Int)), I 3]) from inferInstance)
  ·refine yA ((z9E zD (va hC) 13).or X0) hC wz [1,1,1,1,1] [] [(4, .own (eOs 1 true F7_ am))] (Z1 ++ [Hq c1, Hh (.cut 0)]) ?_
   refine z6Q (y := eOs 1 true F7_ am) (by kernel_rfl) 4 (by kernel_rfl) (by kernel_rfl) fun dc hv4 => ?_
   refine yJ X0 hC wz [1,1,1,1,1] [] [4] (fun z : List (List Int × Bool) => qP z = some r0) (fun z => VI z) [(4, .own (eOs 1 true F7_ am))] [Hh (.cut 0)] ?_ fun J1 az => ?_
   ·rintro out aa
    unfold qP at aa
    obtain ⟨hfl0, aa⟩ := gdE aa
    obtain rfl := zi aa
    exact yEx X0 hC hE [Hm (shM (eFl 1 (eI .i64)) (eFl 1 (eI .i64)) out)] (.tup [eSl 1 true (eFl 1 (eI .i64)) out, I 0]) (haveI := flA (s := 1) (t := 1) (b := true) (f := (eI .i64)) hfl0; show LeV (.tup [eSl 1 true (eFl 1 (eI .i64)) out, I 0]) (.tup [eSl 1 true F2_ (out.map (·.1)), I 0]) from inferInstance)
   ·obtain ⟨t2, ht2, aa⟩ := zl aa
    refine yLx ((xVl zD 23 31 1 4 dc (0 : Int) (by kernel_rfl)).or ((xMw Tryz.prog 22 4 1 dc).or X0)) hC wz [1,1,1,1,1,2,1,0] [J1] (fun s => xJ am s.1 s.2) (fun x => VH dc am x.1 x.2) ((am.map fun q => (q, false)), 0) ht2 [(4, .own (eOs 1 true F7_ am)), (22, .d (.atom (Yh 1 dc (0 : Int)))), (23, .d (I ((am.length - (0 : Int).toNat : Nat) : Int))), (24, .d (I 0))] inferInstance [Hn (rfl : some dc = some dc), Hn (⟨rfl, rfl⟩ : T.d (.atom (Yh 1 dc (0 : Int))) = T.d (.atom (Yh 1 dc (0 : Int))) ∧ some dc = some dc), Hx (.a (.atom (.int .i64 ((am.length - (0 : Int).toNat : Nat) : Int)))) (vlM F7_ am (0 : Int).toNat)] ?_
    rintro ⟨ay, eg⟩ m2 bh ae hl1 J2 a8
    try unfold xJ at ae
    rcases y6 ae with ⟨c2, ae⟩ | ⟨c2, ae⟩
    ·obtain ⟨g0, ae⟩ := gdE ae
     obtain ⟨dh, h5, ae⟩ := zl ae
     obtain ⟨aw, h6, ae⟩ := zl ae
     obtain ⟨bm, h7, ae⟩ := zl ae
     obtain ⟨d9, h8, ae⟩ := zl ae
     obtain rfl := zi ae
     exact yB ((xVi zD 27 1 4 dc (0 : Int)).or X0) hC a8 ((ay.set eg.toNat (bm, true)), w64 (eg + 1)) hl1 [Hq c2, Hn (⟨rfl, rfl⟩ : T.d (.atom (Yh 1 dc (0 : Int))) = T.d (.atom (Yh 1 dc (0 : Int))) ∧ some dc = some dc), Hn (⟨g0.1, g0.2, (iL (eFl 1 (eI .i64)) h5).2⟩ : (0 : Int) ≤ 0 ∧ (0 : Int) ≤ eg ∧ (0 + eg).toNat < (ay.map (eFl 1 (eI .i64))).length), Hs (iM (eFl 1 (eI .i64)) h5), Hc h01 (x := dh.1) h6 (loC (eSl 1 dh.2 (eI .i64)) dh.1 <| loN), Hg (JV h00), Hm (shM (eI .i64) (eI .i64) aw), Hs (JW h00 (x := aw) h7 (loC F7_ aw <| loN)), Hm (shM (eI .i64) (eI .i64) aw), Hn (iL (eFl 1 (eI .i64)) h8), Hs (iM (eFl 1 (eI .i64)) h8), Hs (iM (eFl 1 (eI .i64)) h8), Hl (sM (eFl 1 (eI .i64)) ay eg (bm, true))]
    ·obtain rfl := zi ae
     obtain rfl := hl1
     exact yB X0 hC az ay aa [Hq c2]
def z0X : Code := (Tryz.f33.body).getD .skip
def YO : yj := spF (α := List (List Int) × Int) (ρ := List (List Int) × Int) 33 (fun x => [Y4 x.1, (eI .i64) x.2]) (fun r => .tup [z4l r.1, (eI .i64) r.2]) (fun x => Wb x.1 x.2) [] (Ur)
theorem z1f (hC : zM Tryz.prog ctr) (h0f : ctr.Has jU) (h0Q : ctr.Has Zv) : YO.Ok Tryz.prog := by
 refine zS ?_
 rintro ⟨l_, inputs⟩ r0 aa
 try unfold Wb at aa
 refine yO false [(4, none), (5, none)] z0X 17 Tryz.func33 fun E hE => ?_
 obtain ⟨r_, h0, aa⟩ := zl aa
 let Z0 : List HO := [Hc h0f (x := (l_, inputs)) h0 (loC Y4 l_ <| loC (eI .i64) inputs <| loN)]
 rcases y6 aa with ⟨c0, aa⟩ | ⟨c0, aa⟩
 ·obtain rfl := zi aa
  exact yEx X0 hC hE (Z0 ++ [Hq c0, Hm (shM F7_ F7_ [])]) (.tup [eSl 1 true F2_ [], I r_]) (show LeV (.tup [eSl 1 true F2_ [], I r_]) (.tup [eSl 1 true F2_ ([] : List (List Int)), I r_]) from inferInstance)
 ·obtain ⟨ah, h1, aa⟩ := zl aa
  obtain rfl := zi aa
  exact yE X0 hC hE (Z0 ++ [Hq c0, Hc h0Q (x := l_) h1 (loC Y4 l_ <| loN)])
def xD : Code := (Tryz.f11.body).getD .skip
def vN : yj := spF (α := z6 × List (List Int) × Int) (ρ := List (List Int) × Int) 11 (fun x => [yh x.1, Y4 x.2.1, (eI .i64) x.2.2]) (fun r => .tup [z4l r.1, (eI .i64) r.2]) (fun x => wS x.1 x.2.1 x.2.2) [] (z6g)
abbrev XG (m_ : z6) (ai : List (List Int)) : List (Nat × T) := [(3, .own (.box (yh m_))), (10, .own (eOs 1 false F2_ ai))]
abbrev XF (m_ : z6) (au : List zb) (eb : Int) (bl : List (Int × Bool)) (bt : List ((xp Int) × Bool)) (bg : List (z8 × Bool)) (br : List (List Int)) : List (Nat × T) := [(3, .own (.box (yh m_))), (9, .own (.box (.agg [.opq (yb (zq (eI .i64) eB bl)), .opq (yb (zq F0_ eB bt)), .opq (yb (zq zH eB bg))]))), (10, .own (eOs 1 false F2_ br)), (48, .own (eOs 5 false (zc F7_ zH zF) au)), (49, .d (I ((au.length : Nat) : Int))), (50, .d (I eb))]
abbrev XE (m_ : z6) (au : List zb) (al : List (Int × Bool)) (ap : List ((xp Int) × Bool)) (aq : List (z8 × Bool)) (ay : List (List Int)) (eb : Int) : List (Nat × T) := [(3, .own (.box (yh m_))), (9, .own (.box (.agg [.opq (yb (zq (eI .i64) eB al)), .opq (yb (zq F0_ eB ap)), .opq (yb (zq zH eB aq))]))), (10, .own (eOs 1 false F2_ ay)), (48, .own (eOs 5 false (zc F7_ zH zF) au)), (49, .d (I ((au.length : Nat) : Int))), (50, .d (I eb))]
abbrev XI (m_ : z6) (goal : Int) (ah : zh) (out : List (List Int)) : List (Nat × T) := [(2, .d (I goal)), (3, .own (.box (yh m_))), (9, .own (.box ((zQ (eMp (eI .i64) eB) (eMp F0_ eB) (eMp zH eB)) ah))), (10, .own (eOs 1 false F2_ out))]
abbrev XD (m_ : z6) (l_ : List (List Int)) (goal : Int) (ah : zh) (cr : List (List Int)) (gn : Int) : List (Nat × T) := [(2, .d (I goal)), (3, .own (.box (yh m_))), (9, .own (.box ((zQ (eMp (eI .i64) eB) (eMp F0_ eB) (eMp zH eB)) ah))), (10, .own (eOs 1 false F2_ cr)), (33, .d (eSl 1 false F7_ l_)), (34, .d (I ((l_.length : Nat) : Int))), (35, .d (I gn))]
theorem Vm (hC : zM Tryz.prog ctr) (h03 : ctr.Has xU) (h02 : ctr.Has xg) (h01 : ctr.Has yi) (h00 : ctr.Has yn) (h04 : ctr.Has wJ) (h0r : ctr.Has YO) : vN.Ok Tryz.prog := by
 refine zS ?_
 rintro ⟨m_, l_, goal⟩ r0 aa
 try unfold wS at aa
 refine yO false [(6, none), (7, none)] xD 81 Tryz.func11 fun E hE => ?_
 obtain ⟨r_, h0, aa⟩ := zl aa
 let Z0 : List HO := [Hc h03 (x := (m_, l_)) h0 (loC yh m_ <| loC Y4 l_ <| loN)]
 rcases y6 aa with ⟨c0, aa⟩ | ⟨c0, aa⟩
 ·obtain rfl := zi aa
  exact yEx X0 hC hE (Z0 ++ [Hq c0, Hm (shM F7_ F7_ [])]) (.tup [eSl 1 true F2_ [], I r_]) (show LeV (.tup [eSl 1 true F2_ [], I r_]) (.tup [eSl 1 true F2_ ([] : List (List Int)), I r_]) from inferInstance)
 ·rcases y6 aa with ⟨c1, aa⟩ | ⟨c1, aa⟩
  ·obtain rfl := zi aa
   exact yEx X0 hC hE (Z0 ++ [Hq c0, Hq c1, Hq c1, Hq c1, qT, Hm (shM F7_ F7_ [])]) (.tup [eSl 1 true F2_ [], I 1]) (show LeV (.tup [eSl 1 true F2_ [], I 1]) (.tup [eSl 1 true F2_ ([] : List (List Int)), I 1]) from inferInstance)
  ·let Z1 : List HO := (Z0 ++ [Hq c0, Hq c1, Hq c1, Hq c1])
   rcases y6 aa with ⟨c2, aa⟩ | ⟨c2, aa⟩
   ·obtain rfl := zi aa
    exact yEx X0 hC hE (Z1 ++ [Hq c2, Hm (shM F7_ F7_ [])]) (.tup [eSl 1 true F2_ [], I 1]) (show LeV (.tup [eSl 1 true F2_ [], I 1]) (.tup [eSl 1 true F2_ ([] : List (List Int)), I 1]) from inferInstance)
   ·obtain ⟨ah, h1, aa⟩ := zl aa
    obtain ⟨g0, aa⟩ := gdE aa
    refine yJ X0 hC xD [1,1,1,1,1] [] [2,3,9,10] (fun z : List (List Int) => vU m_ goal ah z = some r0) (fun z => XI m_ goal ah z) [(1, .d (eSl 1 false F7_ l_)), (2, .d (I goal)), (3, .own (.box (yh m_))), (9, .own (.box ((zQ (eMp (eI .i64) eB) (eMp F0_ eB) (eMp zH eB)) ah))), (10, .own (eOs 1 (decide ((0 : Int) = ((l_.length : Nat) : Int))) F7_ []))] (Z1 ++ [Hq c2, Hc h02 (x := (m_, l_)) h1 (loC yh m_ <| loC Y4 l_ <| loN), Ha (lnM F7_ l_), Hn (rL0 g0), Hx (.a (eOs 1 (decide ((0 : Int) = ((l_.length : Nat) : Int))) F7_ ([] : List (List Int)))) (rM0 1 F7_ ((l_.length : Nat) : Int) (eOs 1 true (eI .i64) [])), Hh (.cut 0)]) ?_ fun J1 az => ?_
    ·rintro out aa
     unfold vU at aa
     refine yJ X0 hC xD [1,1,1,1,1,1] [] [3,10] (fun z : List (List Int) => vT m_ z = some r0) (fun z => XG m_ z) [(2, .d (I goal)), (3, .own (.box (yh m_))), (9, .own (.box ((zQ (eMp (eI .i64) eB) (eMp F0_ eB) (eMp zH eB)) ah))), (10, .own (eOs 1 false F2_ out))] [Hh (.cut 0)] ?_ fun J2 a8 => ?_
     ·rintro ai aa
      unfold vT at aa
      let Z2 : List HO := [Ha (lnM F2_ ai)]
      rcases y6 aa with ⟨c3, aa⟩ | ⟨c3, aa⟩
      ·obtain rfl := zi aa
       exact yEx X0 hC hE (Z2 ++ [Hq c3, Hm (shM F7_ F7_ [])]) (.tup [eSl 1 true F2_ [], I 3]) (show LeV (.tup [eSl 1 true F2_ [], I 3]) (.tup [eSl 1 true F2_ ([] : List (List Int)), I 3]) from inferInstance)
      ·obtain ⟨am, h2, aa⟩ := zl aa
       obtain rfl := zi aa
       exact yE X0 hC hE (Z2 ++ [Hq c3, Hg (JV h0r), Hm (shM F2_ F2_ ai), Hs (JW h0r (x := (ai, m_.Inputs)) h2 (loC (eSl 1 false F2_) ai <| loC (eI .i64) m_.Inputs <| loN)), Hm (shM F2_ F2_ ai)])
     ·obtain ⟨au, h3, aa⟩ := zl aa
      obtain ⟨t3, ht3, aa⟩ := zl aa
      refine yL X0 hC xD [1,1,1,1,1,1,2,1,0] [J2] (fun s => wy m_ au s.1 s.2.1 s.2.2.1 s.2.2.2.1 s.2.2.2.2) (fun x => XE m_ au x.1 x.2.1 x.2.2.1 x.2.2.2.1 x.2.2.2.2) (ah.states_, ah.edges_, ah.pairs_, out, 0) ht3  [Hc h04 (x := (m_, goal)) h3 (loC yh m_ <| loC (eI .i64) goal <| loN), Ha (lnM (zc F7_ zH zF) au)] ?_
      rintro ⟨al, ap, aq, ay, eb⟩ m3 bh ae hl1 J3 bz
      try unfold wy at ae
      rcases y6 ae with ⟨c4, ae⟩ | ⟨c4, ae⟩
      ·refine yJ X0 hC xD [1,1,1,1,1,1,2,1,0,0,1,1] [J2, J3] [3,9,10,48,49,50] (fun z : (List (Int × Bool)) × (List ((xp Int) × Bool)) × (List (z8 × Bool)) × List (List Int) => xC eb z.1 z.2.1 z.2.2.1 z.2.2.2 = some bh) (fun z => XF m_ au eb z.1 z.2.1 z.2.2.1 z.2.2.2) [(3, .own (.box (yh m_))), (9, .own (.box (.agg [.opq (yb (zq (eI .i64) eB al)), .opq (yb (zq F0_ eB ap)), .opq (yb (zq zH eB aq))]))), (10, .own (eOs 1 false F2_ ay)), (48, .own (eOs 5 false (zc F7_ zH zF) au)), (49, .d (I ((au.length : Nat) : Int))), (50, .d (I eb))] [Hq c4, Hh (.cut 0)] ?_ fun J4 dr => ?_
       ·rintro ⟨bl, bt, bg, br⟩ ae
        unfold xC at ae
        obtain rfl := zi ae
        exact yB X0 hC bz (bl, bt, bg, br, w64 (eb + 1)) hl1 []
       ·obtain ⟨ax, h4, ae⟩ := zl ae
        obtain ⟨aw, h5, ae⟩ := zl ae
        let Z3 : List HO := [Hn (iL (zc F7_ zH zF) h4), Hs (iM (zc F7_ zH zF) h4), Hn (⟨rfl, leP (show VU [] [] from inferInstance), leP (show VU [] [] from inferInstance), rfl, rfl⟩ : ([zF ax.has_] : List A) = [zF ax.has_] ∧ LeP [] [] ∧ LeP [] [] ∧ T.als 9 [.deref] 0 0 = T.als 9 [.deref] 0 0 ∧ (some (.agg [.opq (yb (zq (eI .i64) eB al)), .opq (yb (zq F0_ eB ap)), .opq (yb (zq zH eB aq))]) : Option A) = some (.agg [.opq (yb (zq (eI .i64) eB al)), .opq (yb (zq F0_ eB ap)), .opq (yb (zq zH eB aq))]))]
        rcases y6 ae with ⟨c5, ae⟩ | ⟨c5, ae⟩
        ·obtain ⟨bm, h6, ae⟩ := zl ae
         obtain ⟨ce, h7, ae⟩ := zl ae
         obtain ⟨dm, h8, ae⟩ := zl ae
         obtain ⟨g1, ae⟩ := gdE ae
         exact yB ((Yp (P := Tryz.prog) wm 9 0 [.deref] (fa := .fn 32 []) (r := .tup []) (xl := []) (xr := [yh m_, F7_ ax.word_]) (qs := [(yb (zq (eI .i64) eB al)), (yb (zq F0_ eB ap)), (yb (zq zH eB aq))]) (qs' := [(yb (zq (eI .i64) eB bm.states_)), (yb (zq F0_ eB bm.edges_)), (yb (zq zH eB bm.pairs_))]) (es := [(zq (eI .i64) eB al), (zq F0_ eB ap), (zq zH eB aq)]) (es' := [(zq (eI .i64) eB bm.states_), (zq F0_ eB bm.edges_), (zq zH eB bm.pairs_)]) (.inr rfl) (z4z (by kernel_rfl)) (.cons (wb (zq (eI .i64) eB al)) (.cons (wb (zq F0_ eB ap)) (.cons (wb (zq zH eB aq)) (.nil)))) (fun us hu => jZ hC _ _ _ _ h6 us hu) (some 63)).or ((Yp (P := Tryz.prog) wm 9 0 [.deref] (fa := zF ax.has_) (r := B aw) (xl := []) (xr := []) (qs := [(yb (zq (eI .i64) eB al)), (yb (zq F0_ eB ap)), (yb (zq zH eB aq))]) (qs' := [(yb (zq (eI .i64) eB al)), (yb (zq F0_ eB ap)), (yb (zq zH eB aq))]) (es := [(zq (eI .i64) eB al), (zq F0_ eB ap), (zq zH eB aq)]) (es' := [(zq (eI .i64) eB al), (zq F0_ eB ap), (zq zH eB aq)]) (.inr rfl) (z4z (by kernel_rfl)) (.cons (wb (zq (eI .i64) eB al)) (.cons (wb (zq F0_ eB ap)) (.cons (wb (zq zH eB aq)) (.nil)))) (fun us hu => Yt hC _ _ _ h5 us hu) (some 57)).or X0)) hC dr (bm.states_, bm.edges_, bm.pairs_, (ay ++ ([dm] : List (List Int)))) ae (Z3 ++ [Hq c5, Hn (⟨rfl, leP (show VU [] [] from inferInstance), leP (show VU [yh m_, F7_ ax.word_] [yh m_, F7_ ax.word_] from inferInstance), rfl, rfl⟩ : ([.fn 32 []] : List A) = [.fn 32 []] ∧ LeP [] [] ∧ LeP [yh m_, F7_ ax.word_] [yh m_, F7_ ax.word_] ∧ T.als 9 [.deref] 0 1 = T.als 9 [.deref] 0 1 ∧ (some (.agg [.opq (yb (zq (eI .i64) eB al)), .opq (yb (zq F0_ eB ap)), .opq (yb (zq zH eB aq))]) : Option A) = some (.agg [.opq (yb (zq (eI .i64) eB al)), .opq (yb (zq F0_ eB ap)), .opq (yb (zq zH eB aq))])), Hc h01 (x := ax.word_) h7 (loC F7_ ax.word_ <| loN), Hg (JV h00), Hm (shM (eI .i64) (eI .i64) ce), Hs (JW h00 (x := ce) h8 (loC F7_ ce <| loN)), Hm (shM (eI .i64) (eI .i64) ce), Hq (dM F2_ ([dm] : List (List Int))), Hn (dM F2_ ([dm] : List (List Int))), Hn (aL F2_ F2_ g1), Hl (aM F2_ ay ([dm] : List (List Int)))])
        ·exact yB ((Yp (P := Tryz.prog) wm 9 0 [.deref] (fa := zF ax.has_) (r := B aw) (xl := []) (xr := []) (qs := [(yb (zq (eI .i64) eB al)), (yb (zq F0_ eB ap)), (yb (zq zH eB aq))]) (qs' := [(yb (zq (eI .i64) eB al)), (yb (zq F0_ eB ap)), (yb (zq zH eB aq))]) (es := [(zq (eI .i64) eB al), (zq F0_ eB ap), (zq zH eB aq)]) (es' := [(zq (eI .i64) eB al), (zq F0_ eB ap), (zq zH eB aq)]) (.inr rfl) (z4z (by kernel_rfl)) (.cons (wb (zq (eI .i64) eB al)) (.cons (wb (zq F0_ eB ap)) (.cons (wb (zq zH eB aq)) (.nil)))) (fun us hu => Yt hC _ _ _ h5 us hu) (some 57)).or X0) hC dr (al, ap, aq, ay) ae (Z3 ++ [Hq c5])
      ·obtain rfl := zi ae
       obtain rfl := hl1
       exact yB X0 hC a8 ay aa [Hq c4]
    ·obtain ⟨t5, ht5, aa⟩ := zl aa
     refine yLx X0 hC xD [1,1,1,1,1,2,1,0] [J1] (fun s => xA l_ s.1 s.2) (fun x => XD m_ l_ goal ah x.1 x.2) (([] : List (List Int)), 0) ht5 [(2, .d (I goal)), (3, .own (.box (yh m_))), (9, .own (.box ((zQ (eMp (eI .i64) eB) (eMp F0_ eB) (eMp zH eB)) ah))), (10, .own (eOs 1 (decide ((0 : Int) = ((l_.length : Nat) : Int))) F2_ [])), (33, .d (eSl 1 false F7_ l_)), (34, .d (I ((l_.length : Nat) : Int))), (35, .d (I 0))] inferInstance [Ha (lnM F7_ l_)] ?_
     rintro ⟨cr, gn⟩ m5 bh ae hl1 J5 dg
     try unfold xA at ae
     rcases y6 ae with ⟨c6, ae⟩ | ⟨c6, ae⟩
     ·obtain ⟨bc, h9, ae⟩ := zl ae
      obtain ⟨dx, h10, ae⟩ := zl ae
      obtain ⟨cm, h11, ae⟩ := zl ae
      obtain ⟨g2, ae⟩ := gdE ae
      obtain rfl := zi ae
      exact yB X0 hC dg ((cr ++ ([cm] : List (List Int))), w64 (gn + 1)) hl1 [Hq c6, Hi F7_ h9, Hc h01 (x := bc) h10 (loC F7_ bc <| loN), Hg (JV h00), Hm (shM (eI .i64) (eI .i64) dx), Hs (JW h00 (x := dx) h11 (loC F7_ dx <| loN)), Hm (shM (eI .i64) (eI .i64) dx), Hq (dM F2_ ([cm] : List (List Int))), Hn (dM F2_ ([cm] : List (List Int))), Hn (aL F2_ F2_ g2), Hl (aM F2_ cr ([cm] : List (List Int)))]
     ·obtain rfl := zi ae
      obtain rfl := hl1
      exact yB X0 hC az cr aa [Hq c6]
def z0Y : Code := (Tryz.f84.body).getD .skip
def kS : yj := spF (α := z6 × Int × Int) (ρ := ze) 84 (fun x => [yh x.1, (eI .i64) x.2.1, (eI .i64) x.2.2]) (fun r => F9_ r) (fun x => Yu x.1 x.2.1 x.2.2) [] (z6g)
theorem z1k (hC : zM Tryz.prog ctr) : kS.Ok Tryz.prog := by
 refine zS ?_
 rintro ⟨m_, s_, i_⟩ r0 aa
 try unfold Yu at aa
 refine yO false [(6, some 105)] z0Y 18 Tryz.func84 fun E hE => ?_
 rcases y6 aa with ⟨c0, aa⟩ | ⟨c0, aa⟩
 ·obtain rfl := zi aa
  exact yE X0 hC hE [Hq c0]
 ·obtain ⟨ar, h0, aa⟩ := zl aa
  obtain ⟨ak, h1, aa⟩ := zl aa
  obtain rfl := zi aa
  exact yE X0 hC hE [Hq c0, Hi ue h0, Hi F9_ h1]
def KD : Code := (Tryz.f72.body).getD .skip
def Yd : yj := spF (α := z6 × Int × List Int) (ρ := Int) 72 (fun x => [yh x.1, (eI .i64) x.2.1, F7_ x.2.2]) (fun r => (eI .i64) r) (fun x => YZ x.1 x.2.1 x.2.2) [] (z6g)
theorem Vp : ∀ (x y : z6 × Int × List Int), (fun x => [yh x.1, (eI .i64) x.2.1, F7_ x.2.2]) x = (fun x => [yh x.1, (eI .i64) x.2.1, F7_ x.2.2]) y → x = y := z6g
def kw (dp : z6 → Int → (List Int) → Option Int) : yj := spF (α := z6 × Int × List Int) (ρ := Int) 72 (fun x => [yh x.1, (eI .i64) x.2.1, F7_ x.2.2]) (fun r => (eI .i64) r) (fun x => dp x.1 x.2.1 x.2.2) [] (by
 intro x y h
 exact (congrArg (fun (p : z6 × Int × List Int) => p) (show x = y from Vp x y h)))
theorem J0 (hC : zM Tryz.prog ctr) (h0i : ctr.Has kS) (dp : z6 → Int → (List Int) → Option Int) (h0c : ctr.Has (kw dp)) : (kw (uE dp)).Ok Tryz.prog := by
 refine zS ?_
 rintro ⟨m_, s_, w_⟩ r0 aa
 try unfold uE at aa
 refine yO true [(6, none)] KD 22 Tryz.func72 fun E hE => ?_
 rcases y6 aa with ⟨c0, aa⟩ | ⟨c0, aa⟩
 ·obtain rfl := zi aa
  exact yE X0 hC hE [Ha (lnM (eI .i64) w_), Hq c0]
 ·obtain ⟨bf, h0, aa⟩ := zl aa
  obtain ⟨r_, h1, aa⟩ := zl aa
  obtain ⟨g0, aa⟩ := gdE aa
  obtain ⟨ah, h2, aa⟩ := zl aa
  obtain rfl := zi aa
  exact yE ((zhG zD z8r).or X0) hC hE [Ha (lnM (eI .i64) w_), Hq c0, Hi (eI .i64) h0, Hc h0i (x := (m_, s_, bf)) h1 (loC yh m_ <| loC (eI .i64) s_ <| loC (eI .i64) bf <| loN), Hn (slA g0), Hn (zf0 (eI .i64) g0), Ha (slE 1 false (eI .i64) w_ (1 : Int).toNat), Hc h0c (x := (m_, r_.To, (w_.drop (1 : Int).toNat))) h2 (loC yh m_ <| loC (eI .i64) r_.To <| loC F7_ (w_.drop (1 : Int).toNat) <| loN)]
theorem z0p (hC : zM Tryz.prog ctr) (h0i : ctr.Has kS) : Yd.Ok Tryz.prog := by
 have H : ∀ n, (kw (qZ n)).Ok Tryz.prog := by
  intro n
  induction n with
  | zero => exact zS fun _ _ h => nomatch (show none = some _ from h)
  | succ n ih => exact J0 (Ctr.add_ok hC ih) (h0i.add (by show (84 : Nat) ≠ 72; decide)) _ (Ctr.add_has _ _)
 exact zS fun x r h => z1v (H _) h
def Xb : Code := (Tryz.f71.body).getD .skip
def YP : yj := spF (α := List Int × Int) (ρ := List Int) 71 (fun x => [F7_ x.1, (eI .i64) x.2]) (fun r => F6_ r) (fun x => Zn x.1 x.2) [] (Ur)
abbrev Qp (out : List Int) : List (Nat × T) := [(5, .own (eOs 1 false (eI .i64) out))]
abbrev Qo (inputs : Int) (ai : List Int) (k_ : Int) : List (Nat × T) := [(1, .d (I inputs)), (5, .own (eOs 1 false (eI .i64) ai)), (6, .d (I k_))]
theorem z1j (hC : zM Tryz.prog ctr) : YP.Ok Tryz.prog := by
 refine zS ?_
 rintro ⟨w_, inputs⟩ r0 aa
 try unfold Zn at aa
 refine yO true [(4, none)] Xb 37 Tryz.func71 fun E hE => ?_
 obtain ⟨g0, aa⟩ := gdE aa
 refine yJ X0 hC Xb [1,1] [] [5] (fun z : List Int => qY z = some r0) (fun z => Qp z) [(1, .d (I inputs)), (5, .own (eOs 1 false (eI .i64) w_))] [Hn (dM (eI .i64) w_), Hn (aL (eI .i64) (eI .i64) g0), Hl (aM0 (eI .i64) w_), Hh (.cut 0)] ?_ fun J1 az => ?_
 ·rintro out aa
  unfold qY at aa
  obtain ⟨g1, aa⟩ := gdE aa
  obtain rfl := zi aa
  exact yE X0 hC hE [Hq (dM (eI .i64) ([0] : List Int)), Hn (dM (eI .i64) ([0] : List Int)), Hn (aL (eI .i64) (eI .i64) g1), Hl (aM (eI .i64) out ([0] : List Int))]
 ·obtain ⟨t2, ht2, aa⟩ := zl aa
  refine yL X0 hC Xb [1,1,2,1,0] [J1] (fun s => qX inputs s.1 s.2) (fun x => Qo inputs x.1 x.2) (w_, w64 (((w_.length : Nat) : Int) - 1)) ht2  [Ha (lnM (eI .i64) w_)] ?_
  rintro ⟨ai, k_⟩ m2 bh ae hl1 J2 a8
  try unfold qX at ae
  rcases y6 ae with ⟨c0, ae⟩ | ⟨c0, ae⟩
  ·obtain ⟨dh, h0, ae⟩ := zl ae
   let Z0 : List HO := [Hq c0, Hn (iL (eI .i64) h0), Hs (iM (eI .i64) h0)]
   rcases y6 ae with ⟨c1, ae⟩ | ⟨c1, ae⟩
   ·obtain ⟨d9, h1, ae⟩ := zl ae
    obtain ⟨ip, h2, ae⟩ := zl ae
    obtain rfl := zi ae
    obtain rfl := hl1
    obtain rfl := zi aa
    exact yE X0 hC hE (Z0 ++ [Hq c1, Hn (iL (eI .i64) h1), Hs (iM (eI .i64) h1), Hn (iL (eI .i64) h2), Hs (iM (eI .i64) h2), Hs (iM (eI .i64) h2), Hl (sM (eI .i64) ai k_ (w64 (d9 + 1)))])
   ·obtain ⟨iq, h3, ae⟩ := zl ae
    obtain rfl := zi ae
    exact yB X0 hC a8 ((ai.set k_.toNat 0), w64 (k_ - 1)) hl1 (Z0 ++ [Hq c1, Hn (iL (eI .i64) h3), Hs (iM (eI .i64) h3), Hs (iM (eI .i64) h3), Hl (sM (eI .i64) ai k_ 0)])
  ·obtain rfl := zi ae
   obtain rfl := hl1
   exact yB X0 hC az ai aa [Hq c0]
def jX : Code := (Tryz.f52.body).getD .skip
def Yc : yj := spF (α := z6 × Int) (ρ := List (List Int) × List Bool) 52 (fun x => [yh x.1, (eI .i64) x.2]) (fun r => .tup [zbH r.1, (eSl 1 true eB) r.2]) (fun x => ZC x.1 x.2) [] (Ur)
abbrev UK (l_ : List (List Int)) (is : List Bool) : List (Nat × T) := [(6, .own (eOs 1 true F7_ l_)), (7, .own (eOs 1 true eB is))]
abbrev UJ (m_ : z6) (from_ : Int) (w_ : List Int) (dy : List (List Int)) (gz : List Bool) : List (Nat × T) := [(1, .d (I from_)), (2, .own (.box (yh m_))), (6, .own (eOs 1 true F7_ dy)), (7, .own (eOs 1 true eB gz)), (8, .d (eSl 1 false (eI .i64) w_))]
abbrev UI (m_ : z6) (from_ : Int) (bn : List (List Int)) (ck : List Bool) (w_ : List Int) : List (Nat × T) := [(1, .d (I from_)), (2, .own (.box (yh m_))), (6, .own (eOs 1 true F7_ bn)), (7, .own (eOs 1 true eB ck)), (8, .own (eOs 1 false (eI .i64) w_))]
def wh : XH Tryz.prog := ((z4n zD (.inr 48) [8]).or X0)
theorem z0o (hC : zM Tryz.prog ctr) (h0R : ctr.Has Yd) (h0S : ctr.Has YP) : Yc.Ok Tryz.prog := by
 refine zS ?_
 rintro ⟨m_, from_⟩ r0 aa
 try unfold ZC at aa
 refine yO false [(4, none), (5, none)] jX 51 Tryz.func52 fun E hE => ?_
 obtain ⟨g0, aa⟩ := gdE aa
 obtain ⟨g1, aa⟩ := gdE aa
 refine yJ wh hC jX [1,1,1] [] [6,7] (fun z : List (List Int) × List Bool => jW z.1 z.2 = some r0) (fun z => UK z.1 z.2) [(1, .d (I from_)), (2, .own (.box (yh m_))), (6, .own (eOs 1 true F2_ (List.replicate ((m_.Rows.length : Nat) : Int).toNat ([] : List Int)))), (7, .own (eOs 1 true eB (List.replicate ((m_.Rows.length : Nat) : Int).toNat false)))] [Ha (lnM ue m_.Rows), Hn (rL g0), Ha (rM 1 F3_ ((m_.Rows.length : Nat) : Int) ([] : List Int)), Hh (.v 0 [6]), Hm (shM F3_ F2_ (List.replicate ((m_.Rows.length : Nat) : Int).toNat ([] : List Int))), Ha (lnM ue m_.Rows), Hn (rL g1), Ha (rM 1 eB ((m_.Rows.length : Nat) : Int) false), Hh (.cut 0)] ?_ fun J1 az => ?_
 ·rintro ⟨l_, is⟩ aa
  unfold jW at aa
  obtain rfl := zi aa
  exact yE wh hC hE [Hm (shM F7_ F7_ l_), Hm (shM eB eB is)]
 ·obtain ⟨t2, ht2, aa⟩ := zl aa
  refine yLx wh hC jX [1,1,1,2,1,0] [J1] (fun s => jV m_ from_ s.1 s.2.1 s.2.2) (fun x => UI m_ from_ x.1 x.2.1 x.2.2) ((List.replicate ((m_.Rows.length : Nat) : Int).toNat ([] : List Int)), (List.replicate ((m_.Rows.length : Nat) : Int).toNat false), ([] : List Int)) ht2 [(1, .d (I from_)), (2, .own (.box (yh m_))), (6, .own (eOs 1 true F2_ (List.replicate ((m_.Rows.length : Nat) : Int).toNat ([] : List Int)))), (7, .own (eOs 1 true eB (List.replicate ((m_.Rows.length : Nat) : Int).toNat false))), (8, .own (eOs 1 true (eI .i64) []))] inferInstance [] ?_
  rintro ⟨bn, ck, w_⟩ m2 bh ae hl1 J2 a8
  try unfold jV at ae
  let Z0 : List HO := [Ha (lnM (eI .i64) w_), Ha (lnM ue m_.Rows)]
  rcases y6 ae with ⟨c0, ae⟩ | ⟨c0, ae⟩
  ·refine yJ wh hC jX [1,1,1,2,1,0,0,1] [J1, J2] [1,2,6,7,8] (fun z : List (List Int) × List Bool => ve m_ w_ z.1 z.2 = some bh) (fun z => UJ m_ from_ w_ z.1 z.2) [(1, .d (I from_)), (2, .own (.box (yh m_))), (6, .own (eOs 1 true F7_ bn)), (7, .own (eOs 1 true eB ck)), (8, .d (eSl 1 false (eI .i64) w_))] (Z0 ++ [Hq c0, Hh (.n 1 [8]), Hm (shM (eI .i64) (eI .i64) w_), Hh (.cut 0)]) ?_ fun J3 bz => ?_
   ·rintro ⟨dy, gz⟩ ae
    unfold ve at ae
    obtain ⟨r_, h0, ae⟩ := zl ae
    obtain rfl := zi ae
    exact yB wh hC a8 (dy, gz, r_) hl1 [Hc h0S (x := (w_, m_.Inputs)) h0 (loC F7_ w_ <| loC (eI .i64) m_.Inputs <| loN)]
   ·obtain ⟨ah, h1, ae⟩ := zl ae
    let Z1 : List HO := [Hc h0R (x := (m_, from_, w_)) h1 (loC yh m_ <| loC (eI .i64) from_ <| loC F7_ w_ <| loN)]
    rcases y6 ae with ⟨c1, ae⟩ | ⟨c1, ae⟩
    ·obtain ⟨gv, h2, ae⟩ := zl ae
     let Z2 : List HO := (Z1 ++ [Hq c1, Hq c1, Hq c1, Hn (iL eB h2), Hq c1, Hs (iM eB h2), Hq c1, Hq c1])
     rcases y6 ae with ⟨c2, ae⟩ | ⟨c2, ae⟩
     ·obtain ⟨ix, h3, ae⟩ := zl ae
      obtain ⟨bc, h4, ae⟩ := zl ae
      exact yB wh hC bz ((bn.set ah.toNat w_), (ck.set ah.toNat true)) ae (Z2 ++ [Hq c2, Hn (iL eB h3), Hs (iM eB h3), Hs (iM eB h3), Hl (sM eB ck ah true), Hn (iL F7_ h4), Hs (iM F7_ h4), Hs (iM F7_ h4), Hl (sM F7_ bn ah w_)])
     ·exact yB wh hC bz (bn, ck) ae (Z2 ++ [Hq c2])
    ·exact yB wh hC bz (bn, ck) ae (Z1 ++ (rpN 6 (Hq c1) [qF]))
  ·obtain rfl := zi ae
   obtain rfl := hl1
   exact yB wh hC az (bn, ck) aa (Z0 ++ [Hq c0])
def Kc : Code := (Tryz.f35.body).getD .skip
def qQ : yj := spF (α := z6) (ρ := List (List Int) × List Bool) 35 (fun x => [yh x]) (fun r => .tup [zbH r.1, (eSl 1 true eB) r.2]) (fun x => qG x) [] (Kz)
theorem Ku (hC : zM Tryz.prog ctr) (h0T : ctr.Has Yc) : qQ.Ok Tryz.prog := by
 refine zS ?_
 rintro m_ r0 aa
 try unfold qG at aa
 refine yO false [(2, none), (3, none)] Kc 8 Tryz.func35 fun E hE => ?_
 obtain ⟨r_, h0, aa⟩ := zl aa
 obtain rfl := zi aa
 exact yE X0 hC hE [Hc h0T (x := (m_, 0)) h0 (loC yh m_ <| loC (eI .i64) 0 <| loN)]
def wg : Code := (Tryz.f27.body).getD .skip
def kP : yj := spF (α := z6 × Int) (ρ := List za) 27 (fun x => [yh x.1, (eI .i64) x.2]) (fun r => (eOs 3 false vL) r) (fun x => Zl x.1 x.2) [] (Ur)
abbrev Qj (out : List za) : List (Nat × T) := [(7, .own (eOs 3 false vL out))]
abbrev Qi (m_ : z6) (goal : Int) (r_ : List (List Int) × List Bool) (s_ : Int) (ay : List za) : List (Nat × T) := [(1, .d (I goal)), (2, .own (.box (yh m_))), (6, .d (eSl 1 true eB r_.2)), (7, .own (eOs 3 false vL ay)), (8, .d (I s_))]
abbrev Qh (m_ : z6) (goal : Int) (r_ : List (List Int) × List Bool) (s_ : Int) (i_ : Int) (cr : List za) : List (Nat × T) := [(1, .d (I goal)), (2, .own (.box (yh m_))), (6, .d (eSl 1 true eB r_.2)), (7, .own (eOs 3 false vL cr)), (8, .d (I s_)), (9, .d (I i_))]
abbrev Qe (m_ : z6) (goal : Int) (r_ : List (List Int) × List Bool) (s_ : Int) (i_ : Int) (ak : ze) (k_ : Int) (gp : List za) : List (Nat × T) := [(1, .d (I goal)), (2, .own (.box (yh m_))), (6, .d (eSl 1 true eB r_.2)), (7, .own (eOs 3 false vL gp)), (8, .d (I s_)), (9, .d (I i_)), (10, .d (I ak.To)), (11, .d (I k_)), (68, .d (I ak.To)), (69, .d (B (ak.To != (-1)))), (72, .d (I goal)), (73, .d (B (goal == 2)))]
abbrev Qb (m_ : z6) (goal : Int) (r_ : List (List Int) × List Bool) (s_ : Int) (i_ : Int) (ak : ze) (cp : List za) (k_ : Int) : List (Nat × T) := [(1, .d (I goal)), (2, .own (.box (yh m_))), (6, .d (eSl 1 true eB r_.2)), (7, .own (eOs 3 false vL cp)), (8, .d (I s_)), (9, .d (I i_)), (10, .d (I ak.To)), (11, .d (I k_))]
abbrev Qg (m_ : z6) (goal : Int) (r_ : List (List Int) × List Bool) (s_ : Int) (i_ : Int) (ak : ze) (cx : List za) : List (Nat × T) := [(1, .d (I goal)), (2, .own (.box (yh m_))), (6, .d (eSl 1 true eB r_.2)), (7, .own (eOs 3 false vL cx)), (8, .d (I s_)), (9, .d (I i_)), (10, .d (I ak.To))]
abbrev Qc (m_ : z6) (goal : Int) (r_ : List (List Int) × List Bool) (s_ : Int) (br : List za) (i_ : Int) : List (Nat × T) := [(1, .d (I goal)), (2, .own (.box (yh m_))), (6, .d (eSl 1 true eB r_.2)), (7, .own (eOs 3 false vL br)), (8, .d (I s_)), (9, .d (I i_))]
abbrev Qd (m_ : z6) (goal : Int) (r_ : List (List Int) × List Bool) (ai : List za) (s_ : Int) : List (Nat × T) := [(1, .d (I goal)), (2, .own (.box (yh m_))), (6, .d (eSl 1 true eB r_.2)), (7, .own (eOs 3 false vL ai)), (8, .d (I s_))]
theorem z1g (hC : zM Tryz.prog ctr) (h0j : ctr.Has qQ) : kP.Ok Tryz.prog := by
 refine zS ?_
 rintro ⟨m_, goal⟩ r0 aa
 try unfold Zl at aa
 refine yO true [(4, none)] wg 95 Tryz.func27 fun E hE => ?_
 obtain ⟨r_, h0, aa⟩ := zl aa
 refine yJ X0 hC wg [1,1,1] [] [7] (fun z : List za => kT z = some r0) (fun z => Qj z) [(1, .d (I goal)), (2, .own (.box (yh m_))), (6, .d (eSl 1 true eB r_.2)), (7, .own (eOs 3 true vL []))] [Hc h0j (x := m_) h0 (loC yh m_ <| loN), Hh (.cut 1)] ?_ fun J1 az => ?_
 ·rintro out aa
  unfold kT at aa
  obtain rfl := zi aa
  exact yE X0 hC hE []
 ·obtain ⟨t2, ht2, aa⟩ := zl aa
  refine yLx X0 hC wg [1,1,1,2,1,0] [J1] (fun s => uA m_ goal r_ s.1 s.2) (fun x => Qd m_ goal r_ x.1 x.2) (([] : List za), 0) ht2 [(1, .d (I goal)), (2, .own (.box (yh m_))), (6, .d (eSl 1 true eB r_.2)), (7, .own (eOs 3 true vL [])), (8, .d (I 0))] inferInstance [] ?_
  rintro ⟨ai, s_⟩ m2 bh ae hl1 J2 a8
  try unfold uA at ae
  let Z0 : List HO := [Ha (lnM ue m_.Rows)]
  rcases y6 ae with ⟨c0, ae⟩ | ⟨c0, ae⟩
  ·refine yJ X0 hC wg [1,1,1,2,1,0,0,1] [J1, J2] [1,2,6,7,8] (fun z : List za => wY s_ z = some bh) (fun z => Qi m_ goal r_ s_ z) [(1, .d (I goal)), (2, .own (.box (yh m_))), (6, .d (eSl 1 true eB r_.2)), (7, .own (eOs 3 false vL ai)), (8, .d (I s_))] (Z0 ++ [Hq c0, Hh (.cut 0)]) ?_ fun J3 bz => ?_
   ·rintro ay ae
    unfold wY at ae
    obtain rfl := zi ae
    exact yB X0 hC a8 (ay, w64 (s_ + 1)) hl1 []
   ·obtain ⟨u_, h1, ae⟩ := zl ae
    rcases y6 ae with ⟨c1, ae⟩ | ⟨c1, ae⟩
    ·exact yB X0 hC bz ai ae [Hi eB h1, Hq c1]
    ·rcases y6 ae with ⟨c2, ae⟩ | ⟨c2, ae⟩
     ·obtain ⟨g0, ae⟩ := gdE ae
      exact yB X0 hC bz (ai ++ ([(za.mk s_ (-1) (-1))] : List za)) ae [Hi eB h1, Hq c1, Hq c2, Hq (dM vL ([(za.mk s_ (-1) (-1))] : List za)), Hn (dM vL ([(za.mk s_ (-1) (-1))] : List za)), Hn (aL vL vL g0), Hl (aM vL ai ([(za.mk s_ (-1) (-1))] : List za))]
     ·obtain ⟨t4, ht4, ae⟩ := zl ae
      refine yL X0 hC wg [1,1,1,2,1,0,0,1,2,0,1,1,1,0] [J1, J2, J3] (fun s => uz m_ goal s_ s.1 s.2) (fun x => Qc m_ goal r_ s_ x.1 x.2) (ai,0) ht4  [Hi eB h1, Hq c1, Hq c2] ?_
      rintro ⟨br, i_⟩ m4 fe aj hl2 J4 dr
      try unfold uz at aj
      rcases y6 aj with ⟨c3, aj⟩ | ⟨c3, aj⟩
      ·refine yJ X0 hC wg [1,1,1,2,1,0,0,1,2,0,1,1,1,0,0,1] [J1, J2, J3, J4] [1,2,6,7,8,9] (fun z : List za => qV i_ z = some fe) (fun z => Qh m_ goal r_ s_ i_ z) [(1, .d (I goal)), (2, .own (.box (yh m_))), (6, .d (eSl 1 true eB r_.2)), (7, .own (eOs 3 false vL br)), (8, .d (I s_)), (9, .d (I i_))] [Hq c3, Hh (.cut 0)] ?_ fun J5 dg => ?_
       ·rintro cr aj
        unfold qV at aj
        obtain rfl := zi aj
        exact yB X0 hC dr (cr, w64 (i_ + 1)) hl2 []
       ·obtain ⟨ar, h2, aj⟩ := zl aj
        obtain ⟨ak, h3, aj⟩ := zl aj
        refine yJ X0 hC wg [1,1,1,2,1,0,0,1,2,0,1,1,1,0,0,1,2,0,1] [J1, J2, J3, J4, J5] [1,2,6,7,8,9,10] (fun z : List za => wX m_ goal s_ i_ ak z = some fe) (fun z => Qg m_ goal r_ s_ i_ ak z) [(1, .d (I goal)), (2, .own (.box (yh m_))), (6, .d (eSl 1 true eB r_.2)), (7, .own (eOs 3 false vL br)), (8, .d (I s_)), (9, .d (I i_)), (10, .d (I ak.To))] [Hi ue h2, Hi F9_ h3, Hh (.cut 0)] ?_ fun J6 eu => ?_
        ·rintro cx aj
         unfold wX at aj
         obtain ⟨t7, ht7, aj⟩ := zl aj
         refine yL X0 hC wg [1,1,1,2,1,0,0,1,2,0,1,1,1,0,0,1,2,0,1,1,1,0] [J1, J2, J3, J4, J5] (fun s => vP m_ goal s_ i_ ak s.1 s.2) (fun x => Qb m_ goal r_ s_ i_ ak x.1 x.2) (cx,0) ht7  [] ?_
         rintro ⟨cp, k_⟩ m7 iu bp hl3 J7 fy
         try unfold vP at bp
         rcases y6 bp with ⟨c4, bp⟩ | ⟨c4, bp⟩
         ·rcases y6 bp with ⟨c5, bp⟩ | ⟨c5, bp⟩
          ·let Z1 : List HO := [Hq c4, Hq c4, Hq c4, Hq c5, Hq c5, Hq c5]
           rcases y6 bp with ⟨c6, bp⟩ | ⟨c6, bp⟩
           ·refine yJ X0 hC wg [1,1,1,2,1,0,0,1,2,0,1,1,1,0,0,1,2,0,1,1,1,0,0,1] [J1, J2, J3, J4, J5, J7] [1,2,6,7,8,9,10,11,68,69,72,73] (fun z : List za => uB k_ z = some iu) (fun z => Qe m_ goal r_ s_ i_ ak k_ z) [(1, .d (I goal)), (2, .own (.box (yh m_))), (6, .d (eSl 1 true eB r_.2)), (7, .own (eOs 3 false vL cp)), (8, .d (I s_)), (9, .d (I i_)), (10, .d (I ak.To)), (11, .d (I k_)), (68, .d (I ak.To)), (69, .d (B (ak.To != (-1)))), (72, .d (I goal)), (73, .d (B (goal == 2)))] (Z1 ++ [Hq c6, Hh (.cut 0)]) ?_ fun J8 hJ8 => ?_
            ·rintro gp bp
             unfold uB at bp
             obtain rfl := zi bp
             exact yB X0 hC fy (gp, w64 (k_ + 1)) hl3 []
            ·obtain ⟨bu, h4, bp⟩ := zl bp
             obtain ⟨bi, h5, bp⟩ := zl bp
             let Z2 : List HO := [Hi ue h4, Hi F9_ h5]
             rcases y6 bp with ⟨c7, bp⟩ | ⟨c7, bp⟩
             ·obtain ⟨g1, bp⟩ := gdE bp
              exact yB X0 hC hJ8 (cp ++ ([(za.mk s_ i_ k_)] : List za)) bp (Z2 ++ [Hq c7, Hq (dM vL ([(za.mk s_ i_ k_)] : List za)), Hn (dM vL ([(za.mk s_ i_ k_)] : List za)), Hn (aL vL vL g1), Hl (aM vL cp ([(za.mk s_ i_ k_)] : List za))])
             ·exact yB X0 hC hJ8 cp bp (Z2 ++ [Hq c7])
           ·obtain rfl := zi bp
            obtain rfl := hl3
            exact yB X0 hC dg cp aj (Z1 ++ [Hq c6])
          ·obtain rfl := zi bp
           obtain rfl := hl3
           exact yB X0 hC dg cp aj [Hq c4, Hq c4, Hq c4, Hq c5, Hq c5, Hq c5, qF]
         ·obtain rfl := zi bp
          obtain rfl := hl3
          exact yB X0 hC dg cp aj (Hq c4 :: Hq c4 :: Hq c4 :: (rpN 4 qF []))
        ·rcases y6 aj with ⟨c8, aj⟩ | ⟨c8, aj⟩
         ·rcases y6 aj with ⟨c9, aj⟩ | ⟨c9, aj⟩
          ·obtain ⟨g2, aj⟩ := gdE aj
           exact yB X0 hC eu (br ++ ([(za.mk s_ i_ (-1))] : List za)) aj [Hq c8, Hq c8, Hq c8, Hq c9, Hq (dM vL ([(za.mk s_ i_ (-1))] : List za)), Hn (dM vL ([(za.mk s_ i_ (-1))] : List za)), Hn (aL vL vL g2), Hl (aM vL br ([(za.mk s_ i_ (-1))] : List za))]
          ·exact yB X0 hC eu br aj [Hq c8, Hq c8, Hq c8, Hq c9]
         ·exact yB X0 hC eu br aj [Hq c8, Hq c8, Hq c8, qF]
      ·obtain rfl := zi aj
       obtain rfl := hl2
       exact yB X0 hC bz br ae [Hq c3]
  ·obtain rfl := zi ae
   obtain rfl := hl1
   exact yB X0 hC az ai aa (Z0 ++ [Hq c0])
def jg : Code := (Tryz.f53.body).getD .skip
def Zx : yj := spF (α := z6 × List Int × za) (ρ := Bool) 53 (fun x => [yh x.1, F7_ x.2.1, vL x.2.2]) (fun r => eB r) (fun x => k8 x.1 x.2.1 x.2.2) [] (z6g)
abbrev VK (m_ : z6) (w_ : List Int) (x_ : za) (cb : Int) (k_ : Int) (ar : List ze) (bf : Int) (ak : ze) (bi : ze) : List (Nat × T) := [(1, .d (eSl 1 false (eI .i64) w_)), (3, .own (.box (yh m_))), (5, .own (.box (vL x_))), (8, .d (I k_)), (9, .d (I bi.To)), (27, .d (eSl 1 false ue m_.Rows)), (28, .d (I cb)), (29, .d (.sptr (eSl 2 false F9_ ar))), (30, .d (eSl 2 false F9_ ar)), (31, .d (eSl 1 false (eI .i64) w_)), (32, .d (I k_)), (33, .d (.sptr (I bf))), (34, .d (I bf)), (35, .d (.sptr (F9_ ak))), (36, .d (.sptr (I ak.To))), (37, .d (I ak.To)), (38, .d (B (ak.To == (-1))))]
abbrev VL (m_ : z6) (w_ : List Int) (x_ : za) (cb : Int) (k_ : Int) : List (Nat × T) := [(1, .d (eSl 1 false (eI .i64) w_)), (3, .own (.box (yh m_))), (5, .own (.box (vL x_))), (7, .d (I cb)), (8, .d (I k_))]
abbrev VJ (m_ : z6) (w_ : List Int) (x_ : za) (cb : Int) (k_ : Int) : List (Nat × T) := [(1, .d (eSl 1 false (eI .i64) w_)), (3, .own (.box (yh m_))), (5, .own (.box (vL x_))), (7, .d (I cb)), (8, .d (I k_))]
theorem Ks (hC : zM Tryz.prog ctr) : Zx.Ok Tryz.prog := by
 refine zS ?_
 rintro ⟨m_, w_, x_⟩ r0 aa
 try unfold k8 at aa
 refine yO true [(6, none)] jg 101 Tryz.func53 fun E hE => ?_
 obtain ⟨t1, ht1, aa⟩ := zl aa
 refine yL X0 hC jg [1,1,1,0] [] (fun s => un m_ w_ x_ s.1 s.2) (fun x => VJ m_ w_ x_ x.1 x.2) (0,0) ht1  [] ?_
 rintro ⟨cb, k_⟩ m1 bh ae hl1 J1 az
 try unfold un at ae
 refine yJ X0 hC jg [1,1,1,0,0,0,0] [J1] [1,3,5,7,8] (fun z : Unit => vA m_ w_ x_ cb k_ = some bh) (fun z => VL m_ w_ x_ cb k_) [(1, .d (eSl 1 false (eI .i64) w_)), (3, .own (.box (yh m_))), (5, .own (.box (vL x_))), (7, .d (I cb)), (8, .d (I k_))] [Hh (.cut 1)] ?_ fun J2 a8 => ?_
 ·rintro ⟨⟩ ae
  unfold vA at ae
  rcases y6 ae with ⟨c0, ae⟩ | ⟨c0, ae⟩
  ·obtain rfl := zi ae
   obtain rfl := hl1
   obtain rfl := zi aa
   exact yE X0 hC hE (Ha (lnM (eI .i64) w_) :: (rpN 14 (Hq c0) [qT]))
  ·obtain ⟨ar, h0, ae⟩ := zl ae
   obtain ⟨bf, h1, ae⟩ := zl ae
   obtain ⟨ak, h2, ae⟩ := zl ae
   let Z0 : List HO := (Ha (lnM (eI .i64) w_) :: (rpN 4 (Hq c0) (Hi ue h0 :: (rpN 4 (Hq c0) (Hi (eI .i64) h1 :: Hq c0 :: Hq c0 :: Hi F9_ h2 :: (rpN 4 (Hq c0) []))))))
   rcases y6 ae with ⟨c1, ae⟩ | ⟨c1, ae⟩
   ·obtain rfl := zi ae
    obtain rfl := hl1
    obtain rfl := zi aa
    exact yE X0 hC hE (Z0 ++ [Hq c1])
   ·obtain ⟨bu, h3, ae⟩ := zl ae
    obtain ⟨ik, h4, ae⟩ := zl ae
    obtain ⟨bi, h5, ae⟩ := zl ae
    refine yJ X0 hC jg [1,1,1,0,0,0,0,1,1,1] [J1] [1,3,5,8,9,27,28,29,30,31,32,33,34,35,36,37,38] (fun z : Unit => x9 k_ bi = some bh) (fun z => VK m_ w_ x_ cb k_ ar bf ak bi) [(1, .d (eSl 1 false (eI .i64) w_)), (3, .own (.box (yh m_))), (5, .own (.box (vL x_))), (7, .d (I cb)), (8, .d (I k_)), (9, .d (I bi.To)), (27, .d (eSl 1 false ue m_.Rows)), (28, .d (I cb)), (29, .d (.sptr (eSl 2 false F9_ ar))), (30, .d (eSl 2 false F9_ ar)), (31, .d (eSl 1 false (eI .i64) w_)), (32, .d (I k_)), (33, .d (.sptr (I bf))), (34, .d (I bf)), (35, .d (.sptr (F9_ ak))), (36, .d (.sptr (I ak.To))), (37, .d (I ak.To)), (38, .d (B (ak.To == (-1))))] (Z0 ++ [Hq c1, Hi ue h3, Hi (eI .i64) h4, Hi F9_ h5, Hh (.cut 0)]) ?_ fun J3 bz => ?_
    ·rintro ⟨⟩ ae
     unfold x9 at ae
     obtain rfl := zi ae
     exact yB X0 hC az (bi.To, w64 (k_ + 1)) hl1 []
    ·rcases y6 ae with ⟨c2, ae⟩ | ⟨c2, ae⟩
     ·obtain ⟨il, h6, ae⟩ := zl ae
      let Z1 : List HO := (rpN 5 (Hq c2) [Hi (eI .i64) h6, Hq c2, Hq c2, Hq c2])
      rcases y6 ae with ⟨c3, ae⟩ | ⟨c3, ae⟩
      ·let Z2 : List HO := (Z1 ++ (rpN 4 (Hq c3) []))
       rcases y6 ae with ⟨c4, ae⟩ | ⟨c4, ae⟩
       ·obtain rfl := zi ae
        obtain rfl := hl1
        obtain rfl := zi aa
        exact yE X0 hC hE (Z2 ++ (rpN 9 (Hq c4) [Hq c3, Hq c4, Hq c3, qT]))
       ·let Z3 : List HO := (Z2 ++ (rpN 4 (Hq c4) [Ha (lnM (eI .i64) w_), Hq c4, Hq c4]))
        rcases y6 ae with ⟨c5, ae⟩ | ⟨c5, ae⟩
        ·obtain ⟨im, h7, ae⟩ := zl ae
         let Z4 : List HO := (Z3 ++ (rpN 4 (Hq c5) (Hi (eI .i64) h7 :: (rpN 4 (Hq c5) [Hq c4, Hq c5, Hq c4]))))
         rcases y6 ae with ⟨c6, ae⟩ | ⟨c6, ae⟩
         ·obtain ⟨ia, h8, ae⟩ := zl ae
          obtain ⟨gq, h9, ae⟩ := zl ae
          let Z5 : List HO := (Z4 ++ (rpN 4 (Hq c6) (Hi ue h8 :: (rpN 4 (Hq c6) [Hi F9_ h9, Hq c6, Hq c6, Hq c6, Hq c4, Hq c6, Hq c3, Hq c4, Hq c3]))))
          rcases y6 ae with ⟨c7, ae⟩ | ⟨c7, ae⟩
          ·obtain rfl := zi ae
           obtain rfl := hl1
           obtain rfl := zi aa
           exact yE X0 hC hE (Z5 ++ [Hq c7])
          ·exact yB X0 hC bz () ae (Z5 ++ [Hq c7])
         ·exact yB X0 hC bz () ae (Z4 ++ (rpN 11 (Hq c6) [Hq c4, Hq c6, Hq c3, Hq c4, Hq c3, qF]))
        ·exact yB X0 hC bz () ae (Z3 ++ (rpN 8 (Hq c5) (Hq c4 :: Hq c5 :: Hq c4 :: (rpN 11 qF [Hq c4, qF, Hq c3, Hq c4, Hq c3, qF]))))
      ·exact yB X0 hC bz () ae (Z1 ++ (rpN 6 (Hq c3) [qF]))
     ·exact yB X0 hC bz () ae (rpN 8 (Hq c2) (rpN 7 qF []))
 ·rcases y6 ae with ⟨c8, ae⟩ | ⟨c8, ae⟩
  ·let Z6 : List HO := (rpN 5 (Hq c8) [])
   rcases y6 ae with ⟨c9, ae⟩ | ⟨c9, ae⟩
   ·obtain rfl := zi ae
    obtain rfl := hl1
    obtain rfl := zi aa
    exact yE X0 hC hE (Z6 ++ [Hq c9])
   ·exact yB X0 hC a8 () ae (Z6 ++ [Hq c9])
  ·exact yB X0 hC a8 () ae (rpN 5 (Hq c8) [qF])
def kE : Code := (Tryz.f36.body).getD .skip
def q9 : yj := spF (α := z6 × List (List Int) × za) (ρ := Bool) 36 (fun x => [yh x.1, Y4 x.2.1, vL x.2.2]) (fun r => eB r) (fun x => uC x.1 x.2.1 x.2.2) [] (z6g)
abbrev V6 (x_ : za) : List (Nat × T) := [(5, .own (.box (vL x_)))]
abbrev V5 (m_ : z6) (l_ : List (List Int)) (x_ : za) (i_ : Int) : List (Nat × T) := [(1, .d (eSl 1 false F7_ l_)), (3, .own (.box (yh m_))), (5, .own (.box (vL x_))), (7, .d (I i_))]
theorem QY (hC : zM Tryz.prog ctr) (h0U : ctr.Has Zx) : q9.Ok Tryz.prog := by
 refine zS ?_
 rintro ⟨m_, l_, x_⟩ r0 aa
 try unfold uC at aa
 refine yO true [(6, none)] kE 24 Tryz.func36 fun E hE => ?_
 refine yJ X0 hC kE [1] [] [5] (fun z : Unit => qd x_ = some r0) (fun z => V6 x_) [(1, .d (eSl 1 false F7_ l_)), (3, .own (.box (yh m_))), (5, .own (.box (vL x_)))] [Hh (.cut 1)] ?_ fun J1 az => ?_
 ·rintro ⟨⟩ aa
  unfold qd at aa
  obtain rfl := zi aa
  exact yE X0 hC hE []
 ·obtain ⟨t2, ht2, aa⟩ := zl aa
  refine yL X0 hC kE [1,2,1,0] [J1] (fun s => vY m_ l_ x_ s) (fun x => V5 m_ l_ x_ x) 0 ht2  [] ?_
  rintro i_ m2 bh ae hl1 J2 a8
  try unfold vY at ae
  let Z0 : List HO := [Ha (lnM F7_ l_)]
  rcases y6 ae with ⟨c0, ae⟩ | ⟨c0, ae⟩
  ·obtain ⟨bc, h0, ae⟩ := zl ae
   obtain ⟨r_, h1, ae⟩ := zl ae
   let Z1 : List HO := (Z0 ++ [Hq c0, Hi F7_ h0, Hc h0U (x := (m_, bc, x_)) h1 (loC yh m_ <| loC F7_ bc <| loC vL x_ <| loN)])
   rcases y6 ae with ⟨c1, ae⟩ | ⟨c1, ae⟩
   ·obtain rfl := zi ae
    obtain rfl := hl1
    obtain rfl := zi aa
    exact yE X0 hC hE (Z1 ++ [Hq c1])
   ·obtain rfl := zi ae
    exact yB X0 hC a8 (w64 (i_ + 1)) hl1 (Z1 ++ [Hq c1])
  ·obtain rfl := zi ae
   obtain rfl := hl1
   exact yB X0 hC az () aa (Z0 ++ [Hq c0])
def vF : Code := (Tryz.f13.body).getD .skip
def Zy : yj := spF (α := z6 × List (List Int) × Int) (ρ := List (List Int)) 13 (fun x => [yh x.1, Y4 x.2.1, (eI .i64) x.2.2]) (fun r => z4U r) (fun x => k9 x.1 x.2.1 x.2.2) [] (z6g)
abbrev VR (out : List (List Int)) : List (Nat × T) := [(9, .own (eOs 1 false F7_ out))]
abbrev VQ (m_ : z6) (r_ : List (List Int) × List Bool) (ah : List za) (i_ : Int) (ay : List (List Int)) : List (Nat × T) := [(3, .own (.box (yh m_))), (7, .d (eSl 1 true F7_ r_.1)), (9, .own (eOs 1 false F7_ ay)), (10, .own (eOs 3 false vL ah)), (11, .d (I i_))]
abbrev VO (m_ : z6) (r_ : List (List Int) × List Bool) (ah : List za) (ai : List (List Int)) (i_ : Int) (fx : List Int) : List (Nat × T) := [(3, .own (.box (yh m_))), (7, .d (eSl 1 true F7_ r_.1)), (9, .own (eOs 1 false F7_ ai)), (10, .own (eOs 3 false vL ah)), (11, .d (I i_)), (13, .own (eOs 1 false (eI .i64) fx))]
abbrev VP (m_ : z6) (r_ : List (List Int) × List Bool) (ah : List za) (ai : List (List Int)) (i_ : Int) (ax : za) (w_ : List Int) : List (Nat × T) := [(3, .own (.box (yh m_))), (7, .d (eSl 1 true F7_ r_.1)), (9, .own (eOs 1 false F7_ ai)), (10, .own (eOs 3 false vL ah)), (11, .d (I i_)), (12, .own (.box (vL ax))), (13, .own (eOs 1 false (eI .i64) w_))]
abbrev VN (m_ : z6) (r_ : List (List Int) × List Bool) (ah : List za) (ai : List (List Int)) (i_ : Int) : List (Nat × T) := [(3, .own (.box (yh m_))), (7, .d (eSl 1 true F7_ r_.1)), (9, .own (eOs 1 false F7_ ai)), (10, .own (eOs 3 false vL ah)), (11, .d (I i_))]
def ye : XH Tryz.prog := ((z4n zD (.inl 65) [64]).or X0)
theorem Kt (hC : zM Tryz.prog ctr) (h0j : ctr.Has qQ) (h0k : ctr.Has kP) (h0d : ctr.Has q9) (h07 : ctr.Has kQ) : Zy.Ok Tryz.prog := by
 refine zS ?_
 rintro ⟨m_, l_, goal⟩ r0 aa
 try unfold k9 at aa
 refine yO true [(6, none)] vF 68 Tryz.func13 fun E hE => ?_
 obtain ⟨r_, h0, aa⟩ := zl aa
 obtain ⟨g0, aa⟩ := gdE aa
 obtain ⟨ah, h1, aa⟩ := zl aa
 refine yJ ye hC vF [1,1,1,1] [] [9] (fun z : List (List Int) => qW z = some r0) (fun z => VR z) [(3, .own (.box (yh m_))), (7, .d (eSl 1 true F7_ r_.1)), (9, .own (eOs 1 false F7_ l_)), (10, .own (eOs 3 false vL ah))] [Hc h0j (x := m_) h0 (loC yh m_ <| loN), Hn (dM F7_ l_), Hn (aL F7_ F7_ g0), Hl (aM0 F7_ l_), Hc h0k (x := (m_, goal)) h1 (loC yh m_ <| loC (eI .i64) goal <| loN), Hh (.cut 0)] ?_ fun J1 az => ?_
 ·rintro out aa
  unfold qW at aa
  obtain ⟨am, h2, aa⟩ := zl aa
  obtain rfl := zi aa
  exact yE ye hC hE [Hg (JV h07), Hm (shM F7_ F7_ out), Hs (JW h07 (x := out) h2 (loC Y4 out <| loN)), Hm (shM F7_ F7_ out)]
 ·obtain ⟨t2, ht2, aa⟩ := zl aa
  refine yL ye hC vF [1,1,1,1,2,1,0] [J1] (fun s => uo m_ r_ ah s.1 s.2) (fun x => VN m_ r_ ah x.1 x.2) (l_, 0) ht2  [] ?_
  rintro ⟨ai, i_⟩ m2 bh ae hl1 J2 a8
  try unfold uo at ae
  let Z0 : List HO := [Ha (lnM vL ah)]
  rcases y6 ae with ⟨c0, ae⟩ | ⟨c0, ae⟩
  ·refine yJ ye hC vF [1,1,1,1,2,1,0,0,1] [J1, J2] [3,7,9,10,11] (fun z : List (List Int) => vC i_ z = some bh) (fun z => VQ m_ r_ ah i_ z) [(3, .own (.box (yh m_))), (7, .d (eSl 1 true F7_ r_.1)), (9, .own (eOs 1 false F7_ ai)), (10, .own (eOs 3 false vL ah)), (11, .d (I i_))] (Z0 ++ [Hq c0, Hh (.cut 0)]) ?_ fun J3 bz => ?_
   ·rintro ay ae
    unfold vC at ae
    obtain rfl := zi ae
    exact yB ye hC a8 (ay, w64 (i_ + 1)) hl1 []
   ·obtain ⟨ax, h3, ae⟩ := zl ae
    obtain ⟨au, h4, ae⟩ := zl ae
    let Z1 : List HO := [Hn (iL vL h3), Hs (iM vL h3), Hg (JV h0d), Hm (shM F7_ F7_ ai), Hs (JW h0d (x := (m_, ai, ax)) h4 (loC yh m_ <| loC Y4 ai <| loC vL ax <| loN))]
    rcases y6 ae with ⟨c1, ae⟩ | ⟨c1, ae⟩
    ·exact yB ye hC bz ai ae (Z1 ++ [Hq c1])
    ·obtain ⟨u_, h5, ae⟩ := zl ae
     obtain ⟨g1, ae⟩ := gdE ae
     refine yJ ye hC vF [1,1,1,1,2,1,0,0,1,2,0,1,1,1] [J1, J2, J3] [3,7,9,10,11,12,13] (fun z : List Int => ws ai i_ ax z = some bh) (fun z => VP m_ r_ ah ai i_ ax z) [(3, .own (.box (yh m_))), (7, .d (eSl 1 true F7_ r_.1)), (9, .own (eOs 1 false F7_ ai)), (10, .own (eOs 3 false vL ah)), (11, .d (I i_)), (12, .own (.box (vL ax))), (13, .own (eOs 1 false (eI .i64) u_))] (Z1 ++ [Hq c1, Hi F7_ h5, Hn (dM (eI .i64) u_), Hn (aL (eI .i64) (eI .i64) g1), Hl (aM0 (eI .i64) u_), Hh (.cut 0)]) ?_ fun J4 dr => ?_
     ·rintro w_ ae
      unfold ws at ae
      refine yJ ye hC vF [1,1,1,1,2,1,0,0,1,2,0,1,1,1,1] [J1, J2, J3] [3,7,9,10,11,13] (fun z : List Int => vB ai i_ z = some bh) (fun z => VO m_ r_ ah ai i_ z) [(3, .own (.box (yh m_))), (7, .d (eSl 1 true F7_ r_.1)), (9, .own (eOs 1 false F7_ ai)), (10, .own (eOs 3 false vL ah)), (11, .d (I i_)), (12, .own (.box (vL ax))), (13, .own (eOs 1 false (eI .i64) w_))] [Hh (.cut 0)] ?_ fun J5 dg => ?_
      ·rintro fx ae
       unfold vB at ae
       obtain ⟨g2, ae⟩ := gdE ae
       exact yB ye hC bz (ai ++ ([fx] : List (List Int))) ae [Hm (shM F6_ F7_ ([fx])), Hn (dM F7_ ([fx] : List (List Int))), Hn (aL F7_ F7_ g2), Hl (aM F7_ ai ([fx] : List (List Int)))]
      ·rcases y6 ae with ⟨c2, ae⟩ | ⟨c2, ae⟩
       ·obtain ⟨g3, ae⟩ := gdE ae
        exact yB ye hC dg (w_ ++ ([ax.Next] : List Int)) ae [Hq c2, Hq (dM (eI .i64) ([ax.Next] : List Int)), Hn (dM (eI .i64) ([ax.Next] : List Int)), Hn (aL (eI .i64) (eI .i64) g3), Hl (aM (eI .i64) w_ ([ax.Next] : List Int))]
       ·exact yB ye hC dg w_ ae [Hq c2]
     ·rcases y6 ae with ⟨c3, ae⟩ | ⟨c3, ae⟩
      ·obtain ⟨g4, ae⟩ := gdE ae
       exact yB ye hC dr (u_ ++ ([ax.Input] : List Int)) ae [Hq c3, Hq (dM (eI .i64) ([ax.Input] : List Int)), Hn (dM (eI .i64) ([ax.Input] : List Int)), Hn (aL (eI .i64) (eI .i64) g4), Hl (aM (eI .i64) u_ ([ax.Input] : List Int))]
      ·exact yB ye hC dr u_ ae [Hq c3]
  ·obtain rfl := zi ae
   obtain rfl := hl1
   exact yB ye hC az ai aa (Z0 ++ [Hq c0])
def Xa : Code := (Tryz.f12.body).getD .skip
def kR : yj := spF (α := List (List Int) × List (List Int)) (ρ := Bool) 12 (fun x => [Y4 x.1, Y4 x.2]) (fun r => eB r) (fun x => jF x.1 x.2) [] (Ur)
abbrev Qn : List (Nat × T) := []
abbrev Qm (a_ : List (List Int)) (b_ : List (List Int)) (i_ : Int) : List (Nat × T) := [(0, .d (eSl 1 false F7_ a_)), (1, .d (eSl 1 false F7_ b_)), (5, .d (I i_))]
theorem z1i (hC : zM Tryz.prog ctr) (h0a : ctr.Has qa) : kR.Ok Tryz.prog := by
 refine zS ?_
 rintro ⟨a_, b_⟩ r0 aa
 try unfold jF at aa
 refine yO true [(4, none)] Xa 27 Tryz.func12 fun E hE => ?_
 let Z0 : List HO := [Ha (lnM F7_ a_), Ha (lnM F7_ b_)]
 rcases y6 aa with ⟨c0, aa⟩ | ⟨c0, aa⟩
 ·obtain rfl := zi aa
  exact yE X0 hC hE (Z0 ++ [Hq c0])
 ·refine yJ X0 hC Xa [1,1] [] [] (fun z : Unit => kU = some r0) (fun z => Qn) [(0, .d (eSl 1 false F7_ a_)), (1, .d (eSl 1 false F7_ b_))] (Z0 ++ [Hq c0, Hh (.cut 0)]) ?_ fun J1 az => ?_
  ·rintro ⟨⟩ aa
   unfold kU at aa
   obtain rfl := zi aa
   exact yE X0 hC hE []
  ·obtain ⟨t2, ht2, aa⟩ := zl aa
   refine yL X0 hC Xa [1,1,2,1,0] [J1] (fun s => uD a_ b_ s) (fun x => Qm a_ b_ x) 0 ht2  [] ?_
   rintro i_ m2 bh ae hl1 J2 a8
   try unfold uD at ae
   let Z1 : List HO := [Ha (lnM F7_ a_)]
   rcases y6 ae with ⟨c1, ae⟩ | ⟨c1, ae⟩
   ·obtain ⟨fp, h0, ae⟩ := zl ae
    obtain ⟨fq, h1, ae⟩ := zl ae
    obtain ⟨r_, h2, ae⟩ := zl ae
    let Z2 : List HO := (Z1 ++ [Hq c1, Hi F7_ h0, Hi F7_ h1, Hc h0a (x := (fp, fq)) h2 (loC F7_ fp <| loC F7_ fq <| loN)])
    rcases y6 ae with ⟨c2, ae⟩ | ⟨c2, ae⟩
    ·obtain rfl := zi ae
     obtain rfl := hl1
     obtain rfl := zi aa
     exact yE X0 hC hE (Z2 ++ [Hq c2])
    ·obtain rfl := zi ae
     exact yB X0 hC a8 (w64 (i_ + 1)) hl1 (Z2 ++ [Hq c2])
   ·obtain rfl := zi ae
    obtain rfl := hl1
    exact yB X0 hC az () aa (Z1 ++ [Hq c1])
def qn : Code := (Tryz.f14.body).getD .skip
def ku : yj := spF (α := z6 × List (List Int) × Int) (ρ := List za) 14 (fun x => [yh x.1, Y4 x.2.1, (eI .i64) x.2.2]) (fun r => (eOs 3 false vL) r) (fun x => qU x.1 x.2.1 x.2.2) [] (z6g)
abbrev V4 (out : List za) : List (Nat × T) := [(8, .own (eOs 3 false vL out))]
abbrev V3 (m_ : z6) (l_ : List (List Int)) (r_ : List za) (i_ : Int) (ay : List za) : List (Nat × T) := [(1, .d (eSl 1 false F7_ l_)), (3, .own (.box (yh m_))), (7, .own (eOs 3 false vL r_)), (8, .own (eOs 3 false vL ay)), (9, .d (I i_))]
abbrev V2 (m_ : z6) (l_ : List (List Int)) (r_ : List za) (ai : List za) (i_ : Int) : List (Nat × T) := [(1, .d (eSl 1 false F7_ l_)), (3, .own (.box (yh m_))), (7, .own (eOs 3 false vL r_)), (8, .own (eOs 3 false vL ai)), (9, .d (I i_))]
theorem QX (hC : zM Tryz.prog ctr) (h0k : ctr.Has kP) (h0d : ctr.Has q9) : ku.Ok Tryz.prog := by
 refine zS ?_
 rintro ⟨m_, l_, goal⟩ r0 aa
 try unfold qU at aa
 refine yO true [(6, none)] qn 35 Tryz.func14 fun E hE => ?_
 obtain ⟨r_, h0, aa⟩ := zl aa
 refine yJ X0 hC qn [1,1,1] [] [8] (fun z : List za => qb z = some r0) (fun z => V4 z) [(1, .d (eSl 1 false F7_ l_)), (3, .own (.box (yh m_))), (7, .own (eOs 3 false vL r_)), (8, .own (eOs 3 true vL []))] [Hc h0k (x := (m_, goal)) h0 (loC yh m_ <| loC (eI .i64) goal <| loN), Hh (.cut 1)] ?_ fun J1 az => ?_
 ·rintro out aa
  unfold qb at aa
  obtain rfl := zi aa
  exact yE X0 hC hE []
 ·obtain ⟨t2, ht2, aa⟩ := zl aa
  refine yLx X0 hC qn [1,1,1,2,1,0] [J1] (fun s => wK m_ l_ r_ s.1 s.2) (fun x => V2 m_ l_ r_ x.1 x.2) (([] : List za), 0) ht2 [(1, .d (eSl 1 false F7_ l_)), (3, .own (.box (yh m_))), (7, .own (eOs 3 false vL r_)), (8, .own (eOs 3 true vL [])), (9, .d (I 0))] inferInstance [] ?_
  rintro ⟨ai, i_⟩ m2 bh ae hl1 J2 a8
  try unfold wK at ae
  let Z0 : List HO := [Ha (lnM vL r_)]
  rcases y6 ae with ⟨c0, ae⟩ | ⟨c0, ae⟩
  ·refine yJ X0 hC qn [1,1,1,2,1,0,0,1] [J1, J2] [1,3,7,8,9] (fun z : List za => wL i_ z = some bh) (fun z => V3 m_ l_ r_ i_ z) [(1, .d (eSl 1 false F7_ l_)), (3, .own (.box (yh m_))), (7, .own (eOs 3 false vL r_)), (8, .own (eOs 3 false vL ai)), (9, .d (I i_))] (Z0 ++ [Hq c0, Hh (.cut 0)]) ?_ fun J3 bz => ?_
   ·rintro ay ae
    unfold wL at ae
    obtain rfl := zi ae
    exact yB X0 hC a8 (ay, w64 (i_ + 1)) hl1 []
   ·obtain ⟨ax, h1, ae⟩ := zl ae
    obtain ⟨ah, h2, ae⟩ := zl ae
    let Z1 : List HO := [Hn (iL vL h1), Hs (iM vL h1), Hc h0d (x := (m_, l_, ax)) h2 (loC yh m_ <| loC Y4 l_ <| loC vL ax <| loN)]
    rcases y6 ae with ⟨c1, ae⟩ | ⟨c1, ae⟩
    ·obtain ⟨ff, h3, ae⟩ := zl ae
     obtain ⟨g0, ae⟩ := gdE ae
     exact yB X0 hC bz (ai ++ ([ff] : List za)) ae (Z1 ++ [Hq c1, Hn (iL vL h3), Hs (iM vL h3), Hq (dM vL ([ff] : List za)), Hn (dM vL ([ff] : List za)), Hn (aL vL vL g0), Hl (aM vL ai ([ff] : List za))])
    ·exact yB X0 hC bz ai ae (Z1 ++ [Hq c1])
  ·obtain rfl := zi ae
   obtain rfl := hl1
   exact yB X0 hC az ai aa (Z0 ++ [Hq c0])
def YG : Code := (Tryz.f25.body).getD .skip
theorem YM (hC : zM Tryz.prog ctr) : ∀ (goal : Int) (x_ : zh) (r0 : Int), xO goal x_ = some r0 → ∀ us : List Value, us.length = 3 → ur Tryz.prog (.fn 25 []) ([] ++ .agg (us.map .atom) :: [I goal]) (Xr us [zq (eI .i64) eB x_.states_, zq F0_ eB x_.edges_, zq zH eB x_.pairs_]) (I r0) ([zq (eI .i64) eB x_.states_, zq F0_ eB x_.edges_, zq zH eB x_.pairs_].map fun e => .opq (yb e)) := by
 intro goal x_ r0 aa us hus
 obtain ⟨u0, u1, u2, rfl⟩ := zbC hus
 refine Wl (tt := wm) (nt := 17) (body := YG) (B := 2) [4] (xl := []) (xr := [I goal]) (caps := []) (es := [zq (eI .i64) eB x_.states_, zq F0_ eB x_.edges_, zq zH eB x_.pairs_]) (es' := [zq (eI .i64) eB x_.states_, zq F0_ eB x_.edges_, zq zH eB x_.pairs_]) (us := [u0, u1, u2]) (r := I r0) Tryz.func25 rfl (by kernel_rfl) rfl rfl (by decide) (by show (2 : Nat) ≤ 17; decide) rfl rfl (.inr ⟨_, rfl⟩) fun E hE => ?_
 try unfold xO at aa
 obtain ⟨cell, h0, aa⟩ := zl aa
 obtain rfl := zi aa
 exact yF ((zhF zD 16).or ((z4X zaQ 13 (ZF u2 (zq zH eB x_.pairs_))).or ((z4X zaR 10 (ZF u1 (zq F0_ eB x_.edges_))).or ((z4X z86 7 (ZF u0 (zq (eI .i64) eB x_.states_))).or X0)))) hC .ret [(2, .own (.box (.agg [.opq (vo u0 (zq (eI .i64) eB x_.states_)), .opq (vo u1 (zq F0_ eB x_.edges_)), .opq (vo u2 (zq zH eB x_.pairs_))]))), (4, .d (I cell))] [Hn (rfl : A.opq (vo u0 (zq (eI .i64) eB x_.states_)) = A.opq (vo u0 (zq (eI .i64) eB x_.states_))), Hx (aLn x_.states_.length) (z36 (eI .i64) eB x_.states_), Hn (rfl : A.opq (vo u1 (zq F0_ eB x_.edges_)) = A.opq (vo u1 (zq F0_ eB x_.edges_))), Hx (aLn x_.edges_.length) (z36 F0_ eB x_.edges_), Hn (rfl : A.opq (vo u2 (zq zH eB x_.pairs_)) = A.opq (vo u2 (zq zH eB x_.pairs_))), Hx (aLn x_.pairs_.length) (z36 zH eB x_.pairs_), Hs (iM (eI .i64) h0), Hn (ixV (k := .i64) (tt := wm) (e := 3) (l := ([((x_.states_.length : Nat) : Int), ((x_.edges_.length : Nat) : Int), ((x_.pairs_.length : Nat) : Int)] : List Int)) (fun _ => by kernel_rfl) h0 (m := 3) rfl)] fun st0 h0 => hE _ st0 (.inr rfl) (JK h0 rfl rfl) (z5S (zd4 h0 rfl rfl))
def ZO : Code := (Tryz.f8.body).getD .skip
def qR : yj := spF (α := z6 × List (List Int)) (ρ := y7 × Int) 8 (fun x => [yh x.1, Y4 x.2]) (fun r => .tup [zeM r.1, (eI .i64) r.2]) (fun x => uq x.1 x.2) [] (Ur)
abbrev VT (n_ : YI (xp Int)) : List (Nat × T) := [(4, .own (.box (.agg [.agg [I 0, I 0], .agg [I 0, I 0], .agg [I 0, I 0]]))), (8, .own (.box ((zd3 F0_) n_)))]
abbrev VS (m_ : z6) (ah : zh) (dt : YI (xp Int)) (bw : Int) : List (Nat × T) := [(2, .own (.box (yh m_))), (4, .own (.box (.agg [.agg [I 0, I 0], .agg [I 0, I 0], .agg [I 0, I 0]]))), (7, .own (.box ((zQ (eMp (eI .i64) eB) (eMp F0_ eB) (eMp zH eB)) ah))), (8, .own (.box ((zd3 F0_) dt))), (20, .d (I bw))]
theorem Kw (hC : zM Tryz.prog ctr) (h03 : ctr.Has xU) (h02 : ctr.Has xg) (h04 : ctr.Has wJ) : qR.Ok Tryz.prog := by
 refine zS ?_
 rintro ⟨m_, l_⟩ r0 aa
 try unfold uq at aa
 refine yO false [(4, some 36), (5, none)] ZO 41 Tryz.func8 fun E hE => ?_
 obtain ⟨r_, h0, aa⟩ := zl aa
 let Z0 : List HO := [Hc h03 (x := (m_, l_)) h0 (loC yh m_ <| loC Y4 l_ <| loN)]
 rcases y6 aa with ⟨c0, aa⟩ | ⟨c0, aa⟩
 ·obtain rfl := zi aa
  exact yE X0 hC hE (Z0 ++ [Hq c0])
 ·obtain ⟨ah, h1, aa⟩ := zl aa
  refine yJ X0 hC ZO [1,1,1,1] [] [4,8] (fun z : YI (xp Int) => ZL z = some r0) (fun z => VT z) [(2, .own (.box (yh m_))), (4, .own (.box (.agg [.agg [I 0, I 0], .agg [I 0, I 0], .agg [I 0, I 0]]))), (7, .own (.box ((zQ (eMp (eI .i64) eB) (eMp F0_ eB) (eMp zH eB)) ah))), (8, .own (.box (.agg [.agg [I 0, I 0], .agg [I 0, I 0], .agg [I 0, I 0]])))] (Z0 ++ [Hq c0, Hc h02 (x := (m_, l_)) h1 (loC yh m_ <| loC Y4 l_ <| loN), Hh (.cut 1)]) ?_ fun J1 az => ?_
  ·rintro n_ aa
   unfold ZL at aa
   obtain rfl := zi aa
   exact yE X0 hC hE [Hn (⟨rfl, by decide⟩ : true = true ∧ 0 < 3), Hn (⟨rfl, by decide⟩ : true = true ∧ 1 < 3), Hn (⟨rfl, by decide⟩ : true = true ∧ 2 < 3)]
  ·obtain ⟨t2, ht2, aa⟩ := zl aa
   refine yL X0 hC ZO [1,1,1,1,2,1,0] [J1] (fun s => xQ m_ ah s.1 s.2) (fun x => VS m_ ah x.1 x.2) ((YI.mk (xp.mk 0 0) (xp.mk 0 0) (xp.mk 0 0)), 0) ht2  [] ?_
   rintro ⟨dt, bw⟩ m2 bh ae hl1 J2 a8
   try unfold xQ at ae
   rcases y6 ae with ⟨c1, ae⟩ | ⟨c1, ae⟩
   ·obtain ⟨am, h2, ae⟩ := zl ae
    obtain ⟨au, h3, ae⟩ := zl ae
    obtain ⟨cell, h4, ae⟩ := zl ae
    obtain ⟨arr, h5, ae⟩ := zl ae
    replace h5 := zi h5
    obtain rfl := zi ae
    exact yB ((Yp (P := Tryz.prog) wm 7 0 [.deref] (fa := .fn 25 []) (r := I am) (xl := []) (xr := [(eI .i64) bw]) (qs := [(yb (zq (eI .i64) eB ah.states_)), (yb (zq F0_ eB ah.edges_)), (yb (zq zH eB ah.pairs_))]) (qs' := [(yb (zq (eI .i64) eB ah.states_)), (yb (zq F0_ eB ah.edges_)), (yb (zq zH eB ah.pairs_))]) (es := [(zq (eI .i64) eB ah.states_), (zq F0_ eB ah.edges_), (zq zH eB ah.pairs_)]) (es' := [(zq (eI .i64) eB ah.states_), (zq F0_ eB ah.edges_), (zq zH eB ah.pairs_)]) (.inr rfl) (z4z (by kernel_rfl)) (.cons (wb (zq (eI .i64) eB ah.states_)) (.cons (wb (zq F0_ eB ah.edges_)) (.cons (wb (zq zH eB ah.pairs_)) (.nil)))) (fun us hu => YM hC _ _ _ h2 us hu) (some 26)).or X0) hC a8 (arr, w64 (bw + 1)) hl1 [Hq c1, Hn (⟨rfl, leP (show VU [] [] from inferInstance), leP (show VU [(eI .i64) bw] [(eI .i64) bw] from inferInstance), rfl, rfl⟩ : ([.fn 25 []] : List A) = [.fn 25 []] ∧ LeP [] [] ∧ LeP [(eI .i64) bw] [(eI .i64) bw] ∧ T.als 7 [.deref] 0 0 = T.als 7 [.deref] 0 0 ∧ (some (.agg [.opq (yb (zq (eI .i64) eB ah.states_)), .opq (yb (zq F0_ eB ah.edges_)), .opq (yb (zq zH eB ah.pairs_))]) : Option A) = some (.agg [.opq (yb (zq (eI .i64) eB ah.states_)), .opq (yb (zq F0_ eB ah.edges_)), .opq (yb (zq zH eB ah.pairs_))])), Hc h04 (x := (m_, bw)) h3 (loC yh m_ <| loC (eI .i64) bw <| loN), Ha (lnM (zc F7_ zH zF) au), Hn (⟨arJ (by kernel_rfl) (i0 h4), (iL F0_ h4).2⟩ : Ke wm 73 ((YI.toL dt).map F0_) bw = true ∧ bw.toNat < ((YI.toL dt).map F0_).length), Hh (.op 2), Hh (.f), Hs (iM F0_ h4), Hh (.f), Hs (iM F0_ h4), Hx (.l ((YI.toL arr).map F0_)) ((YI.setL F0_ dt bw (xp.mk am ((au.length : Nat) : Int))).trans (congrArg (fun q => (YI.toL q).map F0_) h5))]
   ·obtain rfl := zi ae
    obtain rfl := hl1
    exact yB X0 hC az dt aa [Hq c1]
def Kd : Code := (Tryz.f28.body).getD .skip
def Zz : yj := spF (α := Unit) (ρ := z6) 28 (fun x => []) (fun r => zbG r) (fun x => XX) [] (fun _ _ _ => rfl)
theorem Kv (hC : zM Tryz.prog ctr) : Zz.Ok Tryz.prog := by
 refine zS ?_
 rintro ⟨⟩ r0 aa
 try unfold XX at aa
 refine yO false [(0, some 30)] Kd 9 Tryz.func28 fun E hE => ?_
 obtain rfl := zi aa
 exact yE X0 hC hE [Hm (shM (eOs 2 true F9_) zhy ([[(ze.mk 1 0), (ze.mk 0 0)], [(ze.mk 0 1), (ze.mk 1 0)]]))]
def vH : Code := (Tryz.f56.body).getD .skip
def yf : yj := spF (α := List z8) (ρ := List z8) 56 (fun x => [(eSl 3 false zH) x]) (fun r => (eSl 3 true zH) r) (fun x => yo x) [] (Kz)
theorem vM (hC : zM Tryz.prog ctr) : yf.Ok Tryz.prog := by
 refine zS ?_
 rintro s_ r0 aa
 try unfold yo at aa
 refine yO true [(2, none)] vH 9 Tryz.func56 fun E hE => ?_
 obtain ⟨g0, aa⟩ := gdE aa
 obtain rfl := zi aa
 exact yE X0 hC hE [Ha (lnM zH s_), Ha (lnM zH s_), Hn (slB g0), Hn (slC g0), Hn (zcb zH g0), Ha (zgZ 3 zH s_ 0 ((s_.length : Nat) : Int).toNat)]
def vq : Code := (Tryz.f41.body).getD .skip
def uN : yj := spF (α := z6 × List (List Int) × Int) (ρ := List z8 × Int) 41 (fun x => [yh x.1, Y4 x.2.1, (eI .i64) x.2.2]) (fun r => .tup [(eSl 3 true zH) r.1, (eI .i64) r.2]) (fun x => jK x.1 x.2.1 x.2.2) [] (z6g)
abbrev Xh (out : List z8) : List (Nat × T) := [(10, .own (eOs 3 false zH out))]
abbrev Xg (ah : zh) (au : List zb) (av : Int) (ay : List z8) : List (Nat × T) := [(9, .own (.box ((zQ (eMp (eI .i64) eB) (eMp F0_ eB) (eMp zH eB)) ah))), (10, .own (eOs 3 false zH ay)), (24, .own (eOs 5 false (zc F7_ zH zF) au)), (25, .d (I ((au.length : Nat) : Int))), (26, .d (I av))]
abbrev Xf (ah : zh) (au : List zb) (ai : List z8) (av : Int) : List (Nat × T) := [(9, .own (.box ((zQ (eMp (eI .i64) eB) (eMp F0_ eB) (eMp zH eB)) ah))), (10, .own (eOs 3 false zH ai)), (24, .own (eOs 5 false (zc F7_ zH zF) au)), (25, .d (I ((au.length : Nat) : Int))), (26, .d (I av))]
theorem WG (hC : zM Tryz.prog ctr) (h03 : ctr.Has xU) (h02 : ctr.Has xg) (h04 : ctr.Has wJ) (h0s : ctr.Has yf) : uN.Ok Tryz.prog := by
 refine zS ?_
 rintro ⟨m_, l_, goal⟩ r0 aa
 try unfold jK at aa
 refine yO false [(6, none), (7, none)] vq 43 Tryz.func41 fun E hE => ?_
 obtain ⟨r_, h0, aa⟩ := zl aa
 let Z0 : List HO := [Hc h03 (x := (m_, l_)) h0 (loC yh m_ <| loC Y4 l_ <| loN)]
 rcases y6 aa with ⟨c0, aa⟩ | ⟨c0, aa⟩
 ·obtain rfl := zi aa
  exact yEx X0 hC hE (Z0 ++ [Hq c0, Hm (shM zH zH [])]) (.tup [eSl 3 true zH [], I r_]) (show LeV (.tup [eSl 3 true zH [], I r_]) (.tup [eSl 3 true zH ([] : List z8), I r_]) from inferInstance)
 ·obtain ⟨ah, h1, aa⟩ := zl aa
  refine yJ X0 hC vq [1,1,1,1] [] [10] (fun z : List z8 => uP z = some r0) (fun z => Xh z) [(2, .d (I goal)), (3, .own (.box (yh m_))), (9, .own (.box ((zQ (eMp (eI .i64) eB) (eMp F0_ eB) (eMp zH eB)) ah))), (10, .own (eOs 3 true zH []))] (Z0 ++ [Hq c0, Hc h02 (x := (m_, l_)) h1 (loC yh m_ <| loC Y4 l_ <| loN), Hh (.cut 1)]) ?_ fun J1 az => ?_
  ·rintro out aa
   unfold uP at aa
   obtain ⟨am, h2, aa⟩ := zl aa
   obtain rfl := zi aa
   exact yE X0 hC hE [Hg (JV h0s), Hm (shM zH zH out), Hs (JW h0s (x := out) h2 (loC (eSl 3 false zH) out <| loN)), Hm (shM zH zH out)]
  ·obtain ⟨au, h3, aa⟩ := zl aa
   obtain ⟨t2, ht2, aa⟩ := zl aa
   refine yLx X0 hC vq [1,1,1,1,2,1,0] [J1] (fun s => uO ah au s.1 s.2) (fun x => Xf ah au x.1 x.2) (([] : List z8), 0) ht2 [(9, .own (.box ((zQ (eMp (eI .i64) eB) (eMp F0_ eB) (eMp zH eB)) ah))), (10, .own (eOs 3 true zH [])), (24, .own (eOs 5 false (zc F7_ zH zF) au)), (25, .d (I ((au.length : Nat) : Int))), (26, .d (I 0))] inferInstance [Hc h04 (x := (m_, goal)) h3 (loC yh m_ <| loC (eI .i64) goal <| loN), Ha (lnM (zc F7_ zH zF) au)] ?_
   rintro ⟨ai, av⟩ m2 bh ae hl1 J2 a8
   try unfold uO at ae
   rcases y6 ae with ⟨c1, ae⟩ | ⟨c1, ae⟩
   ·refine yJ X0 hC vq [1,1,1,1,2,1,0,0,1,1] [J1, J2] [9,10,24,25,26] (fun z : List z8 => vp av z = some bh) (fun z => Xg ah au av z) [(9, .own (.box ((zQ (eMp (eI .i64) eB) (eMp F0_ eB) (eMp zH eB)) ah))), (10, .own (eOs 3 false zH ai)), (24, .own (eOs 5 false (zc F7_ zH zF) au)), (25, .d (I ((au.length : Nat) : Int))), (26, .d (I av))] [Hq c1, Hh (.cut 0)] ?_ fun J3 bz => ?_
    ·rintro ay ae
     unfold vp at ae
     obtain rfl := zi ae
     exact yB X0 hC a8 (ay, w64 (av + 1)) hl1 []
    ·obtain ⟨ax, h4, ae⟩ := zl ae
     obtain ⟨aw, h5, ae⟩ := zl ae
     let Z1 : List HO := [Hn (iL (zc F7_ zH zF) h4), Hs (iM (zc F7_ zH zF) h4), Hn (⟨rfl, leP (show VU [] [] from inferInstance), leP (show VU [] [] from inferInstance), rfl, rfl⟩ : ([zF ax.has_] : List A) = [zF ax.has_] ∧ LeP [] [] ∧ LeP [] [] ∧ T.als 9 [.deref] 0 0 = T.als 9 [.deref] 0 0 ∧ (some (.agg [.opq (yb (zq (eI .i64) eB ah.states_)), .opq (yb (zq F0_ eB ah.edges_)), .opq (yb (zq zH eB ah.pairs_))]) : Option A) = some (.agg [.opq (yb (zq (eI .i64) eB ah.states_)), .opq (yb (zq F0_ eB ah.edges_)), .opq (yb (zq zH eB ah.pairs_))]))]
     rcases y6 ae with ⟨c2, ae⟩ | ⟨c2, ae⟩
     ·obtain ⟨g0, ae⟩ := gdE ae
      exact yB ((Yp (P := Tryz.prog) wm 9 0 [.deref] (fa := zF ax.has_) (r := B aw) (xl := []) (xr := []) (qs := [(yb (zq (eI .i64) eB ah.states_)), (yb (zq F0_ eB ah.edges_)), (yb (zq zH eB ah.pairs_))]) (qs' := [(yb (zq (eI .i64) eB ah.states_)), (yb (zq F0_ eB ah.edges_)), (yb (zq zH eB ah.pairs_))]) (es := [(zq (eI .i64) eB ah.states_), (zq F0_ eB ah.edges_), (zq zH eB ah.pairs_)]) (es' := [(zq (eI .i64) eB ah.states_), (zq F0_ eB ah.edges_), (zq zH eB ah.pairs_)]) (.inr rfl) (z4z (by kernel_rfl)) (.cons (wb (zq (eI .i64) eB ah.states_)) (.cons (wb (zq F0_ eB ah.edges_)) (.cons (wb (zq zH eB ah.pairs_)) (.nil)))) (fun us hu => Yt hC _ _ _ h5 us hu) (some 33)).or X0) hC bz (ai ++ ([ax.pair_] : List z8)) ae (Z1 ++ [Hq c2, Hq (dM zH ([ax.pair_] : List z8)), Hn (dM zH ([ax.pair_] : List z8)), Hn (aL zH zH g0), Hl (aM zH ai ([ax.pair_] : List z8))])
     ·exact yB ((Yp (P := Tryz.prog) wm 9 0 [.deref] (fa := zF ax.has_) (r := B aw) (xl := []) (xr := []) (qs := [(yb (zq (eI .i64) eB ah.states_)), (yb (zq F0_ eB ah.edges_)), (yb (zq zH eB ah.pairs_))]) (qs' := [(yb (zq (eI .i64) eB ah.states_)), (yb (zq F0_ eB ah.edges_)), (yb (zq zH eB ah.pairs_))]) (es := [(zq (eI .i64) eB ah.states_), (zq F0_ eB ah.edges_), (zq zH eB ah.pairs_)]) (es' := [(zq (eI .i64) eB ah.states_), (zq F0_ eB ah.edges_), (zq zH eB ah.pairs_)]) (.inr rfl) (z4z (by kernel_rfl)) (.cons (wb (zq (eI .i64) eB ah.states_)) (.cons (wb (zq F0_ eB ah.edges_)) (.cons (wb (zq zH eB ah.pairs_)) (.nil)))) (fun us hu => Yt hC _ _ _ h5 us hu) (some 33)).or X0) hC bz ai ae (Z1 ++ [Hq c2])
   ·obtain rfl := zi ae
    obtain rfl := hl1
    exact yB X0 hC az ai aa [Hq c1]
def jh : Code := (Tryz.f18.body).getD .skip
def qS : yj := spF (α := z6 × List (List Int)) (ρ := List (xp Int) × Int) 18 (fun x => [yh x.1, Y4 x.2]) (fun r => .tup [(eSl 2 false F0_) r.1, (eI .i64) r.2]) (fun x => ZM x.1 x.2) [] (Ur)
abbrev W9 (r_ : List z8 × Int) (out : List (xp Int)) : List (Nat × T) := [(7, .d (I r_.2)), (8, .own (eOs 2 false F0_ out))]
abbrev W8 (r_ : List z8 × Int) (ai : List (xp Int)) (gr : Int) : List (Nat × T) := [(7, .d (I r_.2)), (8, .own (eOs 2 false F0_ ai)), (20, .d (eSl 3 true zH r_.1)), (21, .d (I ((r_.1.length : Nat) : Int))), (22, .d (I gr))]
theorem Ua (hC : zM Tryz.prog ctr) (h0V : ctr.Has uN) : qS.Ok Tryz.prog := by
 refine zS ?_
 rintro ⟨m_, l_⟩ r0 aa
 try unfold ZM at aa
 refine yO false [(4, none), (5, none)] jh 37 Tryz.func18 fun E hE => ?_
 obtain ⟨r_, h0, aa⟩ := zl aa
 obtain ⟨g0, aa⟩ := gdE aa
 refine yJ X0 hC jh [1,1,1] [] [7,8] (fun z : List (xp Int) => je r_ z = some r0) (fun z => W9 r_ z) [(6, .d (eSl 3 true zH r_.1)), (7, .d (I r_.2)), (8, .own (eOs 2 (decide ((0 : Int) = ((r_.1.length : Nat) : Int))) F0_ []))] [Hc h0V (x := (m_, l_, 1)) h0 (loC yh m_ <| loC Y4 l_ <| loC (eI .i64) 1 <| loN), Ha (lnM zH r_.1), Hn (rL0 g0), Hx (.a (eOs 2 (decide ((0 : Int) = ((r_.1.length : Nat) : Int))) F0_ ([] : List (xp Int)))) (rM0 2 F0_ ((r_.1.length : Nat) : Int) (.agg [I 0, I 0])), Hh (.cut 0)] ?_ fun J1 az => ?_
 ·rintro out aa
  unfold je at aa
  obtain rfl := zi aa
  exact yE X0 hC hE [Hm (shM F0_ F0_ out)]
 ·obtain ⟨t2, ht2, aa⟩ := zl aa
  refine yLx X0 hC jh [1,1,1,2,1,0] [J1] (fun s => jd r_ s.1 s.2) (fun x => W8 r_ x.1 x.2) (([] : List (xp Int)), 0) ht2 [(7, .d (I r_.2)), (8, .own (eOs 2 (decide ((0 : Int) = ((r_.1.length : Nat) : Int))) F0_ [])), (20, .d (eSl 3 true zH r_.1)), (21, .d (I ((r_.1.length : Nat) : Int))), (22, .d (I 0))] inferInstance [Ha (lnM zH r_.1)] ?_
  rintro ⟨ai, gr⟩ m2 bh ae hl1 J2 a8
  try unfold jd at ae
  rcases y6 ae with ⟨c0, ae⟩ | ⟨c0, ae⟩
  ·obtain ⟨u_, h1, ae⟩ := zl ae
   obtain ⟨g1, ae⟩ := gdE ae
   obtain rfl := zi ae
   exact yB X0 hC a8 ((ai ++ ([(xp.mk u_.State u_.Input)] : List (xp Int))), w64 (gr + 1)) hl1 [Hq c0, Hi zH h1, Hq (dM F0_ ([(xp.mk u_.State u_.Input)] : List (xp Int))), Hn (dM F0_ ([(xp.mk u_.State u_.Input)] : List (xp Int))), Hn (aL F0_ F0_ g1), Hl (aM F0_ ai ([(xp.mk u_.State u_.Input)] : List (xp Int)))]
  ·obtain rfl := zi ae
   obtain rfl := hl1
   exact yB X0 hC az ai aa [Hq c0]
def uL : Code := (Tryz.f37.body).getD .skip
abbrev WA (u0 : Value) (u1 : Value) (u2 : Value) (x_ : zh) (out : List Int) : List (Nat × T) := [(3, .own (.box (.agg [.opq (vo u0 (zq (eI .i64) eB x_.states_)), .opq (vo u1 (zq F0_ eB x_.edges_)), .opq (vo u2 (zq zH eB x_.pairs_))]))), (5, .own (eOs 1 true (eI .u64) out))]
abbrev Wz (u0 : Value) (u1 : Value) (u2 : Value) (bq : List zb) (x_ : zh) (db : Int) (ay : List Int) : List (Nat × T) := [(3, .own (.box (.agg [.opq (vo u0 (zq (eI .i64) eB x_.states_)), .opq (vo u1 (zq F0_ eB x_.edges_)), .opq (vo u2 (zq zH eB x_.pairs_))]))), (5, .own (eOs 1 true (eI .u64) ay)), (13, .d (eSl 5 false (zc F7_ zH zF) bq)), (14, .d (I ((bq.length : Nat) : Int))), (15, .d (I db))]
abbrev Wy (u0 : Value) (u1 : Value) (u2 : Value) (bq : List zb) (x_ : zh) (ai : List Int) (db : Int) : List (Nat × T) := [(3, .own (.box (.agg [.opq (vo u0 (zq (eI .i64) eB x_.states_)), .opq (vo u1 (zq F0_ eB x_.edges_)), .opq (vo u2 (zq zH eB x_.pairs_))]))), (5, .own (eOs 1 true (eI .u64) ai)), (13, .d (eSl 5 false (zc F7_ zH zF) bq)), (14, .d (I ((bq.length : Nat) : Int))), (15, .d (I db))]
theorem uZ (hC : zM Tryz.prog ctr) : ∀ (bq : List zb) (x_ : zh) (r0 : List Int), uX bq x_ = some r0 → ∀ us : List Value, us.length = 3 → ur Tryz.prog (.fn 37 []) ([eSl 5 false (zc F7_ zH zF) bq] ++ .agg (us.map .atom) :: []) (Xr us [zq (eI .i64) eB x_.states_, zq F0_ eB x_.edges_, zq zH eB x_.pairs_]) (eSl 1 true (eI .u64) r0) ([zq (eI .i64) eB x_.states_, zq F0_ eB x_.edges_, zq zH eB x_.pairs_].map fun e => .opq (yb e)) := by
 intro bq x_ r0 aa us hus
 obtain ⟨u0, u1, u2, rfl⟩ := zbC hus
 refine Wl (tt := wm) (nt := 36) (body := uL) (B := 3) [4] (xl := [eSl 5 false (zc F7_ zH zF) bq]) (xr := []) (caps := []) (es := [zq (eI .i64) eB x_.states_, zq F0_ eB x_.edges_, zq zH eB x_.pairs_]) (es' := [zq (eI .i64) eB x_.states_, zq F0_ eB x_.edges_, zq zH eB x_.pairs_]) (us := [u0, u1, u2]) (r := eSl 1 true (eI .u64) r0) Tryz.func37 rfl (by kernel_rfl) rfl rfl (by decide) (by show (2 : Nat) ≤ 36; decide) rfl rfl (.inr ⟨_, rfl⟩) fun E hE => ?_
 try unfold uX at aa
 obtain ⟨g0, aa⟩ := gdE aa
 obtain ⟨g1, aa⟩ := gdE aa
 refine yJ X0 hC uL [1,1] [] [3,5] (fun z : List Int => jM z = some r0) (fun z => WA u0 u1 u2 x_ z) [(0, .d (eSl 5 false (zc F7_ zH zF) bq)), (3, .own (.box (.agg [.opq (vo u0 (zq (eI .i64) eB x_.states_)), .opq (vo u1 (zq F0_ eB x_.edges_)), .opq (vo u2 (zq zH eB x_.pairs_))]))), (5, .own (eOs 1 true (eI .u64) (List.replicate (w64 ((w64 (Int.tdiv ((bq.length : Nat) : Int) 64)) + 1)).toNat (0 : Int))))] [Ha (lnM (zc F7_ zH zF) bq), Hn g0, Hn (rL g1), Ha (rM 1 (eI .u64) (w64 ((w64 (Int.tdiv ((bq.length : Nat) : Int) 64)) + 1)) (0 : Int)), Hh (.cut 0)] ?_ fun J1 az => ?_
 ·rintro out aa
  unfold jM at aa
  obtain rfl := zi aa
  exact yF X0 hC .ret [(3, .own (.box (.agg [.opq (vo u0 (zq (eI .i64) eB x_.states_)), .opq (vo u1 (zq F0_ eB x_.edges_)), .opq (vo u2 (zq zH eB x_.pairs_))]))), (4, .d (eSl 1 true (eI .u64) out))] [Hh (.n 0 [5]), Hm (shM (eI .u64) (eI .u64) out)] fun st0 h0 => hE _ st0 (.inr rfl) (JK h0 rfl rfl) (z5S (zd4 h0 rfl rfl))
 ·obtain ⟨t2, ht2, aa⟩ := zl aa
  refine yL X0 hC uL [1,1,2,1,0] [J1] (fun s => jL bq x_ s.1 s.2) (fun x => Wy u0 u1 u2 bq x_ x.1 x.2) ((List.replicate (w64 ((w64 (Int.tdiv ((bq.length : Nat) : Int) 64)) + 1)).toNat (0 : Int)), 0) ht2  [Ha (lnM (zc F7_ zH zF) bq)] ?_
  rintro ⟨ai, db⟩ m2 bh ae hl1 J2 a8
  try unfold jL at ae
  rcases y6 ae with ⟨c0, ae⟩ | ⟨c0, ae⟩
  ·refine yJ X0 hC uL [1,1,2,1,0,0,1,1] [J1, J2] [3,5,13,14,15] (fun z : List Int => uI db z = some bh) (fun z => Wz u0 u1 u2 bq x_ db z) [(3, .own (.box (.agg [.opq (vo u0 (zq (eI .i64) eB x_.states_)), .opq (vo u1 (zq F0_ eB x_.edges_)), .opq (vo u2 (zq zH eB x_.pairs_))]))), (5, .own (eOs 1 true (eI .u64) ai)), (13, .d (eSl 5 false (zc F7_ zH zF) bq)), (14, .d (I ((bq.length : Nat) : Int))), (15, .d (I db))] [Hq c0, Hh (.cut 0)] ?_ fun J3 bz => ?_
   ·rintro ay ae
    unfold uI at ae
    obtain rfl := zi ae
    exact yB X0 hC a8 (ay, w64 (db + 1)) hl1 []
   ·obtain ⟨fc, h0, ae⟩ := zl ae
    obtain ⟨r_, h1, ae⟩ := zl ae
    let Z0 : List HO := [Hi (zc F7_ zH zF) h0, Hn (⟨rfl, leP (show VU [] [] from inferInstance), leP (show VU [] [] from inferInstance), rfl, rfl⟩ : ([zF fc.has_] : List A) = [zF fc.has_] ∧ LeP [] [] ∧ LeP [] [] ∧ T.als 3 [.deref] 0 0 = T.als 3 [.deref] 0 0 ∧ (some (.agg [.opq (vo u0 (zq (eI .i64) eB x_.states_)), .opq (vo u1 (zq F0_ eB x_.edges_)), .opq (vo u2 (zq zH eB x_.pairs_))]) : Option A) = some (.agg [.opq (vo u0 (zq (eI .i64) eB x_.states_)), .opq (vo u1 (zq F0_ eB x_.edges_)), .opq (vo u2 (zq zH eB x_.pairs_))]))]
    rcases y6 ae with ⟨c1, ae⟩ | ⟨c1, ae⟩
    ·obtain ⟨g2, ae⟩ := gdE ae
     obtain ⟨dh, h2, ae⟩ := zl ae
     obtain ⟨g3, ae⟩ := gdE ae
     obtain ⟨g4, ae⟩ := gdE ae
     obtain ⟨d9, h3, ae⟩ := zl ae
     exact yB ((zgo Tryz.prog).or ((zhE Tryz.prog).or ((Yp (P := Tryz.prog) wm 3 0 [.deref] (fa := zF fc.has_) (r := B r_) (xl := []) (xr := []) (qs := [(vo u0 (zq (eI .i64) eB x_.states_)), (vo u1 (zq F0_ eB x_.edges_)), (vo u2 (zq zH eB x_.pairs_))]) (qs' := [(vo u0 (zq (eI .i64) eB x_.states_)), (vo u1 (zq F0_ eB x_.edges_)), (vo u2 (zq zH eB x_.pairs_))]) (es := [(zq (eI .i64) eB x_.states_), (zq F0_ eB x_.edges_), (zq zH eB x_.pairs_)]) (es' := [(zq (eI .i64) eB x_.states_), (zq F0_ eB x_.edges_), (zq zH eB x_.pairs_)]) (.inr rfl) (z4z (by kernel_rfl)) (.cons (ZF u0 (zq (eI .i64) eB x_.states_)) (.cons (ZF u1 (zq F0_ eB x_.edges_)) (.cons (ZF u2 (zq zH eB x_.pairs_)) (.nil)))) (fun us hu => Yt hC _ _ _ h1 us hu) (some 23)).or X0))) hC bz (ai.set (w64 (Int.tdiv db 64)).toNat (orK .u64 dh (z94 .u64 1 (Int.tmod db 64)))) ae (Z0 ++ [Hq c1, Hn g2, Hn (iL (eI .u64) h2), Hs (iM (eI .u64) h2), Hn g3, Hn g4, Hn (iL (eI .u64) h3), Hs (iM (eI .u64) h3), Hs (iM (eI .u64) h3), Hl (sM (eI .u64) ai (w64 (Int.tdiv db 64)) (orK .u64 dh (z94 .u64 1 (Int.tmod db 64))))])
    ·exact yB ((Yp (P := Tryz.prog) wm 3 0 [.deref] (fa := zF fc.has_) (r := B r_) (xl := []) (xr := []) (qs := [(vo u0 (zq (eI .i64) eB x_.states_)), (vo u1 (zq F0_ eB x_.edges_)), (vo u2 (zq zH eB x_.pairs_))]) (qs' := [(vo u0 (zq (eI .i64) eB x_.states_)), (vo u1 (zq F0_ eB x_.edges_)), (vo u2 (zq zH eB x_.pairs_))]) (es := [(zq (eI .i64) eB x_.states_), (zq F0_ eB x_.edges_), (zq zH eB x_.pairs_)]) (es' := [(zq (eI .i64) eB x_.states_), (zq F0_ eB x_.edges_), (zq zH eB x_.pairs_)]) (.inr rfl) (z4z (by kernel_rfl)) (.cons (ZF u0 (zq (eI .i64) eB x_.states_)) (.cons (ZF u1 (zq F0_ eB x_.edges_)) (.cons (ZF u2 (zq zH eB x_.pairs_)) (.nil)))) (fun us hu => Yt hC _ _ _ h1 us hu) (some 23)).or X0) hC bz ai ae (Z0 ++ [Hq c1])
  ·obtain rfl := zi ae
   obtain rfl := hl1
   exact yB X0 hC az ai aa [Hq c0]
def w7 : Code := (Tryz.f54.body).getD .skip
def yS : yj := spF (α := List Int × List Int) (ρ := Bool) 54 (fun x => [F8_ x.1, F8_ x.2]) (fun r => eB r) (fun x => wD x.1 x.2) [] (Ur)
abbrev jq : List (Nat × T) := []
abbrev jp (s1 : List Int) (s2 : List Int) (fz : Int) : List (Nat × T) := [(0, .d (eSl 1 false (eI .u64) s1)), (1, .d (eSl 1 false (eI .u64) s2)), (12, .d (I ((s1.length : Nat) : Int))), (13, .d (I fz))]
theorem kL (hC : zM Tryz.prog ctr) : yS.Ok Tryz.prog := by
 refine zS ?_
 rintro ⟨s1, s2⟩ r0 aa
 try unfold wD at aa
 refine yO true [(4, none)] w7 26 Tryz.func54 fun E hE => ?_
 let Z0 : List HO := [Ha (lnM (eI .u64) s1), Ha (lnM (eI .u64) s2)]
 rcases y6 aa with ⟨c0, aa⟩ | ⟨c0, aa⟩
 ·obtain rfl := zi aa
  exact yE X0 hC hE (Z0 ++ [Hq c0])
 ·refine yJ X0 hC w7 [1,1] [] [] (fun z : Unit => w6 = some r0) (fun z => jq) [(0, .d (eSl 1 false (eI .u64) s1)), (1, .d (eSl 1 false (eI .u64) s2))] (Z0 ++ [Hq c0, Hh (.cut 0)]) ?_ fun J1 az => ?_
  ·rintro ⟨⟩ aa
   unfold w6 at aa
   obtain rfl := zi aa
   exact yE X0 hC hE []
  ·obtain ⟨t2, ht2, aa⟩ := zl aa
   refine yL X0 hC w7 [1,1,2,1,0] [J1] (fun s => xZ s1 s2 s) (fun x => jp s1 s2 x) 0 ht2  [Ha (lnM (eI .u64) s1)] ?_
   rintro fz m2 bh ae hl1 J2 a8
   try unfold xZ at ae
   rcases y6 ae with ⟨c1, ae⟩ | ⟨c1, ae⟩
   ·obtain ⟨gm, h0, ae⟩ := zl ae
    obtain ⟨ft, h1, ae⟩ := zl ae
    let Z1 : List HO := [Hq c1, Hi (eI .u64) h0, Hi (eI .u64) h1]
    rcases y6 ae with ⟨c2, ae⟩ | ⟨c2, ae⟩
    ·obtain rfl := zi ae
     obtain rfl := hl1
     obtain rfl := zi aa
     exact yE X0 hC hE (Z1 ++ [Hq c2])
    ·obtain rfl := zi ae
     exact yB X0 hC a8 (w64 (fz + 1)) hl1 (Z1 ++ [Hq c2])
   ·obtain rfl := zi ae
    obtain rfl := hl1
    exact yB X0 hC az () aa [Hq c1]
def kD : Code := (Tryz.f55.body).getD .skip
def yT : yj := spF (α := List Int) (ρ := List Int) 55 (fun x => [F8_ x]) (fun r => (eOs 1 false (eI .u64)) r) (fun x => wF x) [] (Kz)
theorem kM (hC : zM Tryz.prog ctr) : yT.Ok Tryz.prog := by
 refine zS ?_
 rintro s_ r0 aa
 try unfold wF at aa
 refine yO true [(2, none)] kD 8 Tryz.func55 fun E hE => ?_
 refine z3b rfl 0 (sz := 1) (t := false) (es := s_.map (eI .u64)) (by kernel_rfl) fun a6 hv0 hn => ?_
 rcases hn with ⟨hn0, he0⟩ | hn0
 ·obtain ⟨_, aa⟩ := gdE aa
  rw [show s_ = [] from List.map_eq_nil_iff.1 he0] at aa
  obtain rfl := zi aa
  exact yEx ((zbw zD 4 91 (by kernel_rfl) hn0).or ((xMv Tryz.prog 3 0 a6 hv0).or X0)) hC hE [Hn (rfl : some a6 = some a6), Hn (⟨rfl, rfl⟩ : T.d (.atom a6) = T.d (.atom a6) ∧ T.d (.atom (.slice none 0 0)) = T.d (.atom (.slice none 0 0))), qT] (eOs 1 true (eI .u64) []) (show LeV (eOs 1 true (eI .u64) []) (eOs 1 false (eI .u64) ([] : List Int)) from inferInstance)
 ·obtain ⟨g0, aa⟩ := gdE aa
  obtain rfl := zi aa
  exact yE ((zbw zD 4 91 (by kernel_rfl) hn0).or ((xMv Tryz.prog 3 0 a6 hv0).or X0)) hC hE [Hn (rfl : some a6 = some a6), Hn (⟨rfl, rfl⟩ : T.d (.atom a6) = T.d (.atom a6) ∧ T.d (.atom (.slice none 0 0)) = T.d (.atom (.slice none 0 0))), qF, Hn (dM (eI .u64) s_), Hn (aL (eI .u64) (eI .u64) g0), Hl (aM0 (eI .u64) s_)]
def yd : Code := (Tryz.f38.body).getD .skip
def wp : yj := spF (α := zz × List Int × Int × Int) (ρ := List Int × Bool) 38 (fun x => [zey x.1, F8_ x.2.1, (eI .i64) x.2.2.1, (eI .i64) x.2.2.2]) (fun r => .tup [F7_ r.1, eB r.2]) (fun x => qH x.1 x.2.1 x.2.2.1 x.2.2.2) [] (zhk)
abbrev ko : List (Nat × T) := []
abbrev kn (c_ : zz) (bv : List Int) (many : Int) (i_ : Int) : List (Nat × T) := [(0, .d (.sptr (z9B c_))), (1, .d (eSl 1 false (eI .u64) bv)), (3, .d (I many)), (10, .d (I i_))]
abbrev km (c_ : zz) (bv : List Int) (many : Int) (i_ : Int) (em : List Int) : List (Nat × T) := [(0, .d (.sptr (z9B c_))), (1, .d (eSl 1 false (eI .u64) bv)), (3, .d (I many)), (10, .d (I i_)), (11, .own (eOs 1 false (eI .u64) em))]
abbrev kj (c_ : zz) (bv : List Int) (many : Int) (i_ : Int) (cu : List Int) (dl : List Int) (de : Int) : List (Nat × T) := [(0, .d (.sptr (z9B c_))), (1, .d (eSl 1 false (eI .u64) bv)), (3, .d (I many)), (10, .d (I i_)), (11, .own (eOs 1 false (eI .u64) dl)), (44, .d (eSl 1 false (eI .u64) cu)), (45, .d (I ((cu.length : Nat) : Int))), (46, .d (I de))]
abbrev kl (c_ : zz) (bv : List Int) (many : Int) (i_ : Int) : List (Nat × T) := [(0, .d (.sptr (z9B c_))), (1, .d (eSl 1 false (eI .u64) bv)), (3, .d (I many)), (10, .d (I i_))]
theorem jB : ∀ (x y : zz × List Int × Int × Int), (fun x => [zey x.1, F8_ x.2.1, (eI .i64) x.2.2.1, (eI .i64) x.2.2.2]) x = (fun x => [zey x.1, F8_ x.2.1, (eI .i64) x.2.2.1, (eI .i64) x.2.2.2]) y → x = y := zhk
def xY (dp : zz → (List Int) → Int → Int → Option (List Int × Bool)) : yj := spF (α := zz × List Int × Int × Int) (ρ := List Int × Bool) 38 (fun x => [zey x.1, F8_ x.2.1, (eI .i64) x.2.2.1, (eI .i64) x.2.2.2]) (fun r => .tup [F7_ r.1, eB r.2]) (fun x => dp x.1 x.2.1 x.2.2.1 x.2.2.2) [] (by
 intro x y h
 exact (congrArg (fun (p : zz × List Int × Int × Int) => p) (show x = y from jB x y h)))
theorem kO (hC : zM Tryz.prog ctr) (h0l : ctr.Has yS) (h0m : ctr.Has yT) (dp : zz → (List Int) → Int → Int → Option (List Int × Bool)) (h0c : ctr.Has (xY dp)) : (xY (wI dp)).Ok Tryz.prog := by
 refine zS ?_
 rintro ⟨c_, bv, from_, many⟩ r0 aa
 try unfold wI at aa
 refine yO false [(8, none), (9, none)] yd 74 Tryz.func38 fun E hE => ?_
 rcases y6 aa with ⟨c0, aa⟩ | ⟨c0, aa⟩
 ·obtain ⟨r_, h0, aa⟩ := zl aa
  obtain rfl := zi aa
  exact yEx X0 hC hE [Hq c0, Hc h0l (x := (bv, c_.want_)) h0 (loC F8_ bv <| loC F8_ c_.want_ <| loN), Hm (shM (eI .i64) (eI .i64) [])] (.tup [eSl 1 true (eI .i64) [], B r_]) (show LeV (.tup [eSl 1 true (eI .i64) [], B r_]) (.tup [eSl 1 false (eI .i64) ([] : List Int), B r_]) from inferInstance)
 ·refine yJ X0 hC yd [1,1] [] [] (fun z : Unit => wx = some r0) (fun z => ko) [(0, .d (.sptr (z9B c_))), (1, .d (eSl 1 false (eI .u64) bv)), (2, .d (I from_)), (3, .d (I many))] [Hq c0, Hh (.cut 0)] ?_ fun J1 az => ?_
  ·rintro ⟨⟩ aa
   unfold wx at aa
   obtain rfl := zi aa
   exact yEx X0 hC hE [Hm (shM (eI .i64) (eI .i64) [])] (.tup [eSl 1 true (eI .i64) [], B false]) (show LeV (.tup [eSl 1 true (eI .i64) [], B false]) (.tup [eSl 1 false (eI .i64) ([] : List Int), B false]) from inferInstance)
  ·obtain ⟨t2, ht2, aa⟩ := zl aa
   refine yL X0 hC yd [1,1,2,1,0] [J1] (fun s => wu c_ bv many dp s) (fun x => kl c_ bv many x) from_ ht2  [] ?_
   rintro i_ m2 bh ae hl1 J2 a8
   try unfold wu at ae
   let Z0 : List HO := [Ha (lnM F8_ c_.sets_)]
   rcases y6 ae with ⟨c1, ae⟩ | ⟨c1, ae⟩
   ·refine yJ X0 hC yd [1,1,2,1,0,0,1] [J1, J2] [0,1,3,10] (fun z : Unit => ww i_ = some bh) (fun z => kn c_ bv many i_) [(0, .d (.sptr (z9B c_))), (1, .d (eSl 1 false (eI .u64) bv)), (3, .d (I many)), (10, .d (I i_))] (Z0 ++ [Hq c1, Hh (.cut 0)]) ?_ fun J3 bz => ?_
    ·rintro ⟨⟩ ae
     unfold ww at ae
     obtain rfl := zi ae
     exact yB X0 hC a8 (w64 (i_ + 1)) hl1 []
    ·obtain ⟨ah, h1, ae⟩ := zl ae
     refine yJ X0 hC yd [1,1,2,1,0,0,1,2,0,1] [J1, J2, J3] [0,1,3,10,11] (fun z : List Int => wv c_ many dp i_ z = some bh) (fun z => km c_ bv many i_ z) [(0, .d (.sptr (z9B c_))), (1, .d (eSl 1 false (eI .u64) bv)), (3, .d (I many)), (10, .d (I i_)), (11, .own (eOs 1 false (eI .u64) ah))] [Hc h0m (x := bv) h1 (loC F8_ bv <| loN), Hh (.cut 0)] ?_ fun J4 dr => ?_
     ·rintro em ae
      unfold wv at ae
      obtain ⟨am, h2, ae⟩ := zl ae
      let Z1 : List HO := [Hg (JV h0c), Hm (shM (eI .u64) (eI .u64) em), Hs (JW h0c (x := (c_, em, w64 (i_ + 1), w64 (many - 1))) h2 (loC zey c_ <| loC F8_ em <| loC (eI .i64) (w64 (i_ + 1)) <| loC (eI .i64) (w64 (many - 1)) <| loN)), Hm (shM (eI .u64) (eI .u64) em)]
      rcases y6 ae with ⟨c2, ae⟩ | ⟨c2, ae⟩
      ·obtain ⟨g0, ae⟩ := gdE ae
       obtain rfl := zi ae
       obtain rfl := hl1
       obtain rfl := zi aa
       exact yE X0 hC hE (Z1 ++ [Hq c2, Hn (dM (eI .i64) am.1), Hn (aL (eI .i64) (eI .i64) g0), Hl (aM (eI .i64) ([i_] : List Int) am.1), Hm (shM (eI .i64) (eI .i64) (([i_]) ++ am.1))])
      ·exact yB X0 hC bz () ae (Z1 ++ [Hq c2])
     ·obtain ⟨cu, h3, ae⟩ := zl ae
      obtain ⟨t5, ht5, ae⟩ := zl ae
      refine yL X0 hC yd [1,1,2,1,0,0,1,2,0,1,2,1,0] [J1, J2, J3, J4] (fun s => wt cu s.1 s.2) (fun x => kj c_ bv many i_ cu x.1 x.2) (ah,0) ht5  [Hi F8_ h3, Ha (lnM (eI .u64) cu)] ?_
      rintro ⟨dl, de⟩ m5 fe aj hl2 J5 dg
      try unfold wt at aj
      rcases y6 aj with ⟨c3, aj⟩ | ⟨c3, aj⟩
      ·obtain ⟨ep, h4, aj⟩ := zl aj
       obtain ⟨fm, h5, aj⟩ := zl aj
       obtain ⟨ib, h6, aj⟩ := zl aj
       obtain rfl := zi aj
       exact yB ((zgo Tryz.prog).or X0) hC dg ((dl.set de.toNat (orK .u64 fm ep)), w64 (de + 1)) hl2 [Hq c3, Hi (eI .u64) h4, Hn (iL (eI .u64) h5), Hs (iM (eI .u64) h5), Hn (iL (eI .u64) h6), Hs (iM (eI .u64) h6), Hs (iM (eI .u64) h6), Hl (sM (eI .u64) dl de (orK .u64 fm ep))]
      ·obtain rfl := zi aj
       obtain rfl := hl2
       exact yB X0 hC dr dl ae [Hq c3]
   ·obtain rfl := zi ae
    obtain rfl := hl1
    exact yB X0 hC az () aa (Z0 ++ [Hq c1])
theorem ZU (hC : zM Tryz.prog ctr) (h0l : ctr.Has yS) (h0m : ctr.Has yT) : wp.Ok Tryz.prog := by
 have H : ∀ n, (xY (uM n)).Ok Tryz.prog := by
  intro n
  induction n with
  | zero => exact zS fun _ _ h => nomatch (show none = some _ from h)
  | succ n ih => exact kO (Ctr.add_ok hC ih) (h0l.add (by show (54 : Nat) ≠ 38; decide)) (h0m.add (by show (55 : Nat) ≠ 38; decide)) _ (Ctr.add_has _ _)
 exact zS fun x r h => z1v (H _) h
end Go.Own
end
