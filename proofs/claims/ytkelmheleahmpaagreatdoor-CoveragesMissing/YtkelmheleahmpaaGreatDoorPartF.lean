/- -/
import Derived.Test.YtkelmheleahmpaaGreatDoorPartE
noncomputable section
set_option linter.unusedVariables false
set_option linter.unusedSimpArgs false
namespace Go.Own
open Go.Proofs
set_option maxRecDepth 100000
set_option maxHeartbeats 8000000
def X0 : XH Tryz.prog := xB zC
theorem XZ : Tryz.prog.follows .mixedOrders = true := by kernel_rfl
variable {rs : List (Nat × Option Nat)}{σ : Type}{keep : Bool}{r : A}
section
variable {ctr : Ctr} {n : Fr} {Q : Exit → St → Prop} {c : Code} {fs : List Fm} {st : St}
theorem yE (X : XH Tryz.prog) (hC : zN Tryz.prog ctr) {E : St → Prop}    (hE : ∀ st x R U, z59 wt keep rs st = some (x, R, U) → LeV x r → E st) (L : List HO) (e : zbh X wt ctr n keep rs 4000 c fs st (hoH L) = some (r, hoO L) := by kernel_rfl) : AWP Tryz.prog n c st (Qf Tryz.prog n fs (z4t E)) := yE6 X zC hC XZ hE L e
theorem yEx (X : XH Tryz.prog) (hC : zN Tryz.prog ctr) {E : St → Prop}    (hE : ∀ st x R U, z59 wt keep rs st = some (x, R, U) → LeV x r → E st) (L : List HO) (x : A) (hle : LeV x r) (e : zbh X wt ctr n keep rs 4000 c fs st (hoH L) = some (x, hoO L) := by kernel_rfl) : AWP Tryz.prog n c st (Qf Tryz.prog n fs (z4t E)) := zht X zC hC XZ hE L x hle e
theorem yB (X : XH Tryz.prog) (hC : zN Tryz.prog ctr) {τ : Type} {J : St → Prop} {live : List Nat} {S : τ → List (Nat × T)} {Inv : τ → Prop} (hJ : ∀ st' l' z, Inv z → Own.canon live st' = ofL l' → LeL l' (S z) → J st') (z : τ) (hz : Inv z) (L : List HO) (e : z12 X wt ctr n live 4000 c fs st (hoH L) = some (.back J, ofL (S z), hoO L) := by kernel_rfl) : AWP Tryz.prog n c st (Qf Tryz.prog n fs Q) := yB6 X zC hC XZ hJ z hz L e
theorem yA (X : XH Tryz.prog) (hC : zN Tryz.prog ctr) (bd : Code) (path : List Nat) (Js : List (St → Prop)) (l : List (Nat × T)) (L : List HO) (h : AWP Tryz.prog n (sub path bd) (ofL l) (Qf Tryz.prog n (frs path Js bd []) Q)) (e : z12 X wt ctr n (WU l) 4000 c fs st (hoH L) = some (.at (sub path bd) (frs path Js bd []), ofL l, hoO L) := by kernel_rfl) : AWP Tryz.prog n c st (Qf Tryz.prog n fs Q) := yA6 X zC hC XZ bd path Js l L e h
theorem yAt (X : XH Tryz.prog) (hC : zN Tryz.prog ctr) (c' : Code) (fs' : List Fm) (l : List (Nat × T)) (L : List HO) (h : ∀ st0, Own.canon (WU l) st0 = ofL l → AWP Tryz.prog n c' st0 (Qf Tryz.prog n fs' Q)) (e : z12 X wt ctr n (WU l) 4000 c fs st (hoH L) = some (.at c' fs', ofL l, hoO L) := by kernel_rfl) : AWP Tryz.prog n c st (Qf Tryz.prog n fs Q) := zhu X zC hC XZ c' fs' l L e h
theorem yLx (X : XH Tryz.prog) (hC : zN Tryz.prog ctr) (bd : Code) (path : List Nat) (Js : List (St → Prop)) {σ τ : Type} (f : σ → Option (LR σ τ)) (S : σ → List (Nat × T)) (x0 : σ) {t : τ} (ht : loop f x0 = some t) (l : List (Nat × T)) (hl : LeL l (S x0)) (L : List HO) (round : ∀ x m lr, f x = some lr → zeA f m t lr → ∀ J : St → Prop, (∀ st' l' x', WT f m x' = some t → Own.canon (WU l) st' = ofL l' → LeL l' (S x') → J st') → AWP Tryz.prog n (sub (path ++ [0]) bd) (ofL (S x)) (Qf Tryz.prog n (.pre J :: frs path Js bd []) Q)) (e : z12 X wt ctr n (WU l) 4000 c fs st (hoH L) = some (.at (sub path bd) (frs path Js bd []), ofL l, hoO L) := by kernel_rfl) (e2 : sub path bd = .loop (sub (path ++ [0]) bd) := by kernel_rfl) (hk : ∀ x, WU (S x) = WU l := by exact fun _ => rfl) : AWP Tryz.prog n c st (Qf Tryz.prog n fs Q) := yL6 X zC hC XZ bd path Js f S x0 ht l hl L hk e e2 round
theorem yL (X : XH Tryz.prog) (hC : zN Tryz.prog ctr) (bd : Code) (path : List Nat) (Js : List (St → Prop)) {σ τ : Type} (f : σ → Option (LR σ τ)) (S : σ → List (Nat × T)) (x0 : σ) {t : τ} (ht : loop f x0 = some t) (L : List HO) (round : ∀ x m lr, f x = some lr → zeA f m t lr → ∀ J : St → Prop, (∀ st' l' x', WT f m x' = some t → Own.canon (WU (S x0)) st' = ofL l' → LeL l' (S x') → J st') → AWP Tryz.prog n (sub (path ++ [0]) bd) (ofL (S x)) (Qf Tryz.prog n (.pre J :: frs path Js bd []) Q)) (e : z12 X wt ctr n (WU (S x0)) 4000 c fs st (hoH L) = some (.at (sub path bd) (frs path Js bd []), ofL (S x0), hoO L) := by kernel_rfl) (e2 : sub path bd = .loop (sub (path ++ [0]) bd) := by kernel_rfl) (hk : ∀ x, WU (S x) = WU (S x0) := by exact fun _ => rfl) : AWP Tryz.prog n c st (Qf Tryz.prog n fs Q) := yL6 X zC hC XZ bd path Js f S x0 ht _ (LeL.refl _) L hk e e2 round
theorem yJ (X : XH Tryz.prog) (hC : zN Tryz.prog ctr) (bd : Code) (path : List Nat) (Js : List (St → Prop))  (live : List Nat) (Inv : σ → Prop) (S : σ → List (Nat × T)) (l : List (Nat × T)) (L : List HO) (h1 : ∀ z, Inv z → AWP Tryz.prog n (sub (path ++ [1]) bd) (ofL (S z)) (Qf Tryz.prog n (frs path Js bd []) Q)) (h2 : ∀ J : St → Prop, (∀ st' l' z, Inv z → Own.canon live st' = ofL l' → LeL l' (S z) → J st') → AWP Tryz.prog n (sub (path ++ [2]) bd) (ofL l) (Qf Tryz.prog n (.pre J :: frs path Js bd []) Q)) (e : z12 X wt ctr n (WU l) 4000 c fs st (hoH L) = some (.at (sub path bd) (frs path Js bd []), ofL l, hoO L) := by kernel_rfl) (e2 : sub path bd = .seq (sub (path ++ [2]) bd) (sub (path ++ [1]) bd) := by kernel_rfl) : AWP Tryz.prog n c st (Qf Tryz.prog n fs Q) := yJ6 X zC hC XZ bd path Js live Inv S l L e e2 h1 h2
theorem yF (X : XH Tryz.prog) (hC : zN Tryz.prog ctr) (ex : Exit) (l : List (Nat × T)) (L : List HO) (h : ∀ st0, Own.canon (WU l) st0 = ofL l → Q ex st0) (e : z12 X wt ctr n (WU l) 4000 c fs st (hoH L) = some (.fin ex, ofL l, hoO L) := by kernel_rfl) : AWP Tryz.prog n c st (Qf Tryz.prog n fs Q) := yF6 X zC hC XZ ex l L e h
theorem yO {k : Nat} {fn : Func}  {ls : List A} (keep : Bool) (rs : List (Nat × Option Nat)) (body : Code) (nt : Nat) (hf : Tryz.prog.funcs[k]? = some fn) (h : ∀ E : St → Prop, (∀ st x R U, z59 wt keep rs st = some (x, R, U) → LeV x r → E st) → AWP Tryz.prog ⟨nt, []⟩ body (ofL (z5M 0 ls)) (Qf Tryz.prog ⟨nt, []⟩ [] (z4t E))) (hb : fn.body = some body := by kernel_rfl) (hn : nt = fn.ntmps := by exact rfl) (hr : fn.results = (rs.map z1h).toArray := by exact rfl) (hnm : (fn.name == "runtime.NumGoroutine") = false := by exact rfl) (ha : Nat.ble ls.length nt = true := by kernel_rfl) : Xs Tryz.prog k ls r := yO6 zC keep rs body nt hf hb hn hr hnm ha h
end
theorem z7C : z3V Tryz.prog 67 3 4 (JG .i64) (.atom (.bool false)) := z7F Tryz.underlying67 Tryz.underlying3 ⟨.bool false, fun w => z06 (f := Tryz.t4) (by kernel_rfl) rfl w, fun S => wY.2 ⟨rfl, rfl⟩⟩ rfl
theorem zax : z3V Tryz.prog 68 34 4 (Vw [.i64, .i64]) (.atom (.bool false)) := z3v Tryz.underlying68 _ Tryz.underlying34 (Go.Ex.z92.eqn rfl) (z4H.eqn rfl) rfl ⟨.bool false, fun w => z06 (f := Tryz.t4) (by kernel_rfl) rfl w, fun S => wY.2 ⟨rfl, rfl⟩⟩ rfl
theorem zaw : z3V Tryz.prog 69 61 4 (Vw [.i64, .i64, .i64]) (.atom (.bool false)) := z3v Tryz.underlying69 _ Tryz.underlying61 (Go.Ex.z91.eqn rfl) (z4G.eqn rfl) rfl ⟨.bool false, fun w => z06 (f := Tryz.t4) (by kernel_rfl) rfl w, fun S => wY.2 ⟨rfl, rfl⟩⟩ rfl
theorem z80 : z3X Tryz.prog 105 0 3 0 := z5X Tryz.underlying105 _ rfl rfl rfl
theorem zeO : zbb Tryz.prog 66 1 false := z7e zC (t := 51) Tryz.so66 rfl rfl (by kernel_rfl) (by decide)
def va : Code := (Tryz.f20.body).getD .skip
def YT : yf := spF (α := yh) (ρ := z6) 20 (fun x => [Kx x]) (fun r => yj r) (fun x => Yz x) [] (Ke)
abbrev Qv (x_ : yh) (fk : List (List ze)) : List (Nat × T) := [(2, .own (.box (.agg [I 0, I 0, eOs 1 true ue []]))), (4, .own (.box (.agg [I (w64 (1 + (w64 (Int.tmod x_.Inputs 3)))), I (w64 (1 + (w64 (Int.tmod x_.Outputs 3)))), eOs 1 false z14 fk])))]
abbrev Qu (x_ : yh) (s_ : Int) (ff : List (List ze)) : List (Nat × T) := [(1, .own (.box (Kx x_))), (2, .own (.box (.agg [I 0, I 0, eOs 1 true ue []]))), (3, .d (I (w64 (1 + (w64 (Int.tmod x_.States 6)))))), (4, .own (.box (.agg [I (w64 (1 + (w64 (Int.tmod x_.Inputs 3)))), I (w64 (1 + (w64 (Int.tmod x_.Outputs 3)))), eOs 1 false z14 ff]))), (5, .d (I s_))]
abbrev Qt (x_ : yh) (bc : List (List ze)) (s_ : Int) (row : List ze) : List (Nat × T) := [(1, .own (.box (Kx x_))), (2, .own (.box (.agg [I 0, I 0, eOs 1 true ue []]))), (3, .d (I (w64 (1 + (w64 (Int.tmod x_.States 6)))))), (4, .own (.box (.agg [I (w64 (1 + (w64 (Int.tmod x_.Inputs 3)))), I (w64 (1 + (w64 (Int.tmod x_.Outputs 3)))), eOs 1 false z14 bc]))), (5, .d (I s_)), (6, .own (eOs 2 false F9_ row))]
abbrev Qs (x_ : yh) (bc : List (List ze)) (s_ : Int) (i_ : Int) (gk : List ze) : List (Nat × T) := [(1, .own (.box (Kx x_))), (2, .own (.box (.agg [I 0, I 0, eOs 1 true ue []]))), (3, .d (I (w64 (1 + (w64 (Int.tmod x_.States 6)))))), (4, .own (.box (.agg [I (w64 (1 + (w64 (Int.tmod x_.Inputs 3)))), I (w64 (1 + (w64 (Int.tmod x_.Outputs 3)))), eOs 1 false z14 bc]))), (5, .d (I s_)), (6, .own (eOs 2 false F9_ gk)), (7, .d (I i_))]
abbrev Qr (x_ : yh) (bc : List (List ze)) (s_ : Int) (cj : List ze) (i_ : Int) (v_ : Int) : List (Nat × T) := [(1, .own (.box (Kx x_))), (2, .own (.box (.agg [I 0, I 0, eOs 1 true ue []]))), (3, .d (I (w64 (1 + (w64 (Int.tmod x_.States 6)))))), (4, .own (.box (.agg [I (w64 (1 + (w64 (Int.tmod x_.Inputs 3)))), I (w64 (1 + (w64 (Int.tmod x_.Outputs 3)))), eOs 1 false z14 bc]))), (5, .d (I s_)), (6, .own (eOs 2 false F9_ cj)), (7, .d (I i_)), (8, .d (I v_))]
abbrev Qp (x_ : yh) (bc : List (List ze)) (s_ : Int) (cj : List ze) (i_ : Int) : List (Nat × T) := [(1, .own (.box (Kx x_))), (2, .own (.box (.agg [I 0, I 0, eOs 1 true ue []]))), (3, .d (I (w64 (1 + (w64 (Int.tmod x_.States 6)))))), (4, .own (.box (.agg [I (w64 (1 + (w64 (Int.tmod x_.Inputs 3)))), I (w64 (1 + (w64 (Int.tmod x_.Outputs 3)))), eOs 1 false z14 bc]))), (5, .d (I s_)), (6, .own (eOs 2 false F9_ cj)), (7, .d (I i_))]
abbrev Qq (x_ : yh) (bc : List (List ze)) (s_ : Int) : List (Nat × T) := [(1, .own (.box (Kx x_))), (2, .own (.box (.agg [I 0, I 0, eOs 1 true ue []]))), (3, .d (I (w64 (1 + (w64 (Int.tmod x_.States 6)))))), (4, .own (.box (.agg [I (w64 (1 + (w64 (Int.tmod x_.Inputs 3)))), I (w64 (1 + (w64 (Int.tmod x_.Outputs 3)))), eOs 1 false z14 bc]))), (5, .d (I s_))]
variable {ctr : Ctr}
theorem z1d (hC : zN Tryz.prog ctr) : YT.Ok Tryz.prog := by
 refine zU ?_
 rintro x_ r0 aa
 try unfold Yz at aa
 refine yO false [(2, some 30)] va 87 Tryz.func20 fun E hE => ?_
 obtain ⟨g0, aa⟩ := gdE aa
 obtain ⟨g1, aa⟩ := gdE aa
 obtain ⟨g2, aa⟩ := gdE aa
 refine yJ X0 hC va [1,1,1] [] [2,4] (fun z : List (List ze) => kR x_ z = some r0) (fun z => Qv x_ z) [(1, .own (.box (Kx x_))), (2, .own (.box (.agg [I 0, I 0, eOs 1 true ue []]))), (3, .d (I (w64 (1 + (w64 (Int.tmod x_.States 6)))))), (4, .own (.box (.agg [I (w64 (1 + (w64 (Int.tmod x_.Inputs 3)))), I (w64 (1 + (w64 (Int.tmod x_.Outputs 3)))), eOs 1 true ue []])))] [Hn g0, Hn g1, Hn g2, Hh (.cut 3)] ?_ fun J1 ay => ?_
 ·rintro fk aa
  unfold kR at aa
  obtain rfl := zi aa
  exact yE X0 hC hE [Hm (shM z14 ue fk)]
 ·obtain ⟨t2, ht2, aa⟩ := zk aa
  refine yLx X0 hC va [1,1,1,2,1,0] [J1] (fun s => kO x_ s.1 s.2) (fun x => Qq x_ x.1 x.2) (([] : List (List ze)), 0) ht2 [(1, .own (.box (Kx x_))), (2, .own (.box (.agg [I 0, I 0, eOs 1 true ue []]))), (3, .d (I (w64 (1 + (w64 (Int.tmod x_.States 6)))))), (4, .own (.box (.agg [I (w64 (1 + (w64 (Int.tmod x_.Inputs 3)))), I (w64 (1 + (w64 (Int.tmod x_.Outputs 3)))), eOs 1 true z14 []]))), (5, .d (I 0))] inferInstance [] ?_
  rintro ⟨bc, s_⟩ m2 bi ae hl1 J2 a6
  try unfold kO at ae
  rcases y4 ae with ⟨c0, ae⟩ | ⟨c0, ae⟩
  ·refine yJ X0 hC va [1,1,1,2,1,0,0,1] [J1, J2] [1,2,3,4,5] (fun z : List (List ze) => kQ s_ z = some bi) (fun z => Qu x_ s_ z) [(1, .own (.box (Kx x_))), (2, .own (.box (.agg [I 0, I 0, eOs 1 true ue []]))), (3, .d (I (w64 (1 + (w64 (Int.tmod x_.States 6)))))), (4, .own (.box (.agg [I (w64 (1 + (w64 (Int.tmod x_.Inputs 3)))), I (w64 (1 + (w64 (Int.tmod x_.Outputs 3)))), eOs 1 false z14 bc]))), (5, .d (I s_))] [Hq c0, Hh (.cut 0)] ?_ fun J3 ca => ?_
   ·rintro ff ae
    unfold kQ at ae
    obtain rfl := zi ae
    exact yB X0 hC a6 (ff, w64 (s_ + 1)) hl1 []
   ·refine yJ X0 hC va [1,1,1,2,1,0,0,1,2,0,1] [J1, J2, J3] [1,2,3,4,5,6] (fun z : List ze => kP bc s_ z = some bi) (fun z => Qt x_ bc s_ z) [(1, .own (.box (Kx x_))), (2, .own (.box (.agg [I 0, I 0, eOs 1 true ue []]))), (3, .d (I (w64 (1 + (w64 (Int.tmod x_.States 6)))))), (4, .own (.box (.agg [I (w64 (1 + (w64 (Int.tmod x_.Inputs 3)))), I (w64 (1 + (w64 (Int.tmod x_.Outputs 3)))), eOs 1 false z14 bc]))), (5, .d (I s_)), (6, .own (eOs 2 true F9_ []))] [Hh (.cut 1)] ?_ fun J4 dv => ?_
    ·rintro row ae
     unfold kP at ae
     obtain ⟨g3, ae⟩ := gdE ae
     exact yB X0 hC ca (bc ++ ([row] : List (List ze))) ae [Hq (oC z14 row []), Hn (aL z14 z14 g3), Hl (aM z14 bc ([row] : List (List ze)))]
    ·obtain ⟨t5, ht5, ae⟩ := zk ae
     refine yLx X0 hC va [1,1,1,2,1,0,0,1,2,0,1,2,1,0] [J1, J2, J3, J4] (fun s => qY x_ s_ s.1 s.2) (fun x => Qp x_ bc s_ x.1 x.2) (([] : List ze), 0) ht5 [(1, .own (.box (Kx x_))), (2, .own (.box (.agg [I 0, I 0, eOs 1 true ue []]))), (3, .d (I (w64 (1 + (w64 (Int.tmod x_.States 6)))))), (4, .own (.box (.agg [I (w64 (1 + (w64 (Int.tmod x_.Inputs 3)))), I (w64 (1 + (w64 (Int.tmod x_.Outputs 3)))), eOs 1 false z14 bc]))), (5, .d (I s_)), (6, .own (eOs 2 true F9_ [])), (7, .d (I 0))] inferInstance [] ?_
     rintro ⟨cj, i_⟩ m5 fh aj hl2 J5 dh
     try unfold qY at aj
     rcases y4 aj with ⟨c1, aj⟩ | ⟨c1, aj⟩
     ·refine yJ X0 hC va [1,1,1,2,1,0,0,1,2,0,1,2,1,0,0,1] [J1, J2, J3, J4, J5] [1,2,3,4,5,6,7] (fun z : List ze => qZ i_ z = some fh) (fun z => Qs x_ bc s_ i_ z) [(1, .own (.box (Kx x_))), (2, .own (.box (.agg [I 0, I 0, eOs 1 true ue []]))), (3, .d (I (w64 (1 + (w64 (Int.tmod x_.States 6)))))), (4, .own (.box (.agg [I (w64 (1 + (w64 (Int.tmod x_.Inputs 3)))), I (w64 (1 + (w64 (Int.tmod x_.Outputs 3)))), eOs 1 false z14 bc]))), (5, .d (I s_)), (6, .own (eOs 2 false F9_ cj)), (7, .d (I i_))] [Hq c1, Hh (.cut 0)] ?_ fun J6 d8 => ?_
      ·rintro gk aj
       unfold qZ at aj
       obtain rfl := zi aj
       exact yB X0 hC dh (gk, w64 (i_ + 1)) hl2 []
      ·refine yJ X0 hC va [1,1,1,2,1,0,0,1,2,0,1,2,1,0,0,1,2,0,1] [J1, J2, J3, J4, J5, J6] [1,2,3,4,5,6,7,8] (fun z : Int => vS x_ cj i_ z = some fh) (fun z => Qr x_ bc s_ cj i_ z) [(1, .own (.box (Kx x_))), (2, .own (.box (.agg [I 0, I 0, eOs 1 true ue []]))), (3, .d (I (w64 (1 + (w64 (Int.tmod x_.States 6)))))), (4, .own (.box (.agg [I (w64 (1 + (w64 (Int.tmod x_.Inputs 3)))), I (w64 (1 + (w64 (Int.tmod x_.Outputs 3)))), eOs 1 false z14 bc]))), (5, .d (I s_)), (6, .own (eOs 2 false F9_ cj)), (7, .d (I i_)), (8, .d (I 0))] [Hh (.cut 1)] ?_ fun J7 fp => ?_
       ·rintro v_ aj
        unfold vS at aj
        rcases y4 aj with ⟨c2, aj⟩ | ⟨c2, aj⟩
        ·obtain ⟨g4, aj⟩ := gdE aj
         let Z0 : List HO := [Hq c2, Hq c2, Hn g4, Hq c2, Hq c2]
         rcases y4 aj with ⟨c3, aj⟩ | ⟨c3, aj⟩
         ·obtain ⟨g5, aj⟩ := gdE aj
          exact yB X0 hC d8 (cj ++ ([(ze.mk (-1) (-1))] : List ze)) aj (Z0 ++ [Hq c3, Hq (dM F9_ ([(ze.mk (-1) (-1))] : List ze)), Hn (dM F9_ ([(ze.mk (-1) (-1))] : List ze)), Hn (aL F9_ F9_ g5), Hl (aM F9_ cj ([(ze.mk (-1) (-1))] : List ze))])
         ·obtain ⟨g6, aj⟩ := gdE aj
          obtain ⟨g7, aj⟩ := gdE aj
          obtain ⟨g8, aj⟩ := gdE aj
          obtain ⟨g9, aj⟩ := gdE aj
          obtain ⟨g10, aj⟩ := gdE aj
          obtain ⟨g11, aj⟩ := gdE aj
          exact yB X0 hC d8 (cj ++ ([(ze.mk (Int.tmod (w64 (Int.tdiv v_ 4)) (w64 (1 + (w64 (Int.tmod x_.States 6))))) (Int.tmod (w64 (Int.tdiv (w64 (Int.tdiv v_ 4)) (w64 (1 + (w64 (Int.tmod x_.States 6)))))) (w64 (1 + (w64 (Int.tmod x_.Outputs 3))))))] : List ze)) aj (Z0 ++ [Hq c3, Hn g6, Hn g7, Hn g8, Hn g9, Hn g10, Hq (dM F9_ ([(ze.mk (Int.tmod (w64 (Int.tdiv v_ 4)) (w64 (1 + (w64 (Int.tmod x_.States 6))))) (Int.tmod (w64 (Int.tdiv (w64 (Int.tdiv v_ 4)) (w64 (1 + (w64 (Int.tmod x_.States 6)))))) (w64 (1 + (w64 (Int.tmod x_.Outputs 3))))))] : List ze)), Hn (dM F9_ ([(ze.mk (Int.tmod (w64 (Int.tdiv v_ 4)) (w64 (1 + (w64 (Int.tmod x_.States 6))))) (Int.tmod (w64 (Int.tdiv (w64 (Int.tdiv v_ 4)) (w64 (1 + (w64 (Int.tmod x_.States 6)))))) (w64 (1 + (w64 (Int.tmod x_.Outputs 3))))))] : List ze)), Hn (aL F9_ F9_ g11), Hl (aM F9_ cj ([(ze.mk (Int.tmod (w64 (Int.tdiv v_ 4)) (w64 (1 + (w64 (Int.tmod x_.States 6))))) (Int.tmod (w64 (Int.tdiv (w64 (Int.tdiv v_ 4)) (w64 (1 + (w64 (Int.tmod x_.States 6)))))) (w64 (1 + (w64 (Int.tmod x_.Outputs 3))))))] : List ze))])
        ·obtain ⟨g12, aj⟩ := gdE aj
         obtain ⟨g13, aj⟩ := gdE aj
         obtain ⟨g14, aj⟩ := gdE aj
         obtain ⟨g15, aj⟩ := gdE aj
         obtain ⟨g16, aj⟩ := gdE aj
         obtain ⟨g17, aj⟩ := gdE aj
         exact yB X0 hC d8 (cj ++ ([(ze.mk (Int.tmod (w64 (Int.tdiv v_ 4)) (w64 (1 + (w64 (Int.tmod x_.States 6))))) (Int.tmod (w64 (Int.tdiv (w64 (Int.tdiv v_ 4)) (w64 (1 + (w64 (Int.tmod x_.States 6)))))) (w64 (1 + (w64 (Int.tmod x_.Outputs 3))))))] : List ze)) aj (rpN 4 (Hq c2) [qF, Hn g12, Hn g13, Hn g14, Hn g15, Hn g16, Hq (dM F9_ ([(ze.mk (Int.tmod (w64 (Int.tdiv v_ 4)) (w64 (1 + (w64 (Int.tmod x_.States 6))))) (Int.tmod (w64 (Int.tdiv (w64 (Int.tdiv v_ 4)) (w64 (1 + (w64 (Int.tmod x_.States 6)))))) (w64 (1 + (w64 (Int.tmod x_.Outputs 3))))))] : List ze)), Hn (dM F9_ ([(ze.mk (Int.tmod (w64 (Int.tdiv v_ 4)) (w64 (1 + (w64 (Int.tmod x_.States 6))))) (Int.tmod (w64 (Int.tdiv (w64 (Int.tdiv v_ 4)) (w64 (1 + (w64 (Int.tmod x_.States 6)))))) (w64 (1 + (w64 (Int.tmod x_.Outputs 3))))))] : List ze)), Hn (aL F9_ F9_ g17), Hl (aM F9_ cj ([(ze.mk (Int.tmod (w64 (Int.tdiv v_ 4)) (w64 (1 + (w64 (Int.tmod x_.States 6))))) (Int.tmod (w64 (Int.tdiv (w64 (Int.tdiv v_ 4)) (w64 (1 + (w64 (Int.tmod x_.States 6)))))) (w64 (1 + (w64 (Int.tmod x_.Outputs 3))))))] : List ze))])
       ·let Z1 : List HO := [Ha (lnM (eI .u16) x_.Edges)]
        rcases y4 aj with ⟨c4, aj⟩ | ⟨c4, aj⟩
        ·obtain ⟨gl, h0, aj⟩ := zk aj
         exact yB X0 hC fp (w64 (gl)) aj (Z1 ++ [Hq c4, Hi (eI .u16) h0])
        ·exact yB X0 hC fp 0 aj (Z1 ++ [Hq c4])
     ·obtain rfl := zi aj
      obtain rfl := hl2
      exact yB X0 hC dv cj ae [Hq c1]
  ·obtain rfl := zi ae
   obtain rfl := hl1
   exact yB X0 hC ay bc aa [Hq c0]
def Xi : Code := (Tryz.f21.body).getD .skip
def YS : yf := spF (α := List Int × Int × Int) (ρ := List Int) 21 (fun x => [F1_ x.1, (eI .i64) x.2.1, (eI .i64) x.2.2]) (fun r => F6_ r) (fun x => Yy x.1 x.2.1 x.2.2) [] (z6H)
abbrev Qo (out : List Int) : List (Nat × T) := [(7, .own (eOs 1 false (eI .i64) out))]
abbrev Qn (w_ : List Int) (inputs : Int) (most : Int) (ai : List Int) (k_ : Int) : List (Nat × T) := [(0, .d (eSl 1 false (eI .u8) w_)), (1, .d (I inputs)), (2, .d (I most)), (7, .own (eOs 1 false (eI .i64) ai)), (8, .d (I k_))]
theorem z1c (hC : zN Tryz.prog ctr) : YS.Ok Tryz.prog := by
 refine zU ?_
 rintro ⟨w_, inputs, most⟩ r0 aa
 try unfold Yy at aa
 refine yO true [(6, none)] Xi 31 Tryz.func21 fun E hE => ?_
 refine yJ X0 hC Xi [1,1] [] [7] (fun z : List Int => kN z = some r0) (fun z => Qo z) [(0, .d (eSl 1 false (eI .u8) w_)), (1, .d (I inputs)), (2, .d (I most)), (7, .own (eOs 1 true (eI .i64) []))] [Hh (.cut 2)] ?_ fun J1 ay => ?_
 ·rintro out aa
  unfold kN at aa
  obtain rfl := zi aa
  exact yE X0 hC hE []
 ·obtain ⟨t2, ht2, aa⟩ := zk aa
  refine yLx X0 hC Xi [1,1,2,1,0] [J1] (fun s => kM w_ inputs most s.1 s.2) (fun x => Qn w_ inputs most x.1 x.2) (([] : List Int), 0) ht2 [(0, .d (eSl 1 false (eI .u8) w_)), (1, .d (I inputs)), (2, .d (I most)), (7, .own (eOs 1 true (eI .i64) [])), (8, .d (I 0))] inferInstance [] ?_
  rintro ⟨ai, k_⟩ m2 bi ae hl1 J2 a6
  try unfold kM at ae
  rcases y4 ae with ⟨c0, ae⟩ | ⟨c0, ae⟩
  ·let Z0 : List HO := (Ha (lnM (eI .u8) w_) :: (rpN 4 (Hq c0) []))
   rcases y4 ae with ⟨c1, ae⟩ | ⟨c1, ae⟩
   ·obtain ⟨bg, h0, ae⟩ := zk ae
    obtain ⟨g0, ae⟩ := gdE ae
    obtain ⟨g1, ae⟩ := gdE ae
    obtain rfl := zi ae
    exact yB X0 hC a6 ((ai ++ ([Int.tmod (w64 (bg)) inputs] : List Int)), w64 (k_ + 1)) hl1 (Z0 ++ [Hq c1, Hi (eI .u8) h0, Hn g0, Hq (dM (eI .i64) ([Int.tmod (w64 (bg)) inputs] : List Int)), Hn (dM (eI .i64) ([Int.tmod (w64 (bg)) inputs] : List Int)), Hn (aL (eI .i64) (eI .i64) g1), Hl (aM (eI .i64) ai ([Int.tmod (w64 (bg)) inputs] : List Int))])
   ·obtain rfl := zi ae
    obtain rfl := hl1
    exact yB X0 hC ay ai aa (Z0 ++ [Hq c1])
  ·obtain rfl := zi ae
   obtain rfl := hl1
   exact yB X0 hC ay ai aa (Ha (lnM (eI .u8) w_) :: (rpN 4 (Hq c0) [qF]))
def kw : Code := (Tryz.f34.body).getD .skip
def uY : yf := spF (α := List Int × List Int) (ρ := Int) 34 (fun x => [F7_ x.1, F7_ x.2]) (fun r => (eI .i64) r) (fun x => vR x.1 x.2) [] (VS)
abbrev V8 : List (Nat × T) := []
abbrev V7 (a_ : List Int) (b_ : List Int) (i_ : Int) : List (Nat × T) := [(0, .d (eSl 1 false (eI .i64) a_)), (1, .d (eSl 1 false (eI .i64) b_)), (5, .d (I i_))]
theorem QT (hC : zN Tryz.prog ctr) : uY.Ok Tryz.prog := by
 refine zU ?_
 rintro ⟨a_, b_⟩ r0 aa
 try unfold vR at aa
 refine yO true [(4, none)] kw 40 Tryz.func34 fun E hE => ?_
 let Z0 : List HO := [Ha (lnM (eI .i64) a_), Ha (lnM (eI .i64) b_)]
 rcases y4 aa with ⟨c0, aa⟩ | ⟨c0, aa⟩
 ·let Z1 : List HO := (Z0 ++ [Hq c0, Ha (lnM (eI .i64) a_), Ha (lnM (eI .i64) b_)])
  rcases y4 aa with ⟨c1, aa⟩ | ⟨c1, aa⟩
  ·obtain rfl := zi aa
   exact yE X0 hC hE (Z1 ++ [Hq c1])
  ·obtain rfl := zi aa
   exact yE X0 hC hE (Z1 ++ [Hq c1])
 ·refine yJ X0 hC kw [1,1] [] [] (fun z : Unit => kn = some r0) (fun z => V8) [(0, .d (eSl 1 false (eI .i64) a_)), (1, .d (eSl 1 false (eI .i64) b_))] (Z0 ++ [Hq c0, Hh (.cut 0)]) ?_ fun J1 ay => ?_
  ·rintro ⟨⟩ aa
   unfold kn at aa
   obtain rfl := zi aa
   exact yE X0 hC hE []
  ·obtain ⟨t2, ht2, aa⟩ := zk aa
   refine yL X0 hC kw [1,1,2,1,0] [J1] (fun s => u3 a_ b_ s) (fun x => V7 a_ b_ x) 0 ht2  [] ?_
   rintro i_ m2 bi ae hl1 J2 a6
   try unfold u3 at ae
   rcases y4 ae with ⟨c2, ae⟩ | ⟨c2, ae⟩
   ·obtain ⟨ft, h0, ae⟩ := zk ae
    obtain ⟨fw, h1, ae⟩ := zk ae
    let Z2 : List HO := [Ha (lnM (eI .i64) a_), Hq c2, Hi (eI .i64) h0, Hi (eI .i64) h1]
    rcases y4 ae with ⟨c3, ae⟩ | ⟨c3, ae⟩
    ·obtain rfl := zi ae
     obtain rfl := hl1
     obtain rfl := zi aa
     exact yE X0 hC hE (Z2 ++ [Hq c3])
    ·obtain ⟨ig, h2, ae⟩ := zk ae
     obtain ⟨ii, h3, ae⟩ := zk ae
     let Z3 : List HO := (Z2 ++ [Hq c3, Hi (eI .i64) h2, Hi (eI .i64) h3])
     rcases y4 ae with ⟨c4, ae⟩ | ⟨c4, ae⟩
     ·obtain rfl := zi ae
      obtain rfl := hl1
      obtain rfl := zi aa
      exact yE X0 hC hE (Z3 ++ [Hq c4])
     ·obtain rfl := zi ae
      exact yB X0 hC a6 (w64 (i_ + 1)) hl1 (Z3 ++ [Hq c4])
   ·obtain rfl := zi ae
    obtain rfl := hl1
    exact yB X0 hC ay () aa [Ha (lnM (eI .i64) a_), Hq c2]
def qM : Code := (Tryz.f42.body).getD .skip
def XR : yf := spF (α := List (List Int) × List Int) (ρ := List (List Int)) 42 (fun x => [z6C x.1, F7_ x.2]) (fun r => z6C r) (fun x => XX x.1 x.2) [true, false] (VS)
abbrev K9 (w_ : List Int) (co : Int) (bn : List (List Int)) : List (Nat × T) := [(0, .own (eOs 1 false F7_ bn)), (1, .d (eSl 1 false (eI .i64) w_)), (5, .d (I co))]
abbrev K8 (w_ : List Int) (co : Int) (dz : List (List Int)) (i_ : Int) : List (Nat × T) := [(0, .own (eOs 1 false F7_ dz)), (1, .d (eSl 1 false (eI .i64) w_)), (5, .d (I co)), (8, .d (I i_))]
abbrev Ka (l_ : List (List Int)) (w_ : List Int) (co : Int) : List (Nat × T) := [(0, .own (eOs 1 false F7_ l_)), (1, .d (eSl 1 false (eI .i64) w_)), (5, .d (I co))]
abbrev Kb (l_ : List (List Int)) (w_ : List Int) (co : Int) : List (Nat × T) := [(0, .own (eOs 1 false F7_ l_)), (1, .d (eSl 1 false (eI .i64) w_)), (5, .d (I co))]
abbrev K7 (l_ : List (List Int)) (w_ : List Int) (dw : Int) (d9 : Int) : List (Nat × T) := [(0, .own (eOs 1 false F7_ l_)), (1, .d (eSl 1 false (eI .i64) w_)), (5, .d (I dw)), (6, .d (I d9))]
def xe : XH Tryz.prog := ((z3Z zC (.inr 66) [65]).or ((z3Z zC (.inl 44) [43]).or X0))
theorem z2k (hC : zN Tryz.prog ctr) (h08 : ctr.Has uY) : XR.Ok Tryz.prog := by
 refine zU ?_
 rintro ⟨l_, w_⟩ r0 aa
 try unfold XX at aa
 refine yO true [(4, none)] qM 68 Tryz.func42 fun E hE => ?_
 refine yJ xe hC qM [1,1,1] [] [0,1,5] (fun z : Int => Y0 l_ w_ z = some r0) (fun z => Kb l_ w_ z) [(0, .own (eOs 1 false F7_ l_)), (1, .d (eSl 1 false (eI .i64) w_)), (5, .d (I 0)), (6, .d (I ((l_.length : Nat) : Int)))] [Ha (lnM F7_ l_), Hh (.cut 0)] ?_ fun J1 ay => ?_
 ·rintro co aa
  unfold Y0 at aa
  refine yJ xe hC qM [1,1,1,1] [] [0,1,5] (fun z : Unit => qK l_ w_ co = some r0) (fun z => Ka l_ w_ co) [(0, .own (eOs 1 false F7_ l_)), (1, .d (eSl 1 false (eI .i64) w_)), (5, .d (I co))] [Hh (.cut 0)] ?_ fun J2 a6 => ?_
  ·rintro ⟨⟩ aa
   unfold qK at aa
   obtain ⟨g0, aa⟩ := gdE aa
   refine yJ ((xNb zC 43).or xe) hC qM [1,1,1,1,1,1] [] [0,1,5] (fun z : List (List Int) => ZZ w_ co z = some r0) (fun z => K9 w_ co z) [(0, .own (eOs 1 false F7_ (l_ ++ ([[]] : List (List Int))))), (1, .d (eSl 1 false (eI .i64) w_)), (5, .d (I co))] [Hm (shM F6_ F7_ ([[]])), Hn (dM F7_ ([[]] : List (List Int))), Hn (aL F7_ F7_ g0), Hl (aM F7_ l_ ([[]] : List (List Int))), Hh (.cut 0)] ?_ fun J3 ca => ?_
   ·rintro bn aa
    unfold ZZ at aa
    obtain ⟨g1, aa⟩ := gdE aa
    obtain ⟨bf, h0, aa⟩ := zk aa
    obtain rfl := zi aa
    exact yE xe hC hE [Hn (dM (eI .i64) w_), Hn (aL (eI .i64) (eI .i64) g1), Hl (aM0 (eI .i64) w_), Hn (iL F7_ h0), Hm (shM (eI .i64) (eI .i64) w_), Hs (iM F7_ h0), Hs (iM F7_ h0), Hl (sM F7_ bn co w_)]
   ·obtain ⟨t4, ht4, aa⟩ := zk aa
    refine yL xe hC qM [1,1,1,1,1,1,2,1,0] [J3] (fun s => jT co s.1 s.2) (fun x => K8 w_ co x.1 x.2) ((l_ ++ ([[]] : List (List Int))), w64 ((((l_ ++ ([[]] : List (List Int))).length : Nat) : Int) - 1)) ht4  [Ha (lnM F7_ (l_ ++ ([[]] : List (List Int))))] ?_
    rintro ⟨dz, i_⟩ m4 bi ae hl1 J4 dv
    try unfold jT at ae
    rcases y4 ae with ⟨c0, ae⟩ | ⟨c0, ae⟩
    ·obtain ⟨cn, h1, ae⟩ := zk ae
     obtain ⟨iy, h2, ae⟩ := zk ae
     obtain rfl := zi ae
     exact yB xe hC dv ((dz.set i_.toNat cn), w64 (i_ - 1)) hl1 [Hq c0, Hn (iL F7_ h1), Hs (iM F7_ h1), Hn (iL F7_ h2), Hs (iM F7_ h2), Hs (iM F7_ h2), Hl (sM F7_ dz i_ cn)]
    ·obtain rfl := zi ae
     obtain rfl := hl1
     exact yB xe hC ca dz aa [Hq c0]
  ·let Z0 : List HO := [Ha (lnM F7_ l_)]
   rcases y4 aa with ⟨c1, aa⟩ | ⟨c1, aa⟩
   ·obtain ⟨ge, h3, aa⟩ := zk aa
    obtain ⟨r_, h4, aa⟩ := zk aa
    let Z1 : List HO := (Z0 ++ [Hq c1, Hq c1, Hq c1, Hn (iL F7_ h3), Hq c1, Hs (iM F7_ h3), Hq c1, Hq c1, Hc h08 (x := (ge, w_)) h4 (loC F7_ ge <| loC F7_ w_ <| loN), Hq c1, Hq c1])
    rcases y4 aa with ⟨c2, aa⟩ | ⟨c2, aa⟩
    ·obtain rfl := zi aa
     exact yE xe hC hE (Z1 ++ [Hq c2])
    ·exact yB xe hC a6 () aa (Z1 ++ [Hq c2])
   ·exact yB xe hC a6 () aa (Z0 ++ (rpN 8 (Hq c1) [qF]))
 ·obtain ⟨t5, ht5, aa⟩ := zk aa
  refine yL xe hC qM [1,1,1,2,0] [J1] (fun s => jS l_ w_ s.1 s.2) (fun x => K7 l_ w_ x.1 x.2) (0, ((l_.length : Nat) : Int)) ht5  [] ?_
  rintro ⟨dw, d9⟩ m5 bi ae hl1 J5 dh
  try unfold jS at ae
  rcases y4 ae with ⟨c3, ae⟩ | ⟨c3, ae⟩
  ·obtain ⟨g2, ae⟩ := gdE ae
   obtain ⟨gf, h5, ae⟩ := zk ae
   obtain ⟨ah, h6, ae⟩ := zk ae
   let Z2 : List HO := [Hq c3, Hn g2, Hn (iL F7_ h5), Hs (iM F7_ h5), Hc h08 (x := (gf, w_)) h6 (loC F7_ gf <| loC F7_ w_ <| loN)]
   rcases y4 ae with ⟨c4, ae⟩ | ⟨c4, ae⟩
   ·obtain rfl := zi ae
    exact yB xe hC dh (w64 ((w64 (Int.tdiv (w64 (dw + d9)) 2)) + 1), d9) hl1 (Z2 ++ [Hq c4])
   ·obtain rfl := zi ae
    exact yB xe hC dh (dw, w64 (Int.tdiv (w64 (dw + d9)) 2)) hl1 (Z2 ++ [Hq c4])
  ·obtain rfl := zi ae
   obtain rfl := hl1
   exact yB xe hC ay dw aa [Hq c3]
def Xe : Code := (Tryz.f22.body).getD .skip
def YO : yf := spF (α := List (List Int)) (ρ := List (List Int)) 22 (fun x => [Zh x]) (fun r => z6C r) (fun x => Ys x) [] (Ke)
abbrev Qg (out : List (List Int)) : List (Nat × T) := [(3, .own (eOs 1 false F7_ out))]
abbrev Qe (l_ : List (List Int)) (ai : List (List Int)) (i_ : Int) : List (Nat × T) := [(0, .d (eSl 1 false F7_ l_)), (3, .own (eOs 1 false F7_ ai)), (4, .d (I i_))]
theorem z17 (hC : zN Tryz.prog ctr) (h0t : ctr.Has XR) : YO.Ok Tryz.prog := by
 refine zU ?_
 rintro l_ r0 aa
 try unfold Ys at aa
 refine yO true [(2, none)] Xe 18 Tryz.func22 fun E hE => ?_
 refine yJ X0 hC Xe [1,1] [] [3] (fun z : List (List Int) => YZ z = some r0) (fun z => Qg z) [(0, .d (eSl 1 false F7_ l_)), (3, .own (eOs 1 true F7_ []))] [Hh (.cut 2)] ?_ fun J1 ay => ?_
 ·rintro out aa
  unfold YZ at aa
  obtain rfl := zi aa
  exact yE X0 hC hE []
 ·obtain ⟨t2, ht2, aa⟩ := zk aa
  refine yLx X0 hC Xe [1,1,2,1,0] [J1] (fun s => v7 l_ s.1 s.2) (fun x => Qe l_ x.1 x.2) (([] : List (List Int)), 0) ht2 [(0, .d (eSl 1 false F7_ l_)), (3, .own (eOs 1 true F7_ [])), (4, .d (I 0))] inferInstance [] ?_
  rintro ⟨ai, i_⟩ m2 bi ae hl1 J2 a6
  try unfold v7 at ae
  let Z0 : List HO := [Ha (lnM F7_ l_)]
  rcases y4 ae with ⟨c0, ae⟩ | ⟨c0, ae⟩
  ·obtain ⟨bf, h0, ae⟩ := zk ae
   obtain ⟨r_, h1, ae⟩ := zk ae
   obtain rfl := zi ae
   exact yB X0 hC a6 (r_, w64 (i_ + 1)) hl1 (Z0 ++ [Hq c0, Hi F7_ h0, Hc h0t (x := (ai, bf)) h1 (loC z6C ai <| loC F7_ bf <| loN)])
  ·obtain rfl := zi ae
   obtain rfl := hl1
   exact yB X0 hC ay ai aa (Z0 ++ [Hq c0])
def Xh : Code := (Tryz.f7.body).getD .skip
def YR : yf := spF (α := wn) (ρ := z6 × List (List Int)) 7 (fun x => [(uS Kx (eSl 1 false F1_)) x]) (fun r => .tup [yj r.1, Zh r.2]) (fun x => Zf x) [] (Ke)
abbrev Qm (r_ : z6) (l_ : List (List Int)) : List (Nat × T) := [(2, .own (.box (.agg [I 0, I 0, eOs 1 true ue []]))), (4, .own (.box (yj r_))), (5, .own (eOs 1 false F6_ l_))]
abbrev Ql (x_ : wn) (r_ : z6) (bn : List (List Int)) (i_ : Int) : List (Nat × T) := [(1, .own (.box (.agg [Kx x_.M, eSl 1 false F1_ x_.L]))), (2, .own (.box (.agg [I 0, I 0, eOs 1 true ue []]))), (4, .own (.box (yj r_))), (5, .own (eOs 1 false F6_ bn)), (6, .d (I i_))]
theorem z1b (hC : zN Tryz.prog ctr) (h0u : ctr.Has YT) (h0v : ctr.Has YS) (h0m : ctr.Has YO) : YR.Ok Tryz.prog := by
 refine zU ?_
 rintro x_ r0 aa
 try unfold Zf at aa
 refine yO false [(2, some 30), (3, none)] Xh 35 Tryz.func7 fun E hE => ?_
 obtain ⟨r_, h0, aa⟩ := zk aa
 refine yJ X0 hC Xh [1,1,1] [] [2,4,5] (fun z : List (List Int) => kL r_ z = some r0) (fun z => Qm r_ z) [(1, .own (.box (.agg [Kx x_.M, eSl 1 false F1_ x_.L]))), (2, .own (.box (.agg [I 0, I 0, eOs 1 true ue []]))), (4, .own (.box (yj r_))), (5, .own (eOs 1 true F7_ []))] [Hc h0u (x := x_.M) h0 (loC Kx x_.M <| loN), Hh (.cut 1)] ?_ fun J1 ay => ?_
 ·rintro l_ aa
  unfold kL at aa
  obtain ⟨ah, h1, aa⟩ := zk aa
  obtain rfl := zi aa
  exact yE X0 hC hE [Hg (KT h0m), Hm (shM F6_ F7_ l_), Hs (KU h0m (x := l_) h1 (loC Zh l_ <| loN)), Hm (shM F6_ F7_ l_), Hm (shM F7_ F7_ ah)]
 ·obtain ⟨t2, ht2, aa⟩ := zk aa
  refine yLx X0 hC Xh [1,1,1,2,1,0] [J1] (fun s => kK x_ r_ s.1 s.2) (fun x => Ql x_ r_ x.1 x.2) (([] : List (List Int)), 0) ht2 [(1, .own (.box (.agg [Kx x_.M, eSl 1 false F1_ x_.L]))), (2, .own (.box (.agg [I 0, I 0, eOs 1 true ue []]))), (4, .own (.box (yj r_))), (5, .own (eOs 1 true F6_ [])), (6, .d (I 0))] inferInstance [] ?_
  rintro ⟨bn, i_⟩ m2 bi ae hl1 J2 a6
  try unfold kK at ae
  let Z0 : List HO := [Ha (lnM F1_ x_.L)]
  rcases y4 ae with ⟨c0, ae⟩ | ⟨c0, ae⟩
  ·rcases y4 ae with ⟨c1, ae⟩ | ⟨c1, ae⟩
   ·obtain ⟨ij, h2, ae⟩ := zk ae
    obtain ⟨al, h3, ae⟩ := zk ae
    obtain ⟨g0, ae⟩ := gdE ae
    obtain rfl := zi ae
    exact yB X0 hC a6 ((bn ++ ([al] : List (List Int))), w64 (i_ + 1)) hl1 (Z0 ++ [Hq c0, Hq c0, Hq c0, Hq c1, Hi F1_ h2, Hc h0v (x := (ij, r_.Inputs, 8)) h3 (loC F1_ ij <| loC (eI .i64) r_.Inputs <| loC (eI .i64) 8 <| loN), Hq (oC F6_ al []), Hn (aL F6_ F6_ g0), Hl (aM F6_ bn ([al] : List (List Int)))])
   ·obtain rfl := zi ae
    obtain rfl := hl1
    exact yB X0 hC ay bn aa (Z0 ++ [Hq c0, Hq c0, Hq c0, Hq c1])
  ·obtain rfl := zi ae
   obtain rfl := hl1
   exact yB X0 hC ay bn aa (Z0 ++ [Hq c0, Hq c0, Hq c0, qF])
def Q3 : Code := (Tryz.f74.body).getD .skip
def kj : yf := spF (α := Unit) (ρ := ze) 74 (fun x => []) (fun r => F9_ r) (fun x => kJ) [] (fun _ _ _ => rfl)
theorem QV (hC : zN Tryz.prog ctr) : kj.Ok Tryz.prog := by
 refine zU ?_
 rintro ⟨⟩ r0 aa
 try unfold kJ at aa
 refine yO false [(0, some 105)] Q3 2 Tryz.func74 fun E hE => ?_
 obtain rfl := zi aa
 exact yE X0 hC hE []
def Q4 : Code := (Tryz.f59.body).getD .skip
def kl : yf := spF (α := z6 × ze) (ρ := Bool) 59 (fun x => [yj x.1, F9_ x.2]) (fun r => eB r) (fun x => qX x.1 x.2) [] (VS)
theorem QX (hC : zN Tryz.prog ctr) (h0w : ctr.Has kj) : kl.Ok Tryz.prog := by
 refine zU ?_
 rintro ⟨m_, x_⟩ r0 aa
 try unfold qX at aa
 refine yO true [(4, none)] Q4 33 Tryz.func59 fun E hE => ?_
 obtain ⟨r_, h0, aa⟩ := zk aa
 let Z0 : List HO := [Hc h0w (x := ()) h0 (loN)]
 rcases y4 aa with ⟨c0, aa⟩ | ⟨c0, aa⟩
 ·obtain rfl := zi aa
  exact yE X0 hC hE (Z0 ++ (rpN 10 (Hq c0) []))
 ·let Z1 : List HO := (Z0 ++ (rpN 4 (Hq c0) []))
  rcases y4 aa with ⟨c1, aa⟩ | ⟨c1, aa⟩
  ·let Z2 : List HO := (Z1 ++ (rpN 5 (Hq c1) [Ha (lnM ue m_.Rows), Hq c1, Hq c0, Hq c1, Hq c0]))
   rcases y4 aa with ⟨c2, aa⟩ | ⟨c2, aa⟩
   ·let Z3 : List HO := (Z2 ++ [Hq c2, Hq c2, Hq c2, Hq c0, Hq c2, Hq c0])
    rcases y4 aa with ⟨c3, aa⟩ | ⟨c3, aa⟩
    ·obtain rfl := zi aa
     exact yE X0 hC hE (Z3 ++ (rpN 5 (Hq c3) [Hq c0, Hq c3, Hq c0]))
    ·obtain rfl := zi aa
     exact yE X0 hC hE (Z3 ++ (rpN 5 (Hq c3) [Hq c0, Hq c3, Hq c0]))
   ·obtain rfl := zi aa
    exact yE X0 hC hE (Z2 ++ (Hq c2 :: Hq c2 :: Hq c2 :: Hq c0 :: Hq c2 :: Hq c0 :: (rpN 5 qF [Hq c0, qF, Hq c0])))
  ·obtain rfl := zi aa
   exact yE X0 hC hE (Z1 ++ (rpN 6 (Hq c1) (Hq c0 :: Hq c1 :: Hq c0 :: qF :: qF :: qF :: Hq c0 :: qF :: Hq c0 :: (rpN 5 qF [Hq c0, qF, Hq c0]))))
def WZ : Code := (Tryz.f58.body).getD .skip
def qn : yf := spF (α := ze × z6) (ρ := Bool) 58 (fun x => [F9_ x.1, z8x x.2]) (fun r => eB r) (fun x => qd x.1 x.2) [] (VS)
theorem Vk (hC : zN Tryz.prog ctr) (h0x : ctr.Has kl) : qn.Ok Tryz.prog := by
 refine zU ?_
 rintro ⟨x_, x1⟩ r0 aa
 try unfold qd at aa
 refine yO true [(3, none)] WZ 8 Tryz.func58 fun E hE => ?_
 obtain ⟨r_, h0, aa⟩ := zk aa
 obtain rfl := zi aa
 exact yE X0 hC hE [Hc h0x (x := (x1, x_)) h0 (loC yj x1 <| loC F9_ x_ <| loN)]
def yC : Code := (Tryz.f73.body).getD .skip
def yx : yf := spF (α := List ze × z6) (ρ := Int) 73 (fun x => [ue x.1, (z26 58 z8x) x.2]) (fun r => (eI .i64) r) (fun x => yi x.1 x.2) [] (by
 rintro ⟨a0, a1⟩ ⟨b0, b1⟩ h
 have e0 := qm.inj (f := ue) _ _ (List.cons.inj h).1
 replace h := (List.cons.inj h).2
 have e1 := qm.inj (f := (z26 58 z8x)) _ _ (List.cons.inj h).1
 subst e0 e1
 rfl)
abbrev up : List (Nat × T) := []
abbrev uo (s_ : List ze) (f_ : z6) (x8 : Int) : List (Nat × T) := [(0, .d (eSl 2 false F9_ s_)), (1, .d (.fn 58 [.sptr (.agg [I f_.Inputs, I f_.Outputs, eSl 1 false ue f_.Rows])])), (7, .d (I ((s_.length : Nat) : Int))), (8, .d (I x8))]
theorem uQ (hC : zN Tryz.prog ctr) (h0y : ctr.Has qn) : yx.Ok Tryz.prog := by
 refine zU ?_
 rintro ⟨s_, f_⟩ r0 aa
 try unfold yi at aa
 refine yO true [(4, none)] yC 19 Tryz.func73 fun E hE => ?_
 refine yJ X0 hC yC [1] [] [] (fun z : Unit => yz = some r0) (fun z => up) [(0, .d (eSl 2 false F9_ s_)), (1, .d (.fn 58 [.sptr (.agg [I f_.Inputs, I f_.Outputs, eSl 1 false ue f_.Rows])]))] [Hh (.cut 1)] ?_ fun J1 ay => ?_
 ·rintro ⟨⟩ aa
  unfold yz at aa
  obtain rfl := zi aa
  exact yE X0 hC hE []
 ·obtain ⟨t2, ht2, aa⟩ := zk aa
  refine yL X0 hC yC [1,2,1,0] [J1] (fun s => zQ s_ f_ s) (fun x => uo s_ f_ x) 0 ht2  [Ha (lnM F9_ s_)] ?_
  rintro x8 m2 bi ae hl1 J2 a6
  try unfold zQ at ae
  rcases y4 ae with ⟨c0, ae⟩ | ⟨c0, ae⟩
  ·obtain ⟨dn, h0, ae⟩ := zk ae
   obtain ⟨r_, h1, ae⟩ := zk ae
   let Z0 : List HO := [Hq c0, Hi F9_ h0, Hc h0y (x := (dn, f_)) h1 (loC F9_ dn <| loC z8x f_ <| loN)]
   rcases y4 ae with ⟨c1, ae⟩ | ⟨c1, ae⟩
   ·obtain rfl := zi ae
    obtain rfl := hl1
    obtain rfl := zi aa
    exact yE X0 hC hE (Z0 ++ [Hq c1])
   ·obtain rfl := zi ae
    exact yB X0 hC a6 (w64 (x8 + 1)) hl1 (Z0 ++ [Hq c1])
  ·obtain rfl := zi ae
   obtain rfl := hl1
   exact yB X0 hC ay () aa [Hq c0]
def un : Code := (Tryz.f57.body).getD .skip
def yo : yf := spF (α := List ze × z6) (ρ := Bool) 57 (fun x => [ue x.1, (z26 58 z8x) x.2]) (fun r => eB r) (fun x => zY x.1 x.2) [] (by
 rintro ⟨a0, a1⟩ ⟨b0, b1⟩ h
 have e0 := qm.inj (f := ue) _ _ (List.cons.inj h).1
 replace h := (List.cons.inj h).2
 have e1 := qm.inj (f := (z26 58 z8x)) _ _ (List.cons.inj h).1
 subst e0 e1
 rfl)
theorem uq (hC : zN Tryz.prog ctr) (h0z : ctr.Has yx) : yo.Ok Tryz.prog := by
 refine zU ?_
 rintro ⟨s_, f_⟩ r0 aa
 try unfold zY at aa
 refine yO true [(4, none)] un 9 Tryz.func57 fun E hE => ?_
 obtain ⟨r_, h0, aa⟩ := zk aa
 obtain rfl := zi aa
 exact yE X0 hC hE [Hc h0z (x := (s_, f_)) h0 (loC ue s_ <| loC (z26 58 z8x) f_ <| loN)]
def jE : Code := (Tryz.f43.body).getD .skip
def uB : yf := spF (α := z6) (ρ := Int) 43 (fun x => [yj x]) (fun r => (eI .i64) r) (fun x => ua x) [] (Ke)
abbrev Wz : List (Nat × T) := []
abbrev Wy (m_ : z6) (gm : Int) : List (Nat × T) := [(1, .d (.sptr (yj m_))), (34, .d (eSl 1 false ue m_.Rows)), (35, .d (I ((m_.Rows.length : Nat) : Int))), (36, .d (I gm))]
theorem UW (hC : zN Tryz.prog ctr) (h0A : ctr.Has yo) : uB.Ok Tryz.prog := by
 refine zU ?_
 rintro m_ r0 aa
 try unfold ua at aa
 refine yO true [(2, none)] jE 51 Tryz.func43 fun E hE => ?_
 rcases y4 aa with ⟨c0, aa⟩ | ⟨c0, aa⟩
 ·obtain rfl := zi aa
  exact yE X0 hC hE (rpN 4 (Hq c0) (rpN 6 qT []))
 ·let Z0 : List HO := (rpN 4 (Hq c0) [])
  rcases y4 aa with ⟨c1, aa⟩ | ⟨c1, aa⟩
  ·obtain rfl := zi aa
   exact yE X0 hC hE (Z0 ++ (rpN 5 (Hq c1) [qT]))
  ·let Z1 : List HO := (Z0 ++ [Hq c1, Hq c1, Hq c1, Ha (lnM ue m_.Rows), Hq c1, Hq c1])
   rcases y4 aa with ⟨c2, aa⟩ | ⟨c2, aa⟩
   ·obtain rfl := zi aa
    exact yE X0 hC hE (Z1 ++ [Hq c2])
   ·rcases y4 aa with ⟨c3, aa⟩ | ⟨c3, aa⟩
    ·obtain rfl := zi aa
     exact yE X0 hC hE (Z1 ++ (Hq c2 :: (rpN 4 (Hq c3) (rpN 6 qT []))))
    ·let Z2 : List HO := (Z1 ++ (Hq c2 :: (rpN 4 (Hq c3) [])))
     rcases y4 aa with ⟨c4, aa⟩ | ⟨c4, aa⟩
     ·obtain rfl := zi aa
      exact yE X0 hC hE (Z2 ++ (rpN 5 (Hq c4) [qT]))
     ·let Z3 : List HO := (Z2 ++ [Hq c4, Hq c4, Hq c4, Ha (lnM ue m_.Rows), Hq c4, Hq c4])
      rcases y4 aa with ⟨c5, aa⟩ | ⟨c5, aa⟩
      ·obtain rfl := zi aa
       exact yE X0 hC hE (Z3 ++ [Hq c5])
      ·refine yJ X0 hC jE [1,1,1] [] [] (fun z : Unit => jz = some r0) (fun z => Wz) [(1, .own (.box (yj m_)))] (Z3 ++ [Hq c5, Hh (.cut 0)]) ?_ fun J1 ay => ?_
       ·rintro ⟨⟩ aa
        unfold jz at aa
        obtain rfl := zi aa
        exact yE X0 hC hE []
       ·obtain ⟨t2, ht2, aa⟩ := zk aa
        refine yL X0 hC jE [1,1,1,2,1,0] [J1] (fun s => ws m_ s) (fun x => Wy m_ x) 0 ht2  [Ha (lnM ue m_.Rows), Hh (.n 1 [1])] ?_
        rintro gm m2 bi ae hl1 J2 a6
        try unfold ws at ae
        rcases y4 ae with ⟨c6, ae⟩ | ⟨c6, ae⟩
        ·obtain ⟨au, h0, ae⟩ := zk ae
         let Z4 : List HO := [Hq c6, Hi ue h0, Ha (lnM F9_ au)]
         rcases y4 ae with ⟨c7, ae⟩ | ⟨c7, ae⟩
         ·obtain rfl := zi ae
          obtain rfl := hl1
          obtain rfl := zi aa
          exact yE X0 hC hE (Z4 ++ (rpN 4 (Hq c7) [qT]))
         ·obtain ⟨r_, h1, ae⟩ := zk ae
          let Z5 : List HO := (Z4 ++ [Hq c7, Hq c7, Hq c7, Hc h0A (x := (au, m_)) h1 (loC ue au <| loC (z26 58 z8x) m_ <| loN), Hq c7])
          rcases y4 ae with ⟨c8, ae⟩ | ⟨c8, ae⟩
          ·obtain rfl := zi ae
           obtain rfl := hl1
           obtain rfl := zi aa
           exact yE X0 hC hE (Z5 ++ [Hq c8])
          ·obtain rfl := zi ae
           exact yB X0 hC a6 (w64 (gm + 1)) hl1 (Z5 ++ [Hq c8])
        ·obtain rfl := zi ae
         obtain rfl := hl1
         exact yB X0 hC ay () aa [Hq c6]
def Q2 : Code := (Tryz.f78.body).getD .skip
def ke : yf := spF (α := Int × Int) (ρ := Bool) 78 (fun x => [(eI .i64) x.1, (eSp (eI .i64)) x.2]) (fun r => eB r) (fun x => kB x.1 x.2) [] (VS)
theorem QQ (hC : zN Tryz.prog ctr) : ke.Ok Tryz.prog := by
 refine zU ?_
 rintro ⟨c_, x1⟩ r0 aa
 try unfold kB at aa
 refine yO true [(3, none)] Q2 11 Tryz.func78 fun E hE => ?_
 rcases y4 aa with ⟨c0, aa⟩ | ⟨c0, aa⟩
 ·obtain rfl := zi aa
  exact yE X0 hC hE (rpN 4 (Hq c0) [])
 ·obtain rfl := zi aa
  exact yE X0 hC hE (rpN 4 (Hq c0) [])
def wH : Code := (Tryz.f90.body).getD .skip
def wv : yf := spF (α := List Int × Int) (ρ := Int) 90 (fun x => [F7_ x.1, (z26 78 (eSp (eI .i64))) x.2]) (fun r => (eI .i64) r) (fun x => w6 x.1 x.2) [] (by
 rintro ⟨a0, a1⟩ ⟨b0, b1⟩ h
 have e0 := qm.inj (f := F7_) _ _ (List.cons.inj h).1
 replace h := (List.cons.inj h).2
 have e1 := qm.inj (f := (z26 78 (eSp (eI .i64)))) _ _ (List.cons.inj h).1
 subst e0 e1
 rfl)
abbrev jY : List (Nat × T) := []
abbrev jX (s_ : List Int) (f_ : Int) (x8 : Int) : List (Nat × T) := [(0, .d (eSl 1 false (eI .i64) s_)), (1, .d (.fn 78 [.sptr (I f_)])), (7, .d (I ((s_.length : Nat) : Int))), (8, .d (I x8))]
theorem ZR (hC : zN Tryz.prog ctr) (h0B : ctr.Has ke) : wv.Ok Tryz.prog := by
 refine zU ?_
 rintro ⟨s_, f_⟩ r0 aa
 try unfold w6 at aa
 refine yO true [(4, none)] wH 19 Tryz.func90 fun E hE => ?_
 refine yJ X0 hC wH [1] [] [] (fun z : Unit => wx = some r0) (fun z => jY) [(0, .d (eSl 1 false (eI .i64) s_)), (1, .d (.fn 78 [.sptr (I f_)]))] [Hh (.cut 1)] ?_ fun J1 ay => ?_
 ·rintro ⟨⟩ aa
  unfold wx at aa
  obtain rfl := zi aa
  exact yE X0 hC hE []
 ·obtain ⟨t2, ht2, aa⟩ := zk aa
  refine yL X0 hC wH [1,2,1,0] [J1] (fun s => yc s_ f_ s) (fun x => jX s_ f_ x) 0 ht2  [Ha (lnM (eI .i64) s_)] ?_
  rintro x8 m2 bi ae hl1 J2 a6
  try unfold yc at ae
  rcases y4 ae with ⟨c0, ae⟩ | ⟨c0, ae⟩
  ·obtain ⟨dn, h0, ae⟩ := zk ae
   obtain ⟨r_, h1, ae⟩ := zk ae
   let Z0 : List HO := [Hq c0, Hi (eI .i64) h0, Hc h0B (x := (dn, f_)) h1 (loC (eI .i64) dn <| loC (eSp (eI .i64)) f_ <| loN)]
   rcases y4 ae with ⟨c1, ae⟩ | ⟨c1, ae⟩
   ·obtain rfl := zi ae
    obtain rfl := hl1
    obtain rfl := zi aa
    exact yE X0 hC hE (Z0 ++ [Hq c1])
   ·obtain rfl := zi ae
    exact yB X0 hC a6 (w64 (x8 + 1)) hl1 (Z0 ++ [Hq c1])
  ·obtain rfl := zi ae
   obtain rfl := hl1
   exact yB X0 hC ay () aa [Hq c0]
def jW : Code := (Tryz.f77.body).getD .skip
def xN : yf := spF (α := List Int × Int) (ρ := Bool) 77 (fun x => [F7_ x.1, (z26 78 (eSp (eI .i64))) x.2]) (fun r => eB r) (fun x => x6 x.1 x.2) [] (by
 rintro ⟨a0, a1⟩ ⟨b0, b1⟩ h
 have e0 := qm.inj (f := F7_) _ _ (List.cons.inj h).1
 replace h := (List.cons.inj h).2
 have e1 := qm.inj (f := (z26 78 (eSp (eI .i64)))) _ _ (List.cons.inj h).1
 subst e0 e1
 rfl)
theorem kb (hC : zN Tryz.prog ctr) (h0C : ctr.Has wv) : xN.Ok Tryz.prog := by
 refine zU ?_
 rintro ⟨s_, f_⟩ r0 aa
 try unfold x6 at aa
 refine yO true [(4, none)] jW 9 Tryz.func77 fun E hE => ?_
 obtain ⟨r_, h0, aa⟩ := zk aa
 obtain rfl := zi aa
 exact yE X0 hC hE [Hc h0C (x := (s_, f_)) h0 (loC F7_ s_ <| loC (z26 78 (eSp (eI .i64))) f_ <| loN)]
def Ks : Code := (Tryz.f64.body).getD .skip
def Y5 : yf := spF (α := List Int × Int) (ρ := Int) 64 (fun x => [F7_ x.1, (eI .i64) x.2]) (fun r => (eI .i64) r) (fun x => jp x.1 x.2) [] (VS)
theorem z09 (hC : zN Tryz.prog ctr) (h0D : ctr.Has xN) : Y5.Ok Tryz.prog := by
 refine zU ?_
 rintro ⟨w_, inputs⟩ r0 aa
 try unfold jp at aa
 refine yO true [(4, none)] Ks 19 Tryz.func64 fun E hE => ?_
 rcases y4 aa with ⟨c0, aa⟩ | ⟨c0, aa⟩
 ·obtain rfl := zi aa
  exact yE X0 hC hE (rpN 4 (Hq c0) [qT])
 ·let Z0 : List HO := [Hq c0, Hq c0, Ha (lnM (eI .i64) w_), Hq c0, Hq c0]
  rcases y4 aa with ⟨c1, aa⟩ | ⟨c1, aa⟩
  ·obtain rfl := zi aa
   exact yE X0 hC hE (Z0 ++ [Hq c1])
  ·rcases y4 aa with ⟨c2, aa⟩ | ⟨c2, aa⟩
   ·obtain rfl := zi aa
    exact yE X0 hC hE (Z0 ++ (Hq c1 :: (rpN 4 (Hq c2) [qT])))
   ·obtain ⟨r_, h0, aa⟩ := zk aa
    let Z1 : List HO := (Z0 ++ [Hq c1, Hq c2, Hq c2, Hq c2, Hc h0D (x := (w_, inputs)) h0 (loC F7_ w_ <| loC (z26 78 (eSp (eI .i64))) inputs <| loN), Hq c2])
    rcases y4 aa with ⟨c3, aa⟩ | ⟨c3, aa⟩
    ·obtain rfl := zi aa
     exact yE X0 hC hE (Z1 ++ [Hq c3])
    ·obtain rfl := zi aa
     exact yE X0 hC hE (Z1 ++ [Hq c3])
def Yg : Code := (Tryz.f50.body).getD .skip
def jL : yf := spF (α := List (List Int) × Int) (ρ := Int) 50 (fun x => [Zh x.1, (eI .i64) x.2]) (fun r => (eI .i64) r) (fun x => js x.1 x.2) [] (VS)
abbrev Uz : List (Nat × T) := []
abbrev Uy (l_ : List (List Int)) (inputs : Int) (gn : Int) : List (Nat × T) := [(1, .d (I inputs)), (17, .d (eSl 1 false F7_ l_)), (18, .d (I ((l_.length : Nat) : Int))), (19, .d (I gn))]
theorem z0c (hC : zN Tryz.prog ctr) (h0E : ctr.Has Y5) : jL.Ok Tryz.prog := by
 refine zU ?_
 rintro ⟨l_, inputs⟩ r0 aa
 try unfold js at aa
 refine yO true [(4, none)] Yg 30 Tryz.func50 fun E hE => ?_
 rcases y4 aa with ⟨c0, aa⟩ | ⟨c0, aa⟩
 ·obtain rfl := zi aa
  exact yE X0 hC hE (rpN 4 (Hq c0) [qT])
 ·let Z0 : List HO := [Hq c0, Hq c0, Ha (lnM F7_ l_), Hq c0, Hq c0]
  rcases y4 aa with ⟨c1, aa⟩ | ⟨c1, aa⟩
  ·obtain rfl := zi aa
   exact yE X0 hC hE (Z0 ++ [Hq c1])
  ·rcases y4 aa with ⟨c2, aa⟩ | ⟨c2, aa⟩
   ·obtain rfl := zi aa
    exact yE X0 hC hE (Z0 ++ [Hq c1, Hq c2])
   ·refine yJ X0 hC Yg [1,1,1] [] [] (fun z : Unit => Y4 = some r0) (fun z => Uz) [(0, .d (eSl 1 false F7_ l_)), (1, .d (I inputs))] (Z0 ++ [Hq c1, Hq c2, Hh (.cut 0)]) ?_ fun J1 ay => ?_
    ·rintro ⟨⟩ aa
     unfold Y4 at aa
     obtain rfl := zi aa
     exact yE X0 hC hE []
    ·obtain ⟨t2, ht2, aa⟩ := zk aa
     refine yL X0 hC Yg [1,1,1,2,1,0] [J1] (fun s => u7 l_ inputs s) (fun x => Uy l_ inputs x) 0 ht2  [Ha (lnM F7_ l_)] ?_
     rintro gn m2 bi ae hl1 J2 a6
     try unfold u7 at ae
     rcases y4 ae with ⟨c3, ae⟩ | ⟨c3, ae⟩
     ·obtain ⟨bf, h0, ae⟩ := zk ae
      obtain ⟨r_, h1, ae⟩ := zk ae
      let Z1 : List HO := [Hq c3, Hi F7_ h0, Hc h0E (x := (bf, inputs)) h1 (loC F7_ bf <| loC (eI .i64) inputs <| loN)]
      rcases y4 ae with ⟨c4, ae⟩ | ⟨c4, ae⟩
      ·obtain rfl := zi ae
       obtain rfl := hl1
       obtain rfl := zi aa
       exact yE X0 hC hE (Z1 ++ [Hq c4])
      ·obtain rfl := zi ae
       exact yB X0 hC a6 (w64 (gn + 1)) hl1 (Z1 ++ [Hq c4])
     ·obtain rfl := zi ae
      obtain rfl := hl1
      exact yB X0 hC ay () aa [Hq c3]
def Q5 : Code := (Tryz.f101.body).getD .skip
def km : yf := spF (α := Int) (ρ := Bool) 101 (fun x => [(eI .i64) x]) (fun r => eB r) (fun x => j8 x) [] (Ke)
theorem QZ (hC : zN Tryz.prog ctr) : km.Ok Tryz.prog := by
 refine zU ?_
 rintro x_ r0 aa
 try unfold j8 at aa
 refine yO true [(2, none)] Q5 6 Tryz.func101 fun E hE => ?_
 obtain rfl := zi aa
 exact yE X0 hC hE []
def VH : Code := (Tryz.f82.body).getD .skip
def uh : yf := spF (α := Int × Int) (ρ := Int) 82 (fun x => [(eI .i64) x.1, (eI .i64) x.2]) (fun r => (eI .i64) r) (fun x => vF x.1 x.2) [] (VS)
theorem Ua (hC : zN Tryz.prog ctr) (h0n : ctr.Has km) : uh.Ok Tryz.prog := by
 refine zU ?_
 rintro ⟨x_, y_⟩ r0 aa
 try unfold vF at aa
 refine yO true [(4, none)] VH 20 Tryz.func82 fun E hE => ?_
 obtain ⟨r_, h0, aa⟩ := zk aa
 obtain ⟨ah, h1, aa⟩ := zk aa
 let Z0 : List HO := [Hc h0n (x := x_) h0 (loC (eI .i64) x_ <| loN), Hc h0n (x := y_) h1 (loC (eI .i64) y_ <| loN)]
 rcases y4 aa with ⟨c0, aa⟩ | ⟨c0, aa⟩
 ·rcases y4 aa with ⟨c1, aa⟩ | ⟨c1, aa⟩
  ·obtain rfl := zi aa
   exact yE X0 hC hE (Z0 ++ [Hq c0, Hq c1])
  ·obtain rfl := zi aa
   exact yE X0 hC hE (Z0 ++ [Hq c0, Hq c1])
 ·rcases y4 aa with ⟨c2, aa⟩ | ⟨c2, aa⟩
  ·obtain rfl := zi aa
   exact yE X0 hC hE (Z0 ++ [Hq c0, Hq c2])
  ·rcases y4 aa with ⟨c3, aa⟩ | ⟨c3, aa⟩
   ·obtain rfl := zi aa
    exact yE X0 hC hE (Z0 ++ [Hq c0, Hq c2, Hq c3])
   ·rcases y4 aa with ⟨c4, aa⟩ | ⟨c4, aa⟩
    ·obtain rfl := zi aa
     exact yE X0 hC hE (Z0 ++ [Hq c0, Hq c2, Hq c3, Hq c4])
    ·obtain rfl := zi aa
     exact yE X0 hC hE (Z0 ++ [Hq c0, Hq c2, Hq c3, Hq c4])
def vo : Code := (Tryz.f83.body).getD .skip
def ve : yf := spF (α := List Int × List Int) (ρ := Int) 83 (fun x => [F7_ x.1, F7_ x.2]) (fun r => (eI .i64) r) (fun x => xx x.1 x.2) [] (VS)
abbrev kV (s1 : List Int) (s2 : List Int) : List (Nat × T) := [(0, .d (eSl 1 false (eI .i64) s1)), (1, .d (eSl 1 false (eI .i64) s2))]
abbrev kU (s1 : List Int) (s2 : List Int) (dy : Int) : List (Nat × T) := [(0, .d (eSl 1 false (eI .i64) s1)), (1, .d (eSl 1 false (eI .i64) s2)), (9, .d (eSl 1 false (eI .i64) s1)), (10, .d (I ((s1.length : Nat) : Int))), (11, .d (I dy))]
theorem Yn (hC : zN Tryz.prog ctr) (h0d : ctr.Has uh) : ve.Ok Tryz.prog := by
 refine zU ?_
 rintro ⟨s1, s2⟩ r0 aa
 try unfold xx at aa
 refine yO true [(4, none)] vo 36 Tryz.func83 fun E hE => ?_
 refine yJ X0 hC vo [1] [] [0,1] (fun z : Unit => xJ s1 s2 = some r0) (fun z => kV s1 s2) [(0, .d (eSl 1 false (eI .i64) s1)), (1, .d (eSl 1 false (eI .i64) s2))] [Hh (.cut 1)] ?_ fun J1 ay => ?_
 ·rintro ⟨⟩ aa
  unfold xJ at aa
  let Z0 : List HO := [Ha (lnM (eI .i64) s1), Ha (lnM (eI .i64) s2)]
  rcases y4 aa with ⟨c0, aa⟩ | ⟨c0, aa⟩
  ·obtain rfl := zi aa
   exact yE X0 hC hE (Z0 ++ [Hq c0])
  ·obtain rfl := zi aa
   exact yE X0 hC hE (Z0 ++ [Hq c0])
 ·obtain ⟨t2, ht2, aa⟩ := zk aa
  refine yL X0 hC vo [1,2,1,0] [J1] (fun s => yk s1 s2 s) (fun x => kU s1 s2 x) 0 ht2  [Ha (lnM (eI .i64) s1)] ?_
  rintro dy m2 bi ae hl1 J2 a6
  try unfold yk at ae
  rcases y4 ae with ⟨c1, ae⟩ | ⟨c1, ae⟩
  ·obtain ⟨gp, h0, ae⟩ := zk ae
   let Z1 : List HO := [Hq c1, Hi (eI .i64) h0, Ha (lnM (eI .i64) s2)]
   rcases y4 ae with ⟨c2, ae⟩ | ⟨c2, ae⟩
   ·obtain rfl := zi ae
    obtain rfl := hl1
    obtain rfl := zi aa
    exact yE X0 hC hE (Z1 ++ [Hq c2])
   ·obtain ⟨fx, h1, ae⟩ := zk ae
    obtain ⟨r_, h2, ae⟩ := zk ae
    let Z2 : List HO := (Z1 ++ [Hq c2, Hi (eI .i64) h1, Hc h0d (x := (gp, fx)) h2 (loC (eI .i64) gp <| loC (eI .i64) fx <| loN)])
    rcases y4 ae with ⟨c3, ae⟩ | ⟨c3, ae⟩
    ·obtain rfl := zi ae
     obtain rfl := hl1
     obtain rfl := zi aa
     exact yE X0 hC hE (Z2 ++ [Hq c3])
    ·obtain rfl := zi ae
     exact yB X0 hC a6 (w64 (dy + 1)) hl1 (Z2 ++ [Hq c3])
  ·obtain rfl := zi ae
   obtain rfl := hl1
   exact yB X0 hC ay () aa [Hq c1]
def Xj : Code := (Tryz.f81.body).getD .skip
def YU : yf := spF (α := List Int) (ρ := Int) 81 (fun x => [F7_ x]) (fun r => (eI .i64) r) (fun x => YC x) [] (Ke)
abbrev Qx : List (Nat × T) := [(3, .d (I 0))]
abbrev Qw (vals : List Int) (x8 : Int) : List (Nat × T) := [(3, .d (I 0)), (6, .d (eSl 1 false (eI .i64) vals)), (7, .d (I ((vals.length : Nat) : Int))), (8, .d (I x8))]
theorem z1e (hC : zN Tryz.prog ctr) : YU.Ok Tryz.prog := by
 refine zU ?_
 rintro vals r0 aa
 try unfold YC at aa
 refine yO true [(2, none)] Xj 18 Tryz.func81 fun E hE => ?_
 refine yJ X0 hC Xj [1,1] [] [3] (fun z : Unit => kS = some r0) (fun z => Qx) [(0, .d (eSl 1 false (eI .i64) vals)), (3, .d (I 0))] [Hh (.cut 2)] ?_ fun J1 ay => ?_
 ·rintro ⟨⟩ aa
  unfold kS at aa
  obtain rfl := zi aa
  exact yE X0 hC hE []
 ·obtain ⟨t2, ht2, aa⟩ := zk aa
  refine yL X0 hC Xj [1,1,2,1,0] [J1] (fun s => uL vals s) (fun x => Qw vals x) 0 ht2  [Ha (lnM (eI .i64) vals)] ?_
  rintro x8 m2 bi ae hl1 J2 a6
  try unfold uL at ae
  rcases y4 ae with ⟨c0, ae⟩ | ⟨c0, ae⟩
  ·obtain ⟨gw, h0, ae⟩ := zk ae
   rcases y4 ae with ⟨c1, ae⟩ | ⟨c1, ae⟩
   ·obtain rfl := zi ae
    obtain rfl := hl1
    obtain rfl := zi aa
    exact yE X0 hC hE [Hq c0, Hi (eI .i64) h0, Hq c1]
   ·obtain rfl := zi ae
    exact yB X0 hC a6 (w64 (x8 + 1)) hl1 [Hq c0, Hi (eI .i64) h0, Hq c1]
  ·obtain rfl := zi ae
   obtain rfl := hl1
   exact yB X0 hC ay () aa [Hq c0]
def Q1 : Code := (Tryz.f67.body).getD .skip
def vX : yf := spF (α := List Int × List Int) (ρ := Int) 67 (fun x => [F7_ x.1, F7_ x.2]) (fun r => (eI .i64) r) (fun x => vL x.1 x.2) [] (VS)
theorem QP (hC : zN Tryz.prog ctr) (h0d : ctr.Has uh) (h0F : ctr.Has ve) (h0o : ctr.Has YU) : vX.Ok Tryz.prog := by
 refine zU ?_
 rintro ⟨a_, b_⟩ r0 aa
 try unfold vL at aa
 refine yO true [(4, none)] Q1 15 Tryz.func67 fun E hE => ?_
 obtain ⟨r_, h0, aa⟩ := zk aa
 obtain ⟨ah, h1, aa⟩ := zk aa
 obtain ⟨al, h2, aa⟩ := zk aa
 obtain rfl := zi aa
 exact yE X0 hC hE [Ha (lnM (eI .i64) a_), Ha (lnM (eI .i64) b_), Hc h0d (x := (((a_.length : Nat) : Int), ((b_.length : Nat) : Int))) h0 (loC (eI .i64) ((a_.length : Nat) : Int) <| loC (eI .i64) ((b_.length : Nat) : Int) <| loN), Hc h0F (x := (a_, b_)) h1 (loC F7_ a_ <| loC F7_ b_ <| loN), Hg (KT h0o), Hm (shM (eI .i64) (eI .i64) ([r_, ah])), Hs (KU h0o (x := [r_, ah]) h2 (loC F2_ ([r_, ah] : List Int) <| loN))]
def Yh : Code := (Tryz.f60.body).getD .skip
def Y7 : yf := spF (α := List (List Int)) (ρ := Bool) 60 (fun x => [Zh x]) (fun r => eB r) (fun x => Zm x) [] (Ke)
abbrev UB : List (Nat × T) := []
abbrev UA (l_ : List (List Int)) (i_ : Int) : List (Nat × T) := [(0, .d (eSl 1 false F7_ l_)), (3, .d (I i_))]
theorem z0d (hC : zN Tryz.prog ctr) (h06 : ctr.Has vX) : Y7.Ok Tryz.prog := by
 refine zU ?_
 rintro l_ r0 aa
 try unfold Zm at aa
 refine yO true [(2, none)] Yh 21 Tryz.func60 fun E hE => ?_
 refine yJ X0 hC Yh [1] [] [] (fun z : Unit => jJ = some r0) (fun z => UB) [(0, .d (eSl 1 false F7_ l_))] [Hh (.cut 1)] ?_ fun J1 ay => ?_
 ·rintro ⟨⟩ aa
  unfold jJ at aa
  obtain rfl := zi aa
  exact yE X0 hC hE []
 ·obtain ⟨t2, ht2, aa⟩ := zk aa
  refine yL X0 hC Yh [1,2,1,0] [J1] (fun s => u9 l_ s) (fun x => UA l_ x) 1 ht2  [] ?_
  rintro i_ m2 bi ae hl1 J2 a6
  try unfold u9 at ae
  let Z0 : List HO := [Ha (lnM F7_ l_)]
  rcases y4 ae with ⟨c0, ae⟩ | ⟨c0, ae⟩
  ·obtain ⟨bf, h0, ae⟩ := zk ae
   obtain ⟨cn, h1, ae⟩ := zk ae
   obtain ⟨r_, h2, ae⟩ := zk ae
   let Z1 : List HO := (Z0 ++ [Hq c0, Hi F7_ h0, Hi F7_ h1, Hc h06 (x := (bf, cn)) h2 (loC F7_ bf <| loC F7_ cn <| loN)])
   rcases y4 ae with ⟨c1, ae⟩ | ⟨c1, ae⟩
   ·obtain rfl := zi ae
    obtain rfl := hl1
    obtain rfl := zi aa
    exact yE X0 hC hE (Z1 ++ [Hq c1])
   ·obtain rfl := zi ae
    exact yB X0 hC a6 (w64 (i_ + 1)) hl1 (Z1 ++ [Hq c1])
  ·obtain rfl := zi ae
   obtain rfl := hl1
   exact yB X0 hC ay () aa (Z0 ++ [Hq c0])
def Yf : Code := (Tryz.f61.body).getD .skip
def jK : yf := spF (α := List (List Int)) (ρ := Int) 61 (fun x => [Zh x]) (fun r => (eI .i64) r) (fun x => jr x) [] (Ke)
abbrev Ux (n_ : Int) : List (Nat × T) := [(2, .d (I n_))]
abbrev Uw (l_ : List (List Int)) (dt : Int) (x7 : Int) : List (Nat × T) := [(2, .d (I dt)), (5, .d (eSl 1 false F7_ l_)), (6, .d (I ((l_.length : Nat) : Int))), (7, .d (I x7))]
theorem z0b (hC : zN Tryz.prog ctr) : jK.Ok Tryz.prog := by
 refine zU ?_
 rintro l_ r0 aa
 try unfold jr at aa
 refine yO true [(2, none)] Yf 17 Tryz.func61 fun E hE => ?_
 refine yJ X0 hC Yf [1] [] [2] (fun z : Int => Y3 z = some r0) (fun z => Ux z) [(0, .d (eSl 1 false F7_ l_)), (2, .d (I 0))] [Hh (.cut 1)] ?_ fun J1 ay => ?_
 ·rintro n_ aa
  unfold Y3 at aa
  obtain rfl := zi aa
  exact yE X0 hC hE []
 ·obtain ⟨t2, ht2, aa⟩ := zk aa
  refine yL X0 hC Yf [1,2,1,0] [J1] (fun s => u6 l_ s.1 s.2) (fun x => Uw l_ x.1 x.2) (0,0) ht2  [Ha (lnM F7_ l_)] ?_
  rintro ⟨dt, x7⟩ m2 bi ae hl1 J2 a6
  try unfold u6 at ae
  rcases y4 ae with ⟨c0, ae⟩ | ⟨c0, ae⟩
  ·obtain ⟨bf, h0, ae⟩ := zk ae
   obtain rfl := zi ae
   exact yB X0 hC a6 (w64 (dt + ((bf.length : Nat) : Int)), w64 (x7 + 1)) hl1 [Hq c0, Hi F7_ h0, Ha (lnM (eI .i64) bf)]
  ·obtain rfl := zi ae
   obtain rfl := hl1
   exact yB X0 hC ay dt aa [Hq c0]
def Kt : Code := (Tryz.f44.body).getD .skip
def Y8 : yf := spF (α := List (List Int) × Int) (ρ := Int) 44 (fun x => [Zh x.1, (eI .i64) x.2]) (fun r => (eI .i64) r) (fun x => Zn x.1 x.2) [] (VS)
theorem z0e (hC : zN Tryz.prog ctr) (h0e : ctr.Has jL) (h0G : ctr.Has Y7) (h09 : ctr.Has jK) : Y8.Ok Tryz.prog := by
 refine zU ?_
 rintro ⟨l_, inputs⟩ r0 aa
 try unfold Zn at aa
 refine yO true [(4, none)] Kt 18 Tryz.func44 fun E hE => ?_
 obtain ⟨r_, h0, aa⟩ := zk aa
 let Z0 : List HO := [Hc h0e (x := (l_, inputs)) h0 (loC Zh l_ <| loC (eI .i64) inputs <| loN)]
 rcases y4 aa with ⟨c0, aa⟩ | ⟨c0, aa⟩
 ·obtain rfl := zi aa
  exact yE X0 hC hE (Z0 ++ [Hq c0])
 ·obtain ⟨ah, h1, aa⟩ := zk aa
  let Z1 : List HO := (Z0 ++ [Hq c0, Hc h0G (x := l_) h1 (loC Zh l_ <| loN)])
  rcases y4 aa with ⟨c1, aa⟩ | ⟨c1, aa⟩
  ·obtain rfl := zi aa
   exact yE X0 hC hE (Z1 ++ [Hq c1])
  ·obtain ⟨al, h2, aa⟩ := zk aa
   let Z2 : List HO := (Z1 ++ [Hq c1, Hc h09 (x := l_) h2 (loC Zh l_ <| loN)])
   rcases y4 aa with ⟨c2, aa⟩ | ⟨c2, aa⟩
   ·obtain rfl := zi aa
    exact yE X0 hC hE (Z2 ++ [Hq c2])
   ·obtain rfl := zi aa
    exact yE X0 hC hE (Z2 ++ [Hq c2])
def VC : Code := (Tryz.f23.body).getD .skip
def xZ : yf := spF (α := z6 × List (List Int)) (ρ := Int) 23 (fun x => [yj x.1, Zh x.2]) (fun r => (eI .i64) r) (fun x => xW x.1 x.2) [] (VS)
theorem VU (hC : zN Tryz.prog ctr) (h0f : ctr.Has uB) (h0H : ctr.Has Y8) : xZ.Ok Tryz.prog := by
 refine zU ?_
 rintro ⟨m_, l_⟩ r0 aa
 try unfold xW at aa
 refine yO true [(4, none)] VC 15 Tryz.func23 fun E hE => ?_
 obtain ⟨r_, h0, aa⟩ := zk aa
 let Z0 : List HO := [Hc h0f (x := m_) h0 (loC yj m_ <| loN)]
 rcases y4 aa with ⟨c0, aa⟩ | ⟨c0, aa⟩
 ·obtain rfl := zi aa
  exact yE X0 hC hE (Z0 ++ [Hq c0])
 ·obtain ⟨ah, h1, aa⟩ := zk aa
  obtain rfl := zi aa
  exact yE X0 hC hE (Z0 ++ [Hq c0, Hc h0H (x := (l_, m_.Inputs)) h1 (loC Zh l_ <| loC (eI .i64) m_.Inputs <| loN)])
def Uu : Code := (Tryz.f39.body).getD .skip
def uC : yf := spF (α := Unit) (ρ := zh) 39 (fun x => []) (fun r => (zS (eMp (eI .i64) eB) (eMp F0_ eB) (eMp zD eB)) r) (fun x => uU) [] (fun _ _ _ => rfl)
theorem UX (hC : zN Tryz.prog ctr) : uC.Ok Tryz.prog := by
 refine zU ?_
 rintro ⟨⟩ r0 aa
 try unfold uU at aa
 refine z3R (tt := wt) (rs := [(true, 0, some 71)]) (n := ⟨6, []⟩) (body := Uu) zC Tryz.func39 rfl (by kernel_rfl) rfl rfl (by show (0 : Nat) ≤ 6; decide) fun E hE => ?_
 obtain rfl := zi aa
 let ZE : List HO := [Hn (⟨rfl, rfl, rfl, rfl, JT (fun _ => rfl) ([] : List (Int × Bool))⟩ : T.own (.opq (ya (zt (eI .i64) eB ([] : List (Int × Bool))))) = T.own (.opq (ya (zt (eI .i64) eB ([] : List (Int × Bool))))) ∧ 1 = 1 ∧ (JG .i64) ((eI .i64) 0) = true ∧ (eB true).isD = true ∧ ∀ p ∈ zt (eI .i64) eB ([] : List (Int × Bool)), (JG .i64) p.1 = true), Hn (z0s (f := (eI .i64)) (g := eB) 0 true ([] : List (Int × Bool)))]
 exact z6o ((z9j Tryz.prog 4).or ((z9j Tryz.prog 3).or ((zhw z7C 1 (zt (eI .i64) eB ([] : List (Int × Bool))) (zt (eI .i64) eB (QC ([] : List (Int × Bool)) 0 true))).or ((z9j Tryz.prog 1).or X0)))) zC hC XZ hE 4000 (hs := hoH ZE) (x := (.agg [.opq (ya (zt (eI .i64) eB (QC ([] : List (Int × Bool)) 0 true))), .opq (ya (zt F0_ eB ([] : List ((x5 Int) × Bool)))), .opq (ya (zt zD eB ([] : List (z8 × Bool))))])) (hoB ZE) (by kernel_rfl) (LeV.refl _)
def ud : Code := (Tryz.f32.body).getD .skip
abbrev Yk (u0 : Value) (u1 : Value) (u2 : Value) (m_ : z6) (w_ : List Int) (am : List (Int × Bool)) (aq : List ((x5 Int) × Bool)) (cd : Int) (bk : Int) (bo : Int) (eb : Int) (bg : Int) (ak : ze) (bh : List (z8 × Bool)) : List (Nat × T) := [(3, .own (.box (.agg [.opq (vt u0 (zt (eI .i64) eB am)), .opq (vt u1 (zt F0_ eB (QC aq (x5.mk cd bg) true))), .opq (vt u2 (zt zD eB bh))]))), (4, .own (.box (yj m_))), (6, .d (I cd)), (7, .own (.box (.agg [I bk, I bo, I bg]))), (9, .d (I bg)), (10, .d (I ak.To)), (12, .d (eSl 1 false (eI .i64) w_)), (13, .d (I ((w_.length : Nat) : Int))), (14, .d (I eb))]
abbrev Yj (u0 : Value) (u1 : Value) (u2 : Value) (m_ : z6) (w_ : List Int) (am : List (Int × Bool)) (aq : List ((x5 Int) × Bool)) (ar : List (z8 × Bool)) (cd : Int) (bk : Int) (bo : Int) (eb : Int) : List (Nat × T) := [(3, .own (.box (.agg [.opq (vt u0 (zt (eI .i64) eB am)), .opq (vt u1 (zt F0_ eB aq)), .opq (vt u2 (zt zD eB ar))]))), (4, .own (.box (yj m_))), (6, .d (I cd)), (7, .own (.box (.agg [I bk, I bo, I (-1)]))), (12, .d (eSl 1 false (eI .i64) w_)), (13, .d (I ((w_.length : Nat) : Int))), (14, .d (I eb))]
theorem jQ (hC : zN Tryz.prog ctr) : ∀ (m_ : z6) (w_ : List Int) (x_ : zh) (r0 : zh), xE m_ w_ x_ = some r0 → ∀ us : List Value, us.length = 3 → uA Tryz.prog (.fn 32 []) ([] ++ .agg (us.map .atom) :: [.agg [I m_.Inputs, I m_.Outputs, eSl 1 false ue m_.Rows], eSl 1 false (eI .i64) w_]) (Xu us [zt (eI .i64) eB x_.states_, zt F0_ eB x_.edges_, zt zD eB x_.pairs_]) (.tup []) ([zt (eI .i64) eB r0.states_, zt F0_ eB r0.edges_, zt zD eB r0.pairs_].map fun e => .opq (ya e)) := by
 intro m_ w_ x_ r0 aa us hus
 obtain ⟨u0, u1, u2, rfl⟩ := zbj hus
 refine Wo (tt := wt) (nt := 50) (body := ud) (B := 3) [] (xl := []) (xr := [.agg [I m_.Inputs, I m_.Outputs, eSl 1 false ue m_.Rows], eSl 1 false (eI .i64) w_]) (caps := []) (es := [zt (eI .i64) eB x_.states_, zt F0_ eB x_.edges_, zt zD eB x_.pairs_]) (es' := [zt (eI .i64) eB r0.states_, zt F0_ eB r0.edges_, zt zD eB r0.pairs_]) (us := [u0, u1, u2]) (r := .tup []) Tryz.func32 rfl (by kernel_rfl) rfl rfl (by decide) (by show (3 : Nat) ≤ 50; decide) rfl rfl (.inl ⟨rfl, rfl⟩) fun E hE => ?_
 try unfold xE at aa
 obtain ⟨t1, ht1, aa⟩ := zk aa
 refine yL X0 hC ud [1,1,1,1,0] [] (fun s => xy m_ w_ s.1 s.2.1 s.2.2.1 s.2.2.2.1 s.2.2.2.2.1 s.2.2.2.2.2.1 s.2.2.2.2.2.2) (fun x => Yj u0 u1 u2 m_ w_ x.1 x.2.1 x.2.2.1 x.2.2.2.1 x.2.2.2.2.1 x.2.2.2.2.2.1 x.2.2.2.2.2.2) (x_.states_, x_.edges_, x_.pairs_, 0, (-1), (-1), 0) ht1  [Ha (lnM (eI .i64) w_)] ?_
 rintro ⟨am, aq, ar, cd, bk, bo, eb⟩ m1 bi ae hl1 J1 ay
 try unfold xy at ae
 rcases y4 ae with ⟨c0, ae⟩ | ⟨c0, ae⟩
 ·obtain ⟨bg, h0, ae⟩ := zk ae
  obtain ⟨au, h1, ae⟩ := zk ae
  obtain ⟨ak, h2, ae⟩ := zk ae
  let Z0 : List HO := [Hq c0, Hi (eI .i64) h0, Hi ue h1, Hi F9_ h2]
  rcases y4 ae with ⟨c1, ae⟩ | ⟨c1, ae⟩
  ·obtain rfl := zi ae
   obtain rfl := hl1
   obtain rfl := zi aa
   exact yF X0 hC .ret [(3, .own (.box (.agg [.opq (vt u0 (zt (eI .i64) eB am)), .opq (vt u1 (zt F0_ eB aq)), .opq (vt u2 (zt zD eB ar))])))] (Z0 ++ [Hq c1]) fun st0 h0 => hE _ st0 (.inr rfl) (JE h0 rfl rfl) zgZ
  ·refine yJ ((z9h zax 30 (ZA u1 (zt F0_ eB aq)) (zt F0_ eB (QC aq (x5.mk cd bg) true))).or X0) hC ud [1,1,1,1,0,0,1,1,0,0,1,1,1,1] [J1] [3,4,6,7,9,10,12,13,14] (fun z : List (z8 × Bool) => yH am aq cd eb bg ak z = some bi) (fun z => Yk u0 u1 u2 m_ w_ am aq cd bk bo eb bg ak z) [(3, .own (.box (.agg [.opq (vt u0 (zt (eI .i64) eB am)), .opq (vt u1 (zt F0_ eB (QC aq (x5.mk cd bg) true))), .opq (vt u2 (zt zD eB ar))]))), (4, .own (.box (yj m_))), (6, .d (I cd)), (7, .own (.box (.agg [I bk, I bo, I (-1)]))), (9, .d (I bg)), (10, .d (I ak.To)), (12, .d (eSl 1 false (eI .i64) w_)), (13, .d (I ((w_.length : Nat) : Int))), (14, .d (I eb))] (Z0 ++ [Hq c1, Hn (⟨rfl, rfl, rfl, rfl, rfl, rfl, JT (fun _ => rfl) aq⟩ : (some (A.opq (vt u1 (zt F0_ eB aq))) : Option A) = some (A.opq (vt u1 (zt F0_ eB aq))) ∧ true = true ∧ 0 = 0 ∧ 0 = 0 ∧ (Vw [.i64, .i64]) (F0_ (x5.mk cd bg)) = true ∧ (eB true).isD = true ∧ ∀ p ∈ zt F0_ eB aq, (Vw [.i64, .i64]) p.1 = true), Hn (z0s (f := F0_) (g := eB) (x5.mk cd bg) true aq), Hh (.cut 1)]) ?_ fun J2 a6 => ?_
   ·rintro bh ae
    unfold yH at ae
    obtain rfl := zi ae
    exact yB ((z9h z7C 47 (ZA u0 (zt (eI .i64) eB am)) (zt (eI .i64) eB (QC am ak.To true))).or X0) hC ay ((QC am ak.To true), (QC aq (x5.mk cd bg) true), bh, ak.To, cd, bg, w64 (eb + 1)) hl1 [Hn (⟨rfl, rfl, rfl, rfl, rfl, rfl, JT (fun _ => rfl) am⟩ : (some (A.opq (vt u0 (zt (eI .i64) eB am))) : Option A) = some (A.opq (vt u0 (zt (eI .i64) eB am))) ∧ true = true ∧ 0 = 0 ∧ 0 = 0 ∧ (JG .i64) ((eI .i64) ak.To) = true ∧ (eB true).isD = true ∧ ∀ p ∈ zt (eI .i64) eB am, (JG .i64) p.1 = true), Hn (z0s (f := (eI .i64)) (g := eB) ak.To true am)]
   ·rcases y4 ae with ⟨c2, ae⟩ | ⟨c2, ae⟩
    ·exact yB ((z9h zaw 40 (ZA u2 (zt zD eB ar)) (zt zD eB (QC ar (z8.mk bk bo bg) true))).or X0) hC a6 (QC ar (z8.mk bk bo bg) true) ae [Hq c2, Hn (⟨rfl, rfl, rfl, rfl, rfl, rfl, JT (fun _ => rfl) ar⟩ : (some (A.opq (vt u2 (zt zD eB ar))) : Option A) = some (A.opq (vt u2 (zt zD eB ar))) ∧ true = true ∧ 0 = 0 ∧ 0 = 0 ∧ (Vw [.i64, .i64, .i64]) (zD (z8.mk bk bo bg)) = true ∧ (eB true).isD = true ∧ ∀ p ∈ zt zD eB ar, (Vw [.i64, .i64, .i64]) p.1 = true), Hn (z0s (f := zD) (g := eB) (z8.mk bk bo bg) true ar)]
    ·exact yB X0 hC a6 ar ae [Hq c2]
 ·obtain rfl := zi ae
  obtain rfl := hl1
  obtain rfl := zi aa
  exact yF X0 hC .normal [(3, .own (.box (.agg [.opq (vt u0 (zt (eI .i64) eB am)), .opq (vt u1 (zt F0_ eB aq)), .opq (vt u2 (zt zD eB ar))])))] [Hq c0] fun st0 h0 => hE _ st0 (.inl rfl) (JE h0 rfl rfl) zgZ
def uP : Code := (Tryz.f24.body).getD .skip
def xh : yf := spF (α := z6 × List (List Int)) (ρ := zh) 24 (fun x => [yj x.1, Zh x.2]) (fun r => (zS (eMp (eI .i64) eB) (eMp F0_ eB) (eMp zD eB)) r) (fun x => yq x.1 x.2) [] (VS)
abbrev Xo (am : List (Int × Bool)) (aq : List ((x5 Int) × Bool)) (ar : List (z8 × Bool)) : List (Nat × T) := [(4, .own (.box (.agg [.atom (.map none), .atom (.map none), .atom (.map none)]))), (5, .own (.box (.agg [.opq (ya (zt (eI .i64) eB am)), .opq (ya (zt F0_ eB aq)), .opq (ya (zt zD eB ar))])))]
abbrev Xn (m_ : z6) (l_ : List (List Int)) (bm : List (Int × Bool)) (bu : List ((x5 Int) × Bool)) (bh : List (z8 × Bool)) (dy : Int) : List (Nat × T) := [(2, .own (.box (yj m_))), (4, .own (.box (.agg [.atom (.map none), .atom (.map none), .atom (.map none)]))), (5, .own (.box (.agg [.opq (ya (zt (eI .i64) eB bm)), .opq (ya (zt F0_ eB bu)), .opq (ya (zt zD eB bh))]))), (9, .d (eSl 1 false F7_ l_)), (10, .d (I ((l_.length : Nat) : Int))), (11, .d (I dy))]
theorem WK (hC : zN Tryz.prog ctr) (h0g : ctr.Has uC) : xh.Ok Tryz.prog := by
 refine zU ?_
 rintro ⟨m_, l_⟩ r0 aa
 try unfold yq at aa
 refine z3R (tt := wt) (rs := [(true, 4, some 71)]) (n := ⟨21, []⟩) (body := uP) zC Tryz.func24 rfl (by kernel_rfl) rfl rfl (by show (2 : Nat) ≤ 21; decide) fun E hE => ?_
 obtain ⟨r_, h0, aa⟩ := zk aa
 refine yJ X0 hC uP [1,1] [] [4,5] (fun z : (List (Int × Bool)) × (List ((x5 Int) × Bool)) × (List (z8 × Bool)) => uO z.1 z.2.1 z.2.2 = some r0) (fun z => Xo z.1 z.2.1 z.2.2) [(1, .d (eSl 1 false F7_ l_)), (2, .own (.box (yj m_))), (4, .own (.box (.agg [.atom (.map none), .atom (.map none), .atom (.map none)]))), (5, .own (.box ((zS (eMp (eI .i64) eB) (eMp F0_ eB) (eMp zD eB)) r_)))] [Hc h0g (x := ()) h0 (loN), Hh (.cut 0)] ?_ fun J1 ay => ?_
 ·rintro ⟨am, aq, ar⟩ aa
  unfold uO at aa
  obtain rfl := zi aa
  let ZE : List HO := []
  exact z6o X0 zC hC XZ hE 4000 (hs := hoH ZE) (x := (.agg [.opq (ya (zt (eI .i64) eB am)), .opq (ya (zt F0_ eB aq)), .opq (ya (zt zD eB ar))])) (hoB ZE) (by kernel_rfl) (LeV.refl _)
 ·obtain ⟨t2, ht2, aa⟩ := zk aa
  refine yL X0 hC uP [1,1,2,1,0] [J1] (fun s => xm m_ l_ s.1 s.2.1 s.2.2.1 s.2.2.2) (fun x => Xn m_ l_ x.1 x.2.1 x.2.2.1 x.2.2.2) (r_.states_, r_.edges_, r_.pairs_, 0) ht2  [Ha (lnM F7_ l_)] ?_
  rintro ⟨bm, bu, bh, dy⟩ m2 bi ae hl1 J2 a6
  try unfold xm at ae
  rcases y4 ae with ⟨c0, ae⟩ | ⟨c0, ae⟩
  ·obtain ⟨bf, h1, ae⟩ := zk ae
   obtain ⟨ah, h2, ae⟩ := zk ae
   obtain rfl := zi ae
   exact yB ((Ym (P := Tryz.prog) wt 5 0 [.deref] (fa := .fn 32 []) (r := .tup []) (xl := []) (xr := [yj m_, F7_ bf]) (qs := [(ya (zt (eI .i64) eB bm)), (ya (zt F0_ eB bu)), (ya (zt zD eB bh))]) (qs' := [(ya (zt (eI .i64) eB ah.states_)), (ya (zt F0_ eB ah.edges_)), (ya (zt zD eB ah.pairs_))]) (es := [(zt (eI .i64) eB bm), (zt F0_ eB bu), (zt zD eB bh)]) (es' := [(zt (eI .i64) eB ah.states_), (zt F0_ eB ah.edges_), (zt zD eB ah.pairs_)]) (.inr rfl) (z4c (by kernel_rfl)) (.cons (wm (zt (eI .i64) eB bm)) (.cons (wm (zt F0_ eB bu)) (.cons (wm (zt zD eB bh)) (.nil)))) (fun us hu => jQ hC _ _ _ _ h2 us hu) (some 18)).or X0) hC a6 (ah.states_, ah.edges_, ah.pairs_, w64 (dy + 1)) hl1 [Hq c0, Hi F7_ h1, Hn (⟨rfl, leP (show VR [] [] from inferInstance), leP (show VR [yj m_, F7_ bf] [yj m_, F7_ bf] from inferInstance), rfl, rfl⟩ : ([.fn 32 []] : List A) = [.fn 32 []] ∧ LeP [] [] ∧ LeP [yj m_, F7_ bf] [yj m_, F7_ bf] ∧ T.als 5 [.deref] 0 0 = T.als 5 [.deref] 0 0 ∧ (some (.agg [.opq (ya (zt (eI .i64) eB bm)), .opq (ya (zt F0_ eB bu)), .opq (ya (zt zD eB bh))]) : Option A) = some (.agg [.opq (ya (zt (eI .i64) eB bm)), .opq (ya (zt F0_ eB bu)), .opq (ya (zt zD eB bh))]))]
  ·obtain rfl := zi ae
   obtain rfl := hl1
   exact yB X0 hC ay (bm, bu, bh) aa [Hq c0]
def Us : Code := (Tryz.f75.body).getD .skip
def jt : yf := spF (α := z6 × Int) (ρ := z6 × Int) 75 (fun x => [yj x.1, (eI .i64) x.2]) (fun r => (zi9 85 z8x (eSp (eI .i64))) r) (fun x => jH x.1 x.2) [] (VS)
theorem UU (hC : zN Tryz.prog ctr) : jt.Ok Tryz.prog := by
 refine zU ?_
 rintro ⟨m_, from_⟩ r0 aa
 try unfold jH at aa
 refine yO true [(4, none)] Us 6 Tryz.func75 fun E hE => ?_
 obtain rfl := zi aa
 exact yEx X0 hC hE [] (.fn 85 [.sptr (.agg [I m_.Inputs, I m_.Outputs, eSl 1 false ue m_.Rows]), .sptr (I from_)]) (show LeV (.fn 85 [.sptr (.agg [I m_.Inputs, I m_.Outputs, eSl 1 false ue m_.Rows]), .sptr (I from_)]) (.fn 85 [.sptr (.agg [I (((m_, from_).1).Inputs), I (((m_, from_).1).Outputs), eSl 1 false ue (((m_, from_).1).Rows)]), .sptr (I ((m_, from_).2))]) from inferInstance)
def yY : Code := (Tryz.f85.body).getD .skip
abbrev Xy (x0 : z6) (YY : σ → z2Y) (a7 : zj) (yr : σ × Bool) (au : List ze) (da : Int) (fy : List Bool) (fl : List zj) : List (Nat × T) := [(0, .own (.opq (YY yr.1).q)), (1, .d (.sptr (yj x0))), (4, .own (eOs 1 true eB fy)), (5, .own (eDq 3 qP fl)), (6, .own (.box (qP a7))), (36, .d (eSl 2 false F9_ au)), (37, .d (I ((au.length : Nat) : Int))), (38, .d (I da))]
abbrev Xw (x0 : z6) (YY : σ → z2Y) (a7 : zj) (yr : σ × Bool) (au : List ze) (cw : List Bool) (cb : List zj) (da : Int) : List (Nat × T) := [(0, .own (.opq (YY yr.1).q)), (1, .d (.sptr (yj x0))), (4, .own (eOs 1 true eB cw)), (5, .own (eDq 3 qP cb)), (6, .own (.box (qP a7))), (36, .d (eSl 2 false F9_ au)), (37, .d (I ((au.length : Nat) : Int))), (38, .d (I da))]
abbrev Xx (x0 : z6) (YY : σ → z2Y) (fj : σ) (fm : List Bool) (bl : List zj) : List (Nat × T) := [(0, .own (.opq (YY fj).q)), (1, .d (.sptr (yj x0))), (4, .own (eOs 1 true eB fm)), (5, .own (eDq 3 qP bl))]
theorem Vj (hC : zN Tryz.prog ctr) (x0 : z6) (x1 : Int) : z8u Tryz.prog (.fn 85 [.sptr (.agg [I x0.Inputs, I x0.Outputs, eSl 1 false ue x0.Rows]), .sptr (I x1)]) (fun (x : zj) (_ : Bool) (_ : Value) => [qP x]) (@vW x0 x1) := by
 refine zaE (tt := wt) (nt := 68) (body := yY) zC Tryz.func85 rfl (by kernel_rfl) rfl rfl (by show (3 : Nat) ≤ 68; decide) ?_
 intro σ yv YY yy hy sg r0 aa E hE
 unfold vW at aa
 obtain ⟨g0, aa⟩ := gdE aa
 obtain ⟨i4, h0, aa⟩ := zk aa
 obtain ⟨t1, ht1, aa⟩ := zk aa
 refine yLx X0 hC yY [1,1,1,0] [] (fun s => wu x0 yy s.1 s.2.1 s.2.2) (fun x => Xx x0 YY x.1 x.2.1 x.2.2) (sg, ((List.replicate ((x0.Rows.length : Nat) : Int).toNat false).set x1.toNat true), ([(zj.mk x1 (-1) (-1))] : List zj)) ht1 [(0, .own (.opq (YY sg).q)), (1, .d (.sptr (yj x0))), (4, .own (eOs 1 true eB ((List.replicate ((x0.Rows.length : Nat) : Int).toNat false).set x1.toNat true))), (5, .own (eOs 3 true qP ([(zj.mk x1 (-1) (-1))])))] inferInstance [Ha (lnM ue x0.Rows), Hn (rL g0), Ha (rM 1 eB ((x0.Rows.length : Nat) : Int) false), Hn (iL eB h0), Hs (iM eB h0), Hs (iM eB h0), Hl (sM eB (List.replicate ((x0.Rows.length : Nat) : Int).toNat false) x1 true)] ?_
 rintro ⟨fj, fm, bl⟩ m1 bi ae hl1 J1 ay
 try unfold wu at ae
 let Z0 : List HO := [Hn (rfl : eDq 3 qP bl = A.opq (Jv 3 (bl.map qP)).q), Ha (lnM qP bl)]
 rcases y4 ae with ⟨c0, ae⟩ | ⟨c0, ae⟩
 ·refine yA ((xQl zC 20 149 3 (bl.map qP) (by kernel_rfl)).or X0) hC yY [1,1,1,0,0,1,0] [J1] [(0, .own (.opq (YY fj).q)), (1, .d (.sptr (yj x0))), (4, .own (eOs 1 true eB fm)), (5, .own (eDq 3 qP bl))] (Z0 ++ [Hq c0, Hh (.cut 0)]) ?_
  obtain ⟨a7, h1, ae⟩ := zk ae
  refine z2c (by kernel_rfl) (x := (sub [1,1,1,0,0,1,0,0] yY)) (y := (sub [1,1,1,0,0,1,0,1] yY)) 5 (fun st1 => Own.canon [0,1,4,5,6] st1 = ofL [(0, .own (.opq (YY fj).q)), (1, .d (.sptr (yj x0))), (4, .own (eOs 1 true eB fm)), (5, .own (eDq 3 qP bl)), (6, .own (.box (qP a7)))]) (fun gc => yF ((xQd zC 24 3 5 gc (0 : Int) (bl.map qP) (qP a7)).or ((xQi zC 23 3 5 gc (bl.map qP)).or X0)) hC .normal [(0, .own (.opq (YY fj).q)), (1, .d (.sptr (yj x0))), (4, .own (eOs 1 true eB fm)), (5, .own (eDq 3 qP bl)), (6, .own (.box (qP a7)))] [Hn (⟨rfl, rfl, rfl, rfl, i0 h1, (iL qP h1).2⟩ : T.als 5 [] 0 0 = T.als 5 [] 0 0 ∧ some gc = some gc ∧ T.own (eDq 3 qP bl) = T.own (eDq 3 qP bl) ∧ some 3 = some 3 ∧ (0 : Int) ≤ 0 ∧ (0 : Int).toNat < (bl.map qP).length), Hn (⟨rfl, rfl, rfl, iM qP h1, rfl, Vi.isD a7⟩ : T.d (.atom (z4a 3 gc (0 : Int))) = T.d (.atom (z4a 3 gc (0 : Int))) ∧ some gc = some gc ∧ T.own (eDq 3 qP bl) = T.own (eDq 3 qP bl) ∧ (bl.map qP)[(0 : Int).toNat]? = some (qP a7) ∧ true = true ∧ (qP a7).isD = true)] fun st0 h0 => ⟨rfl, h0⟩) fun st1 h1 => z6n h1 ?_
  obtain ⟨g1, ae⟩ := gdE ae
  obtain ⟨yr, h2, ae⟩ := zk ae
  let Z1 : List HO := [Hn (rfl : eDq 3 qP bl = A.opq (Jv 3 (bl.map qP)).q), Hn (⟨g1.1, cuB qP g1⟩ : (0 : Int) ≤ 1 ∧ (1 : Int).toNat ≤ (bl.map qP).length), Hn (drM qP bl (1 : Int).toNat), Hn (z9V (yv := yv) (Y := YY) (enc := (fun (x : zj) (_ : Bool) (_ : Value) => [qP x])) (s := fj) (x := a7) (s' := yr.1) (b := yr.2) (v := .nilFunc) [qP a7] (show VR [qP a7] [qP a7] from inferInstance))]
  rcases y4 ae with ⟨c1, ae⟩ | ⟨c1, ae⟩
  ·obtain rfl := zi ae
   obtain rfl := hl1
   obtain rfl := zi aa
   exact yF ((z8z (P := Tryz.prog) wt hy 29 (s := fj) (x := a7) (s' := yr.1) (b := yr.2) .nilFunc h2).or ((xQs zC 26 3 (bl.map qP) ((bl.drop (1 : Int).toNat).map qP)).or X0)) hC .ret [(0, .own (.opq (YY yr.1).q))] (Z1 ++ [Hq c1]) fun st0 h0 => hE _ st0 (.inr rfl) h0
  ·obtain ⟨au, h3, ae⟩ := zk ae
   obtain ⟨t2, ht2, ae⟩ := zk ae
   refine yL ((z8z (P := Tryz.prog) wt hy 29 (s := fj) (x := a7) (s' := yr.1) (b := yr.2) .nilFunc h2).or ((xQs zC 26 3 (bl.map qP) ((bl.drop (1 : Int).toNat).map qP)).or X0)) hC yY [1,1,1,0,0,1,0,1,1,1,1,0] [J1] (fun s => xC a7 yr au s.1 s.2.1 s.2.2) (fun x => Xw x0 YY a7 yr au x.1 x.2.1 x.2.2) (fm, (bl.drop (1 : Int).toNat), 0) ht2  (Z1 ++ [Hq c1, Hi ue h3, Ha (lnM F9_ au)]) ?_
   rintro ⟨cw, cb, da⟩ m2 fh aj hl2 J2 a6
   try unfold xC at aj
   rcases y4 aj with ⟨c2, aj⟩ | ⟨c2, aj⟩
   ·refine yJ X0 hC yY [1,1,1,0,0,1,0,1,1,1,1,0,0,1,1] [J1, J2] [0,1,4,5,6,36,37,38] (fun z : List Bool × List zj => yp da z.1 z.2 = some fh) (fun z => Xy x0 YY a7 yr au da z.1 z.2) [(0, .own (.opq (YY yr.1).q)), (1, .d (.sptr (yj x0))), (4, .own (eOs 1 true eB cw)), (5, .own (eDq 3 qP cb)), (6, .own (.box (qP a7))), (36, .d (eSl 2 false F9_ au)), (37, .d (I ((au.length : Nat) : Int))), (38, .d (I da))] [Hq c2, Hh (.cut 0)] ?_ fun J3 ca => ?_
    ·rintro ⟨fy, fl⟩ aj
     unfold yp at aj
     obtain rfl := zi aj
     exact yB X0 hC a6 (fy, fl, w64 (da + 1)) hl2 []
    ·obtain ⟨ak, h4, aj⟩ := zk aj
     let Z2 : List HO := [Hi F9_ h4]
     rcases y4 aj with ⟨c3, aj⟩ | ⟨c3, aj⟩
     ·obtain ⟨gy, h5, aj⟩ := zk aj
      let Z3 : List HO := (Z2 ++ (rpN 4 (Hq c3) [Hn (iL eB h5), Hq c3, Hs (iM eB h5), Hq c3, Hq c3]))
      rcases y4 aj with ⟨c4, aj⟩ | ⟨c4, aj⟩
      ·obtain ⟨iu, h6, aj⟩ := zk aj
       obtain ⟨g2, aj⟩ := gdE aj
       exact yB ((xQa zC 66 3 (cb.map qP) ((cb ++ ([(zj.mk ak.To a7.state_ da)] : List zj)).map qP)).or X0) hC ca ((cw.set ak.To.toNat true), (cb ++ ([(zj.mk ak.To a7.state_ da)] : List zj))) aj (Z3 ++ [Hq c4, Hn (iL eB h6), Hs (iM eB h6), Hs (iM eB h6), Hl (sM eB cw ak.To true), Hn (⟨rfl, dM qP ([(zj.mk ak.To a7.state_ da)] : List zj), rfl⟩ : 3 = 3 ∧ A.areD (([(zj.mk ak.To a7.state_ da)] : List zj).map qP) = true ∧ true = true), Hn (⟨rfl, aL qP qP g2, dM qP cb⟩ : eDq 3 qP cb = A.opq (Jv 3 (cb.map qP)).q ∧ (cb.map qP).length + (([(zj.mk ak.To a7.state_ da)] : List zj).map qP).length ≤ lim ∧ A.areD (cb.map qP) = true), Hn (aM qP cb ([(zj.mk ak.To a7.state_ da)] : List zj))])
      ·exact yB X0 hC ca (cw, cb) aj (Z3 ++ [Hq c4])
     ·exact yB X0 hC ca (cw, cb) aj (Z2 ++ (rpN 7 (Hq c3) [qF]))
   ·obtain rfl := zi aj
    obtain rfl := hl2
    obtain rfl := zi ae
    exact yB X0 hC ay (yr.1, cw, cb) hl1 [Hq c2]
 ·obtain rfl := zi ae
  obtain rfl := hl1
  obtain rfl := zi aa
  exact yF ((xQl zC 20 149 3 (bl.map qP) (by kernel_rfl)).or X0) hC .normal [(0, .own (.opq (YY fj).q))] (Z0 ++ [Hq c0]) fun st0 h0 => hE _ st0 (.inl rfl) h0
def Xd : Code := (Tryz.f31.body).getD .skip
def yg : yf := spF (α := List Int) (ρ := List Int) 31 (fun x => [F7_ x]) (fun r => F6_ r) (fun x => zT x) [] (Ke)
theorem Xt (hC : zN Tryz.prog ctr) : yg.Ok Tryz.prog := by
 refine zU ?_
 rintro s_ r0 aa
 try unfold zT at aa
 refine yO true [(2, none)] Xd 8 Tryz.func31 fun E hE => ?_
 refine z2U rfl 0 (sz := 1) (t := false) (es := s_.map (eI .i64)) (by kernel_rfl) fun az hv0 hn => ?_
 rcases hn with ⟨hn0, he0⟩ | hn0
 ·obtain ⟨_, aa⟩ := gdE aa
  rw [show s_ = [] from List.map_eq_nil_iff.1 he0] at aa
  obtain rfl := zi aa
  exact yEx ((zbd zC 4 51 (by kernel_rfl) hn0).or ((xMv Tryz.prog 3 0 az hv0).or X0)) hC hE [Hn (rfl : some az = some az), Hn (⟨rfl, rfl⟩ : T.d (.atom az) = T.d (.atom az) ∧ T.d (.atom (.slice none 0 0)) = T.d (.atom (.slice none 0 0))), qT] (eOs 1 true (eI .i64) []) (show LeV (eOs 1 true (eI .i64) []) (eOs 1 false (eI .i64) ([] : List Int)) from inferInstance)
 ·obtain ⟨g0, aa⟩ := gdE aa
  obtain rfl := zi aa
  exact yE ((zbd zC 4 51 (by kernel_rfl) hn0).or ((xMv Tryz.prog 3 0 az hv0).or X0)) hC hE [Hn (rfl : some az = some az), Hn (⟨rfl, rfl⟩ : T.d (.atom az) = T.d (.atom az) ∧ T.d (.atom (.slice none 0 0)) = T.d (.atom (.slice none 0 0))), qF, Hn (dM (eI .i64) s_), Hn (aL (eI .i64) (eI .i64) g0), Hl (aM0 (eI .i64) s_)]
def Xv : Code := (Tryz.f30.body).getD .skip
def ym : yf := spF (α := List Int) (ρ := List Int) 30 (fun x => [F7_ x]) (fun r => F2_ r) (fun x => y5 x) [] (Ke)
theorem XO (hC : zN Tryz.prog ctr) : ym.Ok Tryz.prog := by
 refine zU ?_
 rintro s_ r0 aa
 try unfold y5 at aa
 refine yO true [(2, none)] Xv 9 Tryz.func30 fun E hE => ?_
 obtain ⟨g0, aa⟩ := gdE aa
 obtain rfl := zi aa
 exact yE X0 hC hE [Ha (lnM (eI .i64) s_), Ha (lnM (eI .i64) s_), Hn (slB g0), Hn (slC g0), Hn (zbT (eI .i64) g0), Ha (zgS 1 (eI .i64) s_ 0 ((s_.length : Nat) : Int).toNat)]
def ub : Code := (Tryz.f62.body).getD .skip
def Y6 : yf := spF (α := z6 × Int) (ρ := List (List Int) × List Bool) 62 (fun x => [yj x.1, (eI .i64) x.2]) (fun r => .tup [z4o r.1, (eSl 1 true eB) r.2]) (fun x => Zi x.1 x.2) [] (VS)
abbrev Uv (l_ : List (List Int)) (is : List Bool) : List (Nat × T) := [(6, .own (.box (eOs 1 true F2_ l_))), (7, .own (.box (eOs 1 true eB is)))]
abbrev jF (r_ : z6 × Int) (bn : List (List Int)) (ck : List Bool) : List (Nat × T) := [(6, .own (.box (eOs 1 true F2_ bn))), (7, .own (.box (eOs 1 true eB ck))), (19, .d (.fn 85 [.sptr (.agg [I r_.1.Inputs, I r_.1.Outputs, eSl 1 false ue r_.1.Rows]), .sptr (I r_.2)]))]
theorem z0a (hC : zN Tryz.prog ctr) (h0I : ctr.Has jt) (h01 : ctr.Has yg) (h00 : ctr.Has ym) : Y6.Ok Tryz.prog := by
 refine zU ?_
 rintro ⟨m_, from_⟩ r0 aa
 try unfold Zi at aa
 refine yO false [(4, none), (5, none)] ub 45 Tryz.func62 fun E hE => ?_
 obtain ⟨g0, aa⟩ := gdE aa
 obtain ⟨g1, aa⟩ := gdE aa
 refine yJ ((xMs zC 12 51).or X0) hC ub [1,1] [] [6,7] (fun z : List (List Int) × List Bool => jG z.1 z.2 = some r0) (fun z => Uv z.1 z.2) [(1, .d (I from_)), (2, .own (.box (yj m_))), (6, .own (.box (eOs 1 true F2_ (List.replicate ((m_.Rows.length : Nat) : Int).toNat ([] : List Int))))), (7, .own (.box (eOs 1 true eB (List.replicate ((m_.Rows.length : Nat) : Int).toNat false))))] [Ha (lnM ue m_.Rows), Hn (rL g0), Ha (rM 1 F2_ ((m_.Rows.length : Nat) : Int) ([] : List Int)), Ha (lnM ue m_.Rows), Hn (rL g1), Ha (rM 1 eB ((m_.Rows.length : Nat) : Int) false), Hh (.cut 0)] ?_ fun J1 ay => ?_
 ·rintro ⟨l_, is⟩ aa
  unfold jG at aa
  obtain rfl := zi aa
  exact yE X0 hC hE [Hm (shM F2_ F2_ l_), Hm (shM eB eB is)]
 ·obtain ⟨r_, h0, aa⟩ := zk aa
  obtain ⟨t2, ht2, aa⟩ := zk aa
  refine yAt X0 hC (sub [1,1,2,1,0] ub) (frs [1,1,2,1,0] [J1] ub []) [(6, .own (.box (eOs 1 true F2_ (List.replicate ((m_.Rows.length : Nat) : Int).toNat ([] : List Int))))), (7, .own (.box (eOs 1 true eB (List.replicate ((m_.Rows.length : Nat) : Int).toNat false)))), (19, .d (.fn 85 [.sptr (.agg [I r_.1.Inputs, I r_.1.Outputs, eSl 1 false ue r_.1.Rows]), .sptr (I r_.2)]))] [Hc h0I (x := (m_, from_)) h0 (loC yj m_ <| loC (eI .i64) from_ <| loN)] fun st0 h0 => ?_
  refine zb8 (g := .tmp 19) (ps := [20]) (assign := (sub [1,1,2,1,0,0] ub)) (body := (sub [1,1,2,1,0,1] ub)) (K := 85) (caps := [.sptr (.agg [I r_.1.Inputs, I r_.1.Outputs, eSl 1 false ue r_.1.Rows]), .sptr (I r_.2)]) (by kernel_rfl) [6,7,19] (fun s => jF r_ s.1 s.2) (fun z => nomatch z) (fun z => nomatch z) ((fun (x : zj) (_ : Bool) (_ : Value) => [qP x])) (F := @vW r_.1 r_.2) (fun s x => xI s.1 s.2 x) ((List.replicate ((m_.Rows.length : Nat) : Int).toNat ([] : List Int)), (List.replicate ((m_.Rows.length : Nat) : Int).toNat false)) t2 _ h0 inferInstance (by kernel_rfl) (by decide) (fun _ => rfl) (by rintro ⟨⟩) (by kernel_rfl) (fun _ _ _ => rfl) (Vj hC r_.1 r_.2) ht2 ?_ ?_
  ·rintro i5 ⟨bn, ck⟩ bz vr bi ae
   replace ae : xI bn ck bz = some bi := ae
   unfold xI at ae
   refine yF X0 hC .normal [(6, .own (.box (eOs 1 true F2_ bn))), (7, .own (.box (eOs 1 true eB ck))), (8, .own (.box (qP bz))), (19, .d (.fn 85 [.sptr (.agg [I r_.1.Inputs, I r_.1.Outputs, eSl 1 false ue r_.1.Rows]), .sptr (I r_.2)]))] [] fun st0 h0 => ⟨rfl, z6n h0 ?_⟩
   obtain ⟨gx, h1, ae⟩ := zk ae
   let Z0 : List HO := [Hn (iL eB h1), Hs (iM eB h1), Hs (iM eB h1), Hl (sM eB ck bz.state_ true)]
   rcases y4 ae with ⟨c0, ae⟩ | ⟨c0, ae⟩
   ·obtain ⟨bf, h2, ae⟩ := zk ae
    obtain ⟨ah, h3, ae⟩ := zk ae
    obtain ⟨g2, ae⟩ := gdE ae
    obtain ⟨al, h4, ae⟩ := zk ae
    obtain ⟨cn, h5, ae⟩ := zk ae
    obtain rfl := zi ae
    exact yF X0 hC .normal (jF r_ (bn.set bz.state_.toNat al) (ck.set bz.state_.toNat true)) (Z0 ++ [Hq c0, Hn (iL F2_ h2), Hs (iM F2_ h2), Hc h01 (x := bf) h3 (loC F2_ bf <| loN), Hq (dM (eI .i64) ([bz.input_] : List Int)), Hn (dM (eI .i64) ([bz.input_] : List Int)), Hn (aL (eI .i64) (eI .i64) g2), Hl (aM (eI .i64) ah ([bz.input_] : List Int)), Hg (KT h00), Hm (shM (eI .i64) (eI .i64) (ah ++ ([bz.input_] : List Int))), Hs (KU h00 (x := (ah ++ ([bz.input_] : List Int))) h4 (loC F7_ (ah ++ ([bz.input_] : List Int)) <| loN)), Hm (shM (eI .i64) (eI .i64) (ah ++ ([bz.input_] : List Int))), Hn (iL F2_ h5), Hs (iM F2_ h5), Hs (iM F2_ h5), Hl (sM F2_ bn bz.state_ al)]) fun st0 h0 => ⟨rfl, _, h0, LeL.refl _⟩
   ·obtain rfl := zi ae
    exact yF X0 hC .normal (jF r_ bn (ck.set bz.state_.toNat true)) (Z0 ++ [Hq c0]) fun st0 h0 => ⟨rfl, _, h0, LeL.refl _⟩
  ·rcases t2 with ⟨bn, ck⟩ | z
   ·dsimp only at aa
    exact z2d (by kernel_rfl) (ay _ [(6, .own (.box (eOs 1 true F2_ bn))), (7, .own (.box (eOs 1 true eB ck)))] (bn, ck) aa (show Own.canon [6,7] _ = ofL _ by kernel_rfl) inferInstance)
   ·cases z
def K0 : Code := (Tryz.f45.body).getD .skip
def Zo : yf := spF (α := z6) (ρ := List (List Int) × List Bool × Int) 45 (fun x => [yj x]) (fun r => .tup [z4o r.1, (eSl 1 true eB) r.2.1, (eI .i64) r.2.2]) (fun x => jP x) [] (Ke)
theorem Ki (hC : zN Tryz.prog ctr) (h0f : ctr.Has uB) (h0J : ctr.Has Y6) : Zo.Ok Tryz.prog := by
 refine zU ?_
 rintro m_ r0 aa
 try unfold jP at aa
 refine yO false [(2, none), (3, none), (4, none)] K0 20 Tryz.func45 fun E hE => ?_
 obtain ⟨r_, h0, aa⟩ := zk aa
 let Z0 : List HO := [Hc h0f (x := m_) h0 (loC yj m_ <| loN)]
 rcases y4 aa with ⟨c0, aa⟩ | ⟨c0, aa⟩
 ·obtain rfl := zi aa
  exact yEx X0 hC hE (Z0 ++ [Hq c0, Hm (shM F7_ F7_ []), Hm (shM eB eB [])]) (.tup [eSl 1 true F2_ [], eSl 1 true eB [], I r_]) (show LeV (.tup [eSl 1 true F2_ [], eSl 1 true eB [], I r_]) (.tup [eSl 1 true F2_ ([] : List (List Int)), eSl 1 true eB ([] : List Bool), I r_]) from inferInstance)
 ·obtain ⟨ah, h1, aa⟩ := zk aa
  obtain rfl := zi aa
  exact yE X0 hC hE (Z0 ++ [Hq c0, Hc h0J (x := (m_, 0)) h1 (loC yj m_ <| loC (eI .i64) 0 <| loN)])
def xu : Code := (Tryz.f26.body).getD .skip
def wP : yf := spF (α := z6 × Int) (ρ := List zb) 26 (fun x => [yj x.1, (eI .i64) x.2]) (fun r => (eOs 5 false (zc F7_ zD zF)) r) (fun x => v8 x.1 x.2) [] (VS)
abbrev Vf (out : List zb) : List (Nat × T) := [(8, .own (eOs 5 false (zc F7_ zD zF) out))]
abbrev Ve (m_ : z6) (goal : Int) (r_ : List (List Int) × List Bool × Int) (aw : Int) (a8 : List zb) : List (Nat × T) := [(1, .d (I goal)), (2, .own (.box (yj m_))), (5, .d (eSl 1 true F2_ r_.1)), (6, .d (eSl 1 true eB r_.2.1)), (8, .own (eOs 5 false (zc F7_ zD zF) a8)), (24, .d (eSl 1 false ue m_.Rows)), (25, .d (I ((m_.Rows.length : Nat) : Int))), (26, .d (I aw))]
abbrev Vd (m_ : z6) (goal : Int) (r_ : List (List Int) × List Bool × Int) (aw : Int) (au : List ze) (ba : Int) (cr : List zb) : List (Nat × T) := [(1, .d (I goal)), (2, .own (.box (yj m_))), (5, .d (eSl 1 true F2_ r_.1)), (6, .d (eSl 1 true eB r_.2.1)), (8, .own (eOs 5 false (zc F7_ zD zF) cr)), (9, .d (.sptr (I aw))), (24, .d (eSl 1 false ue m_.Rows)), (25, .d (I ((m_.Rows.length : Nat) : Int))), (26, .d (I aw)), (49, .d (eSl 2 false F9_ au)), (50, .d (I ((au.length : Nat) : Int))), (51, .d (I ba))]
abbrev Vc (m_ : z6) (goal : Int) (r_ : List (List Int) × List Bool × Int) (aw : Int) (au : List ze) (ba : Int) (al : List Int) (bv : List ze) (ce : Int) (cp : List zb) : List (Nat × T) := [(1, .d (I goal)), (2, .own (.box (yj m_))), (5, .d (eSl 1 true F2_ r_.1)), (6, .d (eSl 1 true eB r_.2.1)), (8, .own (eOs 5 false (zc F7_ zD zF) cp)), (9, .d (.sptr (I aw))), (11, .own (.box (I ba))), (13, .d (eSl 1 false (eI .i64) (al ++ ([ba] : List Int)))), (24, .d (eSl 1 false ue m_.Rows)), (25, .d (I ((m_.Rows.length : Nat) : Int))), (26, .d (I aw)), (49, .d (eSl 2 false F9_ au)), (50, .d (I ((au.length : Nat) : Int))), (51, .d (I ba)), (84, .d (eSl 2 false F9_ bv)), (85, .d (I ((bv.length : Nat) : Int))), (86, .d (I ce))]
abbrev V9 (m_ : z6) (goal : Int) (r_ : List (List Int) × List Bool × Int) (aw : Int) (au : List ze) (ba : Int) (al : List Int) (bv : List ze) (cx : List zb) (ce : Int) : List (Nat × T) := [(1, .d (I goal)), (2, .own (.box (yj m_))), (5, .d (eSl 1 true F2_ r_.1)), (6, .d (eSl 1 true eB r_.2.1)), (8, .own (eOs 5 false (zc F7_ zD zF) cx)), (9, .d (.sptr (I aw))), (11, .own (.box (I ba))), (13, .d (eSl 1 false (eI .i64) (al ++ ([ba] : List Int)))), (24, .d (eSl 1 false ue m_.Rows)), (25, .d (I ((m_.Rows.length : Nat) : Int))), (26, .d (I aw)), (49, .d (eSl 2 false F9_ au)), (50, .d (I ((au.length : Nat) : Int))), (51, .d (I ba)), (84, .d (eSl 2 false F9_ bv)), (85, .d (I ((bv.length : Nat) : Int))), (86, .d (I ce))]
abbrev Va (m_ : z6) (goal : Int) (r_ : List (List Int) × List Bool × Int) (aw : Int) (au : List ze) (br : List zb) (ba : Int) : List (Nat × T) := [(1, .d (I goal)), (2, .own (.box (yj m_))), (5, .d (eSl 1 true F2_ r_.1)), (6, .d (eSl 1 true eB r_.2.1)), (8, .own (eOs 5 false (zc F7_ zD zF) br)), (9, .d (.sptr (I aw))), (24, .d (eSl 1 false ue m_.Rows)), (25, .d (I ((m_.Rows.length : Nat) : Int))), (26, .d (I aw)), (49, .d (eSl 2 false F9_ au)), (50, .d (I ((au.length : Nat) : Int))), (51, .d (I ba))]
abbrev Vb (m_ : z6) (goal : Int) (r_ : List (List Int) × List Bool × Int) (ai : List zb) (aw : Int) : List (Nat × T) := [(1, .d (I goal)), (2, .own (.box (yj m_))), (5, .d (eSl 1 true F2_ r_.1)), (6, .d (eSl 1 true eB r_.2.1)), (8, .own (eOs 5 false (zc F7_ zD zF) ai)), (24, .d (eSl 1 false ue m_.Rows)), (25, .d (I ((m_.Rows.length : Nat) : Int))), (26, .d (I aw))]
def zK : XH Tryz.prog := ((z3Z zC (.inl 107) [104]).or ((z3Z zC (.inl 71) [13]).or X0))
theorem QY (hC : zN Tryz.prog ctr) (h0K : ctr.Has Zo) (h01 : ctr.Has yg) (h00 : ctr.Has ym) : wP.Ok Tryz.prog := by
 refine zU ?_
 rintro ⟨m_, goal⟩ r0 aa
 try unfold v8 at aa
 refine yO true [(4, none)] xu 114 Tryz.func26 fun E hE => ?_
 obtain ⟨r_, h0, aa⟩ := zk aa
 refine yJ zK hC xu [1,1,1] [] [8] (fun z : List zb => qg z = some r0) (fun z => Vf z) [(1, .d (I goal)), (2, .own (.box (yj m_))), (5, .d (eSl 1 true F2_ r_.1)), (6, .d (eSl 1 true eB r_.2.1)), (8, .own (eOs 5 true (zc F7_ zD zF) []))] [Hc h0K (x := m_) h0 (loC yj m_ <| loN), Hh (.cut 1)] ?_ fun J1 ay => ?_
 ·rintro out aa
  unfold qg at aa
  obtain rfl := zi aa
  exact yE zK hC hE []
 ·obtain ⟨t2, ht2, aa⟩ := zk aa
  refine yLx zK hC xu [1,1,1,2,1,0] [J1] (fun s => wV m_ goal r_ s.1 s.2) (fun x => Vb m_ goal r_ x.1 x.2) (([] : List zb), 0) ht2 [(1, .d (I goal)), (2, .own (.box (yj m_))), (5, .d (eSl 1 true F2_ r_.1)), (6, .d (eSl 1 true eB r_.2.1)), (8, .own (eOs 5 true (zc F7_ zD zF) [])), (24, .d (eSl 1 false ue m_.Rows)), (25, .d (I ((m_.Rows.length : Nat) : Int))), (26, .d (I 0))] inferInstance [Ha (lnM ue m_.Rows)] ?_
  rintro ⟨ai, aw⟩ m2 bi ae hl1 J2 a6
  try unfold wV at ae
  rcases y4 ae with ⟨c0, ae⟩ | ⟨c0, ae⟩
  ·refine yJ zK hC xu [1,1,1,2,1,0,0,1,1] [J1, J2] [1,2,5,6,8,24,25,26] (fun z : List zb => xp aw z = some bi) (fun z => Ve m_ goal r_ aw z) [(1, .d (I goal)), (2, .own (.box (yj m_))), (5, .d (eSl 1 true F2_ r_.1)), (6, .d (eSl 1 true eB r_.2.1)), (8, .own (eOs 5 false (zc F7_ zD zF) ai)), (24, .d (eSl 1 false ue m_.Rows)), (25, .d (I ((m_.Rows.length : Nat) : Int))), (26, .d (I aw))] [Hq c0, Hh (.cut 0)] ?_ fun J3 ca => ?_
   ·rintro a8 ae
    unfold xp at ae
    obtain rfl := zi ae
    exact yB zK hC a6 (a8, w64 (aw + 1)) hl1 []
   ·obtain ⟨au, h1, ae⟩ := zk ae
    obtain ⟨u_, h2, ae⟩ := zk ae
    let Z0 : List HO := [Hi ue h1, Hi eB h2]
    rcases y4 ae with ⟨c1, ae⟩ | ⟨c1, ae⟩
    ·exact yB zK hC ca ai ae (Z0 ++ [Hq c1])
    ·rcases y4 ae with ⟨c2, ae⟩ | ⟨c2, ae⟩
     ·obtain ⟨ee, h3, ae⟩ := zk ae
      obtain ⟨g0, ae⟩ := gdE ae
      exact yB ((xLs zC 42 (eSl 1 true (eI .i64) ee) (eSl 1 false (eI .i64) ee) inferInstance).or zK) hC ca (ai ++ ([(zb.mk ee (z8.mk aw 0 0) (.inl aw))] : List zb)) ae (Z0 ++ [Hq c1, Hh (.n 1 [9]), Hq c2, Hi F2_ h3, Hn (rfl : T.d (eSl 1 true (eI .i64) ee) = T.d (eSl 1 true (eI .i64) ee)), Hq (dM (zc F7_ zD zF) ([(zb.mk ee (z8.mk aw 0 0) (.inl aw))] : List zb)), Hn (dM (zc F7_ zD zF) ([(zb.mk ee (z8.mk aw 0 0) (.inl aw))] : List zb)), Hn (aL (zc F7_ zD zF) (zc F7_ zD zF) g0), Hl (aM (zc F7_ zD zF) ai ([(zb.mk ee (z8.mk aw 0 0) (.inl aw))] : List zb))])
     ·obtain ⟨t4, ht4, ae⟩ := zk ae
      refine yL zK hC xu [1,1,1,2,1,0,0,1,1,2,0,1,1,1,1,0] [J1, J2, J3] (fun s => wU m_ goal r_ aw au s.1 s.2) (fun x => Va m_ goal r_ aw au x.1 x.2) (ai,0) ht4  (Z0 ++ [Hq c1, Hh (.n 1 [9]), Hq c2, Ha (lnM F9_ au)]) ?_
      rintro ⟨br, ba⟩ m4 fh aj hl2 J4 dv
      try unfold wU at aj
      rcases y4 aj with ⟨c3, aj⟩ | ⟨c3, aj⟩
      ·refine yJ zK hC xu [1,1,1,2,1,0,0,1,1,2,0,1,1,1,1,0,0,1,1] [J1, J2, J3, J4] [1,2,5,6,8,9,24,25,26,49,50,51] (fun z : List zb => xo ba z = some fh) (fun z => Vd m_ goal r_ aw au ba z) [(1, .d (I goal)), (2, .own (.box (yj m_))), (5, .d (eSl 1 true F2_ r_.1)), (6, .d (eSl 1 true eB r_.2.1)), (8, .own (eOs 5 false (zc F7_ zD zF) br)), (9, .d (.sptr (I aw))), (24, .d (eSl 1 false ue m_.Rows)), (25, .d (I ((m_.Rows.length : Nat) : Int))), (26, .d (I aw)), (49, .d (eSl 2 false F9_ au)), (50, .d (I ((au.length : Nat) : Int))), (51, .d (I ba))] [Hq c3, Hh (.cut 0)] ?_ fun J5 dh => ?_
       ·rintro cr aj
        unfold xo at aj
        obtain rfl := zi aj
        exact yB zK hC dv (cr, w64 (ba + 1)) hl2 []
       ·obtain ⟨ak, h4, aj⟩ := zk aj
        let Z1 : List HO := [Hi F9_ h4]
        rcases y4 aj with ⟨c4, aj⟩ | ⟨c4, aj⟩
        ·exact yB zK hC dh br aj (Z1 ++ [Hq c4])
        ·obtain ⟨gq, h5, aj⟩ := zk aj
         obtain ⟨ah, h6, aj⟩ := zk aj
         obtain ⟨al, h7, aj⟩ := zk aj
         obtain ⟨g1, aj⟩ := gdE aj
         let Z2 : List HO := (Z1 ++ [Hq c4, Hi F2_ h5, Hc h01 (x := gq) h6 (loC F2_ gq <| loN), Hg (KT h00), Hm (shM (eI .i64) (eI .i64) ah), Hs (KU h00 (x := ah) h7 (loC F7_ ah <| loN)), Hm (shM (eI .i64) (eI .i64) ah), Hq (dM (eI .i64) ([ba] : List Int)), Hn (dM (eI .i64) ([ba] : List Int)), Hn (aN (eI .i64) (eI .i64) g1 (by simp)), Hl (aM (eI .i64) al ([ba] : List Int))])
         rcases y4 aj with ⟨c5, aj⟩ | ⟨c5, aj⟩
         ·obtain ⟨g2, aj⟩ := gdE aj
          exact yB zK hC dh (br ++ ([(zb.mk (al ++ ([ba] : List Int)) (z8.mk aw ba 0) (.inr (.inl (aw, ba))))] : List zb)) aj (Z2 ++ [Hq c5, Hm (shM (eI .i64) (eI .i64) (al ++ ([ba] : List Int))), Hq (dM (zc F7_ zD zF) ([(zb.mk (al ++ ([ba] : List Int)) (z8.mk aw ba 0) (.inr (.inl (aw, ba))))] : List zb)), Hn (dM (zc F7_ zD zF) ([(zb.mk (al ++ ([ba] : List Int)) (z8.mk aw ba 0) (.inr (.inl (aw, ba))))] : List zb)), Hn (aL (zc F7_ zD zF) (zc F7_ zD zF) g2), Hl (aM (zc F7_ zD zF) br ([(zb.mk (al ++ ([ba] : List Int)) (z8.mk aw ba 0) (.inr (.inl (aw, ba))))] : List zb))])
         ·obtain ⟨bv, h8, aj⟩ := zk aj
          obtain ⟨t6, ht6, aj⟩ := zk aj
          refine yL zK hC xu [1,1,1,2,1,0,0,1,1,2,0,1,1,1,1,0,0,1,1,2,0,1,1,1,1,1,0] [J1, J2, J3, J4, J5] (fun s => wT aw ba al bv s.1 s.2) (fun x => V9 m_ goal r_ aw au ba al bv x.1 x.2) (br,0) ht6  (Z2 ++ [Hq c5, Hi ue h8, Ha (lnM F9_ bv), Hh (.n 1 [13]), Hm (shM (eI .i64) (eI .i64) (al ++ ([ba] : List Int)))]) ?_
          rintro ⟨cx, ce⟩ m6 ix bp hl3 J6 d8
          try unfold wT at bp
          rcases y4 bp with ⟨c6, bp⟩ | ⟨c6, bp⟩
          ·refine yJ zK hC xu [1,1,1,2,1,0,0,1,1,2,0,1,1,1,1,0,0,1,1,2,0,1,1,1,1,1,0,0,1,1] [J1, J2, J3, J4, J5, J6] [1,2,5,6,8,9,11,13,24,25,26,49,50,51,84,85,86] (fun z : List zb => wW ce z = some ix) (fun z => Vc m_ goal r_ aw au ba al bv ce z) [(1, .d (I goal)), (2, .own (.box (yj m_))), (5, .d (eSl 1 true F2_ r_.1)), (6, .d (eSl 1 true eB r_.2.1)), (8, .own (eOs 5 false (zc F7_ zD zF) cx)), (9, .d (.sptr (I aw))), (11, .own (.box (I ba))), (13, .d (eSl 1 false (eI .i64) (al ++ ([ba] : List Int)))), (24, .d (eSl 1 false ue m_.Rows)), (25, .d (I ((m_.Rows.length : Nat) : Int))), (26, .d (I aw)), (49, .d (eSl 2 false F9_ au)), (50, .d (I ((au.length : Nat) : Int))), (51, .d (I ba)), (84, .d (eSl 2 false F9_ bv)), (85, .d (I ((bv.length : Nat) : Int))), (86, .d (I ce))] [Hq c6, Hh (.cut 0)] ?_ fun J7 fp => ?_
           ·rintro cp bp
            unfold wW at bp
            obtain rfl := zi bp
            exact yB zK hC d8 (cp, w64 (ce + 1)) hl3 []
           ·obtain ⟨bj, h9, bp⟩ := zk bp
            let Z3 : List HO := [Hi F9_ h9]
            rcases y4 bp with ⟨c7, bp⟩ | ⟨c7, bp⟩
            ·obtain ⟨ap, h10, bp⟩ := zk bp
             obtain ⟨av, h11, bp⟩ := zk bp
             obtain ⟨g3, bp⟩ := gdE bp
             obtain ⟨g4, bp⟩ := gdE bp
             exact yB zK hC fp (cx ++ ([(zb.mk (av ++ ([ce] : List Int)) (z8.mk aw ba ce) (.inr (.inr (z8.mk aw ba ce))))] : List zb)) bp (Z3 ++ [Hq c7, Hh (.n 2 [16]), Hc h01 (x := (al ++ ([ba] : List Int))) h10 (loC F7_ (al ++ ([ba] : List Int)) <| loN), Hg (KT h00), Hm (shM (eI .i64) (eI .i64) ap), Hs (KU h00 (x := ap) h11 (loC F7_ ap <| loN)), Hm (shM (eI .i64) (eI .i64) ap), Hq (dM (eI .i64) ([ce] : List Int)), Hn (dM (eI .i64) ([ce] : List Int)), Hn (aN (eI .i64) (eI .i64) g3 (by simp)), Hl (aM (eI .i64) av ([ce] : List Int)), Hm (shM (eI .i64) (eI .i64) (av ++ ([ce] : List Int))), Hq (dM (zc F7_ zD zF) ([(zb.mk (av ++ ([ce] : List Int)) (z8.mk aw ba ce) (.inr (.inr (z8.mk aw ba ce))))] : List zb)), Hn (dM (zc F7_ zD zF) ([(zb.mk (av ++ ([ce] : List Int)) (z8.mk aw ba ce) (.inr (.inr (z8.mk aw ba ce))))] : List zb)), Hn (aL (zc F7_ zD zF) (zc F7_ zD zF) g4), Hl (aM (zc F7_ zD zF) cx ([(zb.mk (av ++ ([ce] : List Int)) (z8.mk aw ba ce) (.inr (.inr (z8.mk aw ba ce))))] : List zb))])
            ·exact yB zK hC fp cx bp (Z3 ++ [Hq c7])
          ·obtain rfl := zi bp
           obtain rfl := hl3
           exact yB zK hC dh cx aj [Hq c6]
      ·obtain rfl := zi aj
       obtain rfl := hl2
       exact yB zK hC ca br ae [Hq c3]
  ·obtain rfl := zi ae
   obtain rfl := hl1
   exact yB zK hC ay ai aa [Hq c0]
def VF : Code := (Tryz.f46.body).getD .skip
theorem VX (hC : zN Tryz.prog ctr) : ∀ (x0 : Int) (x_ : zh) (r0 : Bool), j7 x0 x_ = some r0 → ∀ us : List Value, us.length = 3 → uA Tryz.prog (.fn 46 [.sptr (I x0)]) ([] ++ .agg (us.map .atom) :: []) (Xu us [zt (eI .i64) eB x_.states_, zt F0_ eB x_.edges_, zt zD eB x_.pairs_]) (B r0) ([zt (eI .i64) eB x_.states_, zt F0_ eB x_.edges_, zt zD eB x_.pairs_].map fun e => .opq (ya e)) := by
 intro x0 x_ r0 aa us hus
 obtain ⟨u0, u1, u2, rfl⟩ := zbj hus
 refine Wo (tt := wt) (nt := 8) (body := VF) (B := 2) [3] (xl := []) (xr := []) (caps := [.sptr (I x0)]) (es := [zt (eI .i64) eB x_.states_, zt F0_ eB x_.edges_, zt zD eB x_.pairs_]) (es' := [zt (eI .i64) eB x_.states_, zt F0_ eB x_.edges_, zt zD eB x_.pairs_]) (us := [u0, u1, u2]) (r := B r0) Tryz.func46 rfl (by kernel_rfl) rfl rfl (by decide) (by show (2 : Nat) ≤ 8; decide) rfl rfl (.inr ⟨_, rfl⟩) fun E hE => ?_
 try unfold j7 at aa
 obtain ⟨val, h0, aa⟩ := zk aa
 replace h0 := zi h0
 obtain rfl := zi aa
 exact yF ((z4A z7C 7 (ZA u0 (zt (eI .i64) eB x_.states_))).or X0) hC .ret [(2, .own (.box (.agg [.opq (vt u0 (zt (eI .i64) eB x_.states_)), .opq (vt u1 (zt F0_ eB x_.edges_)), .opq (vt u2 (zt zD eB x_.pairs_))]))), (3, .d (B val))] [Hn (⟨rfl, rfl, JT (fun _ => rfl) x_.states_⟩ : A.opq (vt u0 (zt (eI .i64) eB x_.states_)) = A.opq (vt u0 (zt (eI .i64) eB x_.states_)) ∧ (JG .i64) ((eI .i64) x0) = true ∧ ∀ p ∈ zt (eI .i64) eB x_.states_, (JG .i64) p.1 = true), Hx (.a (eB val)) ((zfi (f := (eI .i64)) (g := eB) (z0 := false) (z := .atom (.bool false)) rfl x0 x_.states_).trans (congrArg eB h0))] fun st0 h0 => hE _ st0 (.inr rfl) (JE h0 rfl rfl) (z5q (zcS h0 rfl rfl))
def VE : Code := (Tryz.f47.body).getD .skip
theorem VW (hC : zN Tryz.prog ctr) : ∀ (x0 : Int) (x1 : Int) (x_ : zh) (r0 : Bool), j6 x0 x1 x_ = some r0 → ∀ us : List Value, us.length = 3 → uA Tryz.prog (.fn 47 [.sptr (I x0), .sptr (I x1)]) ([] ++ .agg (us.map .atom) :: []) (Xu us [zt (eI .i64) eB x_.states_, zt F0_ eB x_.edges_, zt zD eB x_.pairs_]) (B r0) ([zt (eI .i64) eB x_.states_, zt F0_ eB x_.edges_, zt zD eB x_.pairs_].map fun e => .opq (ya e)) := by
 intro x0 x1 x_ r0 aa us hus
 obtain ⟨u0, u1, u2, rfl⟩ := zbj hus
 refine Wo (tt := wt) (nt := 11) (body := VE) (B := 3) [4] (xl := []) (xr := []) (caps := [.sptr (I x0), .sptr (I x1)]) (es := [zt (eI .i64) eB x_.states_, zt F0_ eB x_.edges_, zt zD eB x_.pairs_]) (es' := [zt (eI .i64) eB x_.states_, zt F0_ eB x_.edges_, zt zD eB x_.pairs_]) (us := [u0, u1, u2]) (r := B r0) Tryz.func47 rfl (by kernel_rfl) rfl rfl (by decide) (by show (3 : Nat) ≤ 11; decide) rfl rfl (.inr ⟨_, rfl⟩) fun E hE => ?_
 try unfold j6 at aa
 obtain ⟨val, h0, aa⟩ := zk aa
 replace h0 := zi h0
 obtain rfl := zi aa
 exact yF ((z4A zax 10 (ZA u1 (zt F0_ eB x_.edges_))).or X0) hC .ret [(3, .own (.box (.agg [.opq (vt u0 (zt (eI .i64) eB x_.states_)), .opq (vt u1 (zt F0_ eB x_.edges_)), .opq (vt u2 (zt zD eB x_.pairs_))]))), (4, .d (B val))] [Hn (⟨rfl, rfl, JT (fun _ => rfl) x_.edges_⟩ : A.opq (vt u1 (zt F0_ eB x_.edges_)) = A.opq (vt u1 (zt F0_ eB x_.edges_)) ∧ (Vw [.i64, .i64]) (F0_ (x5.mk x0 x1)) = true ∧ ∀ p ∈ zt F0_ eB x_.edges_, (Vw [.i64, .i64]) p.1 = true), Hx (.a (eB val)) ((zfi (f := F0_) (g := eB) (z0 := false) (z := .atom (.bool false)) rfl (x5.mk x0 x1) x_.edges_).trans (congrArg eB h0))] fun st0 h0 => hE _ st0 (.inr rfl) (JE h0 rfl rfl) (z5q (zcS h0 rfl rfl))
def VD : Code := (Tryz.f48.body).getD .skip
theorem VV (hC : zN Tryz.prog ctr) : ∀ (x0 : z8) (x_ : zh) (r0 : Bool), j5 x0 x_ = some r0 → ∀ us : List Value, us.length = 3 → uA Tryz.prog (.fn 48 [.sptr (.agg [I x0.State, I x0.Input, I x0.Next])]) ([] ++ .agg (us.map .atom) :: []) (Xu us [zt (eI .i64) eB x_.states_, zt F0_ eB x_.edges_, zt zD eB x_.pairs_]) (B r0) ([zt (eI .i64) eB x_.states_, zt F0_ eB x_.edges_, zt zD eB x_.pairs_].map fun e => .opq (ya e)) := by
 intro x0 x_ r0 aa us hus
 obtain ⟨u0, u1, u2, rfl⟩ := zbj hus
 refine Wo (tt := wt) (nt := 8) (body := VD) (B := 2) [3] (xl := []) (xr := []) (caps := [.sptr (.agg [I x0.State, I x0.Input, I x0.Next])]) (es := [zt (eI .i64) eB x_.states_, zt F0_ eB x_.edges_, zt zD eB x_.pairs_]) (es' := [zt (eI .i64) eB x_.states_, zt F0_ eB x_.edges_, zt zD eB x_.pairs_]) (us := [u0, u1, u2]) (r := B r0) Tryz.func48 rfl (by kernel_rfl) rfl rfl (by decide) (by show (2 : Nat) ≤ 8; decide) rfl rfl (.inr ⟨_, rfl⟩) fun E hE => ?_
 try unfold j5 at aa
 obtain ⟨val, h0, aa⟩ := zk aa
 replace h0 := zi h0
 obtain rfl := zi aa
 exact yF ((z4A zaw 7 (ZA u2 (zt zD eB x_.pairs_))).or X0) hC .ret [(2, .own (.box (.agg [.opq (vt u0 (zt (eI .i64) eB x_.states_)), .opq (vt u1 (zt F0_ eB x_.edges_)), .opq (vt u2 (zt zD eB x_.pairs_))]))), (3, .d (B val))] [Hn (⟨rfl, rfl, JT (fun _ => rfl) x_.pairs_⟩ : A.opq (vt u2 (zt zD eB x_.pairs_)) = A.opq (vt u2 (zt zD eB x_.pairs_)) ∧ (Vw [.i64, .i64, .i64]) (zD x0) = true ∧ ∀ p ∈ zt zD eB x_.pairs_, (Vw [.i64, .i64, .i64]) p.1 = true), Hx (.a (eB val)) ((zfi (f := zD) (g := eB) (z0 := false) (z := .atom (.bool false)) rfl x0 x_.pairs_).trans (congrArg eB h0))] fun st0 h0 => hE _ st0 (.inr rfl) (JE h0 rfl rfl) (z5q (zcS h0 rfl rfl))
theorem Yq (hC : zN Tryz.prog ctr) : ∀ (f : Int ⊕ (Int × Int) ⊕ z8) (x : zh) (r0 : Bool), W5 f x = some r0 → ∀ us : List Value, us.length = 3 → uA Tryz.prog (zF f) ([] ++ .agg (us.map .atom) :: []) (Xu us [zt (eI .i64) eB x.states_, zt F0_ eB x.edges_, zt zD eB x.pairs_]) (B r0) ([zt (eI .i64) eB x.states_, zt F0_ eB x.edges_, zt zD eB x.pairs_].map fun e => .opq (ya e)) := by
 intro f x r0 aa us hus
 rcases f with c | c | c
 ·exact VX hC c x r0 aa us hus
 ·exact VW hC c.1 c.2 x r0 aa us hus
 ·exact VV hC c x r0 aa us hus
def vG : Code := (Tryz.f56.body).getD .skip
def ye : yf := spF (α := List z8) (ρ := List z8) 56 (fun x => [(eSl 3 false zD) x]) (fun r => (eSl 3 true zD) r) (fun x => zR x) [] (Ke)
theorem vM (hC : zN Tryz.prog ctr) : ye.Ok Tryz.prog := by
 refine zU ?_
 rintro s_ r0 aa
 try unfold zR at aa
 refine yO true [(2, none)] vG 9 Tryz.func56 fun E hE => ?_
 obtain ⟨g0, aa⟩ := gdE aa
 obtain rfl := zi aa
 exact yE X0 hC hE [Ha (lnM zD s_), Ha (lnM zD s_), Hn (slB g0), Hn (slC g0), Hn (zbT zD g0), Ha (zgS 3 zD s_ 0 ((s_.length : Nat) : Int).toNat)]
def vw : Code := (Tryz.f41.body).getD .skip
def wk : yf := spF (α := z6 × List (List Int) × Int) (ρ := List z8 × Int) 41 (fun x => [yj x.1, Zh x.2.1, (eI .i64) x.2.2]) (fun r => .tup [(eSl 3 true zD) r.1, (eI .i64) r.2]) (fun x => xD x.1 x.2.1 x.2.2) [] (z6H)
abbrev Xm (out : List z8) : List (Nat × T) := [(10, .own (eOs 3 false zD out))]
abbrev Xl (ah : zh) (ap : List zb) (aw : Int) (a8 : List z8) : List (Nat × T) := [(9, .own (.box ((zS (eMp (eI .i64) eB) (eMp F0_ eB) (eMp zD eB)) ah))), (10, .own (eOs 3 false zD a8)), (24, .own (eOs 5 false (zc F7_ zD zF) ap)), (25, .d (I ((ap.length : Nat) : Int))), (26, .d (I aw))]
abbrev Xk (ah : zh) (ap : List zb) (ai : List z8) (aw : Int) : List (Nat × T) := [(9, .own (.box ((zS (eMp (eI .i64) eB) (eMp F0_ eB) (eMp zD eB)) ah))), (10, .own (eOs 3 false zD ai)), (24, .own (eOs 5 false (zc F7_ zD zF) ap)), (25, .d (I ((ap.length : Nat) : Int))), (26, .d (I aw))]
theorem WJ (hC : zN Tryz.prog ctr) (h03 : ctr.Has xZ) (h02 : ctr.Has xh) (h04 : ctr.Has wP) (h0p : ctr.Has ye) : wk.Ok Tryz.prog := by
 refine zU ?_
 rintro ⟨m_, l_, goal⟩ r0 aa
 try unfold xD at aa
 refine yO false [(6, none), (7, none)] vw 43 Tryz.func41 fun E hE => ?_
 obtain ⟨r_, h0, aa⟩ := zk aa
 let Z0 : List HO := [Hc h03 (x := (m_, l_)) h0 (loC yj m_ <| loC Zh l_ <| loN)]
 rcases y4 aa with ⟨c0, aa⟩ | ⟨c0, aa⟩
 ·obtain rfl := zi aa
  exact yEx X0 hC hE (Z0 ++ [Hq c0, Hm (shM zD zD [])]) (.tup [eSl 3 true zD [], I r_]) (show LeV (.tup [eSl 3 true zD [], I r_]) (.tup [eSl 3 true zD ([] : List z8), I r_]) from inferInstance)
 ·obtain ⟨ah, h1, aa⟩ := zk aa
  refine yJ X0 hC vw [1,1,1,1] [] [10] (fun z : List z8 => vu z = some r0) (fun z => Xm z) [(2, .d (I goal)), (3, .own (.box (yj m_))), (9, .own (.box ((zS (eMp (eI .i64) eB) (eMp F0_ eB) (eMp zD eB)) ah))), (10, .own (eOs 3 true zD []))] (Z0 ++ [Hq c0, Hc h02 (x := (m_, l_)) h1 (loC yj m_ <| loC Zh l_ <| loN), Hh (.cut 1)]) ?_ fun J1 ay => ?_
  ·rintro out aa
   unfold vu at aa
   obtain ⟨al, h2, aa⟩ := zk aa
   obtain rfl := zi aa
   exact yE X0 hC hE [Hg (KT h0p), Hm (shM zD zD out), Hs (KU h0p (x := out) h2 (loC (eSl 3 false zD) out <| loN)), Hm (shM zD zD out)]
  ·obtain ⟨ap, h3, aa⟩ := zk aa
   obtain ⟨t2, ht2, aa⟩ := zk aa
   refine yLx X0 hC vw [1,1,1,1,2,1,0] [J1] (fun s => xj ah ap s.1 s.2) (fun x => Xk ah ap x.1 x.2) (([] : List z8), 0) ht2 [(9, .own (.box ((zS (eMp (eI .i64) eB) (eMp F0_ eB) (eMp zD eB)) ah))), (10, .own (eOs 3 true zD [])), (24, .own (eOs 5 false (zc F7_ zD zF) ap)), (25, .d (I ((ap.length : Nat) : Int))), (26, .d (I 0))] inferInstance [Hc h04 (x := (m_, goal)) h3 (loC yj m_ <| loC (eI .i64) goal <| loN), Ha (lnM (zc F7_ zD zF) ap)] ?_
   rintro ⟨ai, aw⟩ m2 bi ae hl1 J2 a6
   try unfold xj at ae
   rcases y4 ae with ⟨c1, ae⟩ | ⟨c1, ae⟩
   ·refine yJ X0 hC vw [1,1,1,1,2,1,0,0,1,1] [J1, J2] [9,10,24,25,26] (fun z : List z8 => xk aw z = some bi) (fun z => Xl ah ap aw z) [(9, .own (.box ((zS (eMp (eI .i64) eB) (eMp F0_ eB) (eMp zD eB)) ah))), (10, .own (eOs 3 false zD ai)), (24, .own (eOs 5 false (zc F7_ zD zF) ap)), (25, .d (I ((ap.length : Nat) : Int))), (26, .d (I aw))] [Hq c1, Hh (.cut 0)] ?_ fun J3 ca => ?_
    ·rintro a8 ae
     unfold xk at ae
     obtain rfl := zi ae
     exact yB X0 hC a6 (a8, w64 (aw + 1)) hl1 []
    ·obtain ⟨bt, h4, ae⟩ := zk ae
     obtain ⟨av, h5, ae⟩ := zk ae
     let Z1 : List HO := [Hn (iL (zc F7_ zD zF) h4), Hs (iM (zc F7_ zD zF) h4), Hn (⟨rfl, leP (show VR [] [] from inferInstance), leP (show VR [] [] from inferInstance), rfl, rfl⟩ : ([zF bt.has_] : List A) = [zF bt.has_] ∧ LeP [] [] ∧ LeP [] [] ∧ T.als 9 [.deref] 0 0 = T.als 9 [.deref] 0 0 ∧ (some (.agg [.opq (ya (zt (eI .i64) eB ah.states_)), .opq (ya (zt F0_ eB ah.edges_)), .opq (ya (zt zD eB ah.pairs_))]) : Option A) = some (.agg [.opq (ya (zt (eI .i64) eB ah.states_)), .opq (ya (zt F0_ eB ah.edges_)), .opq (ya (zt zD eB ah.pairs_))]))]
     rcases y4 ae with ⟨c2, ae⟩ | ⟨c2, ae⟩
     ·obtain ⟨g0, ae⟩ := gdE ae
      exact yB ((Ym (P := Tryz.prog) wt 9 0 [.deref] (fa := zF bt.has_) (r := B av) (xl := []) (xr := []) (qs := [(ya (zt (eI .i64) eB ah.states_)), (ya (zt F0_ eB ah.edges_)), (ya (zt zD eB ah.pairs_))]) (qs' := [(ya (zt (eI .i64) eB ah.states_)), (ya (zt F0_ eB ah.edges_)), (ya (zt zD eB ah.pairs_))]) (es := [(zt (eI .i64) eB ah.states_), (zt F0_ eB ah.edges_), (zt zD eB ah.pairs_)]) (es' := [(zt (eI .i64) eB ah.states_), (zt F0_ eB ah.edges_), (zt zD eB ah.pairs_)]) (.inr rfl) (z4c (by kernel_rfl)) (.cons (wm (zt (eI .i64) eB ah.states_)) (.cons (wm (zt F0_ eB ah.edges_)) (.cons (wm (zt zD eB ah.pairs_)) (.nil)))) (fun us hu => Yq hC _ _ _ h5 us hu) (some 33)).or X0) hC ca (ai ++ ([bt.pair_] : List z8)) ae (Z1 ++ [Hq c2, Hq (dM zD ([bt.pair_] : List z8)), Hn (dM zD ([bt.pair_] : List z8)), Hn (aL zD zD g0), Hl (aM zD ai ([bt.pair_] : List z8))])
     ·exact yB ((Ym (P := Tryz.prog) wt 9 0 [.deref] (fa := zF bt.has_) (r := B av) (xl := []) (xr := []) (qs := [(ya (zt (eI .i64) eB ah.states_)), (ya (zt F0_ eB ah.edges_)), (ya (zt zD eB ah.pairs_))]) (qs' := [(ya (zt (eI .i64) eB ah.states_)), (ya (zt F0_ eB ah.edges_)), (ya (zt zD eB ah.pairs_))]) (es := [(zt (eI .i64) eB ah.states_), (zt F0_ eB ah.edges_), (zt zD eB ah.pairs_)]) (es' := [(zt (eI .i64) eB ah.states_), (zt F0_ eB ah.edges_), (zt zD eB ah.pairs_)]) (.inr rfl) (z4c (by kernel_rfl)) (.cons (wm (zt (eI .i64) eB ah.states_)) (.cons (wm (zt F0_ eB ah.edges_)) (.cons (wm (zt zD eB ah.pairs_)) (.nil)))) (fun us hu => Yq hC _ _ _ h5 us hu) (some 33)).or X0) hC ca ai ae (Z1 ++ [Hq c2])
   ·obtain rfl := zi ae
    obtain rfl := hl1
    exact yB X0 hC ay ai aa [Hq c1]
def qI : Code := (Tryz.f17.body).getD .skip
def qo : yf := spF (α := z6 × List (List Int)) (ρ := List Int × Int) 17 (fun x => [yj x.1, Zh x.2]) (fun r => .tup [F2_ r.1, (eI .i64) r.2]) (fun x => u4 x.1 x.2) [] (VS)
abbrev XA (r_ : List z8 × Int) (out : List Int) : List (Nat × T) := [(7, .d (I r_.2)), (8, .own (z2O 1 ((r_.1.length : Nat) : Int).toNat (eI .i64) out))]
abbrev Xz (r_ : List z8 × Int) (ai : List Int) (eg : Int) : List (Nat × T) := [(7, .d (I r_.2)), (8, .own (z2O 1 ((r_.1.length : Nat) : Int).toNat (eI .i64) ai)), (20, .d (eSl 3 true zD r_.1)), (21, .d (I ((r_.1.length : Nat) : Int))), (22, .d (I eg))]
theorem Vl (hC : zN Tryz.prog ctr) (h07 : ctr.Has wk) : qo.Ok Tryz.prog := by
 refine zU ?_
 rintro ⟨m_, l_⟩ r0 aa
 try unfold u4 at aa
 refine yO false [(4, none), (5, none)] qI 34 Tryz.func17 fun E hE => ?_
 obtain ⟨r_, h0, aa⟩ := zk aa
 obtain ⟨g0, aa⟩ := gdE aa
 refine yJ ((xCm zC 19 1).or X0) hC qI [1,1,1] [] [7,8] (fun z : List Int => vU r_ z = some r0) (fun z => XA r_ z) [(6, .d (eSl 3 true zD r_.1)), (7, .d (I r_.2)), (8, .own (z2O 1 ((r_.1.length : Nat) : Int).toNat (eI .i64) ([] : List Int)))] [Hc h07 (x := (m_, l_, 0)) h0 (loC yj m_ <| loC Zh l_ <| loC (eI .i64) 0 <| loN), Ha (lnM zD r_.1), Hn (zfp g0), Hh (.cut 0)] ?_ fun J1 ay => ?_
 ·rintro out aa
  unfold vU at aa
  obtain ⟨g1, aa⟩ := gdE aa
  obtain rfl := zi aa
  exact yE ((xCe Tryz.prog 4 1 (((r_.1.length : Nat) : Int).toNat) (out.map (eI .i64))).or X0) hC hE [Hn (⟨rfl, zfr (eI .i64) g1⟩ : z2O 1 (((r_.1.length : Nat) : Int).toNat) (eI .i64) out = A.opq (z0M 1 (((r_.1.length : Nat) : Int).toNat) (out.map (eI .i64))).q ∧ (out.map (eI .i64)).length = ((r_.1.length : Nat) : Int).toNat), Hm (shM (eI .i64) (eI .i64) out)]
 ·obtain ⟨t2, ht2, aa⟩ := zk aa
  refine yL X0 hC qI [1,1,1,2,1,0] [J1] (fun s => xF r_ s.1 s.2) (fun x => Xz r_ x.1 x.2) (([] : List Int), 0) ht2  [Ha (lnM zD r_.1)] ?_
  rintro ⟨ai, eg⟩ m2 bi ae hl1 J2 a6
  try unfold xF at ae
  rcases y4 ae with ⟨c0, ae⟩ | ⟨c0, ae⟩
  ·obtain ⟨u_, h1, ae⟩ := zk ae
   obtain ⟨g2, ae⟩ := gdE ae
   obtain rfl := zi ae
   exact yB ((xCa zC 30 1 (((r_.1.length : Nat) : Int).toNat) (ai.map (eI .i64)) ((ai ++ ([u_.State] : List Int)).map (eI .i64))).or X0) hC a6 ((ai ++ ([u_.State] : List Int)), w64 (eg + 1)) hl1 [Hq c0, Hi zD h1, Hn (⟨rfl, dM (eI .i64) ([u_.State] : List Int), rfl⟩ : 1 = 1 ∧ A.areD (([u_.State] : List Int).map (eI .i64)) = true ∧ true = true), Hn (⟨rfl, zfq (eI .i64) (eI .i64) g2⟩ : z2O 1 (((r_.1.length : Nat) : Int).toNat) (eI .i64) ai = A.opq (z0M 1 (((r_.1.length : Nat) : Int).toNat) (ai.map (eI .i64))).q ∧ (ai.map (eI .i64)).length + (([u_.State] : List Int).map (eI .i64)).length ≤ ((r_.1.length : Nat) : Int).toNat), Hn (aM (eI .i64) ai ([u_.State] : List Int))]
  ·obtain rfl := zi ae
   obtain rfl := hl1
   exact yB X0 hC ay ai aa [Hq c0]
def ja : Code := (Tryz.f18.body).getD .skip
def ug : yf := spF (α := z6 × List (List Int)) (ρ := List (x5 Int) × Int) 18 (fun x => [yj x.1, Zh x.2]) (fun r => .tup [(eSl 2 true F0_) r.1, (eI .i64) r.2]) (fun x => vE x.1 x.2) [] (VS)
abbrev Wc (r_ : List z8 × Int) (out : List (x5 Int)) : List (Nat × T) := [(7, .d (I r_.2)), (8, .own (z2O 2 ((r_.1.length : Nat) : Int).toNat F0_ out))]
abbrev Wb (r_ : List z8 × Int) (ai : List (x5 Int)) (eg : Int) : List (Nat × T) := [(7, .d (I r_.2)), (8, .own (z2O 2 ((r_.1.length : Nat) : Int).toNat F0_ ai)), (20, .d (eSl 3 true zD r_.1)), (21, .d (I ((r_.1.length : Nat) : Int))), (22, .d (I eg))]
theorem VZ (hC : zN Tryz.prog ctr) (h07 : ctr.Has wk) : ug.Ok Tryz.prog := by
 refine zU ?_
 rintro ⟨m_, l_⟩ r0 aa
 try unfold vE at aa
 refine yO false [(4, none), (5, none)] ja 37 Tryz.func18 fun E hE => ?_
 obtain ⟨r_, h0, aa⟩ := zk aa
 obtain ⟨g0, aa⟩ := gdE aa
 refine yJ ((xCm zC 19 2).or X0) hC ja [1,1,1] [] [7,8] (fun z : List (x5 Int) => um r_ z = some r0) (fun z => Wc r_ z) [(6, .d (eSl 3 true zD r_.1)), (7, .d (I r_.2)), (8, .own (z2O 2 ((r_.1.length : Nat) : Int).toNat F0_ ([] : List (x5 Int))))] [Hc h07 (x := (m_, l_, 1)) h0 (loC yj m_ <| loC Zh l_ <| loC (eI .i64) 1 <| loN), Ha (lnM zD r_.1), Hn (zfp g0), Hh (.cut 0)] ?_ fun J1 ay => ?_
 ·rintro out aa
  unfold um at aa
  obtain ⟨g1, aa⟩ := gdE aa
  obtain rfl := zi aa
  exact yE ((xCe Tryz.prog 4 2 (((r_.1.length : Nat) : Int).toNat) (out.map F0_)).or X0) hC hE [Hn (⟨rfl, zfr F0_ g1⟩ : z2O 2 (((r_.1.length : Nat) : Int).toNat) F0_ out = A.opq (z0M 2 (((r_.1.length : Nat) : Int).toNat) (out.map F0_)).q ∧ (out.map F0_).length = ((r_.1.length : Nat) : Int).toNat), Hm (shM F0_ F0_ out)]
 ·obtain ⟨t2, ht2, aa⟩ := zk aa
  refine yL X0 hC ja [1,1,1,2,1,0] [J1] (fun s => w9 r_ s.1 s.2) (fun x => Wb r_ x.1 x.2) (([] : List (x5 Int)), 0) ht2  [Ha (lnM zD r_.1)] ?_
  rintro ⟨ai, eg⟩ m2 bi ae hl1 J2 a6
  try unfold w9 at ae
  rcases y4 ae with ⟨c0, ae⟩ | ⟨c0, ae⟩
  ·obtain ⟨u_, h1, ae⟩ := zk ae
   obtain ⟨g2, ae⟩ := gdE ae
   obtain rfl := zi ae
   exact yB ((xCa zC 33 2 (((r_.1.length : Nat) : Int).toNat) (ai.map F0_) ((ai ++ ([(x5.mk u_.State u_.Input)] : List (x5 Int))).map F0_)).or X0) hC a6 ((ai ++ ([(x5.mk u_.State u_.Input)] : List (x5 Int))), w64 (eg + 1)) hl1 [Hq c0, Hi zD h1, Hn (⟨rfl, dM F0_ ([(x5.mk u_.State u_.Input)] : List (x5 Int)), rfl⟩ : 2 = 2 ∧ A.areD (([(x5.mk u_.State u_.Input)] : List (x5 Int)).map F0_) = true ∧ true = true), Hn (⟨rfl, zfq F0_ F0_ g2⟩ : z2O 2 (((r_.1.length : Nat) : Int).toNat) F0_ ai = A.opq (z0M 2 (((r_.1.length : Nat) : Int).toNat) (ai.map F0_)).q ∧ (ai.map F0_).length + (([(x5.mk u_.State u_.Input)] : List (x5 Int)).map F0_).length ≤ ((r_.1.length : Nat) : Int).toNat), Hn (aM F0_ ai ([(x5.mk u_.State u_.Input)] : List (x5 Int)))]
  ·obtain rfl := zi ae
   obtain rfl := hl1
   exact yB X0 hC ay ai aa [Hq c0]
def VG : Code := (Tryz.f19.body).getD .skip
def qQ : yf := spF (α := z6 × List (List Int)) (ρ := List z8 × Int) 19 (fun x => [yj x.1, Zh x.2]) (fun r => .tup [(eSl 3 true zD) r.1, (eI .i64) r.2]) (fun x => uz x.1 x.2) [] (VS)
theorem VY (hC : zN Tryz.prog ctr) (h07 : ctr.Has wk) : qQ.Ok Tryz.prog := by
 refine zU ?_
 rintro ⟨m_, l_⟩ r0 aa
 try unfold uz at aa
 refine yO false [(4, none), (5, none)] VG 11 Tryz.func19 fun E hE => ?_
 obtain ⟨r_, h0, aa⟩ := zk aa
 obtain rfl := zi aa
 exact yE X0 hC hE [Hc h07 (x := (m_, l_, 2)) h0 (loC yj m_ <| loC Zh l_ <| loC (eI .i64) 2 <| loN)]
def z0Q : Code := (Tryz.f84.body).getD .skip
def kG : yf := spF (α := z6 × Int × Int) (ρ := ze) 84 (fun x => [yj x.1, (eI .i64) x.2.1, (eI .i64) x.2.2]) (fun r => F9_ r) (fun x => Yt x.1 x.2.1 x.2.2) [] (z6H)
theorem z1a (hC : zN Tryz.prog ctr) : kG.Ok Tryz.prog := by
 refine zU ?_
 rintro ⟨m_, s_, i_⟩ r0 aa
 try unfold Yt at aa
 refine yO false [(6, some 105)] z0Q 18 Tryz.func84 fun E hE => ?_
 rcases y4 aa with ⟨c0, aa⟩ | ⟨c0, aa⟩
 ·obtain rfl := zi aa
  exact yE X0 hC hE [Hq c0]
 ·obtain ⟨au, h0, aa⟩ := zk aa
  obtain ⟨ak, h1, aa⟩ := zk aa
  obtain rfl := zi aa
  exact yE X0 hC hE [Hq c0, Hi ue h0, Hi F9_ h1]
def Ku : Code := (Tryz.f72.body).getD .skip
def Ya : yf := spF (α := z6 × Int × List Int) (ρ := Int) 72 (fun x => [yj x.1, (eI .i64) x.2.1, F7_ x.2.2]) (fun r => (eI .i64) r) (fun x => X3 x.1 x.2.1 x.2.2) [] (z6H)
theorem Vq : ∀ (x y : z6 × Int × List Int), (fun x => [yj x.1, (eI .i64) x.2.1, F7_ x.2.2]) x = (fun x => [yj x.1, (eI .i64) x.2.1, F7_ x.2.2]) y → x = y := z6H
def ki (dp : z6 → Int → (List Int) → Option Int) : yf := spF (α := z6 × Int × List Int) (ρ := Int) 72 (fun x => [yj x.1, (eI .i64) x.2.1, F7_ x.2.2]) (fun r => (eI .i64) r) (fun x => dp x.1 x.2.1 x.2.2) [] (by
 intro x y h
 exact (congrArg (fun (p : z6 × Int × List Int) => p) (show x = y from Vq x y h)))
theorem QU (hC : zN Tryz.prog ctr) (h0h : ctr.Has kG) (dp : z6 → Int → (List Int) → Option Int) (h0a : ctr.Has (ki dp)) : (ki (uH dp)).Ok Tryz.prog := by
 refine zU ?_
 rintro ⟨m_, s_, w_⟩ r0 aa
 try unfold uH at aa
 refine yO true [(6, none)] Ku 22 Tryz.func72 fun E hE => ?_
 rcases y4 aa with ⟨c0, aa⟩ | ⟨c0, aa⟩
 ·obtain rfl := zi aa
  exact yE X0 hC hE [Ha (lnM (eI .i64) w_), Hq c0]
 ·obtain ⟨bg, h0, aa⟩ := zk aa
  obtain ⟨r_, h1, aa⟩ := zk aa
  obtain ⟨g0, aa⟩ := gdE aa
  obtain ⟨ah, h2, aa⟩ := zk aa
  obtain rfl := zi aa
  exact yE ((zhz zC z80).or X0) hC hE [Ha (lnM (eI .i64) w_), Hq c0, Hi (eI .i64) h0, Hc h0h (x := (m_, s_, bg)) h1 (loC yj m_ <| loC (eI .i64) s_ <| loC (eI .i64) bg <| loN), Hn (slA g0), Hn (zeP (eI .i64) g0), Ha (slE 1 false (eI .i64) w_ (1 : Int).toNat), Hc h0a (x := (m_, r_.To, (w_.drop (1 : Int).toNat))) h2 (loC yj m_ <| loC (eI .i64) r_.To <| loC F7_ (w_.drop (1 : Int).toNat) <| loN)]
theorem z0g (hC : zN Tryz.prog ctr) (h0h : ctr.Has kG) : Ya.Ok Tryz.prog := by
 have H : ∀ n, (ki (qW n)).Ok Tryz.prog := by
  intro n
  induction n with
  | zero => exact zU fun _ _ h => nomatch (show none = some _ from h)
  | succ n ih => exact QU (Ctr.add_ok hC ih) (h0h.add (by show (84 : Nat) ≠ 72; decide)) _ (Ctr.add_has _ _)
 exact zU fun x r h => z1j (H _) h
def Xg : Code := (Tryz.f71.body).getD .skip
def YQ : yf := spF (α := List Int × Int) (ρ := List Int) 71 (fun x => [F7_ x.1, (eI .i64) x.2]) (fun r => F6_ r) (fun x => Zd x.1 x.2) [] (VS)
abbrev Qk (out : List Int) : List (Nat × T) := [(5, .own (eOs 1 false (eI .i64) out))]
abbrev Qj (inputs : Int) (ai : List Int) (k_ : Int) : List (Nat × T) := [(1, .d (I inputs)), (5, .own (eOs 1 false (eI .i64) ai)), (6, .d (I k_))]
theorem z19 (hC : zN Tryz.prog ctr) : YQ.Ok Tryz.prog := by
 refine zU ?_
 rintro ⟨w_, inputs⟩ r0 aa
 try unfold Zd at aa
 refine yO true [(4, none)] Xg 37 Tryz.func71 fun E hE => ?_
 obtain ⟨g0, aa⟩ := gdE aa
 refine yJ X0 hC Xg [1,1] [] [5] (fun z : List Int => qV z = some r0) (fun z => Qk z) [(1, .d (I inputs)), (5, .own (eOs 1 false (eI .i64) w_))] [Hn (dM (eI .i64) w_), Hn (aL (eI .i64) (eI .i64) g0), Hl (aM0 (eI .i64) w_), Hh (.cut 0)] ?_ fun J1 ay => ?_
 ·rintro out aa
  unfold qV at aa
  obtain ⟨g1, aa⟩ := gdE aa
  obtain rfl := zi aa
  exact yE X0 hC hE [Hq (dM (eI .i64) ([0] : List Int)), Hn (dM (eI .i64) ([0] : List Int)), Hn (aL (eI .i64) (eI .i64) g1), Hl (aM (eI .i64) out ([0] : List Int))]
 ·obtain ⟨t2, ht2, aa⟩ := zk aa
  refine yL X0 hC Xg [1,1,2,1,0] [J1] (fun s => qU inputs s.1 s.2) (fun x => Qj inputs x.1 x.2) (w_, w64 (((w_.length : Nat) : Int) - 1)) ht2  [Ha (lnM (eI .i64) w_)] ?_
  rintro ⟨ai, k_⟩ m2 bi ae hl1 J2 a6
  try unfold qU at ae
  rcases y4 ae with ⟨c0, ae⟩ | ⟨c0, ae⟩
  ·obtain ⟨dg, h0, ae⟩ := zk ae
   let Z0 : List HO := [Hq c0, Hn (iL (eI .i64) h0), Hs (iM (eI .i64) h0)]
   rcases y4 ae with ⟨c1, ae⟩ | ⟨c1, ae⟩
   ·obtain ⟨em, h1, ae⟩ := zk ae
    obtain ⟨iv, h2, ae⟩ := zk ae
    obtain rfl := zi ae
    obtain rfl := hl1
    obtain rfl := zi aa
    exact yE X0 hC hE (Z0 ++ [Hq c1, Hn (iL (eI .i64) h1), Hs (iM (eI .i64) h1), Hn (iL (eI .i64) h2), Hs (iM (eI .i64) h2), Hs (iM (eI .i64) h2), Hl (sM (eI .i64) ai k_ (w64 (em + 1)))])
   ·obtain ⟨iw, h3, ae⟩ := zk ae
    obtain rfl := zi ae
    exact yB X0 hC a6 ((ai.set k_.toNat 0), w64 (k_ - 1)) hl1 (Z0 ++ [Hq c1, Hn (iL (eI .i64) h3), Hs (iM (eI .i64) h3), Hs (iM (eI .i64) h3), Hl (sM (eI .i64) ai k_ 0)])
  ·obtain rfl := zi ae
   obtain rfl := hl1
   exact yB X0 hC ay ai aa [Hq c0]
def jO : Code := (Tryz.f52.body).getD .skip
def Y9 : yf := spF (α := z6 × Int) (ρ := List (List Int) × List Bool) 52 (fun x => [yj x.1, (eI .i64) x.2]) (fun r => .tup [zbo r.1, (eSl 1 true eB) r.2]) (fun x => Zy x.1 x.2) [] (VS)
abbrev UE (l_ : List (List Int)) (is : List Bool) : List (Nat × T) := [(6, .own (eOs 1 true F7_ l_)), (7, .own (eOs 1 true eB is))]
abbrev UD (m_ : z6) (from_ : Int) (w_ : List Int) (dz : List (List Int)) (gz : List Bool) : List (Nat × T) := [(1, .d (I from_)), (2, .own (.box (yj m_))), (6, .own (eOs 1 true F7_ dz)), (7, .own (eOs 1 true eB gz)), (8, .d (eSl 1 false (eI .i64) w_))]
abbrev UC (m_ : z6) (from_ : Int) (bn : List (List Int)) (ck : List Bool) (w_ : List Int) : List (Nat × T) := [(1, .d (I from_)), (2, .own (.box (yj m_))), (6, .own (eOs 1 true F7_ bn)), (7, .own (eOs 1 true eB ck)), (8, .own (eOs 1 false (eI .i64) w_))]
def wr : XH Tryz.prog := ((z3Z zC (.inr 48) [8]).or X0)
theorem z0f (hC : zN Tryz.prog ctr) (h0L : ctr.Has Ya) (h0M : ctr.Has YQ) : Y9.Ok Tryz.prog := by
 refine zU ?_
 rintro ⟨m_, from_⟩ r0 aa
 try unfold Zy at aa
 refine yO false [(4, none), (5, none)] jO 51 Tryz.func52 fun E hE => ?_
 obtain ⟨g0, aa⟩ := gdE aa
 obtain ⟨g1, aa⟩ := gdE aa
 refine yJ wr hC jO [1,1,1] [] [6,7] (fun z : List (List Int) × List Bool => jN z.1 z.2 = some r0) (fun z => UE z.1 z.2) [(1, .d (I from_)), (2, .own (.box (yj m_))), (6, .own (eOs 1 true F2_ (List.replicate ((m_.Rows.length : Nat) : Int).toNat ([] : List Int)))), (7, .own (eOs 1 true eB (List.replicate ((m_.Rows.length : Nat) : Int).toNat false)))] [Ha (lnM ue m_.Rows), Hn (rL g0), Ha (rM 1 F3_ ((m_.Rows.length : Nat) : Int) ([] : List Int)), Hh (.v 0 [6]), Hm (shM F3_ F2_ (List.replicate ((m_.Rows.length : Nat) : Int).toNat ([] : List Int))), Ha (lnM ue m_.Rows), Hn (rL g1), Ha (rM 1 eB ((m_.Rows.length : Nat) : Int) false), Hh (.cut 0)] ?_ fun J1 ay => ?_
 ·rintro ⟨l_, is⟩ aa
  unfold jN at aa
  obtain rfl := zi aa
  exact yE wr hC hE [Hm (shM F7_ F7_ l_), Hm (shM eB eB is)]
 ·obtain ⟨t2, ht2, aa⟩ := zk aa
  refine yLx wr hC jO [1,1,1,2,1,0] [J1] (fun s => jM m_ from_ s.1 s.2.1 s.2.2) (fun x => UC m_ from_ x.1 x.2.1 x.2.2) ((List.replicate ((m_.Rows.length : Nat) : Int).toNat ([] : List Int)), (List.replicate ((m_.Rows.length : Nat) : Int).toNat false), ([] : List Int)) ht2 [(1, .d (I from_)), (2, .own (.box (yj m_))), (6, .own (eOs 1 true F2_ (List.replicate ((m_.Rows.length : Nat) : Int).toNat ([] : List Int)))), (7, .own (eOs 1 true eB (List.replicate ((m_.Rows.length : Nat) : Int).toNat false))), (8, .own (eOs 1 true (eI .i64) []))] inferInstance [] ?_
  rintro ⟨bn, ck, w_⟩ m2 bi ae hl1 J2 a6
  try unfold jM at ae
  let Z0 : List HO := [Ha (lnM (eI .i64) w_), Ha (lnM ue m_.Rows)]
  rcases y4 ae with ⟨c0, ae⟩ | ⟨c0, ae⟩
  ·refine yJ wr hC jO [1,1,1,2,1,0,0,1] [J1, J2] [1,2,6,7,8] (fun z : List (List Int) × List Bool => vn m_ w_ z.1 z.2 = some bi) (fun z => UD m_ from_ w_ z.1 z.2) [(1, .d (I from_)), (2, .own (.box (yj m_))), (6, .own (eOs 1 true F7_ bn)), (7, .own (eOs 1 true eB ck)), (8, .d (eSl 1 false (eI .i64) w_))] (Z0 ++ [Hq c0, Hh (.n 1 [8]), Hm (shM (eI .i64) (eI .i64) w_), Hh (.cut 0)]) ?_ fun J3 ca => ?_
   ·rintro ⟨dz, gz⟩ ae
    unfold vn at ae
    obtain ⟨r_, h0, ae⟩ := zk ae
    obtain rfl := zi ae
    exact yB wr hC a6 (dz, gz, r_) hl1 [Hc h0M (x := (w_, m_.Inputs)) h0 (loC F7_ w_ <| loC (eI .i64) m_.Inputs <| loN)]
   ·obtain ⟨ah, h1, ae⟩ := zk ae
    let Z1 : List HO := [Hc h0L (x := (m_, from_, w_)) h1 (loC yj m_ <| loC (eI .i64) from_ <| loC F7_ w_ <| loN)]
    rcases y4 ae with ⟨c1, ae⟩ | ⟨c1, ae⟩
    ·obtain ⟨gx, h2, ae⟩ := zk ae
     let Z2 : List HO := (Z1 ++ [Hq c1, Hq c1, Hq c1, Hn (iL eB h2), Hq c1, Hs (iM eB h2), Hq c1, Hq c1])
     rcases y4 ae with ⟨c2, ae⟩ | ⟨c2, ae⟩
     ·obtain ⟨iz, h3, ae⟩ := zk ae
      obtain ⟨bf, h4, ae⟩ := zk ae
      exact yB wr hC ca ((bn.set ah.toNat w_), (ck.set ah.toNat true)) ae (Z2 ++ [Hq c2, Hn (iL eB h3), Hs (iM eB h3), Hs (iM eB h3), Hl (sM eB ck ah true), Hn (iL F7_ h4), Hs (iM F7_ h4), Hs (iM F7_ h4), Hl (sM F7_ bn ah w_)])
     ·exact yB wr hC ca (bn, ck) ae (Z2 ++ [Hq c2])
    ·exact yB wr hC ca (bn, ck) ae (Z1 ++ (rpN 6 (Hq c1) [qF]))
  ·obtain rfl := zi ae
   obtain rfl := hl1
   exact yB wr hC ay (bn, ck) aa (Z0 ++ [Hq c0])
def K2 : Code := (Tryz.f35.body).getD .skip
def Zs : yf := spF (α := z6) (ρ := List (List Int) × List Bool) 35 (fun x => [yj x]) (fun r => .tup [zbo r.1, (eSl 1 true eB) r.2]) (fun x => jU x) [] (Ke)
theorem Km (hC : zN Tryz.prog ctr) (h0N : ctr.Has Y9) : Zs.Ok Tryz.prog := by
 refine zU ?_
 rintro m_ r0 aa
 try unfold jU at aa
 refine yO false [(2, none), (3, none)] K2 8 Tryz.func35 fun E hE => ?_
 obtain ⟨r_, h0, aa⟩ := zk aa
 obtain rfl := zi aa
 exact yE X0 hC hE [Hc h0N (x := (m_, 0)) h0 (loC yj m_ <| loC (eI .i64) 0 <| loN)]
def wq : Code := (Tryz.f27.body).getD .skip
def YN : yf := spF (α := z6 × Int) (ρ := List za) 27 (fun x => [yj x.1, (eI .i64) x.2]) (fun r => (eOs 3 false xX) r) (fun x => Yr x.1 x.2) [] (VS)
abbrev Qd (out : List za) : List (Nat × T) := [(7, .own (eOs 3 false xX out))]
abbrev Qc (m_ : z6) (goal : Int) (r_ : List (List Int) × List Bool) (s_ : Int) (a8 : List za) : List (Nat × T) := [(1, .d (I goal)), (2, .own (.box (yj m_))), (6, .d (eSl 1 true eB r_.2)), (7, .own (eOs 3 false xX a8)), (8, .d (I s_))]
abbrev Qb (m_ : z6) (goal : Int) (r_ : List (List Int) × List Bool) (s_ : Int) (i_ : Int) (cr : List za) : List (Nat × T) := [(1, .d (I goal)), (2, .own (.box (yj m_))), (6, .d (eSl 1 true eB r_.2)), (7, .own (eOs 3 false xX cr)), (8, .d (I s_)), (9, .d (I i_))]
abbrev Q9 (m_ : z6) (goal : Int) (r_ : List (List Int) × List Bool) (s_ : Int) (i_ : Int) (ak : ze) (k_ : Int) (gr : List za) : List (Nat × T) := [(1, .d (I goal)), (2, .own (.box (yj m_))), (6, .d (eSl 1 true eB r_.2)), (7, .own (eOs 3 false xX gr)), (8, .d (I s_)), (9, .d (I i_)), (10, .d (I ak.To)), (11, .d (I k_)), (68, .d (I ak.To)), (69, .d (B (ak.To != (-1)))), (72, .d (I goal)), (73, .d (B (goal == 2)))]
abbrev Q6 (m_ : z6) (goal : Int) (r_ : List (List Int) × List Bool) (s_ : Int) (i_ : Int) (ak : ze) (cp : List za) (k_ : Int) : List (Nat × T) := [(1, .d (I goal)), (2, .own (.box (yj m_))), (6, .d (eSl 1 true eB r_.2)), (7, .own (eOs 3 false xX cp)), (8, .d (I s_)), (9, .d (I i_)), (10, .d (I ak.To)), (11, .d (I k_))]
abbrev Qa (m_ : z6) (goal : Int) (r_ : List (List Int) × List Bool) (s_ : Int) (i_ : Int) (ak : ze) (cx : List za) : List (Nat × T) := [(1, .d (I goal)), (2, .own (.box (yj m_))), (6, .d (eSl 1 true eB r_.2)), (7, .own (eOs 3 false xX cx)), (8, .d (I s_)), (9, .d (I i_)), (10, .d (I ak.To))]
abbrev Q7 (m_ : z6) (goal : Int) (r_ : List (List Int) × List Bool) (s_ : Int) (br : List za) (i_ : Int) : List (Nat × T) := [(1, .d (I goal)), (2, .own (.box (yj m_))), (6, .d (eSl 1 true eB r_.2)), (7, .own (eOs 3 false xX br)), (8, .d (I s_)), (9, .d (I i_))]
abbrev Q8 (m_ : z6) (goal : Int) (r_ : List (List Int) × List Bool) (ai : List za) (s_ : Int) : List (Nat × T) := [(1, .d (I goal)), (2, .own (.box (yj m_))), (6, .d (eSl 1 true eB r_.2)), (7, .own (eOs 3 false xX ai)), (8, .d (I s_))]
theorem z16 (hC : zN Tryz.prog ctr) (h0O : ctr.Has Zs) : YN.Ok Tryz.prog := by
 refine zU ?_
 rintro ⟨m_, goal⟩ r0 aa
 try unfold Yr at aa
 refine yO true [(4, none)] wq 95 Tryz.func27 fun E hE => ?_
 obtain ⟨r_, h0, aa⟩ := zk aa
 refine yJ X0 hC wq [1,1,1] [] [7] (fun z : List za => kH z = some r0) (fun z => Qd z) [(1, .d (I goal)), (2, .own (.box (yj m_))), (6, .d (eSl 1 true eB r_.2)), (7, .own (eOs 3 true xX []))] [Hc h0O (x := m_) h0 (loC yj m_ <| loN), Hh (.cut 1)] ?_ fun J1 ay => ?_
 ·rintro out aa
  unfold kH at aa
  obtain rfl := zi aa
  exact yE X0 hC hE []
 ·obtain ⟨t2, ht2, aa⟩ := zk aa
  refine yLx X0 hC wq [1,1,1,2,1,0] [J1] (fun s => uF m_ goal r_ s.1 s.2) (fun x => Q8 m_ goal r_ x.1 x.2) (([] : List za), 0) ht2 [(1, .d (I goal)), (2, .own (.box (yj m_))), (6, .d (eSl 1 true eB r_.2)), (7, .own (eOs 3 true xX [])), (8, .d (I 0))] inferInstance [] ?_
  rintro ⟨ai, s_⟩ m2 bi ae hl1 J2 a6
  try unfold uF at ae
  let Z0 : List HO := [Ha (lnM ue m_.Rows)]
  rcases y4 ae with ⟨c0, ae⟩ | ⟨c0, ae⟩
  ·refine yJ X0 hC wq [1,1,1,2,1,0,0,1] [J1, J2] [1,2,6,7,8] (fun z : List za => v6 s_ z = some bi) (fun z => Qc m_ goal r_ s_ z) [(1, .d (I goal)), (2, .own (.box (yj m_))), (6, .d (eSl 1 true eB r_.2)), (7, .own (eOs 3 false xX ai)), (8, .d (I s_))] (Z0 ++ [Hq c0, Hh (.cut 0)]) ?_ fun J3 ca => ?_
   ·rintro a8 ae
    unfold v6 at ae
    obtain rfl := zi ae
    exact yB X0 hC a6 (a8, w64 (s_ + 1)) hl1 []
   ·obtain ⟨u_, h1, ae⟩ := zk ae
    rcases y4 ae with ⟨c1, ae⟩ | ⟨c1, ae⟩
    ·exact yB X0 hC ca ai ae [Hi eB h1, Hq c1]
    ·rcases y4 ae with ⟨c2, ae⟩ | ⟨c2, ae⟩
     ·obtain ⟨g0, ae⟩ := gdE ae
      exact yB X0 hC ca (ai ++ ([(za.mk s_ (-1) (-1))] : List za)) ae [Hi eB h1, Hq c1, Hq c2, Hq (dM xX ([(za.mk s_ (-1) (-1))] : List za)), Hn (dM xX ([(za.mk s_ (-1) (-1))] : List za)), Hn (aL xX xX g0), Hl (aM xX ai ([(za.mk s_ (-1) (-1))] : List za))]
     ·obtain ⟨t4, ht4, ae⟩ := zk ae
      refine yL X0 hC wq [1,1,1,2,1,0,0,1,2,0,1,1,1,0] [J1, J2, J3] (fun s => uE m_ goal s_ s.1 s.2) (fun x => Q7 m_ goal r_ s_ x.1 x.2) (ai,0) ht4  [Hi eB h1, Hq c1, Hq c2] ?_
      rintro ⟨br, i_⟩ m4 fh aj hl2 J4 dv
      try unfold uE at aj
      rcases y4 aj with ⟨c3, aj⟩ | ⟨c3, aj⟩
      ·refine yJ X0 hC wq [1,1,1,2,1,0,0,1,2,0,1,1,1,0,0,1] [J1, J2, J3, J4] [1,2,6,7,8,9] (fun z : List za => qR i_ z = some fh) (fun z => Qb m_ goal r_ s_ i_ z) [(1, .d (I goal)), (2, .own (.box (yj m_))), (6, .d (eSl 1 true eB r_.2)), (7, .own (eOs 3 false xX br)), (8, .d (I s_)), (9, .d (I i_))] [Hq c3, Hh (.cut 0)] ?_ fun J5 dh => ?_
       ·rintro cr aj
        unfold qR at aj
        obtain rfl := zi aj
        exact yB X0 hC dv (cr, w64 (i_ + 1)) hl2 []
       ·obtain ⟨au, h2, aj⟩ := zk aj
        obtain ⟨ak, h3, aj⟩ := zk aj
        refine yJ X0 hC wq [1,1,1,2,1,0,0,1,2,0,1,1,1,0,0,1,2,0,1] [J1, J2, J3, J4, J5] [1,2,6,7,8,9,10] (fun z : List za => wZ m_ goal s_ i_ ak z = some fh) (fun z => Qa m_ goal r_ s_ i_ ak z) [(1, .d (I goal)), (2, .own (.box (yj m_))), (6, .d (eSl 1 true eB r_.2)), (7, .own (eOs 3 false xX br)), (8, .d (I s_)), (9, .d (I i_)), (10, .d (I ak.To))] [Hi ue h2, Hi F9_ h3, Hh (.cut 0)] ?_ fun J6 d8 => ?_
        ·rintro cx aj
         unfold wZ at aj
         obtain ⟨t7, ht7, aj⟩ := zk aj
         refine yL X0 hC wq [1,1,1,2,1,0,0,1,2,0,1,1,1,0,0,1,2,0,1,1,1,0] [J1, J2, J3, J4, J5] (fun s => vQ m_ goal s_ i_ ak s.1 s.2) (fun x => Q6 m_ goal r_ s_ i_ ak x.1 x.2) (cx,0) ht7  [] ?_
         rintro ⟨cp, k_⟩ m7 ix bp hl3 J7 fp
         try unfold vQ at bp
         rcases y4 bp with ⟨c4, bp⟩ | ⟨c4, bp⟩
         ·rcases y4 bp with ⟨c5, bp⟩ | ⟨c5, bp⟩
          ·let Z1 : List HO := [Hq c4, Hq c4, Hq c4, Hq c5, Hq c5, Hq c5]
           rcases y4 bp with ⟨c6, bp⟩ | ⟨c6, bp⟩
           ·refine yJ X0 hC wq [1,1,1,2,1,0,0,1,2,0,1,1,1,0,0,1,2,0,1,1,1,0,0,1] [J1, J2, J3, J4, J5, J7] [1,2,6,7,8,9,10,11,68,69,72,73] (fun z : List za => uG k_ z = some ix) (fun z => Q9 m_ goal r_ s_ i_ ak k_ z) [(1, .d (I goal)), (2, .own (.box (yj m_))), (6, .d (eSl 1 true eB r_.2)), (7, .own (eOs 3 false xX cp)), (8, .d (I s_)), (9, .d (I i_)), (10, .d (I ak.To)), (11, .d (I k_)), (68, .d (I ak.To)), (69, .d (B (ak.To != (-1)))), (72, .d (I goal)), (73, .d (B (goal == 2)))] (Z1 ++ [Hq c6, Hh (.cut 0)]) ?_ fun J8 hJ8 => ?_
            ·rintro gr bp
             unfold uG at bp
             obtain rfl := zi bp
             exact yB X0 hC fp (gr, w64 (k_ + 1)) hl3 []
            ·obtain ⟨bv, h4, bp⟩ := zk bp
             obtain ⟨bj, h5, bp⟩ := zk bp
             let Z2 : List HO := [Hi ue h4, Hi F9_ h5]
             rcases y4 bp with ⟨c7, bp⟩ | ⟨c7, bp⟩
             ·obtain ⟨g1, bp⟩ := gdE bp
              exact yB X0 hC hJ8 (cp ++ ([(za.mk s_ i_ k_)] : List za)) bp (Z2 ++ [Hq c7, Hq (dM xX ([(za.mk s_ i_ k_)] : List za)), Hn (dM xX ([(za.mk s_ i_ k_)] : List za)), Hn (aL xX xX g1), Hl (aM xX cp ([(za.mk s_ i_ k_)] : List za))])
             ·exact yB X0 hC hJ8 cp bp (Z2 ++ [Hq c7])
           ·obtain rfl := zi bp
            obtain rfl := hl3
            exact yB X0 hC dh cp aj (Z1 ++ [Hq c6])
          ·obtain rfl := zi bp
           obtain rfl := hl3
           exact yB X0 hC dh cp aj [Hq c4, Hq c4, Hq c4, Hq c5, Hq c5, Hq c5, qF]
         ·obtain rfl := zi bp
          obtain rfl := hl3
          exact yB X0 hC dh cp aj (Hq c4 :: Hq c4 :: Hq c4 :: (rpN 4 qF []))
        ·rcases y4 aj with ⟨c8, aj⟩ | ⟨c8, aj⟩
         ·rcases y4 aj with ⟨c9, aj⟩ | ⟨c9, aj⟩
          ·obtain ⟨g2, aj⟩ := gdE aj
           exact yB X0 hC d8 (br ++ ([(za.mk s_ i_ (-1))] : List za)) aj [Hq c8, Hq c8, Hq c8, Hq c9, Hq (dM xX ([(za.mk s_ i_ (-1))] : List za)), Hn (dM xX ([(za.mk s_ i_ (-1))] : List za)), Hn (aL xX xX g2), Hl (aM xX br ([(za.mk s_ i_ (-1))] : List za))]
          ·exact yB X0 hC d8 br aj [Hq c8, Hq c8, Hq c8, Hq c9]
         ·exact yB X0 hC d8 br aj [Hq c8, Hq c8, Hq c8, qF]
      ·obtain rfl := zi aj
       obtain rfl := hl2
       exact yB X0 hC ca br ae [Hq c3]
  ·obtain rfl := zi ae
   obtain rfl := hl1
   exact yB X0 hC ay ai aa (Z0 ++ [Hq c0])
def j9 : Code := (Tryz.f53.body).getD .skip
def Zr : yf := spF (α := z6 × List Int × za) (ρ := Bool) 53 (fun x => [yj x.1, F7_ x.2.1, xX x.2.2]) (fun r => eB r) (fun x => jR x.1 x.2.1 x.2.2) [] (z6H)
abbrev VN (m_ : z6) (w_ : List Int) (x_ : za) (cd : Int) (k_ : Int) (au : List ze) (bg : Int) (ak : ze) (bj : ze) : List (Nat × T) := [(1, .d (eSl 1 false (eI .i64) w_)), (3, .own (.box (yj m_))), (5, .own (.box (xX x_))), (8, .d (I k_)), (9, .d (I bj.To)), (27, .d (eSl 1 false ue m_.Rows)), (28, .d (I cd)), (29, .d (.sptr (eSl 2 false F9_ au))), (30, .d (eSl 2 false F9_ au)), (31, .d (eSl 1 false (eI .i64) w_)), (32, .d (I k_)), (33, .d (.sptr (I bg))), (34, .d (I bg)), (35, .d (.sptr (F9_ ak))), (36, .d (.sptr (I ak.To))), (37, .d (I ak.To)), (38, .d (B (ak.To == (-1))))]
abbrev VO (m_ : z6) (w_ : List Int) (x_ : za) (cd : Int) (k_ : Int) : List (Nat × T) := [(1, .d (eSl 1 false (eI .i64) w_)), (3, .own (.box (yj m_))), (5, .own (.box (xX x_))), (7, .d (I cd)), (8, .d (I k_))]
abbrev VL (m_ : z6) (w_ : List Int) (x_ : za) (cd : Int) (k_ : Int) : List (Nat × T) := [(1, .d (eSl 1 false (eI .i64) w_)), (3, .own (.box (yj m_))), (5, .own (.box (xX x_))), (7, .d (I cd)), (8, .d (I k_))]
theorem Kl (hC : zN Tryz.prog ctr) : Zr.Ok Tryz.prog := by
 refine zU ?_
 rintro ⟨m_, w_, x_⟩ r0 aa
 try unfold jR at aa
 refine yO true [(6, none)] j9 101 Tryz.func53 fun E hE => ?_
 obtain ⟨t1, ht1, aa⟩ := zk aa
 refine yL X0 hC j9 [1,1,1,0] [] (fun s => ut m_ w_ x_ s.1 s.2) (fun x => VL m_ w_ x_ x.1 x.2) (0,0) ht1  [] ?_
 rintro ⟨cd, k_⟩ m1 bi ae hl1 J1 ay
 try unfold ut at ae
 refine yJ X0 hC j9 [1,1,1,0,0,0,0] [J1] [1,3,5,7,8] (fun z : Unit => vC m_ w_ x_ cd k_ = some bi) (fun z => VO m_ w_ x_ cd k_) [(1, .d (eSl 1 false (eI .i64) w_)), (3, .own (.box (yj m_))), (5, .own (.box (xX x_))), (7, .d (I cd)), (8, .d (I k_))] [Hh (.cut 1)] ?_ fun J2 a6 => ?_
 ·rintro ⟨⟩ ae
  unfold vC at ae
  rcases y4 ae with ⟨c0, ae⟩ | ⟨c0, ae⟩
  ·obtain rfl := zi ae
   obtain rfl := hl1
   obtain rfl := zi aa
   exact yE X0 hC hE (Ha (lnM (eI .i64) w_) :: (rpN 14 (Hq c0) [qT]))
  ·obtain ⟨au, h0, ae⟩ := zk ae
   obtain ⟨bg, h1, ae⟩ := zk ae
   obtain ⟨ak, h2, ae⟩ := zk ae
   let Z0 : List HO := (Ha (lnM (eI .i64) w_) :: (rpN 4 (Hq c0) (Hi ue h0 :: (rpN 4 (Hq c0) (Hi (eI .i64) h1 :: Hq c0 :: Hq c0 :: Hi F9_ h2 :: (rpN 4 (Hq c0) []))))))
   rcases y4 ae with ⟨c1, ae⟩ | ⟨c1, ae⟩
   ·obtain rfl := zi ae
    obtain rfl := hl1
    obtain rfl := zi aa
    exact yE X0 hC hE (Z0 ++ [Hq c1])
   ·obtain ⟨bv, h3, ae⟩ := zk ae
    obtain ⟨ik, h4, ae⟩ := zk ae
    obtain ⟨bj, h5, ae⟩ := zk ae
    refine yJ X0 hC j9 [1,1,1,0,0,0,0,1,1,1] [J1] [1,3,5,8,9,27,28,29,30,31,32,33,34,35,36,37,38] (fun z : Unit => x9 k_ bj = some bi) (fun z => VN m_ w_ x_ cd k_ au bg ak bj) [(1, .d (eSl 1 false (eI .i64) w_)), (3, .own (.box (yj m_))), (5, .own (.box (xX x_))), (7, .d (I cd)), (8, .d (I k_)), (9, .d (I bj.To)), (27, .d (eSl 1 false ue m_.Rows)), (28, .d (I cd)), (29, .d (.sptr (eSl 2 false F9_ au))), (30, .d (eSl 2 false F9_ au)), (31, .d (eSl 1 false (eI .i64) w_)), (32, .d (I k_)), (33, .d (.sptr (I bg))), (34, .d (I bg)), (35, .d (.sptr (F9_ ak))), (36, .d (.sptr (I ak.To))), (37, .d (I ak.To)), (38, .d (B (ak.To == (-1))))] (Z0 ++ [Hq c1, Hi ue h3, Hi (eI .i64) h4, Hi F9_ h5, Hh (.cut 0)]) ?_ fun J3 ca => ?_
    ·rintro ⟨⟩ ae
     unfold x9 at ae
     obtain rfl := zi ae
     exact yB X0 hC ay (bj.To, w64 (k_ + 1)) hl1 []
    ·rcases y4 ae with ⟨c2, ae⟩ | ⟨c2, ae⟩
     ·obtain ⟨il, h6, ae⟩ := zk ae
      let Z1 : List HO := (rpN 5 (Hq c2) [Hi (eI .i64) h6, Hq c2, Hq c2, Hq c2])
      rcases y4 ae with ⟨c3, ae⟩ | ⟨c3, ae⟩
      ·let Z2 : List HO := (Z1 ++ (rpN 4 (Hq c3) []))
       rcases y4 ae with ⟨c4, ae⟩ | ⟨c4, ae⟩
       ·obtain rfl := zi ae
        obtain rfl := hl1
        obtain rfl := zi aa
        exact yE X0 hC hE (Z2 ++ (rpN 9 (Hq c4) [Hq c3, Hq c4, Hq c3, qT]))
       ·let Z3 : List HO := (Z2 ++ (rpN 4 (Hq c4) [Ha (lnM (eI .i64) w_), Hq c4, Hq c4]))
        rcases y4 ae with ⟨c5, ae⟩ | ⟨c5, ae⟩
        ·obtain ⟨im, h7, ae⟩ := zk ae
         let Z4 : List HO := (Z3 ++ (rpN 4 (Hq c5) (Hi (eI .i64) h7 :: (rpN 4 (Hq c5) [Hq c4, Hq c5, Hq c4]))))
         rcases y4 ae with ⟨c6, ae⟩ | ⟨c6, ae⟩
         ·obtain ⟨ia, h8, ae⟩ := zk ae
          obtain ⟨gt, h9, ae⟩ := zk ae
          let Z5 : List HO := (Z4 ++ (rpN 4 (Hq c6) (Hi ue h8 :: (rpN 4 (Hq c6) [Hi F9_ h9, Hq c6, Hq c6, Hq c6, Hq c4, Hq c6, Hq c3, Hq c4, Hq c3]))))
          rcases y4 ae with ⟨c7, ae⟩ | ⟨c7, ae⟩
          ·obtain rfl := zi ae
           obtain rfl := hl1
           obtain rfl := zi aa
           exact yE X0 hC hE (Z5 ++ [Hq c7])
          ·exact yB X0 hC ca () ae (Z5 ++ [Hq c7])
         ·exact yB X0 hC ca () ae (Z4 ++ (rpN 11 (Hq c6) [Hq c4, Hq c6, Hq c3, Hq c4, Hq c3, qF]))
        ·exact yB X0 hC ca () ae (Z3 ++ (rpN 8 (Hq c5) (Hq c4 :: Hq c5 :: Hq c4 :: (rpN 11 qF [Hq c4, qF, Hq c3, Hq c4, Hq c3, qF]))))
      ·exact yB X0 hC ca () ae (Z1 ++ (rpN 6 (Hq c3) [qF]))
     ·exact yB X0 hC ca () ae (rpN 8 (Hq c2) (rpN 7 qF []))
 ·rcases y4 ae with ⟨c8, ae⟩ | ⟨c8, ae⟩
  ·let Z6 : List HO := (rpN 5 (Hq c8) [])
   rcases y4 ae with ⟨c9, ae⟩ | ⟨c9, ae⟩
   ·obtain rfl := zi ae
    obtain rfl := hl1
    obtain rfl := zi aa
    exact yE X0 hC hE (Z6 ++ [Hq c9])
   ·exact yB X0 hC a6 () ae (Z6 ++ [Hq c9])
  ·exact yB X0 hC a6 () ae (rpN 5 (Hq c8) [qF])
def ku : Code := (Tryz.f36.body).getD .skip
def kh : yf := spF (α := z6 × List (List Int) × za) (ρ := Bool) 36 (fun x => [yj x.1, Zh x.2.1, xX x.2.2]) (fun r => eB r) (fun x => qS x.1 x.2.1 x.2.2) [] (z6H)
abbrev V6 (x_ : za) : List (Nat × T) := [(5, .own (.box (xX x_)))]
abbrev V5 (m_ : z6) (l_ : List (List Int)) (x_ : za) (i_ : Int) : List (Nat × T) := [(1, .d (eSl 1 false F7_ l_)), (3, .own (.box (yj m_))), (5, .own (.box (xX x_))), (7, .d (I i_))]
theorem QS (hC : zN Tryz.prog ctr) (h0P : ctr.Has Zr) : kh.Ok Tryz.prog := by
 refine zU ?_
 rintro ⟨m_, l_, x_⟩ r0 aa
 try unfold qS at aa
 refine yO true [(6, none)] ku 24 Tryz.func36 fun E hE => ?_
 refine yJ X0 hC ku [1] [] [5] (fun z : Unit => q9 x_ = some r0) (fun z => V6 x_) [(1, .d (eSl 1 false F7_ l_)), (3, .own (.box (yj m_))), (5, .own (.box (xX x_)))] [Hh (.cut 1)] ?_ fun J1 ay => ?_
 ·rintro ⟨⟩ aa
  unfold q9 at aa
  obtain rfl := zi aa
  exact yE X0 hC hE []
 ·obtain ⟨t2, ht2, aa⟩ := zk aa
  refine yL X0 hC ku [1,2,1,0] [J1] (fun s => vZ m_ l_ x_ s) (fun x => V5 m_ l_ x_ x) 0 ht2  [] ?_
  rintro i_ m2 bi ae hl1 J2 a6
  try unfold vZ at ae
  let Z0 : List HO := [Ha (lnM F7_ l_)]
  rcases y4 ae with ⟨c0, ae⟩ | ⟨c0, ae⟩
  ·obtain ⟨bf, h0, ae⟩ := zk ae
   obtain ⟨r_, h1, ae⟩ := zk ae
   let Z1 : List HO := (Z0 ++ [Hq c0, Hi F7_ h0, Hc h0P (x := (m_, bf, x_)) h1 (loC yj m_ <| loC F7_ bf <| loC xX x_ <| loN)])
   rcases y4 ae with ⟨c1, ae⟩ | ⟨c1, ae⟩
   ·obtain rfl := zi ae
    obtain rfl := hl1
    obtain rfl := zi aa
    exact yE X0 hC hE (Z1 ++ [Hq c1])
   ·obtain rfl := zi ae
    exact yB X0 hC a6 (w64 (i_ + 1)) hl1 (Z1 ++ [Hq c1])
  ·obtain rfl := zi ae
   obtain rfl := hl1
   exact yB X0 hC ay () aa (Z0 ++ [Hq c0])
def qj : Code := (Tryz.f14.body).getD .skip
def kg : yf := spF (α := z6 × List (List Int) × Int) (ρ := List za) 14 (fun x => [yj x.1, Zh x.2.1, (eI .i64) x.2.2]) (fun r => (eOs 3 false xX) r) (fun x => vP x.1 x.2.1 x.2.2) [] (z6H)
abbrev V4 (out : List za) : List (Nat × T) := [(8, .own (eOs 3 false xX out))]
abbrev V3 (m_ : z6) (l_ : List (List Int)) (r_ : List za) (i_ : Int) (a8 : List za) : List (Nat × T) := [(1, .d (eSl 1 false F7_ l_)), (3, .own (.box (yj m_))), (7, .own (eOs 3 false xX r_)), (8, .own (eOs 3 false xX a8)), (9, .d (I i_))]
abbrev V2 (m_ : z6) (l_ : List (List Int)) (r_ : List za) (ai : List za) (i_ : Int) : List (Nat × T) := [(1, .d (eSl 1 false F7_ l_)), (3, .own (.box (yj m_))), (7, .own (eOs 3 false xX r_)), (8, .own (eOs 3 false xX ai)), (9, .d (I i_))]
theorem QR (hC : zN Tryz.prog ctr) (h0Q : ctr.Has YN) (h0R : ctr.Has kh) : kg.Ok Tryz.prog := by
 refine zU ?_
 rintro ⟨m_, l_, goal⟩ r0 aa
 try unfold vP at aa
 refine yO true [(6, none)] qj 35 Tryz.func14 fun E hE => ?_
 obtain ⟨r_, h0, aa⟩ := zk aa
 refine yJ X0 hC qj [1,1,1] [] [8] (fun z : List za => uZ z = some r0) (fun z => V4 z) [(1, .d (eSl 1 false F7_ l_)), (3, .own (.box (yj m_))), (7, .own (eOs 3 false xX r_)), (8, .own (eOs 3 true xX []))] [Hc h0Q (x := (m_, goal)) h0 (loC yj m_ <| loC (eI .i64) goal <| loN), Hh (.cut 1)] ?_ fun J1 ay => ?_
 ·rintro out aa
  unfold uZ at aa
  obtain rfl := zi aa
  exact yE X0 hC hE []
 ·obtain ⟨t2, ht2, aa⟩ := zk aa
  refine yLx X0 hC qj [1,1,1,2,1,0] [J1] (fun s => wQ m_ l_ r_ s.1 s.2) (fun x => V2 m_ l_ r_ x.1 x.2) (([] : List za), 0) ht2 [(1, .d (eSl 1 false F7_ l_)), (3, .own (.box (yj m_))), (7, .own (eOs 3 false xX r_)), (8, .own (eOs 3 true xX [])), (9, .d (I 0))] inferInstance [] ?_
  rintro ⟨ai, i_⟩ m2 bi ae hl1 J2 a6
  try unfold wQ at ae
  let Z0 : List HO := [Ha (lnM xX r_)]
  rcases y4 ae with ⟨c0, ae⟩ | ⟨c0, ae⟩
  ·refine yJ X0 hC qj [1,1,1,2,1,0,0,1] [J1, J2] [1,3,7,8,9] (fun z : List za => wR i_ z = some bi) (fun z => V3 m_ l_ r_ i_ z) [(1, .d (eSl 1 false F7_ l_)), (3, .own (.box (yj m_))), (7, .own (eOs 3 false xX r_)), (8, .own (eOs 3 false xX ai)), (9, .d (I i_))] (Z0 ++ [Hq c0, Hh (.cut 0)]) ?_ fun J3 ca => ?_
   ·rintro a8 ae
    unfold wR at ae
    obtain rfl := zi ae
    exact yB X0 hC a6 (a8, w64 (i_ + 1)) hl1 []
   ·obtain ⟨bt, h1, ae⟩ := zk ae
    obtain ⟨ah, h2, ae⟩ := zk ae
    let Z1 : List HO := [Hn (iL xX h1), Hs (iM xX h1), Hc h0R (x := (m_, l_, bt)) h2 (loC yj m_ <| loC Zh l_ <| loC xX bt <| loN)]
    rcases y4 ae with ⟨c1, ae⟩ | ⟨c1, ae⟩
    ·obtain ⟨dx, h3, ae⟩ := zk ae
     obtain ⟨g0, ae⟩ := gdE ae
     exact yB X0 hC ca (ai ++ ([dx] : List za)) ae (Z1 ++ [Hq c1, Hn (iL xX h3), Hs (iM xX h3), Hq (dM xX ([dx] : List za)), Hn (dM xX ([dx] : List za)), Hn (aL xX xX g0), Hl (aM xX ai ([dx] : List za))])
    ·exact yB X0 hC ca ai ae (Z1 ++ [Hq c1])
  ·obtain rfl := zi ae
   obtain rfl := hl1
   exact yB X0 hC ay ai aa (Z0 ++ [Hq c0])
def K3 : Code := (Tryz.f28.body).getD .skip
def Zt : yf := spF (α := Unit) (ρ := z6) 28 (fun x => []) (fun r => zbn r) (fun x => W3) [] (fun _ _ _ => rfl)
theorem Kn (hC : zN Tryz.prog ctr) : Zt.Ok Tryz.prog := by
 refine zU ?_
 rintro ⟨⟩ r0 aa
 try unfold W3 at aa
 refine yO false [(0, some 30)] K3 9 Tryz.func28 fun E hE => ?_
 obtain rfl := zi aa
 exact yE X0 hC hE [Hm (shM (eOs 2 true F9_) zhr ([[(ze.mk 1 0), (ze.mk 0 0)], [(ze.mk 0 1), (ze.mk 1 0)]]))]
def YF : Code := (Tryz.f25.body).getD .skip
theorem YK (hC : zN Tryz.prog ctr) : ∀ (goal : Int) (x_ : zh) (r0 : Int), uw goal x_ = some r0 → ∀ us : List Value, us.length = 3 → uA Tryz.prog (.fn 25 []) ([] ++ .agg (us.map .atom) :: [I goal]) (Xu us [zt (eI .i64) eB x_.states_, zt F0_ eB x_.edges_, zt zD eB x_.pairs_]) (I r0) ([zt (eI .i64) eB x_.states_, zt F0_ eB x_.edges_, zt zD eB x_.pairs_].map fun e => .opq (ya e)) := by
 intro goal x_ r0 aa us hus
 obtain ⟨u0, u1, u2, rfl⟩ := zbj hus
 refine Wo (tt := wt) (nt := 17) (body := YF) (B := 2) [4] (xl := []) (xr := [I goal]) (caps := []) (es := [zt (eI .i64) eB x_.states_, zt F0_ eB x_.edges_, zt zD eB x_.pairs_]) (es' := [zt (eI .i64) eB x_.states_, zt F0_ eB x_.edges_, zt zD eB x_.pairs_]) (us := [u0, u1, u2]) (r := I r0) Tryz.func25 rfl (by kernel_rfl) rfl rfl (by decide) (by show (2 : Nat) ≤ 17; decide) rfl rfl (.inr ⟨_, rfl⟩) fun E hE => ?_
 try unfold uw at aa
 obtain ⟨cell, h0, aa⟩ := zk aa
 obtain rfl := zi aa
 exact yF ((zhy zC 16).or ((z4z zaw 13 (ZA u2 (zt zD eB x_.pairs_))).or ((z4z zax 10 (ZA u1 (zt F0_ eB x_.edges_))).or ((z4z z7C 7 (ZA u0 (zt (eI .i64) eB x_.states_))).or X0)))) hC .ret [(2, .own (.box (.agg [.opq (vt u0 (zt (eI .i64) eB x_.states_)), .opq (vt u1 (zt F0_ eB x_.edges_)), .opq (vt u2 (zt zD eB x_.pairs_))]))), (4, .d (I cell))] [Hn (rfl : A.opq (vt u0 (zt (eI .i64) eB x_.states_)) = A.opq (vt u0 (zt (eI .i64) eB x_.states_))), Hx (aLn x_.states_.length) (z2N (eI .i64) eB x_.states_), Hn (rfl : A.opq (vt u1 (zt F0_ eB x_.edges_)) = A.opq (vt u1 (zt F0_ eB x_.edges_))), Hx (aLn x_.edges_.length) (z2N F0_ eB x_.edges_), Hn (rfl : A.opq (vt u2 (zt zD eB x_.pairs_)) = A.opq (vt u2 (zt zD eB x_.pairs_))), Hx (aLn x_.pairs_.length) (z2N zD eB x_.pairs_), Hs (iM (eI .i64) h0), Hn (ixV (k := .i64) (tt := wt) (e := 3) (l := ([((x_.states_.length : Nat) : Int), ((x_.edges_.length : Nat) : Int), ((x_.pairs_.length : Nat) : Int)] : List Int)) (fun _ => by kernel_rfl) h0 (m := 3) rfl)] fun st0 h0 => hE _ st0 (.inr rfl) (JE h0 rfl rfl) (z5q (zcS h0 rfl rfl))
def ZM : Code := (Tryz.f8.body).getD .skip
def Zu : yf := spF (α := z6 × List (List Int)) (ρ := yb × Int) 8 (fun x => [yj x.1, Zh x.2]) (fun r => .tup [zeB r.1, (eI .i64) r.2]) (fun x => Y2 x.1 x.2) [] (VS)
abbrev VQ (n_ : Wf (x5 Int)) : List (Nat × T) := [(4, .own (.box (.agg [.agg [I 0, I 0], .agg [I 0, I 0], .agg [I 0, I 0]]))), (8, .own (.box ((zcR F0_) n_)))]
abbrev VP (m_ : z6) (ah : zh) (dt : Wf (x5 Int)) (bz : Int) : List (Nat × T) := [(2, .own (.box (yj m_))), (4, .own (.box (.agg [.agg [I 0, I 0], .agg [I 0, I 0], .agg [I 0, I 0]]))), (7, .own (.box ((zS (eMp (eI .i64) eB) (eMp F0_ eB) (eMp zD eB)) ah))), (8, .own (.box ((zcR F0_) dt))), (20, .d (I bz))]
theorem Ko (hC : zN Tryz.prog ctr) (h03 : ctr.Has xZ) (h02 : ctr.Has xh) (h04 : ctr.Has wP) : Zu.Ok Tryz.prog := by
 refine zU ?_
 rintro ⟨m_, l_⟩ r0 aa
 try unfold Y2 at aa
 refine yO false [(4, some 36), (5, none)] ZM 41 Tryz.func8 fun E hE => ?_
 obtain ⟨r_, h0, aa⟩ := zk aa
 let Z0 : List HO := [Hc h03 (x := (m_, l_)) h0 (loC yj m_ <| loC Zh l_ <| loN)]
 rcases y4 aa with ⟨c0, aa⟩ | ⟨c0, aa⟩
 ·obtain rfl := zi aa
  exact yE X0 hC hE (Z0 ++ [Hq c0])
 ·obtain ⟨ah, h1, aa⟩ := zk aa
  refine yJ X0 hC ZM [1,1,1,1] [] [4,8] (fun z : Wf (x5 Int) => ZJ z = some r0) (fun z => VQ z) [(2, .own (.box (yj m_))), (4, .own (.box (.agg [.agg [I 0, I 0], .agg [I 0, I 0], .agg [I 0, I 0]]))), (7, .own (.box ((zS (eMp (eI .i64) eB) (eMp F0_ eB) (eMp zD eB)) ah))), (8, .own (.box (.agg [.agg [I 0, I 0], .agg [I 0, I 0], .agg [I 0, I 0]])))] (Z0 ++ [Hq c0, Hc h02 (x := (m_, l_)) h1 (loC yj m_ <| loC Zh l_ <| loN), Hh (.cut 1)]) ?_ fun J1 ay => ?_
  ·rintro n_ aa
   unfold ZJ at aa
   obtain rfl := zi aa
   exact yE X0 hC hE [Hn (⟨rfl, by decide⟩ : true = true ∧ 0 < 3), Hn (⟨rfl, by decide⟩ : true = true ∧ 1 < 3), Hn (⟨rfl, by decide⟩ : true = true ∧ 2 < 3)]
  ·obtain ⟨t2, ht2, aa⟩ := zk aa
   refine yL X0 hC ZM [1,1,1,1,2,1,0] [J1] (fun s => ZI m_ ah s.1 s.2) (fun x => VP m_ ah x.1 x.2) ((Wf.mk (x5.mk 0 0) (x5.mk 0 0) (x5.mk 0 0)), 0) ht2  [] ?_
   rintro ⟨dt, bz⟩ m2 bi ae hl1 J2 a6
   try unfold ZI at ae
   rcases y4 ae with ⟨c1, ae⟩ | ⟨c1, ae⟩
   ·obtain ⟨al, h2, ae⟩ := zk ae
    obtain ⟨ap, h3, ae⟩ := zk ae
    obtain ⟨cell, h4, ae⟩ := zk ae
    obtain ⟨arr, h5, ae⟩ := zk ae
    replace h5 := zi h5
    obtain rfl := zi ae
    exact yB ((Ym (P := Tryz.prog) wt 7 0 [.deref] (fa := .fn 25 []) (r := I al) (xl := []) (xr := [(eI .i64) bz]) (qs := [(ya (zt (eI .i64) eB ah.states_)), (ya (zt F0_ eB ah.edges_)), (ya (zt zD eB ah.pairs_))]) (qs' := [(ya (zt (eI .i64) eB ah.states_)), (ya (zt F0_ eB ah.edges_)), (ya (zt zD eB ah.pairs_))]) (es := [(zt (eI .i64) eB ah.states_), (zt F0_ eB ah.edges_), (zt zD eB ah.pairs_)]) (es' := [(zt (eI .i64) eB ah.states_), (zt F0_ eB ah.edges_), (zt zD eB ah.pairs_)]) (.inr rfl) (z4c (by kernel_rfl)) (.cons (wm (zt (eI .i64) eB ah.states_)) (.cons (wm (zt F0_ eB ah.edges_)) (.cons (wm (zt zD eB ah.pairs_)) (.nil)))) (fun us hu => YK hC _ _ _ h2 us hu) (some 26)).or X0) hC a6 (arr, w64 (bz + 1)) hl1 [Hq c1, Hn (⟨rfl, leP (show VR [] [] from inferInstance), leP (show VR [(eI .i64) bz] [(eI .i64) bz] from inferInstance), rfl, rfl⟩ : ([.fn 25 []] : List A) = [.fn 25 []] ∧ LeP [] [] ∧ LeP [(eI .i64) bz] [(eI .i64) bz] ∧ T.als 7 [.deref] 0 0 = T.als 7 [.deref] 0 0 ∧ (some (.agg [.opq (ya (zt (eI .i64) eB ah.states_)), .opq (ya (zt F0_ eB ah.edges_)), .opq (ya (zt zD eB ah.pairs_))]) : Option A) = some (.agg [.opq (ya (zt (eI .i64) eB ah.states_)), .opq (ya (zt F0_ eB ah.edges_)), .opq (ya (zt zD eB ah.pairs_))])), Hc h04 (x := (m_, bz)) h3 (loC yj m_ <| loC (eI .i64) bz <| loN), Ha (lnM (zc F7_ zD zF) ap), Hn (⟨arJ (by kernel_rfl) (i0 h4), (iL F0_ h4).2⟩ : K4 wt 73 ((Wf.toL dt).map F0_) bz = true ∧ bz.toNat < ((Wf.toL dt).map F0_).length), Hh (.op 2), Hh (.f), Hs (iM F0_ h4), Hh (.f), Hs (iM F0_ h4), Hx (.l ((Wf.toL arr).map F0_)) ((Wf.setL F0_ dt bz (x5.mk al ((ap.length : Nat) : Int))).trans (congrArg (fun q => (Wf.toL q).map F0_) h5))]
   ·obtain rfl := zi ae
    obtain rfl := hl1
    exact yB X0 hC ay dt aa [Hq c1]
def YD : Code := (Tryz.f65.body).getD .skip
def vz : yf := spF (α := List (List Int)) (ρ := List (List Int)) 65 (fun x => [Zh x]) (fun r => z6C r) (fun x => ur x) [] (Ke)
theorem YI (hC : zN Tryz.prog ctr) : vz.Ok Tryz.prog := by
 refine zU ?_
 rintro s_ r0 aa
 try unfold ur at aa
 refine yO true [(2, none)] YD 8 Tryz.func65 fun E hE => ?_
 refine z2U rfl 0 (sz := 1) (t := false) (es := s_.map F7_) (by kernel_rfl) fun az hv0 hn => ?_
 rcases hn with ⟨hn0, he0⟩ | hn0
 ·obtain ⟨_, aa⟩ := gdE aa
  rw [show s_ = [] from List.map_eq_nil_iff.1 he0] at aa
  obtain rfl := zi aa
  exact yEx ((zbd zC 4 31 (by kernel_rfl) hn0).or ((xMv Tryz.prog 3 0 az hv0).or X0)) hC hE [Hn (rfl : some az = some az), Hn (⟨rfl, rfl⟩ : T.d (.atom az) = T.d (.atom az) ∧ T.d (.atom (.slice none 0 0)) = T.d (.atom (.slice none 0 0))), qT] (eOs 1 true F7_ []) (show LeV (eOs 1 true F7_ []) (eOs 1 false F7_ ([] : List (List Int))) from inferInstance)
 ·obtain ⟨g0, aa⟩ := gdE aa
  obtain rfl := zi aa
  exact yE ((zbd zC 4 31 (by kernel_rfl) hn0).or ((xMv Tryz.prog 3 0 az hv0).or X0)) hC hE [Hn (rfl : some az = some az), Hn (⟨rfl, rfl⟩ : T.d (.atom az) = T.d (.atom az) ∧ T.d (.atom (.slice none 0 0)) = T.d (.atom (.slice none 0 0))), qF, Hn (dM F7_ s_), Hn (aL F7_ F7_ g0), Hl (aM0 F7_ s_)]
def Ut : Code := (Tryz.f70.body).getD .skip
def ju : yf := spF (α := List Int × List Int) (ρ := Bool) 70 (fun x => [F7_ x.1, F7_ x.2]) (fun r => eB r) (fun x => jI x.1 x.2) [] (VS)
theorem UV (hC : zN Tryz.prog ctr) (h06 : ctr.Has vX) : ju.Ok Tryz.prog := by
 refine zU ?_
 rintro ⟨a_, b_⟩ r0 aa
 try unfold jI at aa
 refine yO true [(4, none)] Ut 9 Tryz.func70 fun E hE => ?_
 obtain ⟨r_, h0, aa⟩ := zk aa
 obtain rfl := zi aa
 exact yE X0 hC hE [Hc h06 (x := (a_, b_)) h0 (loC F7_ a_ <| loC F7_ b_ <| loN)]
def zV : Code := (Tryz.f69.body).getD .skip
def xO : yf := spF (α := List (List Int) × Unit) (ρ := List (List Int)) 69 (fun x => [z6C x.1, (zbl 70) x.2]) (fun r => z6C r) (fun x => wy x.1 x.2) [true, false] (by
 rintro ⟨a0, a1⟩ ⟨b0, b1⟩ h
 have e0 := qm.inj (f := z6C) _ _ (List.cons.inj h).1
 replace h := (List.cons.inj h).2
 have e1 := qm.inj (f := (zbl 70)) _ _ (List.cons.inj h).1
 subst e0 e1
 rfl)
abbrev ji (s_ : List (List Int)) : List (Nat × T) := [(0, .own (eOs 1 false F7_ s_))]
abbrev jh (s_ : List (List Int)) (k_ : Int) : List (Nat × T) := [(0, .own (eOs 1 false F7_ s_)), (1, .d (.fn 70 [])), (5, .d (I k_))]
abbrev jg (du : List (List Int)) (ct : Int) : List (Nat × T) := [(0, .own (eOs 1 false F7_ du)), (5, .d (I ct))]
abbrev jf (az : Value) (k_ : Int) (k2 : Int) (ib : List (List Int)) (ic : Int) : List (Nat × T) := [(0, .own (eOs 1 false F7_ ib)), (1, .d (.fn 70 [])), (5, .d (I ic)), (6, .d (.atom (Yd 1 az k_))), (7, .d (I k2))]
abbrev jd (az : Value) (k_ : Int) (dj : List (List Int)) (eu : Int) (k2 : Int) : List (Nat × T) := [(0, .own (eOs 1 false F7_ dj)), (1, .d (.fn 70 [])), (5, .d (I eu)), (6, .d (.atom (Yd 1 az k_))), (7, .d (I k2))]
abbrev je (s_ : List (List Int)) (k_ : Int) : List (Nat × T) := [(0, .own (eOs 1 false F7_ s_)), (1, .d (.fn 70 [])), (5, .d (I k_))]
def zx : XH Tryz.prog := ((zhA zC 64).or X0)
theorem kc (hC : zN Tryz.prog ctr) (h0q : ctr.Has ju) : xO.Ok Tryz.prog := by
 refine zU ?_
 rintro ⟨s_, eq⟩ r0 aa
 try unfold wy at aa
 refine yO true [(4, none)] zV 66 Tryz.func69 fun E hE => ?_
 refine z6m (y := eOs 1 false F7_ s_) rfl 0 (by kernel_rfl) (by kernel_rfl) fun az hv0 => ?_
 let Z0 : List HO := [Ha (lnM F7_ s_)]
 rcases y4 aa with ⟨c0, aa⟩ | ⟨c0, aa⟩
 ·obtain rfl := zi aa
  exact yE zx hC hE (Z0 ++ [Hq c0])
 ·refine yJ zx hC zV [1,1] [] [0] (fun z : Unit => xT s_ = some r0) (fun z => ji s_) [(0, .own (eOs 1 false F7_ s_)), (1, .d (.fn 70 []))] (Z0 ++ [Hq c0, Hh (.cut 0)]) ?_ fun J1 ay => ?_
  ·rintro ⟨⟩ aa
   unfold xT at aa
   obtain rfl := zi aa
   exact yE zx hC hE []
  ·obtain ⟨t2, ht2, aa⟩ := zk aa
   refine yL zx hC zV [1,1,2,1,0] [J1] (fun s => xQ s_ s) (fun x => je s_ x) 1 ht2  [] ?_
   rintro k_ m2 bi ae hl1 J2 a6
   try unfold xQ at ae
   let Z1 : List HO := [Ha (lnM F7_ s_)]
   rcases y4 ae with ⟨c1, ae⟩ | ⟨c1, ae⟩
   ·refine yJ zx hC zV [1,1,2,1,0,0,1] [J1, J2] [0,1,5] (fun z : Unit => xS k_ = some bi) (fun z => jh s_ k_) [(0, .own (eOs 1 false F7_ s_)), (1, .d (.fn 70 [])), (5, .d (I k_))] (Z1 ++ [Hq c1, Hh (.cut 0)]) ?_ fun J3 ca => ?_
    ·rintro ⟨⟩ ae
     unfold xS at ae
     obtain rfl := zi ae
     exact yB zx hC a6 (w64 (k_ + 1)) hl1 []
    ·obtain ⟨dn, h0, ae⟩ := zk ae
     obtain ⟨gj, h1, ae⟩ := zk ae
     obtain ⟨r_, h2, ae⟩ := zk ae
     let Z2 : List HO := [Hn (iL F7_ h0), Hs (iM F7_ h0), Hn (iL F7_ h1), Hs (iM F7_ h1), Hc h0q (x := (dn, gj)) h2 (loC F7_ dn <| loC F7_ gj <| loN)]
     rcases y4 ae with ⟨c2, ae⟩ | ⟨c2, ae⟩
     ·obtain ⟨g0, ae⟩ := gdE ae
      refine yJ ((xAs Tryz.prog 6 (Yd 1 az k_)).or ((xVw zC 31 0 az).or zx)) hC zV [1,1,2,1,0,0,1,2,0,1,0,1] [J1, J2, J3] [0,5] (fun z : List (List Int) × Int => xR z.1 z.2 = some bi) (fun z => jg z.1 z.2) [(0, .own (eOs 1 false F7_ s_)), (1, .d (.fn 70 [])), (5, .d (I k_)), (6, .d (.atom (Yd 1 az k_)))] (Z2 ++ [Hq c2, Hn (⟨.inl rfl, rfl⟩ : (T.als 0 [] 0 0 = T.als 0 [] 0 0 ∨ T.als 0 [] 0 0 = T.d (.atom az)) ∧ some az = some az), Hn (⟨g0.1, cuB F7_ g0⟩ : (0 : Int) ≤ k_ ∧ k_.toNat ≤ (s_.map F7_).length), Hn (rfl : T.d (.atom (Yd 1 az k_)) = T.d (.atom (Yd 1 az k_))), Hh (.cut 1)]) ?_ fun J4 dv => ?_
      ·rintro ⟨du, ct⟩ ae
       unfold xR at ae
       obtain ⟨g1, ae⟩ := gdE ae
       obtain ⟨g2, ae⟩ := gdE ae
       obtain ⟨g3, ae⟩ := gdE ae
       obtain rfl := zi ae
       obtain rfl := hl1
       obtain rfl := zi aa
       exact yE ((xVc zC 61 1 0 az ct).or ((xVw zC 61 0 az).or zx)) hC hE [Hn (⟨.inl rfl, rfl⟩ : (T.als 0 [] 0 0 = T.als 0 [] 0 0 ∨ T.als 0 [] 0 0 = T.d (.atom az)) ∧ some az = some az), Hn (⟨g1.1, cuB F7_ g1⟩ : (0 : Int) ≤ ct ∧ ct.toNat ≤ (du.map F7_).length), Hn (⟨rfl, rfl⟩ : T.d (.atom (Yd 1 az ct)) = T.d (.atom (Yd 1 az ct)) ∧ some az = some az), Hn (⟨g2.1, cuB F7_ g2, dM F7_ du⟩ : (0 : Int) ≤ ct ∧ ct.toNat ≤ (du.map F7_).length ∧ A.areD (du.map F7_) = true), Hx (.l ((du.take ct.toNat ++ List.replicate (du.length - ct.toNat) []).map F7_)) (vcM F7_ du ct.toNat ([] : List Int)), Hn g3.1, Hn (cuB F7_ g3), Hl (cuM F7_ (du.take ct.toNat ++ List.replicate (du.length - ct.toNat) []) ct)]
      ·obtain ⟨t5, ht5, ae⟩ := zk ae
       refine yL zx hC zV [1,1,2,1,0,0,1,2,0,1,0,1,2,1,0] [J1, J2, J3, J4] (fun s => xP k_ s.1 s.2.1 s.2.2) (fun x => jd az k_ x.1 x.2.1 x.2.2) (s_, k_, 1) ht5  [] ?_
       rintro ⟨dj, eu, k2⟩ m5 fh aj hl2 J5 dh
       try unfold xP at aj
       let Z3 : List HO := [Hn (⟨rfl, rfl⟩ : T.d (.atom (Yd 1 az k_)) = T.d (.atom (Yd 1 az k_)) ∧ some az = some az), Hx (.a (.atom (.int .i64 ((dj.length - k_.toNat : Nat) : Int)))) (vlM F7_ dj k_.toNat)]
       rcases y4 aj with ⟨c3, aj⟩ | ⟨c3, aj⟩
       ·refine yJ ((xVl zC 34 31 1 0 az k_ (by kernel_rfl)).or zx) hC zV [1,1,2,1,0,0,1,2,0,1,0,1,2,1,0,0,1] [J1, J2, J3, J4, J5] [0,1,5,6,7] (fun z : List (List Int) × Int => yD k2 z.1 z.2 = some fh) (fun z => jf az k_ k2 z.1 z.2) [(0, .own (eOs 1 false F7_ dj)), (1, .d (.fn 70 [])), (5, .d (I eu)), (6, .d (.atom (Yd 1 az k_))), (7, .d (I k2))] (Z3 ++ [Hq c3, Hh (.cut 0)]) ?_ fun J6 d8 => ?_
        ·rintro ⟨ib, ic⟩ aj
         unfold yD at aj
         obtain rfl := zi aj
         exact yB zx hC dh (ib, ic, w64 (k2 + 1)) hl2 []
        ·obtain ⟨g4, aj⟩ := gdE aj
         obtain ⟨gg, h3, aj⟩ := zk aj
         obtain ⟨g5, aj⟩ := gdE aj
         obtain ⟨gh, h4, aj⟩ := zk aj
         obtain ⟨ah, h5, aj⟩ := zk aj
         let Z4 : List HO := [Hn (⟨rfl, rfl⟩ : T.d (.atom (Yd 1 az k_)) = T.d (.atom (Yd 1 az k_)) ∧ some az = some az), Hn (⟨g4.1, g4.2, (iL F7_ h3).2⟩ : (0 : Int) ≤ k_ ∧ (0 : Int) ≤ k2 ∧ (k_ + k2).toNat < (dj.map F7_).length), Hs (iM F7_ h3), Hn (⟨rfl, rfl⟩ : T.d (.atom (Yd 1 az k_)) = T.d (.atom (Yd 1 az k_)) ∧ some az = some az), Hn (⟨g5.1, g5.2, (iL F7_ h4).2⟩ : (0 : Int) ≤ k_ ∧ (0 : Int) ≤ w64 (k2 - 1) ∧ (k_ + (w64 (k2 - 1))).toNat < (dj.map F7_).length), Hs (iM F7_ h4), Hc h0q (x := (gg, gh)) h5 (loC F7_ gg <| loC F7_ gh <| loN)]
         rcases y4 aj with ⟨c4, aj⟩ | ⟨c4, aj⟩
         ·obtain ⟨g6, aj⟩ := gdE aj
          obtain ⟨gi, h6, aj⟩ := zk aj
          obtain ⟨i3, h7, aj⟩ := zk aj
          exact yB ((xVi zC 54 1 0 az k_).or ((xVi zC 46 1 0 az k_).or ((xVi zC 41 1 0 az k_).or zx))) hC d8 ((dj.set eu.toNat gi), w64 (eu + 1)) aj (Z4 ++ [Hq c4, Hn (⟨rfl, rfl⟩ : T.d (.atom (Yd 1 az k_)) = T.d (.atom (Yd 1 az k_)) ∧ some az = some az), Hn (⟨g6.1, g6.2, (iL F7_ h6).2⟩ : (0 : Int) ≤ k_ ∧ (0 : Int) ≤ k2 ∧ (k_ + k2).toNat < (dj.map F7_).length), Hs (iM F7_ h6), Hn (iL F7_ h7), Hs (iM F7_ h7), Hs (iM F7_ h7), Hl (sM F7_ dj eu gi)])
         ·exact yB ((xVi zC 46 1 0 az k_).or ((xVi zC 41 1 0 az k_).or zx)) hC d8 (dj, eu) aj (Z4 ++ [Hq c4])
       ·obtain rfl := zi aj
        obtain rfl := hl2
        exact yB ((xVl zC 34 31 1 0 az k_ (by kernel_rfl)).or zx) hC dv (dj, eu) ae (Z3 ++ [Hq c3])
     ·exact yB zx hC ca () ae (Z2 ++ [Hq c2])
   ·obtain rfl := zi ae
    obtain rfl := hl1
    exact yB zx hC ay () aa (Z1 ++ [Hq c1])
def ZW : Code := (Tryz.f68.body).getD .skip
def yu : yf := spR (α := List (List Int)) (ρ := List (List Int)) 68 (fun x => [z6C x]) (fun r => (eOs 1 true F7_) r) (fun x => wo x) [true] (Ke)
theorem ZU : ∀ x r, (fun x => wo x) x = some r → (Kr.add yu).run 68 ((Kr.add yu).norm 68 ((fun x => [z6C x]) x)) = some ((fun r => (eOs 1 true F7_) r) r) := fun x r h => zi8 h rfl
theorem ZV : (Kr.add yu).lend 68 = none ∧ (Kr.add yu).gives 68 = [true] := zfg
theorem vd (hC : zN Tryz.prog ctr) : yu.Ok Tryz.prog := by
 refine zbS ?_
 rintro s_ r0 aa
 try unfold wo at aa
 refine yO true [(2, none)] ZW 9 Tryz.func68 fun E hE => ?_
 obtain rfl := zi aa
 exact yE ((xCl zC 8).or X0) hC hE [Ha (lnM F7_ s_), Ha (lnM F7_ s_), Hn (Int.natCast_nonneg _ : (0 : Int) ≤ ((s_.length : Nat) : Int)), Hn (Int.natCast_nonneg _ : (0 : Int) ≤ ((s_.length : Nat) : Int)), Hn (clB F7_ s_), Ha (clE 1 F7_ s_)]
def wG : Code := (Tryz.f51.body).getD .skip
def Zp : yf := spF (α := List (List Int)) (ρ := List (List Int) × Int) 51 (fun x => [Zh x]) (fun r => .tup [z4o r.1, (eI .i64) r.2]) (fun x => XP x) [] (Ke)
abbrev VK (out : List (List Int × Bool)) : List (Nat × T) := [(4, .own (eOs 1 true (eFl 1 (eI .i64)) out))]
abbrev VJ (dc : Value) (al : List (List Int)) (a8 : List (List Int × Bool)) (ew : Int) : List (Nat × T) := [(4, .own (eOs 1 true (eFl 1 (eI .i64)) a8)), (22, .d (.atom (Yd 1 dc (0 : Int)))), (23, .d (I ((al.length - (0 : Int).toNat : Nat) : Int))), (24, .d (I ew))]
theorem Kj (hC : zN Tryz.prog ctr) (h0S : ctr.Has vz) (h06 : ctr.Has vX) (h0T : ctr.Has xO) (h09 : ctr.Has jK) (h01 : ctr.Has yg) (h00 : ctr.Has ym) : Zp.Ok Tryz.prog := by
 refine zU ?_
 rintro l_ r0 aa
 try unfold XP at aa
 refine yO false [(2, none), (3, none)] wG 37 Tryz.func51 fun E hE => ?_
 obtain ⟨r_, h0, aa⟩ := zk aa
 refine yA X0 hC wG [1,1] [] [(4, .own (eOs 1 false F7_ r_))] [Hc h0S (x := l_) h0 (loC Zh l_ <| loN), Hh (.cut 0)] ?_
 obtain ⟨sorted, h1, aa⟩ := zk aa
 refine z2c (by kernel_rfl) (x := (sub [1,1,0] wG)) (y := (sub [1,1,1] wG)) 4 (fun st1 => Own.canon [4] st1 = ofL [(4, .own (eOs 1 false F7_ sorted))]) (fun dc => yF ((zeD (P := Tryz.prog) wt [4] (z4P zeO (f := F7_) (t := false) (v := dc) (fun _ => rfl) (fun _ => rfl) (fun x y c h => zaM hC h06 (x := (x, y)) h) h1) 10).or X0) hC .normal [(4, .own (eOs 1 false F7_ sorted))] [Hn (z9Y (f := .fn 66 []) (xs := [.atom dc, .fn 67 []]) (ls := [(dc, eOs 1 false F7_ r_)]) (r := .tup []) (ys := [eOs 1 false F7_ sorted]) [.atom dc, .fn 67 []] (show VR [.atom dc, .fn 67 []] [.atom dc, .fn 67 []] from inferInstance))] fun st0 h0 => ⟨rfl, h0⟩) fun st1 h1 => z6n h1 ?_
 obtain ⟨ah, h2, aa⟩ := zk aa
 obtain ⟨al, h3, aa⟩ := zk aa
 let Z0 : List HO := [Hc h0T (x := (sorted, ())) h2 (loC z6C sorted <| loC (zbl 70) () <| loN), Hh (.g [true]), Hn ZV, Hx (.a ((eOs 1 true F7_) al)) (ZU ah _ h3), Ha (lnM F7_ al)]
 rcases y4 aa with ⟨c0, aa⟩ | ⟨c0, aa⟩
 ·obtain rfl := zi aa
  exact yEx ((z9i zC (vd hC) 13).or X0) hC hE (Z0 ++ (rpN 4 (Hq c0) [qT, Hm (shM F7_ F7_ [])])) (.tup [eSl 1 true F2_ [], I 3]) (show LeV (.tup [eSl 1 true F2_ [], I 3]) (.tup [eSl 1 true F2_ ([] : List (List Int)), I 3]) from inferInstance)
 ·obtain ⟨ap, h4, aa⟩ := zk aa
  let Z1 : List HO := (Z0 ++ [Hq c0, Hq c0, Hg (KT h09), Hm (shM F7_ F7_ al), Hs (KU h09 (x := al) h4 (loC zbo al <| loN)), Hq c0, Hq c0])
  rcases y4 aa with ⟨c1, aa⟩ | ⟨c1, aa⟩
  ·obtain rfl := zi aa
   exact yEx ((z9i zC (vd hC) 13).or X0) hC hE (Z1 ++ [Hq c1, Hm (shM F7_ F7_ [])]) (.tup [eSl 1 true F2_ [], I 3]) (show LeV (.tup [eSl 1 true F2_ [], I 3]) (.tup [eSl 1 true F2_ ([] : List (List Int)), I 3]) from inferInstance)
  ·refine yA ((z9i zC (vd hC) 13).or X0) hC wG [1,1,1,1,1] [] [(4, .own (eOs 1 true F7_ al))] (Z1 ++ [Hq c1, Hh (.cut 0)]) ?_
   refine z6m (y := eOs 1 true F7_ al) (by kernel_rfl) 4 (by kernel_rfl) (by kernel_rfl) fun dc hv4 => ?_
   refine yJ X0 hC wG [1,1,1,1,1] [] [4] (fun z : List (List Int × Bool) => Zl z = some r0) (fun z => VK z) [(4, .own (eOs 1 true F7_ al))] [Hh (.cut 0)] ?_ fun J1 ay => ?_
   ·rintro out aa
    unfold Zl at aa
    obtain ⟨hfl0, aa⟩ := gdE aa
    obtain rfl := zi aa
    exact yEx X0 hC hE [Hm (shM (eFl 1 (eI .i64)) (eFl 1 (eI .i64)) out)] (.tup [eSl 1 true (eFl 1 (eI .i64)) out, I 0]) (haveI := flA (s := 1) (t := 1) (b := true) (f := (eI .i64)) hfl0; show LeV (.tup [eSl 1 true (eFl 1 (eI .i64)) out, I 0]) (.tup [eSl 1 true F2_ (out.map (·.1)), I 0]) from inferInstance)
   ·obtain ⟨t2, ht2, aa⟩ := zk aa
    refine yLx ((xVl zC 23 31 1 4 dc (0 : Int) (by kernel_rfl)).or ((xMw Tryz.prog 22 4 1 dc).or X0)) hC wG [1,1,1,1,1,2,1,0] [J1] (fun s => Zk al s.1 s.2) (fun x => VJ dc al x.1 x.2) ((al.map fun q => (q, false)), 0) ht2 [(4, .own (eOs 1 true F7_ al)), (22, .d (.atom (Yd 1 dc (0 : Int)))), (23, .d (I ((al.length - (0 : Int).toNat : Nat) : Int))), (24, .d (I 0))] inferInstance [Hn (rfl : some dc = some dc), Hn (⟨rfl, rfl⟩ : T.d (.atom (Yd 1 dc (0 : Int))) = T.d (.atom (Yd 1 dc (0 : Int))) ∧ some dc = some dc), Hx (.a (.atom (.int .i64 ((al.length - (0 : Int).toNat : Nat) : Int)))) (vlM F7_ al (0 : Int).toNat)] ?_
    rintro ⟨a8, ew⟩ m2 bi ae hl1 J2 a6
    try unfold Zk at ae
    rcases y4 ae with ⟨c2, ae⟩ | ⟨c2, ae⟩
    ·obtain ⟨g0, ae⟩ := gdE ae
     obtain ⟨dg, h5, ae⟩ := zk ae
     obtain ⟨av, h6, ae⟩ := zk ae
     obtain ⟨a9, h7, ae⟩ := zk ae
     obtain ⟨em, h8, ae⟩ := zk ae
     obtain rfl := zi ae
     exact yB ((xVi zC 27 1 4 dc (0 : Int)).or X0) hC a6 ((a8.set ew.toNat (a9, true)), w64 (ew + 1)) hl1 [Hq c2, Hn (⟨rfl, rfl⟩ : T.d (.atom (Yd 1 dc (0 : Int))) = T.d (.atom (Yd 1 dc (0 : Int))) ∧ some dc = some dc), Hn (⟨g0.1, g0.2, (iL (eFl 1 (eI .i64)) h5).2⟩ : (0 : Int) ≤ 0 ∧ (0 : Int) ≤ ew ∧ (0 + ew).toNat < (a8.map (eFl 1 (eI .i64))).length), Hs (iM (eFl 1 (eI .i64)) h5), Hc h01 (x := dg.1) h6 (loC (eSl 1 dg.2 (eI .i64)) dg.1 <| loN), Hg (KT h00), Hm (shM (eI .i64) (eI .i64) av), Hs (KU h00 (x := av) h7 (loC F7_ av <| loN)), Hm (shM (eI .i64) (eI .i64) av), Hn (iL (eFl 1 (eI .i64)) h8), Hs (iM (eFl 1 (eI .i64)) h8), Hs (iM (eFl 1 (eI .i64)) h8), Hl (sM (eFl 1 (eI .i64)) a8 ew (a9, true))]
    ·obtain rfl := zi ae
     obtain rfl := hl1
     exact yB X0 hC ay a8 aa [Hq c2]
def z0P : Code := (Tryz.f33.body).getD .skip
def YM : yf := spF (α := List (List Int) × Int) (ρ := List (List Int) × Int) 33 (fun x => [Zh x.1, (eI .i64) x.2]) (fun r => .tup [z4o r.1, (eI .i64) r.2]) (fun x => Ud x.1 x.2) [] (VS)
theorem z15 (hC : zN Tryz.prog ctr) (h0e : ctr.Has jL) (h0U : ctr.Has Zp) : YM.Ok Tryz.prog := by
 refine zU ?_
 rintro ⟨l_, inputs⟩ r0 aa
 try unfold Ud at aa
 refine yO false [(4, none), (5, none)] z0P 17 Tryz.func33 fun E hE => ?_
 obtain ⟨r_, h0, aa⟩ := zk aa
 let Z0 : List HO := [Hc h0e (x := (l_, inputs)) h0 (loC Zh l_ <| loC (eI .i64) inputs <| loN)]
 rcases y4 aa with ⟨c0, aa⟩ | ⟨c0, aa⟩
 ·obtain rfl := zi aa
  exact yEx X0 hC hE (Z0 ++ [Hq c0, Hm (shM F7_ F7_ [])]) (.tup [eSl 1 true F2_ [], I r_]) (show LeV (.tup [eSl 1 true F2_ [], I r_]) (.tup [eSl 1 true F2_ ([] : List (List Int)), I r_]) from inferInstance)
 ·obtain ⟨ah, h1, aa⟩ := zk aa
  obtain rfl := zi aa
  exact yE X0 hC hE (Z0 ++ [Hq c0, Hc h0U (x := l_) h1 (loC Zh l_ <| loN)])
def xG : Code := (Tryz.f11.body).getD .skip
def qq : yf := spF (α := z6 × List (List Int) × Int) (ρ := List (List Int) × Int) 11 (fun x => [yj x.1, Zh x.2.1, (eI .i64) x.2.2]) (fun r => .tup [z4o r.1, (eI .i64) r.2]) (fun x => kq x.1 x.2.1 x.2.2) [] (z6H)
abbrev XM (m_ : z6) (ai : List (List Int)) : List (Nat × T) := [(3, .own (.box (yj m_))), (10, .own (eOs 1 false F2_ ai))]
abbrev XL (m_ : z6) (ap : List zb) (ep : Int) (bm : List (Int × Bool)) (bu : List ((x5 Int) × Bool)) (bh : List (z8 × Bool)) (br : List (List Int)) : List (Nat × T) := [(3, .own (.box (yj m_))), (9, .own (.box (.agg [.opq (ya (zt (eI .i64) eB bm)), .opq (ya (zt F0_ eB bu)), .opq (ya (zt zD eB bh))]))), (10, .own (eOs 1 false F2_ br)), (48, .own (eOs 5 false (zc F7_ zD zF) ap)), (49, .d (I ((ap.length : Nat) : Int))), (50, .d (I ep))]
abbrev XK (m_ : z6) (ap : List zb) (am : List (Int × Bool)) (aq : List ((x5 Int) × Bool)) (ar : List (z8 × Bool)) (a8 : List (List Int)) (ep : Int) : List (Nat × T) := [(3, .own (.box (yj m_))), (9, .own (.box (.agg [.opq (ya (zt (eI .i64) eB am)), .opq (ya (zt F0_ eB aq)), .opq (ya (zt zD eB ar))]))), (10, .own (eOs 1 false F2_ a8)), (48, .own (eOs 5 false (zc F7_ zD zF) ap)), (49, .d (I ((ap.length : Nat) : Int))), (50, .d (I ep))]
abbrev XN (m_ : z6) (goal : Int) (ah : zh) (out : List (List Int)) : List (Nat × T) := [(2, .d (I goal)), (3, .own (.box (yj m_))), (9, .own (.box ((zS (eMp (eI .i64) eB) (eMp F0_ eB) (eMp zD eB)) ah))), (10, .own (eOs 1 false F2_ out))]
abbrev XJ (m_ : z6) (l_ : List (List Int)) (goal : Int) (ah : zh) (cr : List (List Int)) (gu : Int) : List (Nat × T) := [(2, .d (I goal)), (3, .own (.box (yj m_))), (9, .own (.box ((zS (eMp (eI .i64) eB) (eMp F0_ eB) (eMp zD eB)) ah))), (10, .own (eOs 1 false F2_ cr)), (33, .d (eSl 1 false F7_ l_)), (34, .d (I ((l_.length : Nat) : Int))), (35, .d (I gu))]
theorem Vn (hC : zN Tryz.prog ctr) (h03 : ctr.Has xZ) (h02 : ctr.Has xh) (h01 : ctr.Has yg) (h00 : ctr.Has ym) (h04 : ctr.Has wP) (h0r : ctr.Has YM) : qq.Ok Tryz.prog := by
 refine zU ?_
 rintro ⟨m_, l_, goal⟩ r0 aa
 try unfold kq at aa
 refine yO false [(6, none), (7, none)] xG 81 Tryz.func11 fun E hE => ?_
 obtain ⟨r_, h0, aa⟩ := zk aa
 let Z0 : List HO := [Hc h03 (x := (m_, l_)) h0 (loC yj m_ <| loC Zh l_ <| loN)]
 rcases y4 aa with ⟨c0, aa⟩ | ⟨c0, aa⟩
 ·obtain rfl := zi aa
  exact yEx X0 hC hE (Z0 ++ [Hq c0, Hm (shM F7_ F7_ [])]) (.tup [eSl 1 true F2_ [], I r_]) (show LeV (.tup [eSl 1 true F2_ [], I r_]) (.tup [eSl 1 true F2_ ([] : List (List Int)), I r_]) from inferInstance)
 ·rcases y4 aa with ⟨c1, aa⟩ | ⟨c1, aa⟩
  ·obtain rfl := zi aa
   exact yEx X0 hC hE (Z0 ++ [Hq c0, Hq c1, Hq c1, Hq c1, qT, Hm (shM F7_ F7_ [])]) (.tup [eSl 1 true F2_ [], I 1]) (show LeV (.tup [eSl 1 true F2_ [], I 1]) (.tup [eSl 1 true F2_ ([] : List (List Int)), I 1]) from inferInstance)
  ·let Z1 : List HO := (Z0 ++ [Hq c0, Hq c1, Hq c1, Hq c1])
   rcases y4 aa with ⟨c2, aa⟩ | ⟨c2, aa⟩
   ·obtain rfl := zi aa
    exact yEx X0 hC hE (Z1 ++ [Hq c2, Hm (shM F7_ F7_ [])]) (.tup [eSl 1 true F2_ [], I 1]) (show LeV (.tup [eSl 1 true F2_ [], I 1]) (.tup [eSl 1 true F2_ ([] : List (List Int)), I 1]) from inferInstance)
   ·obtain ⟨ah, h1, aa⟩ := zk aa
    obtain ⟨g0, aa⟩ := gdE aa
    refine yJ X0 hC xG [1,1,1,1,1] [] [2,3,9,10] (fun z : List (List Int) => qG m_ goal ah z = some r0) (fun z => XN m_ goal ah z) [(1, .d (eSl 1 false F7_ l_)), (2, .d (I goal)), (3, .own (.box (yj m_))), (9, .own (.box ((zS (eMp (eI .i64) eB) (eMp F0_ eB) (eMp zD eB)) ah))), (10, .own (eOs 1 (decide ((0 : Int) = ((l_.length : Nat) : Int))) F7_ []))] (Z1 ++ [Hq c2, Hc h02 (x := (m_, l_)) h1 (loC yj m_ <| loC Zh l_ <| loN), Ha (lnM F7_ l_), Hn (rL0 g0), Hx (.a (eOs 1 (decide ((0 : Int) = ((l_.length : Nat) : Int))) F7_ ([] : List (List Int)))) (rM0 1 F7_ ((l_.length : Nat) : Int) (eOs 1 true (eI .i64) [])), Hh (.cut 0)]) ?_ fun J1 ay => ?_
    ·rintro out aa
     unfold qG at aa
     refine yJ X0 hC xG [1,1,1,1,1,1] [] [3,10] (fun z : List (List Int) => qE m_ z = some r0) (fun z => XM m_ z) [(2, .d (I goal)), (3, .own (.box (yj m_))), (9, .own (.box ((zS (eMp (eI .i64) eB) (eMp F0_ eB) (eMp zD eB)) ah))), (10, .own (eOs 1 false F2_ out))] [Hh (.cut 0)] ?_ fun J2 a6 => ?_
     ·rintro ai aa
      unfold qE at aa
      let Z2 : List HO := [Ha (lnM F2_ ai)]
      rcases y4 aa with ⟨c3, aa⟩ | ⟨c3, aa⟩
      ·obtain rfl := zi aa
       exact yEx X0 hC hE (Z2 ++ [Hq c3, Hm (shM F7_ F7_ [])]) (.tup [eSl 1 true F2_ [], I 3]) (show LeV (.tup [eSl 1 true F2_ [], I 3]) (.tup [eSl 1 true F2_ ([] : List (List Int)), I 3]) from inferInstance)
      ·obtain ⟨al, h2, aa⟩ := zk aa
       obtain rfl := zi aa
       exact yE X0 hC hE (Z2 ++ [Hq c3, Hg (KT h0r), Hm (shM F2_ F2_ ai), Hs (KU h0r (x := (ai, m_.Inputs)) h2 (loC (eSl 1 false F2_) ai <| loC (eI .i64) m_.Inputs <| loN)), Hm (shM F2_ F2_ ai)])
     ·obtain ⟨ap, h3, aa⟩ := zk aa
      obtain ⟨t3, ht3, aa⟩ := zk aa
      refine yL X0 hC xG [1,1,1,1,1,1,2,1,0] [J2] (fun s => qD m_ ap s.1 s.2.1 s.2.2.1 s.2.2.2.1 s.2.2.2.2) (fun x => XK m_ ap x.1 x.2.1 x.2.2.1 x.2.2.2.1 x.2.2.2.2) (ah.states_, ah.edges_, ah.pairs_, out, 0) ht3  [Hc h04 (x := (m_, goal)) h3 (loC yj m_ <| loC (eI .i64) goal <| loN), Ha (lnM (zc F7_ zD zF) ap)] ?_
      rintro ⟨am, aq, ar, a8, ep⟩ m3 bi ae hl1 J3 ca
      try unfold qD at ae
      rcases y4 ae with ⟨c4, ae⟩ | ⟨c4, ae⟩
      ·refine yJ X0 hC xG [1,1,1,1,1,1,2,1,0,0,1,1] [J2, J3] [3,9,10,48,49,50] (fun z : (List (Int × Bool)) × (List ((x5 Int) × Bool)) × (List (z8 × Bool)) × List (List Int) => vV ep z.1 z.2.1 z.2.2.1 z.2.2.2 = some bi) (fun z => XL m_ ap ep z.1 z.2.1 z.2.2.1 z.2.2.2) [(3, .own (.box (yj m_))), (9, .own (.box (.agg [.opq (ya (zt (eI .i64) eB am)), .opq (ya (zt F0_ eB aq)), .opq (ya (zt zD eB ar))]))), (10, .own (eOs 1 false F2_ a8)), (48, .own (eOs 5 false (zc F7_ zD zF) ap)), (49, .d (I ((ap.length : Nat) : Int))), (50, .d (I ep))] [Hq c4, Hh (.cut 0)] ?_ fun J4 dv => ?_
       ·rintro ⟨bm, bu, bh, br⟩ ae
        unfold vV at ae
        obtain rfl := zi ae
        exact yB X0 hC ca (bm, bu, bh, br, w64 (ep + 1)) hl1 []
       ·obtain ⟨bt, h4, ae⟩ := zk ae
        obtain ⟨av, h5, ae⟩ := zk ae
        let Z3 : List HO := [Hn (iL (zc F7_ zD zF) h4), Hs (iM (zc F7_ zD zF) h4), Hn (⟨rfl, leP (show VR [] [] from inferInstance), leP (show VR [] [] from inferInstance), rfl, rfl⟩ : ([zF bt.has_] : List A) = [zF bt.has_] ∧ LeP [] [] ∧ LeP [] [] ∧ T.als 9 [.deref] 0 0 = T.als 9 [.deref] 0 0 ∧ (some (.agg [.opq (ya (zt (eI .i64) eB am)), .opq (ya (zt F0_ eB aq)), .opq (ya (zt zD eB ar))]) : Option A) = some (.agg [.opq (ya (zt (eI .i64) eB am)), .opq (ya (zt F0_ eB aq)), .opq (ya (zt zD eB ar))]))]
        rcases y4 ae with ⟨c5, ae⟩ | ⟨c5, ae⟩
        ·obtain ⟨a9, h6, ae⟩ := zk ae
         obtain ⟨ax, h7, ae⟩ := zk ae
         obtain ⟨dm, h8, ae⟩ := zk ae
         obtain ⟨g1, ae⟩ := gdE ae
         exact yB ((Ym (P := Tryz.prog) wt 9 0 [.deref] (fa := .fn 32 []) (r := .tup []) (xl := []) (xr := [yj m_, F7_ bt.word_]) (qs := [(ya (zt (eI .i64) eB am)), (ya (zt F0_ eB aq)), (ya (zt zD eB ar))]) (qs' := [(ya (zt (eI .i64) eB a9.states_)), (ya (zt F0_ eB a9.edges_)), (ya (zt zD eB a9.pairs_))]) (es := [(zt (eI .i64) eB am), (zt F0_ eB aq), (zt zD eB ar)]) (es' := [(zt (eI .i64) eB a9.states_), (zt F0_ eB a9.edges_), (zt zD eB a9.pairs_)]) (.inr rfl) (z4c (by kernel_rfl)) (.cons (wm (zt (eI .i64) eB am)) (.cons (wm (zt F0_ eB aq)) (.cons (wm (zt zD eB ar)) (.nil)))) (fun us hu => jQ hC _ _ _ _ h6 us hu) (some 63)).or ((Ym (P := Tryz.prog) wt 9 0 [.deref] (fa := zF bt.has_) (r := B av) (xl := []) (xr := []) (qs := [(ya (zt (eI .i64) eB am)), (ya (zt F0_ eB aq)), (ya (zt zD eB ar))]) (qs' := [(ya (zt (eI .i64) eB am)), (ya (zt F0_ eB aq)), (ya (zt zD eB ar))]) (es := [(zt (eI .i64) eB am), (zt F0_ eB aq), (zt zD eB ar)]) (es' := [(zt (eI .i64) eB am), (zt F0_ eB aq), (zt zD eB ar)]) (.inr rfl) (z4c (by kernel_rfl)) (.cons (wm (zt (eI .i64) eB am)) (.cons (wm (zt F0_ eB aq)) (.cons (wm (zt zD eB ar)) (.nil)))) (fun us hu => Yq hC _ _ _ h5 us hu) (some 57)).or X0)) hC dv (a9.states_, a9.edges_, a9.pairs_, (a8 ++ ([dm] : List (List Int)))) ae (Z3 ++ [Hq c5, Hn (⟨rfl, leP (show VR [] [] from inferInstance), leP (show VR [yj m_, F7_ bt.word_] [yj m_, F7_ bt.word_] from inferInstance), rfl, rfl⟩ : ([.fn 32 []] : List A) = [.fn 32 []] ∧ LeP [] [] ∧ LeP [yj m_, F7_ bt.word_] [yj m_, F7_ bt.word_] ∧ T.als 9 [.deref] 0 1 = T.als 9 [.deref] 0 1 ∧ (some (.agg [.opq (ya (zt (eI .i64) eB am)), .opq (ya (zt F0_ eB aq)), .opq (ya (zt zD eB ar))]) : Option A) = some (.agg [.opq (ya (zt (eI .i64) eB am)), .opq (ya (zt F0_ eB aq)), .opq (ya (zt zD eB ar))])), Hc h01 (x := bt.word_) h7 (loC F7_ bt.word_ <| loN), Hg (KT h00), Hm (shM (eI .i64) (eI .i64) ax), Hs (KU h00 (x := ax) h8 (loC F7_ ax <| loN)), Hm (shM (eI .i64) (eI .i64) ax), Hq (dM F2_ ([dm] : List (List Int))), Hn (dM F2_ ([dm] : List (List Int))), Hn (aL F2_ F2_ g1), Hl (aM F2_ a8 ([dm] : List (List Int)))])
        ·exact yB ((Ym (P := Tryz.prog) wt 9 0 [.deref] (fa := zF bt.has_) (r := B av) (xl := []) (xr := []) (qs := [(ya (zt (eI .i64) eB am)), (ya (zt F0_ eB aq)), (ya (zt zD eB ar))]) (qs' := [(ya (zt (eI .i64) eB am)), (ya (zt F0_ eB aq)), (ya (zt zD eB ar))]) (es := [(zt (eI .i64) eB am), (zt F0_ eB aq), (zt zD eB ar)]) (es' := [(zt (eI .i64) eB am), (zt F0_ eB aq), (zt zD eB ar)]) (.inr rfl) (z4c (by kernel_rfl)) (.cons (wm (zt (eI .i64) eB am)) (.cons (wm (zt F0_ eB aq)) (.cons (wm (zt zD eB ar)) (.nil)))) (fun us hu => Yq hC _ _ _ h5 us hu) (some 57)).or X0) hC dv (am, aq, ar, a8) ae (Z3 ++ [Hq c5])
      ·obtain rfl := zi ae
       obtain rfl := hl1
       exact yB X0 hC a6 a8 aa [Hq c4]
    ·obtain ⟨t5, ht5, aa⟩ := zk aa
     refine yLx X0 hC xG [1,1,1,1,1,2,1,0] [J1] (fun s => qC l_ s.1 s.2) (fun x => XJ m_ l_ goal ah x.1 x.2) (([] : List (List Int)), 0) ht5 [(2, .d (I goal)), (3, .own (.box (yj m_))), (9, .own (.box ((zS (eMp (eI .i64) eB) (eMp F0_ eB) (eMp zD eB)) ah))), (10, .own (eOs 1 (decide ((0 : Int) = ((l_.length : Nat) : Int))) F2_ [])), (33, .d (eSl 1 false F7_ l_)), (34, .d (I ((l_.length : Nat) : Int))), (35, .d (I 0))] inferInstance [Ha (lnM F7_ l_)] ?_
     rintro ⟨cr, gu⟩ m5 bi ae hl1 J5 dh
     try unfold qC at ae
     rcases y4 ae with ⟨c6, ae⟩ | ⟨c6, ae⟩
     ·obtain ⟨bf, h9, ae⟩ := zk ae
      obtain ⟨dr, h10, ae⟩ := zk ae
      obtain ⟨cm, h11, ae⟩ := zk ae
      obtain ⟨g2, ae⟩ := gdE ae
      obtain rfl := zi ae
      exact yB X0 hC dh ((cr ++ ([cm] : List (List Int))), w64 (gu + 1)) hl1 [Hq c6, Hi F7_ h9, Hc h01 (x := bf) h10 (loC F7_ bf <| loN), Hg (KT h00), Hm (shM (eI .i64) (eI .i64) dr), Hs (KU h00 (x := dr) h11 (loC F7_ dr <| loN)), Hm (shM (eI .i64) (eI .i64) dr), Hq (dM F2_ ([cm] : List (List Int))), Hn (dM F2_ ([cm] : List (List Int))), Hn (aL F2_ F2_ g2), Hl (aM F2_ cr ([cm] : List (List Int)))]
     ·obtain rfl := zi ae
      obtain rfl := hl1
      exact yB X0 hC ay cr aa [Hq c6]
def uM : Code := (Tryz.f37.body).getD .skip
abbrev WC (u0 : Value) (u1 : Value) (u2 : Value) (x_ : zh) (out : List Int) : List (Nat × T) := [(3, .own (.box (.agg [.opq (vt u0 (zt (eI .i64) eB x_.states_)), .opq (vt u1 (zt F0_ eB x_.edges_)), .opq (vt u2 (zt zD eB x_.pairs_))]))), (5, .own (eOs 1 true (eI .u64) out))]
abbrev WB (u0 : Value) (u1 : Value) (u2 : Value) (bq : List zb) (x_ : zh) (db : Int) (a8 : List Int) : List (Nat × T) := [(3, .own (.box (.agg [.opq (vt u0 (zt (eI .i64) eB x_.states_)), .opq (vt u1 (zt F0_ eB x_.edges_)), .opq (vt u2 (zt zD eB x_.pairs_))]))), (5, .own (eOs 1 true (eI .u64) a8)), (13, .d (eSl 5 false (zc F7_ zD zF) bq)), (14, .d (I ((bq.length : Nat) : Int))), (15, .d (I db))]
abbrev WA (u0 : Value) (u1 : Value) (u2 : Value) (bq : List zb) (x_ : zh) (ai : List Int) (db : Int) : List (Nat × T) := [(3, .own (.box (.agg [.opq (vt u0 (zt (eI .i64) eB x_.states_)), .opq (vt u1 (zt F0_ eB x_.edges_)), .opq (vt u2 (zt zD eB x_.pairs_))]))), (5, .own (eOs 1 true (eI .u64) ai)), (13, .d (eSl 5 false (zc F7_ zD zF) bq)), (14, .d (I ((bq.length : Nat) : Int))), (15, .d (I db))]
theorem uX (hC : zN Tryz.prog ctr) : ∀ (bq : List zb) (x_ : zh) (r0 : List Int), uV bq x_ = some r0 → ∀ us : List Value, us.length = 3 → uA Tryz.prog (.fn 37 []) ([eSl 5 false (zc F7_ zD zF) bq] ++ .agg (us.map .atom) :: []) (Xu us [zt (eI .i64) eB x_.states_, zt F0_ eB x_.edges_, zt zD eB x_.pairs_]) (eSl 1 true (eI .u64) r0) ([zt (eI .i64) eB x_.states_, zt F0_ eB x_.edges_, zt zD eB x_.pairs_].map fun e => .opq (ya e)) := by
 intro bq x_ r0 aa us hus
 obtain ⟨u0, u1, u2, rfl⟩ := zbj hus
 refine Wo (tt := wt) (nt := 36) (body := uM) (B := 3) [4] (xl := [eSl 5 false (zc F7_ zD zF) bq]) (xr := []) (caps := []) (es := [zt (eI .i64) eB x_.states_, zt F0_ eB x_.edges_, zt zD eB x_.pairs_]) (es' := [zt (eI .i64) eB x_.states_, zt F0_ eB x_.edges_, zt zD eB x_.pairs_]) (us := [u0, u1, u2]) (r := eSl 1 true (eI .u64) r0) Tryz.func37 rfl (by kernel_rfl) rfl rfl (by decide) (by show (2 : Nat) ≤ 36; decide) rfl rfl (.inr ⟨_, rfl⟩) fun E hE => ?_
 try unfold uV at aa
 obtain ⟨g0, aa⟩ := gdE aa
 obtain ⟨g1, aa⟩ := gdE aa
 refine yJ X0 hC uM [1,1] [] [3,5] (fun z : List Int => jC z = some r0) (fun z => WC u0 u1 u2 x_ z) [(0, .d (eSl 5 false (zc F7_ zD zF) bq)), (3, .own (.box (.agg [.opq (vt u0 (zt (eI .i64) eB x_.states_)), .opq (vt u1 (zt F0_ eB x_.edges_)), .opq (vt u2 (zt zD eB x_.pairs_))]))), (5, .own (eOs 1 true (eI .u64) (List.replicate (w64 ((w64 (Int.tdiv ((bq.length : Nat) : Int) 64)) + 1)).toNat (0 : Int))))] [Ha (lnM (zc F7_ zD zF) bq), Hn g0, Hn (rL g1), Ha (rM 1 (eI .u64) (w64 ((w64 (Int.tdiv ((bq.length : Nat) : Int) 64)) + 1)) (0 : Int)), Hh (.cut 0)] ?_ fun J1 ay => ?_
 ·rintro out aa
  unfold jC at aa
  obtain rfl := zi aa
  exact yF X0 hC .ret [(3, .own (.box (.agg [.opq (vt u0 (zt (eI .i64) eB x_.states_)), .opq (vt u1 (zt F0_ eB x_.edges_)), .opq (vt u2 (zt zD eB x_.pairs_))]))), (4, .d (eSl 1 true (eI .u64) out))] [Hh (.n 0 [5]), Hm (shM (eI .u64) (eI .u64) out)] fun st0 h0 => hE _ st0 (.inr rfl) (JE h0 rfl rfl) (z5q (zcS h0 rfl rfl))
 ·obtain ⟨t2, ht2, aa⟩ := zk aa
  refine yL X0 hC uM [1,1,2,1,0] [J1] (fun s => jB bq x_ s.1 s.2) (fun x => WA u0 u1 u2 bq x_ x.1 x.2) ((List.replicate (w64 ((w64 (Int.tdiv ((bq.length : Nat) : Int) 64)) + 1)).toNat (0 : Int)), 0) ht2  [Ha (lnM (zc F7_ zD zF) bq)] ?_
  rintro ⟨ai, db⟩ m2 bi ae hl1 J2 a6
  try unfold jB at ae
  rcases y4 ae with ⟨c0, ae⟩ | ⟨c0, ae⟩
  ·refine yJ X0 hC uM [1,1,2,1,0,0,1,1] [J1, J2] [3,5,13,14,15] (fun z : List Int => uK db z = some bi) (fun z => WB u0 u1 u2 bq x_ db z) [(3, .own (.box (.agg [.opq (vt u0 (zt (eI .i64) eB x_.states_)), .opq (vt u1 (zt F0_ eB x_.edges_)), .opq (vt u2 (zt zD eB x_.pairs_))]))), (5, .own (eOs 1 true (eI .u64) ai)), (13, .d (eSl 5 false (zc F7_ zD zF) bq)), (14, .d (I ((bq.length : Nat) : Int))), (15, .d (I db))] [Hq c0, Hh (.cut 0)] ?_ fun J3 ca => ?_
   ·rintro a8 ae
    unfold uK at ae
    obtain rfl := zi ae
    exact yB X0 hC a6 (a8, w64 (db + 1)) hl1 []
   ·obtain ⟨fg, h0, ae⟩ := zk ae
    obtain ⟨r_, h1, ae⟩ := zk ae
    let Z0 : List HO := [Hi (zc F7_ zD zF) h0, Hn (⟨rfl, leP (show VR [] [] from inferInstance), leP (show VR [] [] from inferInstance), rfl, rfl⟩ : ([zF fg.has_] : List A) = [zF fg.has_] ∧ LeP [] [] ∧ LeP [] [] ∧ T.als 3 [.deref] 0 0 = T.als 3 [.deref] 0 0 ∧ (some (.agg [.opq (vt u0 (zt (eI .i64) eB x_.states_)), .opq (vt u1 (zt F0_ eB x_.edges_)), .opq (vt u2 (zt zD eB x_.pairs_))]) : Option A) = some (.agg [.opq (vt u0 (zt (eI .i64) eB x_.states_)), .opq (vt u1 (zt F0_ eB x_.edges_)), .opq (vt u2 (zt zD eB x_.pairs_))]))]
    rcases y4 ae with ⟨c1, ae⟩ | ⟨c1, ae⟩
    ·obtain ⟨g2, ae⟩ := gdE ae
     obtain ⟨dg, h2, ae⟩ := zk ae
     obtain ⟨g3, ae⟩ := gdE ae
     obtain ⟨g4, ae⟩ := gdE ae
     obtain ⟨em, h3, ae⟩ := zk ae
     exact yB ((zgh Tryz.prog).or ((zhx Tryz.prog).or ((Ym (P := Tryz.prog) wt 3 0 [.deref] (fa := zF fg.has_) (r := B r_) (xl := []) (xr := []) (qs := [(vt u0 (zt (eI .i64) eB x_.states_)), (vt u1 (zt F0_ eB x_.edges_)), (vt u2 (zt zD eB x_.pairs_))]) (qs' := [(vt u0 (zt (eI .i64) eB x_.states_)), (vt u1 (zt F0_ eB x_.edges_)), (vt u2 (zt zD eB x_.pairs_))]) (es := [(zt (eI .i64) eB x_.states_), (zt F0_ eB x_.edges_), (zt zD eB x_.pairs_)]) (es' := [(zt (eI .i64) eB x_.states_), (zt F0_ eB x_.edges_), (zt zD eB x_.pairs_)]) (.inr rfl) (z4c (by kernel_rfl)) (.cons (ZA u0 (zt (eI .i64) eB x_.states_)) (.cons (ZA u1 (zt F0_ eB x_.edges_)) (.cons (ZA u2 (zt zD eB x_.pairs_)) (.nil)))) (fun us hu => Yq hC _ _ _ h1 us hu) (some 23)).or X0))) hC ca (ai.set (w64 (Int.tdiv db 64)).toNat (orK .u64 dg (z8F .u64 1 (Int.tmod db 64)))) ae (Z0 ++ [Hq c1, Hn g2, Hn (iL (eI .u64) h2), Hs (iM (eI .u64) h2), Hn g3, Hn g4, Hn (iL (eI .u64) h3), Hs (iM (eI .u64) h3), Hs (iM (eI .u64) h3), Hl (sM (eI .u64) ai (w64 (Int.tdiv db 64)) (orK .u64 dg (z8F .u64 1 (Int.tmod db 64))))])
    ·exact yB ((Ym (P := Tryz.prog) wt 3 0 [.deref] (fa := zF fg.has_) (r := B r_) (xl := []) (xr := []) (qs := [(vt u0 (zt (eI .i64) eB x_.states_)), (vt u1 (zt F0_ eB x_.edges_)), (vt u2 (zt zD eB x_.pairs_))]) (qs' := [(vt u0 (zt (eI .i64) eB x_.states_)), (vt u1 (zt F0_ eB x_.edges_)), (vt u2 (zt zD eB x_.pairs_))]) (es := [(zt (eI .i64) eB x_.states_), (zt F0_ eB x_.edges_), (zt zD eB x_.pairs_)]) (es' := [(zt (eI .i64) eB x_.states_), (zt F0_ eB x_.edges_), (zt zD eB x_.pairs_)]) (.inr rfl) (z4c (by kernel_rfl)) (.cons (ZA u0 (zt (eI .i64) eB x_.states_)) (.cons (ZA u1 (zt F0_ eB x_.edges_)) (.cons (ZA u2 (zt zD eB x_.pairs_)) (.nil)))) (fun us hu => Yq hC _ _ _ h1 us hu) (some 23)).or X0) hC ca ai ae (Z0 ++ [Hq c1])
  ·obtain rfl := zi ae
   obtain rfl := hl1
   exact yB X0 hC ay ai aa [Hq c0]
def wg : Code := (Tryz.f54.body).getD .skip
def yP : yf := spF (α := List Int × List Int) (ρ := Bool) 54 (fun x => [F8_ x.1, F8_ x.2]) (fun r => eB r) (fun x => wJ x.1 x.2) [] (VS)
abbrev jk : List (Nat × T) := []
abbrev jj (s1 : List Int) (s2 : List Int) (ga : Int) : List (Nat × T) := [(0, .d (eSl 1 false (eI .u64) s1)), (1, .d (eSl 1 false (eI .u64) s2)), (12, .d (I ((s1.length : Nat) : Int))), (13, .d (I ga))]
theorem kC (hC : zN Tryz.prog ctr) : yP.Ok Tryz.prog := by
 refine zU ?_
 rintro ⟨s1, s2⟩ r0 aa
 try unfold wJ at aa
 refine yO true [(4, none)] wg 26 Tryz.func54 fun E hE => ?_
 let Z0 : List HO := [Ha (lnM (eI .u64) s1), Ha (lnM (eI .u64) s2)]
 rcases y4 aa with ⟨c0, aa⟩ | ⟨c0, aa⟩
 ·obtain rfl := zi aa
  exact yE X0 hC hE (Z0 ++ [Hq c0])
 ·refine yJ X0 hC wg [1,1] [] [] (fun z : Unit => we = some r0) (fun z => jk) [(0, .d (eSl 1 false (eI .u64) s1)), (1, .d (eSl 1 false (eI .u64) s2))] (Z0 ++ [Hq c0, Hh (.cut 0)]) ?_ fun J1 ay => ?_
  ·rintro ⟨⟩ aa
   unfold we at aa
   obtain rfl := zi aa
   exact yE X0 hC hE []
  ·obtain ⟨t2, ht2, aa⟩ := zk aa
   refine yL X0 hC wg [1,1,2,1,0] [J1] (fun s => wc s1 s2 s) (fun x => jj s1 s2 x) 0 ht2  [Ha (lnM (eI .u64) s1)] ?_
   rintro ga m2 bi ae hl1 J2 a6
   try unfold wc at ae
   rcases y4 ae with ⟨c1, ae⟩ | ⟨c1, ae⟩
   ·obtain ⟨gp, h0, ae⟩ := zk ae
    obtain ⟨fx, h1, ae⟩ := zk ae
    let Z1 : List HO := [Hq c1, Hi (eI .u64) h0, Hi (eI .u64) h1]
    rcases y4 ae with ⟨c2, ae⟩ | ⟨c2, ae⟩
    ·obtain rfl := zi ae
     obtain rfl := hl1
     obtain rfl := zi aa
     exact yE X0 hC hE (Z1 ++ [Hq c2])
    ·obtain rfl := zi ae
     exact yB X0 hC a6 (w64 (ga + 1)) hl1 (Z1 ++ [Hq c2])
   ·obtain rfl := zi ae
    obtain rfl := hl1
    exact yB X0 hC ay () aa [Hq c1]
def kr : Code := (Tryz.f55.body).getD .skip
def yQ : yf := spF (α := List Int) (ρ := List Int) 55 (fun x => [F8_ x]) (fun r => (eOs 1 false (eI .u64)) r) (fun x => wK x) [] (Ke)
theorem kD (hC : zN Tryz.prog ctr) : yQ.Ok Tryz.prog := by
 refine zU ?_
 rintro s_ r0 aa
 try unfold wK at aa
 refine yO true [(2, none)] kr 8 Tryz.func55 fun E hE => ?_
 refine z2U rfl 0 (sz := 1) (t := false) (es := s_.map (eI .u64)) (by kernel_rfl) fun az hv0 hn => ?_
 rcases hn with ⟨hn0, he0⟩ | hn0
 ·obtain ⟨_, aa⟩ := gdE aa
  rw [show s_ = [] from List.map_eq_nil_iff.1 he0] at aa
  obtain rfl := zi aa
  exact yEx ((zbd zC 4 91 (by kernel_rfl) hn0).or ((xMv Tryz.prog 3 0 az hv0).or X0)) hC hE [Hn (rfl : some az = some az), Hn (⟨rfl, rfl⟩ : T.d (.atom az) = T.d (.atom az) ∧ T.d (.atom (.slice none 0 0)) = T.d (.atom (.slice none 0 0))), qT] (eOs 1 true (eI .u64) []) (show LeV (eOs 1 true (eI .u64) []) (eOs 1 false (eI .u64) ([] : List Int)) from inferInstance)
 ·obtain ⟨g0, aa⟩ := gdE aa
  obtain rfl := zi aa
  exact yE ((zbd zC 4 91 (by kernel_rfl) hn0).or ((xMv Tryz.prog 3 0 az hv0).or X0)) hC hE [Hn (rfl : some az = some az), Hn (⟨rfl, rfl⟩ : T.d (.atom az) = T.d (.atom az) ∧ T.d (.atom (.slice none 0 0)) = T.d (.atom (.slice none 0 0))), qF, Hn (dM (eI .u64) s_), Hn (aL (eI .u64) (eI .u64) g0), Hl (aM0 (eI .u64) s_)]
def yd : Code := (Tryz.f38.body).getD .skip
def ww : yf := spF (α := zz × List Int × Int × Int) (ρ := List Int × Bool) 38 (fun x => [zen x.1, F8_ x.2.1, (eI .i64) x.2.2.1, (eI .i64) x.2.2.2]) (fun r => .tup [F7_ r.1, eB r.2]) (fun x => qL x.1 x.2.1 x.2.2.1 x.2.2.2) [] (zhd)
abbrev ka : List (Nat × T) := []
abbrev k9 (c_ : zz) (bw : List Int) (many : Int) (i_ : Int) : List (Nat × T) := [(0, .d (.sptr (z9f c_))), (1, .d (eSl 1 false (eI .u64) bw)), (3, .d (I many)), (10, .d (I i_))]
abbrev k8 (c_ : zz) (bw : List Int) (many : Int) (i_ : Int) (ez : List Int) : List (Nat × T) := [(0, .d (.sptr (z9f c_))), (1, .d (eSl 1 false (eI .u64) bw)), (3, .d (I many)), (10, .d (I i_)), (11, .own (eOs 1 false (eI .u64) ez))]
abbrev jZ (c_ : zz) (bw : List Int) (many : Int) (i_ : Int) (cu : List Int) (dl : List Int) (de : Int) : List (Nat × T) := [(0, .d (.sptr (z9f c_))), (1, .d (eSl 1 false (eI .u64) bw)), (3, .d (I many)), (10, .d (I i_)), (11, .own (eOs 1 false (eI .u64) dl)), (44, .d (eSl 1 false (eI .u64) cu)), (45, .d (I ((cu.length : Nat) : Int))), (46, .d (I de))]
abbrev k7 (c_ : zz) (bw : List Int) (many : Int) (i_ : Int) : List (Nat × T) := [(0, .d (.sptr (z9f c_))), (1, .d (eSl 1 false (eI .u64) bw)), (3, .d (I many)), (10, .d (I i_))]
theorem jv : ∀ (x y : zz × List Int × Int × Int), (fun x => [zen x.1, F8_ x.2.1, (eI .i64) x.2.2.1, (eI .i64) x.2.2.2]) x = (fun x => [zen x.1, F8_ x.2.1, (eI .i64) x.2.2.1, (eI .i64) x.2.2.2]) y → x = y := zhd
def wb (dp : zz → (List Int) → Int → Int → Option (List Int × Bool)) : yf := spF (α := zz × List Int × Int × Int) (ρ := List Int × Bool) 38 (fun x => [zen x.1, F8_ x.2.1, (eI .i64) x.2.2.1, (eI .i64) x.2.2.2]) (fun r => .tup [F7_ r.1, eB r.2]) (fun x => dp x.1 x.2.1 x.2.2.1 x.2.2.2) [] (by
 intro x y h
 exact (congrArg (fun (p : zz × List Int × Int × Int) => p) (show x = y from jv x y h)))
theorem kF (hC : zN Tryz.prog ctr) (h0i : ctr.Has yP) (h0j : ctr.Has yQ) (dp : zz → (List Int) → Int → Int → Option (List Int × Bool)) (h0a : ctr.Has (wb dp)) : (wb (wO dp)).Ok Tryz.prog := by
 refine zU ?_
 rintro ⟨c_, bw, from_, many⟩ r0 aa
 try unfold wO at aa
 refine yO false [(8, none), (9, none)] yd 74 Tryz.func38 fun E hE => ?_
 rcases y4 aa with ⟨c0, aa⟩ | ⟨c0, aa⟩
 ·obtain ⟨r_, h0, aa⟩ := zk aa
  obtain rfl := zi aa
  exact yEx X0 hC hE [Hq c0, Hc h0i (x := (bw, c_.want_)) h0 (loC F8_ bw <| loC F8_ c_.want_ <| loN), Hm (shM (eI .i64) (eI .i64) [])] (.tup [eSl 1 true (eI .i64) [], B r_]) (show LeV (.tup [eSl 1 true (eI .i64) [], B r_]) (.tup [eSl 1 false (eI .i64) ([] : List Int), B r_]) from inferInstance)
 ·refine yJ X0 hC yd [1,1] [] [] (fun z : Unit => wF = some r0) (fun z => ka) [(0, .d (.sptr (z9f c_))), (1, .d (eSl 1 false (eI .u64) bw)), (2, .d (I from_)), (3, .d (I many))] [Hq c0, Hh (.cut 0)] ?_ fun J1 ay => ?_
  ·rintro ⟨⟩ aa
   unfold wF at aa
   obtain rfl := zi aa
   exact yEx X0 hC hE [Hm (shM (eI .i64) (eI .i64) [])] (.tup [eSl 1 true (eI .i64) [], B false]) (show LeV (.tup [eSl 1 true (eI .i64) [], B false]) (.tup [eSl 1 false (eI .i64) ([] : List Int), B false]) from inferInstance)
  ·obtain ⟨t2, ht2, aa⟩ := zk aa
   refine yL X0 hC yd [1,1,2,1,0] [J1] (fun s => wB c_ bw many dp s) (fun x => k7 c_ bw many x) from_ ht2  [] ?_
   rintro i_ m2 bi ae hl1 J2 a6
   try unfold wB at ae
   let Z0 : List HO := [Ha (lnM F8_ c_.sets_)]
   rcases y4 ae with ⟨c1, ae⟩ | ⟨c1, ae⟩
   ·refine yJ X0 hC yd [1,1,2,1,0,0,1] [J1, J2] [0,1,3,10] (fun z : Unit => wD i_ = some bi) (fun z => k9 c_ bw many i_) [(0, .d (.sptr (z9f c_))), (1, .d (eSl 1 false (eI .u64) bw)), (3, .d (I many)), (10, .d (I i_))] (Z0 ++ [Hq c1, Hh (.cut 0)]) ?_ fun J3 ca => ?_
    ·rintro ⟨⟩ ae
     unfold wD at ae
     obtain rfl := zi ae
     exact yB X0 hC a6 (w64 (i_ + 1)) hl1 []
    ·obtain ⟨ah, h1, ae⟩ := zk ae
     refine yJ X0 hC yd [1,1,2,1,0,0,1,2,0,1] [J1, J2, J3] [0,1,3,10,11] (fun z : List Int => wC c_ many dp i_ z = some bi) (fun z => k8 c_ bw many i_ z) [(0, .d (.sptr (z9f c_))), (1, .d (eSl 1 false (eI .u64) bw)), (3, .d (I many)), (10, .d (I i_)), (11, .own (eOs 1 false (eI .u64) ah))] [Hc h0j (x := bw) h1 (loC F8_ bw <| loN), Hh (.cut 0)] ?_ fun J4 dv => ?_
     ·rintro ez ae
      unfold wC at ae
      obtain ⟨al, h2, ae⟩ := zk ae
      let Z1 : List HO := [Hg (KT h0a), Hm (shM (eI .u64) (eI .u64) ez), Hs (KU h0a (x := (c_, ez, w64 (i_ + 1), w64 (many - 1))) h2 (loC zen c_ <| loC F8_ ez <| loC (eI .i64) (w64 (i_ + 1)) <| loC (eI .i64) (w64 (many - 1)) <| loN)), Hm (shM (eI .u64) (eI .u64) ez)]
      rcases y4 ae with ⟨c2, ae⟩ | ⟨c2, ae⟩
      ·obtain ⟨g0, ae⟩ := gdE ae
       obtain rfl := zi ae
       obtain rfl := hl1
       obtain rfl := zi aa
       exact yE X0 hC hE (Z1 ++ [Hq c2, Hn (dM (eI .i64) al.1), Hn (aL (eI .i64) (eI .i64) g0), Hl (aM (eI .i64) ([i_] : List Int) al.1), Hm (shM (eI .i64) (eI .i64) (([i_]) ++ al.1))])
      ·exact yB X0 hC ca () ae (Z1 ++ [Hq c2])
     ·obtain ⟨cu, h3, ae⟩ := zk ae
      obtain ⟨t5, ht5, ae⟩ := zk ae
      refine yL X0 hC yd [1,1,2,1,0,0,1,2,0,1,2,1,0] [J1, J2, J3, J4] (fun s => wz cu s.1 s.2) (fun x => jZ c_ bw many i_ cu x.1 x.2) (ah,0) ht5  [Hi F8_ h3, Ha (lnM (eI .u64) cu)] ?_
      rintro ⟨dl, de⟩ m5 fh aj hl2 J5 dh
      try unfold wz at aj
      rcases y4 aj with ⟨c3, aj⟩ | ⟨c3, aj⟩
      ·obtain ⟨fc, h4, aj⟩ := zk aj
       obtain ⟨fq, h5, aj⟩ := zk aj
       obtain ⟨ie, h6, aj⟩ := zk aj
       obtain rfl := zi aj
       exact yB ((zgh Tryz.prog).or X0) hC dh ((dl.set de.toNat (orK .u64 fq fc)), w64 (de + 1)) hl2 [Hq c3, Hi (eI .u64) h4, Hn (iL (eI .u64) h5), Hs (iM (eI .u64) h5), Hn (iL (eI .u64) h6), Hs (iM (eI .u64) h6), Hs (iM (eI .u64) h6), Hl (sM (eI .u64) dl de (orK .u64 fq fc))]
      ·obtain rfl := zi aj
       obtain rfl := hl2
       exact yB X0 hC dv dl ae [Hq c3]
   ·obtain rfl := zi ae
    obtain rfl := hl1
    exact yB X0 hC ay () aa (Z0 ++ [Hq c1])
theorem ZS (hC : zN Tryz.prog ctr) (h0i : ctr.Has yP) (h0j : ctr.Has yQ) : ww.Ok Tryz.prog := by
 have H : ∀ n, (wb (uN n)).Ok Tryz.prog := by
  intro n
  induction n with
  | zero => exact zU fun _ _ h => nomatch (show none = some _ from h)
  | succ n ih => exact kF (Ctr.add_ok hC ih) (h0i.add (by show (54 : Nat) ≠ 38; decide)) (h0j.add (by show (55 : Nat) ≠ 38; decide)) _ (Ctr.add_has _ _)
 exact zU fun x r h => z1j (H _) h
end Go.Own
end
