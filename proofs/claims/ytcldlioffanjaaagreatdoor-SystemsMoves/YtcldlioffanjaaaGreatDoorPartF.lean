/- -/
import Derived.Test.YtcldlioffanjaaaGreatDoorPartE
noncomputable section
set_option linter.unusedVariables false
set_option linter.unusedSimpArgs false
namespace Go.Own
open Go.Proofs
set_option maxRecDepth 100000
set_option maxHeartbeats 8000000
def X0 : XH Tryz.prog := xB zR
theorem WQ : Tryz.prog.follows .mixedOrders = true := by kernel_rfl
section
variable {ctr : Ctr} {n : Fr} {Q : Exit → St → Prop} {c : Code} {fs : List Fm} {st : St}
theorem yE (X : XH Tryz.prog) (hC : zT Tryz.prog ctr) {E : St → Prop} {r : A} {keep : Bool} {rs : List (Nat × Option Nat)} (hE : ∀ st x R U, z3Y xZ keep rs st = some (x, R, U) → LeV x r → E st) (L : List HO) (e : z9h X xZ ctr n keep rs 4000 c fs st (hoH L) = some (r, hoO L) := by kernel_rfl) : AWP Tryz.prog n c st (Qf Tryz.prog n fs (z5j E)) := yE6 X zR hC WQ hE L e
theorem yEx (X : XH Tryz.prog) (hC : zT Tryz.prog ctr) {E : St → Prop} {r : A} {keep : Bool} {rs : List (Nat × Option Nat)} (hE : ∀ st x R U, z3Y xZ keep rs st = some (x, R, U) → LeV x r → E st) (L : List HO) (x : A) (hle : LeV x r) (e : z9h X xZ ctr n keep rs 4000 c fs st (hoH L) = some (x, hoO L) := by kernel_rfl) : AWP Tryz.prog n c st (Qf Tryz.prog n fs (z5j E)) := zf1 X zR hC WQ hE L x hle e
theorem yB (X : XH Tryz.prog) (hC : zT Tryz.prog ctr) {τ : Type} {J : St → Prop} {live : List Nat} {S : τ → List (Nat × T)} {Inv : τ → Prop} (hJ : ∀ st' l' z, Inv z → Own.canon live st' = ofL l' → LeL l' (S z) → J st') (z : τ) (hz : Inv z) (L : List HO) (e : Ku X xZ ctr n live 4000 c fs st (hoH L) = some (.back J, ofL (S z), hoO L) := by kernel_rfl) : AWP Tryz.prog n c st (Qf Tryz.prog n fs Q) := yB6 X zR hC WQ hJ z hz L e
theorem yBx (X : XH Tryz.prog) (hC : zT Tryz.prog ctr) {τ : Type} {J : St → Prop} {live : List Nat} {S : τ → List (Nat × T)} {Inv : τ → Prop} (hJ : ∀ st' l' z, Inv z → Own.canon live st' = ofL l' → LeL l' (S z) → J st') (z : τ) (hz : Inv z) (l : List (Nat × T)) (hl : LeL l (S z)) (L : List HO) (e : Ku X xZ ctr n live 4000 c fs st (hoH L) = some (.back J, ofL l, hoO L) := by kernel_rfl) : AWP Tryz.prog n c st (Qf Tryz.prog n fs Q) := zf2 X zR hC WQ hJ z hz l hl L e
theorem yA (X : XH Tryz.prog) (hC : zT Tryz.prog ctr) (bd : Code) (path : List Nat) (Js : List (St → Prop)) (l : List (Nat × T)) (L : List HO) (h : AWP Tryz.prog n (sub path bd) (ofL l) (Qf Tryz.prog n (frs path Js bd []) Q)) (e : Ku X xZ ctr n (V7 l) 4000 c fs st (hoH L) = some (.at (sub path bd) (frs path Js bd []), ofL l, hoO L) := by kernel_rfl) : AWP Tryz.prog n c st (Qf Tryz.prog n fs Q) := yA6 X zR hC WQ bd path Js l L e h
theorem yAt (X : XH Tryz.prog) (hC : zT Tryz.prog ctr) (c' : Code) (fs' : List Fm) (l : List (Nat × T)) (L : List HO) (h : ∀ st0, Own.canon (V7 l) st0 = ofL l → AWP Tryz.prog n c' st0 (Qf Tryz.prog n fs' Q)) (e : Ku X xZ ctr n (V7 l) 4000 c fs st (hoH L) = some (.at c' fs', ofL l, hoO L) := by kernel_rfl) : AWP Tryz.prog n c st (Qf Tryz.prog n fs Q) := zf3 X zR hC WQ c' fs' l L e h
theorem yLx (X : XH Tryz.prog) (hC : zT Tryz.prog ctr) (bd : Code) (path : List Nat) (Js : List (St → Prop)) {σ τ : Type} (f : σ → Option (LR σ τ)) (S : σ → List (Nat × T)) (x0 : σ) {t : τ} (ht : loop f x0 = some t) (l : List (Nat × T)) (hl : LeL l (S x0)) (L : List HO) (round : ∀ x m lr, f x = some lr → zcc f m t lr → ∀ J : St → Prop, (∀ st' l' x', WF f m x' = some t → Own.canon (V7 l) st' = ofL l' → LeL l' (S x') → J st') → AWP Tryz.prog n (sub (path ++ [0]) bd) (ofL (S x)) (Qf Tryz.prog n (.pre J :: frs path Js bd []) Q)) (e : Ku X xZ ctr n (V7 l) 4000 c fs st (hoH L) = some (.at (sub path bd) (frs path Js bd []), ofL l, hoO L) := by kernel_rfl) (e2 : sub path bd = .loop (sub (path ++ [0]) bd) := by kernel_rfl) (hk : ∀ x, V7 (S x) = V7 l := by exact fun _ => rfl) : AWP Tryz.prog n c st (Qf Tryz.prog n fs Q) := yL6 X zR hC WQ bd path Js f S x0 ht l hl L hk e e2 round
theorem yL (X : XH Tryz.prog) (hC : zT Tryz.prog ctr) (bd : Code) (path : List Nat) (Js : List (St → Prop)) {σ τ : Type} (f : σ → Option (LR σ τ)) (S : σ → List (Nat × T)) (x0 : σ) {t : τ} (ht : loop f x0 = some t) (L : List HO) (round : ∀ x m lr, f x = some lr → zcc f m t lr → ∀ J : St → Prop, (∀ st' l' x', WF f m x' = some t → Own.canon (V7 (S x0)) st' = ofL l' → LeL l' (S x') → J st') → AWP Tryz.prog n (sub (path ++ [0]) bd) (ofL (S x)) (Qf Tryz.prog n (.pre J :: frs path Js bd []) Q)) (e : Ku X xZ ctr n (V7 (S x0)) 4000 c fs st (hoH L) = some (.at (sub path bd) (frs path Js bd []), ofL (S x0), hoO L) := by kernel_rfl) (e2 : sub path bd = .loop (sub (path ++ [0]) bd) := by kernel_rfl) (hk : ∀ x, V7 (S x) = V7 (S x0) := by exact fun _ => rfl) : AWP Tryz.prog n c st (Qf Tryz.prog n fs Q) := yL6 X zR hC WQ bd path Js f S x0 ht _ (LeL.refl _) L hk e e2 round
theorem yJ (X : XH Tryz.prog) (hC : zT Tryz.prog ctr) (bd : Code) (path : List Nat) (Js : List (St → Prop)) {σ : Type} (live : List Nat) (Inv : σ → Prop) (S : σ → List (Nat × T)) (l : List (Nat × T)) (L : List HO) (h1 : ∀ z, Inv z → AWP Tryz.prog n (sub (path ++ [1]) bd) (ofL (S z)) (Qf Tryz.prog n (frs path Js bd []) Q)) (h2 : ∀ J : St → Prop, (∀ st' l' z, Inv z → Own.canon live st' = ofL l' → LeL l' (S z) → J st') → AWP Tryz.prog n (sub (path ++ [2]) bd) (ofL l) (Qf Tryz.prog n (.pre J :: frs path Js bd []) Q)) (e : Ku X xZ ctr n (V7 l) 4000 c fs st (hoH L) = some (.at (sub path bd) (frs path Js bd []), ofL l, hoO L) := by kernel_rfl) (e2 : sub path bd = .seq (sub (path ++ [2]) bd) (sub (path ++ [1]) bd) := by kernel_rfl) : AWP Tryz.prog n c st (Qf Tryz.prog n fs Q) := yJ6 X zR hC WQ bd path Js live Inv S l L e e2 h1 h2
theorem yF (X : XH Tryz.prog) (hC : zT Tryz.prog ctr) (ex : Exit) (l : List (Nat × T)) (L : List HO) (h : ∀ st0, Own.canon (V7 l) st0 = ofL l → Q ex st0) (e : Ku X xZ ctr n (V7 l) 4000 c fs st (hoH L) = some (.fin ex, ofL l, hoO L) := by kernel_rfl) : AWP Tryz.prog n c st (Qf Tryz.prog n fs Q) := yF6 X zR hC WQ ex l L e h
theorem yO {k : Nat} {fn : Func} {r : A} {ls : List A} (keep : Bool) (rs : List (Nat × Option Nat)) (body : Code) (nt : Nat) (hf : Tryz.prog.funcs[k]? = some fn) (h : ∀ E : St → Prop, (∀ st x R U, z3Y xZ keep rs st = some (x, R, U) → LeV x r → E st) → AWP Tryz.prog ⟨nt, []⟩ body (ofL (z5l 0 ls)) (Qf Tryz.prog ⟨nt, []⟩ [] (z5j E))) (hb : fn.body = some body := by kernel_rfl) (hn : nt = fn.ntmps := by exact rfl) (hr : fn.results = (rs.map z5v).toArray := by exact rfl) (hnm : (fn.name == "runtime.NumGoroutine") = false := by exact rfl) (ha : Nat.ble ls.length nt = true := by kernel_rfl) : XF Tryz.prog k ls r := yO6 zR keep rs body nt hf hb hn hr hnm ha h
end
theorem z4h : z72 Tryz.prog 142 115 3 (JJ [.i64, .i64, .i64, .i64, .i64, .i64, .i64, .i64, .i64, .i64, .i64, .i64, .i64, .i64, .i64, .i64, .i64, .i64, .i64, .i64, .i64, .i64, .i64, .i64]) (.atom (.int .i64 0)) := z6i Tryz.underlying142 _ Tryz.underlying115 (Go.Ex.z4x.eqn rfl) (z2u.eqn rfl) rfl ⟨.int .i64 0, fun w => z5s (f := Tryz.t3) (by kernel_rfl) rfl w, fun S => uM.2 ⟨rfl, rfl⟩⟩ rfl
theorem zcq : z9a Tryz.prog 48 3 true := z5V zR (t := 61) Tryz.so48 rfl rfl (by kernel_rfl) (by decide)
def xX : Code := (Tryz.f9.body).getD .skip
def Xb : yU := spF (α := ya) (ρ := z8) 9 (fun x => [K6 x]) (fun r => z5g r) (fun x => YR x) [] (Qp)
abbrev QL (x_ : ya) (out_Parts : List zi) : List (Nat × T) := [(2, .own (.box (.agg [I 0, I 0, eOs 1 true (eI .i64) [], eOs 3 true wH []]))), (3, .own (.box (.agg [I 2, I 2, eOs 1 true (eI .i64) ([w64 (Int.tmod x_.Channels.e0 3), w64 (Int.tmod x_.Channels.e1 3)]), eOs 3 false QO out_Parts])))]
abbrev QJ (x_ : ya) (i_ : Int) (x34 : Bool) (out_Parts2 : List zi) : List (Nat × T) := [(1, .own (.box (K6 x_))), (2, .own (.box (.agg [I 0, I 0, eOs 1 true (eI .i64) [], eOs 3 true wH []]))), (3, .own (.box (.agg [I 2, I 2, eOs 1 true (eI .i64) ([w64 (Int.tmod x_.Channels.e0 3), w64 (Int.tmod x_.Channels.e1 3)]), eOs 3 false QO out_Parts2]))), (4, .d (I i_)), (26, .d (I i_)), (28, .d (eSl 3 false Vw x_.Parts)), (29, .d (I ((x_.Parts.length : Nat) : Int))), (30, .d (B (decide (i_ < ((x_.Parts.length : Nat) : Int))))), (31, .d (B (decide (i_ < ((x_.Parts.length : Nat) : Int))))), (34, .d (B x34))]
abbrev QI (x_ : ya) (out_Parts1 : List zi) (i_ : Int) (x34 : Bool) (p_States : Int) (p_Arcs : List ze) (p_Final : List Int) : List (Nat × T) := [(1, .own (.box (K6 x_))), (2, .own (.box (.agg [I 0, I 0, eOs 1 true (eI .i64) [], eOs 3 true wH []]))), (3, .own (.box (.agg [I 2, I 2, eOs 1 true (eI .i64) ([w64 (Int.tmod x_.Channels.e0 3), w64 (Int.tmod x_.Channels.e1 3)]), eOs 3 false QO out_Parts1]))), (4, .d (I i_)), (5, .own (.box (.agg [I p_States, eOs 5 false vW p_Arcs, eOs 1 false (eI .i64) p_Final]))), (26, .d (I i_)), (28, .d (eSl 3 false Vw x_.Parts)), (29, .d (I ((x_.Parts.length : Nat) : Int))), (30, .d (B (decide (i_ < ((x_.Parts.length : Nat) : Int))))), (31, .d (B (decide (i_ < ((x_.Parts.length : Nat) : Int))))), (34, .d (B x34))]
abbrev QG (x_ : ya) (out_Parts1 : List zi) (i_ : Int) (x34 : Bool) (Part_e : xA) (p_Final1 : List Int) (p_Arcs1 : List ze) (k_ : Int) (Arc_e : z3t Int) (arc_Channel : Int) : List (Nat × T) := [(1, .own (.box (K6 x_))), (2, .own (.box (.agg [I 0, I 0, eOs 1 true (eI .i64) [], eOs 3 true wH []]))), (3, .own (.box (.agg [I 2, I 2, eOs 1 true (eI .i64) ([w64 (Int.tmod x_.Channels.e0 3), w64 (Int.tmod x_.Channels.e1 3)]), eOs 3 false QO out_Parts1]))), (4, .d (I i_)), (5, .own (.box (.agg [I (w64 (1 + (w64 (Int.tmod Part_e.States 3)))), eOs 5 false vW p_Arcs1, eOs 1 false (eI .i64) p_Final1]))), (6, .own (.box (Vw Part_e))), (8, .d (I k_)), (10, .own (.box (.agg [I (Int.tmod (w64 (Arc_e.e0)) (w64 (1 + (w64 (Int.tmod Part_e.States 3))))), .atom (.int .u8 (Int.tmod Arc_e.e1 3)), I arc_Channel, I (w64 (Int.tmod Arc_e.e3 2)), I (Int.tmod (w64 (Arc_e.e4)) (w64 (1 + (w64 (Int.tmod Part_e.States 3)))))]))), (26, .d (I i_)), (28, .d (eSl 3 false Vw x_.Parts)), (29, .d (I ((x_.Parts.length : Nat) : Int))), (30, .d (B (decide (i_ < ((x_.Parts.length : Nat) : Int))))), (31, .d (B (decide (i_ < ((x_.Parts.length : Nat) : Int))))), (34, .d (B x34)), (80, .d (I k_)), (81, .d (B (decide (k_ < 6))))]
abbrev QE (x_ : ya) (out_Parts1 : List zi) (i_ : Int) (x34 : Bool) (Part_e : xA) (p_Final1 : List Int) (p_Arcs1 : List ze) (k_ : Int) : List (Nat × T) := [(1, .own (.box (K6 x_))), (2, .own (.box (.agg [I 0, I 0, eOs 1 true (eI .i64) [], eOs 3 true wH []]))), (3, .own (.box (.agg [I 2, I 2, eOs 1 true (eI .i64) ([w64 (Int.tmod x_.Channels.e0 3), w64 (Int.tmod x_.Channels.e1 3)]), eOs 3 false QO out_Parts1]))), (4, .d (I i_)), (5, .own (.box (.agg [I (w64 (1 + (w64 (Int.tmod Part_e.States 3)))), eOs 5 false vW p_Arcs1, eOs 1 false (eI .i64) p_Final1]))), (6, .own (.box (Vw Part_e))), (8, .d (I k_)), (26, .d (I i_)), (28, .d (eSl 3 false Vw x_.Parts)), (29, .d (I ((x_.Parts.length : Nat) : Int))), (30, .d (B (decide (i_ < ((x_.Parts.length : Nat) : Int))))), (31, .d (B (decide (i_ < ((x_.Parts.length : Nat) : Int))))), (34, .d (B x34))]
abbrev QH (x_ : ya) (out_Parts1 : List zi) (i_ : Int) (x34 : Bool) (Part_e : xA) (p_Final1 : List Int) : List (Nat × T) := [(1, .own (.box (K6 x_))), (2, .own (.box (.agg [I 0, I 0, eOs 1 true (eI .i64) [], eOs 3 true wH []]))), (3, .own (.box (.agg [I 2, I 2, eOs 1 true (eI .i64) ([w64 (Int.tmod x_.Channels.e0 3), w64 (Int.tmod x_.Channels.e1 3)]), eOs 3 false QO out_Parts1]))), (4, .d (I i_)), (5, .own (.box (.agg [I (w64 (1 + (w64 (Int.tmod Part_e.States 3)))), eOs 5 true vW [], eOs 1 false (eI .i64) p_Final1]))), (6, .own (.box (Vw Part_e))), (26, .d (I i_)), (28, .d (eSl 3 false Vw x_.Parts)), (29, .d (I ((x_.Parts.length : Nat) : Int))), (30, .d (B (decide (i_ < ((x_.Parts.length : Nat) : Int))))), (31, .d (B (decide (i_ < ((x_.Parts.length : Nat) : Int))))), (34, .d (B x34))]
abbrev Q1 (x_ : ya) (out_Parts1 : List zi) (i_ : Int) (x34 : Bool) (Part_e : xA) (s_ : Int) (p_Final3 : List Int) : List (Nat × T) := [(1, .own (.box (K6 x_))), (2, .own (.box (.agg [I 0, I 0, eOs 1 true (eI .i64) [], eOs 3 true wH []]))), (3, .own (.box (.agg [I 2, I 2, eOs 1 true (eI .i64) ([w64 (Int.tmod x_.Channels.e0 3), w64 (Int.tmod x_.Channels.e1 3)]), eOs 3 false QO out_Parts1]))), (4, .d (I i_)), (5, .own (.box (.agg [I (w64 (1 + (w64 (Int.tmod Part_e.States 3)))), eOs 5 true vW [], eOs 1 false (eI .i64) p_Final3]))), (6, .own (.box (Vw Part_e))), (7, .d (I s_)), (26, .d (I i_)), (28, .d (eSl 3 false Vw x_.Parts)), (29, .d (I ((x_.Parts.length : Nat) : Int))), (30, .d (B (decide (i_ < ((x_.Parts.length : Nat) : Int))))), (31, .d (B (decide (i_ < ((x_.Parts.length : Nat) : Int))))), (34, .d (B x34))]
abbrev QD (x_ : ya) (out_Parts1 : List zi) (i_ : Int) (x34 : Bool) (Part_e : xA) (p_Final2 : List Int) (s_ : Int) : List (Nat × T) := [(1, .own (.box (K6 x_))), (2, .own (.box (.agg [I 0, I 0, eOs 1 true (eI .i64) [], eOs 3 true wH []]))), (3, .own (.box (.agg [I 2, I 2, eOs 1 true (eI .i64) ([w64 (Int.tmod x_.Channels.e0 3), w64 (Int.tmod x_.Channels.e1 3)]), eOs 3 false QO out_Parts1]))), (4, .d (I i_)), (5, .own (.box (.agg [I (w64 (1 + (w64 (Int.tmod Part_e.States 3)))), eOs 5 true vW [], eOs 1 false (eI .i64) p_Final2]))), (6, .own (.box (Vw Part_e))), (7, .d (I s_)), (26, .d (I i_)), (28, .d (eSl 3 false Vw x_.Parts)), (29, .d (I ((x_.Parts.length : Nat) : Int))), (30, .d (B (decide (i_ < ((x_.Parts.length : Nat) : Int))))), (31, .d (B (decide (i_ < ((x_.Parts.length : Nat) : Int))))), (34, .d (B x34))]
abbrev QK (x_ : ya) (out_Parts1 : List zi) (i_ : Int) (x34 : Bool) : List (Nat × T) := [(1, .own (.box (K6 x_))), (2, .own (.box (.agg [I 0, I 0, eOs 1 true (eI .i64) [], eOs 3 true wH []]))), (3, .own (.box (.agg [I 2, I 2, eOs 1 true (eI .i64) ([w64 (Int.tmod x_.Channels.e0 3), w64 (Int.tmod x_.Channels.e1 3)]), eOs 3 false QO out_Parts1]))), (4, .d (I i_)), (26, .d (I i_)), (28, .d (eSl 3 false Vw x_.Parts)), (29, .d (I ((x_.Parts.length : Nat) : Int))), (30, .d (B (decide (i_ < ((x_.Parts.length : Nat) : Int))))), (31, .d (B (decide (i_ < ((x_.Parts.length : Nat) : Int))))), (34, .d (B x34))]
abbrev QF (x_ : ya) (out_Parts1 : List zi) (i_ : Int) : List (Nat × T) := [(1, .own (.box (K6 x_))), (2, .own (.box (.agg [I 0, I 0, eOs 1 true (eI .i64) [], eOs 3 true wH []]))), (3, .own (.box (.agg [I 2, I 2, eOs 1 true (eI .i64) ([w64 (Int.tmod x_.Channels.e0 3), w64 (Int.tmod x_.Channels.e1 3)]), eOs 3 false QO out_Parts1]))), (4, .d (I i_))]
theorem z0I {ctr : Ctr} (hC : zT Tryz.prog ctr) : Xb.Ok Tryz.prog := by
 refine y4 ?_
 rintro x_ r0 hf0
 try unfold YR at hf0
 refine yO false [(2, some 29)] xX 131 Tryz.func9 fun E hE => ?_
 obtain ⟨g0, hf0⟩ := gdE hf0
 obtain ⟨g1, hf0⟩ := gdE hf0
 refine yJ X0 hC xX [1,1] [] [2,3] (fun z : List zi => Xm x_ z = some r0) (fun z => QL x_ z) [(1, .own (.box (K6 x_))), (2, .own (.box (.agg [I 0, I 0, eOs 1 true (eI .i64) [], eOs 3 true wH []]))), (3, .own (.box (.agg [I 2, I 2, eOs 1 true (eI .i64) ([w64 (Int.tmod x_.Channels.e0 3), w64 (Int.tmod x_.Channels.e1 3)]), eOs 3 true wH []])))] [Hn (⟨rfl, by decide⟩ : true = true ∧ 0 < 2), Hn g0, Hn (⟨rfl, by decide⟩ : true = true ∧ 1 < 2), Hn g1, Hh (.cut 2)] ?_ fun J1 hJ1 => ?_
 ·rintro out_Parts hf0
  unfold Xm at hf0
  obtain rfl := zl hf0
  exact yE X0 hC hE [Hm (shM (eI .i64) (eI .i64) ([w64 (Int.tmod x_.Channels.e0 3), w64 (Int.tmod x_.Channels.e1 3)])), Hm (shM QO wH out_Parts)]
 ·obtain ⟨t2, ht2, hf0⟩ := zo hf0
  refine yLx X0 hC xX [1,1,2,1,0] [J1] (fun s => kn x_ s.1 s.2) (fun x => QF x_ x.1 x.2) (([] : List zi), 0) ht2 [(1, .own (.box (K6 x_))), (2, .own (.box (.agg [I 0, I 0, eOs 1 true (eI .i64) [], eOs 3 true wH []]))), (3, .own (.box (.agg [I 2, I 2, eOs 1 true (eI .i64) ([w64 (Int.tmod x_.Channels.e0 3), w64 (Int.tmod x_.Channels.e1 3)]), eOs 3 true QO []]))), (4, .d (I 0))] inferInstance [] ?_
  rintro ⟨out_Parts1, i_⟩ m2 lr1 hf1 hl1 J2 hJ2
  try unfold kn at hf1
  refine yJ X0 hC xX [1,1,2,1,0,0] [J1, J2] [1,2,3,4,26,28,29,30,31,34] (fun z : Bool => uD x_ out_Parts1 i_ z = some lr1) (fun z => QK x_ out_Parts1 i_ z) [(1, .own (.box (K6 x_))), (2, .own (.box (.agg [I 0, I 0, eOs 1 true (eI .i64) [], eOs 3 true wH []]))), (3, .own (.box (.agg [I 2, I 2, eOs 1 true (eI .i64) ([w64 (Int.tmod x_.Channels.e0 3), w64 (Int.tmod x_.Channels.e1 3)]), eOs 3 false QO out_Parts1]))), (4, .d (I i_))] [Hh (.cut 0)] ?_ fun J3 hJ3 => ?_
  ·rintro x34 hf1
   unfold uD at hf1
   refine yJ X0 hC xX [1,1,2,1,0,0,1] [J1, J2] [1,2,3,4,26,28,29,30,31,34] (fun z : List zi => Zt i_ z = some lr1) (fun z => QJ x_ i_ x34 z) [(1, .own (.box (K6 x_))), (2, .own (.box (.agg [I 0, I 0, eOs 1 true (eI .i64) [], eOs 3 true wH []]))), (3, .own (.box (.agg [I 2, I 2, eOs 1 true (eI .i64) ([w64 (Int.tmod x_.Channels.e0 3), w64 (Int.tmod x_.Channels.e1 3)]), eOs 3 false QO out_Parts1]))), (4, .d (I i_)), (26, .d (I i_)), (28, .d (eSl 3 false Vw x_.Parts)), (29, .d (I ((x_.Parts.length : Nat) : Int))), (30, .d (B (decide (i_ < ((x_.Parts.length : Nat) : Int))))), (31, .d (B (decide (i_ < ((x_.Parts.length : Nat) : Int))))), (34, .d (B x34))] [Hh (.cut 0)] ?_ fun J4 hJ4 => ?_
   ·rintro out_Parts2 hf1
    unfold Zt at hf1
    obtain rfl := zl hf1
    exact yB X0 hC hJ2 (out_Parts2, w64 (i_ + 1)) hl1 []
   ·refine yJ X0 hC xX [1,1,2,1,0,0,1,2,0,1] [J1, J2, J4] [1,2,3,4,5,26,28,29,30,31,34] (fun z : Int × List ze × List Int => qS out_Parts1 i_ z.1 z.2.1 z.2.2 = some lr1) (fun z => QI x_ out_Parts1 i_ x34 z.1 z.2.1 z.2.2) [(1, .own (.box (K6 x_))), (2, .own (.box (.agg [I 0, I 0, eOs 1 true (eI .i64) [], eOs 3 true wH []]))), (3, .own (.box (.agg [I 2, I 2, eOs 1 true (eI .i64) ([w64 (Int.tmod x_.Channels.e0 3), w64 (Int.tmod x_.Channels.e1 3)]), eOs 3 false QO out_Parts1]))), (4, .d (I i_)), (5, .own (.box (.agg [I 1, eOs 5 true vW [], eOs 1 true (eI .i64) []]))), (26, .d (I i_)), (28, .d (eSl 3 false Vw x_.Parts)), (29, .d (I ((x_.Parts.length : Nat) : Int))), (30, .d (B (decide (i_ < ((x_.Parts.length : Nat) : Int))))), (31, .d (B (decide (i_ < ((x_.Parts.length : Nat) : Int))))), (34, .d (B x34))] [Hh (.cut 1)] ?_ fun J5 hJ5 => ?_
    ·rintro ⟨p_States, p_Arcs, p_Final⟩ hf1
     unfold qS at hf1
     obtain ⟨g2, hf1⟩ := gdE hf1
     exact yB X0 hC hJ4 (out_Parts1 ++ ([(zi.mk p_States p_Arcs p_Final)] : List zi)) hf1 [Hq (oC QO (zi.mk p_States p_Arcs p_Final) []), Hn (aL QO QO g2), Hl (aM QO out_Parts1 ([(zi.mk p_States p_Arcs p_Final)] : List zi))]
    ·let Z0 : List HO := [Ha (lnM Vw x_.Parts)]
     rcases zZ hf1 with ⟨c0, hf1⟩ | ⟨c0, hf1⟩
     ·obtain ⟨Part_e, h0, hf1⟩ := zo hf1
      obtain ⟨g3, hf1⟩ := gdE hf1
      refine yJ X0 hC xX [1,1,2,1,0,0,1,2,0,1,2,1,0,1,1] [J1, J2, J4, J5] [1,2,3,4,5,6,26,28,29,30,31,34] (fun z : List Int => Zs out_Parts1 i_ Part_e z = some lr1) (fun z => QH x_ out_Parts1 i_ x34 Part_e z) [(1, .own (.box (K6 x_))), (2, .own (.box (.agg [I 0, I 0, eOs 1 true (eI .i64) [], eOs 3 true wH []]))), (3, .own (.box (.agg [I 2, I 2, eOs 1 true (eI .i64) ([w64 (Int.tmod x_.Channels.e0 3), w64 (Int.tmod x_.Channels.e1 3)]), eOs 3 false QO out_Parts1]))), (4, .d (I i_)), (5, .own (.box (.agg [I (w64 (1 + (w64 (Int.tmod Part_e.States 3)))), eOs 5 true vW [], eOs 1 true (eI .i64) []]))), (6, .own (.box (Vw Part_e))), (26, .d (I i_)), (28, .d (eSl 3 false Vw x_.Parts)), (29, .d (I ((x_.Parts.length : Nat) : Int))), (30, .d (B (decide (i_ < ((x_.Parts.length : Nat) : Int))))), (31, .d (B (decide (i_ < ((x_.Parts.length : Nat) : Int))))), (34, .d (B x34))] (Z0 ++ [Hq c0, Hi Vw h0, Hn g3, Hh (.cut 1)]) ?_ fun J6 hJ6 => ?_
      ·rintro p_Final1 hf1
       unfold Zs at hf1
       obtain ⟨t7, ht7, hf1⟩ := zo hf1
       refine yLx X0 hC xX [1,1,2,1,0,0,1,2,0,1,2,1,0,1,1,1,1,0] [J1, J2, J4, J5] (fun s => km Part_e p_Final1 s.1 s.2) (fun x => QE x_ out_Parts1 i_ x34 Part_e p_Final1 x.1 x.2) (([] : List ze), 0) ht7 [(1, .own (.box (K6 x_))), (2, .own (.box (.agg [I 0, I 0, eOs 1 true (eI .i64) [], eOs 3 true wH []]))), (3, .own (.box (.agg [I 2, I 2, eOs 1 true (eI .i64) ([w64 (Int.tmod x_.Channels.e0 3), w64 (Int.tmod x_.Channels.e1 3)]), eOs 3 false QO out_Parts1]))), (4, .d (I i_)), (5, .own (.box (.agg [I (w64 (1 + (w64 (Int.tmod Part_e.States 3)))), eOs 5 true vW [], eOs 1 false (eI .i64) p_Final1]))), (6, .own (.box (Vw Part_e))), (8, .d (I 0)), (26, .d (I i_)), (28, .d (eSl 3 false Vw x_.Parts)), (29, .d (I ((x_.Parts.length : Nat) : Int))), (30, .d (B (decide (i_ < ((x_.Parts.length : Nat) : Int))))), (31, .d (B (decide (i_ < ((x_.Parts.length : Nat) : Int))))), (34, .d (B x34))] inferInstance [] ?_
       rintro ⟨p_Arcs1, k_⟩ m7 lr2 hf2 hl2 J7 hJ7
       try unfold km at hf2
       let Z1 : List HO := [Ha (lnM (XN (eI .u8)) Part_e.Arcs)]
       rcases zZ hf2 with ⟨c1, hf2⟩ | ⟨c1, hf2⟩
       ·rcases zZ hf2 with ⟨c2, hf2⟩ | ⟨c2, hf2⟩
        ·obtain ⟨Arc_e, h1, hf2⟩ := zo hf2
         obtain ⟨g4, hf2⟩ := gdE hf2
         obtain ⟨g5, hf2⟩ := gdE hf2
         obtain ⟨g6, hf2⟩ := gdE hf2
         obtain ⟨g7, hf2⟩ := gdE hf2
         obtain ⟨g8, hf2⟩ := gdE hf2
         refine yJ X0 hC xX [1,1,2,1,0,0,1,2,0,1,2,1,0,1,1,1,1,0,0,1,0,0,1,1] [J1, J2, J4, J5, J7] [1,2,3,4,5,6,8,10,26,28,29,30,31,34,80,81] (fun z : Int => qR Part_e p_Arcs1 k_ Arc_e z = some lr2) (fun z => QG x_ out_Parts1 i_ x34 Part_e p_Final1 p_Arcs1 k_ Arc_e z) [(1, .own (.box (K6 x_))), (2, .own (.box (.agg [I 0, I 0, eOs 1 true (eI .i64) [], eOs 3 true wH []]))), (3, .own (.box (.agg [I 2, I 2, eOs 1 true (eI .i64) ([w64 (Int.tmod x_.Channels.e0 3), w64 (Int.tmod x_.Channels.e1 3)]), eOs 3 false QO out_Parts1]))), (4, .d (I i_)), (5, .own (.box (.agg [I (w64 (1 + (w64 (Int.tmod Part_e.States 3)))), eOs 5 false vW p_Arcs1, eOs 1 false (eI .i64) p_Final1]))), (6, .own (.box (Vw Part_e))), (8, .d (I k_)), (10, .own (.box (.agg [I (Int.tmod (w64 (Arc_e.e0)) (w64 (1 + (w64 (Int.tmod Part_e.States 3))))), .atom (.int .u8 (Int.tmod Arc_e.e1 3)), I (w64 (Int.tmod Arc_e.e2 2)), I (w64 (Int.tmod Arc_e.e3 2)), I (Int.tmod (w64 (Arc_e.e4)) (w64 (1 + (w64 (Int.tmod Part_e.States 3)))))]))), (26, .d (I i_)), (28, .d (eSl 3 false Vw x_.Parts)), (29, .d (I ((x_.Parts.length : Nat) : Int))), (30, .d (B (decide (i_ < ((x_.Parts.length : Nat) : Int))))), (31, .d (B (decide (i_ < ((x_.Parts.length : Nat) : Int))))), (34, .d (B x34)), (80, .d (I k_)), (81, .d (B (decide (k_ < 6))))] (Z1 ++ [Hq c1, Hq c1, Hq c1, Hq c2, Hi (XN (eI .u8)) h1, Hn (⟨rfl, by decide⟩ : true = true ∧ 0 < 5), Hn g4, Hn (⟨rfl, by decide⟩ : true = true ∧ 1 < 5), Hn g5, Hn (⟨rfl, by decide⟩ : true = true ∧ 2 < 5), Hn g6, Hn (⟨rfl, by decide⟩ : true = true ∧ 3 < 5), Hn g7, Hn (⟨rfl, by decide⟩ : true = true ∧ 4 < 5), Hn g8, Hh (.cut 1)]) ?_ fun J8 hJ8 => ?_
         ·rintro arc_Channel hf2
          unfold qR at hf2
          obtain ⟨g9, hf2⟩ := gdE hf2
          obtain rfl := zl hf2
          exact yB X0 hC hJ7 ((p_Arcs1 ++ ([(ze.mk (Int.tmod (w64 (Arc_e.e0)) (w64 (1 + (w64 (Int.tmod Part_e.States 3))))) (Int.tmod Arc_e.e1 3) arc_Channel (w64 (Int.tmod Arc_e.e3 2)) (Int.tmod (w64 (Arc_e.e4)) (w64 (1 + (w64 (Int.tmod Part_e.States 3))))))] : List ze)), w64 (k_ + 1)) hl2 [Hq (dM vW ([(ze.mk (Int.tmod (w64 (Arc_e.e0)) (w64 (1 + (w64 (Int.tmod Part_e.States 3))))) (Int.tmod Arc_e.e1 3) arc_Channel (w64 (Int.tmod Arc_e.e3 2)) (Int.tmod (w64 (Arc_e.e4)) (w64 (1 + (w64 (Int.tmod Part_e.States 3))))))] : List ze)), Hn (dM vW ([(ze.mk (Int.tmod (w64 (Arc_e.e0)) (w64 (1 + (w64 (Int.tmod Part_e.States 3))))) (Int.tmod Arc_e.e1 3) arc_Channel (w64 (Int.tmod Arc_e.e3 2)) (Int.tmod (w64 (Arc_e.e4)) (w64 (1 + (w64 (Int.tmod Part_e.States 3))))))] : List ze)), Hn (aL vW vW g9), Hl (aM vW p_Arcs1 ([(ze.mk (Int.tmod (w64 (Arc_e.e0)) (w64 (1 + (w64 (Int.tmod Part_e.States 3))))) (Int.tmod Arc_e.e1 3) arc_Channel (w64 (Int.tmod Arc_e.e3 2)) (Int.tmod (w64 (Arc_e.e4)) (w64 (1 + (w64 (Int.tmod Part_e.States 3))))))] : List ze))]
         ·rcases zZ hf2 with ⟨c3, hf2⟩ | ⟨c3, hf2⟩
          ·exact yB X0 hC hJ8 0 hf2 [Hq c3]
          ·exact yB X0 hC hJ8 (w64 (Int.tmod Arc_e.e2 2)) hf2 [Hq c3]
        ·obtain rfl := zl hf2
         obtain rfl := hl2
         exact yB X0 hC hJ5 (w64 (1 + (w64 (Int.tmod Part_e.States 3))), p_Arcs1, p_Final1) hf1 (Z1 ++ [Hq c1, Hq c1, Hq c1, Hq c2])
       ·obtain rfl := zl hf2
        obtain rfl := hl2
        exact yB X0 hC hJ5 (w64 (1 + (w64 (Int.tmod Part_e.States 3))), p_Arcs1, p_Final1) hf1 (Z1 ++ [Hq c1, Hq c1, Hq c1, qF])
      ·obtain ⟨t9, ht9, hf1⟩ := zo hf1
       refine yLx X0 hC xX [1,1,2,1,0,0,1,2,0,1,2,1,0,1,1,2,1,0] [J1, J2, J4, J5, J6] (fun s => kl Part_e s.1 s.2) (fun x => QD x_ out_Parts1 i_ x34 Part_e x.1 x.2) (([] : List Int), 0) ht9 [(1, .own (.box (K6 x_))), (2, .own (.box (.agg [I 0, I 0, eOs 1 true (eI .i64) [], eOs 3 true wH []]))), (3, .own (.box (.agg [I 2, I 2, eOs 1 true (eI .i64) ([w64 (Int.tmod x_.Channels.e0 3), w64 (Int.tmod x_.Channels.e1 3)]), eOs 3 false QO out_Parts1]))), (4, .d (I i_)), (5, .own (.box (.agg [I (w64 (1 + (w64 (Int.tmod Part_e.States 3)))), eOs 5 true vW [], eOs 1 true (eI .i64) []]))), (6, .own (.box (Vw Part_e))), (7, .d (I 0)), (26, .d (I i_)), (28, .d (eSl 3 false Vw x_.Parts)), (29, .d (I ((x_.Parts.length : Nat) : Int))), (30, .d (B (decide (i_ < ((x_.Parts.length : Nat) : Int))))), (31, .d (B (decide (i_ < ((x_.Parts.length : Nat) : Int))))), (34, .d (B x34))] inferInstance [] ?_
       rintro ⟨p_Final2, s_⟩ m9 lr2 hf2 hl2 J9 hJ9
       try unfold kl at hf2
       rcases zZ hf2 with ⟨c4, hf2⟩ | ⟨c4, hf2⟩
       ·refine yJ X0 hC xX [1,1,2,1,0,0,1,2,0,1,2,1,0,1,1,2,1,0,0,1] [J1, J2, J4, J5, J6, J9] [1,2,3,4,5,6,7,26,28,29,30,31,34] (fun z : List Int => jd s_ z = some lr2) (fun z => Q1 x_ out_Parts1 i_ x34 Part_e s_ z) [(1, .own (.box (K6 x_))), (2, .own (.box (.agg [I 0, I 0, eOs 1 true (eI .i64) [], eOs 3 true wH []]))), (3, .own (.box (.agg [I 2, I 2, eOs 1 true (eI .i64) ([w64 (Int.tmod x_.Channels.e0 3), w64 (Int.tmod x_.Channels.e1 3)]), eOs 3 false QO out_Parts1]))), (4, .d (I i_)), (5, .own (.box (.agg [I (w64 (1 + (w64 (Int.tmod Part_e.States 3)))), eOs 5 true vW [], eOs 1 false (eI .i64) p_Final2]))), (6, .own (.box (Vw Part_e))), (7, .d (I s_)), (26, .d (I i_)), (28, .d (eSl 3 false Vw x_.Parts)), (29, .d (I ((x_.Parts.length : Nat) : Int))), (30, .d (B (decide (i_ < ((x_.Parts.length : Nat) : Int))))), (31, .d (B (decide (i_ < ((x_.Parts.length : Nat) : Int))))), (34, .d (B x34))] [Hq c4, Hh (.cut 0)] ?_ fun J10 hJ10 => ?_
        ·rintro p_Final3 hf2
         unfold jd at hf2
         obtain rfl := zl hf2
         exact yB X0 hC hJ9 (p_Final3, w64 (s_ + 1)) hl2 []
        ·obtain ⟨g10, hf2⟩ := gdE hf2
         rcases zZ hf2 with ⟨c5, hf2⟩ | ⟨c5, hf2⟩
         ·obtain ⟨g11, hf2⟩ := gdE hf2
          exact yB ((zdQ Tryz.prog).or ((zdN Tryz.prog).or X0)) hC hJ10 (p_Final2 ++ ([s_] : List Int)) hf2 [Hn g10, Hq c5, Hq (dM (eI .i64) ([s_] : List Int)), Hn (dM (eI .i64) ([s_] : List Int)), Hn (aL (eI .i64) (eI .i64) g11), Hl (aM (eI .i64) p_Final2 ([s_] : List Int))]
         ·exact yB ((zdQ Tryz.prog).or ((zdN Tryz.prog).or X0)) hC hJ10 p_Final2 hf2 [Hn g10, Hq c5]
       ·obtain rfl := zl hf2
        obtain rfl := hl2
        exact yB X0 hC hJ6 p_Final2 hf1 [Hq c4]
     ·exact yBx X0 hC hJ5 (1, ([] : List ze), ([] : List Int)) hf1 [(1, .own (.box (K6 x_))), (2, .own (.box (.agg [I 0, I 0, eOs 1 true (eI .i64) [], eOs 3 true wH []]))), (3, .own (.box (.agg [I 2, I 2, eOs 1 true (eI .i64) ([w64 (Int.tmod x_.Channels.e0 3), w64 (Int.tmod x_.Channels.e1 3)]), eOs 3 false QO out_Parts1]))), (4, .d (I i_)), (5, .own (.box (.agg [I 1, eOs 5 true vW [], eOs 1 true (eI .i64) []]))), (26, .d (I i_)), (28, .d (eSl 3 false Vw x_.Parts)), (29, .d (I ((x_.Parts.length : Nat) : Int))), (30, .d (B (decide (i_ < ((x_.Parts.length : Nat) : Int))))), (31, .d (B (decide (i_ < ((x_.Parts.length : Nat) : Int))))), (34, .d (B x34))] inferInstance (Z0 ++ [Hq c0])
  ·rcases zZ hf1 with ⟨c6, hf1⟩ | ⟨c6, hf1⟩
   ·let Z2 : List HO := (rpN 4 (Hq c6) [Ha (lnM Vw x_.Parts), Hq c6, Hq c6])
    rcases zZ hf1 with ⟨c7, hf1⟩ | ⟨c7, hf1⟩
    ·exact yB X0 hC hJ3 true hf1 (Z2 ++ [Hq c7, Hq c7, Hq c6, Hq c7, Hq c6, qT])
    ·let Z3 : List HO := (Z2 ++ [Hq c7, Hq c7, Hq c6, Hq c7, Hq c6])
     rcases zZ hf1 with ⟨c8, hf1⟩ | ⟨c8, hf1⟩
     ·exact yB X0 hC hJ3 (i_ == 0) hf1 (Z3 ++ [Hq c8])
     ·obtain rfl := zl hf1
      obtain rfl := hl1
      exact yB X0 hC hJ1 out_Parts1 hf0 (Z3 ++ [Hq c8])
   ·obtain rfl := zl hf1
    obtain rfl := hl1
    exact yB X0 hC hJ1 out_Parts1 hf0 (rpN 8 (Hq c6) [qF])
def Kg : Code := (Tryz.f25.body).getD .skip
def Yo : yU := spF (α := z8) (ρ := z7) 25 (fun x => [yV x]) (fun r => Kj r) (fun x => ZK x) [] (Qp)
theorem KR {ctr : Ctr} (hC : zT Tryz.prog ctr) : Yo.Ok Tryz.prog := by
 refine y4 ?_
 rintro x_ r0 hf0
 try unfold ZK at hf0
 refine yO false [(2, some 39)] Kg 12 Tryz.func25 fun E hE => ?_
 obtain ⟨g0, hf0⟩ := gdE hf0
 obtain ⟨g1, hf0⟩ := gdE hf0
 obtain rfl := zl hf0
 exact yE X0 hC hE [Ha (lnM wH x_.Parts), Hn (rL g0), Ha (rM 1 (eI .i64) ((x_.Parts.length : Nat) : Int) (0 : Int)), Ha (lnM (eI .i64) x_.Channels), Hn (rL g1), Ha (rM 1 (eOs 1 true (eI .i64)) ((x_.Channels.length : Nat) : Int) ([] : List Int)), Hm (shM (eI .i64) (eI .i64) (List.replicate ((x_.Parts.length : Nat) : Int).toNat (0 : Int))), Hm (shM (eOs 1 true (eI .i64)) F1_ (List.replicate ((x_.Channels.length : Nat) : Int).toNat ([] : List Int)))]
def uG : Code := (Tryz.f59.body).getD .skip
def X7 : yU := spF (α := z7 × Int × Int × Int × List Int) (ρ := z7) 59 (fun x => [xh x.1, (eI .i64) x.2.1, (eI .i64) x.2.2.1, (eI .i64) x.2.2.2.1, F2_ x.2.2.2.2]) (fun r => xh r) (fun x => qQ x.1 x.2.1 x.2.2.1 x.2.2.2.1 x.2.2.2.2) [] (zfB)
abbrev Qz (out_States : List Int) (out_Queues : List (List Int)) : List (Nat × T) := [(10, .own (.box (.agg [eOs 1 true (eI .i64) [], eOs 1 true F2_ []]))), (11, .own (.box (.agg [eOs 1 false (eI .i64) out_States, eOs 1 false F2_ out_Queues])))]
abbrev Qy (c_ : z7) (channel : Int) (queue : List Int) (out_States : List Int) (out_Queues1 : List (List Int)) (i_ : Int) (q_ : List Int) : List (Nat × T) := [(3, .d (I channel)), (4, .d (eSl 1 false (eI .i64) queue)), (5, .own (.box (xh c_))), (10, .own (.box (.agg [eOs 1 true (eI .i64) [], eOs 1 true F2_ []]))), (11, .own (.box (.agg [eOs 1 false (eI .i64) out_States, eOs 1 false F2_ out_Queues1]))), (14, .d (I i_)), (15, .d (eSl 1 false (eI .i64) q_))]
abbrev Qw (c_ : z7) (channel : Int) (queue : List Int) (out_States : List Int) (out_Queues1 : List (List Int)) (i_ : Int) : List (Nat × T) := [(3, .d (I channel)), (4, .d (eSl 1 false (eI .i64) queue)), (5, .own (.box (xh c_))), (10, .own (.box (.agg [eOs 1 true (eI .i64) [], eOs 1 true F2_ []]))), (11, .own (.box (.agg [eOs 1 false (eI .i64) out_States, eOs 1 false F2_ out_Queues1]))), (14, .d (I i_))]
abbrev QA (c_ : z7) (channel : Int) (queue : List Int) (out_States : List Int) : List (Nat × T) := [(3, .d (I channel)), (4, .d (eSl 1 false (eI .i64) queue)), (5, .own (.box (xh c_))), (10, .own (.box (.agg [eOs 1 true (eI .i64) [], eOs 1 true F2_ []]))), (11, .own (.box (.agg [eOs 1 false (eI .i64) out_States, eOs 1 true F2_ []])))]
abbrev Qx (c_ : z7) (part : Int) (state : Int) (channel : Int) (queue : List Int) (out_States1 : List Int) (i_1 : Int) (n_ : Int) : List (Nat × T) := [(1, .d (I part)), (2, .d (I state)), (3, .d (I channel)), (4, .d (eSl 1 false (eI .i64) queue)), (5, .own (.box (xh c_))), (10, .own (.box (.agg [eOs 1 true (eI .i64) [], eOs 1 true F2_ []]))), (11, .own (.box (.agg [eOs 1 false (eI .i64) out_States1, eOs 1 true F2_ []]))), (12, .d (I i_1)), (13, .d (I n_))]
abbrev Qv (c_ : z7) (part : Int) (state : Int) (channel : Int) (queue : List Int) (out_States1 : List Int) (i_1 : Int) : List (Nat × T) := [(1, .d (I part)), (2, .d (I state)), (3, .d (I channel)), (4, .d (eSl 1 false (eI .i64) queue)), (5, .own (.box (xh c_))), (10, .own (.box (.agg [eOs 1 true (eI .i64) [], eOs 1 true F2_ []]))), (11, .own (.box (.agg [eOs 1 false (eI .i64) out_States1, eOs 1 true F2_ []]))), (12, .d (I i_1))]
theorem z0D {ctr : Ctr} (hC : zT Tryz.prog ctr) : X7.Ok Tryz.prog := by
 refine y4 ?_
 rintro ⟨c_, part, state, channel, queue⟩ r0 hf0
 try unfold qQ at hf0
 refine yO false [(10, some 39)] uG 61 Tryz.func59 fun E hE => ?_
 refine yJ X0 hC uG [1,1] [] [3,4,5,10,11] (fun z : List Int => Zq c_ channel queue z = some r0) (fun z => QA c_ channel queue z) [(1, .d (I part)), (2, .d (I state)), (3, .d (I channel)), (4, .d (eSl 1 false (eI .i64) queue)), (5, .own (.box (xh c_))), (10, .own (.box (.agg [eOs 1 true (eI .i64) [], eOs 1 true F2_ []]))), (11, .own (.box (.agg [eOs 1 true (eI .i64) [], eOs 1 true F2_ []])))] [Hh (.cut 2)] ?_ fun J1 hJ1 => ?_
 ·rintro out_States hf0
  unfold Zq at hf0
  refine yJ X0 hC uG [1,1,1] [] [10,11] (fun z : List (List Int) => Xh out_States z = some r0) (fun z => Qz out_States z) [(3, .d (I channel)), (4, .d (eSl 1 false (eI .i64) queue)), (5, .own (.box (xh c_))), (10, .own (.box (.agg [eOs 1 true (eI .i64) [], eOs 1 true F2_ []]))), (11, .own (.box (.agg [eOs 1 false (eI .i64) out_States, eOs 1 true F2_ []])))] [Hh (.cut 0)] ?_ fun J2 hJ2 => ?_
  ·rintro out_Queues hf0
   unfold Xh at hf0
   obtain rfl := zl hf0
   exact yE X0 hC hE [Hm (shM (eI .i64) (eI .i64) out_States), Hm (shM F2_ F2_ out_Queues)]
  ·obtain ⟨t3, ht3, hf0⟩ := zo hf0
   refine yLx X0 hC uG [1,1,1,2,1,0] [J2] (fun s => qP c_ channel queue s.1 s.2) (fun x => Qw c_ channel queue out_States x.1 x.2) (([] : List (List Int)), 0) ht3 [(3, .d (I channel)), (4, .d (eSl 1 false (eI .i64) queue)), (5, .own (.box (xh c_))), (10, .own (.box (.agg [eOs 1 true (eI .i64) [], eOs 1 true F2_ []]))), (11, .own (.box (.agg [eOs 1 false (eI .i64) out_States, eOs 1 true F2_ []]))), (14, .d (I 0))] inferInstance [] ?_
   rintro ⟨out_Queues1, i_⟩ m3 lr1 hf1 hl1 J3 hJ3
   try unfold qP at hf1
   let Z0 : List HO := [Ha (lnM F2_ c_.Queues)]
   rcases zZ hf1 with ⟨c0, hf1⟩ | ⟨c0, hf1⟩
   ·obtain ⟨Queue_e, h0, hf1⟩ := zo hf1
    refine yJ X0 hC uG [1,1,1,2,1,0,0,1,0,0,1] [J2, J3] [3,4,5,10,11,14,15] (fun z : List Int => ki out_Queues1 i_ z = some lr1) (fun z => Qy c_ channel queue out_States out_Queues1 i_ z) [(3, .d (I channel)), (4, .d (eSl 1 false (eI .i64) queue)), (5, .own (.box (xh c_))), (10, .own (.box (.agg [eOs 1 true (eI .i64) [], eOs 1 true F2_ []]))), (11, .own (.box (.agg [eOs 1 false (eI .i64) out_States, eOs 1 false F2_ out_Queues1]))), (14, .d (I i_)), (15, .d (eSl 1 false (eI .i64) Queue_e))] (Z0 ++ [Hq c0, Hi F2_ h0, Hh (.cut 0)]) ?_ fun J4 hJ4 => ?_
    ·rintro q_ hf1
     unfold ki at hf1
     obtain ⟨g0, hf1⟩ := gdE hf1
     obtain rfl := zl hf1
     exact yB X0 hC hJ3 ((out_Queues1 ++ ([q_] : List (List Int))), w64 (i_ + 1)) hl1 [Hq (dM F2_ ([q_] : List (List Int))), Hn (dM F2_ ([q_] : List (List Int))), Hn (aL F2_ F2_ g0), Hl (aM F2_ out_Queues1 ([q_] : List (List Int)))]
    ·rcases zZ hf1 with ⟨c1, hf1⟩ | ⟨c1, hf1⟩
     ·exact yB X0 hC hJ4 queue hf1 [Hq c1]
     ·exact yB X0 hC hJ4 Queue_e hf1 [Hq c1]
   ·obtain rfl := zl hf1
    obtain rfl := hl1
    exact yB X0 hC hJ2 out_Queues1 hf0 (Z0 ++ [Hq c0])
 ·obtain ⟨t5, ht5, hf0⟩ := zo hf0
  refine yLx X0 hC uG [1,1,2,1,0] [J1] (fun s => qO c_ part state s.1 s.2) (fun x => Qv c_ part state channel queue x.1 x.2) (([] : List Int), 0) ht5 [(1, .d (I part)), (2, .d (I state)), (3, .d (I channel)), (4, .d (eSl 1 false (eI .i64) queue)), (5, .own (.box (xh c_))), (10, .own (.box (.agg [eOs 1 true (eI .i64) [], eOs 1 true F2_ []]))), (11, .own (.box (.agg [eOs 1 true (eI .i64) [], eOs 1 true F2_ []]))), (12, .d (I 0))] inferInstance [] ?_
  rintro ⟨out_States1, i_1⟩ m5 lr1 hf1 hl1 J5 hJ5
  try unfold qO at hf1
  let Z1 : List HO := [Ha (lnM (eI .i64) c_.States)]
  rcases zZ hf1 with ⟨c2, hf1⟩ | ⟨c2, hf1⟩
  ·obtain ⟨State_e, h1, hf1⟩ := zo hf1
   refine yJ X0 hC uG [1,1,2,1,0,0,1,0,0,1] [J1, J5] [1,2,3,4,5,10,11,12,13] (fun z : Int => kh out_States1 i_1 z = some lr1) (fun z => Qx c_ part state channel queue out_States1 i_1 z) [(1, .d (I part)), (2, .d (I state)), (3, .d (I channel)), (4, .d (eSl 1 false (eI .i64) queue)), (5, .own (.box (xh c_))), (10, .own (.box (.agg [eOs 1 true (eI .i64) [], eOs 1 true F2_ []]))), (11, .own (.box (.agg [eOs 1 false (eI .i64) out_States1, eOs 1 true F2_ []]))), (12, .d (I i_1)), (13, .d (I State_e))] (Z1 ++ [Hq c2, Hi (eI .i64) h1, Hh (.cut 0)]) ?_ fun J6 hJ6 => ?_
   ·rintro n_ hf1
    unfold kh at hf1
    obtain ⟨g1, hf1⟩ := gdE hf1
    obtain rfl := zl hf1
    exact yB X0 hC hJ5 ((out_States1 ++ ([n_] : List Int)), w64 (i_1 + 1)) hl1 [Hq (dM (eI .i64) ([n_] : List Int)), Hn (dM (eI .i64) ([n_] : List Int)), Hn (aL (eI .i64) (eI .i64) g1), Hl (aM (eI .i64) out_States1 ([n_] : List Int))]
   ·rcases zZ hf1 with ⟨c3, hf1⟩ | ⟨c3, hf1⟩
    ·exact yB X0 hC hJ6 state hf1 [Hq c3]
    ·exact yB X0 hC hJ6 State_e hf1 [Hq c3]
  ·obtain rfl := zl hf1
   obtain rfl := hl1
   exact yB X0 hC hJ1 out_States1 hf0 (Z1 ++ [Hq c2])
def xe : Code := (Tryz.f23.body).getD .skip
def kG : yU := spF (α := z8 × z7) (ρ := List zh) 23 (fun x => [yV x.1, xh x.2]) (fun r => (eOs 6 false qA) r) (fun x => kC x.1 x.2) [] (Uu)
abbrev UJ (out : List zh) : List (Nat × T) := [(5, .own (eOs 6 false qA out))]
abbrev UI (x_ : z8) (c_ : z7) (p_ : Int) (out2 : List zh) : List (Nat × T) := [(2, .own (.box (yV x_))), (3, .own (.box (xh c_))), (5, .own (eOs 6 false qA out2)), (6, .d (I p_))]
abbrev UH (x_ : z8) (c_ : z7) (p_ : Int) (i_ : Int) (out4 : List zh) : List (Nat × T) := [(2, .own (.box (yV x_))), (3, .own (.box (xh c_))), (5, .own (eOs 6 false qA out4)), (6, .d (I p_)), (7, .d (I i_))]
abbrev UE (x_ : z8) (c_ : z7) (p_ : Int) (i_ : Int) (Arc_e : ze) (Channel_e : Int) (o_ : Int) (out8 : List zh) : List (Nat × T) := [(2, .own (.box (yV x_))), (3, .own (.box (xh c_))), (5, .own (eOs 6 false qA out8)), (6, .d (I p_)), (7, .d (I i_)), (8, .own (.box (vW Arc_e))), (11, .d (I Channel_e)), (12, .d (I o_)), (143, .d (.atom (.int .u8 Arc_e.Kind))), (144, .d (B (Arc_e.Kind == 1))), (147, .d (I Channel_e)), (148, .d (B (Channel_e == 0)))]
abbrev VX (x_ : z8) (c_ : z7) (p_ : Int) (i_ : Int) (Arc_e : ze) (Channel_e : Int) (o_ : Int) (k_ : Int) (out10 : List zh) : List (Nat × T) := [(2, .own (.box (yV x_))), (3, .own (.box (xh c_))), (5, .own (eOs 6 false qA out10)), (6, .d (I p_)), (7, .d (I i_)), (8, .own (.box (vW Arc_e))), (11, .d (I Channel_e)), (12, .d (I o_)), (13, .d (I k_)), (143, .d (.atom (.int .u8 Arc_e.Kind))), (144, .d (B (Arc_e.Kind == 1))), (147, .d (I Channel_e)), (148, .d (B (Channel_e == 0))), (162, .d (I o_)), (163, .d (I p_)), (164, .d (B (o_ != p_)))]
abbrev VW (x_ : z8) (c_ : z7) (p_ : Int) (i_ : Int) (Arc_e : ze) (Channel_e : Int) (o_ : Int) (out9 : List zh) (k_ : Int) : List (Nat × T) := [(2, .own (.box (yV x_))), (3, .own (.box (xh c_))), (5, .own (eOs 6 false qA out9)), (6, .d (I p_)), (7, .d (I i_)), (8, .own (.box (vW Arc_e))), (11, .d (I Channel_e)), (12, .d (I o_)), (13, .d (I k_)), (143, .d (.atom (.int .u8 Arc_e.Kind))), (144, .d (B (Arc_e.Kind == 1))), (147, .d (I Channel_e)), (148, .d (B (Channel_e == 0)))]
abbrev UB (x_ : z8) (c_ : z7) (p_ : Int) (i_ : Int) (Arc_e : ze) (Channel_e : Int) (out7 : List zh) (o_ : Int) : List (Nat × T) := [(2, .own (.box (yV x_))), (3, .own (.box (xh c_))), (5, .own (eOs 6 false qA out7)), (6, .d (I p_)), (7, .d (I i_)), (8, .own (.box (vW Arc_e))), (11, .d (I Channel_e)), (12, .d (I o_))]
abbrev UF (x_ : z8) (c_ : z7) (p_ : Int) (i_ : Int) (Arc_e : ze) (Channel_e : Int) (out6 : List zh) : List (Nat × T) := [(2, .own (.box (yV x_))), (3, .own (.box (xh c_))), (5, .own (eOs 6 false qA out6)), (6, .d (I p_)), (7, .d (I i_)), (8, .own (.box (vW Arc_e))), (11, .d (I Channel_e))]
abbrev UG (x_ : z8) (c_ : z7) (p_ : Int) (i_ : Int) (Arc_e : ze) (Queue_e : List Int) (Channel_e : Int) (out5 : List zh) : List (Nat × T) := [(2, .own (.box (yV x_))), (3, .own (.box (xh c_))), (5, .own (eOs 6 false qA out5)), (6, .d (I p_)), (7, .d (I i_)), (8, .own (.box (vW Arc_e))), (9, .own (.box (.agg [I p_, I i_, I (-1), I (-1)]))), (10, .d (eSl 1 false (eI .i64) Queue_e)), (11, .d (I Channel_e))]
abbrev UC (x_ : z8) (c_ : z7) (p_ : Int) (out3 : List zh) (i_ : Int) : List (Nat × T) := [(2, .own (.box (yV x_))), (3, .own (.box (xh c_))), (5, .own (eOs 6 false qA out3)), (6, .d (I p_)), (7, .d (I i_))]
abbrev UD (x_ : z8) (c_ : z7) (out1 : List zh) (p_ : Int) : List (Nat × T) := [(2, .own (.box (yV x_))), (3, .own (.box (xh c_))), (5, .own (eOs 6 false qA out1)), (6, .d (I p_))]
theorem KP {ctr : Ctr} (hC : zT Tryz.prog ctr) (h0a : ctr.Has X7) : kG.Ok Tryz.prog := by
 refine y4 ?_
 rintro ⟨x_, c_⟩ r0 hf0
 try unfold kC at hf0
 refine yO true [(4, none)] xe 223 Tryz.func23 fun E hE => ?_
 refine yJ X0 hC xe [1,1] [] [5] (fun z : List zh => Ys z = some r0) (fun z => UJ z) [(2, .own (.box (yV x_))), (3, .own (.box (xh c_))), (5, .own (eOs 6 true qA []))] [Hh (.cut 2)] ?_ fun J1 hJ1 => ?_
 ·rintro out hf0
  unfold Ys at hf0
  obtain rfl := zl hf0
  exact yE X0 hC hE []
 ·obtain ⟨t2, ht2, hf0⟩ := zo hf0
  refine yLx X0 hC xe [1,1,2,1,0] [J1] (fun s => uT x_ c_ s.1 s.2) (fun x => UD x_ c_ x.1 x.2) (([] : List zh), 0) ht2 [(2, .own (.box (yV x_))), (3, .own (.box (xh c_))), (5, .own (eOs 6 true qA [])), (6, .d (I 0))] inferInstance [] ?_
  rintro ⟨out1, p_⟩ m2 lr1 hf1 hl1 J2 hJ2
  try unfold uT at hf1
  let Z0 : List HO := [Ha (lnM wH x_.Parts)]
  rcases zZ hf1 with ⟨c0, hf1⟩ | ⟨c0, hf1⟩
  ·refine yJ X0 hC xe [1,1,2,1,0,0,1] [J1, J2] [2,3,5,6] (fun z : List zh => kI p_ z = some lr1) (fun z => UI x_ c_ p_ z) [(2, .own (.box (yV x_))), (3, .own (.box (xh c_))), (5, .own (eOs 6 false qA out1)), (6, .d (I p_))] (Z0 ++ [Hq c0, Hh (.cut 0)]) ?_ fun J3 hJ3 => ?_
   ·rintro out2 hf1
    unfold kI at hf1
    obtain rfl := zl hf1
    exact yB X0 hC hJ2 (out2, w64 (p_ + 1)) hl1 []
   ·obtain ⟨t4, ht4, hf1⟩ := zo hf1
    refine yL X0 hC xe [1,1,2,1,0,0,1,2,0,1,0] [J1, J2, J3] (fun s => uS x_ c_ p_ s.1 s.2) (fun x => UC x_ c_ p_ x.1 x.2) (out1,0) ht4  [] ?_
    rintro ⟨out3, i_⟩ m4 lr2 hf2 hl2 J4 hJ4
    try unfold uS at hf2
    obtain ⟨Part_e, h0, hf2⟩ := zo hf2
    let Z1 : List HO := [Hi wH h0, Ha (lnM vW Part_e.Arcs)]
    rcases zZ hf2 with ⟨c1, hf2⟩ | ⟨c1, hf2⟩
    ·refine yJ X0 hC xe [1,1,2,1,0,0,1,2,0,1,0,0,1] [J1, J2, J3, J4] [2,3,5,6,7] (fun z : List zh => vM i_ z = some lr2) (fun z => UH x_ c_ p_ i_ z) [(2, .own (.box (yV x_))), (3, .own (.box (xh c_))), (5, .own (eOs 6 false qA out3)), (6, .d (I p_)), (7, .d (I i_))] (Z1 ++ [Hq c1, Hh (.cut 0)]) ?_ fun J5 hJ5 => ?_
     ·rintro out4 hf2
      unfold vM at hf2
      obtain rfl := zl hf2
      exact yB X0 hC hJ4 (out4, w64 (i_ + 1)) hl2 []
     ·obtain ⟨Part_e1, h1, hf2⟩ := zo hf2
      obtain ⟨Arc_e, h2, hf2⟩ := zo hf2
      obtain ⟨State_e, h3, hf2⟩ := zo hf2
      let Z2 : List HO := [Hi wH h1, Hi vW h2, Hi (eI .i64) h3]
      rcases zZ hf2 with ⟨c2, hf2⟩ | ⟨c2, hf2⟩
      ·exact yB X0 hC hJ5 out3 hf2 (Z2 ++ [Hq c2])
      ·rcases zZ hf2 with ⟨c3, hf2⟩ | ⟨c3, hf2⟩
       ·obtain ⟨r_, h4, hf2⟩ := zo hf2
        obtain ⟨g0, hf2⟩ := gdE hf2
        exact yB X0 hC hJ5 (out3 ++ ([(zh.mk (za.mk p_ i_ (-1) (-1)) r_)] : List zh)) hf2 (Z2 ++ [Hq c2, Hq c3, Hc h0a (x := (c_, p_, Arc_e.To, (-1), [])) h4 (loC xh c_ <| loC (eI .i64) p_ <| loC (eI .i64) Arc_e.To <| loC (eI .i64) (-1) <| loC F1_ ([] : List Int) <| loN), Hq (dM qA ([(zh.mk (za.mk p_ i_ (-1) (-1)) r_)] : List zh)), Hn (dM qA ([(zh.mk (za.mk p_ i_ (-1) (-1)) r_)] : List zh)), Hn (aL qA qA g0), Hl (aM qA out3 ([(zh.mk (za.mk p_ i_ (-1) (-1)) r_)] : List zh))])
       ·obtain ⟨Queue_e, h5, hf2⟩ := zo hf2
        obtain ⟨Channel_e, h6, hf2⟩ := zo hf2
        refine yJ X0 hC xe [1,1,2,1,0,0,1,2,0,1,0,0,1,2,0,1,1,1,1,1] [J1, J2, J3, J4, J5] [2,3,5,6,7,8,9,10,11] (fun z : List zh => wV x_ c_ p_ i_ Arc_e Queue_e Channel_e z = some lr2) (fun z => UG x_ c_ p_ i_ Arc_e Queue_e Channel_e z) [(2, .own (.box (yV x_))), (3, .own (.box (xh c_))), (5, .own (eOs 6 false qA out3)), (6, .d (I p_)), (7, .d (I i_)), (8, .own (.box (vW Arc_e))), (9, .own (.box (.agg [I p_, I i_, I (-1), I (-1)]))), (10, .d (eSl 1 false (eI .i64) Queue_e)), (11, .d (I Channel_e))] (Z2 ++ [Hq c2, Hq c3, Hi F2_ h5, Hi (eI .i64) h6, Hh (.cut 0)]) ?_ fun J6 hJ6 => ?_
        ·rintro out5 hf2
         unfold wV at hf2
         refine yJ X0 hC xe [1,1,2,1,0,0,1,2,0,1,0,0,1,2,0,1,1,1,1,1,1] [J1, J2, J3, J4, J5] [2,3,5,6,7,8,11] (fun z : List zh => ws x_ c_ p_ i_ Arc_e Channel_e z = some lr2) (fun z => UF x_ c_ p_ i_ Arc_e Channel_e z) [(2, .own (.box (yV x_))), (3, .own (.box (xh c_))), (5, .own (eOs 6 false qA out5)), (6, .d (I p_)), (7, .d (I i_)), (8, .own (.box (vW Arc_e))), (9, .own (.box (.agg [I p_, I i_, I (-1), I (-1)]))), (10, .d (eSl 1 false (eI .i64) Queue_e)), (11, .d (I Channel_e))] [Hh (.cut 0)] ?_ fun J7 hJ7 => ?_
         ·rintro out6 hf2
          unfold ws at hf2
          obtain ⟨t8, ht8, hf2⟩ := zo hf2
          refine yL X0 hC xe [1,1,2,1,0,0,1,2,0,1,0,0,1,2,0,1,1,1,1,1,1,1,1,0] [J1, J2, J3, J4, J5] (fun s => wr x_ c_ p_ i_ Arc_e Channel_e s.1 s.2) (fun x => UB x_ c_ p_ i_ Arc_e Channel_e x.1 x.2) (out6,0) ht8  [] ?_
          rintro ⟨out7, o_⟩ m8 lr3 hf3 hl3 J8 hJ8
          try unfold wr at hf3
          let Z3 : List HO := [Ha (lnM wH x_.Parts)]
          rcases zZ hf3 with ⟨c4, hf3⟩ | ⟨c4, hf3⟩
          ·let Z4 : List HO := (Z3 ++ (rpN 4 (Hq c4) []))
           rcases zZ hf3 with ⟨c5, hf3⟩ | ⟨c5, hf3⟩
           ·rcases zZ hf3 with ⟨c6, hf3⟩ | ⟨c6, hf3⟩
            ·refine yJ X0 hC xe [1,1,2,1,0,0,1,2,0,1,0,0,1,2,0,1,1,1,1,1,1,1,1,0,0,1] [J1, J2, J3, J4, J5, J8] [2,3,5,6,7,8,11,12,143,144,147,148] (fun z : List zh => kH o_ z = some lr3) (fun z => UE x_ c_ p_ i_ Arc_e Channel_e o_ z) [(2, .own (.box (yV x_))), (3, .own (.box (xh c_))), (5, .own (eOs 6 false qA out7)), (6, .d (I p_)), (7, .d (I i_)), (8, .own (.box (vW Arc_e))), (11, .d (I Channel_e)), (12, .d (I o_)), (143, .d (.atom (.int .u8 Arc_e.Kind))), (144, .d (B (Arc_e.Kind == 1))), (147, .d (I Channel_e)), (148, .d (B (Channel_e == 0)))] (Z4 ++ [Hq c5, Hq c5, Hq c5, Hq c6, Hh (.cut 0)]) ?_ fun J9 hJ9 => ?_
             ·rintro out8 hf3
              unfold kH at hf3
              obtain rfl := zl hf3
              exact yB X0 hC hJ8 (out8, w64 (o_ + 1)) hl3 []
             ·obtain ⟨t10, ht10, hf3⟩ := zo hf3
              refine yL X0 hC xe [1,1,2,1,0,0,1,2,0,1,0,0,1,2,0,1,1,1,1,1,1,1,1,0,0,1,2,0,1,0] [J1, J2, J3, J4, J5, J8, J9] (fun s => wx x_ c_ p_ i_ Arc_e o_ s.1 s.2) (fun x => VW x_ c_ p_ i_ Arc_e Channel_e o_ x.1 x.2) (out7,0) ht10  [] ?_
              rintro ⟨out9, k_⟩ m10 lr4 hf4 hl4 J10 hJ10
              try unfold wx at hf4
              obtain ⟨Part_e2, h7, hf4⟩ := zo hf4
              let Z5 : List HO := [Hi wH h7, Ha (lnM vW Part_e2.Arcs)]
              rcases zZ hf4 with ⟨c7, hf4⟩ | ⟨c7, hf4⟩
              ·let Z6 : List HO := (Z5 ++ (rpN 4 (Hq c7) []))
               rcases zZ hf4 with ⟨c8, hf4⟩ | ⟨c8, hf4⟩
               ·refine yJ X0 hC xe [1,1,2,1,0,0,1,2,0,1,0,0,1,2,0,1,1,1,1,1,1,1,1,0,0,1,2,0,1,0,0,1] [J1, J2, J3, J4, J5, J8, J9, J10] [2,3,5,6,7,8,11,12,13,143,144,147,148,162,163,164] (fun z : List zh => wy k_ z = some lr4) (fun z => VX x_ c_ p_ i_ Arc_e Channel_e o_ k_ z) [(2, .own (.box (yV x_))), (3, .own (.box (xh c_))), (5, .own (eOs 6 false qA out9)), (6, .d (I p_)), (7, .d (I i_)), (8, .own (.box (vW Arc_e))), (11, .d (I Channel_e)), (12, .d (I o_)), (13, .d (I k_)), (143, .d (.atom (.int .u8 Arc_e.Kind))), (144, .d (B (Arc_e.Kind == 1))), (147, .d (I Channel_e)), (148, .d (B (Channel_e == 0))), (162, .d (I o_)), (163, .d (I p_)), (164, .d (B (o_ != p_)))] (Z6 ++ [Hq c8, Hh (.cut 0)]) ?_ fun J11 hJ11 => ?_
                ·rintro out10 hf4
                 unfold wy at hf4
                 obtain rfl := zl hf4
                 exact yB X0 hC hJ10 (out10, w64 (k_ + 1)) hl4 []
                ·obtain ⟨Part_e3, h8, hf4⟩ := zo hf4
                 obtain ⟨Arc_e1, h9, hf4⟩ := zo hf4
                 let Z7 : List HO := [Hi wH h8, Hi vW h9]
                 rcases zZ hf4 with ⟨c9, hf4⟩ | ⟨c9, hf4⟩
                 ·obtain ⟨State_e1, h10, hf4⟩ := zo hf4
                  let Z8 : List HO := (Z7 ++ (rpN 6 (Hq c9) [Hi (eI .i64) h10, Hq c9, Hq c9, Hq c9]))
                  rcases zZ hf4 with ⟨c10, hf4⟩ | ⟨c10, hf4⟩
                  ·let Z9 : List HO := (Z8 ++ (rpN 6 (Hq c10) []))
                   rcases zZ hf4 with ⟨c11, hf4⟩ | ⟨c11, hf4⟩
                   ·let Z10 : List HO := (Z9 ++ (rpN 6 (Hq c11) []))
                    rcases zZ hf4 with ⟨c12, hf4⟩ | ⟨c12, hf4⟩
                    ·obtain ⟨r_1, h11, hf4⟩ := zo hf4
                     obtain ⟨r_2, h12, hf4⟩ := zo hf4
                     obtain ⟨g1, hf4⟩ := gdE hf4
                     exact yB X0 hC hJ11 (out9 ++ ([(zh.mk (za.mk p_ i_ o_ k_) r_2)] : List zh)) hf4 (Z10 ++ [Hq c12, Hc h0a (x := (c_, p_, Arc_e.To, (-1), [])) h11 (loC xh c_ <| loC (eI .i64) p_ <| loC (eI .i64) Arc_e.To <| loC (eI .i64) (-1) <| loC F1_ ([] : List Int) <| loN), Hc h0a (x := (r_1, o_, Arc_e1.To, (-1), [])) h12 (loC xh r_1 <| loC (eI .i64) o_ <| loC (eI .i64) Arc_e1.To <| loC (eI .i64) (-1) <| loC F1_ ([] : List Int) <| loN), Hq (dM qA ([(zh.mk (za.mk p_ i_ o_ k_) r_2)] : List zh)), Hn (dM qA ([(zh.mk (za.mk p_ i_ o_ k_) r_2)] : List zh)), Hn (aL qA qA g1), Hl (aM qA out9 ([(zh.mk (za.mk p_ i_ o_ k_) r_2)] : List zh))])
                    ·exact yB X0 hC hJ11 out9 hf4 (Z10 ++ [Hq c12])
                   ·exact yB X0 hC hJ11 out9 hf4 (Z9 ++ (rpN 6 (Hq c11) [qF]))
                  ·exact yB X0 hC hJ11 out9 hf4 (Z8 ++ (rpN 6 (Hq c10) (rpN 7 qF [])))
                 ·exact yB X0 hC hJ11 out9 hf4 (Z7 ++ (rpN 9 (Hq c9) (rpN 13 qF [])))
               ·obtain rfl := zl hf4
                obtain rfl := hl4
                exact yB X0 hC hJ9 out9 hf3 (Z6 ++ [Hq c8])
              ·obtain rfl := zl hf4
               obtain rfl := hl4
               exact yB X0 hC hJ9 out9 hf3 (Z5 ++ (rpN 4 (Hq c7) [qF]))
            ·obtain rfl := zl hf3
             obtain rfl := hl3
             exact yB X0 hC hJ5 out7 hf2 (Z4 ++ [Hq c5, Hq c5, Hq c5, Hq c6])
           ·obtain rfl := zl hf3
            obtain rfl := hl3
            exact yB X0 hC hJ5 out7 hf2 (Z4 ++ [Hq c5, Hq c5, Hq c5, qF])
          ·obtain rfl := zl hf3
           obtain rfl := hl3
           exact yB X0 hC hJ5 out7 hf2 (Z3 ++ (rpN 4 (Hq c4) (rpN 4 qF [])))
         ·rcases zZ hf2 with ⟨c13, hf2⟩ | ⟨c13, hf2⟩
          ·let Z11 : List HO := [Hq c13, Hq c13, Ha (lnM (eI .i64) Queue_e), Hq c13, Hq c13]
           rcases zZ hf2 with ⟨c14, hf2⟩ | ⟨c14, hf2⟩
           ·obtain ⟨Queue_e_e, h13, hf2⟩ := zo hf2
            let Z12 : List HO := (Z11 ++ (Hq c14 :: Hq c14 :: Hi (eI .i64) h13 :: (rpN 5 (Hq c14) [])))
            rcases zZ hf2 with ⟨c15, hf2⟩ | ⟨c15, hf2⟩
            ·obtain ⟨g2, hf2⟩ := gdE hf2
             obtain ⟨r_3, h14, hf2⟩ := zo hf2
             obtain ⟨g3, hf2⟩ := gdE hf2
             exact yB X0 hC hJ7 (out5 ++ ([(zh.mk (za.mk p_ i_ (-1) (-1)) r_3)] : List zh)) hf2 (Z12 ++ [Hq c15, Hn (slA g2), Hn (zcr (eI .i64) g2), Ha (slE 1 false (eI .i64) Queue_e (1 : Int).toNat), Hc h0a (x := (c_, p_, Arc_e.To, Arc_e.Channel, (Queue_e.drop (1 : Int).toNat))) h14 (loC xh c_ <| loC (eI .i64) p_ <| loC (eI .i64) Arc_e.To <| loC (eI .i64) Arc_e.Channel <| loC F2_ (Queue_e.drop (1 : Int).toNat) <| loN), Hq (dM qA ([(zh.mk (za.mk p_ i_ (-1) (-1)) r_3)] : List zh)), Hn (dM qA ([(zh.mk (za.mk p_ i_ (-1) (-1)) r_3)] : List zh)), Hn (aL qA qA g3), Hl (aM qA out5 ([(zh.mk (za.mk p_ i_ (-1) (-1)) r_3)] : List zh))])
            ·exact yB X0 hC hJ7 out5 hf2 (Z12 ++ [Hq c15])
           ·exact yB X0 hC hJ7 out5 hf2 (Z11 ++ (rpN 7 (Hq c14) [qF]))
          ·exact yB X0 hC hJ7 out5 hf2 (rpN 4 (Hq c13) (rpN 8 qF []))
        ·rcases zZ hf2 with ⟨c16, hf2⟩ | ⟨c16, hf2⟩
         ·let Z13 : List HO := [Hq c16, Hq c16, Ha (lnM (eI .i64) Queue_e), Hq c16, Hq c16, Hq c16]
          rcases zZ hf2 with ⟨c17, hf2⟩ | ⟨c17, hf2⟩
          ·obtain ⟨g4, hf2⟩ := gdE hf2
           obtain ⟨g5, hf2⟩ := gdE hf2
           obtain ⟨r_4, h15, hf2⟩ := zo hf2
           obtain ⟨g6, hf2⟩ := gdE hf2
           exact yB X0 hC hJ6 (out3 ++ ([(zh.mk (za.mk p_ i_ (-1) (-1)) r_4)] : List zh)) hf2 (Z13 ++ [Hq c17, Hn (dM (eI .i64) Queue_e), Hn (aL (eI .i64) (eI .i64) g4), Hl (aM0 (eI .i64) Queue_e), Hq (dM (eI .i64) ([Arc_e.Message] : List Int)), Hn (dM (eI .i64) ([Arc_e.Message] : List Int)), Hn (aL (eI .i64) (eI .i64) g5), Hl (aM (eI .i64) Queue_e ([Arc_e.Message] : List Int)), Hg (z1v h0a), Hm (shM (eI .i64) (eI .i64) (Queue_e ++ ([Arc_e.Message] : List Int))), Hs (z1w h0a (x := (c_, p_, Arc_e.To, Arc_e.Channel, (Queue_e ++ ([Arc_e.Message] : List Int)))) h15 (loC xh c_ <| loC (eI .i64) p_ <| loC (eI .i64) Arc_e.To <| loC (eI .i64) Arc_e.Channel <| loC F2_ (Queue_e ++ ([Arc_e.Message] : List Int)) <| loN)), Hm (shM (eI .i64) (eI .i64) (Queue_e ++ ([Arc_e.Message] : List Int))), Hq (dM qA ([(zh.mk (za.mk p_ i_ (-1) (-1)) r_4)] : List zh)), Hn (dM qA ([(zh.mk (za.mk p_ i_ (-1) (-1)) r_4)] : List zh)), Hn (aL qA qA g6), Hl (aM qA out3 ([(zh.mk (za.mk p_ i_ (-1) (-1)) r_4)] : List zh))])
          ·exact yB X0 hC hJ6 out3 hf2 (Z13 ++ [Hq c17])
         ·exact yB X0 hC hJ6 out3 hf2 (rpN 5 (Hq c16) [qF])
    ·obtain rfl := zl hf2
     obtain rfl := hl2
     exact yB X0 hC hJ3 out3 hf1 (Z1 ++ [Hq c1])
  ·obtain rfl := zl hf1
   obtain rfl := hl1
   exact yB X0 hC hJ1 out1 hf0 (Z0 ++ [Hq c0])
def ZU : Code := (Tryz.f70.body).getD .skip
def ZE : yU := spF (α := List Int × List Int) (ρ := Int) 70 (fun x => [F2_ x.1, F2_ x.2]) (fun r => (eI .i64) r) (fun x => jB x.1 x.2) [] (Uu)
abbrev VZ : List (Nat × T) := []
abbrev VY (a_ : List Int) (b_ : List Int) (i_ : Int) : List (Nat × T) := [(0, .d (eSl 1 false (eI .i64) a_)), (1, .d (eSl 1 false (eI .i64) b_)), (5, .d (I i_))]
theorem Ka {ctr : Ctr} (hC : zT Tryz.prog ctr) : ZE.Ok Tryz.prog := by
 refine y4 ?_
 rintro ⟨a_, b_⟩ r0 hf0
 try unfold jB at hf0
 refine yO true [(4, none)] ZU 40 Tryz.func70 fun E hE => ?_
 let Z0 : List HO := [Ha (lnM (eI .i64) a_), Ha (lnM (eI .i64) b_)]
 rcases zZ hf0 with ⟨c0, hf0⟩ | ⟨c0, hf0⟩
 ·let Z1 : List HO := (Z0 ++ [Hq c0, Ha (lnM (eI .i64) a_), Ha (lnM (eI .i64) b_)])
  rcases zZ hf0 with ⟨c1, hf0⟩ | ⟨c1, hf0⟩
  ·obtain rfl := zl hf0
   exact yE X0 hC hE (Z1 ++ [Hq c1])
  ·obtain rfl := zl hf0
   exact yE X0 hC hE (Z1 ++ [Hq c1])
 ·refine yJ X0 hC ZU [1,1] [] [] (fun z : Unit => ZL = some r0) (fun z => VZ) [(0, .d (eSl 1 false (eI .i64) a_)), (1, .d (eSl 1 false (eI .i64) b_))] (Z0 ++ [Hq c0, Hh (.cut 0)]) ?_ fun J1 hJ1 => ?_
  ·rintro ⟨⟩ hf0
   unfold ZL at hf0
   obtain rfl := zl hf0
   exact yE X0 hC hE []
  ·obtain ⟨t2, ht2, hf0⟩ := zo hf0
   refine yL X0 hC ZU [1,1,2,1,0] [J1] (fun s => qG a_ b_ s) (fun x => VY a_ b_ x) 0 ht2  [] ?_
   rintro i_ m2 lr1 hf1 hl1 J2 hJ2
   try unfold qG at hf1
   rcases zZ hf1 with ⟨c2, hf1⟩ | ⟨c2, hf1⟩
   ·obtain ⟨a__e, h0, hf1⟩ := zo hf1
    obtain ⟨b__e, h1, hf1⟩ := zo hf1
    let Z2 : List HO := [Ha (lnM (eI .i64) a_), Hq c2, Hi (eI .i64) h0, Hi (eI .i64) h1]
    rcases zZ hf1 with ⟨c3, hf1⟩ | ⟨c3, hf1⟩
    ·obtain ⟨a__e1, h2, hf1⟩ := zo hf1
     obtain ⟨b__e1, h3, hf1⟩ := zo hf1
     let Z3 : List HO := (Z2 ++ [Hq c3, Hi (eI .i64) h2, Hi (eI .i64) h3])
     rcases zZ hf1 with ⟨c4, hf1⟩ | ⟨c4, hf1⟩
     ·obtain rfl := zl hf1
      obtain rfl := hl1
      obtain rfl := zl hf0
      exact yE X0 hC hE (Z3 ++ [Hq c4])
     ·obtain rfl := zl hf1
      obtain rfl := hl1
      obtain rfl := zl hf0
      exact yE X0 hC hE (Z3 ++ [Hq c4])
    ·obtain rfl := zl hf1
     exact yB X0 hC hJ2 (w64 (i_ + 1)) hl1 (Z2 ++ [Hq c3])
   ·obtain rfl := zl hf1
    obtain rfl := hl1
    exact yB X0 hC hJ1 () hf0 [Ha (lnM (eI .i64) a_), Hq c2]
def z0n : Code := (Tryz.f36.body).getD .skip
def X8 : yU := spF (α := List Int × List Int) (ρ := Int) 36 (fun x => [F2_ x.1, F2_ x.2]) (fun r => (eI .i64) r) (fun x => ZA x.1 x.2) [] (Uu)
theorem z0F {ctr : Ctr} (hC : zT Tryz.prog ctr) (h0s : ctr.Has ZE) : X8.Ok Tryz.prog := by
 refine y4 ?_
 rintro ⟨a_, b_⟩ r0 hf0
 try unfold ZA at hf0
 refine yO true [(4, none)] z0n 22 Tryz.func36 fun E hE => ?_
 let Z0 : List HO := [Ha (lnM (eI .i64) a_), Ha (lnM (eI .i64) b_)]
 rcases zZ hf0 with ⟨c0, hf0⟩ | ⟨c0, hf0⟩
 ·obtain rfl := zl hf0
  exact yE X0 hC hE (Z0 ++ (rpN 5 (Hq c0) (rpN 6 qT [])))
 ·obtain ⟨r_, h0, hf0⟩ := zo hf0
  let Z1 : List HO := (Z0 ++ [Hq c0, Hq c0, Hq c0, Hc h0s (x := (a_, b_)) h0 (loC F2_ a_ <| loC F2_ b_ <| loN), Hq c0, Hq c0])
  rcases zZ hf0 with ⟨c1, hf0⟩ | ⟨c1, hf0⟩
  ·obtain rfl := zl hf0
   exact yE X0 hC hE (Z1 ++ (rpN 5 (Hq c1) [qT]))
  ·obtain ⟨r_1, h1, hf0⟩ := zo hf0
   let Z2 : List HO := (Z1 ++ [Hq c1, Hq c1, Hq c1, Hc h0s (x := (b_, a_)) h1 (loC F2_ b_ <| loC F2_ a_ <| loN), Hq c1, Hq c1])
   rcases zZ hf0 with ⟨c2, hf0⟩ | ⟨c2, hf0⟩
   ·obtain rfl := zl hf0
    exact yE X0 hC hE (Z2 ++ [Hq c2])
   ·obtain rfl := zl hf0
    exact yE X0 hC hE (Z2 ++ [Hq c2])
def Xy : Code := (Tryz.f16.body).getD .skip
def qN : yU := spF (α := z7 × z7) (ρ := Int) 16 (fun x => [xh x.1, xh x.2]) (fun r => (eI .i64) r) (fun x => uR x.1 x.2) [] (Uu)
abbrev QC : List (Nat × T) := []
abbrev QB (a_ : z7) (b_ : z7) (i_ : Int) : List (Nat × T) := [(2, .own (.box (xh a_))), (3, .own (.box (xh b_))), (5, .d (I i_))]
theorem z0E {ctr : Ctr} (hC : zT Tryz.prog ctr) (h0t : ctr.Has X8) : qN.Ok Tryz.prog := by
 refine y4 ?_
 rintro ⟨a_, b_⟩ r0 hf0
 try unfold uR at hf0
 refine yO true [(4, none)] Xy 40 Tryz.func16 fun E hE => ?_
 obtain ⟨r_, h0, hf0⟩ := zo hf0
 let Z0 : List HO := [Hc h0t (x := (a_.States, b_.States)) h0 (loC F2_ a_.States <| loC F2_ b_.States <| loN)]
 rcases zZ hf0 with ⟨c0, hf0⟩ | ⟨c0, hf0⟩
 ·obtain rfl := zl hf0
  exact yE X0 hC hE (Z0 ++ (rpN 8 (Hq c0) [qT]))
 ·let Z1 : List HO := (Z0 ++ [Hq c0, Hq c0, Hq c0, Ha (lnM F2_ a_.Queues), Hq c0, Hq c0, Hq c0, Ha (lnM F2_ b_.Queues), Hq c0, Hq c0])
  rcases zZ hf0 with ⟨c1, hf0⟩ | ⟨c1, hf0⟩
  ·obtain rfl := zl hf0
   exact yE X0 hC hE (Z1 ++ [Hq c1])
  ·refine yJ X0 hC Xy [1,1] [] [] (fun z : Unit => Xi = some r0) (fun z => QC) [(2, .own (.box (xh a_))), (3, .own (.box (xh b_)))] (Z1 ++ [Hq c1, Hh (.cut 0)]) ?_ fun J1 hJ1 => ?_
   ·rintro ⟨⟩ hf0
    unfold Xi at hf0
    obtain rfl := zl hf0
    exact yE X0 hC hE []
   ·obtain ⟨t2, ht2, hf0⟩ := zo hf0
    refine yL X0 hC Xy [1,1,2,1,0] [J1] (fun s => kj a_ b_ s) (fun x => QB a_ b_ x) 0 ht2  [] ?_
    rintro i_ m2 lr1 hf1 hl1 J2 hJ2
    try unfold kj at hf1
    let Z2 : List HO := [Ha (lnM F2_ a_.Queues)]
    rcases zZ hf1 with ⟨c2, hf1⟩ | ⟨c2, hf1⟩
    ·obtain ⟨Queue_e, h1, hf1⟩ := zo hf1
     obtain ⟨Queue_e1, h2, hf1⟩ := zo hf1
     obtain ⟨r_1, h3, hf1⟩ := zo hf1
     let Z3 : List HO := (Z2 ++ [Hq c2, Hi F2_ h1, Hi F2_ h2, Hc h0t (x := (Queue_e, Queue_e1)) h3 (loC F2_ Queue_e <| loC F2_ Queue_e1 <| loN)])
     rcases zZ hf1 with ⟨c3, hf1⟩ | ⟨c3, hf1⟩
     ·obtain rfl := zl hf1
      obtain rfl := hl1
      obtain rfl := zl hf0
      exact yE X0 hC hE (Z3 ++ [Hq c3])
     ·obtain rfl := zl hf1
      exact yB X0 hC hJ2 (w64 (i_ + 1)) hl1 (Z3 ++ [Hq c3])
    ·obtain rfl := zl hf1
     obtain rfl := hl1
     exact yB X0 hC hJ1 () hf0 (Z2 ++ [Hq c2])
def xS : Code := (Tryz.f10.body).getD .skip
def Yn : yU := spF (α := z8 × Int) (ρ := List z7 × List (List z6)) 10 (fun x => [yV x.1, (eI .i64) x.2]) (fun r => .tup [z9b r.1, z9p r.2]) (fun x => ZJ x.1 x.2) [] (Uu)
abbrev US (list : List z7) (steps : List (List z6)) : List (Nat × T) := [(6, .own (eOs 2 false xh list)), (7, .own (eOs 1 false Ki steps))]
abbrev UR (x_ : z8) (most : Int) (list1 : List z7) (n_ : Int) (list2 : List z7) (steps2 : List (List z6)) : List (Nat × T) := [(1, .d (I most)), (2, .own (.box (yV x_))), (6, .own (eOs 2 false xh list2)), (7, .own (eOs 1 false Ki steps2)), (8, .d (I n_)), (22, .d (I ((list1.length : Nat) : Int))), (23, .d (I most)), (24, .d (B (decide (((list1.length : Nat) : Int) ≤ most))))]
abbrev UQ (x_ : z8) (most : Int) (list1 : List z7) (steps1 : List (List z6)) (n_ : Int) (list3 : List z7) (l_ : List z6) : List (Nat × T) := [(1, .d (I most)), (2, .own (.box (yV x_))), (6, .own (eOs 2 false xh list3)), (7, .own (eOs 1 false Ki steps1)), (8, .d (I n_)), (9, .own (eOs 5 false qH l_)), (22, .d (I ((list1.length : Nat) : Int))), (23, .d (I most)), (24, .d (B (decide (((list1.length : Nat) : Int) ≤ most))))]
abbrev UP (x_ : z8) (most : Int) (list1 : List z7) (steps1 : List (List z6)) (n_ : Int) (r_1 : List zh) (i_ : Int) (list5 : List z7) (l_2 : List z6) : List (Nat × T) := [(1, .d (I most)), (2, .own (.box (yV x_))), (6, .own (eOs 2 false xh list5)), (7, .own (eOs 1 false Ki steps1)), (8, .d (I n_)), (9, .own (eOs 5 false qH l_2)), (10, .own (eOs 6 false qA r_1)), (11, .d (I i_)), (22, .d (I ((list1.length : Nat) : Int))), (23, .d (I most)), (24, .d (B (decide (((list1.length : Nat) : Int) ≤ most))))]
abbrev UN (x_ : z8) (most : Int) (list1 : List z7) (steps1 : List (List z6)) (n_ : Int) (r_1 : List zh) (l_1 : List z6) (i_ : Int) (k_ : Int) (list6 : List z7) : List (Nat × T) := [(1, .d (I most)), (2, .own (.box (yV x_))), (6, .own (eOs 2 false xh list6)), (7, .own (eOs 1 false Ki steps1)), (8, .d (I n_)), (9, .own (eOs 5 false qH l_1)), (10, .own (eOs 6 false qA r_1)), (11, .d (I i_)), (12, .d (I k_)), (22, .d (I ((list1.length : Nat) : Int))), (23, .d (I most)), (24, .d (B (decide (((list1.length : Nat) : Int) ≤ most))))]
abbrev UO (x_ : z8) (most : Int) (list1 : List z7) (steps1 : List (List z6)) (n_ : Int) (r_1 : List zh) (list4 : List z7) (l_1 : List z6) (i_ : Int) (k_ : Int) : List (Nat × T) := [(1, .d (I most)), (2, .own (.box (yV x_))), (6, .own (eOs 2 false xh list4)), (7, .own (eOs 1 false Ki steps1)), (8, .d (I n_)), (9, .own (eOs 5 false qH l_1)), (10, .own (eOs 6 false qA r_1)), (11, .d (I i_)), (12, .d (I k_)), (22, .d (I ((list1.length : Nat) : Int))), (23, .d (I most)), (24, .d (B (decide (((list1.length : Nat) : Int) ≤ most))))]
abbrev UK (x_ : z8) (most : Int) (list1 : List z7) (steps1 : List (List z6)) (n_ : Int) (r_1 : List zh) (list4 : List z7) (l_1 : List z6) (i_ : Int) (k_1 : Int) : List (Nat × T) := [(1, .d (I most)), (2, .own (.box (yV x_))), (6, .own (eOs 2 false xh list4)), (7, .own (eOs 1 false Ki steps1)), (8, .d (I n_)), (9, .own (eOs 5 false qH l_1)), (10, .own (eOs 6 false qA r_1)), (11, .d (I i_)), (12, .d (I k_1)), (22, .d (I ((list1.length : Nat) : Int))), (23, .d (I most)), (24, .d (B (decide (((list1.length : Nat) : Int) ≤ most))))]
abbrev UL (x_ : z8) (most : Int) (list1 : List z7) (steps1 : List (List z6)) (n_ : Int) (r_1 : List zh) (list4 : List z7) (l_1 : List z6) (i_ : Int) : List (Nat × T) := [(1, .d (I most)), (2, .own (.box (yV x_))), (6, .own (eOs 2 false xh list4)), (7, .own (eOs 1 false Ki steps1)), (8, .d (I n_)), (9, .own (eOs 5 false qH l_1)), (10, .own (eOs 6 false qA r_1)), (11, .d (I i_)), (22, .d (I ((list1.length : Nat) : Int))), (23, .d (I most)), (24, .d (B (decide (((list1.length : Nat) : Int) ≤ most))))]
abbrev UM (x_ : z8) (most : Int) (list1 : List z7) (steps1 : List (List z6)) (n_ : Int) : List (Nat × T) := [(1, .d (I most)), (2, .own (.box (yV x_))), (6, .own (eOs 2 false xh list1)), (7, .own (eOs 1 false Ki steps1)), (8, .d (I n_))]
theorem KQ {ctr : Ctr} (hC : zT Tryz.prog ctr) (h0H : ctr.Has Yo) (h0m : ctr.Has kG) (h06 : ctr.Has qN) : Yn.Ok Tryz.prog := by
 refine y4 ?_
 rintro ⟨x_, most⟩ r0 hf0
 try unfold ZJ at hf0
 refine yO false [(4, none), (5, none)] xS 87 Tryz.func10 fun E hE => ?_
 obtain ⟨r_, h0, hf0⟩ := zo hf0
 refine yJ X0 hC xS [1,1,1] [] [6,7] (fun z : List z7 × List (List z6) => Yt z.1 z.2 = some r0) (fun z => US z.1 z.2) [(1, .d (I most)), (2, .own (.box (yV x_))), (6, .own (eOs 2 true Kj ([r_]))), (7, .own (eOs 1 true XZ []))] [Hc h0H (x := x_) h0 (loC yV x_ <| loN), Hh (.cut 1)] ?_ fun J1 hJ1 => ?_
 ·rintro ⟨list, steps⟩ hf0
  unfold Yt at hf0
  obtain rfl := zl hf0
  exact yE X0 hC hE [Hm (shM xh xh list), Hm (shM Ki XZ steps)]
 ·obtain ⟨t2, ht2, hf0⟩ := zo hf0
  refine yLx X0 hC xS [1,1,1,2,1,0] [J1] (fun s => j9 x_ most s.1 s.2.1 s.2.2) (fun x => UM x_ most x.1 x.2.1 x.2.2) (([r_] : List z7), ([] : List (List z6)), 0) ht2 [(1, .d (I most)), (2, .own (.box (yV x_))), (6, .own (eOs 2 true Kj ([r_]))), (7, .own (eOs 1 true Ki [])), (8, .d (I 0))] inferInstance [] ?_
  rintro ⟨list1, steps1, n_⟩ m2 lr1 hf1 hl1 J2 hJ2
  try unfold j9 at hf1
  let Z0 : List HO := [Ha (lnM xh list1)]
  rcases zZ hf1 with ⟨c0, hf1⟩ | ⟨c0, hf1⟩
  ·let Z1 : List HO := (Z0 ++ [Hq c0, Hq c0, Ha (lnM xh list1), Hq c0, Hq c0, Hq c0])
   rcases zZ hf1 with ⟨c1, hf1⟩ | ⟨c1, hf1⟩
   ·refine yJ X0 hC xS [1,1,1,2,1,0,0,1] [J1, J2] [1,2,6,7,8,22,23,24] (fun z : List z7 × List (List z6) => kM n_ z.1 z.2 = some lr1) (fun z => UR x_ most list1 n_ z.1 z.2) [(1, .d (I most)), (2, .own (.box (yV x_))), (6, .own (eOs 2 false xh list1)), (7, .own (eOs 1 false Ki steps1)), (8, .d (I n_)), (21, .als 6 [] 0 0), (22, .d (I ((list1.length : Nat) : Int))), (23, .d (I most)), (24, .d (B (decide (((list1.length : Nat) : Int) ≤ most))))] (Z1 ++ [Hq c1, Hh (.cut 0)]) ?_ fun J3 hJ3 => ?_
    ·rintro ⟨list2, steps2⟩ hf1
     unfold kM at hf1
     obtain rfl := zl hf1
     exact yB X0 hC hJ2 (list2, steps2, w64 (n_ + 1)) hl1 []
    ·obtain ⟨list_e, h1, hf1⟩ := zo hf1
     obtain ⟨r_1, h2, hf1⟩ := zo hf1
     refine yJ X0 hC xS [1,1,1,2,1,0,0,1,2,0,1,1] [J1, J2, J3] [1,2,6,7,8,9,22,23,24] (fun z : List z7 × List z6 => kL steps1 n_ z.1 z.2 = some lr1) (fun z => UQ x_ most list1 steps1 n_ z.1 z.2) [(1, .d (I most)), (2, .own (.box (yV x_))), (6, .own (eOs 2 false xh list1)), (7, .own (eOs 1 false Ki steps1)), (8, .d (I n_)), (9, .own (eOs 5 true qH [])), (10, .own (eOs 6 false qA r_1)), (21, .als 6 [] 0 0), (22, .d (I ((list1.length : Nat) : Int))), (23, .d (I most)), (24, .d (B (decide (((list1.length : Nat) : Int) ≤ most))))] [Hn (iL xh h1), Hs (iM xh h1), Hc h0m (x := (x_, list_e)) h2 (loC yV x_ <| loC xh list_e <| loN), Hh (.cut 0)] ?_ fun J4 hJ4 => ?_
     ·rintro ⟨list3, l_⟩ hf1
      unfold kL at hf1
      obtain ⟨g0, hf1⟩ := gdE hf1
      exact yB X0 hC hJ3 (list3, (steps1 ++ ([l_] : List (List z6)))) hf1 [Hq (oC Ki l_ []), Hn (aL Ki Ki g0), Hl (aM Ki steps1 ([l_] : List (List z6)))]
     ·obtain ⟨t5, ht5, hf1⟩ := zo hf1
      refine yLx X0 hC xS [1,1,1,2,1,0,0,1,2,0,1,1,2,1,0] [J1, J2, J3, J4] (fun s => uV r_1 s.1 s.2.1 s.2.2) (fun x => UL x_ most list1 steps1 n_ r_1 x.1 x.2.1 x.2.2) (list1, ([] : List z6), 0) ht5 [(1, .d (I most)), (2, .own (.box (yV x_))), (6, .own (eOs 2 false xh list1)), (7, .own (eOs 1 false Ki steps1)), (8, .d (I n_)), (9, .own (eOs 5 true qH [])), (10, .own (eOs 6 false qA r_1)), (11, .d (I 0)), (22, .d (I ((list1.length : Nat) : Int))), (23, .d (I most)), (24, .d (B (decide (((list1.length : Nat) : Int) ≤ most))))] inferInstance [] ?_
      rintro ⟨list4, l_1, i_⟩ m5 lr2 hf2 hl2 J5 hJ5
      try unfold uV at hf2
      let Z2 : List HO := [Ha (lnM qA r_1)]
      rcases zZ hf2 with ⟨c2, hf2⟩ | ⟨c2, hf2⟩
      ·refine yJ X0 hC xS [1,1,1,2,1,0,0,1,2,0,1,1,2,1,0,0,1] [J1, J2, J3, J4, J5] [1,2,6,7,8,9,10,11,22,23,24] (fun z : List z7 × List z6 => kK i_ z.1 z.2 = some lr2) (fun z => UP x_ most list1 steps1 n_ r_1 i_ z.1 z.2) [(1, .d (I most)), (2, .own (.box (yV x_))), (6, .own (eOs 2 false xh list4)), (7, .own (eOs 1 false Ki steps1)), (8, .d (I n_)), (9, .own (eOs 5 false qH l_1)), (10, .own (eOs 6 false qA r_1)), (11, .d (I i_)), (22, .d (I ((list1.length : Nat) : Int))), (23, .d (I most)), (24, .d (B (decide (((list1.length : Nat) : Int) ≤ most))))] (Z2 ++ [Hq c2, Hh (.cut 0)]) ?_ fun J6 hJ6 => ?_
       ·rintro ⟨list5, l_2⟩ hf2
        unfold kK at hf2
        obtain rfl := zl hf2
        exact yB X0 hC hJ5 (list5, l_2, w64 (i_ + 1)) hl2 []
       ·refine yJ X0 hC xS [1,1,1,2,1,0,0,1,2,0,1,1,2,1,0,0,1,2,0,1] [J1, J2, J3, J4, J5, J6] [1,2,6,7,8,9,10,11,12,22,23,24] (fun z : Int => kJ r_1 list4 l_1 i_ z = some lr2) (fun z => UO x_ most list1 steps1 n_ r_1 list4 l_1 i_ z) [(1, .d (I most)), (2, .own (.box (yV x_))), (6, .own (eOs 2 false xh list4)), (7, .own (eOs 1 false Ki steps1)), (8, .d (I n_)), (9, .own (eOs 5 false qH l_1)), (10, .own (eOs 6 false qA r_1)), (11, .d (I i_)), (12, .d (I 0)), (22, .d (I ((list1.length : Nat) : Int))), (23, .d (I most)), (24, .d (B (decide (((list1.length : Nat) : Int) ≤ most))))] [Hh (.cut 1)] ?_ fun J7 hJ7 => ?_
        ·rintro k_ hf2
         unfold kJ at hf2
         refine yJ X0 hC xS [1,1,1,2,1,0,0,1,2,0,1,1,2,1,0,0,1,2,0,1,1] [J1, J2, J3, J4, J5, J6] [1,2,6,7,8,9,10,11,12,22,23,24] (fun z : List z7 => ja r_1 l_1 i_ k_ z = some lr2) (fun z => UN x_ most list1 steps1 n_ r_1 l_1 i_ k_ z) [(1, .d (I most)), (2, .own (.box (yV x_))), (6, .own (eOs 2 false xh list4)), (7, .own (eOs 1 false Ki steps1)), (8, .d (I n_)), (9, .own (eOs 5 false qH l_1)), (10, .own (eOs 6 false qA r_1)), (11, .d (I i_)), (12, .d (I k_)), (22, .d (I ((list1.length : Nat) : Int))), (23, .d (I most)), (24, .d (B (decide (((list1.length : Nat) : Int) ≤ most))))] [Hh (.cut 0)] ?_ fun J8 hJ8 => ?_
         ·rintro list6 hf2
          unfold ja at hf2
          obtain ⟨r__e, h3, hf2⟩ := zo hf2
          obtain ⟨g1, hf2⟩ := gdE hf2
          exact yB X0 hC hJ6 (list6, (l_1 ++ ([(z6.mk r__e.Move k_)] : List z6))) hf2 [Hn (iL qA h3), Hs (iM qA h3), Hs (iM qA h3), Hq (dM qH ([(z6.mk r__e.Move k_)] : List z6)), Hn (dM qH ([(z6.mk r__e.Move k_)] : List z6)), Hn (aL qH qH g1), Hl (aM qH l_1 ([(z6.mk r__e.Move k_)] : List z6))]
         ·let Z3 : List HO := [Ha (lnM xh list4)]
          rcases zZ hf2 with ⟨c3, hf2⟩ | ⟨c3, hf2⟩
          ·obtain ⟨r__e1, h4, hf2⟩ := zo hf2
           obtain ⟨g2, hf2⟩ := gdE hf2
           exact yB X0 hC hJ8 (list4 ++ ([r__e1.To] : List z7)) hf2 (Z3 ++ [Hq c3, Hn (iL qA h4), Hs (iM qA h4), Hs (iM qA h4), Hq (dM xh ([r__e1.To] : List z7)), Hn (dM xh ([r__e1.To] : List z7)), Hn (aL xh xh g2), Hl (aM xh list4 ([r__e1.To] : List z7))])
          ·exact yB X0 hC hJ8 list4 hf2 (Z3 ++ [Hq c3])
        ·obtain ⟨t9, ht9, hf2⟩ := zo hf2
         refine yL X0 hC xS [1,1,1,2,1,0,0,1,2,0,1,1,2,1,0,0,1,2,0,1,2,0] [J1, J2, J3, J4, J5, J6, J7] (fun s => uU r_1 list4 i_ s) (fun x => UK x_ most list1 steps1 n_ r_1 list4 l_1 i_ x) 0 ht9  [] ?_
         rintro k_1 m9 lr3 hf3 hl3 J9 hJ9
         try unfold uU at hf3
         let Z4 : List HO := [Ha (lnM xh list4)]
         rcases zZ hf3 with ⟨c4, hf3⟩ | ⟨c4, hf3⟩
         ·obtain ⟨list_e1, h5, hf3⟩ := zo hf3
          obtain ⟨r__e2, h6, hf3⟩ := zo hf3
          obtain ⟨r_2, h7, hf3⟩ := zo hf3
          let Z5 : List HO := (Z4 ++ [Hq c4, Hq c4, Hq c4, Hn (iL xh h5), Hq c4, Hs (iM xh h5), Hq c4, Hq c4, Hq c4, Hn (iL qA h6), Hq c4, Hs (iM qA h6), Hq c4, Hs (iM qA h6), Hq c4, Hc h06 (x := (list_e1, r__e2.To)) h7 (loC xh list_e1 <| loC xh r__e2.To <| loN), Hq c4, Hq c4])
          rcases zZ hf3 with ⟨c5, hf3⟩ | ⟨c5, hf3⟩
          ·obtain rfl := zl hf3
           exact yB X0 hC hJ9 (w64 (k_1 + 1)) hl3 (Z5 ++ [Hq c5])
          ·obtain rfl := zl hf3
           obtain rfl := hl3
           exact yB X0 hC hJ7 k_1 hf2 (Z5 ++ [Hq c5])
         ·obtain rfl := zl hf3
          obtain rfl := hl3
          exact yB X0 hC hJ7 k_1 hf2 (Z4 ++ (rpN 12 (Hq c4) [qF]))
      ·obtain rfl := zl hf2
       obtain rfl := hl2
       exact yB X0 hC hJ4 (list4, l_1) hf1 (Z2 ++ [Hq c2])
   ·obtain rfl := zl hf1
    obtain rfl := hl1
    exact yB X0 hC hJ1 (list1, steps1) hf0 (Z1 ++ [Hq c1])
  ·obtain rfl := zl hf1
   obtain rfl := hl1
   exact yB X0 hC hJ1 (list1, steps1) hf0 (Z0 ++ (rpN 5 (Hq c0) [qF]))
def VQ : Code := (Tryz.f87.body).getD .skip
def vz : yU := spF (α := Int) (ρ := Bool) 87 (fun x => [(eI .i64) x]) (fun r => eB r) (fun x => jR x) [] (Qp)
theorem Ud {ctr : Ctr} (hC : zT Tryz.prog ctr) : vz.Ok Tryz.prog := by
 refine y4 ?_
 rintro n_ r0 hf0
 try unfold jR at hf0
 refine yO true [(2, none)] VQ 5 Tryz.func87 fun E hE => ?_
 obtain rfl := zl hf0
 exact yE X0 hC hE []
def wo : Code := (Tryz.f90.body).getD .skip
def u6 : yU := spF (α := List Int × Unit) (ρ := Int) 90 (fun x => [F2_ x.1, (Ke 87) x.2]) (fun r => (eI .i64) r) (fun x => xO x.1 x.2) [] (by
 rintro ⟨a0, a1⟩ ⟨b0, b1⟩ h
 have e0 := wN.inj (f := F2_) _ _ (List.cons.inj h).1
 replace h := (List.cons.inj h).2
 have e1 := wN.inj (f := (Ke 87)) _ _ (List.cons.inj h).1
 subst e0 e1
 rfl)
abbrev jN : List (Nat × T) := []
abbrev jM (s_ : List Int) (x8 : Int) : List (Nat × T) := [(0, .d (eSl 1 false (eI .i64) s_)), (1, .d (.fn 87 [])), (7, .d (I ((s_.length : Nat) : Int))), (8, .d (I x8))]
theorem kQ {ctr : Ctr} (hC : zT Tryz.prog ctr) (h0b : ctr.Has vz) : u6.Ok Tryz.prog := by
 refine y4 ?_
 rintro ⟨s_, f_⟩ r0 hf0
 try unfold xO at hf0
 refine yO true [(4, none)] wo 19 Tryz.func90 fun E hE => ?_
 refine yJ X0 hC wo [1] [] [] (fun z : Unit => wj = some r0) (fun z => jN) [(0, .d (eSl 1 false (eI .i64) s_)), (1, .d (.fn 87 []))] [Hh (.cut 1)] ?_ fun J1 hJ1 => ?_
 ·rintro ⟨⟩ hf0
  unfold wj at hf0
  obtain rfl := zl hf0
  exact yE X0 hC hE []
 ·obtain ⟨t2, ht2, hf0⟩ := zo hf0
  refine yL X0 hC wo [1,2,1,0] [J1] (fun s => yx s_ s) (fun x => jM s_ x) 0 ht2  [Ha (lnM (eI .i64) s_)] ?_
  rintro x8 m2 lr1 hf1 hl1 J2 hJ2
  try unfold yx at hf1
  rcases zZ hf1 with ⟨c0, hf1⟩ | ⟨c0, hf1⟩
  ·obtain ⟨s__e, h0, hf1⟩ := zo hf1
   obtain ⟨r_, h1, hf1⟩ := zo hf1
   let Z0 : List HO := [Hq c0, Hi (eI .i64) h0, Hc h0b (x := s__e) h1 (loC (eI .i64) s__e <| loN)]
   rcases zZ hf1 with ⟨c1, hf1⟩ | ⟨c1, hf1⟩
   ·obtain rfl := zl hf1
    obtain rfl := hl1
    obtain rfl := zl hf0
    exact yE X0 hC hE (Z0 ++ [Hq c1])
   ·obtain rfl := zl hf1
    exact yB X0 hC hJ2 (w64 (x8 + 1)) hl1 (Z0 ++ [Hq c1])
  ·obtain rfl := zl hf1
   obtain rfl := hl1
   exact yB X0 hC hJ1 () hf0 [Hq c0]
def jG : Code := (Tryz.f62.body).getD .skip
def va : yU := spF (α := List Int × Unit) (ρ := Bool) 62 (fun x => [F2_ x.1, (Ke 87) x.2]) (fun r => eB r) (fun x => yD x.1 x.2) [] (by
 rintro ⟨a0, a1⟩ ⟨b0, b1⟩ h
 have e0 := wN.inj (f := F2_) _ _ (List.cons.inj h).1
 replace h := (List.cons.inj h).2
 have e1 := wN.inj (f := (Ke 87)) _ _ (List.cons.inj h).1
 subst e0 e1
 rfl)
theorem vp {ctr : Ctr} (hC : zT Tryz.prog ctr) (h0b : ctr.Has vz) : va.Ok Tryz.prog := by
 refine y4 ?_
 rintro ⟨s_, f_⟩ r0 hf0
 try unfold yD at hf0
 refine yO true [(4, none)] jG 9 Tryz.func62 fun E hE => ?_
 obtain ⟨r_, h0, hf0⟩ := zo hf0
 obtain rfl := zl hf0
 exact yE ((K9 zR (kQ hC h0b) 7).or X0) hC hE [Hc (Ctr.add_has Qr u6) (x := (s_, ())) h0 (loC F2_ s_ <| loC (Ke 87) () <| loN)]
def VO : Code := (Tryz.f89.body).getD .skip
def k9 : yU := spF (α := zi) (ρ := Bool) 89 (fun x => [wH x]) (fun r => eB r) (fun x => jQ x) [] (Qp)
theorem Uc {ctr : Ctr} (hC : zT Tryz.prog ctr) : k9.Ok Tryz.prog := by
 refine y4 ?_
 rintro p_ r0 hf0
 try unfold jQ at hf0
 refine yO true [(2, none)] VO 12 Tryz.func89 fun E hE => ?_
 rcases zZ hf0 with ⟨c0, hf0⟩ | ⟨c0, hf0⟩
 ·obtain rfl := zl hf0
  exact yE X0 hC hE (rpN 5 (Hq c0) [])
 ·obtain rfl := zl hf0
  exact yE X0 hC hE [Hq c0, Hq c0, Hq c0, Ha (lnM vW p_.Arcs), Hq c0, Hq c0]
def yG : Code := (Tryz.f107.body).getD .skip
def yp : yU := spF (α := List zi × Unit) (ρ := Int) 107 (fun x => [z7v x.1, (Ke 89) x.2]) (fun r => (eI .i64) r) (fun x => yc x.1 x.2) [] (by
 rintro ⟨a0, a1⟩ ⟨b0, b1⟩ h
 have e0 := wN.inj (f := z7v) _ _ (List.cons.inj h).1
 replace h := (List.cons.inj h).2
 have e1 := wN.inj (f := (Ke 89)) _ _ (List.cons.inj h).1
 subst e0 e1
 rfl)
abbrev vJ : List (Nat × T) := []
abbrev vI (s_ : List zi) (x8 : Int) : List (Nat × T) := [(0, .d (eSl 3 false wH s_)), (1, .d (.fn 89 [])), (7, .d (I ((s_.length : Nat) : Int))), (8, .d (I x8))]
theorem uf {ctr : Ctr} (hC : zT Tryz.prog ctr) (h0I : ctr.Has k9) : yp.Ok Tryz.prog := by
 refine y4 ?_
 rintro ⟨s_, f_⟩ r0 hf0
 try unfold yc at hf0
 refine yO true [(4, none)] yG 19 Tryz.func107 fun E hE => ?_
 refine yJ X0 hC yG [1] [] [] (fun z : Unit => yq = some r0) (fun z => vJ) [(0, .d (eSl 3 false wH s_)), (1, .d (.fn 89 []))] [Hh (.cut 1)] ?_ fun J1 hJ1 => ?_
 ·rintro ⟨⟩ hf0
  unfold yq at hf0
  obtain rfl := zl hf0
  exact yE X0 hC hE []
 ·obtain ⟨t2, ht2, hf0⟩ := zo hf0
  refine yL X0 hC yG [1,2,1,0] [J1] (fun s => zO s_ s) (fun x => vI s_ x) 0 ht2  [Ha (lnM wH s_)] ?_
  rintro x8 m2 lr1 hf1 hl1 J2 hJ2
  try unfold zO at hf1
  rcases zZ hf1 with ⟨c0, hf1⟩ | ⟨c0, hf1⟩
  ·obtain ⟨s__e, h0, hf1⟩ := zo hf1
   obtain ⟨r_, h1, hf1⟩ := zo hf1
   let Z0 : List HO := [Hq c0, Hi wH h0, Hc h0I (x := s__e) h1 (loC wH s__e <| loN)]
   rcases zZ hf1 with ⟨c1, hf1⟩ | ⟨c1, hf1⟩
   ·obtain rfl := zl hf1
    obtain rfl := hl1
    obtain rfl := zl hf0
    exact yE X0 hC hE (Z0 ++ [Hq c1])
   ·obtain rfl := zl hf1
    exact yB X0 hC hJ2 (w64 (x8 + 1)) hl1 (Z0 ++ [Hq c1])
  ·obtain rfl := zl hf1
   obtain rfl := hl1
   exact yB X0 hC hJ1 () hf0 [Hq c0]
def vF : Code := (Tryz.f88.body).getD .skip
def yi : yU := spF (α := List zi × Unit) (ρ := Bool) 88 (fun x => [z7v x.1, (Ke 89) x.2]) (fun r => eB r) (fun x => zP x.1 x.2) [] (by
 rintro ⟨a0, a1⟩ ⟨b0, b1⟩ h
 have e0 := wN.inj (f := z7v) _ _ (List.cons.inj h).1
 replace h := (List.cons.inj h).2
 have e1 := wN.inj (f := (Ke 89)) _ _ (List.cons.inj h).1
 subst e0 e1
 rfl)
theorem vK {ctr : Ctr} (hC : zT Tryz.prog ctr) (h0J : ctr.Has yp) : yi.Ok Tryz.prog := by
 refine y4 ?_
 rintro ⟨s_, f_⟩ r0 hf0
 try unfold zP at hf0
 refine yO true [(4, none)] vF 9 Tryz.func88 fun E hE => ?_
 obtain ⟨r_, h0, hf0⟩ := zo hf0
 obtain rfl := zl hf0
 exact yE X0 hC hE [Hc h0J (x := (s_, ())) h0 (loC z7v s_ <| loC (Ke 89) () <| loN)]
def Qs : Code := (Tryz.f61.body).getD .skip
def Zc : yU := spF (α := z8) (ρ := Bool) 61 (fun x => [yV x]) (fun r => eB r) (fun x => jS x) [] (Qp)
theorem J0 {ctr : Ctr} (hC : zT Tryz.prog ctr) (h0b : ctr.Has vz) (h0K : ctr.Has yi) : Zc.Ok Tryz.prog := by
 refine y4 ?_
 rintro x_ r0 hf0
 try unfold jS at hf0
 refine yO true [(2, none)] Qs 31 Tryz.func61 fun E hE => ?_
 rcases zZ hf0 with ⟨c0, hf0⟩ | ⟨c0, hf0⟩
 ·obtain rfl := zl hf0
  exact yE X0 hC hE (rpN 4 (Hq c0) (rpN 11 qT []))
 ·let Z0 : List HO := (rpN 4 (Hq c0) [])
  rcases zZ hf0 with ⟨c1, hf0⟩ | ⟨c1, hf0⟩
  ·obtain rfl := zl hf0
   exact yE X0 hC hE (Z0 ++ (rpN 5 (Hq c1) (rpN 6 qT [])))
  ·let Z1 : List HO := (Z0 ++ [Hq c1, Hq c1, Hq c1, Ha (lnM (eI .i64) x_.Channels), Hq c1, Hq c1])
   rcases zZ hf0 with ⟨c2, hf0⟩ | ⟨c2, hf0⟩
   ·obtain rfl := zl hf0
    exact yE X0 hC hE (Z1 ++ (rpN 5 (Hq c2) [qT]))
   ·let Z2 : List HO := (Z1 ++ [Hq c2, Hq c2, Hq c2, Ha (lnM wH x_.Parts), Hq c2, Hq c2])
    rcases zZ hf0 with ⟨c3, hf0⟩ | ⟨c3, hf0⟩
    ·obtain rfl := zl hf0
     exact yE X0 hC hE (Z2 ++ [Hq c3])
    ·obtain ⟨r_, h0, hf0⟩ := zo hf0
     let Z3 : List HO := (Z2 ++ [Hq c3, Hc (Ctr.add_has Qr va) (x := (x_.Channels, ())) h0 (loC F2_ x_.Channels <| loC (Ke 87) () <| loN)])
     rcases zZ hf0 with ⟨c4, hf0⟩ | ⟨c4, hf0⟩
     ·obtain rfl := zl hf0
      exact yE ((K9 zR (vp hC h0b) 25).or X0) hC hE (Z3 ++ (rpN 4 (Hq c4) []))
     ·obtain ⟨r_1, h1, hf0⟩ := zo hf0
      obtain rfl := zl hf0
      exact yE ((K9 zR (vp hC h0b) 25).or X0) hC hE (Z3 ++ [Hq c4, Hq c4, Hq c4, Hc h0K (x := (x_.Parts, ())) h1 (loC z7v x_.Parts <| loC (Ke 89) () <| loN), Hq c4])
def VS : Code := (Tryz.f63.body).getD .skip
def vA : yU := spF (α := Int) (ρ := Bool) 63 (fun x => [(eI .i64) x]) (fun r => eB r) (fun x => k8 x) [] (Qp)
theorem Ug {ctr : Ctr} (hC : zT Tryz.prog ctr) : vA.Ok Tryz.prog := by
 refine y4 ?_
 rintro n_ r0 hf0
 try unfold k8 at hf0
 refine yO true [(2, none)] VS 5 Tryz.func63 fun E hE => ?_
 obtain rfl := zl hf0
 exact yE X0 hC hE []
def wn : Code := (Tryz.f90.body).getD .skip
def u4 : yU := spF (α := List Int × Unit) (ρ := Int) 90 (fun x => [F2_ x.1, (Ke 63) x.2]) (fun r => (eI .i64) r) (fun x => xN x.1 x.2) [] (by
 rintro ⟨a0, a1⟩ ⟨b0, b1⟩ h
 have e0 := wN.inj (f := F2_) _ _ (List.cons.inj h).1
 replace h := (List.cons.inj h).2
 have e1 := wN.inj (f := (Ke 63)) _ _ (List.cons.inj h).1
 subst e0 e1
 rfl)
abbrev jL : List (Nat × T) := []
abbrev jK (s_ : List Int) (x8 : Int) : List (Nat × T) := [(0, .d (eSl 1 false (eI .i64) s_)), (1, .d (.fn 63 [])), (7, .d (I ((s_.length : Nat) : Int))), (8, .d (I x8))]
theorem kP {ctr : Ctr} (hC : zT Tryz.prog ctr) (h0c : ctr.Has vA) : u4.Ok Tryz.prog := by
 refine y4 ?_
 rintro ⟨s_, f_⟩ r0 hf0
 try unfold xN at hf0
 refine yO true [(4, none)] wn 19 Tryz.func90 fun E hE => ?_
 refine yJ X0 hC wn [1] [] [] (fun z : Unit => wi = some r0) (fun z => jL) [(0, .d (eSl 1 false (eI .i64) s_)), (1, .d (.fn 63 []))] [Hh (.cut 1)] ?_ fun J1 hJ1 => ?_
 ·rintro ⟨⟩ hf0
  unfold wi at hf0
  obtain rfl := zl hf0
  exact yE X0 hC hE []
 ·obtain ⟨t2, ht2, hf0⟩ := zo hf0
  refine yL X0 hC wn [1,2,1,0] [J1] (fun s => yw s_ s) (fun x => jK s_ x) 0 ht2  [Ha (lnM (eI .i64) s_)] ?_
  rintro x8 m2 lr1 hf1 hl1 J2 hJ2
  try unfold yw at hf1
  rcases zZ hf1 with ⟨c0, hf1⟩ | ⟨c0, hf1⟩
  ·obtain ⟨s__e, h0, hf1⟩ := zo hf1
   obtain ⟨r_, h1, hf1⟩ := zo hf1
   let Z0 : List HO := [Hq c0, Hi (eI .i64) h0, Hc h0c (x := s__e) h1 (loC (eI .i64) s__e <| loN)]
   rcases zZ hf1 with ⟨c1, hf1⟩ | ⟨c1, hf1⟩
   ·obtain rfl := zl hf1
    obtain rfl := hl1
    obtain rfl := zl hf0
    exact yE X0 hC hE (Z0 ++ [Hq c1])
   ·obtain rfl := zl hf1
    exact yB X0 hC hJ2 (w64 (x8 + 1)) hl1 (Z0 ++ [Hq c1])
  ·obtain rfl := zl hf1
   obtain rfl := hl1
   exact yB X0 hC hJ1 () hf0 [Hq c0]
def jF : Code := (Tryz.f62.body).getD .skip
def v8 : yU := spF (α := List Int × Unit) (ρ := Bool) 62 (fun x => [F2_ x.1, (Ke 63) x.2]) (fun r => eB r) (fun x => yC x.1 x.2) [] (by
 rintro ⟨a0, a1⟩ ⟨b0, b1⟩ h
 have e0 := wN.inj (f := F2_) _ _ (List.cons.inj h).1
 replace h := (List.cons.inj h).2
 have e1 := wN.inj (f := (Ke 63)) _ _ (List.cons.inj h).1
 subst e0 e1
 rfl)
theorem vo {ctr : Ctr} (hC : zT Tryz.prog ctr) (h0c : ctr.Has vA) : v8.Ok Tryz.prog := by
 refine y4 ?_
 rintro ⟨s_, f_⟩ r0 hf0
 try unfold yC at hf0
 refine yO true [(4, none)] jF 9 Tryz.func62 fun E hE => ?_
 obtain ⟨r_, h0, hf0⟩ := zo hf0
 obtain rfl := zl hf0
 exact yE ((K9 zR (kP hC h0c) 7).or X0) hC hE [Hc (Ctr.add_has Qr u4) (x := (s_, ())) h0 (loC F2_ s_ <| loC (Ke 63) () <| loN)]
def z0m : Code := (Tryz.f67.body).getD .skip
def qM : yU := spF (α := Int × Int) (ρ := Bool) 67 (fun x => [(eI .i64) x.1, (eI .i64) x.2]) (fun r => eB r) (fun x => ve x.1 x.2) [] (Uu)
theorem z0B {ctr : Ctr} (hC : zT Tryz.prog ctr) : qM.Ok Tryz.prog := by
 refine y4 ?_
 rintro ⟨n_, many⟩ r0 hf0
 try unfold ve at hf0
 refine yO true [(4, none)] z0m 12 Tryz.func67 fun E hE => ?_
 rcases zZ hf0 with ⟨c0, hf0⟩ | ⟨c0, hf0⟩
 ·obtain rfl := zl hf0
  exact yE X0 hC hE (rpN 4 (Hq c0) [])
 ·obtain rfl := zl hf0
  exact yE X0 hC hE (rpN 4 (Hq c0) [])
def qV : Code := (Tryz.f46.body).getD .skip
def qL : yU := spF (α := List Int × Int) (ρ := Bool) 46 (fun x => [F2_ x.1, (eI .i64) x.2]) (fun r => eB r) (fun x => uQ x.1 x.2) [] (Uu)
abbrev WM : List (Nat × T) := []
abbrev WL (l_ : List Int) (many : Int) (x9 : Int) (x29 : Bool) : List (Nat × T) := [(0, .d (eSl 1 false (eI .i64) l_)), (1, .d (I many)), (7, .d (eSl 1 false (eI .i64) l_)), (8, .d (I ((l_.length : Nat) : Int))), (9, .d (I x9)), (19, .d (I x9)), (20, .d (B (decide (x9 > 0)))), (21, .d (B (decide (x9 > 0)))), (29, .d (B x29))]
abbrev WK (l_ : List Int) (many : Int) (x9 : Int) : List (Nat × T) := [(0, .d (eSl 1 false (eI .i64) l_)), (1, .d (I many)), (7, .d (eSl 1 false (eI .i64) l_)), (8, .d (I ((l_.length : Nat) : Int))), (9, .d (I x9))]
theorem Qk {ctr : Ctr} (hC : zT Tryz.prog ctr) (h01 : ctr.Has qM) : qL.Ok Tryz.prog := by
 refine y4 ?_
 rintro ⟨l_, many⟩ r0 hf0
 try unfold uQ at hf0
 refine yO true [(4, none)] qV 32 Tryz.func46 fun E hE => ?_
 refine yJ X0 hC qV [1] [] [] (fun z : Unit => kz = some r0) (fun z => WM) [(0, .d (eSl 1 false (eI .i64) l_)), (1, .d (I many))] [Hh (.cut 1)] ?_ fun J1 hJ1 => ?_
 ·rintro ⟨⟩ hf0
  unfold kz at hf0
  obtain rfl := zl hf0
  exact yE X0 hC hE []
 ·obtain ⟨t2, ht2, hf0⟩ := zo hf0
  refine yL X0 hC qV [1,2,1,0] [J1] (fun s => vZ l_ many s) (fun x => WK l_ many x) 0 ht2  [Ha (lnM (eI .i64) l_)] ?_
  rintro x9 m2 lr1 hf1 hl1 J2 hJ2
  try unfold vZ at hf1
  rcases zZ hf1 with ⟨c0, hf1⟩ | ⟨c0, hf1⟩
  ·refine yJ X0 hC qV [1,2,1,0,0,1,1] [J1, J2] [0,1,7,8,9,19,20,21,29] (fun z : Bool => qJ x9 z = some lr1) (fun z => WL l_ many x9 z) [(0, .d (eSl 1 false (eI .i64) l_)), (1, .d (I many)), (7, .d (eSl 1 false (eI .i64) l_)), (8, .d (I ((l_.length : Nat) : Int))), (9, .d (I x9))] [Hq c0, Hh (.cut 0)] ?_ fun J3 hJ3 => ?_
   ·rintro x29 hf1
    unfold qJ at hf1
    obtain rfl := zl hf1
    exact yB X0 hC hJ2 (w64 (x9 + 1)) hl1 []
   ·obtain ⟨l__e, h0, hf1⟩ := zo hf1
    obtain ⟨r_, h1, hf1⟩ := zo hf1
    let Z0 : List HO := [Hi (eI .i64) h0, Hc h01 (x := (l__e, many)) h1 (loC (eI .i64) l__e <| loC (eI .i64) many <| loN)]
    rcases zZ hf1 with ⟨c1, hf1⟩ | ⟨c1, hf1⟩
    ·obtain rfl := zl hf1
     obtain rfl := hl1
     obtain rfl := zl hf0
     exact yE X0 hC hE (Z0 ++ (rpN 5 (Hq c1) [qT]))
    ·rcases zZ hf1 with ⟨c2, hf1⟩ | ⟨c2, hf1⟩
     ·obtain ⟨l__e1, h2, hf1⟩ := zo hf1
      let Z1 : List HO := (Z0 ++ (Hq c1 :: Hq c1 :: Hq c1 :: (rpN 5 (Hq c2) [Hi (eI .i64) h2, Hq c2, Hq c2, Hq c1, Hq c2, Hq c1])))
      rcases zZ hf1 with ⟨c3, hf1⟩ | ⟨c3, hf1⟩
      ·obtain rfl := zl hf1
       obtain rfl := hl1
       obtain rfl := zl hf0
       exact yE X0 hC hE (Z1 ++ [Hq c3])
      ·exact yB X0 hC hJ3 (decide (l__e ≤ l__e1)) hf1 (Z1 ++ [Hq c3])
     ·exact yB X0 hC hJ3 false hf1 (Z0 ++ (Hq c1 :: Hq c1 :: Hq c1 :: (rpN 7 (Hq c2) [Hq c1, Hq c2, Hq c1, qF])))
  ·obtain rfl := zl hf1
   obtain rfl := hl1
   exact yB X0 hC hJ1 () hf0 [Hq c0]
def Xv : Code := (Tryz.f66.body).getD .skip
def uu : yU := spF (α := z8 × zi × ze) (ρ := Bool) 66 (fun x => [yV x.1, wH x.2.1, vW x.2.2]) (fun r => eB r) (fun x => wO x.1 x.2.1 x.2.2) [] (z9j)
theorem XG {ctr : Ctr} (hC : zT Tryz.prog ctr) (h01 : ctr.Has qM) : uu.Ok Tryz.prog := by
 refine y4 ?_
 rintro ⟨x_, p_, a_⟩ r0 hf0
 try unfold wO at hf0
 refine yO true [(6, none)] Xv 52 Tryz.func66 fun E hE => ?_
 obtain ⟨r_, h0, hf0⟩ := zo hf0
 let Z0 : List HO := [Hc h01 (x := (a_.From, p_.States)) h0 (loC (eI .i64) a_.From <| loC (eI .i64) p_.States <| loN)]
 rcases zZ hf0 with ⟨c0, hf0⟩ | ⟨c0, hf0⟩
 ·obtain rfl := zl hf0
  exact yE X0 hC hE (Z0 ++ (rpN 7 (Hq c0) (rpN 5 qT [])))
 ·obtain ⟨r_1, h1, hf0⟩ := zo hf0
  let Z1 : List HO := (Z0 ++ (rpN 5 (Hq c0) [Hc h01 (x := (a_.To, p_.States)) h1 (loC (eI .i64) a_.To <| loC (eI .i64) p_.States <| loN), Hq c0, Hq c0]))
  rcases zZ hf0 with ⟨c1, hf0⟩ | ⟨c1, hf0⟩
  ·obtain rfl := zl hf0
   exact yE X0 hC hE (Z1 ++ (rpN 4 (Hq c1) [qT]))
  ·let Z2 : List HO := (Z1 ++ (rpN 4 (Hq c1) []))
   rcases zZ hf0 with ⟨c2, hf0⟩ | ⟨c2, hf0⟩
   ·obtain rfl := zl hf0
    exact yE X0 hC hE (Z2 ++ [Hq c2])
   ·rcases zZ hf0 with ⟨c3, hf0⟩ | ⟨c3, hf0⟩
    ·rcases zZ hf0 with ⟨c4, hf0⟩ | ⟨c4, hf0⟩
     ·obtain ⟨r_2, h2, hf0⟩ := zo hf0
      obtain rfl := zl hf0
      exact yE X0 hC hE (Z2 ++ (Hq c2 :: Hq c3 :: (rpN 5 (Hq c4) [Hc h01 (x := (a_.Message, x_.Labels)) h2 (loC (eI .i64) a_.Message <| loC (eI .i64) x_.Labels <| loN), Hq c4])))
     ·obtain rfl := zl hf0
      exact yE X0 hC hE (Z2 ++ (Hq c2 :: Hq c3 :: (rpN 6 (Hq c4) [])))
    ·obtain ⟨r_3, h3, hf0⟩ := zo hf0
     let Z3 : List HO := (Z2 ++ [Hq c2, Hq c3, Ha (lnM (eI .i64) x_.Channels), Hc h01 (x := (a_.Channel, ((x_.Channels.length : Nat) : Int))) h3 (loC (eI .i64) a_.Channel <| loC (eI .i64) ((x_.Channels.length : Nat) : Int) <| loN)])
     rcases zZ hf0 with ⟨c5, hf0⟩ | ⟨c5, hf0⟩
     ·obtain ⟨r_4, h4, hf0⟩ := zo hf0
      obtain rfl := zl hf0
      exact yE X0 hC hE (Z3 ++ (rpN 5 (Hq c5) [Hc h01 (x := (a_.Message, x_.Messages)) h4 (loC (eI .i64) a_.Message <| loC (eI .i64) x_.Messages <| loN), Hq c5]))
     ·obtain rfl := zl hf0
      exact yE X0 hC hE (Z3 ++ (rpN 6 (Hq c5) []))
def VR : Code := (Tryz.f65.body).getD .skip
def kc : yU := spF (α := ze × z8 × zi) (ρ := Bool) 65 (fun x => [vW x.1, z0z x.2.1, z7w x.2.2]) (fun r => eB r) (fun x => k7 x.1 x.2.1 x.2.2) [] (z9j)
theorem Uf {ctr : Ctr} (hC : zT Tryz.prog ctr) (h0L : ctr.Has uu) : kc.Ok Tryz.prog := by
 refine y4 ?_
 rintro ⟨a_, x1, x2⟩ r0 hf0
 try unfold k7 at hf0
 refine yO true [(4, none)] VR 10 Tryz.func65 fun E hE => ?_
 obtain ⟨r_, h0, hf0⟩ := zo hf0
 obtain rfl := zl hf0
 exact yE X0 hC hE [Hc h0L (x := (x1, x2, a_)) h0 (loC yV x1 <| loC wH x2 <| loC vW a_ <| loN)]
def yT : Code := (Tryz.f91.body).getD .skip
def yQ : yU := spF (α := List ze × (z8 × zi)) (ρ := Int) 91 (fun x => [z9c x.1, (z3z 65 z0z z7w) x.2]) (fun r => (eI .i64) r) (fun x => yf x.1 x.2) [] (by
 rintro ⟨a0, a1⟩ ⟨b0, b1⟩ h
 have e0 := wN.inj (f := z9c) _ _ (List.cons.inj h).1
 replace h := (List.cons.inj h).2
 have e1 := wN.inj (f := (z3z 65 z0z z7w)) _ _ (List.cons.inj h).1
 subst e0 e1
 rfl)
abbrev vR : List (Nat × T) := []
abbrev vQ (s_ : List ze) (f_ : z8 × zi) (x8 : Int) : List (Nat × T) := [(0, .d (eSl 5 false vW s_)), (1, .d (.fn 65 [.sptr (.agg [I f_.1.Messages, I f_.1.Labels, eSl 1 false (eI .i64) f_.1.Channels, eSl 3 false wH f_.1.Parts]), .sptr (.agg [I f_.2.States, eSl 5 false vW f_.2.Arcs, eSl 1 false (eI .i64) f_.2.Final])])), (7, .d (I ((s_.length : Nat) : Int))), (8, .d (I x8))]
theorem uI {ctr : Ctr} (hC : zT Tryz.prog ctr) (h0M : ctr.Has kc) : yQ.Ok Tryz.prog := by
 refine y4 ?_
 rintro ⟨s_, f_⟩ r0 hf0
 try unfold yf at hf0
 refine yO true [(4, none)] yT 19 Tryz.func91 fun E hE => ?_
 refine yJ X0 hC yT [1] [] [] (fun z : Unit => yS = some r0) (fun z => vR) [(0, .d (eSl 5 false vW s_)), (1, .d (.fn 65 [.sptr (.agg [I f_.1.Messages, I f_.1.Labels, eSl 1 false (eI .i64) f_.1.Channels, eSl 3 false wH f_.1.Parts]), .sptr (.agg [I f_.2.States, eSl 5 false vW f_.2.Arcs, eSl 1 false (eI .i64) f_.2.Final])]))] [Hh (.cut 1)] ?_ fun J1 hJ1 => ?_
 ·rintro ⟨⟩ hf0
  unfold yS at hf0
  obtain rfl := zl hf0
  exact yE X0 hC hE []
 ·obtain ⟨t2, ht2, hf0⟩ := zo hf0
  refine yL X0 hC yT [1,2,1,0] [J1] (fun s => zU s_ f_ s) (fun x => vQ s_ f_ x) 0 ht2  [Ha (lnM vW s_)] ?_
  rintro x8 m2 lr1 hf1 hl1 J2 hJ2
  try unfold zU at hf1
  rcases zZ hf1 with ⟨c0, hf1⟩ | ⟨c0, hf1⟩
  ·obtain ⟨s__e, h0, hf1⟩ := zo hf1
   obtain ⟨r_, h1, hf1⟩ := zo hf1
   let Z0 : List HO := [Hq c0, Hi vW h0, Hc h0M (x := (s__e, f_.1, f_.2)) h1 (loC vW s__e <| loC z0z f_.1 <| loC z7w f_.2 <| loN)]
   rcases zZ hf1 with ⟨c1, hf1⟩ | ⟨c1, hf1⟩
   ·obtain rfl := zl hf1
    obtain rfl := hl1
    obtain rfl := zl hf0
    exact yE X0 hC hE (Z0 ++ [Hq c1])
   ·obtain rfl := zl hf1
    exact yB X0 hC hJ2 (w64 (x8 + 1)) hl1 (Z0 ++ [Hq c1])
  ·obtain rfl := zl hf1
   obtain rfl := hl1
   exact yB X0 hC hJ1 () hf0 [Hq c0]
def vO : Code := (Tryz.f64.body).getD .skip
def yn : yU := spF (α := List ze × (z8 × zi)) (ρ := Bool) 64 (fun x => [z9c x.1, (z3z 65 z0z z7w) x.2]) (fun r => eB r) (fun x => zV x.1 x.2) [] (by
 rintro ⟨a0, a1⟩ ⟨b0, b1⟩ h
 have e0 := wN.inj (f := z9c) _ _ (List.cons.inj h).1
 replace h := (List.cons.inj h).2
 have e1 := wN.inj (f := (z3z 65 z0z z7w)) _ _ (List.cons.inj h).1
 subst e0 e1
 rfl)
theorem vY {ctr : Ctr} (hC : zT Tryz.prog ctr) (h0N : ctr.Has yQ) : yn.Ok Tryz.prog := by
 refine y4 ?_
 rintro ⟨s_, f_⟩ r0 hf0
 try unfold zV at hf0
 refine yO true [(4, none)] vO 9 Tryz.func64 fun E hE => ?_
 obtain ⟨r_, h0, hf0⟩ := zo hf0
 obtain rfl := zl hf0
 exact yE X0 hC hE [Hc h0N (x := (s_, (f_.1, f_.2))) h0 (loC z9c s_ <| loC (z3z 65 z0z z7w) (f_.1, f_.2) <| loN)]
def Zm : Code := (Tryz.f28.body).getD .skip
def vg : yU := spF (α := z8) (ρ := Int) 28 (fun x => [yV x]) (fun r => (eI .i64) r) (fun x => vw x) [] (Qp)
abbrev Vr : List (Nat × T) := []
abbrev Vq (x_ : z8) (x29 : Int) : List (Nat × T) := [(1, .d (.sptr (yV x_))), (27, .d (eSl 3 false wH x_.Parts)), (28, .d (I ((x_.Parts.length : Nat) : Int))), (29, .d (I x29))]
theorem Jc {ctr : Ctr} (hC : zT Tryz.prog ctr) (h0O : ctr.Has Zc) (h0c : ctr.Has vA) (h0n : ctr.Has qL) (h0P : ctr.Has yn) : vg.Ok Tryz.prog := by
 refine y4 ?_
 rintro x_ r0 hf0
 try unfold vw at hf0
 refine yO true [(2, none)] Zm 51 Tryz.func28 fun E hE => ?_
 obtain ⟨r_, h0, hf0⟩ := zo hf0
 let Z0 : List HO := [Hc h0O (x := x_) h0 (loC yV x_ <| loN)]
 rcases zZ hf0 with ⟨c0, hf0⟩ | ⟨c0, hf0⟩
 ·obtain rfl := zl hf0
  exact yE X0 hC hE (Z0 ++ [Hq c0])
 ·rcases zZ hf0 with ⟨c1, hf0⟩ | ⟨c1, hf0⟩
  ·obtain rfl := zl hf0
   exact yE X0 hC hE (Z0 ++ (Hq c0 :: (rpN 4 (Hq c1) (rpN 10 qT []))))
  ·let Z1 : List HO := (Z0 ++ (Hq c0 :: (rpN 4 (Hq c1) [])))
   rcases zZ hf0 with ⟨c2, hf0⟩ | ⟨c2, hf0⟩
   ·obtain rfl := zl hf0
    exact yE X0 hC hE (Z1 ++ (rpN 5 (Hq c2) (rpN 5 qT [])))
   ·let Z2 : List HO := (Z1 ++ [Hq c2, Hq c2, Hq c2, Ha (lnM wH x_.Parts), Hq c2, Hq c2])
    rcases zZ hf0 with ⟨c3, hf0⟩ | ⟨c3, hf0⟩
    ·obtain rfl := zl hf0
     exact yE X0 hC hE (Z2 ++ (rpN 4 (Hq c3) [qT]))
    ·obtain ⟨r_1, h1, hf0⟩ := zo hf0
     let Z3 : List HO := (Z2 ++ [Hq c3, Hq c3, Hq c3, Hc (Ctr.add_has Qr v8) (x := (x_.Channels, ())) h1 (loC F2_ x_.Channels <| loC (Ke 63) () <| loN), Hq c3])
     rcases zZ hf0 with ⟨c4, hf0⟩ | ⟨c4, hf0⟩
     ·obtain rfl := zl hf0
      exact yE ((K9 zR (vo hC h0c) 24).or X0) hC hE (Z3 ++ [Hq c4])
     ·refine yJ ((K9 zR (vo hC h0c) 24).or X0) hC Zm [1,1,1] [] [] (fun z : Unit => Zb = some r0) (fun z => Vr) [(1, .own (.box (yV x_)))] (Z3 ++ [Hq c4, Hh (.cut 0)]) ?_ fun J1 hJ1 => ?_
      ·rintro ⟨⟩ hf0
       unfold Zb at hf0
       obtain rfl := zl hf0
       exact yE X0 hC hE []
      ·obtain ⟨t2, ht2, hf0⟩ := zo hf0
       refine yL X0 hC Zm [1,1,1,2,1,0] [J1] (fun s => uL x_ s) (fun x => Vq x_ x) 0 ht2  [Ha (lnM wH x_.Parts), Hh (.n 1 [1])] ?_
       rintro x29 m2 lr1 hf1 hl1 J2 hJ2
       try unfold uL at hf1
       rcases zZ hf1 with ⟨c5, hf1⟩ | ⟨c5, hf1⟩
       ·obtain ⟨Part_e, h2, hf1⟩ := zo hf1
        let Z4 : List HO := [Hq c5, Hi wH h2]
        rcases zZ hf1 with ⟨c6, hf1⟩ | ⟨c6, hf1⟩
        ·obtain rfl := zl hf1
         obtain rfl := hl1
         obtain rfl := zl hf0
         exact yE X0 hC hE (Z4 ++ (rpN 7 (Hq c6) (rpN 6 qT [])))
        ·obtain ⟨r_2, h3, hf1⟩ := zo hf1
         let Z5 : List HO := (Z4 ++ (rpN 5 (Hq c6) [Hc h0n (x := (Part_e.Final, Part_e.States)) h3 (loC F2_ Part_e.Final <| loC (eI .i64) Part_e.States <| loN), Hq c6, Hq c6]))
         rcases zZ hf1 with ⟨c7, hf1⟩ | ⟨c7, hf1⟩
         ·obtain rfl := zl hf1
          obtain rfl := hl1
          obtain rfl := zl hf0
          exact yE X0 hC hE (Z5 ++ (rpN 5 (Hq c7) [qT]))
         ·obtain ⟨r_3, h4, hf1⟩ := zo hf1
          let Z6 : List HO := (Z5 ++ (rpN 4 (Hq c7) [Hc h0P (x := (Part_e.Arcs, (x_, Part_e))) h4 (loC z9c Part_e.Arcs <| loC (z3z 65 z0z z7w) (x_, Part_e) <| loN), Hq c7]))
          rcases zZ hf1 with ⟨c8, hf1⟩ | ⟨c8, hf1⟩
          ·obtain rfl := zl hf1
           obtain rfl := hl1
           obtain rfl := zl hf0
           exact yE X0 hC hE (Z6 ++ [Hq c8])
          ·obtain rfl := zl hf1
           exact yB X0 hC hJ2 (w64 (x29 + 1)) hl1 (Z6 ++ [Hq c8])
       ·obtain rfl := zl hf1
        obtain rfl := hl1
        exact yB X0 hC hJ1 () hf0 [Hq c5]
def YU : Code := (Tryz.f68.body).getD .skip
def xJ : yU := spF (α := Int × z8) (ρ := Bool) 68 (fun x => [(eI .i64) x.1, z0z x.2]) (fun r => eB r) (fun x => vu x.1 x.2) [] (Uu)
theorem X2 {ctr : Ctr} (hC : zT Tryz.prog ctr) (h01 : ctr.Has qM) : xJ.Ok Tryz.prog := by
 refine y4 ?_
 rintro ⟨m_, x1⟩ r0 hf0
 try unfold vu at hf0
 refine yO true [(3, none)] YU 9 Tryz.func68 fun E hE => ?_
 obtain ⟨r_, h0, hf0⟩ := zo hf0
 obtain rfl := zl hf0
 exact yE X0 hC hE [Hc h01 (x := (m_, x1.Messages)) h0 (loC (eI .i64) m_ <| loC (eI .i64) x1.Messages <| loN)]
def wm : Code := (Tryz.f90.body).getD .skip
def u3 : yU := spF (α := List Int × z8) (ρ := Int) 90 (fun x => [F2_ x.1, (z4L 68 z0z) x.2]) (fun r => (eI .i64) r) (fun x => xM x.1 x.2) [] (by
 rintro ⟨a0, a1⟩ ⟨b0, b1⟩ h
 have e0 := wN.inj (f := F2_) _ _ (List.cons.inj h).1
 replace h := (List.cons.inj h).2
 have e1 := wN.inj (f := (z4L 68 z0z)) _ _ (List.cons.inj h).1
 subst e0 e1
 rfl)
abbrev jJ : List (Nat × T) := []
abbrev jI (s_ : List Int) (f_ : z8) (x8 : Int) : List (Nat × T) := [(0, .d (eSl 1 false (eI .i64) s_)), (1, .d (.fn 68 [.sptr (.agg [I f_.Messages, I f_.Labels, eSl 1 false (eI .i64) f_.Channels, eSl 3 false wH f_.Parts])])), (7, .d (I ((s_.length : Nat) : Int))), (8, .d (I x8))]
theorem kO {ctr : Ctr} (hC : zT Tryz.prog ctr) (h0d : ctr.Has xJ) : u3.Ok Tryz.prog := by
 refine y4 ?_
 rintro ⟨s_, f_⟩ r0 hf0
 try unfold xM at hf0
 refine yO true [(4, none)] wm 19 Tryz.func90 fun E hE => ?_
 refine yJ X0 hC wm [1] [] [] (fun z : Unit => wh = some r0) (fun z => jJ) [(0, .d (eSl 1 false (eI .i64) s_)), (1, .d (.fn 68 [.sptr (.agg [I f_.Messages, I f_.Labels, eSl 1 false (eI .i64) f_.Channels, eSl 3 false wH f_.Parts])]))] [Hh (.cut 1)] ?_ fun J1 hJ1 => ?_
 ·rintro ⟨⟩ hf0
  unfold wh at hf0
  obtain rfl := zl hf0
  exact yE X0 hC hE []
 ·obtain ⟨t2, ht2, hf0⟩ := zo hf0
  refine yL X0 hC wm [1,2,1,0] [J1] (fun s => yu s_ f_ s) (fun x => jI s_ f_ x) 0 ht2  [Ha (lnM (eI .i64) s_)] ?_
  rintro x8 m2 lr1 hf1 hl1 J2 hJ2
  try unfold yu at hf1
  rcases zZ hf1 with ⟨c0, hf1⟩ | ⟨c0, hf1⟩
  ·obtain ⟨s__e, h0, hf1⟩ := zo hf1
   obtain ⟨r_, h1, hf1⟩ := zo hf1
   let Z0 : List HO := [Hq c0, Hi (eI .i64) h0, Hc h0d (x := (s__e, f_)) h1 (loC (eI .i64) s__e <| loC z0z f_ <| loN)]
   rcases zZ hf1 with ⟨c1, hf1⟩ | ⟨c1, hf1⟩
   ·obtain rfl := zl hf1
    obtain rfl := hl1
    obtain rfl := zl hf0
    exact yE X0 hC hE (Z0 ++ [Hq c1])
   ·obtain rfl := zl hf1
    exact yB X0 hC hJ2 (w64 (x8 + 1)) hl1 (Z0 ++ [Hq c1])
  ·obtain rfl := zl hf1
   obtain rfl := hl1
   exact yB X0 hC hJ1 () hf0 [Hq c0]
def jE : Code := (Tryz.f62.body).getD .skip
def v7 : yU := spF (α := List Int × z8) (ρ := Bool) 62 (fun x => [F2_ x.1, (z4L 68 z0z) x.2]) (fun r => eB r) (fun x => yz x.1 x.2) [] (by
 rintro ⟨a0, a1⟩ ⟨b0, b1⟩ h
 have e0 := wN.inj (f := F2_) _ _ (List.cons.inj h).1
 replace h := (List.cons.inj h).2
 have e1 := wN.inj (f := (z4L 68 z0z)) _ _ (List.cons.inj h).1
 subst e0 e1
 rfl)
theorem vn {ctr : Ctr} (hC : zT Tryz.prog ctr) (h0d : ctr.Has xJ) : v7.Ok Tryz.prog := by
 refine y4 ?_
 rintro ⟨s_, f_⟩ r0 hf0
 try unfold yz at hf0
 refine yO true [(4, none)] jE 9 Tryz.func62 fun E hE => ?_
 obtain ⟨r_, h0, hf0⟩ := zo hf0
 obtain rfl := zl hf0
 exact yE ((K9 zR (kO hC h0d) 7).or X0) hC hE [Hc (Ctr.add_has Qr u3) (x := (s_, f_)) h0 (loC F2_ s_ <| loC (z4L 68 z0z) f_ <| loN)]
def wd : Code := (Tryz.f29.body).getD .skip
def v6 : yU := spF (α := z8 × z7) (ρ := Int) 29 (fun x => [yV x.1, xh x.2]) (fun r => (eI .i64) r) (fun x => wg x.1 x.2) [] (Uu)
abbrev YJ : List (Nat × T) := []
abbrev YI (x_ : z8) (c_ : z7) (x52 : Int) : List (Nat × T) := [(2, .d (.sptr (yV x_))), (50, .d (eSl 1 false F2_ c_.Queues)), (51, .d (I ((c_.Queues.length : Nat) : Int))), (52, .d (I x52))]
abbrev YK (x_ : z8) (c_ : z7) : List (Nat × T) := [(2, .own (.box (yV x_))), (3, .own (.box (xh c_)))]
abbrev YH (x_ : z8) (c_ : z7) (x34 : Int) : List (Nat × T) := [(2, .own (.box (yV x_))), (3, .own (.box (xh c_))), (32, .d (eSl 3 false wH x_.Parts)), (33, .d (I ((x_.Parts.length : Nat) : Int))), (34, .d (I x34))]
theorem W3 {ctr : Ctr} (hC : zT Tryz.prog ctr) (h07 : ctr.Has vg) (h01 : ctr.Has qM) (h0d : ctr.Has xJ) : v6.Ok Tryz.prog := by
 refine y4 ?_
 rintro ⟨x_, c_⟩ r0 hf0
 try unfold wg at hf0
 refine yO true [(4, none)] wd 71 Tryz.func29 fun E hE => ?_
 obtain ⟨r_, h0, hf0⟩ := zo hf0
 let Z0 : List HO := [Hc h07 (x := x_) h0 (loC yV x_ <| loN)]
 rcases zZ hf0 with ⟨c0, hf0⟩ | ⟨c0, hf0⟩
 ·obtain rfl := zl hf0
  exact yE X0 hC hE (Z0 ++ [Hq c0])
 ·let Z1 : List HO := (Z0 ++ [Hq c0, Ha (lnM (eI .i64) c_.States), Ha (lnM wH x_.Parts)])
  rcases zZ hf0 with ⟨c1, hf0⟩ | ⟨c1, hf0⟩
  ·obtain rfl := zl hf0
   exact yE X0 hC hE (Z1 ++ (rpN 8 (Hq c1) [qT]))
  ·let Z2 : List HO := (Z1 ++ [Hq c1, Hq c1, Hq c1, Ha (lnM F2_ c_.Queues), Hq c1, Hq c1, Hq c1, Ha (lnM (eI .i64) x_.Channels), Hq c1, Hq c1])
   rcases zZ hf0 with ⟨c2, hf0⟩ | ⟨c2, hf0⟩
   ·obtain rfl := zl hf0
    exact yE X0 hC hE (Z2 ++ [Hq c2])
   ·refine yJ X0 hC wd [1,1,1] [] [2,3] (fun z : Unit => wc x_ c_ = some r0) (fun z => YK x_ c_) [(2, .own (.box (yV x_))), (3, .own (.box (xh c_)))] (Z2 ++ [Hq c2, Hh (.cut 0)]) ?_ fun J1 hJ1 => ?_
    ·rintro ⟨⟩ hf0
     unfold wc at hf0
     refine yJ X0 hC wd [1,1,1,1] [] [] (fun z : Unit => uX = some r0) (fun z => YJ) [(2, .own (.box (yV x_))), (3, .own (.box (xh c_)))] [Hh (.cut 0)] ?_ fun J2 hJ2 => ?_
     ·rintro ⟨⟩ hf0
      unfold uX at hf0
      obtain rfl := zl hf0
      exact yE X0 hC hE []
     ·obtain ⟨t3, ht3, hf0⟩ := zo hf0
      refine yL X0 hC wd [1,1,1,1,2,1,0] [J2] (fun s => wb x_ c_ s) (fun x => YI x_ c_ x) 0 ht3  [Ha (lnM F2_ c_.Queues), Hh (.n 1 [2])] ?_
      rintro x52 m3 lr1 hf1 hl1 J3 hJ3
      try unfold wb at hf1
      rcases zZ hf1 with ⟨c3, hf1⟩ | ⟨c3, hf1⟩
      ·obtain ⟨Queue_e, h1, hf1⟩ := zo hf1
       obtain ⟨Channel_e, h2, hf1⟩ := zo hf1
       let Z3 : List HO := [Hq c3, Hi F2_ h1, Ha (lnM (eI .i64) Queue_e), Hi (eI .i64) h2]
       rcases zZ hf1 with ⟨c4, hf1⟩ | ⟨c4, hf1⟩
       ·obtain rfl := zl hf1
        obtain rfl := hl1
        obtain rfl := zl hf0
        exact yE X0 hC hE (Z3 ++ (rpN 4 (Hq c4) [qT]))
       ·obtain ⟨r_1, h3, hf1⟩ := zo hf1
        let Z4 : List HO := (Z3 ++ [Hq c4, Hq c4, Hq c4, Hc (Ctr.add_has Qr v7) (x := (Queue_e, x_)) h3 (loC F2_ Queue_e <| loC (z4L 68 z0z) x_ <| loN), Hq c4])
        rcases zZ hf1 with ⟨c5, hf1⟩ | ⟨c5, hf1⟩
        ·obtain rfl := zl hf1
         obtain rfl := hl1
         obtain rfl := zl hf0
         exact yE ((K9 zR (vn hC h0d) 68).or X0) hC hE (Z4 ++ [Hq c5])
        ·obtain rfl := zl hf1
         exact yB ((K9 zR (vn hC h0d) 68).or X0) hC hJ3 (w64 (x52 + 1)) hl1 (Z4 ++ [Hq c5])
      ·obtain rfl := zl hf1
       obtain rfl := hl1
       exact yB X0 hC hJ2 () hf0 [Hq c3]
    ·obtain ⟨t4, ht4, hf0⟩ := zo hf0
     refine yL X0 hC wd [1,1,1,2,1,0] [J1] (fun s => wa x_ c_ s) (fun x => YH x_ c_ x) 0 ht4  [Ha (lnM wH x_.Parts)] ?_
     rintro x34 m4 lr1 hf1 hl1 J4 hJ4
     try unfold wa at hf1
     rcases zZ hf1 with ⟨c6, hf1⟩ | ⟨c6, hf1⟩
     ·obtain ⟨Part_e, h4, hf1⟩ := zo hf1
      obtain ⟨State_e, h5, hf1⟩ := zo hf1
      obtain ⟨r_2, h6, hf1⟩ := zo hf1
      let Z5 : List HO := [Hq c6, Hi wH h4, Hi (eI .i64) h5, Hc h01 (x := (State_e, Part_e.States)) h6 (loC (eI .i64) State_e <| loC (eI .i64) Part_e.States <| loN)]
      rcases zZ hf1 with ⟨c7, hf1⟩ | ⟨c7, hf1⟩
      ·obtain rfl := zl hf1
       obtain rfl := hl1
       obtain rfl := zl hf0
       exact yE X0 hC hE (Z5 ++ [Hq c7])
      ·obtain rfl := zl hf1
       exact yB X0 hC hJ4 (w64 (x34 + 1)) hl1 (Z5 ++ [Hq c7])
     ·obtain rfl := zl hf1
      obtain rfl := hl1
      exact yB X0 hC hJ1 () hf0 [Hq c6]
def WH : Code := (Tryz.f86.body).getD .skip
def vU : yU := spF (α := zf × Int) (ρ := zf) 86 (fun x => [F9_ x.1, (eI .i64) x.2]) (fun r => F9_ r) (fun x => u0 x.1 x.2) [] (Uu)
theorem WX {ctr : Ctr} (hC : zT Tryz.prog ctr) : vU.Ok Tryz.prog := by
 refine y4 ?_
 rintro ⟨q_, m_⟩ r0 hf0
 try unfold u0 at hf0
 refine yO false [(4, some 112)] WH 15 Tryz.func86 fun E hE => ?_
 obtain ⟨cell, h0, hf0⟩ := zo hf0
 obtain ⟨arr, h1, hf0⟩ := zo hf0
 replace h1 := zl h1
 obtain rfl := zl hf0
 exact yE X0 hC hE [Hn (⟨arJ (by kernel_rfl) (i0 h0), (iL (eI .i64) h0).2⟩ : Y6 xZ 110 ((zD.toL q_.l_).map (eI .i64)) q_.many_ = true ∧ q_.many_.toNat < ((zD.toL q_.l_).map (eI .i64)).length), Hh (.op 7), Hh (.f), Hx (.a (.agg [I q_.l_.e0, I q_.l_.e1, I q_.l_.e2, I q_.l_.e3])) (rfl : some (.agg [I q_.l_.e0, I q_.l_.e1, I q_.l_.e2, I q_.l_.e3] : A) = some (.agg [I q_.l_.e0, I q_.l_.e1, I q_.l_.e2, I q_.l_.e3])), Hh (.f), Hs (iM (eI .i64) h0), Hh (.f), Hx (.a (.agg [I q_.l_.e0, I q_.l_.e1, I q_.l_.e2, I q_.l_.e3])) (rfl : some (.agg [I q_.l_.e0, I q_.l_.e1, I q_.l_.e2, I q_.l_.e3] : A) = some (.agg [I q_.l_.e0, I q_.l_.e1, I q_.l_.e2, I q_.l_.e3])), Hh (.f), Hs (iM (eI .i64) h0), Hx (.l ((zD.toL arr).map (eI .i64))) ((zD.setL (eI .i64) q_.l_ q_.many_ m_).trans (congrArg (fun q => (zD.toL q).map (eI .i64)) h1)), Hx (.l [I q_.many_, .agg [I arr.e0, I arr.e1, I arr.e2, I arr.e3]]) (rfl : ([I q_.many_, .agg [I arr.e0, I arr.e1, I arr.e2, I arr.e3]] : List A) = [I q_.many_, .agg [I arr.e0, I arr.e1, I arr.e2, I arr.e3]])]
def vh : Code := (Tryz.f58.body).getD .skip
def jg : yU := spF (α := z7) (ρ := zb) 58 (fun x => [xh x]) (fun r => yH r) (fun x => qK x) [] (Qp)
abbrev Vm (arr : zD Int) (s_queues : zD zf) : List (Nat × T) := [(2, .own (.box (.agg [F0_ arr, z3C s_queues])))]
abbrev Vl (c_ : z7) (arr : zD Int) (x15 : Int) (s_queues2 : zD zf) : List (Nat × T) := [(2, .own (.box (.agg [F0_ arr, z3C s_queues2]))), (13, .d (eSl 1 false F2_ c_.Queues)), (14, .d (I ((c_.Queues.length : Nat) : Int))), (15, .d (I x15))]
abbrev Vj (c_ : z7) (arr : zD Int) (x15 : Int) (Queue_e : List Int) (s_queues3 : zD zf) (x22 : Int) : List (Nat × T) := [(2, .own (.box (.agg [F0_ arr, z3C s_queues3]))), (3, .d (I x15)), (13, .d (eSl 1 false F2_ c_.Queues)), (14, .d (I ((c_.Queues.length : Nat) : Int))), (15, .d (I x15)), (20, .d (eSl 1 false (eI .i64) Queue_e)), (21, .d (I ((Queue_e.length : Nat) : Int))), (22, .d (I x22))]
abbrev Vk (c_ : z7) (arr : zD Int) (s_queues1 : zD zf) (x15 : Int) : List (Nat × T) := [(2, .own (.box (.agg [F0_ arr, z3C s_queues1]))), (13, .d (eSl 1 false F2_ c_.Queues)), (14, .d (I ((c_.Queues.length : Nat) : Int))), (15, .d (I x15))]
theorem QZ {ctr : Ctr} (hC : zT Tryz.prog ctr) (h0o : ctr.Has vU) : jg.Ok Tryz.prog := by
 refine y4 ?_
 rintro c_ r0 hf0
 try unfold qK at hf0
 refine yO false [(2, some 115)] vh 38 Tryz.func58 fun E hE => ?_
 refine yA X0 hC vh [1] [] [(1, .own (.box (xh c_))), (2, .own (.box (.agg [.agg [I 0, I 0, I 0, I 0], .agg [.agg [I 0, .agg [I 0, I 0, I 0, I 0]], .agg [I 0, .agg [I 0, I 0, I 0, I 0]], .agg [I 0, .agg [I 0, I 0, I 0, I 0]], .agg [I 0, .agg [I 0, I 0, I 0, I 0]]]])))] [Hh (.cut 1)] ?_
 refine z2o (y := .box (.agg [.agg [I 0, I 0, I 0, I 0], .agg [.agg [I 0, .agg [I 0, I 0, I 0, I 0]], .agg [I 0, .agg [I 0, I 0, I 0, I 0]], .agg [I 0, .agg [I 0, I 0, I 0, I 0]], .agg [I 0, .agg [I 0, I 0, I 0, I 0]]]])) (by kernel_rfl) 2 (by kernel_rfl) (by kernel_rfl) fun pv2 hv2 => ?_
 obtain ⟨arr, h0, hf0⟩ := zo hf0
 replace h0 := zl h0
 refine yJ ((xCp zR 11 2 0 0 pv2 none).or ((xAv zR 8 2 0 0 pv2).or X0)) hC vh [1,1] [] [2] (fun z : zD zf => kY arr z = some r0) (fun z => Vm arr z) [(1, .own (.box (xh c_))), (2, .own (.box (.agg [F0_ arr, .agg [.agg [I 0, .agg [I 0, I 0, I 0, I 0]], .agg [I 0, .agg [I 0, I 0, I 0, I 0]], .agg [I 0, .agg [I 0, I 0, I 0, I 0]], .agg [I 0, .agg [I 0, I 0, I 0, I 0]]]])))] [Hn (⟨rfl, rfl⟩ : T.ptr 2 [.deref, .fld 0] 0 0 = T.ptr 2 [.deref, .fld 0] 0 0 ∧ some pv2 = some pv2), Hn (⟨rfl, rfl⟩ : T.d (.atom (z0t pv2 0 0 4)) = T.d (.atom (z0t pv2 0 0 4)) ∧ some pv2 = some pv2), Hn (dM (eI .i64) c_.States), Hx (.l ((zD.toL arr).map (eI .i64))) ((z4M (eI .i64) (zD.toL (zD.mk 0 0 0 0)) 0 c_.States).trans (congrArg (fun q => q.map (eI .i64)) ((zD.toL_ofL (cpA (zD.toL (zD.mk 0 0 0 0)) 0 c_.States) (zD.mk 0 0 0 0) (z4N (zD.toL (zD.mk 0 0 0 0)) 0 c_.States (by show (0 : Nat) ≤ 4; decide))).symm.trans (congrArg zD.toL h0)))), Hh (.cut 0)] ?_ fun J1 hJ1 => ?_
 ·rintro s_queues hf0
  unfold kY at hf0
  obtain rfl := zl hf0
  exact yE X0 hC hE []
 ·obtain ⟨t2, ht2, hf0⟩ := zo hf0
  refine yL X0 hC vh [1,1,2,1,0] [J1] (fun s => vd c_ s.1 s.2) (fun x => Vk c_ arr x.1 x.2) ((zD.mk (zf.mk 0 (zD.mk 0 0 0 0)) (zf.mk 0 (zD.mk 0 0 0 0)) (zf.mk 0 (zD.mk 0 0 0 0)) (zf.mk 0 (zD.mk 0 0 0 0))), 0) ht2  [Ha (lnM F2_ c_.Queues)] ?_
  rintro ⟨s_queues1, x15⟩ m2 lr1 hf1 hl1 J2 hJ2
  try unfold vd at hf1
  rcases zZ hf1 with ⟨c0, hf1⟩ | ⟨c0, hf1⟩
  ·refine yJ X0 hC vh [1,1,2,1,0,0,1,1] [J1, J2] [2,13,14,15] (fun z : zD zf => je x15 z = some lr1) (fun z => Vl c_ arr x15 z) [(2, .own (.box (.agg [F0_ arr, z3C s_queues1]))), (13, .d (eSl 1 false F2_ c_.Queues)), (14, .d (I ((c_.Queues.length : Nat) : Int))), (15, .d (I x15))] [Hq c0, Hh (.cut 0)] ?_ fun J3 hJ3 => ?_
   ·rintro s_queues2 hf1
    unfold je at hf1
    obtain rfl := zl hf1
    exact yB X0 hC hJ2 (s_queues2, w64 (x15 + 1)) hl1 []
   ·obtain ⟨Queue_e, h1, hf1⟩ := zo hf1
    obtain ⟨t4, ht4, hf1⟩ := zo hf1
    refine yL X0 hC vh [1,1,2,1,0,0,1,1,2,0,1,1,0] [J1, J2, J3] (fun s => wI x15 Queue_e s.1 s.2) (fun x => Vj c_ arr x15 Queue_e x.1 x.2) (s_queues1,0) ht4  [Hi F2_ h1, Ha (lnM (eI .i64) Queue_e)] ?_
    rintro ⟨s_queues3, x22⟩ m4 lr2 hf2 hl2 J4 hJ4
    try unfold wI at hf2
    rcases zZ hf2 with ⟨c1, hf2⟩ | ⟨c1, hf2⟩
    ·obtain ⟨Queue_e_e, h2, hf2⟩ := zo hf2
     obtain ⟨cell, h3, hf2⟩ := zo hf2
     obtain ⟨r_, h4, hf2⟩ := zo hf2
     obtain ⟨cell1, h5, hf2⟩ := zo hf2
     obtain ⟨arr1, h6, hf2⟩ := zo hf2
     replace h6 := zl h6
     obtain rfl := zl hf2
     exact yB X0 hC hJ4 (arr1, w64 (x22 + 1)) hl2 [Hq c1, Hi (eI .i64) h2, Hn (⟨arJ (by kernel_rfl) (i0 h3), (iL F9_ h3).2⟩ : Y6 xZ 113 ((zD.toL s_queues3).map F9_) x15 = true ∧ x15.toNat < ((zD.toL s_queues3).map F9_).length), Hh (.op 6), Hh (.f), Hx (.a (.agg [.agg [I s_queues3.e0.many_, .agg [I s_queues3.e0.l_.e0, I s_queues3.e0.l_.e1, I s_queues3.e0.l_.e2, I s_queues3.e0.l_.e3]], .agg [I s_queues3.e1.many_, .agg [I s_queues3.e1.l_.e0, I s_queues3.e1.l_.e1, I s_queues3.e1.l_.e2, I s_queues3.e1.l_.e3]], .agg [I s_queues3.e2.many_, .agg [I s_queues3.e2.l_.e0, I s_queues3.e2.l_.e1, I s_queues3.e2.l_.e2, I s_queues3.e2.l_.e3]], .agg [I s_queues3.e3.many_, .agg [I s_queues3.e3.l_.e0, I s_queues3.e3.l_.e1, I s_queues3.e3.l_.e2, I s_queues3.e3.l_.e3]]])) (rfl : some (.agg [.agg [I s_queues3.e0.many_, .agg [I s_queues3.e0.l_.e0, I s_queues3.e0.l_.e1, I s_queues3.e0.l_.e2, I s_queues3.e0.l_.e3]], .agg [I s_queues3.e1.many_, .agg [I s_queues3.e1.l_.e0, I s_queues3.e1.l_.e1, I s_queues3.e1.l_.e2, I s_queues3.e1.l_.e3]], .agg [I s_queues3.e2.many_, .agg [I s_queues3.e2.l_.e0, I s_queues3.e2.l_.e1, I s_queues3.e2.l_.e2, I s_queues3.e2.l_.e3]], .agg [I s_queues3.e3.many_, .agg [I s_queues3.e3.l_.e0, I s_queues3.e3.l_.e1, I s_queues3.e3.l_.e2, I s_queues3.e3.l_.e3]]] : A) = some (.agg [.agg [I s_queues3.e0.many_, .agg [I s_queues3.e0.l_.e0, I s_queues3.e0.l_.e1, I s_queues3.e0.l_.e2, I s_queues3.e0.l_.e3]], .agg [I s_queues3.e1.many_, .agg [I s_queues3.e1.l_.e0, I s_queues3.e1.l_.e1, I s_queues3.e1.l_.e2, I s_queues3.e1.l_.e3]], .agg [I s_queues3.e2.many_, .agg [I s_queues3.e2.l_.e0, I s_queues3.e2.l_.e1, I s_queues3.e2.l_.e2, I s_queues3.e2.l_.e3]], .agg [I s_queues3.e3.many_, .agg [I s_queues3.e3.l_.e0, I s_queues3.e3.l_.e1, I s_queues3.e3.l_.e2, I s_queues3.e3.l_.e3]]])), Hh (.f), Hs (iM F9_ h3), Hc h0o (x := (cell, Queue_e_e)) h4 (loC F9_ cell <| loC (eI .i64) Queue_e_e <| loN), Hn (⟨arJ (by kernel_rfl) (i0 h5), (iL F9_ h5).2⟩ : Y6 xZ 113 ((zD.toL s_queues3).map F9_) x15 = true ∧ x15.toNat < ((zD.toL s_queues3).map F9_).length), Hh (.op 2), Hh (.f), Hx (.a (.agg [.agg [I s_queues3.e0.many_, .agg [I s_queues3.e0.l_.e0, I s_queues3.e0.l_.e1, I s_queues3.e0.l_.e2, I s_queues3.e0.l_.e3]], .agg [I s_queues3.e1.many_, .agg [I s_queues3.e1.l_.e0, I s_queues3.e1.l_.e1, I s_queues3.e1.l_.e2, I s_queues3.e1.l_.e3]], .agg [I s_queues3.e2.many_, .agg [I s_queues3.e2.l_.e0, I s_queues3.e2.l_.e1, I s_queues3.e2.l_.e2, I s_queues3.e2.l_.e3]], .agg [I s_queues3.e3.many_, .agg [I s_queues3.e3.l_.e0, I s_queues3.e3.l_.e1, I s_queues3.e3.l_.e2, I s_queues3.e3.l_.e3]]])) (rfl : some (.agg [.agg [I s_queues3.e0.many_, .agg [I s_queues3.e0.l_.e0, I s_queues3.e0.l_.e1, I s_queues3.e0.l_.e2, I s_queues3.e0.l_.e3]], .agg [I s_queues3.e1.many_, .agg [I s_queues3.e1.l_.e0, I s_queues3.e1.l_.e1, I s_queues3.e1.l_.e2, I s_queues3.e1.l_.e3]], .agg [I s_queues3.e2.many_, .agg [I s_queues3.e2.l_.e0, I s_queues3.e2.l_.e1, I s_queues3.e2.l_.e2, I s_queues3.e2.l_.e3]], .agg [I s_queues3.e3.many_, .agg [I s_queues3.e3.l_.e0, I s_queues3.e3.l_.e1, I s_queues3.e3.l_.e2, I s_queues3.e3.l_.e3]]] : A) = some (.agg [.agg [I s_queues3.e0.many_, .agg [I s_queues3.e0.l_.e0, I s_queues3.e0.l_.e1, I s_queues3.e0.l_.e2, I s_queues3.e0.l_.e3]], .agg [I s_queues3.e1.many_, .agg [I s_queues3.e1.l_.e0, I s_queues3.e1.l_.e1, I s_queues3.e1.l_.e2, I s_queues3.e1.l_.e3]], .agg [I s_queues3.e2.many_, .agg [I s_queues3.e2.l_.e0, I s_queues3.e2.l_.e1, I s_queues3.e2.l_.e2, I s_queues3.e2.l_.e3]], .agg [I s_queues3.e3.many_, .agg [I s_queues3.e3.l_.e0, I s_queues3.e3.l_.e1, I s_queues3.e3.l_.e2, I s_queues3.e3.l_.e3]]])), Hh (.f), Hs (iM F9_ h5), Hh (.f), Hx (.a (.agg [.agg [I s_queues3.e0.many_, .agg [I s_queues3.e0.l_.e0, I s_queues3.e0.l_.e1, I s_queues3.e0.l_.e2, I s_queues3.e0.l_.e3]], .agg [I s_queues3.e1.many_, .agg [I s_queues3.e1.l_.e0, I s_queues3.e1.l_.e1, I s_queues3.e1.l_.e2, I s_queues3.e1.l_.e3]], .agg [I s_queues3.e2.many_, .agg [I s_queues3.e2.l_.e0, I s_queues3.e2.l_.e1, I s_queues3.e2.l_.e2, I s_queues3.e2.l_.e3]], .agg [I s_queues3.e3.many_, .agg [I s_queues3.e3.l_.e0, I s_queues3.e3.l_.e1, I s_queues3.e3.l_.e2, I s_queues3.e3.l_.e3]]])) (rfl : some (.agg [.agg [I s_queues3.e0.many_, .agg [I s_queues3.e0.l_.e0, I s_queues3.e0.l_.e1, I s_queues3.e0.l_.e2, I s_queues3.e0.l_.e3]], .agg [I s_queues3.e1.many_, .agg [I s_queues3.e1.l_.e0, I s_queues3.e1.l_.e1, I s_queues3.e1.l_.e2, I s_queues3.e1.l_.e3]], .agg [I s_queues3.e2.many_, .agg [I s_queues3.e2.l_.e0, I s_queues3.e2.l_.e1, I s_queues3.e2.l_.e2, I s_queues3.e2.l_.e3]], .agg [I s_queues3.e3.many_, .agg [I s_queues3.e3.l_.e0, I s_queues3.e3.l_.e1, I s_queues3.e3.l_.e2, I s_queues3.e3.l_.e3]]] : A) = some (.agg [.agg [I s_queues3.e0.many_, .agg [I s_queues3.e0.l_.e0, I s_queues3.e0.l_.e1, I s_queues3.e0.l_.e2, I s_queues3.e0.l_.e3]], .agg [I s_queues3.e1.many_, .agg [I s_queues3.e1.l_.e0, I s_queues3.e1.l_.e1, I s_queues3.e1.l_.e2, I s_queues3.e1.l_.e3]], .agg [I s_queues3.e2.many_, .agg [I s_queues3.e2.l_.e0, I s_queues3.e2.l_.e1, I s_queues3.e2.l_.e2, I s_queues3.e2.l_.e3]], .agg [I s_queues3.e3.many_, .agg [I s_queues3.e3.l_.e0, I s_queues3.e3.l_.e1, I s_queues3.e3.l_.e2, I s_queues3.e3.l_.e3]]])), Hh (.f), Hs (iM F9_ h5), Hx (.l ((zD.toL arr1).map F9_)) ((zD.setL F9_ s_queues3 x15 r_).trans (congrArg (fun q => (zD.toL q).map F9_) h6)), Hx (.l [.agg [I arr.e0, I arr.e1, I arr.e2, I arr.e3], .agg [.agg [I arr1.e0.many_, .agg [I arr1.e0.l_.e0, I arr1.e0.l_.e1, I arr1.e0.l_.e2, I arr1.e0.l_.e3]], .agg [I arr1.e1.many_, .agg [I arr1.e1.l_.e0, I arr1.e1.l_.e1, I arr1.e1.l_.e2, I arr1.e1.l_.e3]], .agg [I arr1.e2.many_, .agg [I arr1.e2.l_.e0, I arr1.e2.l_.e1, I arr1.e2.l_.e2, I arr1.e2.l_.e3]], .agg [I arr1.e3.many_, .agg [I arr1.e3.l_.e0, I arr1.e3.l_.e1, I arr1.e3.l_.e2, I arr1.e3.l_.e3]]]]) (rfl : ([.agg [I arr.e0, I arr.e1, I arr.e2, I arr.e3], .agg [.agg [I arr1.e0.many_, .agg [I arr1.e0.l_.e0, I arr1.e0.l_.e1, I arr1.e0.l_.e2, I arr1.e0.l_.e3]], .agg [I arr1.e1.many_, .agg [I arr1.e1.l_.e0, I arr1.e1.l_.e1, I arr1.e1.l_.e2, I arr1.e1.l_.e3]], .agg [I arr1.e2.many_, .agg [I arr1.e2.l_.e0, I arr1.e2.l_.e1, I arr1.e2.l_.e2, I arr1.e2.l_.e3]], .agg [I arr1.e3.many_, .agg [I arr1.e3.l_.e0, I arr1.e3.l_.e1, I arr1.e3.l_.e2, I arr1.e3.l_.e3]]]] : List A) = [.agg [I arr.e0, I arr.e1, I arr.e2, I arr.e3], .agg [.agg [I arr1.e0.many_, .agg [I arr1.e0.l_.e0, I arr1.e0.l_.e1, I arr1.e0.l_.e2, I arr1.e0.l_.e3]], .agg [I arr1.e1.many_, .agg [I arr1.e1.l_.e0, I arr1.e1.l_.e1, I arr1.e1.l_.e2, I arr1.e1.l_.e3]], .agg [I arr1.e2.many_, .agg [I arr1.e2.l_.e0, I arr1.e2.l_.e1, I arr1.e2.l_.e2, I arr1.e2.l_.e3]], .agg [I arr1.e3.many_, .agg [I arr1.e3.l_.e0, I arr1.e3.l_.e1, I arr1.e3.l_.e2, I arr1.e3.l_.e3]]]])]
    ·obtain rfl := zl hf2
     obtain rfl := hl2
     exact yB X0 hC hJ3 s_queues3 hf1 [Hq c1]
  ·obtain rfl := zl hf1
   obtain rfl := hl1
   exact yB X0 hC hJ1 s_queues1 hf0 [Hq c0]
def Xw : Code := (Tryz.f57.body).getD .skip
def xT : yU := spF (α := z8 × zb) (ρ := z8 × zb) 57 (fun x => [yV x.1, yH x.2]) (fun r => (z3z 82 z0z (eSp yH)) r) (fun x => xi x.1 x.2) [] (Uu)
theorem XJ {ctr : Ctr} (hC : zT Tryz.prog ctr) : xT.Ok Tryz.prog := by
 refine y4 ?_
 rintro ⟨x_, s_⟩ r0 hf0
 try unfold xi at hf0
 refine yO true [(4, none)] Xw 6 Tryz.func57 fun E hE => ?_
 obtain rfl := zl hf0
 exact yEx X0 hC hE [] (.fn 82 [.sptr (.agg [I x_.Messages, I x_.Labels, eSl 1 false (eI .i64) x_.Channels, eSl 3 false wH x_.Parts]), .sptr (.agg [.agg [I s_.states_.e0, I s_.states_.e1, I s_.states_.e2, I s_.states_.e3], .agg [.agg [I s_.queues_.e0.many_, .agg [I s_.queues_.e0.l_.e0, I s_.queues_.e0.l_.e1, I s_.queues_.e0.l_.e2, I s_.queues_.e0.l_.e3]], .agg [I s_.queues_.e1.many_, .agg [I s_.queues_.e1.l_.e0, I s_.queues_.e1.l_.e1, I s_.queues_.e1.l_.e2, I s_.queues_.e1.l_.e3]], .agg [I s_.queues_.e2.many_, .agg [I s_.queues_.e2.l_.e0, I s_.queues_.e2.l_.e1, I s_.queues_.e2.l_.e2, I s_.queues_.e2.l_.e3]], .agg [I s_.queues_.e3.many_, .agg [I s_.queues_.e3.l_.e0, I s_.queues_.e3.l_.e1, I s_.queues_.e3.l_.e2, I s_.queues_.e3.l_.e3]]]])]) (show LeV (.fn 82 [.sptr (.agg [I x_.Messages, I x_.Labels, eSl 1 false (eI .i64) x_.Channels, eSl 3 false wH x_.Parts]), .sptr (.agg [.agg [I s_.states_.e0, I s_.states_.e1, I s_.states_.e2, I s_.states_.e3], .agg [.agg [I s_.queues_.e0.many_, .agg [I s_.queues_.e0.l_.e0, I s_.queues_.e0.l_.e1, I s_.queues_.e0.l_.e2, I s_.queues_.e0.l_.e3]], .agg [I s_.queues_.e1.many_, .agg [I s_.queues_.e1.l_.e0, I s_.queues_.e1.l_.e1, I s_.queues_.e1.l_.e2, I s_.queues_.e1.l_.e3]], .agg [I s_.queues_.e2.many_, .agg [I s_.queues_.e2.l_.e0, I s_.queues_.e2.l_.e1, I s_.queues_.e2.l_.e2, I s_.queues_.e2.l_.e3]], .agg [I s_.queues_.e3.many_, .agg [I s_.queues_.e3.l_.e0, I s_.queues_.e3.l_.e1, I s_.queues_.e3.l_.e2, I s_.queues_.e3.l_.e3]]]])]) (.fn 82 [.sptr (.agg [I (((x_, s_).1).Messages), I (((x_, s_).1).Labels), eSl 1 false (eI .i64) (((x_, s_).1).Channels), eSl 3 false wH (((x_, s_).1).Parts)]), .sptr (.agg [.agg [I ((((x_, s_).2).states_).e0), I ((((x_, s_).2).states_).e1), I ((((x_, s_).2).states_).e2), I ((((x_, s_).2).states_).e3)], .agg [.agg [I (((((x_, s_).2).queues_).e0).many_), .agg [I ((((((x_, s_).2).queues_).e0).l_).e0), I ((((((x_, s_).2).queues_).e0).l_).e1), I ((((((x_, s_).2).queues_).e0).l_).e2), I ((((((x_, s_).2).queues_).e0).l_).e3)]], .agg [I (((((x_, s_).2).queues_).e1).many_), .agg [I ((((((x_, s_).2).queues_).e1).l_).e0), I ((((((x_, s_).2).queues_).e1).l_).e1), I ((((((x_, s_).2).queues_).e1).l_).e2), I ((((((x_, s_).2).queues_).e1).l_).e3)]], .agg [I (((((x_, s_).2).queues_).e2).many_), .agg [I ((((((x_, s_).2).queues_).e2).l_).e0), I ((((((x_, s_).2).queues_).e2).l_).e1), I ((((((x_, s_).2).queues_).e2).l_).e2), I ((((((x_, s_).2).queues_).e2).l_).e3)]], .agg [I (((((x_, s_).2).queues_).e3).many_), .agg [I ((((((x_, s_).2).queues_).e3).l_).e0), I ((((((x_, s_).2).queues_).e3).l_).e1), I ((((((x_, s_).2).queues_).e3).l_).e2), I ((((((x_, s_).2).queues_).e3).l_).e3)]]]])]) from inferInstance)
def XO : Code := (Tryz.f83.body).getD .skip
def xw : yU := spF (α := z8 × zb × Int) (ρ := z8 × Int × zb) 83 (fun x => [yV x.1, yH x.2.1, (eI .i64) x.2.2]) (fun r => (zfN 103 z0z (eSp (eI .i64)) (eSp yH)) r) (fun x => we x.1 x.2.1 x.2.2) [] (z9j)
theorem W2 {ctr : Ctr} (hC : zT Tryz.prog ctr) : xw.Ok Tryz.prog := by
 refine y4 ?_
 rintro ⟨x_, s_, part⟩ r0 hf0
 try unfold we at hf0
 refine yO true [(6, none)] XO 8 Tryz.func83 fun E hE => ?_
 obtain rfl := zl hf0
 exact yEx X0 hC hE [] (.fn 103 [.sptr (.agg [I x_.Messages, I x_.Labels, eSl 1 false (eI .i64) x_.Channels, eSl 3 false wH x_.Parts]), .sptr (I part), .sptr (.agg [.agg [I s_.states_.e0, I s_.states_.e1, I s_.states_.e2, I s_.states_.e3], .agg [.agg [I s_.queues_.e0.many_, .agg [I s_.queues_.e0.l_.e0, I s_.queues_.e0.l_.e1, I s_.queues_.e0.l_.e2, I s_.queues_.e0.l_.e3]], .agg [I s_.queues_.e1.many_, .agg [I s_.queues_.e1.l_.e0, I s_.queues_.e1.l_.e1, I s_.queues_.e1.l_.e2, I s_.queues_.e1.l_.e3]], .agg [I s_.queues_.e2.many_, .agg [I s_.queues_.e2.l_.e0, I s_.queues_.e2.l_.e1, I s_.queues_.e2.l_.e2, I s_.queues_.e2.l_.e3]], .agg [I s_.queues_.e3.many_, .agg [I s_.queues_.e3.l_.e0, I s_.queues_.e3.l_.e1, I s_.queues_.e3.l_.e2, I s_.queues_.e3.l_.e3]]]])]) (show LeV (.fn 103 [.sptr (.agg [I x_.Messages, I x_.Labels, eSl 1 false (eI .i64) x_.Channels, eSl 3 false wH x_.Parts]), .sptr (I part), .sptr (.agg [.agg [I s_.states_.e0, I s_.states_.e1, I s_.states_.e2, I s_.states_.e3], .agg [.agg [I s_.queues_.e0.many_, .agg [I s_.queues_.e0.l_.e0, I s_.queues_.e0.l_.e1, I s_.queues_.e0.l_.e2, I s_.queues_.e0.l_.e3]], .agg [I s_.queues_.e1.many_, .agg [I s_.queues_.e1.l_.e0, I s_.queues_.e1.l_.e1, I s_.queues_.e1.l_.e2, I s_.queues_.e1.l_.e3]], .agg [I s_.queues_.e2.many_, .agg [I s_.queues_.e2.l_.e0, I s_.queues_.e2.l_.e1, I s_.queues_.e2.l_.e2, I s_.queues_.e2.l_.e3]], .agg [I s_.queues_.e3.many_, .agg [I s_.queues_.e3.l_.e0, I s_.queues_.e3.l_.e1, I s_.queues_.e3.l_.e2, I s_.queues_.e3.l_.e3]]]])]) (.fn 103 [.sptr (.agg [I (((x_, part, s_).1).Messages), I (((x_, part, s_).1).Labels), eSl 1 false (eI .i64) (((x_, part, s_).1).Channels), eSl 3 false wH (((x_, part, s_).1).Parts)]), .sptr (I ((x_, part, s_).2.1)), .sptr (.agg [.agg [I ((((x_, part, s_).2.2).states_).e0), I ((((x_, part, s_).2.2).states_).e1), I ((((x_, part, s_).2.2).states_).e2), I ((((x_, part, s_).2.2).states_).e3)], .agg [.agg [I (((((x_, part, s_).2.2).queues_).e0).many_), .agg [I ((((((x_, part, s_).2.2).queues_).e0).l_).e0), I ((((((x_, part, s_).2.2).queues_).e0).l_).e1), I ((((((x_, part, s_).2.2).queues_).e0).l_).e2), I ((((((x_, part, s_).2.2).queues_).e0).l_).e3)]], .agg [I (((((x_, part, s_).2.2).queues_).e1).many_), .agg [I ((((((x_, part, s_).2.2).queues_).e1).l_).e0), I ((((((x_, part, s_).2.2).queues_).e1).l_).e1), I ((((((x_, part, s_).2.2).queues_).e1).l_).e2), I ((((((x_, part, s_).2.2).queues_).e1).l_).e3)]], .agg [I (((((x_, part, s_).2.2).queues_).e2).many_), .agg [I ((((((x_, part, s_).2.2).queues_).e2).l_).e0), I ((((((x_, part, s_).2.2).queues_).e2).l_).e1), I ((((((x_, part, s_).2.2).queues_).e2).l_).e2), I ((((((x_, part, s_).2.2).queues_).e2).l_).e3)]], .agg [I (((((x_, part, s_).2.2).queues_).e3).many_), .agg [I ((((((x_, part, s_).2.2).queues_).e3).l_).e0), I ((((((x_, part, s_).2.2).queues_).e3).l_).e1), I ((((((x_, part, s_).2.2).queues_).e3).l_).e2), I ((((((x_, part, s_).2.2).queues_).e3).l_).e3)]]]])]) from inferInstance)
def uc : Code := (Tryz.f103.body).getD .skip
abbrev ZX {σ : Type} (x1 : Int) (x2 : zb) (YY : σ → z0y) (Part_e : zi) (x14 : Int) (sg2 : σ) : List (Nat × T) := [(0, .own (.opq (YY sg2).q)), (2, .d (.sptr (I x1))), (3, .d (.sptr (yH x2))), (12, .d (eSl 5 false vW Part_e.Arcs)), (13, .d (I ((Part_e.Arcs.length : Nat) : Int))), (14, .d (I x14))]
abbrev ZW {σ : Type} (x1 : Int) (x2 : zb) (YY : σ → z0y) (Part_e : zi) (sg1 : σ) (x14 : Int) : List (Nat × T) := [(0, .own (.opq (YY sg1).q)), (2, .d (.sptr (I x1))), (3, .d (.sptr (yH x2))), (12, .d (eSl 5 false vW Part_e.Arcs)), (13, .d (I ((Part_e.Arcs.length : Nat) : Int))), (14, .d (I x14))]
theorem jO {ctr : Ctr} (hC : zT Tryz.prog ctr) (x0 : z8) (x1 : Int) (x2 : zb) : z5f Tryz.prog (.fn 103 [.sptr (.agg [I x0.Messages, I x0.Labels, eSl 1 false (eI .i64) x0.Channels, eSl 3 false wH x0.Parts]), .sptr (I x1), .sptr (.agg [.agg [I x2.states_.e0, I x2.states_.e1, I x2.states_.e2, I x2.states_.e3], .agg [.agg [I x2.queues_.e0.many_, .agg [I x2.queues_.e0.l_.e0, I x2.queues_.e0.l_.e1, I x2.queues_.e0.l_.e2, I x2.queues_.e0.l_.e3]], .agg [I x2.queues_.e1.many_, .agg [I x2.queues_.e1.l_.e0, I x2.queues_.e1.l_.e1, I x2.queues_.e1.l_.e2, I x2.queues_.e1.l_.e3]], .agg [I x2.queues_.e2.many_, .agg [I x2.queues_.e2.l_.e0, I x2.queues_.e2.l_.e1, I x2.queues_.e2.l_.e2, I x2.queues_.e2.l_.e3]], .agg [I x2.queues_.e3.many_, .agg [I x2.queues_.e3.l_.e0, I x2.queues_.e3.l_.e1, I x2.queues_.e3.l_.e2, I x2.queues_.e3.l_.e3]]]])]) (fun (x : Int × ze) (_ : Bool) (_ : Value) => [(eI .i64) x.1, vW x.2]) (@yh x0 x1 x2) := by
 refine z4t (tt := xZ) (nt := 34) (body := uc) zR Tryz.func103 rfl (by kernel_rfl) rfl rfl (by show (4 : Nat) ≤ 34; decide) ?_
 intro σ yv YY yy hy sg r0 hf0 E hE
 unfold yh at hf0
 obtain ⟨Part_e, h0, hf0⟩ := zo hf0
 obtain ⟨t1, ht1, hf0⟩ := zo hf0
 refine yL X0 hC uc [1,0] [] (fun s => xH x1 x2 yy Part_e s.1 s.2) (fun x => ZW x1 x2 YY Part_e x.1 x.2) (sg, 0) ht1  [Hi wH h0, Ha (lnM vW Part_e.Arcs)] ?_
 rintro ⟨sg1, x14⟩ m1 lr1 hf1 hl1 J1 hJ1
 try unfold xH at hf1
 rcases zZ hf1 with ⟨c0, hf1⟩ | ⟨c0, hf1⟩
 ·refine yJ X0 hC uc [1,0,0,1,1] [J1] [0,2,3,12,13,14] (fun z : σ => wF x14 z = some lr1) (fun z => ZX x1 x2 YY Part_e x14 z) [(0, .own (.opq (YY sg1).q)), (2, .d (.sptr (I x1))), (3, .d (.sptr (yH x2))), (12, .d (eSl 5 false vW Part_e.Arcs)), (13, .d (I ((Part_e.Arcs.length : Nat) : Int))), (14, .d (I x14))] [Hq c0, Hh (.cut 0)] ?_ fun J2 hJ2 => ?_
  ·rintro sg2 hf1
   unfold wF at hf1
   obtain rfl := zl hf1
   exact yB X0 hC hJ1 (sg2, w64 (x14 + 1)) hl1 []
  ·obtain ⟨Arc_e, h1, hf1⟩ := zo hf1
   obtain ⟨cell, h2, hf1⟩ := zo hf1
   let Z0 : List HO := [Hi vW h1, Hs (iM (eI .i64) h2), Hn (arJ (by kernel_rfl) (i0 h2) : Y6 xZ 110 ((zD.toL x2.states_).map (eI .i64)) x1 = true)]
   rcases zZ hf1 with ⟨c1, hf1⟩ | ⟨c1, hf1⟩
   ·obtain ⟨yr, h3, hf1⟩ := zo hf1
    let Z1 : List HO := (Z0 ++ (rpN 4 (Hq c1) [Hn (z1U (yv := yv) (Y := YY) (enc := (fun (x : Int × ze) (_ : Bool) (_ : Value) => [(eI .i64) x.1, vW x.2])) (s := sg1) (x := (x14, Arc_e)) (s' := yr.1) (b := yr.2) (v := .nilFunc) [(eI .i64) x14, vW Arc_e] (show z0w [(eI .i64) x14, vW Arc_e] [(eI .i64) x14, vW Arc_e] from inferInstance)), Hq c1, Hq c1]))
    rcases zZ hf1 with ⟨c2, hf1⟩ | ⟨c2, hf1⟩
    ·obtain rfl := zl hf1
     obtain rfl := hl1
     obtain rfl := zl hf0
     exact yF ((Kn (P := Tryz.prog) xZ hy 30 (s := sg1) (x := (x14, Arc_e)) (s' := yr.1) (b := yr.2) .nilFunc h3).or X0) hC .ret [(0, .own (.opq (YY yr.1).q))] (Z1 ++ [Hq c2]) fun st0 h0 => hE _ st0 (.inr rfl) h0
    ·exact yB ((Kn (P := Tryz.prog) xZ hy 30 (s := sg1) (x := (x14, Arc_e)) (s' := yr.1) (b := yr.2) .nilFunc h3).or X0) hC hJ2 yr.1 hf1 (Z1 ++ [Hq c2])
   ·exact yB X0 hC hJ2 sg1 hf1 (Z0 ++ (rpN 6 (Hq c1) [qF]))
 ·obtain rfl := zl hf1
  obtain rfl := hl1
  obtain rfl := zl hf0
  exact yF X0 hC .normal [(0, .own (.opq (YY sg1).q))] [Hq c0] fun st0 h0 => hE _ st0 (.inl rfl) h0
def kU : Code := (Tryz.f104.body).getD .skip
def qD : yU := spF (α := zf) (ρ := zf) 104 (fun x => [F9_ x]) (fun r => F9_ r) (fun x => qe x) [] (Qp)
theorem WB {ctr : Ctr} (hC : zT Tryz.prog ctr) : qD.Ok Tryz.prog := by
 refine y4 ?_
 rintro q_ r0 hf0
 try unfold qe at hf0
 refine yO false [(2, some 112)] kU 15 Tryz.func104 fun E hE => ?_
 refine yA X0 hC kU [1] [] [(1, .own (.box (F9_ q_))), (2, .own (.box (.agg [I 0, .agg [I 0, I 0, I 0, I 0]])))] [Hh (.cut 1)] ?_
 refine z2o (y := .box (.agg [I q_.many_, .agg [I q_.l_.e0, I q_.l_.e1, I q_.l_.e2, I q_.l_.e3]])) (by kernel_rfl) 1 (by kernel_rfl) (by kernel_rfl) fun pv1 hv1 => ?_
 obtain ⟨arr, h0, hf0⟩ := zo hf0
 replace h0 := zl h0
 obtain rfl := zl hf0
 exact yE ((xCp zR 7 1 1 0 pv1 (some 1)).or ((xAv zR 6 1 1 1 pv1).or ((xAv zR 4 1 1 0 pv1).or X0))) hC hE [Hn (⟨rfl, rfl⟩ : T.ptr 1 [.deref, .fld 1] 0 0 = T.ptr 1 [.deref, .fld 1] 0 0 ∧ some pv1 = some pv1), Hn (⟨rfl, rfl⟩ : T.ptr 1 [.deref, .fld 1] 0 0 = T.ptr 1 [.deref, .fld 1] 0 0 ∧ some pv1 = some pv1), Hn (⟨rfl, by decide⟩ : T.d (.atom (z0t pv1 1 1 4)) = T.d (.atom (z0t pv1 1 1 4)) ∧ 1 ≤ 4), Hn (⟨rfl, rfl⟩ : T.d (.atom (z0t pv1 1 0 4)) = T.d (.atom (z0t pv1 1 0 4)) ∧ some pv1 = some pv1), Hn (dM (eI .i64) ((zD.toL q_.l_).drop 1)), Hx (.l ((zD.toL arr).map (eI .i64))) ((z4M (eI .i64) (zD.toL q_.l_) 0 ((zD.toL q_.l_).drop 1)).trans (congrArg (fun q => q.map (eI .i64)) ((zD.toL_ofL (cpA (zD.toL q_.l_) 0 ((zD.toL q_.l_).drop 1)) q_.l_ (z4N (zD.toL q_.l_) 0 ((zD.toL q_.l_).drop 1) (by show (0 : Nat) ≤ 4; decide))).symm.trans (congrArg zD.toL h0)))), Hn (⟨rfl, by decide⟩ : true = true ∧ 3 < 4)]
def qa : Code := (Tryz.f84.body).getD .skip
def xv : yU := spF (α := z8 × zb × Int × ze) (ρ := zb × Bool) 84 (fun x => [yV x.1, yH x.2.1, (eI .i64) x.2.2.1, vW x.2.2.2]) (fun r => .tup [yH r.1, (eEr 0 201) r.2]) (fun x => xF x.1 x.2.1 x.2.2.1 x.2.2.2) [] (zeG)
abbrev YG (arr : zD Int) (s_queues : zD zf) : List (Nat × T) := [(5, .own (.box (.agg [F0_ arr, z3C s_queues]))), (8, .own (.box (.agg [.agg [I 0, I 0, I 0, I 0], .agg [.agg [I 0, .agg [I 0, I 0, I 0, I 0]], .agg [I 0, .agg [I 0, I 0, I 0, I 0]], .agg [I 0, .agg [I 0, I 0, I 0, I 0]], .agg [I 0, .agg [I 0, I 0, I 0, I 0]]]])))]
abbrev YF (s_ : zb) (a_ : ze) (arr : zD Int) (cell1 : zf) (x33 : Bool) : List (Nat × T) := [(5, .own (.box (.agg [F0_ arr, z3C s_.queues_]))), (7, .own (.box (vW a_))), (8, .own (.box (.agg [.agg [I 0, I 0, I 0, I 0], .agg [.agg [I 0, .agg [I 0, I 0, I 0, I 0]], .agg [I 0, .agg [I 0, I 0, I 0, I 0]], .agg [I 0, .agg [I 0, I 0, I 0, I 0]], .agg [I 0, .agg [I 0, I 0, I 0, I 0]]]]))), (10, .own (.box (F9_ cell1))), (33, .d (B x33))]
theorem W1 {ctr : Ctr} (hC : zT Tryz.prog ctr) (h0o : ctr.Has vU) (h0Q : ctr.Has qD) : xv.Ok Tryz.prog := by
 refine y4 ?_
 rintro ⟨x_, s_, part, a_⟩ r0 hf0
 try unfold xF at hf0
 refine yO false [(8, some 115), (9, none)] qa 86 Tryz.func84 fun E hE => ?_
 obtain ⟨cell, h0, hf0⟩ := zo hf0
 obtain ⟨arr, h1, hf0⟩ := zo hf0
 replace h1 := zl h1
 obtain ⟨cell1, h2, hf0⟩ := zo hf0
 refine yJ ((xNe Tryz.prog 9 0 201).or X0) hC qa [1,1,1] [] [5,8] (fun z : zD zf => wZ arr z = some r0) (fun z => YG arr z) [(4, .own (.box (yV x_))), (5, .own (.box (.agg [F0_ arr, z3C s_.queues_]))), (7, .own (.box (vW a_))), (8, .own (.box (.agg [.agg [I 0, I 0, I 0, I 0], .agg [.agg [I 0, .agg [I 0, I 0, I 0, I 0]], .agg [I 0, .agg [I 0, I 0, I 0, I 0]], .agg [I 0, .agg [I 0, I 0, I 0, I 0]], .agg [I 0, .agg [I 0, I 0, I 0, I 0]]]]))), (10, .own (.box (F9_ cell1)))] [Hn (⟨arJ (by kernel_rfl) (i0 h0), (iL (eI .i64) h0).2⟩ : Y6 xZ 110 ((zD.toL s_.states_).map (eI .i64)) part = true ∧ part.toNat < ((zD.toL s_.states_).map (eI .i64)).length), Hh (.op 10), Hh (.f), Hx (.a (.agg [I s_.states_.e0, I s_.states_.e1, I s_.states_.e2, I s_.states_.e3])) (rfl : some (.agg [I s_.states_.e0, I s_.states_.e1, I s_.states_.e2, I s_.states_.e3] : A) = some (.agg [I s_.states_.e0, I s_.states_.e1, I s_.states_.e2, I s_.states_.e3])), Hh (.f), Hs (iM (eI .i64) h0), Hh (.f), Hx (.a (.agg [I s_.states_.e0, I s_.states_.e1, I s_.states_.e2, I s_.states_.e3])) (rfl : some (.agg [I s_.states_.e0, I s_.states_.e1, I s_.states_.e2, I s_.states_.e3] : A) = some (.agg [I s_.states_.e0, I s_.states_.e1, I s_.states_.e2, I s_.states_.e3])), Hh (.f), Hs (iM (eI .i64) h0), Hx (.l ((zD.toL arr).map (eI .i64))) ((zD.setL (eI .i64) s_.states_ part a_.To).trans (congrArg (fun q => (zD.toL q).map (eI .i64)) h1)), Hx (.l [.agg [I arr.e0, I arr.e1, I arr.e2, I arr.e3], .agg [.agg [I s_.queues_.e0.many_, .agg [I s_.queues_.e0.l_.e0, I s_.queues_.e0.l_.e1, I s_.queues_.e0.l_.e2, I s_.queues_.e0.l_.e3]], .agg [I s_.queues_.e1.many_, .agg [I s_.queues_.e1.l_.e0, I s_.queues_.e1.l_.e1, I s_.queues_.e1.l_.e2, I s_.queues_.e1.l_.e3]], .agg [I s_.queues_.e2.many_, .agg [I s_.queues_.e2.l_.e0, I s_.queues_.e2.l_.e1, I s_.queues_.e2.l_.e2, I s_.queues_.e2.l_.e3]], .agg [I s_.queues_.e3.many_, .agg [I s_.queues_.e3.l_.e0, I s_.queues_.e3.l_.e1, I s_.queues_.e3.l_.e2, I s_.queues_.e3.l_.e3]]]]) (rfl : ([.agg [I arr.e0, I arr.e1, I arr.e2, I arr.e3], .agg [.agg [I s_.queues_.e0.many_, .agg [I s_.queues_.e0.l_.e0, I s_.queues_.e0.l_.e1, I s_.queues_.e0.l_.e2, I s_.queues_.e0.l_.e3]], .agg [I s_.queues_.e1.many_, .agg [I s_.queues_.e1.l_.e0, I s_.queues_.e1.l_.e1, I s_.queues_.e1.l_.e2, I s_.queues_.e1.l_.e3]], .agg [I s_.queues_.e2.many_, .agg [I s_.queues_.e2.l_.e0, I s_.queues_.e2.l_.e1, I s_.queues_.e2.l_.e2, I s_.queues_.e2.l_.e3]], .agg [I s_.queues_.e3.many_, .agg [I s_.queues_.e3.l_.e0, I s_.queues_.e3.l_.e1, I s_.queues_.e3.l_.e2, I s_.queues_.e3.l_.e3]]]] : List A) = [.agg [I arr.e0, I arr.e1, I arr.e2, I arr.e3], .agg [.agg [I s_.queues_.e0.many_, .agg [I s_.queues_.e0.l_.e0, I s_.queues_.e0.l_.e1, I s_.queues_.e0.l_.e2, I s_.queues_.e0.l_.e3]], .agg [I s_.queues_.e1.many_, .agg [I s_.queues_.e1.l_.e0, I s_.queues_.e1.l_.e1, I s_.queues_.e1.l_.e2, I s_.queues_.e1.l_.e3]], .agg [I s_.queues_.e2.many_, .agg [I s_.queues_.e2.l_.e0, I s_.queues_.e2.l_.e1, I s_.queues_.e2.l_.e2, I s_.queues_.e2.l_.e3]], .agg [I s_.queues_.e3.many_, .agg [I s_.queues_.e3.l_.e0, I s_.queues_.e3.l_.e1, I s_.queues_.e3.l_.e2, I s_.queues_.e3.l_.e3]]]]), Hn (⟨arJ (by kernel_rfl) (i0 h2), (iL F9_ h2).2⟩ : Y6 xZ 113 ((zD.toL s_.queues_).map F9_) (mn a_.Channel 3) = true ∧ (mn a_.Channel 3).toNat < ((zD.toL s_.queues_).map F9_).length), Hh (.op 5), Hh (.f), Hx (.a (.agg [.agg [I s_.queues_.e0.many_, .agg [I s_.queues_.e0.l_.e0, I s_.queues_.e0.l_.e1, I s_.queues_.e0.l_.e2, I s_.queues_.e0.l_.e3]], .agg [I s_.queues_.e1.many_, .agg [I s_.queues_.e1.l_.e0, I s_.queues_.e1.l_.e1, I s_.queues_.e1.l_.e2, I s_.queues_.e1.l_.e3]], .agg [I s_.queues_.e2.many_, .agg [I s_.queues_.e2.l_.e0, I s_.queues_.e2.l_.e1, I s_.queues_.e2.l_.e2, I s_.queues_.e2.l_.e3]], .agg [I s_.queues_.e3.many_, .agg [I s_.queues_.e3.l_.e0, I s_.queues_.e3.l_.e1, I s_.queues_.e3.l_.e2, I s_.queues_.e3.l_.e3]]])) (rfl : some (.agg [.agg [I s_.queues_.e0.many_, .agg [I s_.queues_.e0.l_.e0, I s_.queues_.e0.l_.e1, I s_.queues_.e0.l_.e2, I s_.queues_.e0.l_.e3]], .agg [I s_.queues_.e1.many_, .agg [I s_.queues_.e1.l_.e0, I s_.queues_.e1.l_.e1, I s_.queues_.e1.l_.e2, I s_.queues_.e1.l_.e3]], .agg [I s_.queues_.e2.many_, .agg [I s_.queues_.e2.l_.e0, I s_.queues_.e2.l_.e1, I s_.queues_.e2.l_.e2, I s_.queues_.e2.l_.e3]], .agg [I s_.queues_.e3.many_, .agg [I s_.queues_.e3.l_.e0, I s_.queues_.e3.l_.e1, I s_.queues_.e3.l_.e2, I s_.queues_.e3.l_.e3]]] : A) = some (.agg [.agg [I s_.queues_.e0.many_, .agg [I s_.queues_.e0.l_.e0, I s_.queues_.e0.l_.e1, I s_.queues_.e0.l_.e2, I s_.queues_.e0.l_.e3]], .agg [I s_.queues_.e1.many_, .agg [I s_.queues_.e1.l_.e0, I s_.queues_.e1.l_.e1, I s_.queues_.e1.l_.e2, I s_.queues_.e1.l_.e3]], .agg [I s_.queues_.e2.many_, .agg [I s_.queues_.e2.l_.e0, I s_.queues_.e2.l_.e1, I s_.queues_.e2.l_.e2, I s_.queues_.e2.l_.e3]], .agg [I s_.queues_.e3.many_, .agg [I s_.queues_.e3.l_.e0, I s_.queues_.e3.l_.e1, I s_.queues_.e3.l_.e2, I s_.queues_.e3.l_.e3]]])), Hh (.f), Hs (iM F9_ h2), Hh (.cut 0)] ?_ fun J1 hJ1 => ?_
 ·rintro s_queues hf0
  unfold wZ at hf0
  obtain rfl := zl hf0
  exact yE ((xNe Tryz.prog 9 0 201).or X0) hC hE []
 ·rcases zZ hf0 with ⟨c0, hf0⟩ | ⟨c0, hf0⟩
  ·obtain rfl := zl hf0
   exact yE ((xNe Tryz.prog 9 0 201).or X0) hC hE [Hq c0]
  ·refine yJ X0 hC qa [1,1,1,2,0,1,1] [J1] [5,7,8,10,33] (fun z : Bool => zS s_ a_ arr cell1 z = some r0) (fun z => YF s_ a_ arr cell1 z) [(4, .own (.box (yV x_))), (5, .own (.box (.agg [F0_ arr, z3C s_.queues_]))), (7, .own (.box (vW a_))), (8, .own (.box (.agg [.agg [I 0, I 0, I 0, I 0], .agg [.agg [I 0, .agg [I 0, I 0, I 0, I 0]], .agg [I 0, .agg [I 0, I 0, I 0, I 0]], .agg [I 0, .agg [I 0, I 0, I 0, I 0]], .agg [I 0, .agg [I 0, I 0, I 0, I 0]]]]))), (10, .own (.box (F9_ cell1)))] [Hq c0, Hh (.cut 0)] ?_ fun J2 hJ2 => ?_
   ·rintro x33 hf0
    unfold zS at hf0
    rcases zZ hf0 with ⟨c1, hf0⟩ | ⟨c1, hf0⟩
    ·obtain rfl := zl hf0
     exact yE X0 hC hE [Hq c1]
    ·rcases zZ hf0 with ⟨c2, hf0⟩ | ⟨c2, hf0⟩
     ·obtain ⟨r_, h3, hf0⟩ := zo hf0
      obtain ⟨cell2, h4, hf0⟩ := zo hf0
      obtain ⟨arr1, h5, hf0⟩ := zo hf0
      replace h5 := zl h5
      exact yB X0 hC hJ1 arr1 hf0 [Hq c1, Hq c2, Hc h0o (x := (cell1, a_.Message)) h3 (loC F9_ cell1 <| loC (eI .i64) a_.Message <| loN), Hn (⟨arJ (by kernel_rfl) (i0 h4), (iL F9_ h4).2⟩ : Y6 xZ 113 ((zD.toL s_.queues_).map F9_) a_.Channel = true ∧ a_.Channel.toNat < ((zD.toL s_.queues_).map F9_).length), Hh (.op 2), Hh (.f), Hx (.a (.agg [.agg [I s_.queues_.e0.many_, .agg [I s_.queues_.e0.l_.e0, I s_.queues_.e0.l_.e1, I s_.queues_.e0.l_.e2, I s_.queues_.e0.l_.e3]], .agg [I s_.queues_.e1.many_, .agg [I s_.queues_.e1.l_.e0, I s_.queues_.e1.l_.e1, I s_.queues_.e1.l_.e2, I s_.queues_.e1.l_.e3]], .agg [I s_.queues_.e2.many_, .agg [I s_.queues_.e2.l_.e0, I s_.queues_.e2.l_.e1, I s_.queues_.e2.l_.e2, I s_.queues_.e2.l_.e3]], .agg [I s_.queues_.e3.many_, .agg [I s_.queues_.e3.l_.e0, I s_.queues_.e3.l_.e1, I s_.queues_.e3.l_.e2, I s_.queues_.e3.l_.e3]]])) (rfl : some (.agg [.agg [I s_.queues_.e0.many_, .agg [I s_.queues_.e0.l_.e0, I s_.queues_.e0.l_.e1, I s_.queues_.e0.l_.e2, I s_.queues_.e0.l_.e3]], .agg [I s_.queues_.e1.many_, .agg [I s_.queues_.e1.l_.e0, I s_.queues_.e1.l_.e1, I s_.queues_.e1.l_.e2, I s_.queues_.e1.l_.e3]], .agg [I s_.queues_.e2.many_, .agg [I s_.queues_.e2.l_.e0, I s_.queues_.e2.l_.e1, I s_.queues_.e2.l_.e2, I s_.queues_.e2.l_.e3]], .agg [I s_.queues_.e3.many_, .agg [I s_.queues_.e3.l_.e0, I s_.queues_.e3.l_.e1, I s_.queues_.e3.l_.e2, I s_.queues_.e3.l_.e3]]] : A) = some (.agg [.agg [I s_.queues_.e0.many_, .agg [I s_.queues_.e0.l_.e0, I s_.queues_.e0.l_.e1, I s_.queues_.e0.l_.e2, I s_.queues_.e0.l_.e3]], .agg [I s_.queues_.e1.many_, .agg [I s_.queues_.e1.l_.e0, I s_.queues_.e1.l_.e1, I s_.queues_.e1.l_.e2, I s_.queues_.e1.l_.e3]], .agg [I s_.queues_.e2.many_, .agg [I s_.queues_.e2.l_.e0, I s_.queues_.e2.l_.e1, I s_.queues_.e2.l_.e2, I s_.queues_.e2.l_.e3]], .agg [I s_.queues_.e3.many_, .agg [I s_.queues_.e3.l_.e0, I s_.queues_.e3.l_.e1, I s_.queues_.e3.l_.e2, I s_.queues_.e3.l_.e3]]])), Hh (.f), Hs (iM F9_ h4), Hh (.f), Hx (.a (.agg [.agg [I s_.queues_.e0.many_, .agg [I s_.queues_.e0.l_.e0, I s_.queues_.e0.l_.e1, I s_.queues_.e0.l_.e2, I s_.queues_.e0.l_.e3]], .agg [I s_.queues_.e1.many_, .agg [I s_.queues_.e1.l_.e0, I s_.queues_.e1.l_.e1, I s_.queues_.e1.l_.e2, I s_.queues_.e1.l_.e3]], .agg [I s_.queues_.e2.many_, .agg [I s_.queues_.e2.l_.e0, I s_.queues_.e2.l_.e1, I s_.queues_.e2.l_.e2, I s_.queues_.e2.l_.e3]], .agg [I s_.queues_.e3.many_, .agg [I s_.queues_.e3.l_.e0, I s_.queues_.e3.l_.e1, I s_.queues_.e3.l_.e2, I s_.queues_.e3.l_.e3]]])) (rfl : some (.agg [.agg [I s_.queues_.e0.many_, .agg [I s_.queues_.e0.l_.e0, I s_.queues_.e0.l_.e1, I s_.queues_.e0.l_.e2, I s_.queues_.e0.l_.e3]], .agg [I s_.queues_.e1.many_, .agg [I s_.queues_.e1.l_.e0, I s_.queues_.e1.l_.e1, I s_.queues_.e1.l_.e2, I s_.queues_.e1.l_.e3]], .agg [I s_.queues_.e2.many_, .agg [I s_.queues_.e2.l_.e0, I s_.queues_.e2.l_.e1, I s_.queues_.e2.l_.e2, I s_.queues_.e2.l_.e3]], .agg [I s_.queues_.e3.many_, .agg [I s_.queues_.e3.l_.e0, I s_.queues_.e3.l_.e1, I s_.queues_.e3.l_.e2, I s_.queues_.e3.l_.e3]]] : A) = some (.agg [.agg [I s_.queues_.e0.many_, .agg [I s_.queues_.e0.l_.e0, I s_.queues_.e0.l_.e1, I s_.queues_.e0.l_.e2, I s_.queues_.e0.l_.e3]], .agg [I s_.queues_.e1.many_, .agg [I s_.queues_.e1.l_.e0, I s_.queues_.e1.l_.e1, I s_.queues_.e1.l_.e2, I s_.queues_.e1.l_.e3]], .agg [I s_.queues_.e2.many_, .agg [I s_.queues_.e2.l_.e0, I s_.queues_.e2.l_.e1, I s_.queues_.e2.l_.e2, I s_.queues_.e2.l_.e3]], .agg [I s_.queues_.e3.many_, .agg [I s_.queues_.e3.l_.e0, I s_.queues_.e3.l_.e1, I s_.queues_.e3.l_.e2, I s_.queues_.e3.l_.e3]]])), Hh (.f), Hs (iM F9_ h4), Hx (.l ((zD.toL arr1).map F9_)) ((zD.setL F9_ s_.queues_ a_.Channel r_).trans (congrArg (fun q => (zD.toL q).map F9_) h5)), Hx (.l [.agg [I arr.e0, I arr.e1, I arr.e2, I arr.e3], .agg [.agg [I arr1.e0.many_, .agg [I arr1.e0.l_.e0, I arr1.e0.l_.e1, I arr1.e0.l_.e2, I arr1.e0.l_.e3]], .agg [I arr1.e1.many_, .agg [I arr1.e1.l_.e0, I arr1.e1.l_.e1, I arr1.e1.l_.e2, I arr1.e1.l_.e3]], .agg [I arr1.e2.many_, .agg [I arr1.e2.l_.e0, I arr1.e2.l_.e1, I arr1.e2.l_.e2, I arr1.e2.l_.e3]], .agg [I arr1.e3.many_, .agg [I arr1.e3.l_.e0, I arr1.e3.l_.e1, I arr1.e3.l_.e2, I arr1.e3.l_.e3]]]]) (rfl : ([.agg [I arr.e0, I arr.e1, I arr.e2, I arr.e3], .agg [.agg [I arr1.e0.many_, .agg [I arr1.e0.l_.e0, I arr1.e0.l_.e1, I arr1.e0.l_.e2, I arr1.e0.l_.e3]], .agg [I arr1.e1.many_, .agg [I arr1.e1.l_.e0, I arr1.e1.l_.e1, I arr1.e1.l_.e2, I arr1.e1.l_.e3]], .agg [I arr1.e2.many_, .agg [I arr1.e2.l_.e0, I arr1.e2.l_.e1, I arr1.e2.l_.e2, I arr1.e2.l_.e3]], .agg [I arr1.e3.many_, .agg [I arr1.e3.l_.e0, I arr1.e3.l_.e1, I arr1.e3.l_.e2, I arr1.e3.l_.e3]]]] : List A) = [.agg [I arr.e0, I arr.e1, I arr.e2, I arr.e3], .agg [.agg [I arr1.e0.many_, .agg [I arr1.e0.l_.e0, I arr1.e0.l_.e1, I arr1.e0.l_.e2, I arr1.e0.l_.e3]], .agg [I arr1.e1.many_, .agg [I arr1.e1.l_.e0, I arr1.e1.l_.e1, I arr1.e1.l_.e2, I arr1.e1.l_.e3]], .agg [I arr1.e2.many_, .agg [I arr1.e2.l_.e0, I arr1.e2.l_.e1, I arr1.e2.l_.e2, I arr1.e2.l_.e3]], .agg [I arr1.e3.many_, .agg [I arr1.e3.l_.e0, I arr1.e3.l_.e1, I arr1.e3.l_.e2, I arr1.e3.l_.e3]]]])]
     ·obtain ⟨r_1, h6, hf0⟩ := zo hf0
      obtain ⟨cell3, h7, hf0⟩ := zo hf0
      obtain ⟨arr2, h8, hf0⟩ := zo hf0
      replace h8 := zl h8
      exact yB X0 hC hJ1 arr2 hf0 [Hq c1, Hq c2, Hc h0Q (x := cell1) h6 (loC F9_ cell1 <| loN), Hn (⟨arJ (by kernel_rfl) (i0 h7), (iL F9_ h7).2⟩ : Y6 xZ 113 ((zD.toL s_.queues_).map F9_) a_.Channel = true ∧ a_.Channel.toNat < ((zD.toL s_.queues_).map F9_).length), Hh (.op 2), Hh (.f), Hx (.a (.agg [.agg [I s_.queues_.e0.many_, .agg [I s_.queues_.e0.l_.e0, I s_.queues_.e0.l_.e1, I s_.queues_.e0.l_.e2, I s_.queues_.e0.l_.e3]], .agg [I s_.queues_.e1.many_, .agg [I s_.queues_.e1.l_.e0, I s_.queues_.e1.l_.e1, I s_.queues_.e1.l_.e2, I s_.queues_.e1.l_.e3]], .agg [I s_.queues_.e2.many_, .agg [I s_.queues_.e2.l_.e0, I s_.queues_.e2.l_.e1, I s_.queues_.e2.l_.e2, I s_.queues_.e2.l_.e3]], .agg [I s_.queues_.e3.many_, .agg [I s_.queues_.e3.l_.e0, I s_.queues_.e3.l_.e1, I s_.queues_.e3.l_.e2, I s_.queues_.e3.l_.e3]]])) (rfl : some (.agg [.agg [I s_.queues_.e0.many_, .agg [I s_.queues_.e0.l_.e0, I s_.queues_.e0.l_.e1, I s_.queues_.e0.l_.e2, I s_.queues_.e0.l_.e3]], .agg [I s_.queues_.e1.many_, .agg [I s_.queues_.e1.l_.e0, I s_.queues_.e1.l_.e1, I s_.queues_.e1.l_.e2, I s_.queues_.e1.l_.e3]], .agg [I s_.queues_.e2.many_, .agg [I s_.queues_.e2.l_.e0, I s_.queues_.e2.l_.e1, I s_.queues_.e2.l_.e2, I s_.queues_.e2.l_.e3]], .agg [I s_.queues_.e3.many_, .agg [I s_.queues_.e3.l_.e0, I s_.queues_.e3.l_.e1, I s_.queues_.e3.l_.e2, I s_.queues_.e3.l_.e3]]] : A) = some (.agg [.agg [I s_.queues_.e0.many_, .agg [I s_.queues_.e0.l_.e0, I s_.queues_.e0.l_.e1, I s_.queues_.e0.l_.e2, I s_.queues_.e0.l_.e3]], .agg [I s_.queues_.e1.many_, .agg [I s_.queues_.e1.l_.e0, I s_.queues_.e1.l_.e1, I s_.queues_.e1.l_.e2, I s_.queues_.e1.l_.e3]], .agg [I s_.queues_.e2.many_, .agg [I s_.queues_.e2.l_.e0, I s_.queues_.e2.l_.e1, I s_.queues_.e2.l_.e2, I s_.queues_.e2.l_.e3]], .agg [I s_.queues_.e3.many_, .agg [I s_.queues_.e3.l_.e0, I s_.queues_.e3.l_.e1, I s_.queues_.e3.l_.e2, I s_.queues_.e3.l_.e3]]])), Hh (.f), Hs (iM F9_ h7), Hh (.f), Hx (.a (.agg [.agg [I s_.queues_.e0.many_, .agg [I s_.queues_.e0.l_.e0, I s_.queues_.e0.l_.e1, I s_.queues_.e0.l_.e2, I s_.queues_.e0.l_.e3]], .agg [I s_.queues_.e1.many_, .agg [I s_.queues_.e1.l_.e0, I s_.queues_.e1.l_.e1, I s_.queues_.e1.l_.e2, I s_.queues_.e1.l_.e3]], .agg [I s_.queues_.e2.many_, .agg [I s_.queues_.e2.l_.e0, I s_.queues_.e2.l_.e1, I s_.queues_.e2.l_.e2, I s_.queues_.e2.l_.e3]], .agg [I s_.queues_.e3.many_, .agg [I s_.queues_.e3.l_.e0, I s_.queues_.e3.l_.e1, I s_.queues_.e3.l_.e2, I s_.queues_.e3.l_.e3]]])) (rfl : some (.agg [.agg [I s_.queues_.e0.many_, .agg [I s_.queues_.e0.l_.e0, I s_.queues_.e0.l_.e1, I s_.queues_.e0.l_.e2, I s_.queues_.e0.l_.e3]], .agg [I s_.queues_.e1.many_, .agg [I s_.queues_.e1.l_.e0, I s_.queues_.e1.l_.e1, I s_.queues_.e1.l_.e2, I s_.queues_.e1.l_.e3]], .agg [I s_.queues_.e2.many_, .agg [I s_.queues_.e2.l_.e0, I s_.queues_.e2.l_.e1, I s_.queues_.e2.l_.e2, I s_.queues_.e2.l_.e3]], .agg [I s_.queues_.e3.many_, .agg [I s_.queues_.e3.l_.e0, I s_.queues_.e3.l_.e1, I s_.queues_.e3.l_.e2, I s_.queues_.e3.l_.e3]]] : A) = some (.agg [.agg [I s_.queues_.e0.many_, .agg [I s_.queues_.e0.l_.e0, I s_.queues_.e0.l_.e1, I s_.queues_.e0.l_.e2, I s_.queues_.e0.l_.e3]], .agg [I s_.queues_.e1.many_, .agg [I s_.queues_.e1.l_.e0, I s_.queues_.e1.l_.e1, I s_.queues_.e1.l_.e2, I s_.queues_.e1.l_.e3]], .agg [I s_.queues_.e2.many_, .agg [I s_.queues_.e2.l_.e0, I s_.queues_.e2.l_.e1, I s_.queues_.e2.l_.e2, I s_.queues_.e2.l_.e3]], .agg [I s_.queues_.e3.many_, .agg [I s_.queues_.e3.l_.e0, I s_.queues_.e3.l_.e1, I s_.queues_.e3.l_.e2, I s_.queues_.e3.l_.e3]]])), Hh (.f), Hs (iM F9_ h7), Hx (.l ((zD.toL arr2).map F9_)) ((zD.setL F9_ s_.queues_ a_.Channel r_1).trans (congrArg (fun q => (zD.toL q).map F9_) h8)), Hx (.l [.agg [I arr.e0, I arr.e1, I arr.e2, I arr.e3], .agg [.agg [I arr2.e0.many_, .agg [I arr2.e0.l_.e0, I arr2.e0.l_.e1, I arr2.e0.l_.e2, I arr2.e0.l_.e3]], .agg [I arr2.e1.many_, .agg [I arr2.e1.l_.e0, I arr2.e1.l_.e1, I arr2.e1.l_.e2, I arr2.e1.l_.e3]], .agg [I arr2.e2.many_, .agg [I arr2.e2.l_.e0, I arr2.e2.l_.e1, I arr2.e2.l_.e2, I arr2.e2.l_.e3]], .agg [I arr2.e3.many_, .agg [I arr2.e3.l_.e0, I arr2.e3.l_.e1, I arr2.e3.l_.e2, I arr2.e3.l_.e3]]]]) (rfl : ([.agg [I arr.e0, I arr.e1, I arr.e2, I arr.e3], .agg [.agg [I arr2.e0.many_, .agg [I arr2.e0.l_.e0, I arr2.e0.l_.e1, I arr2.e0.l_.e2, I arr2.e0.l_.e3]], .agg [I arr2.e1.many_, .agg [I arr2.e1.l_.e0, I arr2.e1.l_.e1, I arr2.e1.l_.e2, I arr2.e1.l_.e3]], .agg [I arr2.e2.many_, .agg [I arr2.e2.l_.e0, I arr2.e2.l_.e1, I arr2.e2.l_.e2, I arr2.e2.l_.e3]], .agg [I arr2.e3.many_, .agg [I arr2.e3.l_.e0, I arr2.e3.l_.e1, I arr2.e3.l_.e2, I arr2.e3.l_.e3]]]] : List A) = [.agg [I arr.e0, I arr.e1, I arr.e2, I arr.e3], .agg [.agg [I arr2.e0.many_, .agg [I arr2.e0.l_.e0, I arr2.e0.l_.e1, I arr2.e0.l_.e2, I arr2.e0.l_.e3]], .agg [I arr2.e1.many_, .agg [I arr2.e1.l_.e0, I arr2.e1.l_.e1, I arr2.e1.l_.e2, I arr2.e1.l_.e3]], .agg [I arr2.e2.many_, .agg [I arr2.e2.l_.e0, I arr2.e2.l_.e1, I arr2.e2.l_.e2, I arr2.e2.l_.e3]], .agg [I arr2.e3.many_, .agg [I arr2.e3.l_.e0, I arr2.e3.l_.e1, I arr2.e3.l_.e2, I arr2.e3.l_.e3]]]])]
   ·obtain ⟨Channel_e, h9, hf0⟩ := zo hf0
    rcases zZ hf0 with ⟨c3, hf0⟩ | ⟨c3, hf0⟩
    ·exact yB X0 hC hJ2 (Channel_e == 0) hf0 [Hi (eI .i64) h9, Hq c3]
    ·rcases zZ hf0 with ⟨c4, hf0⟩ | ⟨c4, hf0⟩
     ·obtain ⟨Channel_e1, h10, hf0⟩ := zo hf0
      let Z0 : List HO := (Hi (eI .i64) h9 :: Hq c3 :: (rpN 7 (Hq c4) [Hi (eI .i64) h10, Hq c4, Hq c4, Hq c4]))
      rcases zZ hf0 with ⟨c5, hf0⟩ | ⟨c5, hf0⟩
      ·exact yB X0 hC hJ2 (cell1.many_ == Channel_e1) hf0 (Z0 ++ [Hq c5])
      ·rcases zZ hf0 with ⟨c6, hf0⟩ | ⟨c6, hf0⟩
       ·let Z1 : List HO := (Z0 ++ (Hq c5 :: (rpN 4 (Hq c6) [])))
        rcases zZ hf0 with ⟨c7, hf0⟩ | ⟨c7, hf0⟩
        ·exact yB X0 hC hJ2 true hf0 (Z1 ++ (rpN 6 (Hq c7) [Hq c6, Hq c7, Hq c6]))
        ·exact yB X0 hC hJ2 (cell1.l_.e0 != a_.Message) hf0 (Z1 ++ (Hq c7 :: Hq c7 :: Hn (⟨rfl, by decide⟩ : true = true ∧ 0 < 4) :: (rpN 4 (Hq c7) [Hq c6, Hq c7, Hq c6])))
       ·exact yB X0 hC hJ2 false hf0 (Z0 ++ (Hq c5 :: (rpN 6 (Hq c6) [])))
     ·let Z2 : List HO := (Hi (eI .i64) h9 :: Hq c3 :: (rpN 10 (Hq c4) [qF]))
      rcases zZ hf0 with ⟨c8, hf0⟩ | ⟨c8, hf0⟩
      ·let Z3 : List HO := (Z2 ++ (rpN 4 (Hq c8) []))
       rcases zZ hf0 with ⟨c9, hf0⟩ | ⟨c9, hf0⟩
       ·exact yB X0 hC hJ2 true hf0 (Z3 ++ (rpN 6 (Hq c9) [Hq c8, Hq c9, Hq c8]))
       ·exact yB X0 hC hJ2 (cell1.l_.e0 != a_.Message) hf0 (Z3 ++ (Hq c9 :: Hq c9 :: Hn (⟨rfl, by decide⟩ : true = true ∧ 0 < 4) :: (rpN 4 (Hq c9) [Hq c8, Hq c9, Hq c8])))
      ·exact yB X0 hC hJ2 false hf0 (Z2 ++ (rpN 6 (Hq c8) []))
def jA : yU := spF (α := Bool × Bool) (ρ := Bool) 85 (fun x => [(eEr 0 201) x.1, (eEr 0 201) x.2]) (fun r => eB r) (fun x => JX x.1 x.2) [] (Uu)
theorem z1R {ctr : Ctr} (hC : zT Tryz.prog ctr) : jA.Ok Tryz.prog := by
 refine y4 ?_
 rintro ⟨e, t⟩ r0 hf0
 cases t with
 | false => cases hf0
 | true =>
  cases hf0
  exact z8H e
def zA : Code := (Tryz.f82.body).getD .skip
abbrev Zx {σ : Type} (x0 : z8) (x1 : zb) (yv : Value) (YY : σ → z0y) (x16 : Int) (sg2 : σ) : List (Nat × T) := [(0, .own (.opq (YY sg2).q)), (1, .d (.sptr (yV x0))), (2, .d (.sptr (yH x1))), (3, .own (.box (.atom yv))), (15, .d (I ((x0.Parts.length : Nat) : Int))), (16, .d (I x16))]
abbrev zY {σ : Type} (x0 : z8) (x1 : zb) (yv : Value) (YY : σ → z0y) (x16 : Int) (r_ : z8 × Int × zb) (sg3 : σ) : List (Nat × T) := [(0, .own (.opq (YY sg3).q)), (1, .d (.sptr (yV x0))), (2, .d (.sptr (yH x1))), (3, .own (.box (.atom yv))), (4, .own (.box (I x16))), (15, .d (I ((x0.Parts.length : Nat) : Int))), (16, .d (I x16)), (22, .d (.fn 103 [.sptr (.agg [I r_.1.Messages, I r_.1.Labels, eSl 1 false (eI .i64) r_.1.Channels, eSl 3 false wH r_.1.Parts]), .sptr (I r_.2.1), .sptr (.agg [.agg [I r_.2.2.states_.e0, I r_.2.2.states_.e1, I r_.2.2.states_.e2, I r_.2.2.states_.e3], .agg [.agg [I r_.2.2.queues_.e0.many_, .agg [I r_.2.2.queues_.e0.l_.e0, I r_.2.2.queues_.e0.l_.e1, I r_.2.2.queues_.e0.l_.e2, I r_.2.2.queues_.e0.l_.e3]], .agg [I r_.2.2.queues_.e1.many_, .agg [I r_.2.2.queues_.e1.l_.e0, I r_.2.2.queues_.e1.l_.e1, I r_.2.2.queues_.e1.l_.e2, I r_.2.2.queues_.e1.l_.e3]], .agg [I r_.2.2.queues_.e2.many_, .agg [I r_.2.2.queues_.e2.l_.e0, I r_.2.2.queues_.e2.l_.e1, I r_.2.2.queues_.e2.l_.e2, I r_.2.2.queues_.e2.l_.e3]], .agg [I r_.2.2.queues_.e3.many_, .agg [I r_.2.2.queues_.e3.l_.e0, I r_.2.2.queues_.e3.l_.e1, I r_.2.2.queues_.e3.l_.e2, I r_.2.2.queues_.e3.l_.e3]]]])]))]
abbrev Zw {σ : Type} (x0 : z8) (x1 : zb) (yv : Value) (YY : σ → z0y) (x16 : Int) (r_ : z8 × Int × zb) (x23 : Int) (x24 : ze) (Channel_e : Int) (x59 : Int) (sg5 : σ) : List (Nat × T) := [(0, .own (.opq (YY sg5).q)), (1, .d (.sptr (yV x0))), (2, .d (.sptr (yH x1))), (3, .own (.box (.atom yv))), (4, .own (.box (I x16))), (5, .own (.box (I x23))), (6, .own (.box (vW x24))), (15, .d (I ((x0.Parts.length : Nat) : Int))), (16, .d (I x16)), (22, .d (.fn 103 [.sptr (.agg [I r_.1.Messages, I r_.1.Labels, eSl 1 false (eI .i64) r_.1.Channels, eSl 3 false wH r_.1.Parts]), .sptr (I r_.2.1), .sptr (.agg [.agg [I r_.2.2.states_.e0, I r_.2.2.states_.e1, I r_.2.2.states_.e2, I r_.2.2.states_.e3], .agg [.agg [I r_.2.2.queues_.e0.many_, .agg [I r_.2.2.queues_.e0.l_.e0, I r_.2.2.queues_.e0.l_.e1, I r_.2.2.queues_.e0.l_.e2, I r_.2.2.queues_.e0.l_.e3]], .agg [I r_.2.2.queues_.e1.many_, .agg [I r_.2.2.queues_.e1.l_.e0, I r_.2.2.queues_.e1.l_.e1, I r_.2.2.queues_.e1.l_.e2, I r_.2.2.queues_.e1.l_.e3]], .agg [I r_.2.2.queues_.e2.many_, .agg [I r_.2.2.queues_.e2.l_.e0, I r_.2.2.queues_.e2.l_.e1, I r_.2.2.queues_.e2.l_.e2, I r_.2.2.queues_.e2.l_.e3]], .agg [I r_.2.2.queues_.e3.many_, .agg [I r_.2.2.queues_.e3.l_.e0, I r_.2.2.queues_.e3.l_.e1, I r_.2.2.queues_.e3.l_.e2, I r_.2.2.queues_.e3.l_.e3]]]])])), (48, .d (.sptr (eSl 1 false (eI .i64) x0.Channels))), (49, .d (eSl 1 false (eI .i64) x0.Channels)), (51, .d (I x24.Channel)), (52, .d (.sptr (I Channel_e))), (53, .d (I Channel_e)), (54, .d (B (decide (Channel_e > 0)))), (58, .d (I ((x0.Parts.length : Nat) : Int))), (59, .d (I x59))]
abbrev y8 {σ : Type} (x0 : z8) (x1 : zb) (yv : Value) (YY : σ → z0y) (x16 : Int) (r_ : z8 × Int × zb) (x23 : Int) (x24 : ze) (Channel_e : Int) (x59 : Int) (r_3 : z8 × Int × zb) (sg6 : σ) : List (Nat × T) := [(0, .own (.opq (YY sg6).q)), (1, .d (.sptr (yV x0))), (2, .d (.sptr (yH x1))), (3, .own (.box (.atom yv))), (4, .own (.box (I x16))), (5, .own (.box (I x23))), (6, .own (.box (vW x24))), (9, .own (.box (I x59))), (15, .d (I ((x0.Parts.length : Nat) : Int))), (16, .d (I x16)), (22, .d (.fn 103 [.sptr (.agg [I r_.1.Messages, I r_.1.Labels, eSl 1 false (eI .i64) r_.1.Channels, eSl 3 false wH r_.1.Parts]), .sptr (I r_.2.1), .sptr (.agg [.agg [I r_.2.2.states_.e0, I r_.2.2.states_.e1, I r_.2.2.states_.e2, I r_.2.2.states_.e3], .agg [.agg [I r_.2.2.queues_.e0.many_, .agg [I r_.2.2.queues_.e0.l_.e0, I r_.2.2.queues_.e0.l_.e1, I r_.2.2.queues_.e0.l_.e2, I r_.2.2.queues_.e0.l_.e3]], .agg [I r_.2.2.queues_.e1.many_, .agg [I r_.2.2.queues_.e1.l_.e0, I r_.2.2.queues_.e1.l_.e1, I r_.2.2.queues_.e1.l_.e2, I r_.2.2.queues_.e1.l_.e3]], .agg [I r_.2.2.queues_.e2.many_, .agg [I r_.2.2.queues_.e2.l_.e0, I r_.2.2.queues_.e2.l_.e1, I r_.2.2.queues_.e2.l_.e2, I r_.2.2.queues_.e2.l_.e3]], .agg [I r_.2.2.queues_.e3.many_, .agg [I r_.2.2.queues_.e3.l_.e0, I r_.2.2.queues_.e3.l_.e1, I r_.2.2.queues_.e3.l_.e2, I r_.2.2.queues_.e3.l_.e3]]]])])), (48, .d (.sptr (eSl 1 false (eI .i64) x0.Channels))), (49, .d (eSl 1 false (eI .i64) x0.Channels)), (51, .d (I x24.Channel)), (52, .d (.sptr (I Channel_e))), (53, .d (I Channel_e)), (54, .d (B (decide (Channel_e > 0)))), (58, .d (I ((x0.Parts.length : Nat) : Int))), (59, .d (I x59)), (68, .d (.fn 103 [.sptr (.agg [I r_3.1.Messages, I r_3.1.Labels, eSl 1 false (eI .i64) r_3.1.Channels, eSl 3 false wH r_3.1.Parts]), .sptr (I r_3.2.1), .sptr (.agg [.agg [I r_3.2.2.states_.e0, I r_3.2.2.states_.e1, I r_3.2.2.states_.e2, I r_3.2.2.states_.e3], .agg [.agg [I r_3.2.2.queues_.e0.many_, .agg [I r_3.2.2.queues_.e0.l_.e0, I r_3.2.2.queues_.e0.l_.e1, I r_3.2.2.queues_.e0.l_.e2, I r_3.2.2.queues_.e0.l_.e3]], .agg [I r_3.2.2.queues_.e1.many_, .agg [I r_3.2.2.queues_.e1.l_.e0, I r_3.2.2.queues_.e1.l_.e1, I r_3.2.2.queues_.e1.l_.e2, I r_3.2.2.queues_.e1.l_.e3]], .agg [I r_3.2.2.queues_.e2.many_, .agg [I r_3.2.2.queues_.e2.l_.e0, I r_3.2.2.queues_.e2.l_.e1, I r_3.2.2.queues_.e2.l_.e2, I r_3.2.2.queues_.e2.l_.e3]], .agg [I r_3.2.2.queues_.e3.many_, .agg [I r_3.2.2.queues_.e3.l_.e0, I r_3.2.2.queues_.e3.l_.e1, I r_3.2.2.queues_.e3.l_.e2, I r_3.2.2.queues_.e3.l_.e3]]]])]))]
abbrev Zu {σ : Type} (x0 : z8) (x1 : zb) (yv : Value) (YY : σ → z0y) (x16 : Int) (r_ : z8 × Int × zb) (x23 : Int) (x24 : ze) (Channel_e : Int) (sg4 : σ) (x59 : Int) : List (Nat × T) := [(0, .own (.opq (YY sg4).q)), (1, .d (.sptr (yV x0))), (2, .d (.sptr (yH x1))), (3, .own (.box (.atom yv))), (4, .own (.box (I x16))), (5, .own (.box (I x23))), (6, .own (.box (vW x24))), (15, .d (I ((x0.Parts.length : Nat) : Int))), (16, .d (I x16)), (22, .d (.fn 103 [.sptr (.agg [I r_.1.Messages, I r_.1.Labels, eSl 1 false (eI .i64) r_.1.Channels, eSl 3 false wH r_.1.Parts]), .sptr (I r_.2.1), .sptr (.agg [.agg [I r_.2.2.states_.e0, I r_.2.2.states_.e1, I r_.2.2.states_.e2, I r_.2.2.states_.e3], .agg [.agg [I r_.2.2.queues_.e0.many_, .agg [I r_.2.2.queues_.e0.l_.e0, I r_.2.2.queues_.e0.l_.e1, I r_.2.2.queues_.e0.l_.e2, I r_.2.2.queues_.e0.l_.e3]], .agg [I r_.2.2.queues_.e1.many_, .agg [I r_.2.2.queues_.e1.l_.e0, I r_.2.2.queues_.e1.l_.e1, I r_.2.2.queues_.e1.l_.e2, I r_.2.2.queues_.e1.l_.e3]], .agg [I r_.2.2.queues_.e2.many_, .agg [I r_.2.2.queues_.e2.l_.e0, I r_.2.2.queues_.e2.l_.e1, I r_.2.2.queues_.e2.l_.e2, I r_.2.2.queues_.e2.l_.e3]], .agg [I r_.2.2.queues_.e3.many_, .agg [I r_.2.2.queues_.e3.l_.e0, I r_.2.2.queues_.e3.l_.e1, I r_.2.2.queues_.e3.l_.e2, I r_.2.2.queues_.e3.l_.e3]]]])])), (48, .d (.sptr (eSl 1 false (eI .i64) x0.Channels))), (49, .d (eSl 1 false (eI .i64) x0.Channels)), (51, .d (I x24.Channel)), (52, .d (.sptr (I Channel_e))), (53, .d (I Channel_e)), (54, .d (B (decide (Channel_e > 0)))), (58, .d (I ((x0.Parts.length : Nat) : Int))), (59, .d (I x59))]
abbrev Zv {σ : Type} (x0 : z8) (x1 : zb) (yv : Value) (YY : σ → z0y) (sg1 : σ) (x16 : Int) : List (Nat × T) := [(0, .own (.opq (YY sg1).q)), (1, .d (.sptr (yV x0))), (2, .d (.sptr (yH x1))), (3, .own (.box (.atom yv))), (15, .d (I ((x0.Parts.length : Nat) : Int))), (16, .d (I x16))]
theorem vX {ctr : Ctr} (hC : zT Tryz.prog ctr) (h04 : ctr.Has xw) (h08 : ctr.Has xv) (h09 : ctr.Has jA) (x0 : z8) (x1 : zb) : z5f Tryz.prog (.fn 82 [.sptr (.agg [I x0.Messages, I x0.Labels, eSl 1 false (eI .i64) x0.Channels, eSl 3 false wH x0.Parts]), .sptr (.agg [.agg [I x1.states_.e0, I x1.states_.e1, I x1.states_.e2, I x1.states_.e3], .agg [.agg [I x1.queues_.e0.many_, .agg [I x1.queues_.e0.l_.e0, I x1.queues_.e0.l_.e1, I x1.queues_.e0.l_.e2, I x1.queues_.e0.l_.e3]], .agg [I x1.queues_.e1.many_, .agg [I x1.queues_.e1.l_.e0, I x1.queues_.e1.l_.e1, I x1.queues_.e1.l_.e2, I x1.queues_.e1.l_.e3]], .agg [I x1.queues_.e2.many_, .agg [I x1.queues_.e2.l_.e0, I x1.queues_.e2.l_.e1, I x1.queues_.e2.l_.e2, I x1.queues_.e2.l_.e3]], .agg [I x1.queues_.e3.many_, .agg [I x1.queues_.e3.l_.e0, I x1.queues_.e3.l_.e1, I x1.queues_.e3.l_.e2, I x1.queues_.e3.l_.e3]]]])]) (fun (x : za × zb) (_ : Bool) (_ : Value) => [xu x.1, yH x.2]) (@y6 x0 x1) := by
 refine z4t (tt := xZ) (nt := 110) (body := zA) zR Tryz.func82 rfl (by kernel_rfl) rfl rfl (by show (3 : Nat) ≤ 110; decide) ?_
 intro σ yv YY yy hy sg r0 hf0 E hE
 unfold y6 at hf0
 obtain ⟨t1, ht1, hf0⟩ := zo hf0
 refine yL ((xBx Tryz.prog 3 0 yv).or X0) hC zA [1,1,0] [] (fun s => xx x0 x1 yy s.1 s.2) (fun x => Zv x0 x1 yv YY x.1 x.2) (sg, 0) ht1  [Hn (⟨rfl, rfl⟩ : false = false ∧ some yv = some yv), Ha (lnM wH x0.Parts)] ?_
 rintro ⟨sg1, x16⟩ m1 lr1 hf1 hl1 J1 hJ1
 try unfold xx at hf1
 rcases zZ hf1 with ⟨c0, hf1⟩ | ⟨c0, hf1⟩
 ·refine yJ X0 hC zA [1,1,0,0,1,1] [J1] [0,1,2,3,15,16] (fun z : σ => vL x16 z = some lr1) (fun z => Zx x0 x1 yv YY x16 z) [(0, .own (.opq (YY sg1).q)), (1, .d (.sptr (yV x0))), (2, .d (.sptr (yH x1))), (3, .own (.box (.atom yv))), (15, .d (I ((x0.Parts.length : Nat) : Int))), (16, .d (I x16))] [Hq c0, Hh (.cut 0)] ?_ fun J2 hJ2 => ?_
  ·rintro sg2 hf1
   unfold vL at hf1
   obtain rfl := zl hf1
   exact yB X0 hC hJ1 (sg2, w64 (x16 + 1)) hl1 []
  ·obtain ⟨r_, h0, hf1⟩ := zo hf1
   obtain ⟨t3, ht3, hf1⟩ := zo hf1
   refine yAt X0 hC (sub [1,1,0,0,1,1,2,0,1,1,0] zA) (frs [1,1,0,0,1,1,2,0,1,1,0] [J1, J2] zA []) [(0, .own (.opq (YY sg1).q)), (1, .d (.sptr (yV x0))), (2, .d (.sptr (yH x1))), (3, .own (.box (.atom yv))), (4, .own (.box (I x16))), (15, .d (I ((x0.Parts.length : Nat) : Int))), (16, .d (I x16)), (22, .d (.fn 103 [.sptr (.agg [I r_.1.Messages, I r_.1.Labels, eSl 1 false (eI .i64) r_.1.Channels, eSl 3 false wH r_.1.Parts]), .sptr (I r_.2.1), .sptr (.agg [.agg [I r_.2.2.states_.e0, I r_.2.2.states_.e1, I r_.2.2.states_.e2, I r_.2.2.states_.e3], .agg [.agg [I r_.2.2.queues_.e0.many_, .agg [I r_.2.2.queues_.e0.l_.e0, I r_.2.2.queues_.e0.l_.e1, I r_.2.2.queues_.e0.l_.e2, I r_.2.2.queues_.e0.l_.e3]], .agg [I r_.2.2.queues_.e1.many_, .agg [I r_.2.2.queues_.e1.l_.e0, I r_.2.2.queues_.e1.l_.e1, I r_.2.2.queues_.e1.l_.e2, I r_.2.2.queues_.e1.l_.e3]], .agg [I r_.2.2.queues_.e2.many_, .agg [I r_.2.2.queues_.e2.l_.e0, I r_.2.2.queues_.e2.l_.e1, I r_.2.2.queues_.e2.l_.e2, I r_.2.2.queues_.e2.l_.e3]], .agg [I r_.2.2.queues_.e3.many_, .agg [I r_.2.2.queues_.e3.l_.e0, I r_.2.2.queues_.e3.l_.e1, I r_.2.2.queues_.e3.l_.e2, I r_.2.2.queues_.e3.l_.e3]]]])]))] [Hc h04 (x := (x0, x1, x16)) h0 (loC yV x0 <| loC yH x1 <| loC (eI .i64) x16 <| loN)] fun st0 h0 => ?_
   refine K4 (g := .tmp 22) (ps := [23,24]) (assign := (sub [1,1,0,0,1,1,2,0,1,1,0,0] zA)) (body := (sub [1,1,0,0,1,1,2,0,1,1,0,1] zA)) (K := 103) (caps := [.sptr (.agg [I r_.1.Messages, I r_.1.Labels, eSl 1 false (eI .i64) r_.1.Channels, eSl 3 false wH r_.1.Parts]), .sptr (I r_.2.1), .sptr (.agg [.agg [I r_.2.2.states_.e0, I r_.2.2.states_.e1, I r_.2.2.states_.e2, I r_.2.2.states_.e3], .agg [.agg [I r_.2.2.queues_.e0.many_, .agg [I r_.2.2.queues_.e0.l_.e0, I r_.2.2.queues_.e0.l_.e1, I r_.2.2.queues_.e0.l_.e2, I r_.2.2.queues_.e0.l_.e3]], .agg [I r_.2.2.queues_.e1.many_, .agg [I r_.2.2.queues_.e1.l_.e0, I r_.2.2.queues_.e1.l_.e1, I r_.2.2.queues_.e1.l_.e2, I r_.2.2.queues_.e1.l_.e3]], .agg [I r_.2.2.queues_.e2.many_, .agg [I r_.2.2.queues_.e2.l_.e0, I r_.2.2.queues_.e2.l_.e1, I r_.2.2.queues_.e2.l_.e2, I r_.2.2.queues_.e2.l_.e3]], .agg [I r_.2.2.queues_.e3.many_, .agg [I r_.2.2.queues_.e3.l_.e0, I r_.2.2.queues_.e3.l_.e1, I r_.2.2.queues_.e3.l_.e2, I r_.2.2.queues_.e3.l_.e3]]]])]) (by kernel_rfl) [0,1,2,3,4,15,16,22] (fun s => zY x0 x1 yv YY x16 r_ s) (fun s => zY x0 x1 yv YY x16 r_ s) (fun s => Code.ret) ((fun (x : Int × ze) (_ : Bool) (_ : Value) => [(eI .i64) x.1, vW x.2])) (F := @yh r_.1 r_.2.1 r_.2.2) (fun s x => yY x0 x1 yy x16 s x.1 x.2) sg1 t3 _ h0 inferInstance (by kernel_rfl) (by decide) (fun _ => rfl) (fun _ => rfl) (by kernel_rfl) (fun _ _ _ => rfl) (jO hC r_.1 r_.2.1 r_.2.2) ht3 ?_ ?_
   ·rintro tv3 sg3 ⟨x23, x24⟩ vr lr2 hf2
    refine z0r (sz := 110) (k := 0) (u := tv3 0) (v := yv) (ps := List.map (fun t => (t, tv3 t)) [1,2,3,4,15,16,22] ++ ([(0, yv)])) rfl (by simp) ?_
    replace hf2 : yY x0 x1 yy x16 sg3 x23 x24 = some lr2 := hf2
    unfold yY at hf2
    refine yF X0 hC .normal [(0, .own (.opq (YY sg3).q)), (1, .d (.sptr (yV x0))), (2, .d (.sptr (yH x1))), (3, .own (.box (.atom yv))), (4, .own (.box (I x16))), (5, .own (.box (I x23))), (6, .own (.box (vW x24))), (15, .d (I ((x0.Parts.length : Nat) : Int))), (16, .d (I x16)), (22, .d (.fn 103 [.sptr (.agg [I r_.1.Messages, I r_.1.Labels, eSl 1 false (eI .i64) r_.1.Channels, eSl 3 false wH r_.1.Parts]), .sptr (I r_.2.1), .sptr (.agg [.agg [I r_.2.2.states_.e0, I r_.2.2.states_.e1, I r_.2.2.states_.e2, I r_.2.2.states_.e3], .agg [.agg [I r_.2.2.queues_.e0.many_, .agg [I r_.2.2.queues_.e0.l_.e0, I r_.2.2.queues_.e0.l_.e1, I r_.2.2.queues_.e0.l_.e2, I r_.2.2.queues_.e0.l_.e3]], .agg [I r_.2.2.queues_.e1.many_, .agg [I r_.2.2.queues_.e1.l_.e0, I r_.2.2.queues_.e1.l_.e1, I r_.2.2.queues_.e1.l_.e2, I r_.2.2.queues_.e1.l_.e3]], .agg [I r_.2.2.queues_.e2.many_, .agg [I r_.2.2.queues_.e2.l_.e0, I r_.2.2.queues_.e2.l_.e1, I r_.2.2.queues_.e2.l_.e2, I r_.2.2.queues_.e2.l_.e3]], .agg [I r_.2.2.queues_.e3.many_, .agg [I r_.2.2.queues_.e3.l_.e0, I r_.2.2.queues_.e3.l_.e1, I r_.2.2.queues_.e3.l_.e2, I r_.2.2.queues_.e3.l_.e3]]]])]))] [] fun st0 h0 => ⟨rfl, z0q h0 ?_⟩
    refine z0r (sz := 110) (k := 0) (u := tv3 0) (v := yv) (ps := List.map (fun t => (t, tv3 t)) [1,2,3,4,15,16,22] ++ ([(0, yv)])) rfl (by simp) ?_
    obtain ⟨r_1, h1, hf2⟩ := zo hf2
    obtain ⟨r_2, h2, hf2⟩ := zo hf2
    let Z0 : List HO := [Hc h08 (x := (x0, x1, x16, x24)) h1 (loC yV x0 <| loC yH x1 <| loC (eI .i64) x16 <| loC vW x24 <| loN), Hc h09 (x := (r_1.2, true)) h2 (loC (eEr 0 201) r_1.2 <| loC (eEr 0 201) true <| loN)]
    rcases zZ hf2 with ⟨c1, hf2⟩ | ⟨c1, hf2⟩
    ·obtain ⟨yr, h3, hf2⟩ := zo hf2
     let Z1 : List HO := (Z0 ++ [Hq c1, Hn (⟨rfl, rfl, _, rfl⟩ : T.own (.box (.atom yv)) = T.own (.box (.atom yv)) ∧ some yv = some yv ∧ ∃ x, T.own (.opq (YY sg3).q) = T.own x), Hn (z1U (yv := yv) (Y := YY) (enc := (fun (x : za × zb) (_ : Bool) (_ : Value) => [xu x.1, yH x.2])) (s := sg3) (x := ((za.mk x16 x23 (-1) (-1)), r_1.1)) (s' := yr.1) (b := yr.2) (v := .nilFunc) [xu (za.mk x16 x23 (-1) (-1)), yH r_1.1] (show z0w [xu (za.mk x16 x23 (-1) (-1)), yH r_1.1] [xu (za.mk x16 x23 (-1) (-1)), yH r_1.1] from inferInstance))])
     rcases zZ hf2 with ⟨c2, hf2⟩ | ⟨c2, hf2⟩
     ·obtain rfl := zl hf2
      exact yF ((Kn (P := Tryz.prog) xZ hy 42 (s := sg3) (x := ((za.mk x16 x23 (-1) (-1)), r_1.1)) (s' := yr.1) (b := yr.2) .nilFunc h3).or ((xLy zR 37 3 0 yv).or X0)) hC .ret (zY x0 x1 yv YY x16 r_ yr.1) (Z1 ++ [Hq c2]) fun st0 h0 => ⟨rfl, _, h0, LeL.refl _⟩
     ·obtain rfl := zl hf2
      exact yF ((Kn (P := Tryz.prog) xZ hy 42 (s := sg3) (x := ((za.mk x16 x23 (-1) (-1)), r_1.1)) (s' := yr.1) (b := yr.2) .nilFunc h3).or ((xLy zR 37 3 0 yv).or X0)) hC .normal (zY x0 x1 yv YY x16 r_ yr.1) (Z1 ++ [Hq c2]) fun st0 h0 => ⟨rfl, _, h0, LeL.refl _⟩
    ·rcases zZ hf2 with ⟨c3, hf2⟩ | ⟨c3, hf2⟩
     ·obtain rfl := zl hf2
      exact yF X0 hC .normal (zY x0 x1 yv YY x16 r_ sg3) (Z0 ++ (Hq c1 :: (rpN 8 (Hq c3) [qT]))) fun st0 h0 => ⟨rfl, _, h0, LeL.refl _⟩
     ·obtain ⟨Channel_e, h4, hf2⟩ := zo hf2
      let Z2 : List HO := (Z0 ++ (Hq c1 :: (rpN 5 (Hq c3) [Hi (eI .i64) h4, Hq c3, Hq c3, Hq c3])))
      rcases zZ hf2 with ⟨c4, hf2⟩ | ⟨c4, hf2⟩
      ·obtain rfl := zl hf2
       exact yF X0 hC .normal (zY x0 x1 yv YY x16 r_ sg3) (Z2 ++ [Hq c4]) fun st0 h0 => ⟨rfl, _, h0, LeL.refl _⟩
      ·obtain ⟨t4, ht4, hf2⟩ := zo hf2
       refine yL X0 hC zA [1,1,0,0,1,1,2,0,1,1,0,1,0,1,1,1,1,0] [J1, J2] (fun s => yW x0 x1 yy x16 x23 x24 s.1 s.2) (fun x => Zu x0 x1 yv YY x16 r_ x23 x24 Channel_e x.1 x.2) (sg3,0) ht4  (Z2 ++ [Hq c4, Ha (lnM wH x0.Parts)]) ?_
       rintro ⟨sg4, x59⟩ m4 lr3 hf3 hl3 J4 hJ4
       try unfold yW at hf3
       rcases zZ hf3 with ⟨c5, hf3⟩ | ⟨c5, hf3⟩
       ·refine yJ X0 hC zA [1,1,0,0,1,1,2,0,1,1,0,1,0,1,1,1,1,0,0,1,1] [J1, J2, J4] [0,1,2,3,4,5,6,15,16,22,48,49,51,52,53,54,58,59] (fun z : σ => wp x59 z = some lr3) (fun z => Zw x0 x1 yv YY x16 r_ x23 x24 Channel_e x59 z) [(0, .own (.opq (YY sg4).q)), (1, .d (.sptr (yV x0))), (2, .d (.sptr (yH x1))), (3, .own (.box (.atom yv))), (4, .own (.box (I x16))), (5, .own (.box (I x23))), (6, .own (.box (vW x24))), (15, .d (I ((x0.Parts.length : Nat) : Int))), (16, .d (I x16)), (22, .d (.fn 103 [.sptr (.agg [I r_.1.Messages, I r_.1.Labels, eSl 1 false (eI .i64) r_.1.Channels, eSl 3 false wH r_.1.Parts]), .sptr (I r_.2.1), .sptr (.agg [.agg [I r_.2.2.states_.e0, I r_.2.2.states_.e1, I r_.2.2.states_.e2, I r_.2.2.states_.e3], .agg [.agg [I r_.2.2.queues_.e0.many_, .agg [I r_.2.2.queues_.e0.l_.e0, I r_.2.2.queues_.e0.l_.e1, I r_.2.2.queues_.e0.l_.e2, I r_.2.2.queues_.e0.l_.e3]], .agg [I r_.2.2.queues_.e1.many_, .agg [I r_.2.2.queues_.e1.l_.e0, I r_.2.2.queues_.e1.l_.e1, I r_.2.2.queues_.e1.l_.e2, I r_.2.2.queues_.e1.l_.e3]], .agg [I r_.2.2.queues_.e2.many_, .agg [I r_.2.2.queues_.e2.l_.e0, I r_.2.2.queues_.e2.l_.e1, I r_.2.2.queues_.e2.l_.e2, I r_.2.2.queues_.e2.l_.e3]], .agg [I r_.2.2.queues_.e3.many_, .agg [I r_.2.2.queues_.e3.l_.e0, I r_.2.2.queues_.e3.l_.e1, I r_.2.2.queues_.e3.l_.e2, I r_.2.2.queues_.e3.l_.e3]]]])])), (48, .d (.sptr (eSl 1 false (eI .i64) x0.Channels))), (49, .d (eSl 1 false (eI .i64) x0.Channels)), (51, .d (I x24.Channel)), (52, .d (.sptr (I Channel_e))), (53, .d (I Channel_e)), (54, .d (B (decide (Channel_e > 0)))), (58, .d (I ((x0.Parts.length : Nat) : Int))), (59, .d (I x59))] [Hq c5, Hh (.cut 0)] ?_ fun J5 hJ5 => ?_
        ·rintro sg5 hf3
         unfold wp at hf3
         obtain rfl := zl hf3
         exact yB X0 hC hJ4 (sg5, w64 (x59 + 1)) hl3 []
        ·rcases zZ hf3 with ⟨c6, hf3⟩ | ⟨c6, hf3⟩
         ·exact yB X0 hC hJ5 sg4 hf3 [Hq c6]
         ·obtain ⟨r_3, h5, hf3⟩ := zo hf3
          obtain ⟨t6, ht6, hf3⟩ := zo hf3
          refine yAt X0 hC (sub [1,1,0,0,1,1,2,0,1,1,0,1,0,1,1,1,1,0,0,1,1,2,0,1,1,1,0] zA) (frs [1,1,0,0,1,1,2,0,1,1,0,1,0,1,1,1,1,0,0,1,1,2,0,1,1,1,0] [J1, J2, J4, J5] zA []) [(0, .own (.opq (YY sg4).q)), (1, .d (.sptr (yV x0))), (2, .d (.sptr (yH x1))), (3, .own (.box (.atom yv))), (4, .own (.box (I x16))), (5, .own (.box (I x23))), (6, .own (.box (vW x24))), (9, .own (.box (I x59))), (15, .d (I ((x0.Parts.length : Nat) : Int))), (16, .d (I x16)), (22, .d (.fn 103 [.sptr (.agg [I r_.1.Messages, I r_.1.Labels, eSl 1 false (eI .i64) r_.1.Channels, eSl 3 false wH r_.1.Parts]), .sptr (I r_.2.1), .sptr (.agg [.agg [I r_.2.2.states_.e0, I r_.2.2.states_.e1, I r_.2.2.states_.e2, I r_.2.2.states_.e3], .agg [.agg [I r_.2.2.queues_.e0.many_, .agg [I r_.2.2.queues_.e0.l_.e0, I r_.2.2.queues_.e0.l_.e1, I r_.2.2.queues_.e0.l_.e2, I r_.2.2.queues_.e0.l_.e3]], .agg [I r_.2.2.queues_.e1.many_, .agg [I r_.2.2.queues_.e1.l_.e0, I r_.2.2.queues_.e1.l_.e1, I r_.2.2.queues_.e1.l_.e2, I r_.2.2.queues_.e1.l_.e3]], .agg [I r_.2.2.queues_.e2.many_, .agg [I r_.2.2.queues_.e2.l_.e0, I r_.2.2.queues_.e2.l_.e1, I r_.2.2.queues_.e2.l_.e2, I r_.2.2.queues_.e2.l_.e3]], .agg [I r_.2.2.queues_.e3.many_, .agg [I r_.2.2.queues_.e3.l_.e0, I r_.2.2.queues_.e3.l_.e1, I r_.2.2.queues_.e3.l_.e2, I r_.2.2.queues_.e3.l_.e3]]]])])), (48, .d (.sptr (eSl 1 false (eI .i64) x0.Channels))), (49, .d (eSl 1 false (eI .i64) x0.Channels)), (51, .d (I x24.Channel)), (52, .d (.sptr (I Channel_e))), (53, .d (I Channel_e)), (54, .d (B (decide (Channel_e > 0)))), (58, .d (I ((x0.Parts.length : Nat) : Int))), (59, .d (I x59)), (68, .d (.fn 103 [.sptr (.agg [I r_3.1.Messages, I r_3.1.Labels, eSl 1 false (eI .i64) r_3.1.Channels, eSl 3 false wH r_3.1.Parts]), .sptr (I r_3.2.1), .sptr (.agg [.agg [I r_3.2.2.states_.e0, I r_3.2.2.states_.e1, I r_3.2.2.states_.e2, I r_3.2.2.states_.e3], .agg [.agg [I r_3.2.2.queues_.e0.many_, .agg [I r_3.2.2.queues_.e0.l_.e0, I r_3.2.2.queues_.e0.l_.e1, I r_3.2.2.queues_.e0.l_.e2, I r_3.2.2.queues_.e0.l_.e3]], .agg [I r_3.2.2.queues_.e1.many_, .agg [I r_3.2.2.queues_.e1.l_.e0, I r_3.2.2.queues_.e1.l_.e1, I r_3.2.2.queues_.e1.l_.e2, I r_3.2.2.queues_.e1.l_.e3]], .agg [I r_3.2.2.queues_.e2.many_, .agg [I r_3.2.2.queues_.e2.l_.e0, I r_3.2.2.queues_.e2.l_.e1, I r_3.2.2.queues_.e2.l_.e2, I r_3.2.2.queues_.e2.l_.e3]], .agg [I r_3.2.2.queues_.e3.many_, .agg [I r_3.2.2.queues_.e3.l_.e0, I r_3.2.2.queues_.e3.l_.e1, I r_3.2.2.queues_.e3.l_.e2, I r_3.2.2.queues_.e3.l_.e3]]]])]))] [Hq c6, Hc h04 (x := (x0, x1, x59)) h5 (loC yV x0 <| loC yH x1 <| loC (eI .i64) x59 <| loN)] fun st0 h0 => ?_
          refine K4 (g := .tmp 68) (ps := [69,70]) (assign := (sub [1,1,0,0,1,1,2,0,1,1,0,1,0,1,1,1,1,0,0,1,1,2,0,1,1,1,0,0] zA)) (body := (sub [1,1,0,0,1,1,2,0,1,1,0,1,0,1,1,1,1,0,0,1,1,2,0,1,1,1,0,1] zA)) (K := 103) (caps := [.sptr (.agg [I r_3.1.Messages, I r_3.1.Labels, eSl 1 false (eI .i64) r_3.1.Channels, eSl 3 false wH r_3.1.Parts]), .sptr (I r_3.2.1), .sptr (.agg [.agg [I r_3.2.2.states_.e0, I r_3.2.2.states_.e1, I r_3.2.2.states_.e2, I r_3.2.2.states_.e3], .agg [.agg [I r_3.2.2.queues_.e0.many_, .agg [I r_3.2.2.queues_.e0.l_.e0, I r_3.2.2.queues_.e0.l_.e1, I r_3.2.2.queues_.e0.l_.e2, I r_3.2.2.queues_.e0.l_.e3]], .agg [I r_3.2.2.queues_.e1.many_, .agg [I r_3.2.2.queues_.e1.l_.e0, I r_3.2.2.queues_.e1.l_.e1, I r_3.2.2.queues_.e1.l_.e2, I r_3.2.2.queues_.e1.l_.e3]], .agg [I r_3.2.2.queues_.e2.many_, .agg [I r_3.2.2.queues_.e2.l_.e0, I r_3.2.2.queues_.e2.l_.e1, I r_3.2.2.queues_.e2.l_.e2, I r_3.2.2.queues_.e2.l_.e3]], .agg [I r_3.2.2.queues_.e3.many_, .agg [I r_3.2.2.queues_.e3.l_.e0, I r_3.2.2.queues_.e3.l_.e1, I r_3.2.2.queues_.e3.l_.e2, I r_3.2.2.queues_.e3.l_.e3]]]])]) (by kernel_rfl) [0,1,2,3,4,5,6,9,15,16,22,48,49,51,52,53,54,58,59,68] (fun s => y8 x0 x1 yv YY x16 r_ x23 x24 Channel_e x59 r_3 s) (fun s => y8 x0 x1 yv YY x16 r_ x23 x24 Channel_e x59 r_3 s) (fun s => Code.ret) ((fun (x : Int × ze) (_ : Bool) (_ : Value) => [(eI .i64) x.1, vW x.2])) (F := @yh r_3.1 r_3.2.1 r_3.2.2) (fun s x => yX x1 yy x16 x23 x24 x59 s x.1 x.2) sg4 t6 _ h0 inferInstance (by kernel_rfl) (by decide) (fun _ => rfl) (fun _ => rfl) (by kernel_rfl) (fun _ _ _ => rfl) (jO hC r_3.1 r_3.2.1 r_3.2.2) ht6 ?_ ?_
          ·rintro tv6 sg6 ⟨x69, x70⟩ vr lr4 hf4
           refine z0r (sz := 110) (k := 0) (u := tv6 0) (v := yv) (ps := List.map (fun t => (t, tv6 t)) [1,2,3,4,5,6,9,15,16,22,48,49,51,52,53,54,58,59,68] ++ (List.map (fun t => (t, tv3 t)) [1,2,3,4,15,16,22] ++ ([(0, yv)]))) rfl (by simp) ?_
           replace hf4 : yX x1 yy x16 x23 x24 x59 sg6 x69 x70 = some lr4 := hf4
           unfold yX at hf4
           refine yF X0 hC .normal [(0, .own (.opq (YY sg6).q)), (1, .d (.sptr (yV x0))), (2, .d (.sptr (yH x1))), (3, .own (.box (.atom yv))), (4, .own (.box (I x16))), (5, .own (.box (I x23))), (6, .own (.box (vW x24))), (9, .own (.box (I x59))), (10, .d (I x69)), (11, .own (.box (vW x70))), (15, .d (I ((x0.Parts.length : Nat) : Int))), (16, .d (I x16)), (22, .d (.fn 103 [.sptr (.agg [I r_.1.Messages, I r_.1.Labels, eSl 1 false (eI .i64) r_.1.Channels, eSl 3 false wH r_.1.Parts]), .sptr (I r_.2.1), .sptr (.agg [.agg [I r_.2.2.states_.e0, I r_.2.2.states_.e1, I r_.2.2.states_.e2, I r_.2.2.states_.e3], .agg [.agg [I r_.2.2.queues_.e0.many_, .agg [I r_.2.2.queues_.e0.l_.e0, I r_.2.2.queues_.e0.l_.e1, I r_.2.2.queues_.e0.l_.e2, I r_.2.2.queues_.e0.l_.e3]], .agg [I r_.2.2.queues_.e1.many_, .agg [I r_.2.2.queues_.e1.l_.e0, I r_.2.2.queues_.e1.l_.e1, I r_.2.2.queues_.e1.l_.e2, I r_.2.2.queues_.e1.l_.e3]], .agg [I r_.2.2.queues_.e2.many_, .agg [I r_.2.2.queues_.e2.l_.e0, I r_.2.2.queues_.e2.l_.e1, I r_.2.2.queues_.e2.l_.e2, I r_.2.2.queues_.e2.l_.e3]], .agg [I r_.2.2.queues_.e3.many_, .agg [I r_.2.2.queues_.e3.l_.e0, I r_.2.2.queues_.e3.l_.e1, I r_.2.2.queues_.e3.l_.e2, I r_.2.2.queues_.e3.l_.e3]]]])])), (48, .d (.sptr (eSl 1 false (eI .i64) x0.Channels))), (49, .d (eSl 1 false (eI .i64) x0.Channels)), (51, .d (I x24.Channel)), (52, .d (.sptr (I Channel_e))), (53, .d (I Channel_e)), (54, .d (B (decide (Channel_e > 0)))), (58, .d (I ((x0.Parts.length : Nat) : Int))), (59, .d (I x59)), (68, .d (.fn 103 [.sptr (.agg [I r_3.1.Messages, I r_3.1.Labels, eSl 1 false (eI .i64) r_3.1.Channels, eSl 3 false wH r_3.1.Parts]), .sptr (I r_3.2.1), .sptr (.agg [.agg [I r_3.2.2.states_.e0, I r_3.2.2.states_.e1, I r_3.2.2.states_.e2, I r_3.2.2.states_.e3], .agg [.agg [I r_3.2.2.queues_.e0.many_, .agg [I r_3.2.2.queues_.e0.l_.e0, I r_3.2.2.queues_.e0.l_.e1, I r_3.2.2.queues_.e0.l_.e2, I r_3.2.2.queues_.e0.l_.e3]], .agg [I r_3.2.2.queues_.e1.many_, .agg [I r_3.2.2.queues_.e1.l_.e0, I r_3.2.2.queues_.e1.l_.e1, I r_3.2.2.queues_.e1.l_.e2, I r_3.2.2.queues_.e1.l_.e3]], .agg [I r_3.2.2.queues_.e2.many_, .agg [I r_3.2.2.queues_.e2.l_.e0, I r_3.2.2.queues_.e2.l_.e1, I r_3.2.2.queues_.e2.l_.e2, I r_3.2.2.queues_.e2.l_.e3]], .agg [I r_3.2.2.queues_.e3.many_, .agg [I r_3.2.2.queues_.e3.l_.e0, I r_3.2.2.queues_.e3.l_.e1, I r_3.2.2.queues_.e3.l_.e2, I r_3.2.2.queues_.e3.l_.e3]]]])]))] [] fun st0 h0 => ⟨rfl, z0q h0 ?_⟩
           refine z0r (sz := 110) (k := 0) (u := tv6 0) (v := yv) (ps := List.map (fun t => (t, tv6 t)) [1,2,3,4,5,6,9,15,16,22,48,49,51,52,53,54,58,59,68] ++ (List.map (fun t => (t, tv3 t)) [1,2,3,4,15,16,22] ++ ([(0, yv)]))) rfl (by simp) ?_
           rcases zZ hf4 with ⟨c7, hf4⟩ | ⟨c7, hf4⟩
           ·obtain rfl := zl hf4
            exact yF X0 hC .normal (y8 x0 x1 yv YY x16 r_ x23 x24 Channel_e x59 r_3 sg6) (rpN 6 (Hq c7) (rpN 7 qT [])) fun st0 h0 => ⟨rfl, _, h0, LeL.refl _⟩
           ·let Z3 : List HO := (rpN 6 (Hq c7) [])
            rcases zZ hf4 with ⟨c8, hf4⟩ | ⟨c8, hf4⟩
            ·obtain rfl := zl hf4
             exact yF X0 hC .normal (y8 x0 x1 yv YY x16 r_ x23 x24 Channel_e x59 r_3 sg6) (Z3 ++ (rpN 6 (Hq c8) [qT])) fun st0 h0 => ⟨rfl, _, h0, LeL.refl _⟩
            ·let Z4 : List HO := (Z3 ++ (rpN 6 (Hq c8) []))
             rcases zZ hf4 with ⟨c9, hf4⟩ | ⟨c9, hf4⟩
             ·obtain rfl := zl hf4
              exact yF X0 hC .normal (y8 x0 x1 yv YY x16 r_ x23 x24 Channel_e x59 r_3 sg6) (Z4 ++ [Hq c9]) fun st0 h0 => ⟨rfl, _, h0, LeL.refl _⟩
             ·refine yA X0 hC zA [1,1,0,0,1,1,2,0,1,1,0,1,0,1,1,1,1,0,0,1,1,2,0,1,1,1,0,1,0,1,1] [J1, J2, J4, J5] [(0, .own (.opq (YY sg6).q)), (1, .d (.sptr (yV x0))), (2, .d (.sptr (yH x1))), (3, .own (.box (.atom yv))), (4, .own (.box (I x16))), (5, .own (.box (I x23))), (6, .own (.box (vW x24))), (9, .own (.box (I x59))), (10, .d (I x69)), (11, .own (.box (vW x70))), (12, .own (.box (yH x1))), (15, .d (I ((x0.Parts.length : Nat) : Int))), (16, .d (I x16)), (22, .d (.fn 103 [.sptr (.agg [I r_.1.Messages, I r_.1.Labels, eSl 1 false (eI .i64) r_.1.Channels, eSl 3 false wH r_.1.Parts]), .sptr (I r_.2.1), .sptr (.agg [.agg [I r_.2.2.states_.e0, I r_.2.2.states_.e1, I r_.2.2.states_.e2, I r_.2.2.states_.e3], .agg [.agg [I r_.2.2.queues_.e0.many_, .agg [I r_.2.2.queues_.e0.l_.e0, I r_.2.2.queues_.e0.l_.e1, I r_.2.2.queues_.e0.l_.e2, I r_.2.2.queues_.e0.l_.e3]], .agg [I r_.2.2.queues_.e1.many_, .agg [I r_.2.2.queues_.e1.l_.e0, I r_.2.2.queues_.e1.l_.e1, I r_.2.2.queues_.e1.l_.e2, I r_.2.2.queues_.e1.l_.e3]], .agg [I r_.2.2.queues_.e2.many_, .agg [I r_.2.2.queues_.e2.l_.e0, I r_.2.2.queues_.e2.l_.e1, I r_.2.2.queues_.e2.l_.e2, I r_.2.2.queues_.e2.l_.e3]], .agg [I r_.2.2.queues_.e3.many_, .agg [I r_.2.2.queues_.e3.l_.e0, I r_.2.2.queues_.e3.l_.e1, I r_.2.2.queues_.e3.l_.e2, I r_.2.2.queues_.e3.l_.e3]]]])])), (48, .d (.sptr (eSl 1 false (eI .i64) x0.Channels))), (49, .d (eSl 1 false (eI .i64) x0.Channels)), (51, .d (I x24.Channel)), (52, .d (.sptr (I Channel_e))), (53, .d (I Channel_e)), (54, .d (B (decide (Channel_e > 0)))), (58, .d (I ((x0.Parts.length : Nat) : Int))), (59, .d (I x59)), (68, .d (.fn 103 [.sptr (.agg [I r_3.1.Messages, I r_3.1.Labels, eSl 1 false (eI .i64) r_3.1.Channels, eSl 3 false wH r_3.1.Parts]), .sptr (I r_3.2.1), .sptr (.agg [.agg [I r_3.2.2.states_.e0, I r_3.2.2.states_.e1, I r_3.2.2.states_.e2, I r_3.2.2.states_.e3], .agg [.agg [I r_3.2.2.queues_.e0.many_, .agg [I r_3.2.2.queues_.e0.l_.e0, I r_3.2.2.queues_.e0.l_.e1, I r_3.2.2.queues_.e0.l_.e2, I r_3.2.2.queues_.e0.l_.e3]], .agg [I r_3.2.2.queues_.e1.many_, .agg [I r_3.2.2.queues_.e1.l_.e0, I r_3.2.2.queues_.e1.l_.e1, I r_3.2.2.queues_.e1.l_.e2, I r_3.2.2.queues_.e1.l_.e3]], .agg [I r_3.2.2.queues_.e2.many_, .agg [I r_3.2.2.queues_.e2.l_.e0, I r_3.2.2.queues_.e2.l_.e1, I r_3.2.2.queues_.e2.l_.e2, I r_3.2.2.queues_.e2.l_.e3]], .agg [I r_3.2.2.queues_.e3.many_, .agg [I r_3.2.2.queues_.e3.l_.e0, I r_3.2.2.queues_.e3.l_.e1, I r_3.2.2.queues_.e3.l_.e2, I r_3.2.2.queues_.e3.l_.e3]]]])])), (76, .d (I x70.Channel)), (78, .d (I x24.Channel)), (79, .d (B (x70.Channel != x24.Channel))), (83, .d (I x70.Message)), (85, .d (I x24.Message)), (86, .d (B (x70.Message != x24.Message)))] (Z4 ++ [Hq c9, Hh (.cut 1)]) ?_
              obtain ⟨cell, h6, hf4⟩ := zo hf4
              obtain ⟨arr, h7, hf4⟩ := zo hf4
              replace h7 := zl h7
              obtain ⟨cell1, h8, hf4⟩ := zo hf4
              obtain ⟨arr1, h9, hf4⟩ := zo hf4
              replace h9 := zl h9
              refine z54 (by kernel_rfl) (x := (sub [1,1,0,0,1,1,2,0,1,1,0,1,0,1,1,1,1,0,0,1,1,2,0,1,1,1,0,1,0,1,1,0] zA)) (y := (sub [1,1,0,0,1,1,2,0,1,1,0,1,0,1,1,1,1,0,0,1,1,2,0,1,1,1,0,1,0,1,1,1] zA)) 12 (fun st1 => Own.canon [0,1,2,3,4,5,6,9,10,12,15,16,22,48,49,51,52,53,54,58,59,68,76,78,79,83,85,86] st1 = ofL [(0, .own (.opq (YY sg6).q)), (1, .d (.sptr (yV x0))), (2, .d (.sptr (yH x1))), (3, .own (.box (.atom yv))), (4, .own (.box (I x16))), (5, .own (.box (I x23))), (6, .own (.box (vW x24))), (9, .own (.box (I x59))), (10, .d (I x69)), (12, .own (.box (.agg [F0_ arr1, z3C x1.queues_]))), (15, .d (I ((x0.Parts.length : Nat) : Int))), (16, .d (I x16)), (22, .d (.fn 103 [.sptr (.agg [I r_.1.Messages, I r_.1.Labels, eSl 1 false (eI .i64) r_.1.Channels, eSl 3 false wH r_.1.Parts]), .sptr (I r_.2.1), .sptr (.agg [.agg [I r_.2.2.states_.e0, I r_.2.2.states_.e1, I r_.2.2.states_.e2, I r_.2.2.states_.e3], .agg [.agg [I r_.2.2.queues_.e0.many_, .agg [I r_.2.2.queues_.e0.l_.e0, I r_.2.2.queues_.e0.l_.e1, I r_.2.2.queues_.e0.l_.e2, I r_.2.2.queues_.e0.l_.e3]], .agg [I r_.2.2.queues_.e1.many_, .agg [I r_.2.2.queues_.e1.l_.e0, I r_.2.2.queues_.e1.l_.e1, I r_.2.2.queues_.e1.l_.e2, I r_.2.2.queues_.e1.l_.e3]], .agg [I r_.2.2.queues_.e2.many_, .agg [I r_.2.2.queues_.e2.l_.e0, I r_.2.2.queues_.e2.l_.e1, I r_.2.2.queues_.e2.l_.e2, I r_.2.2.queues_.e2.l_.e3]], .agg [I r_.2.2.queues_.e3.many_, .agg [I r_.2.2.queues_.e3.l_.e0, I r_.2.2.queues_.e3.l_.e1, I r_.2.2.queues_.e3.l_.e2, I r_.2.2.queues_.e3.l_.e3]]]])])), (48, .d (.sptr (eSl 1 false (eI .i64) x0.Channels))), (49, .d (eSl 1 false (eI .i64) x0.Channels)), (51, .d (I x24.Channel)), (52, .d (.sptr (I Channel_e))), (53, .d (I Channel_e)), (54, .d (B (decide (Channel_e > 0)))), (58, .d (I ((x0.Parts.length : Nat) : Int))), (59, .d (I x59)), (68, .d (.fn 103 [.sptr (.agg [I r_3.1.Messages, I r_3.1.Labels, eSl 1 false (eI .i64) r_3.1.Channels, eSl 3 false wH r_3.1.Parts]), .sptr (I r_3.2.1), .sptr (.agg [.agg [I r_3.2.2.states_.e0, I r_3.2.2.states_.e1, I r_3.2.2.states_.e2, I r_3.2.2.states_.e3], .agg [.agg [I r_3.2.2.queues_.e0.many_, .agg [I r_3.2.2.queues_.e0.l_.e0, I r_3.2.2.queues_.e0.l_.e1, I r_3.2.2.queues_.e0.l_.e2, I r_3.2.2.queues_.e0.l_.e3]], .agg [I r_3.2.2.queues_.e1.many_, .agg [I r_3.2.2.queues_.e1.l_.e0, I r_3.2.2.queues_.e1.l_.e1, I r_3.2.2.queues_.e1.l_.e2, I r_3.2.2.queues_.e1.l_.e3]], .agg [I r_3.2.2.queues_.e2.many_, .agg [I r_3.2.2.queues_.e2.l_.e0, I r_3.2.2.queues_.e2.l_.e1, I r_3.2.2.queues_.e2.l_.e2, I r_3.2.2.queues_.e2.l_.e3]], .agg [I r_3.2.2.queues_.e3.many_, .agg [I r_3.2.2.queues_.e3.l_.e0, I r_3.2.2.queues_.e3.l_.e1, I r_3.2.2.queues_.e3.l_.e2, I r_3.2.2.queues_.e3.l_.e3]]]])])), (76, .d (I x70.Channel)), (78, .d (I x24.Channel)), (79, .d (B (x70.Channel != x24.Channel))), (83, .d (I x70.Message)), (85, .d (I x24.Message)), (86, .d (B (x70.Message != x24.Message)))]) ⟨_, rfl⟩ (fun b12 => yF ((xIa zR 98 12 0 b12).or ((xFa zR 97 12 0 b12).or ((xIa zR 96 12 0 b12).or ((xFa zR 95 12 0 b12).or X0)))) hC .normal [(0, .own (.opq (YY sg6).q)), (1, .d (.sptr (yV x0))), (2, .d (.sptr (yH x1))), (3, .own (.box (.atom yv))), (4, .own (.box (I x16))), (5, .own (.box (I x23))), (6, .own (.box (vW x24))), (9, .own (.box (I x59))), (10, .d (I x69)), (12, .own (.box (.agg [F0_ arr1, z3C x1.queues_]))), (15, .d (I ((x0.Parts.length : Nat) : Int))), (16, .d (I x16)), (22, .d (.fn 103 [.sptr (.agg [I r_.1.Messages, I r_.1.Labels, eSl 1 false (eI .i64) r_.1.Channels, eSl 3 false wH r_.1.Parts]), .sptr (I r_.2.1), .sptr (.agg [.agg [I r_.2.2.states_.e0, I r_.2.2.states_.e1, I r_.2.2.states_.e2, I r_.2.2.states_.e3], .agg [.agg [I r_.2.2.queues_.e0.many_, .agg [I r_.2.2.queues_.e0.l_.e0, I r_.2.2.queues_.e0.l_.e1, I r_.2.2.queues_.e0.l_.e2, I r_.2.2.queues_.e0.l_.e3]], .agg [I r_.2.2.queues_.e1.many_, .agg [I r_.2.2.queues_.e1.l_.e0, I r_.2.2.queues_.e1.l_.e1, I r_.2.2.queues_.e1.l_.e2, I r_.2.2.queues_.e1.l_.e3]], .agg [I r_.2.2.queues_.e2.many_, .agg [I r_.2.2.queues_.e2.l_.e0, I r_.2.2.queues_.e2.l_.e1, I r_.2.2.queues_.e2.l_.e2, I r_.2.2.queues_.e2.l_.e3]], .agg [I r_.2.2.queues_.e3.many_, .agg [I r_.2.2.queues_.e3.l_.e0, I r_.2.2.queues_.e3.l_.e1, I r_.2.2.queues_.e3.l_.e2, I r_.2.2.queues_.e3.l_.e3]]]])])), (48, .d (.sptr (eSl 1 false (eI .i64) x0.Channels))), (49, .d (eSl 1 false (eI .i64) x0.Channels)), (51, .d (I x24.Channel)), (52, .d (.sptr (I Channel_e))), (53, .d (I Channel_e)), (54, .d (B (decide (Channel_e > 0)))), (58, .d (I ((x0.Parts.length : Nat) : Int))), (59, .d (I x59)), (68, .d (.fn 103 [.sptr (.agg [I r_3.1.Messages, I r_3.1.Labels, eSl 1 false (eI .i64) r_3.1.Channels, eSl 3 false wH r_3.1.Parts]), .sptr (I r_3.2.1), .sptr (.agg [.agg [I r_3.2.2.states_.e0, I r_3.2.2.states_.e1, I r_3.2.2.states_.e2, I r_3.2.2.states_.e3], .agg [.agg [I r_3.2.2.queues_.e0.many_, .agg [I r_3.2.2.queues_.e0.l_.e0, I r_3.2.2.queues_.e0.l_.e1, I r_3.2.2.queues_.e0.l_.e2, I r_3.2.2.queues_.e0.l_.e3]], .agg [I r_3.2.2.queues_.e1.many_, .agg [I r_3.2.2.queues_.e1.l_.e0, I r_3.2.2.queues_.e1.l_.e1, I r_3.2.2.queues_.e1.l_.e2, I r_3.2.2.queues_.e1.l_.e3]], .agg [I r_3.2.2.queues_.e2.many_, .agg [I r_3.2.2.queues_.e2.l_.e0, I r_3.2.2.queues_.e2.l_.e1, I r_3.2.2.queues_.e2.l_.e2, I r_3.2.2.queues_.e2.l_.e3]], .agg [I r_3.2.2.queues_.e3.many_, .agg [I r_3.2.2.queues_.e3.l_.e0, I r_3.2.2.queues_.e3.l_.e1, I r_3.2.2.queues_.e3.l_.e2, I r_3.2.2.queues_.e3.l_.e3]]]])])), (76, .d (I x70.Channel)), (78, .d (I x24.Channel)), (79, .d (B (x70.Channel != x24.Channel))), (83, .d (I x70.Message)), (85, .d (I x24.Message)), (86, .d (B (x70.Message != x24.Message)))] [Hn (rfl : some (z17 b12) = some (z17 b12)), Hn (⟨rfl, rfl⟩ : T.d (.atom (.pointer (some ⟨b12,0, none⟩))) = T.d (.atom (.pointer (some ⟨b12,0, none⟩))) ∧ some (z17 b12) = some (z17 b12)), Hn (⟨arJ (by kernel_rfl) (i0 h6), (iL (eI .i64) h6).2⟩ : Y6 xZ 110 ((zD.toL x1.states_).map (eI .i64)) x16 = true ∧ x16.toNat < ((zD.toL x1.states_).map (eI .i64)).length), Hh (.op 8), Hh (.f), Hx (.a (.agg [I x1.states_.e0, I x1.states_.e1, I x1.states_.e2, I x1.states_.e3])) (rfl : some (.agg [I x1.states_.e0, I x1.states_.e1, I x1.states_.e2, I x1.states_.e3] : A) = some (.agg [I x1.states_.e0, I x1.states_.e1, I x1.states_.e2, I x1.states_.e3])), Hh (.f), Hs (iM (eI .i64) h6), Hh (.f), Hx (.a (.agg [I x1.states_.e0, I x1.states_.e1, I x1.states_.e2, I x1.states_.e3])) (rfl : some (.agg [I x1.states_.e0, I x1.states_.e1, I x1.states_.e2, I x1.states_.e3] : A) = some (.agg [I x1.states_.e0, I x1.states_.e1, I x1.states_.e2, I x1.states_.e3])), Hh (.f), Hs (iM (eI .i64) h6), Hx (.l ((zD.toL arr).map (eI .i64))) ((zD.setL (eI .i64) x1.states_ x16 x24.To).trans (congrArg (fun q => (zD.toL q).map (eI .i64)) h7)), Hx (.l [.agg [I arr.e0, I arr.e1, I arr.e2, I arr.e3], .agg [.agg [I x1.queues_.e0.many_, .agg [I x1.queues_.e0.l_.e0, I x1.queues_.e0.l_.e1, I x1.queues_.e0.l_.e2, I x1.queues_.e0.l_.e3]], .agg [I x1.queues_.e1.many_, .agg [I x1.queues_.e1.l_.e0, I x1.queues_.e1.l_.e1, I x1.queues_.e1.l_.e2, I x1.queues_.e1.l_.e3]], .agg [I x1.queues_.e2.many_, .agg [I x1.queues_.e2.l_.e0, I x1.queues_.e2.l_.e1, I x1.queues_.e2.l_.e2, I x1.queues_.e2.l_.e3]], .agg [I x1.queues_.e3.many_, .agg [I x1.queues_.e3.l_.e0, I x1.queues_.e3.l_.e1, I x1.queues_.e3.l_.e2, I x1.queues_.e3.l_.e3]]]]) (rfl : ([.agg [I arr.e0, I arr.e1, I arr.e2, I arr.e3], .agg [.agg [I x1.queues_.e0.many_, .agg [I x1.queues_.e0.l_.e0, I x1.queues_.e0.l_.e1, I x1.queues_.e0.l_.e2, I x1.queues_.e0.l_.e3]], .agg [I x1.queues_.e1.many_, .agg [I x1.queues_.e1.l_.e0, I x1.queues_.e1.l_.e1, I x1.queues_.e1.l_.e2, I x1.queues_.e1.l_.e3]], .agg [I x1.queues_.e2.many_, .agg [I x1.queues_.e2.l_.e0, I x1.queues_.e2.l_.e1, I x1.queues_.e2.l_.e2, I x1.queues_.e2.l_.e3]], .agg [I x1.queues_.e3.many_, .agg [I x1.queues_.e3.l_.e0, I x1.queues_.e3.l_.e1, I x1.queues_.e3.l_.e2, I x1.queues_.e3.l_.e3]]]] : List A) = [.agg [I arr.e0, I arr.e1, I arr.e2, I arr.e3], .agg [.agg [I x1.queues_.e0.many_, .agg [I x1.queues_.e0.l_.e0, I x1.queues_.e0.l_.e1, I x1.queues_.e0.l_.e2, I x1.queues_.e0.l_.e3]], .agg [I x1.queues_.e1.many_, .agg [I x1.queues_.e1.l_.e0, I x1.queues_.e1.l_.e1, I x1.queues_.e1.l_.e2, I x1.queues_.e1.l_.e3]], .agg [I x1.queues_.e2.many_, .agg [I x1.queues_.e2.l_.e0, I x1.queues_.e2.l_.e1, I x1.queues_.e2.l_.e2, I x1.queues_.e2.l_.e3]], .agg [I x1.queues_.e3.many_, .agg [I x1.queues_.e3.l_.e0, I x1.queues_.e3.l_.e1, I x1.queues_.e3.l_.e2, I x1.queues_.e3.l_.e3]]]]), Hn (rfl : some (z17 b12) = some (z17 b12)), Hn (⟨rfl, rfl⟩ : T.d (.atom (.pointer (some ⟨b12,0, none⟩))) = T.d (.atom (.pointer (some ⟨b12,0, none⟩))) ∧ some (z17 b12) = some (z17 b12)), Hn (⟨arJ (by kernel_rfl) (i0 h8), (iL (eI .i64) h8).2⟩ : Y6 xZ 110 ((zD.toL arr).map (eI .i64)) x59 = true ∧ x59.toNat < ((zD.toL arr).map (eI .i64)).length), Hh (.op 2), Hh (.f), Hx (.a (.agg [I arr.e0, I arr.e1, I arr.e2, I arr.e3])) (rfl : some (.agg [I arr.e0, I arr.e1, I arr.e2, I arr.e3] : A) = some (.agg [I arr.e0, I arr.e1, I arr.e2, I arr.e3])), Hh (.f), Hs (iM (eI .i64) h8), Hh (.f), Hx (.a (.agg [I arr.e0, I arr.e1, I arr.e2, I arr.e3])) (rfl : some (.agg [I arr.e0, I arr.e1, I arr.e2, I arr.e3] : A) = some (.agg [I arr.e0, I arr.e1, I arr.e2, I arr.e3])), Hh (.f), Hs (iM (eI .i64) h8), Hx (.l ((zD.toL arr1).map (eI .i64))) ((zD.setL (eI .i64) arr x59 x70.To).trans (congrArg (fun q => (zD.toL q).map (eI .i64)) h9)), Hx (.l [.agg [I arr1.e0, I arr1.e1, I arr1.e2, I arr1.e3], .agg [.agg [I x1.queues_.e0.many_, .agg [I x1.queues_.e0.l_.e0, I x1.queues_.e0.l_.e1, I x1.queues_.e0.l_.e2, I x1.queues_.e0.l_.e3]], .agg [I x1.queues_.e1.many_, .agg [I x1.queues_.e1.l_.e0, I x1.queues_.e1.l_.e1, I x1.queues_.e1.l_.e2, I x1.queues_.e1.l_.e3]], .agg [I x1.queues_.e2.many_, .agg [I x1.queues_.e2.l_.e0, I x1.queues_.e2.l_.e1, I x1.queues_.e2.l_.e2, I x1.queues_.e2.l_.e3]], .agg [I x1.queues_.e3.many_, .agg [I x1.queues_.e3.l_.e0, I x1.queues_.e3.l_.e1, I x1.queues_.e3.l_.e2, I x1.queues_.e3.l_.e3]]]]) (rfl : ([.agg [I arr1.e0, I arr1.e1, I arr1.e2, I arr1.e3], .agg [.agg [I x1.queues_.e0.many_, .agg [I x1.queues_.e0.l_.e0, I x1.queues_.e0.l_.e1, I x1.queues_.e0.l_.e2, I x1.queues_.e0.l_.e3]], .agg [I x1.queues_.e1.many_, .agg [I x1.queues_.e1.l_.e0, I x1.queues_.e1.l_.e1, I x1.queues_.e1.l_.e2, I x1.queues_.e1.l_.e3]], .agg [I x1.queues_.e2.many_, .agg [I x1.queues_.e2.l_.e0, I x1.queues_.e2.l_.e1, I x1.queues_.e2.l_.e2, I x1.queues_.e2.l_.e3]], .agg [I x1.queues_.e3.many_, .agg [I x1.queues_.e3.l_.e0, I x1.queues_.e3.l_.e1, I x1.queues_.e3.l_.e2, I x1.queues_.e3.l_.e3]]]] : List A) = [.agg [I arr1.e0, I arr1.e1, I arr1.e2, I arr1.e3], .agg [.agg [I x1.queues_.e0.many_, .agg [I x1.queues_.e0.l_.e0, I x1.queues_.e0.l_.e1, I x1.queues_.e0.l_.e2, I x1.queues_.e0.l_.e3]], .agg [I x1.queues_.e1.many_, .agg [I x1.queues_.e1.l_.e0, I x1.queues_.e1.l_.e1, I x1.queues_.e1.l_.e2, I x1.queues_.e1.l_.e3]], .agg [I x1.queues_.e2.many_, .agg [I x1.queues_.e2.l_.e0, I x1.queues_.e2.l_.e1, I x1.queues_.e2.l_.e2, I x1.queues_.e2.l_.e3]], .agg [I x1.queues_.e3.many_, .agg [I x1.queues_.e3.l_.e0, I x1.queues_.e3.l_.e1, I x1.queues_.e3.l_.e2, I x1.queues_.e3.l_.e3]]]])] fun st0 h0 => ⟨rfl, h0⟩) fun st1 h1 => z0q h1 ?_
              obtain ⟨yr1, h10, hf4⟩ := zo hf4
              let Z5 : List HO := [Hn (⟨rfl, rfl, _, rfl⟩ : T.own (.box (.atom yv)) = T.own (.box (.atom yv)) ∧ some yv = some yv ∧ ∃ x, T.own (.opq (YY sg6).q) = T.own x), Hn (z1U (yv := yv) (Y := YY) (enc := (fun (x : za × zb) (_ : Bool) (_ : Value) => [xu x.1, yH x.2])) (s := sg6) (x := ((za.mk x16 x23 x59 x69), (zb.mk arr1 x1.queues_))) (s' := yr1.1) (b := yr1.2) (v := .nilFunc) [xu (za.mk x16 x23 x59 x69), yH (zb.mk arr1 x1.queues_)] (show z0w [xu (za.mk x16 x23 x59 x69), yH (zb.mk arr1 x1.queues_)] [xu (za.mk x16 x23 x59 x69), yH (zb.mk arr1 x1.queues_)] from inferInstance))]
              rcases zZ hf4 with ⟨c10, hf4⟩ | ⟨c10, hf4⟩
              ·obtain rfl := zl hf4
               exact yF ((Kn (P := Tryz.prog) xZ hy 106 (s := sg6) (x := ((za.mk x16 x23 x59 x69), (zb.mk arr1 x1.queues_))) (s' := yr1.1) (b := yr1.2) .nilFunc h10).or ((xLy zR 99 3 0 yv).or X0)) hC .ret (y8 x0 x1 yv YY x16 r_ x23 x24 Channel_e x59 r_3 yr1.1) (Z5 ++ [Hq c10]) fun st0 h0 => ⟨rfl, _, h0, LeL.refl _⟩
              ·obtain rfl := zl hf4
               exact yF ((Kn (P := Tryz.prog) xZ hy 106 (s := sg6) (x := ((za.mk x16 x23 x59 x69), (zb.mk arr1 x1.queues_))) (s' := yr1.1) (b := yr1.2) .nilFunc h10).or ((xLy zR 99 3 0 yv).or X0)) hC .normal (y8 x0 x1 yv YY x16 r_ x23 x24 Channel_e x59 r_3 yr1.1) (Z5 ++ [Hq c10]) fun st0 h0 => ⟨rfl, _, h0, LeL.refl _⟩
          ·rcases t6 with sg6 | sg6
           ·dsimp only at hf3
            exact YV (by kernel_rfl) (hJ5 _ [(0, .own (.opq (YY sg6).q)), (1, .d (.sptr (yV x0))), (2, .d (.sptr (yH x1))), (3, .own (.box (.atom yv))), (4, .own (.box (I x16))), (5, .own (.box (I x23))), (6, .own (.box (vW x24))), (15, .d (I ((x0.Parts.length : Nat) : Int))), (16, .d (I x16)), (22, .d (.fn 103 [.sptr (.agg [I r_.1.Messages, I r_.1.Labels, eSl 1 false (eI .i64) r_.1.Channels, eSl 3 false wH r_.1.Parts]), .sptr (I r_.2.1), .sptr (.agg [.agg [I r_.2.2.states_.e0, I r_.2.2.states_.e1, I r_.2.2.states_.e2, I r_.2.2.states_.e3], .agg [.agg [I r_.2.2.queues_.e0.many_, .agg [I r_.2.2.queues_.e0.l_.e0, I r_.2.2.queues_.e0.l_.e1, I r_.2.2.queues_.e0.l_.e2, I r_.2.2.queues_.e0.l_.e3]], .agg [I r_.2.2.queues_.e1.many_, .agg [I r_.2.2.queues_.e1.l_.e0, I r_.2.2.queues_.e1.l_.e1, I r_.2.2.queues_.e1.l_.e2, I r_.2.2.queues_.e1.l_.e3]], .agg [I r_.2.2.queues_.e2.many_, .agg [I r_.2.2.queues_.e2.l_.e0, I r_.2.2.queues_.e2.l_.e1, I r_.2.2.queues_.e2.l_.e2, I r_.2.2.queues_.e2.l_.e3]], .agg [I r_.2.2.queues_.e3.many_, .agg [I r_.2.2.queues_.e3.l_.e0, I r_.2.2.queues_.e3.l_.e1, I r_.2.2.queues_.e3.l_.e2, I r_.2.2.queues_.e3.l_.e3]]]])])), (48, .d (.sptr (eSl 1 false (eI .i64) x0.Channels))), (49, .d (eSl 1 false (eI .i64) x0.Channels)), (51, .d (I x24.Channel)), (52, .d (.sptr (I Channel_e))), (53, .d (I Channel_e)), (54, .d (B (decide (Channel_e > 0)))), (58, .d (I ((x0.Parts.length : Nat) : Int))), (59, .d (I x59))] sg6 hf3 (show Own.canon [0,1,2,3,4,5,6,15,16,22,48,49,51,52,53,54,58,59] _ = ofL _ by kernel_rfl) inferInstance)
           ·dsimp only at hf3
            show AWP _ _ (Code.ret) _ _
            obtain rfl := zl hf3
            obtain rfl := hl3
            obtain rfl := zl hf2
            exact yF X0 hC .ret (zY x0 x1 yv YY x16 r_ sg6) [] fun st0 h0 => ⟨rfl, _, h0, LeL.refl _⟩
       ·obtain rfl := zl hf3
        obtain rfl := hl3
        obtain rfl := zl hf2
        exact yF X0 hC .normal (zY x0 x1 yv YY x16 r_ sg4) [Hq c5] fun st0 h0 => ⟨rfl, _, h0, LeL.refl _⟩
   ·rcases t3 with sg3 | sg3
    ·dsimp only at hf1
     exact YV (by kernel_rfl) (hJ2 _ [(0, .own (.opq (YY sg3).q)), (1, .d (.sptr (yV x0))), (2, .d (.sptr (yH x1))), (3, .own (.box (.atom yv))), (15, .d (I ((x0.Parts.length : Nat) : Int))), (16, .d (I x16))] sg3 hf1 (show Own.canon [0,1,2,3,15,16] _ = ofL _ by kernel_rfl) inferInstance)
    ·dsimp only at hf1
     show AWP _ _ (Code.ret) _ _
     obtain rfl := zl hf1
     obtain rfl := hl1
     obtain rfl := zl hf0
     exact yF X0 hC .ret [(0, .own (.opq (YY sg3).q))] [] fun st0 h0 => hE _ st0 (.inr rfl) h0
 ·obtain rfl := zl hf1
  obtain rfl := hl1
  obtain rfl := zl hf0
  exact yF X0 hC .normal [(0, .own (.opq (YY sg1).q))] [Hq c0] fun st0 h0 => hE _ st0 (.inl rfl) h0
def qm : Code := (Tryz.f44.body).getD .skip
def ye : yU := spF (α := List za) (ρ := List za) 44 (fun x => [z9q x]) (fun r => z5r r) (fun x => y7 x) [] (Qp)
theorem qC {ctr : Ctr} (hC : zT Tryz.prog ctr) : ye.Ok Tryz.prog := by
 refine y4 ?_
 rintro s_ r0 hf0
 try unfold y7 at hf0
 refine yO true [(2, none)] qm 9 Tryz.func44 fun E hE => ?_
 obtain ⟨g0, hf0⟩ := gdE hf0
 obtain rfl := zl hf0
 exact yE X0 hC hE [Ha (lnM xu s_), Ha (lnM xu s_), Hn (slB g0), Hn (slC g0), Hn (z3i xu g0), Ha (z9e 4 xu s_ 0 ((s_.length : Nat) : Int).toNat)]
def vj : Code := (Tryz.f22.body).getD .skip
def Zd : yU := spF (α := z8 × z7) (ρ := List za × Int) 22 (fun x => [yV x.1, xh x.2]) (fun r => .tup [z5r r.1, (eI .i64) r.2]) (fun x => jZ x.1 x.2) [] (Uu)
abbrev Vn (out : List za) : List (Nat × T) := [(7, .own (.box (eOs 4 false xu out)))]
abbrev Y0 (r_3 : z8 × zb) (out1 : List za) : List (Nat × T) := [(7, .own (.box (eOs 4 false xu out1))), (18, .d (.fn 82 [.sptr (.agg [I r_3.1.Messages, I r_3.1.Labels, eSl 1 false (eI .i64) r_3.1.Channels, eSl 3 false wH r_3.1.Parts]), .sptr (.agg [.agg [I r_3.2.states_.e0, I r_3.2.states_.e1, I r_3.2.states_.e2, I r_3.2.states_.e3], .agg [.agg [I r_3.2.queues_.e0.many_, .agg [I r_3.2.queues_.e0.l_.e0, I r_3.2.queues_.e0.l_.e1, I r_3.2.queues_.e0.l_.e2, I r_3.2.queues_.e0.l_.e3]], .agg [I r_3.2.queues_.e1.many_, .agg [I r_3.2.queues_.e1.l_.e0, I r_3.2.queues_.e1.l_.e1, I r_3.2.queues_.e1.l_.e2, I r_3.2.queues_.e1.l_.e3]], .agg [I r_3.2.queues_.e2.many_, .agg [I r_3.2.queues_.e2.l_.e0, I r_3.2.queues_.e2.l_.e1, I r_3.2.queues_.e2.l_.e2, I r_3.2.queues_.e2.l_.e3]], .agg [I r_3.2.queues_.e3.many_, .agg [I r_3.2.queues_.e3.l_.e0, I r_3.2.queues_.e3.l_.e1, I r_3.2.queues_.e3.l_.e2, I r_3.2.queues_.e3.l_.e3]]]])]))]
theorem Ja {ctr : Ctr} (hC : zT Tryz.prog ctr) (h0p : ctr.Has v6) (h0q : ctr.Has jg) (h0e : ctr.Has xT) (h04 : ctr.Has xw) (h08 : ctr.Has xv) (h09 : ctr.Has jA) (h0f : ctr.Has ye) : Zd.Ok Tryz.prog := by
 refine y4 ?_
 rintro ⟨x_, c_⟩ r0 hf0
 try unfold jZ at hf0
 refine yO false [(4, none), (5, none)] vj 27 Tryz.func22 fun E hE => ?_
 obtain ⟨r_, h0, hf0⟩ := zo hf0
 let Z0 : List HO := [Hc h0p (x := (x_, c_)) h0 (loC yV x_ <| loC xh c_ <| loN)]
 rcases zZ hf0 with ⟨c0, hf0⟩ | ⟨c0, hf0⟩
 ·obtain rfl := zl hf0
  exact yEx X0 hC hE (Z0 ++ [Hq c0, Hm (shM xu xu [])]) (.tup [eSl 4 true xu [], I r_]) (show LeV (.tup [eSl 4 true xu [], I r_]) (.tup [eSl 4 true xu ([] : List za), I r_]) from inferInstance)
 ·refine yJ X0 hC vj [1,1,1] [] [7] (fun z : List za => uK z = some r0) (fun z => Vn z) [(2, .own (.box (yV x_))), (3, .own (.box (xh c_))), (7, .own (.box (eOs 4 true xu [])))] (Z0 ++ [Hq c0, Hh (.cut 1)]) ?_ fun J1 hJ1 => ?_
  ·rintro out hf0
   unfold uK at hf0
   obtain ⟨r_1, h1, hf0⟩ := zo hf0
   obtain rfl := zl hf0
   exact yE X0 hC hE [Hg (z1v h0f), Hm (shM xu xu out), Hs (z1w h0f (x := out) h1 (loC z9q out <| loN)), Hm (shM xu xu out)]
  ·obtain ⟨r_2, h2, hf0⟩ := zo hf0
   obtain ⟨r_3, h3, hf0⟩ := zo hf0
   obtain ⟨t2, ht2, hf0⟩ := zo hf0
   refine yAt X0 hC (sub [1,1,1,2,1,0] vj) (frs [1,1,1,2,1,0] [J1] vj []) [(7, .own (.box (eOs 4 true xu []))), (18, .d (.fn 82 [.sptr (.agg [I r_3.1.Messages, I r_3.1.Labels, eSl 1 false (eI .i64) r_3.1.Channels, eSl 3 false wH r_3.1.Parts]), .sptr (.agg [.agg [I r_3.2.states_.e0, I r_3.2.states_.e1, I r_3.2.states_.e2, I r_3.2.states_.e3], .agg [.agg [I r_3.2.queues_.e0.many_, .agg [I r_3.2.queues_.e0.l_.e0, I r_3.2.queues_.e0.l_.e1, I r_3.2.queues_.e0.l_.e2, I r_3.2.queues_.e0.l_.e3]], .agg [I r_3.2.queues_.e1.many_, .agg [I r_3.2.queues_.e1.l_.e0, I r_3.2.queues_.e1.l_.e1, I r_3.2.queues_.e1.l_.e2, I r_3.2.queues_.e1.l_.e3]], .agg [I r_3.2.queues_.e2.many_, .agg [I r_3.2.queues_.e2.l_.e0, I r_3.2.queues_.e2.l_.e1, I r_3.2.queues_.e2.l_.e2, I r_3.2.queues_.e2.l_.e3]], .agg [I r_3.2.queues_.e3.many_, .agg [I r_3.2.queues_.e3.l_.e0, I r_3.2.queues_.e3.l_.e1, I r_3.2.queues_.e3.l_.e2, I r_3.2.queues_.e3.l_.e3]]]])]))] [Hc h0q (x := c_) h2 (loC xh c_ <| loN), Hc h0e (x := (x_, r_2)) h3 (loC yV x_ <| loC yH r_2 <| loN)] fun st0 h0 => ?_
   refine K4 (g := .tmp 18) (ps := [19,20]) (assign := (sub [1,1,1,2,1,0,0] vj)) (body := (sub [1,1,1,2,1,0,1] vj)) (K := 82) (caps := [.sptr (.agg [I r_3.1.Messages, I r_3.1.Labels, eSl 1 false (eI .i64) r_3.1.Channels, eSl 3 false wH r_3.1.Parts]), .sptr (.agg [.agg [I r_3.2.states_.e0, I r_3.2.states_.e1, I r_3.2.states_.e2, I r_3.2.states_.e3], .agg [.agg [I r_3.2.queues_.e0.many_, .agg [I r_3.2.queues_.e0.l_.e0, I r_3.2.queues_.e0.l_.e1, I r_3.2.queues_.e0.l_.e2, I r_3.2.queues_.e0.l_.e3]], .agg [I r_3.2.queues_.e1.many_, .agg [I r_3.2.queues_.e1.l_.e0, I r_3.2.queues_.e1.l_.e1, I r_3.2.queues_.e1.l_.e2, I r_3.2.queues_.e1.l_.e3]], .agg [I r_3.2.queues_.e2.many_, .agg [I r_3.2.queues_.e2.l_.e0, I r_3.2.queues_.e2.l_.e1, I r_3.2.queues_.e2.l_.e2, I r_3.2.queues_.e2.l_.e3]], .agg [I r_3.2.queues_.e3.many_, .agg [I r_3.2.queues_.e3.l_.e0, I r_3.2.queues_.e3.l_.e1, I r_3.2.queues_.e3.l_.e2, I r_3.2.queues_.e3.l_.e3]]]])]) (by kernel_rfl) [7,18] (fun s => Y0 r_3 s) (fun z => nomatch z) (fun z => nomatch z) ((fun (x : za × zb) (_ : Bool) (_ : Value) => [xu x.1, yH x.2])) (F := @y6 r_3.1 r_3.2) (fun s x => wJ s x.1 x.2) ([] : List za) t2 _ h0 inferInstance (by kernel_rfl) (by decide) (fun _ => rfl) (by rintro ⟨⟩) (by kernel_rfl) (fun _ _ _ => rfl) (vX hC h04 h08 h09 r_3.1 r_3.2) ht2 ?_ ?_
   ·rintro tv2 out1 ⟨x19, x20⟩ vr lr1 hf1
    replace hf1 : wJ out1 x19 x20 = some lr1 := hf1
    unfold wJ at hf1
    refine yF X0 hC .normal [(7, .own (.box (eOs 4 false xu out1))), (8, .own (.box (xu x19))), (18, .d (.fn 82 [.sptr (.agg [I r_3.1.Messages, I r_3.1.Labels, eSl 1 false (eI .i64) r_3.1.Channels, eSl 3 false wH r_3.1.Parts]), .sptr (.agg [.agg [I r_3.2.states_.e0, I r_3.2.states_.e1, I r_3.2.states_.e2, I r_3.2.states_.e3], .agg [.agg [I r_3.2.queues_.e0.many_, .agg [I r_3.2.queues_.e0.l_.e0, I r_3.2.queues_.e0.l_.e1, I r_3.2.queues_.e0.l_.e2, I r_3.2.queues_.e0.l_.e3]], .agg [I r_3.2.queues_.e1.many_, .agg [I r_3.2.queues_.e1.l_.e0, I r_3.2.queues_.e1.l_.e1, I r_3.2.queues_.e1.l_.e2, I r_3.2.queues_.e1.l_.e3]], .agg [I r_3.2.queues_.e2.many_, .agg [I r_3.2.queues_.e2.l_.e0, I r_3.2.queues_.e2.l_.e1, I r_3.2.queues_.e2.l_.e2, I r_3.2.queues_.e2.l_.e3]], .agg [I r_3.2.queues_.e3.many_, .agg [I r_3.2.queues_.e3.l_.e0, I r_3.2.queues_.e3.l_.e1, I r_3.2.queues_.e3.l_.e2, I r_3.2.queues_.e3.l_.e3]]]])]))] [] fun st0 h0 => ⟨rfl, z0q h0 ?_⟩
    obtain ⟨g0, hf1⟩ := gdE hf1
    obtain rfl := zl hf1
    exact yF X0 hC .normal (Y0 r_3 (out1 ++ ([x19] : List za))) [Hq (dM xu ([x19] : List za)), Hn (dM xu ([x19] : List za)), Hn (aL xu xu g0), Hl (aM xu out1 ([x19] : List za))] fun st0 h0 => ⟨rfl, _, h0, LeL.refl _⟩
   ·rcases t2 with out1 | z
    ·dsimp only at hf0
     exact YV (by kernel_rfl) (hJ1 _ [(7, .own (.box (eOs 4 false xu out1)))] out1 hf0 (show Own.canon [7] _ = ofL _ by kernel_rfl) inferInstance)
    ·cases z
def Xx : Code := (Tryz.f75.body).getD .skip
def uz : yU := spF (α := List Int) (ρ := List Int) 75 (fun x => [F2_ x]) (fun r => F3_ r) (fun x => xY x) [] (Qp)
theorem XM {ctr : Ctr} (hC : zT Tryz.prog ctr) : uz.Ok Tryz.prog := by
 refine y4 ?_
 rintro s_ r0 hf0
 try unfold xY at hf0
 refine yO true [(2, none)] Xx 8 Tryz.func75 fun E hE => ?_
 refine z96 rfl 0 (sz := 1) (t := false) (es := s_.map (eI .i64)) (by kernel_rfl) fun pv0 hv0 hn => ?_
 rcases hn with ⟨hn0, he0⟩ | hn0
 ·obtain ⟨_, hf0⟩ := gdE hf0
  rw [show s_ = [] from List.map_eq_nil_iff.1 he0] at hf0
  obtain rfl := zl hf0
  exact yEx ((zdP zR 4 26 (by kernel_rfl) hn0).or ((xMv Tryz.prog 3 0 pv0 hv0).or X0)) hC hE [Hn (rfl : some pv0 = some pv0), Hn (⟨rfl, rfl⟩ : T.d (.atom pv0) = T.d (.atom pv0) ∧ T.d (.atom (.slice none 0 0)) = T.d (.atom (.slice none 0 0))), qT] (eOs 1 true (eI .i64) []) (show LeV (eOs 1 true (eI .i64) []) (eOs 1 false (eI .i64) ([] : List Int)) from inferInstance)
 ·obtain ⟨g0, hf0⟩ := gdE hf0
  obtain rfl := zl hf0
  exact yE ((zdP zR 4 26 (by kernel_rfl) hn0).or ((xMv Tryz.prog 3 0 pv0 hv0).or X0)) hC hE [Hn (rfl : some pv0 = some pv0), Hn (⟨rfl, rfl⟩ : T.d (.atom pv0) = T.d (.atom pv0) ∧ T.d (.atom (.slice none 0 0)) = T.d (.atom (.slice none 0 0))), qF, Hn (dM (eI .i64) s_), Hn (aL (eI .i64) (eI .i64) g0), Hl (aM0 (eI .i64) s_)]
def XP : Code := (Tryz.f74.body).getD .skip
def uY : yU := spF (α := List Int) (ρ := List Int) 74 (fun x => [F2_ x]) (fun r => F1_ r) (fun x => wl x) [] (Qp)
theorem W4 {ctr : Ctr} (hC : zT Tryz.prog ctr) : uY.Ok Tryz.prog := by
 refine y4 ?_
 rintro s_ r0 hf0
 try unfold wl at hf0
 refine yO true [(2, none)] XP 9 Tryz.func74 fun E hE => ?_
 obtain ⟨g0, hf0⟩ := gdE hf0
 obtain rfl := zl hf0
 exact yE X0 hC hE [Ha (lnM (eI .i64) s_), Ha (lnM (eI .i64) s_), Hn (slB g0), Hn (slC g0), Hn (z3i (eI .i64) g0), Ha (z9e 1 (eI .i64) s_ 0 ((s_.length : Nat) : Int).toNat)]
def ud : Code := (Tryz.f45.body).getD .skip
def xI : yU := spF (α := z8 × zb) (ρ := z7) 45 (fun x => [yV x.1, yH x.2]) (fun r => Kj r) (fun x => xa x.1 x.2) [] (Uu)
abbrev ZZ (r_1 : List Int) (c_Queues : List (List Int)) : List (Nat × T) := [(4, .own (.box (.agg [eOs 1 true (eI .i64) [], eOs 1 true F2_ []]))), (5, .own (.box (.agg [eSl 1 true (eI .i64) r_1, eOs 1 true F1_ c_Queues])))]
abbrev ZY (x_ : z8) (s_ : zb) (r_1 : List Int) (c_Queues1 : List (List Int)) (x23 : Int) : List (Nat × T) := [(3, .d (.sptr (yH s_))), (4, .own (.box (.agg [eOs 1 true (eI .i64) [], eOs 1 true F2_ []]))), (5, .own (.box (.agg [eSl 1 true (eI .i64) r_1, eOs 1 true F1_ c_Queues1]))), (22, .d (I (((List.replicate ((x_.Channels.length : Nat) : Int).toNat ([] : List Int)).length : Nat) : Int))), (23, .d (I x23))]
theorem X1 {ctr : Ctr} (hC : zT Tryz.prog ctr) (h0u : ctr.Has uz) (h0j : ctr.Has uY) : xI.Ok Tryz.prog := by
 refine y4 ?_
 rintro ⟨x_, s_⟩ r0 hf0
 try unfold xa at hf0
 refine yO false [(4, some 39)] ud 42 Tryz.func45 fun E hE => ?_
 obtain ⟨g0, hf0⟩ := gdE hf0
 obtain ⟨r_, h0, hf0⟩ := zo hf0
 obtain ⟨r_1, h1, hf0⟩ := zo hf0
 obtain ⟨g1, hf0⟩ := gdE hf0
 refine yJ ((xMs zR 18 26).or ((xAh zR 12).or X0)) hC ud [1,1] [] [4,5] (fun z : List (List Int) => u2 r_1 z = some r0) (fun z => ZZ r_1 z) [(3, .d (.sptr (yH s_))), (4, .own (.box (.agg [eOs 1 true (eI .i64) [], eOs 1 true F2_ []]))), (5, .own (.box (.agg [eSl 1 true (eI .i64) r_1, eOs 1 true F1_ (List.replicate ((x_.Channels.length : Nat) : Int).toNat ([] : List Int))])))] [Hh (.n 2 [3]), Ha (lnM wH x_.Parts), Hn g0.1, Hn (cuB (eI .i64) g0), Hl (cuM (eI .i64) [s_.states_.e0, s_.states_.e1, s_.states_.e2, s_.states_.e3] ((x_.Parts.length : Nat) : Int)), Hc h0u (x := ([s_.states_.e0, s_.states_.e1, s_.states_.e2, s_.states_.e3].take ((x_.Parts.length : Nat) : Int).toNat)) h0 (loC F2_ ([s_.states_.e0, s_.states_.e1, s_.states_.e2, s_.states_.e3].take ((x_.Parts.length : Nat) : Int).toNat) <| loN), Hg (z1v h0j), Hm (shM (eI .i64) (eI .i64) r_), Hs (z1w h0j (x := r_) h1 (loC F2_ r_ <| loN)), Hm (shM (eI .i64) (eI .i64) r_), Ha (lnM (eI .i64) x_.Channels), Hn (rL g1), Ha (rM 1 F1_ ((x_.Channels.length : Nat) : Int) ([] : List Int)), Hh (.cut 0)] ?_ fun J1 hJ1 => ?_
 ·rintro c_Queues hf0
  unfold u2 at hf0
  obtain rfl := zl hf0
  exact yE X0 hC hE [Hm (shM F1_ F1_ c_Queues)]
 ·obtain ⟨t2, ht2, hf0⟩ := zo hf0
  refine yL X0 hC ud [1,1,2,1,0] [J1] (fun s => x7 x_ s_ s.1 s.2) (fun x => ZY x_ s_ r_1 x.1 x.2) ((List.replicate ((x_.Channels.length : Nat) : Int).toNat ([] : List Int)), 0) ht2  [Ha (lnM F1_ (List.replicate ((x_.Channels.length : Nat) : Int).toNat ([] : List Int)))] ?_
  rintro ⟨c_Queues1, x23⟩ m2 lr1 hf1 hl1 J2 hJ2
  try unfold x7 at hf1
  rcases zZ hf1 with ⟨c0, hf1⟩ | ⟨c0, hf1⟩
  ·obtain ⟨cell, h2, hf1⟩ := zo hf1
   obtain ⟨g2, hf1⟩ := gdE hf1
   obtain ⟨r_2, h3, hf1⟩ := zo hf1
   obtain ⟨r_3, h4, hf1⟩ := zo hf1
   obtain ⟨c_Queue_e, h5, hf1⟩ := zo hf1
   obtain rfl := zl hf1
   exact yB ((xAh zR 36).or X0) hC hJ2 ((c_Queues1.set x23.toNat r_3), w64 (x23 + 1)) hl1 [Hq c0, Hs (iM F9_ h2), Hn (arJ (by kernel_rfl) (i0 h2) : Y6 xZ 113 ((zD.toL s_.queues_).map F9_) x23 = true), Hh (.n 0 [7]), Hn g2.1, Hn (cuB (eI .i64) g2), Hl (cuM (eI .i64) [cell.l_.e0, cell.l_.e1, cell.l_.e2, cell.l_.e3] cell.many_), Hc h0u (x := ([cell.l_.e0, cell.l_.e1, cell.l_.e2, cell.l_.e3].take cell.many_.toNat)) h3 (loC F2_ ([cell.l_.e0, cell.l_.e1, cell.l_.e2, cell.l_.e3].take cell.many_.toNat) <| loN), Hg (z1v h0j), Hm (shM (eI .i64) (eI .i64) r_2), Hs (z1w h0j (x := r_2) h4 (loC F2_ r_2 <| loN)), Hm (shM (eI .i64) (eI .i64) r_2), Hn (iL F1_ h5), Hs (iM F1_ h5), Hs (iM F1_ h5), Hl (sM F1_ c_Queues1 x23 r_3)]
  ·obtain rfl := zl hf1
   obtain rfl := hl1
   exact yB X0 hC hJ1 c_Queues1 hf0 [Hq c0]
end Go.Own
end
