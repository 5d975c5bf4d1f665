/- -/
import Derived.Test.YtcldlioffanjaaaGreatDoorPartE
noncomputable section
set_option linter.unusedVariables false
set_option linter.unusedSimpArgs false
namespace Go.Own
open Go.Proofs
set_option maxRecDepth 100000
set_option maxHeartbeats 8000000
def X0 : XH Tryz.prog := xB zZ
theorem Ww : Tryz.prog.follows .mixedOrders = true := by kernel_rfl
section
variable {ctr : Ctr} {n : Fr} {Q : Exit → St → Prop} {c : Code} {fs : List Fm} {st : St}
theorem yE (X : XH Tryz.prog) (hC : zW Tryz.prog ctr) {E : St → Prop} {r : A} {keep : Bool} {rs : List (Nat × Option Nat)} (hE : ∀ st x R U, z43 xS keep rs st = some (x, R, U) → LeV x r → E st) (L : List HO) (e : z9A X xS ctr n keep rs 4000 c fs st (hoH L) = some (r, hoO L) := by kernel_rfl) : AWP Tryz.prog n c st (Qf Tryz.prog n fs (z5q E)) := yE6 X zZ hC Ww hE L e
theorem yEx (X : XH Tryz.prog) (hC : zW Tryz.prog ctr) {E : St → Prop} {r : A} {keep : Bool} {rs : List (Nat × Option Nat)} (hE : ∀ st x R U, z43 xS keep rs st = some (x, R, U) → LeV x r → E st) (L : List HO) (x : A) (hle : LeV x r) (e : z9A X xS ctr n keep rs 4000 c fs st (hoH L) = some (x, hoO L) := by kernel_rfl) : AWP Tryz.prog n c st (Qf Tryz.prog n fs (z5q E)) := zfp X zZ hC Ww hE L x hle e
theorem yB (X : XH Tryz.prog) (hC : zW Tryz.prog ctr) {τ : Type} {J : St → Prop} {live : List Nat} {S : τ → List (Nat × T)} {Inv : τ → Prop} (hJ : ∀ st' l' z, Inv z → Own.canon live st' = ofL l' → LeL l' (S z) → J st') (z : τ) (hz : Inv z) (L : List HO) (e : Ki X xS ctr n live 4000 c fs st (hoH L) = some (.back J, ofL (S z), hoO L) := by kernel_rfl) : AWP Tryz.prog n c st (Qf Tryz.prog n fs Q) := yB6 X zZ hC Ww hJ z hz L e
theorem yBx (X : XH Tryz.prog) (hC : zW Tryz.prog ctr) {τ : Type} {J : St → Prop} {live : List Nat} {S : τ → List (Nat × T)} {Inv : τ → Prop} (hJ : ∀ st' l' z, Inv z → Own.canon live st' = ofL l' → LeL l' (S z) → J st') (z : τ) (hz : Inv z) (l : List (Nat × T)) (hl : LeL l (S z)) (L : List HO) (e : Ki X xS ctr n live 4000 c fs st (hoH L) = some (.back J, ofL l, hoO L) := by kernel_rfl) : AWP Tryz.prog n c st (Qf Tryz.prog n fs Q) := zfq X zZ hC Ww hJ z hz l hl L e
theorem yA (X : XH Tryz.prog) (hC : zW Tryz.prog ctr) (bd : Code) (path : List Nat) (Js : List (St → Prop)) (l : List (Nat × T)) (L : List HO) (h : AWP Tryz.prog n (sub path bd) (ofL l) (Qf Tryz.prog n (frs path Js bd []) Q)) (e : Ki X xS ctr n (WL l) 4000 c fs st (hoH L) = some (.at (sub path bd) (frs path Js bd []), ofL l, hoO L) := by kernel_rfl) : AWP Tryz.prog n c st (Qf Tryz.prog n fs Q) := yA6 X zZ hC Ww bd path Js l L e h
theorem yAt (X : XH Tryz.prog) (hC : zW Tryz.prog ctr) (c' : Code) (fs' : List Fm) (l : List (Nat × T)) (L : List HO) (h : ∀ st0, Own.canon (WL l) st0 = ofL l → AWP Tryz.prog n c' st0 (Qf Tryz.prog n fs' Q)) (e : Ki X xS ctr n (WL l) 4000 c fs st (hoH L) = some (.at c' fs', ofL l, hoO L) := by kernel_rfl) : AWP Tryz.prog n c st (Qf Tryz.prog n fs Q) := zfr X zZ hC Ww c' fs' l L e h
theorem yLx (X : XH Tryz.prog) (hC : zW Tryz.prog ctr) (bd : Code) (path : List Nat) (Js : List (St → Prop)) {σ τ : Type} (f : σ → Option (LR σ τ)) (S : σ → List (Nat × T)) (x0 : σ) {t : τ} (ht : loop f x0 = some t) (l : List (Nat × T)) (hl : LeL l (S x0)) (L : List HO) (round : ∀ x m lr, f x = some lr → zcu f m t lr → ∀ J : St → Prop, (∀ st' l' x', Xt f m x' = some t → Own.canon (WL l) st' = ofL l' → LeL l' (S x') → J st') → AWP Tryz.prog n (sub (path ++ [0]) bd) (ofL (S x)) (Qf Tryz.prog n (.pre J :: frs path Js bd []) Q)) (e : Ki X xS ctr n (WL l) 4000 c fs st (hoH L) = some (.at (sub path bd) (frs path Js bd []), ofL l, hoO L) := by kernel_rfl) (e2 : sub path bd = .loop (sub (path ++ [0]) bd) := by kernel_rfl) (hk : ∀ x, WL (S x) = WL l := by exact fun _ => rfl) : AWP Tryz.prog n c st (Qf Tryz.prog n fs Q) := yL6 X zZ hC Ww bd path Js f S x0 ht l hl L hk e e2 round
theorem yL (X : XH Tryz.prog) (hC : zW Tryz.prog ctr) (bd : Code) (path : List Nat) (Js : List (St → Prop)) {σ τ : Type} (f : σ → Option (LR σ τ)) (S : σ → List (Nat × T)) (x0 : σ) {t : τ} (ht : loop f x0 = some t) (L : List HO) (round : ∀ x m lr, f x = some lr → zcu f m t lr → ∀ J : St → Prop, (∀ st' l' x', Xt f m x' = some t → Own.canon (WL (S x0)) st' = ofL l' → LeL l' (S x') → J st') → AWP Tryz.prog n (sub (path ++ [0]) bd) (ofL (S x)) (Qf Tryz.prog n (.pre J :: frs path Js bd []) Q)) (e : Ki X xS ctr n (WL (S x0)) 4000 c fs st (hoH L) = some (.at (sub path bd) (frs path Js bd []), ofL (S x0), hoO L) := by kernel_rfl) (e2 : sub path bd = .loop (sub (path ++ [0]) bd) := by kernel_rfl) (hk : ∀ x, WL (S x) = WL (S x0) := by exact fun _ => rfl) : AWP Tryz.prog n c st (Qf Tryz.prog n fs Q) := yL6 X zZ hC Ww bd path Js f S x0 ht _ (LeL.refl _) L hk e e2 round
theorem yJ (X : XH Tryz.prog) (hC : zW Tryz.prog ctr) (bd : Code) (path : List Nat) (Js : List (St → Prop)) {σ : Type} (live : List Nat) (Inv : σ → Prop) (S : σ → List (Nat × T)) (l : List (Nat × T)) (L : List HO) (h1 : ∀ z, Inv z → AWP Tryz.prog n (sub (path ++ [1]) bd) (ofL (S z)) (Qf Tryz.prog n (frs path Js bd []) Q)) (h2 : ∀ J : St → Prop, (∀ st' l' z, Inv z → Own.canon live st' = ofL l' → LeL l' (S z) → J st') → AWP Tryz.prog n (sub (path ++ [2]) bd) (ofL l) (Qf Tryz.prog n (.pre J :: frs path Js bd []) Q)) (e : Ki X xS ctr n (WL l) 4000 c fs st (hoH L) = some (.at (sub path bd) (frs path Js bd []), ofL l, hoO L) := by kernel_rfl) (e2 : sub path bd = .seq (sub (path ++ [2]) bd) (sub (path ++ [1]) bd) := by kernel_rfl) : AWP Tryz.prog n c st (Qf Tryz.prog n fs Q) := yJ6 X zZ hC Ww bd path Js live Inv S l L e e2 h1 h2
theorem yF (X : XH Tryz.prog) (hC : zW Tryz.prog ctr) (ex : Exit) (l : List (Nat × T)) (L : List HO) (h : ∀ st0, Own.canon (WL l) st0 = ofL l → Q ex st0) (e : Ki X xS ctr n (WL l) 4000 c fs st (hoH L) = some (.fin ex, ofL l, hoO L) := by kernel_rfl) : AWP Tryz.prog n c st (Qf Tryz.prog n fs Q) := yF6 X zZ hC Ww ex l L e h
theorem yO {k : Nat} {fn : Func} {r : A} {ls : List A} (keep : Bool) (rs : List (Nat × Option Nat)) (body : Code) (nt : Nat) (hf : Tryz.prog.funcs[k]? = some fn) (h : ∀ E : St → Prop, (∀ st x R U, z43 xS keep rs st = some (x, R, U) → LeV x r → E st) → AWP Tryz.prog ⟨nt, []⟩ body (ofL (z5r 0 ls)) (Qf Tryz.prog ⟨nt, []⟩ [] (z5q E))) (hb : fn.body = some body := by kernel_rfl) (hn : nt = fn.ntmps := by exact rfl) (hr : fn.results = (rs.map z5A).toArray := by exact rfl) (hnm : (fn.name == "runtime.NumGoroutine") = false := by exact rfl) (ha : Nat.ble ls.length nt = true := by kernel_rfl) : Xm Tryz.prog k ls r := yO6 zZ keep rs body nt hf hb hn hr hnm ha h
end
theorem z4o : z7h Tryz.prog 142 115 3 (Jo [.i64, .i64, .i64, .i64, .i64, .i64, .i64, .i64, .i64, .i64, .i64, .i64, .i64, .i64, .i64, .i64, .i64, .i64, .i64, .i64, .i64, .i64, .i64, .i64]) (.atom (.int .i64 0)) := z6r Tryz.underlying142 _ Tryz.underlying115 (Go.Ex.z4C.eqn rfl) (z2x.eqn rfl) rfl ⟨.int .i64 0, fun w => z5x (f := Tryz.t3) (by kernel_rfl) rfl w, fun S => uB.2 ⟨rfl, rfl⟩⟩ rfl
theorem zcJ : z9s Tryz.prog 48 3 true := z62 zZ (t := 61) Tryz.so48 rfl rfl (by kernel_rfl) (by decide)
def w6 : Code := (Tryz.f9.body).getD .skip
def YO : yZ := spF (α := yf) (ρ := za) 9 (fun x => [JT x]) (fun r => z7H r) (fun x => YB x) [] (UQ)
abbrev Qt (x_ : yf) (out_Parts : List zh) : List (Nat × T) := [(2, .own (.box (.agg [I 0, I 0, eOs 1 true (eI .i64) [], eOs 3 true vb []]))), (3, .own (.box (.agg [I 2, I 2, eOs 1 true (eI .i64) ([w64 (Int.tmod x_.Channels.e0 3), w64 (Int.tmod x_.Channels.e1 3)]), eOs 3 false Qw out_Parts])))]
abbrev Qr (x_ : yf) (i_ : Int) (x34 : Bool) (out_Parts2 : List zh) : List (Nat × T) := [(1, .own (.box (JT x_))), (2, .own (.box (.agg [I 0, I 0, eOs 1 true (eI .i64) [], eOs 3 true vb []]))), (3, .own (.box (.agg [I 2, I 2, eOs 1 true (eI .i64) ([w64 (Int.tmod x_.Channels.e0 3), w64 (Int.tmod x_.Channels.e1 3)]), eOs 3 false Qw out_Parts2]))), (4, .d (I i_)), (26, .d (I i_)), (28, .d (eSl 3 false V4 x_.Parts)), (29, .d (I ((x_.Parts.length : Nat) : Int))), (30, .d (B (decide (i_ < ((x_.Parts.length : Nat) : Int))))), (31, .d (B (decide (i_ < ((x_.Parts.length : Nat) : Int))))), (34, .d (B x34))]
abbrev Qq (x_ : yf) (out_Parts1 : List zh) (i_ : Int) (x34 : Bool) (p_States : Int) (p_Arcs : List ze) (p_Final : List Int) : List (Nat × T) := [(1, .own (.box (JT x_))), (2, .own (.box (.agg [I 0, I 0, eOs 1 true (eI .i64) [], eOs 3 true vb []]))), (3, .own (.box (.agg [I 2, I 2, eOs 1 true (eI .i64) ([w64 (Int.tmod x_.Channels.e0 3), w64 (Int.tmod x_.Channels.e1 3)]), eOs 3 false Qw out_Parts1]))), (4, .d (I i_)), (5, .own (.box (.agg [I p_States, eOs 5 false vN p_Arcs, eOs 1 false (eI .i64) p_Final]))), (26, .d (I i_)), (28, .d (eSl 3 false V4 x_.Parts)), (29, .d (I ((x_.Parts.length : Nat) : Int))), (30, .d (B (decide (i_ < ((x_.Parts.length : Nat) : Int))))), (31, .d (B (decide (i_ < ((x_.Parts.length : Nat) : Int))))), (34, .d (B x34))]
abbrev Qo (x_ : yf) (out_Parts1 : List zh) (i_ : Int) (x34 : Bool) (Part_e : xz) (p_Final1 : List Int) (p_Arcs1 : List ze) (k_ : Int) (Arc_e : z3C Int) (arc_Channel : Int) : List (Nat × T) := [(1, .own (.box (JT x_))), (2, .own (.box (.agg [I 0, I 0, eOs 1 true (eI .i64) [], eOs 3 true vb []]))), (3, .own (.box (.agg [I 2, I 2, eOs 1 true (eI .i64) ([w64 (Int.tmod x_.Channels.e0 3), w64 (Int.tmod x_.Channels.e1 3)]), eOs 3 false Qw out_Parts1]))), (4, .d (I i_)), (5, .own (.box (.agg [I (w64 (1 + (w64 (Int.tmod Part_e.States 3)))), eOs 5 false vN p_Arcs1, eOs 1 false (eI .i64) p_Final1]))), (6, .own (.box (V4 Part_e))), (8, .d (I k_)), (10, .own (.box (.agg [I (Int.tmod (w64 (Arc_e.e0)) (w64 (1 + (w64 (Int.tmod Part_e.States 3))))), .atom (.int .u8 (Int.tmod Arc_e.e1 3)), I arc_Channel, I (w64 (Int.tmod Arc_e.e3 2)), I (Int.tmod (w64 (Arc_e.e4)) (w64 (1 + (w64 (Int.tmod Part_e.States 3)))))]))), (26, .d (I i_)), (28, .d (eSl 3 false V4 x_.Parts)), (29, .d (I ((x_.Parts.length : Nat) : Int))), (30, .d (B (decide (i_ < ((x_.Parts.length : Nat) : Int))))), (31, .d (B (decide (i_ < ((x_.Parts.length : Nat) : Int))))), (34, .d (B x34)), (80, .d (I k_)), (81, .d (B (decide (k_ < 6))))]
abbrev Qm (x_ : yf) (out_Parts1 : List zh) (i_ : Int) (x34 : Bool) (Part_e : xz) (p_Final1 : List Int) (p_Arcs1 : List ze) (k_ : Int) : List (Nat × T) := [(1, .own (.box (JT x_))), (2, .own (.box (.agg [I 0, I 0, eOs 1 true (eI .i64) [], eOs 3 true vb []]))), (3, .own (.box (.agg [I 2, I 2, eOs 1 true (eI .i64) ([w64 (Int.tmod x_.Channels.e0 3), w64 (Int.tmod x_.Channels.e1 3)]), eOs 3 false Qw out_Parts1]))), (4, .d (I i_)), (5, .own (.box (.agg [I (w64 (1 + (w64 (Int.tmod Part_e.States 3)))), eOs 5 false vN p_Arcs1, eOs 1 false (eI .i64) p_Final1]))), (6, .own (.box (V4 Part_e))), (8, .d (I k_)), (26, .d (I i_)), (28, .d (eSl 3 false V4 x_.Parts)), (29, .d (I ((x_.Parts.length : Nat) : Int))), (30, .d (B (decide (i_ < ((x_.Parts.length : Nat) : Int))))), (31, .d (B (decide (i_ < ((x_.Parts.length : Nat) : Int))))), (34, .d (B x34))]
abbrev Qp (x_ : yf) (out_Parts1 : List zh) (i_ : Int) (x34 : Bool) (Part_e : xz) (p_Final1 : List Int) : List (Nat × T) := [(1, .own (.box (JT x_))), (2, .own (.box (.agg [I 0, I 0, eOs 1 true (eI .i64) [], eOs 3 true vb []]))), (3, .own (.box (.agg [I 2, I 2, eOs 1 true (eI .i64) ([w64 (Int.tmod x_.Channels.e0 3), w64 (Int.tmod x_.Channels.e1 3)]), eOs 3 false Qw out_Parts1]))), (4, .d (I i_)), (5, .own (.box (.agg [I (w64 (1 + (w64 (Int.tmod Part_e.States 3)))), eOs 5 true vN [], eOs 1 false (eI .i64) p_Final1]))), (6, .own (.box (V4 Part_e))), (26, .d (I i_)), (28, .d (eSl 3 false V4 x_.Parts)), (29, .d (I ((x_.Parts.length : Nat) : Int))), (30, .d (B (decide (i_ < ((x_.Parts.length : Nat) : Int))))), (31, .d (B (decide (i_ < ((x_.Parts.length : Nat) : Int))))), (34, .d (B x34))]
abbrev UE (x_ : yf) (out_Parts1 : List zh) (i_ : Int) (x34 : Bool) (Part_e : xz) (s_ : Int) (p_Final3 : List Int) : List (Nat × T) := [(1, .own (.box (JT x_))), (2, .own (.box (.agg [I 0, I 0, eOs 1 true (eI .i64) [], eOs 3 true vb []]))), (3, .own (.box (.agg [I 2, I 2, eOs 1 true (eI .i64) ([w64 (Int.tmod x_.Channels.e0 3), w64 (Int.tmod x_.Channels.e1 3)]), eOs 3 false Qw out_Parts1]))), (4, .d (I i_)), (5, .own (.box (.agg [I (w64 (1 + (w64 (Int.tmod Part_e.States 3)))), eOs 5 true vN [], eOs 1 false (eI .i64) p_Final3]))), (6, .own (.box (V4 Part_e))), (7, .d (I s_)), (26, .d (I i_)), (28, .d (eSl 3 false V4 x_.Parts)), (29, .d (I ((x_.Parts.length : Nat) : Int))), (30, .d (B (decide (i_ < ((x_.Parts.length : Nat) : Int))))), (31, .d (B (decide (i_ < ((x_.Parts.length : Nat) : Int))))), (34, .d (B x34))]
abbrev Ql (x_ : yf) (out_Parts1 : List zh) (i_ : Int) (x34 : Bool) (Part_e : xz) (p_Final2 : List Int) (s_ : Int) : List (Nat × T) := [(1, .own (.box (JT x_))), (2, .own (.box (.agg [I 0, I 0, eOs 1 true (eI .i64) [], eOs 3 true vb []]))), (3, .own (.box (.agg [I 2, I 2, eOs 1 true (eI .i64) ([w64 (Int.tmod x_.Channels.e0 3), w64 (Int.tmod x_.Channels.e1 3)]), eOs 3 false Qw out_Parts1]))), (4, .d (I i_)), (5, .own (.box (.agg [I (w64 (1 + (w64 (Int.tmod Part_e.States 3)))), eOs 5 true vN [], eOs 1 false (eI .i64) p_Final2]))), (6, .own (.box (V4 Part_e))), (7, .d (I s_)), (26, .d (I i_)), (28, .d (eSl 3 false V4 x_.Parts)), (29, .d (I ((x_.Parts.length : Nat) : Int))), (30, .d (B (decide (i_ < ((x_.Parts.length : Nat) : Int))))), (31, .d (B (decide (i_ < ((x_.Parts.length : Nat) : Int))))), (34, .d (B x34))]
abbrev Qs (x_ : yf) (out_Parts1 : List zh) (i_ : Int) (x34 : Bool) : List (Nat × T) := [(1, .own (.box (JT x_))), (2, .own (.box (.agg [I 0, I 0, eOs 1 true (eI .i64) [], eOs 3 true vb []]))), (3, .own (.box (.agg [I 2, I 2, eOs 1 true (eI .i64) ([w64 (Int.tmod x_.Channels.e0 3), w64 (Int.tmod x_.Channels.e1 3)]), eOs 3 false Qw out_Parts1]))), (4, .d (I i_)), (26, .d (I i_)), (28, .d (eSl 3 false V4 x_.Parts)), (29, .d (I ((x_.Parts.length : Nat) : Int))), (30, .d (B (decide (i_ < ((x_.Parts.length : Nat) : Int))))), (31, .d (B (decide (i_ < ((x_.Parts.length : Nat) : Int))))), (34, .d (B x34))]
abbrev Qn (x_ : yf) (out_Parts1 : List zh) (i_ : Int) : List (Nat × T) := [(1, .own (.box (JT x_))), (2, .own (.box (.agg [I 0, I 0, eOs 1 true (eI .i64) [], eOs 3 true vb []]))), (3, .own (.box (.agg [I 2, I 2, eOs 1 true (eI .i64) ([w64 (Int.tmod x_.Channels.e0 3), w64 (Int.tmod x_.Channels.e1 3)]), eOs 3 false Qw out_Parts1]))), (4, .d (I i_))]
theorem z0B {ctr : Ctr} (hC : zW Tryz.prog ctr) : YO.Ok Tryz.prog := by
 refine ya ?_
 rintro x_ r0 hf0
 try unfold YB at hf0
 refine yO false [(2, some 29)] w6 131 Tryz.func9 fun E hE => ?_
 obtain ⟨g0, hf0⟩ := gdE hf0
 obtain ⟨g1, hf0⟩ := gdE hf0
 refine yJ X0 hC w6 [1,1] [] [2,3] (fun z : List zh => X3 x_ z = some r0) (fun z => Qt x_ z) [(1, .own (.box (JT x_))), (2, .own (.box (.agg [I 0, I 0, eOs 1 true (eI .i64) [], eOs 3 true vb []]))), (3, .own (.box (.agg [I 2, I 2, eOs 1 true (eI .i64) ([w64 (Int.tmod x_.Channels.e0 3), w64 (Int.tmod x_.Channels.e1 3)]), eOs 3 true vb []])))] [Hn (⟨rfl, by decide⟩ : true = true ∧ 0 < 2), Hn g0, Hn (⟨rfl, by decide⟩ : true = true ∧ 1 < 2), Hn g1, Hh (.cut 2)] ?_ fun J1 hJ1 => ?_
 ·rintro out_Parts hf0
  unfold X3 at hf0
  obtain rfl := zm hf0
  exact yE X0 hC hE [Hm (shM (eI .i64) (eI .i64) ([w64 (Int.tmod x_.Channels.e0 3), w64 (Int.tmod x_.Channels.e1 3)])), Hm (shM Qw vb out_Parts)]
 ·obtain ⟨t2, ht2, hf0⟩ := zq hf0
  refine yLx X0 hC w6 [1,1,2,1,0] [J1] (fun s => jO x_ s.1 s.2) (fun x => Qn x_ x.1 x.2) (([] : List zh), 0) ht2 [(1, .own (.box (JT x_))), (2, .own (.box (.agg [I 0, I 0, eOs 1 true (eI .i64) [], eOs 3 true vb []]))), (3, .own (.box (.agg [I 2, I 2, eOs 1 true (eI .i64) ([w64 (Int.tmod x_.Channels.e0 3), w64 (Int.tmod x_.Channels.e1 3)]), eOs 3 true Qw []]))), (4, .d (I 0))] inferInstance [] ?_
  rintro ⟨out_Parts1, i_⟩ m2 lr1 hf1 hl1 J2 hJ2
  try unfold jO at hf1
  refine yJ X0 hC w6 [1,1,2,1,0,0] [J1, J2] [1,2,3,4,26,28,29,30,31,34] (fun z : Bool => up x_ out_Parts1 i_ z = some lr1) (fun z => Qs x_ out_Parts1 i_ z) [(1, .own (.box (JT x_))), (2, .own (.box (.agg [I 0, I 0, eOs 1 true (eI .i64) [], eOs 3 true vb []]))), (3, .own (.box (.agg [I 2, I 2, eOs 1 true (eI .i64) ([w64 (Int.tmod x_.Channels.e0 3), w64 (Int.tmod x_.Channels.e1 3)]), eOs 3 false Qw out_Parts1]))), (4, .d (I i_))] [Hh (.cut 0)] ?_ fun J3 hJ3 => ?_
  ·rintro x34 hf1
   unfold up at hf1
   refine yJ X0 hC w6 [1,1,2,1,0,0,1] [J1, J2] [1,2,3,4,26,28,29,30,31,34] (fun z : List zh => Za i_ z = some lr1) (fun z => Qr x_ i_ x34 z) [(1, .own (.box (JT x_))), (2, .own (.box (.agg [I 0, I 0, eOs 1 true (eI .i64) [], eOs 3 true vb []]))), (3, .own (.box (.agg [I 2, I 2, eOs 1 true (eI .i64) ([w64 (Int.tmod x_.Channels.e0 3), w64 (Int.tmod x_.Channels.e1 3)]), eOs 3 false Qw out_Parts1]))), (4, .d (I i_)), (26, .d (I i_)), (28, .d (eSl 3 false V4 x_.Parts)), (29, .d (I ((x_.Parts.length : Nat) : Int))), (30, .d (B (decide (i_ < ((x_.Parts.length : Nat) : Int))))), (31, .d (B (decide (i_ < ((x_.Parts.length : Nat) : Int))))), (34, .d (B x34))] [Hh (.cut 0)] ?_ fun J4 hJ4 => ?_
   ·rintro out_Parts2 hf1
    unfold Za at hf1
    obtain rfl := zm hf1
    exact yB X0 hC hJ2 (out_Parts2, w64 (i_ + 1)) hl1 []
   ·refine yJ X0 hC w6 [1,1,2,1,0,0,1,2,0,1] [J1, J2, J4] [1,2,3,4,5,26,28,29,30,31,34] (fun z : Int × List ze × List Int => qE out_Parts1 i_ z.1 z.2.1 z.2.2 = some lr1) (fun z => Qq x_ out_Parts1 i_ x34 z.1 z.2.1 z.2.2) [(1, .own (.box (JT x_))), (2, .own (.box (.agg [I 0, I 0, eOs 1 true (eI .i64) [], eOs 3 true vb []]))), (3, .own (.box (.agg [I 2, I 2, eOs 1 true (eI .i64) ([w64 (Int.tmod x_.Channels.e0 3), w64 (Int.tmod x_.Channels.e1 3)]), eOs 3 false Qw out_Parts1]))), (4, .d (I i_)), (5, .own (.box (.agg [I 1, eOs 5 true vN [], eOs 1 true (eI .i64) []]))), (26, .d (I i_)), (28, .d (eSl 3 false V4 x_.Parts)), (29, .d (I ((x_.Parts.length : Nat) : Int))), (30, .d (B (decide (i_ < ((x_.Parts.length : Nat) : Int))))), (31, .d (B (decide (i_ < ((x_.Parts.length : Nat) : Int))))), (34, .d (B x34))] [Hh (.cut 1)] ?_ fun J5 hJ5 => ?_
    ·rintro ⟨p_States, p_Arcs, p_Final⟩ hf1
     unfold qE at hf1
     obtain ⟨g2, hf1⟩ := gdE hf1
     exact yB X0 hC hJ4 (out_Parts1 ++ ([(zh.mk p_States p_Arcs p_Final)] : List zh)) hf1 [Hq (oC Qw (zh.mk p_States p_Arcs p_Final) []), Hn (aL Qw Qw g2), Hl (aM Qw out_Parts1 ([(zh.mk p_States p_Arcs p_Final)] : List zh))]
    ·let Z0 : List HO := [Ha (lnM V4 x_.Parts)]
     rcases y9 hf1 with ⟨c0, hf1⟩ | ⟨c0, hf1⟩
     ·obtain ⟨Part_e, h0, hf1⟩ := zq hf1
      obtain ⟨g3, hf1⟩ := gdE hf1
      refine yJ X0 hC w6 [1,1,2,1,0,0,1,2,0,1,2,1,0,1,1] [J1, J2, J4, J5] [1,2,3,4,5,6,26,28,29,30,31,34] (fun z : List Int => kZ out_Parts1 i_ Part_e z = some lr1) (fun z => Qp x_ out_Parts1 i_ x34 Part_e z) [(1, .own (.box (JT x_))), (2, .own (.box (.agg [I 0, I 0, eOs 1 true (eI .i64) [], eOs 3 true vb []]))), (3, .own (.box (.agg [I 2, I 2, eOs 1 true (eI .i64) ([w64 (Int.tmod x_.Channels.e0 3), w64 (Int.tmod x_.Channels.e1 3)]), eOs 3 false Qw out_Parts1]))), (4, .d (I i_)), (5, .own (.box (.agg [I (w64 (1 + (w64 (Int.tmod Part_e.States 3)))), eOs 5 true vN [], eOs 1 true (eI .i64) []]))), (6, .own (.box (V4 Part_e))), (26, .d (I i_)), (28, .d (eSl 3 false V4 x_.Parts)), (29, .d (I ((x_.Parts.length : Nat) : Int))), (30, .d (B (decide (i_ < ((x_.Parts.length : Nat) : Int))))), (31, .d (B (decide (i_ < ((x_.Parts.length : Nat) : Int))))), (34, .d (B x34))] (Z0 ++ [Hq c0, Hi V4 h0, Hn g3, Hh (.cut 1)]) ?_ fun J6 hJ6 => ?_
      ·rintro p_Final1 hf1
       unfold kZ at hf1
       obtain ⟨t7, ht7, hf1⟩ := zq hf1
       refine yLx X0 hC w6 [1,1,2,1,0,0,1,2,0,1,2,1,0,1,1,1,1,0] [J1, J2, J4, J5] (fun s => jN Part_e p_Final1 s.1 s.2) (fun x => Qm x_ out_Parts1 i_ x34 Part_e p_Final1 x.1 x.2) (([] : List ze), 0) ht7 [(1, .own (.box (JT x_))), (2, .own (.box (.agg [I 0, I 0, eOs 1 true (eI .i64) [], eOs 3 true vb []]))), (3, .own (.box (.agg [I 2, I 2, eOs 1 true (eI .i64) ([w64 (Int.tmod x_.Channels.e0 3), w64 (Int.tmod x_.Channels.e1 3)]), eOs 3 false Qw out_Parts1]))), (4, .d (I i_)), (5, .own (.box (.agg [I (w64 (1 + (w64 (Int.tmod Part_e.States 3)))), eOs 5 true vN [], eOs 1 false (eI .i64) p_Final1]))), (6, .own (.box (V4 Part_e))), (8, .d (I 0)), (26, .d (I i_)), (28, .d (eSl 3 false V4 x_.Parts)), (29, .d (I ((x_.Parts.length : Nat) : Int))), (30, .d (B (decide (i_ < ((x_.Parts.length : Nat) : Int))))), (31, .d (B (decide (i_ < ((x_.Parts.length : Nat) : Int))))), (34, .d (B x34))] inferInstance [] ?_
       rintro ⟨p_Arcs1, k_⟩ m7 lr2 hf2 hl2 J7 hJ7
       try unfold jN at hf2
       let Z1 : List HO := [Ha (lnM (Xu (eI .u8)) Part_e.Arcs)]
       rcases y9 hf2 with ⟨c1, hf2⟩ | ⟨c1, hf2⟩
       ·rcases y9 hf2 with ⟨c2, hf2⟩ | ⟨c2, hf2⟩
        ·obtain ⟨Arc_e, h1, hf2⟩ := zq hf2
         obtain ⟨g4, hf2⟩ := gdE hf2
         obtain ⟨g5, hf2⟩ := gdE hf2
         obtain ⟨g6, hf2⟩ := gdE hf2
         obtain ⟨g7, hf2⟩ := gdE hf2
         obtain ⟨g8, hf2⟩ := gdE hf2
         refine yJ X0 hC w6 [1,1,2,1,0,0,1,2,0,1,2,1,0,1,1,1,1,0,0,1,0,0,1,1] [J1, J2, J4, J5, J7] [1,2,3,4,5,6,8,10,26,28,29,30,31,34,80,81] (fun z : Int => qD Part_e p_Arcs1 k_ Arc_e z = some lr2) (fun z => Qo x_ out_Parts1 i_ x34 Part_e p_Final1 p_Arcs1 k_ Arc_e z) [(1, .own (.box (JT x_))), (2, .own (.box (.agg [I 0, I 0, eOs 1 true (eI .i64) [], eOs 3 true vb []]))), (3, .own (.box (.agg [I 2, I 2, eOs 1 true (eI .i64) ([w64 (Int.tmod x_.Channels.e0 3), w64 (Int.tmod x_.Channels.e1 3)]), eOs 3 false Qw out_Parts1]))), (4, .d (I i_)), (5, .own (.box (.agg [I (w64 (1 + (w64 (Int.tmod Part_e.States 3)))), eOs 5 false vN p_Arcs1, eOs 1 false (eI .i64) p_Final1]))), (6, .own (.box (V4 Part_e))), (8, .d (I k_)), (10, .own (.box (.agg [I (Int.tmod (w64 (Arc_e.e0)) (w64 (1 + (w64 (Int.tmod Part_e.States 3))))), .atom (.int .u8 (Int.tmod Arc_e.e1 3)), I (w64 (Int.tmod Arc_e.e2 2)), I (w64 (Int.tmod Arc_e.e3 2)), I (Int.tmod (w64 (Arc_e.e4)) (w64 (1 + (w64 (Int.tmod Part_e.States 3)))))]))), (26, .d (I i_)), (28, .d (eSl 3 false V4 x_.Parts)), (29, .d (I ((x_.Parts.length : Nat) : Int))), (30, .d (B (decide (i_ < ((x_.Parts.length : Nat) : Int))))), (31, .d (B (decide (i_ < ((x_.Parts.length : Nat) : Int))))), (34, .d (B x34)), (80, .d (I k_)), (81, .d (B (decide (k_ < 6))))] (Z1 ++ [Hq c1, Hq c1, Hq c1, Hq c2, Hi (Xu (eI .u8)) h1, Hn (⟨rfl, by decide⟩ : true = true ∧ 0 < 5), Hn g4, Hn (⟨rfl, by decide⟩ : true = true ∧ 1 < 5), Hn g5, Hn (⟨rfl, by decide⟩ : true = true ∧ 2 < 5), Hn g6, Hn (⟨rfl, by decide⟩ : true = true ∧ 3 < 5), Hn g7, Hn (⟨rfl, by decide⟩ : true = true ∧ 4 < 5), Hn g8, Hh (.cut 1)]) ?_ fun J8 hJ8 => ?_
         ·rintro arc_Channel hf2
          unfold qD at hf2
          obtain ⟨g9, hf2⟩ := gdE hf2
          obtain rfl := zm hf2
          exact yB X0 hC hJ7 ((p_Arcs1 ++ ([(ze.mk (Int.tmod (w64 (Arc_e.e0)) (w64 (1 + (w64 (Int.tmod Part_e.States 3))))) (Int.tmod Arc_e.e1 3) arc_Channel (w64 (Int.tmod Arc_e.e3 2)) (Int.tmod (w64 (Arc_e.e4)) (w64 (1 + (w64 (Int.tmod Part_e.States 3))))))] : List ze)), w64 (k_ + 1)) hl2 [Hq (dM vN ([(ze.mk (Int.tmod (w64 (Arc_e.e0)) (w64 (1 + (w64 (Int.tmod Part_e.States 3))))) (Int.tmod Arc_e.e1 3) arc_Channel (w64 (Int.tmod Arc_e.e3 2)) (Int.tmod (w64 (Arc_e.e4)) (w64 (1 + (w64 (Int.tmod Part_e.States 3))))))] : List ze)), Hn (dM vN ([(ze.mk (Int.tmod (w64 (Arc_e.e0)) (w64 (1 + (w64 (Int.tmod Part_e.States 3))))) (Int.tmod Arc_e.e1 3) arc_Channel (w64 (Int.tmod Arc_e.e3 2)) (Int.tmod (w64 (Arc_e.e4)) (w64 (1 + (w64 (Int.tmod Part_e.States 3))))))] : List ze)), Hn (aL vN vN g9), Hl (aM vN p_Arcs1 ([(ze.mk (Int.tmod (w64 (Arc_e.e0)) (w64 (1 + (w64 (Int.tmod Part_e.States 3))))) (Int.tmod Arc_e.e1 3) arc_Channel (w64 (Int.tmod Arc_e.e3 2)) (Int.tmod (w64 (Arc_e.e4)) (w64 (1 + (w64 (Int.tmod Part_e.States 3))))))] : List ze))]
         ·rcases y9 hf2 with ⟨c3, hf2⟩ | ⟨c3, hf2⟩
          ·exact yB X0 hC hJ8 0 hf2 [Hq c3]
          ·exact yB X0 hC hJ8 (w64 (Int.tmod Arc_e.e2 2)) hf2 [Hq c3]
        ·obtain rfl := zm hf2
         obtain rfl := hl2
         exact yB X0 hC hJ5 (w64 (1 + (w64 (Int.tmod Part_e.States 3))), p_Arcs1, p_Final1) hf1 (Z1 ++ [Hq c1, Hq c1, Hq c1, Hq c2])
       ·obtain rfl := zm hf2
        obtain rfl := hl2
        exact yB X0 hC hJ5 (w64 (1 + (w64 (Int.tmod Part_e.States 3))), p_Arcs1, p_Final1) hf1 (Z1 ++ [Hq c1, Hq c1, Hq c1, qF])
      ·obtain ⟨t9, ht9, hf1⟩ := zq hf1
       refine yLx X0 hC w6 [1,1,2,1,0,0,1,2,0,1,2,1,0,1,1,2,1,0] [J1, J2, J4, J5, J6] (fun s => jM Part_e s.1 s.2) (fun x => Ql x_ out_Parts1 i_ x34 Part_e x.1 x.2) (([] : List Int), 0) ht9 [(1, .own (.box (JT x_))), (2, .own (.box (.agg [I 0, I 0, eOs 1 true (eI .i64) [], eOs 3 true vb []]))), (3, .own (.box (.agg [I 2, I 2, eOs 1 true (eI .i64) ([w64 (Int.tmod x_.Channels.e0 3), w64 (Int.tmod x_.Channels.e1 3)]), eOs 3 false Qw out_Parts1]))), (4, .d (I i_)), (5, .own (.box (.agg [I (w64 (1 + (w64 (Int.tmod Part_e.States 3)))), eOs 5 true vN [], eOs 1 true (eI .i64) []]))), (6, .own (.box (V4 Part_e))), (7, .d (I 0)), (26, .d (I i_)), (28, .d (eSl 3 false V4 x_.Parts)), (29, .d (I ((x_.Parts.length : Nat) : Int))), (30, .d (B (decide (i_ < ((x_.Parts.length : Nat) : Int))))), (31, .d (B (decide (i_ < ((x_.Parts.length : Nat) : Int))))), (34, .d (B x34))] inferInstance [] ?_
       rintro ⟨p_Final2, s_⟩ m9 lr2 hf2 hl2 J9 hJ9
       try unfold jM at hf2
       rcases y9 hf2 with ⟨c4, hf2⟩ | ⟨c4, hf2⟩
       ·refine yJ X0 hC w6 [1,1,2,1,0,0,1,2,0,1,2,1,0,1,1,2,1,0,0,1] [J1, J2, J4, J5, J6, J9] [1,2,3,4,5,6,7,26,28,29,30,31,34] (fun z : List Int => qY s_ z = some lr2) (fun z => UE x_ out_Parts1 i_ x34 Part_e s_ z) [(1, .own (.box (JT x_))), (2, .own (.box (.agg [I 0, I 0, eOs 1 true (eI .i64) [], eOs 3 true vb []]))), (3, .own (.box (.agg [I 2, I 2, eOs 1 true (eI .i64) ([w64 (Int.tmod x_.Channels.e0 3), w64 (Int.tmod x_.Channels.e1 3)]), eOs 3 false Qw out_Parts1]))), (4, .d (I i_)), (5, .own (.box (.agg [I (w64 (1 + (w64 (Int.tmod Part_e.States 3)))), eOs 5 true vN [], eOs 1 false (eI .i64) p_Final2]))), (6, .own (.box (V4 Part_e))), (7, .d (I s_)), (26, .d (I i_)), (28, .d (eSl 3 false V4 x_.Parts)), (29, .d (I ((x_.Parts.length : Nat) : Int))), (30, .d (B (decide (i_ < ((x_.Parts.length : Nat) : Int))))), (31, .d (B (decide (i_ < ((x_.Parts.length : Nat) : Int))))), (34, .d (B x34))] [Hq c4, Hh (.cut 0)] ?_ fun J10 hJ10 => ?_
        ·rintro p_Final3 hf2
         unfold qY at hf2
         obtain rfl := zm hf2
         exact yB X0 hC hJ9 (p_Final3, w64 (s_ + 1)) hl2 []
        ·obtain ⟨g10, hf2⟩ := gdE hf2
         rcases y9 hf2 with ⟨c5, hf2⟩ | ⟨c5, hf2⟩
         ·obtain ⟨g11, hf2⟩ := gdE hf2
          exact yB ((zee Tryz.prog).or ((zeb Tryz.prog).or X0)) hC hJ10 (p_Final2 ++ ([s_] : List Int)) hf2 [Hn g10, Hq c5, Hq (dM (eI .i64) ([s_] : List Int)), Hn (dM (eI .i64) ([s_] : List Int)), Hn (aL (eI .i64) (eI .i64) g11), Hl (aM (eI .i64) p_Final2 ([s_] : List Int))]
         ·exact yB ((zee Tryz.prog).or ((zeb Tryz.prog).or X0)) hC hJ10 p_Final2 hf2 [Hn g10, Hq c5]
       ·obtain rfl := zm hf2
        obtain rfl := hl2
        exact yB X0 hC hJ6 p_Final2 hf1 [Hq c4]
     ·exact yBx X0 hC hJ5 (1, ([] : List ze), ([] : List Int)) hf1 [(1, .own (.box (JT x_))), (2, .own (.box (.agg [I 0, I 0, eOs 1 true (eI .i64) [], eOs 3 true vb []]))), (3, .own (.box (.agg [I 2, I 2, eOs 1 true (eI .i64) ([w64 (Int.tmod x_.Channels.e0 3), w64 (Int.tmod x_.Channels.e1 3)]), eOs 3 false Qw out_Parts1]))), (4, .d (I i_)), (5, .own (.box (.agg [I 1, eOs 5 true vN [], eOs 1 true (eI .i64) []]))), (26, .d (I i_)), (28, .d (eSl 3 false V4 x_.Parts)), (29, .d (I ((x_.Parts.length : Nat) : Int))), (30, .d (B (decide (i_ < ((x_.Parts.length : Nat) : Int))))), (31, .d (B (decide (i_ < ((x_.Parts.length : Nat) : Int))))), (34, .d (B x34))] inferInstance (Z0 ++ [Hq c0])
  ·rcases y9 hf1 with ⟨c6, hf1⟩ | ⟨c6, hf1⟩
   ·let Z2 : List HO := (rpN 4 (Hq c6) [Ha (lnM V4 x_.Parts), Hq c6, Hq c6])
    rcases y9 hf1 with ⟨c7, hf1⟩ | ⟨c7, hf1⟩
    ·exact yB X0 hC hJ3 true hf1 (Z2 ++ [Hq c7, Hq c7, Hq c6, Hq c7, Hq c6, qT])
    ·let Z3 : List HO := (Z2 ++ [Hq c7, Hq c7, Hq c6, Hq c7, Hq c6])
     rcases y9 hf1 with ⟨c8, hf1⟩ | ⟨c8, hf1⟩
     ·exact yB X0 hC hJ3 (i_ == 0) hf1 (Z3 ++ [Hq c8])
     ·obtain rfl := zm hf1
      obtain rfl := hl1
      exact yB X0 hC hJ1 out_Parts1 hf0 (Z3 ++ [Hq c8])
   ·obtain rfl := zm hf1
    obtain rfl := hl1
    exact yB X0 hC hJ1 out_Parts1 hf0 (rpN 8 (Hq c6) [qF])
def K5 : Code := (Tryz.f25.body).getD .skip
def Y9 : yZ := spF (α := za) (ρ := z7) 25 (fun x => [xj x]) (fun r => Qx r) (fun x => Zt x) [] (UQ)
theorem KJ {ctr : Ctr} (hC : zW Tryz.prog ctr) : Y9.Ok Tryz.prog := by
 refine ya ?_
 rintro x_ r0 hf0
 try unfold Zt at hf0
 refine yO false [(2, some 39)] K5 12 Tryz.func25 fun E hE => ?_
 obtain ⟨g0, hf0⟩ := gdE hf0
 obtain ⟨g1, hf0⟩ := gdE hf0
 obtain rfl := zm hf0
 exact yE X0 hC hE [Ha (lnM vb x_.Parts), Hn (rL g0), Ha (rM 1 (eI .i64) ((x_.Parts.length : Nat) : Int) (0 : Int)), Ha (lnM (eI .i64) x_.Channels), Hn (rL g1), Ha (rM 1 (eOs 1 true (eI .i64)) ((x_.Channels.length : Nat) : Int) ([] : List Int)), Hm (shM (eI .i64) (eI .i64) (List.replicate ((x_.Parts.length : Nat) : Int).toNat (0 : Int))), Hm (shM (eOs 1 true (eI .i64)) F1_ (List.replicate ((x_.Channels.length : Nat) : Int).toNat ([] : List Int)))]
def ut : Code := (Tryz.f59.body).getD .skip
def YJ : yZ := spF (α := z7 × Int × Int × Int × List Int) (ρ := z7) 59 (fun x => [xM x.1, (eI .i64) x.2.1, (eI .i64) x.2.2.1, (eI .i64) x.2.2.2.1, F2_ x.2.2.2.2]) (fun r => xM r) (fun x => qA x.1 x.2.1 x.2.2.1 x.2.2.2.1 x.2.2.2.2) [] (zfY)
abbrev Qb (out_States : List Int) (out_Queues : List (List Int)) : List (Nat × T) := [(10, .own (.box (.agg [eOs 1 true (eI .i64) [], eOs 1 true F2_ []]))), (11, .own (.box (.agg [eOs 1 false (eI .i64) out_States, eOs 1 false F2_ out_Queues])))]
abbrev Qa (c_ : z7) (channel : Int) (queue : List Int) (out_States : List Int) (out_Queues1 : List (List Int)) (i_ : Int) (q_ : List Int) : List (Nat × T) := [(3, .d (I channel)), (4, .d (eSl 1 false (eI .i64) queue)), (5, .own (.box (xM c_))), (10, .own (.box (.agg [eOs 1 true (eI .i64) [], eOs 1 true F2_ []]))), (11, .own (.box (.agg [eOs 1 false (eI .i64) out_States, eOs 1 false F2_ out_Queues1]))), (14, .d (I i_)), (15, .d (eSl 1 false (eI .i64) q_))]
abbrev Q8 (c_ : z7) (channel : Int) (queue : List Int) (out_States : List Int) (out_Queues1 : List (List Int)) (i_ : Int) : List (Nat × T) := [(3, .d (I channel)), (4, .d (eSl 1 false (eI .i64) queue)), (5, .own (.box (xM c_))), (10, .own (.box (.agg [eOs 1 true (eI .i64) [], eOs 1 true F2_ []]))), (11, .own (.box (.agg [eOs 1 false (eI .i64) out_States, eOs 1 false F2_ out_Queues1]))), (14, .d (I i_))]
abbrev Qc (c_ : z7) (channel : Int) (queue : List Int) (out_States : List Int) : List (Nat × T) := [(3, .d (I channel)), (4, .d (eSl 1 false (eI .i64) queue)), (5, .own (.box (xM c_))), (10, .own (.box (.agg [eOs 1 true (eI .i64) [], eOs 1 true F2_ []]))), (11, .own (.box (.agg [eOs 1 false (eI .i64) out_States, eOs 1 true F2_ []])))]
abbrev Q9 (c_ : z7) (part : Int) (state : Int) (channel : Int) (queue : List Int) (out_States1 : List Int) (i_1 : Int) (n_ : Int) : List (Nat × T) := [(1, .d (I part)), (2, .d (I state)), (3, .d (I channel)), (4, .d (eSl 1 false (eI .i64) queue)), (5, .own (.box (xM c_))), (10, .own (.box (.agg [eOs 1 true (eI .i64) [], eOs 1 true F2_ []]))), (11, .own (.box (.agg [eOs 1 false (eI .i64) out_States1, eOs 1 true F2_ []]))), (12, .d (I i_1)), (13, .d (I n_))]
abbrev Q7 (c_ : z7) (part : Int) (state : Int) (channel : Int) (queue : List Int) (out_States1 : List Int) (i_1 : Int) : List (Nat × T) := [(1, .d (I part)), (2, .d (I state)), (3, .d (I channel)), (4, .d (eSl 1 false (eI .i64) queue)), (5, .own (.box (xM c_))), (10, .own (.box (.agg [eOs 1 true (eI .i64) [], eOs 1 true F2_ []]))), (11, .own (.box (.agg [eOs 1 false (eI .i64) out_States1, eOs 1 true F2_ []]))), (12, .d (I i_1))]
theorem z0v {ctr : Ctr} (hC : zW Tryz.prog ctr) : YJ.Ok Tryz.prog := by
 refine ya ?_
 rintro ⟨c_, part, state, channel, queue⟩ r0 hf0
 try unfold qA at hf0
 refine yO false [(10, some 39)] ut 61 Tryz.func59 fun E hE => ?_
 refine yJ X0 hC ut [1,1] [] [3,4,5,10,11] (fun z : List Int => kV c_ channel queue z = some r0) (fun z => Qc c_ channel queue z) [(1, .d (I part)), (2, .d (I state)), (3, .d (I channel)), (4, .d (eSl 1 false (eI .i64) queue)), (5, .own (.box (xM c_))), (10, .own (.box (.agg [eOs 1 true (eI .i64) [], eOs 1 true F2_ []]))), (11, .own (.box (.agg [eOs 1 true (eI .i64) [], eOs 1 true F2_ []])))] [Hh (.cut 2)] ?_ fun J1 hJ1 => ?_
 ·rintro out_States hf0
  unfold kV at hf0
  refine yJ X0 hC ut [1,1,1] [] [10,11] (fun z : List (List Int) => YV out_States z = some r0) (fun z => Qb out_States z) [(3, .d (I channel)), (4, .d (eSl 1 false (eI .i64) queue)), (5, .own (.box (xM c_))), (10, .own (.box (.agg [eOs 1 true (eI .i64) [], eOs 1 true F2_ []]))), (11, .own (.box (.agg [eOs 1 false (eI .i64) out_States, eOs 1 true F2_ []])))] [Hh (.cut 0)] ?_ fun J2 hJ2 => ?_
  ·rintro out_Queues hf0
   unfold YV at hf0
   obtain rfl := zm hf0
   exact yE X0 hC hE [Hm (shM (eI .i64) (eI .i64) out_States), Hm (shM F2_ F2_ out_Queues)]
  ·obtain ⟨t3, ht3, hf0⟩ := zq hf0
   refine yLx X0 hC ut [1,1,1,2,1,0] [J2] (fun s => qw c_ channel queue s.1 s.2) (fun x => Q8 c_ channel queue out_States x.1 x.2) (([] : List (List Int)), 0) ht3 [(3, .d (I channel)), (4, .d (eSl 1 false (eI .i64) queue)), (5, .own (.box (xM c_))), (10, .own (.box (.agg [eOs 1 true (eI .i64) [], eOs 1 true F2_ []]))), (11, .own (.box (.agg [eOs 1 false (eI .i64) out_States, eOs 1 true F2_ []]))), (14, .d (I 0))] inferInstance [] ?_
   rintro ⟨out_Queues1, i_⟩ m3 lr1 hf1 hl1 J3 hJ3
   try unfold qw at hf1
   let Z0 : List HO := [Ha (lnM F2_ c_.Queues)]
   rcases y9 hf1 with ⟨c0, hf1⟩ | ⟨c0, hf1⟩
   ·obtain ⟨Queue_e, h0, hf1⟩ := zq hf1
    refine yJ X0 hC ut [1,1,1,2,1,0,0,1,0,0,1] [J2, J3] [3,4,5,10,11,14,15] (fun z : List Int => jJ out_Queues1 i_ z = some lr1) (fun z => Qa c_ channel queue out_States out_Queues1 i_ z) [(3, .d (I channel)), (4, .d (eSl 1 false (eI .i64) queue)), (5, .own (.box (xM c_))), (10, .own (.box (.agg [eOs 1 true (eI .i64) [], eOs 1 true F2_ []]))), (11, .own (.box (.agg [eOs 1 false (eI .i64) out_States, eOs 1 false F2_ out_Queues1]))), (14, .d (I i_)), (15, .d (eSl 1 false (eI .i64) Queue_e))] (Z0 ++ [Hq c0, Hi F2_ h0, Hh (.cut 0)]) ?_ fun J4 hJ4 => ?_
    ·rintro q_ hf1
     unfold jJ at hf1
     obtain ⟨g0, hf1⟩ := gdE hf1
     obtain rfl := zm hf1
     exact yB X0 hC hJ3 ((out_Queues1 ++ ([q_] : List (List Int))), w64 (i_ + 1)) hl1 [Hq (dM F2_ ([q_] : List (List Int))), Hn (dM F2_ ([q_] : List (List Int))), Hn (aL F2_ F2_ g0), Hl (aM F2_ out_Queues1 ([q_] : List (List Int)))]
    ·rcases y9 hf1 with ⟨c1, hf1⟩ | ⟨c1, hf1⟩
     ·exact yB X0 hC hJ4 queue hf1 [Hq c1]
     ·exact yB X0 hC hJ4 Queue_e hf1 [Hq c1]
   ·obtain rfl := zm hf1
    obtain rfl := hl1
    exact yB X0 hC hJ2 out_Queues1 hf0 (Z0 ++ [Hq c0])
 ·obtain ⟨t5, ht5, hf0⟩ := zq hf0
  refine yLx X0 hC ut [1,1,2,1,0] [J1] (fun s => qt c_ part state s.1 s.2) (fun x => Q7 c_ part state channel queue x.1 x.2) (([] : List Int), 0) ht5 [(1, .d (I part)), (2, .d (I state)), (3, .d (I channel)), (4, .d (eSl 1 false (eI .i64) queue)), (5, .own (.box (xM c_))), (10, .own (.box (.agg [eOs 1 true (eI .i64) [], eOs 1 true F2_ []]))), (11, .own (.box (.agg [eOs 1 true (eI .i64) [], eOs 1 true F2_ []]))), (12, .d (I 0))] inferInstance [] ?_
  rintro ⟨out_States1, i_1⟩ m5 lr1 hf1 hl1 J5 hJ5
  try unfold qt at hf1
  let Z1 : List HO := [Ha (lnM (eI .i64) c_.States)]
  rcases y9 hf1 with ⟨c2, hf1⟩ | ⟨c2, hf1⟩
  ·obtain ⟨State_e, h1, hf1⟩ := zq hf1
   refine yJ X0 hC ut [1,1,2,1,0,0,1,0,0,1] [J1, J5] [1,2,3,4,5,10,11,12,13] (fun z : Int => jI out_States1 i_1 z = some lr1) (fun z => Q9 c_ part state channel queue out_States1 i_1 z) [(1, .d (I part)), (2, .d (I state)), (3, .d (I channel)), (4, .d (eSl 1 false (eI .i64) queue)), (5, .own (.box (xM c_))), (10, .own (.box (.agg [eOs 1 true (eI .i64) [], eOs 1 true F2_ []]))), (11, .own (.box (.agg [eOs 1 false (eI .i64) out_States1, eOs 1 true F2_ []]))), (12, .d (I i_1)), (13, .d (I State_e))] (Z1 ++ [Hq c2, Hi (eI .i64) h1, Hh (.cut 0)]) ?_ fun J6 hJ6 => ?_
   ·rintro n_ hf1
    unfold jI at hf1
    obtain ⟨g1, hf1⟩ := gdE hf1
    obtain rfl := zm hf1
    exact yB X0 hC hJ5 ((out_States1 ++ ([n_] : List Int)), w64 (i_1 + 1)) hl1 [Hq (dM (eI .i64) ([n_] : List Int)), Hn (dM (eI .i64) ([n_] : List Int)), Hn (aL (eI .i64) (eI .i64) g1), Hl (aM (eI .i64) out_States1 ([n_] : List Int))]
   ·rcases y9 hf1 with ⟨c3, hf1⟩ | ⟨c3, hf1⟩
    ·exact yB X0 hC hJ6 state hf1 [Hq c3]
    ·exact yB X0 hC hJ6 State_e hf1 [Hq c3]
  ·obtain rfl := zm hf1
   obtain rfl := hl1
   exact yB X0 hC hJ1 out_States1 hf0 (Z1 ++ [Hq c2])
def xi : Code := (Tryz.f23.body).getD .skip
def Y7 : yZ := spF (α := za × z7) (ρ := List zg) 23 (fun x => [xj x.1, xM x.2]) (fun r => (eOs 6 false jp) r) (fun x => Zr x.1 x.2) [] (UP)
abbrev Um (out : List zg) : List (Nat × T) := [(5, .own (eOs 6 false jp out))]
abbrev Ul (x_ : za) (c_ : z7) (p_ : Int) (out2 : List zg) : List (Nat × T) := [(2, .own (.box (xj x_))), (3, .own (.box (xM c_))), (5, .own (eOs 6 false jp out2)), (6, .d (I p_))]
abbrev Uk (x_ : za) (c_ : z7) (p_ : Int) (i_ : Int) (out4 : List zg) : List (Nat × T) := [(2, .own (.box (xj x_))), (3, .own (.box (xM c_))), (5, .own (eOs 6 false jp out4)), (6, .d (I p_)), (7, .d (I i_))]
abbrev Uh (x_ : za) (c_ : z7) (p_ : Int) (i_ : Int) (Arc_e : ze) (Channel_e : Int) (o_ : Int) (out8 : List zg) : List (Nat × T) := [(2, .own (.box (xj x_))), (3, .own (.box (xM c_))), (5, .own (eOs 6 false jp out8)), (6, .d (I p_)), (7, .d (I i_)), (8, .own (.box (vN Arc_e))), (11, .d (I Channel_e)), (12, .d (I o_)), (143, .d (.atom (.int .u8 Arc_e.Kind))), (144, .d (B (Arc_e.Kind == 1))), (147, .d (I Channel_e)), (148, .d (B (Channel_e == 0)))]
abbrev Vv (x_ : za) (c_ : z7) (p_ : Int) (i_ : Int) (Arc_e : ze) (Channel_e : Int) (o_ : Int) (k_ : Int) (out10 : List zg) : List (Nat × T) := [(2, .own (.box (xj x_))), (3, .own (.box (xM c_))), (5, .own (eOs 6 false jp out10)), (6, .d (I p_)), (7, .d (I i_)), (8, .own (.box (vN Arc_e))), (11, .d (I Channel_e)), (12, .d (I o_)), (13, .d (I k_)), (143, .d (.atom (.int .u8 Arc_e.Kind))), (144, .d (B (Arc_e.Kind == 1))), (147, .d (I Channel_e)), (148, .d (B (Channel_e == 0))), (162, .d (I o_)), (163, .d (I p_)), (164, .d (B (o_ != p_)))]
abbrev Vu (x_ : za) (c_ : z7) (p_ : Int) (i_ : Int) (Arc_e : ze) (Channel_e : Int) (o_ : Int) (out9 : List zg) (k_ : Int) : List (Nat × T) := [(2, .own (.box (xj x_))), (3, .own (.box (xM c_))), (5, .own (eOs 6 false jp out9)), (6, .d (I p_)), (7, .d (I i_)), (8, .own (.box (vN Arc_e))), (11, .d (I Channel_e)), (12, .d (I o_)), (13, .d (I k_)), (143, .d (.atom (.int .u8 Arc_e.Kind))), (144, .d (B (Arc_e.Kind == 1))), (147, .d (I Channel_e)), (148, .d (B (Channel_e == 0)))]
abbrev Ue (x_ : za) (c_ : z7) (p_ : Int) (i_ : Int) (Arc_e : ze) (Channel_e : Int) (out7 : List zg) (o_ : Int) : List (Nat × T) := [(2, .own (.box (xj x_))), (3, .own (.box (xM c_))), (5, .own (eOs 6 false jp out7)), (6, .d (I p_)), (7, .d (I i_)), (8, .own (.box (vN Arc_e))), (11, .d (I Channel_e)), (12, .d (I o_))]
abbrev Ui (x_ : za) (c_ : z7) (p_ : Int) (i_ : Int) (Arc_e : ze) (Channel_e : Int) (out6 : List zg) : List (Nat × T) := [(2, .own (.box (xj x_))), (3, .own (.box (xM c_))), (5, .own (eOs 6 false jp out6)), (6, .d (I p_)), (7, .d (I i_)), (8, .own (.box (vN Arc_e))), (11, .d (I Channel_e))]
abbrev Uj (x_ : za) (c_ : z7) (p_ : Int) (i_ : Int) (Arc_e : ze) (Queue_e : List Int) (Channel_e : Int) (out5 : List zg) : List (Nat × T) := [(2, .own (.box (xj x_))), (3, .own (.box (xM c_))), (5, .own (eOs 6 false jp out5)), (6, .d (I p_)), (7, .d (I i_)), (8, .own (.box (vN Arc_e))), (9, .own (.box (.agg [I p_, I i_, I (-1), I (-1)]))), (10, .d (eSl 1 false (eI .i64) Queue_e)), (11, .d (I Channel_e))]
abbrev Uf (x_ : za) (c_ : z7) (p_ : Int) (out3 : List zg) (i_ : Int) : List (Nat × T) := [(2, .own (.box (xj x_))), (3, .own (.box (xM c_))), (5, .own (eOs 6 false jp out3)), (6, .d (I p_)), (7, .d (I i_))]
abbrev Ug (x_ : za) (c_ : z7) (out1 : List zg) (p_ : Int) : List (Nat × T) := [(2, .own (.box (xj x_))), (3, .own (.box (xM c_))), (5, .own (eOs 6 false jp out1)), (6, .d (I p_))]
theorem KH {ctr : Ctr} (hC : zW Tryz.prog ctr) (h07 : ctr.Has YJ) : Y7.Ok Tryz.prog := by
 refine ya ?_
 rintro ⟨x_, c_⟩ r0 hf0
 try unfold Zr at hf0
 refine yO true [(4, none)] xi 223 Tryz.func23 fun E hE => ?_
 refine yJ X0 hC xi [1,1] [] [5] (fun z : List zg => Yd z = some r0) (fun z => Um z) [(2, .own (.box (xj x_))), (3, .own (.box (xM c_))), (5, .own (eOs 6 true jp []))] [Hh (.cut 2)] ?_ fun J1 hJ1 => ?_
 ·rintro out hf0
  unfold Yd at hf0
  obtain rfl := zm hf0
  exact yE X0 hC hE []
 ·obtain ⟨t2, ht2, hf0⟩ := zq hf0
  refine yLx X0 hC xi [1,1,2,1,0] [J1] (fun s => uK x_ c_ s.1 s.2) (fun x => Ug x_ c_ x.1 x.2) (([] : List zg), 0) ht2 [(2, .own (.box (xj x_))), (3, .own (.box (xM c_))), (5, .own (eOs 6 true jp [])), (6, .d (I 0))] inferInstance [] ?_
  rintro ⟨out1, p_⟩ m2 lr1 hf1 hl1 J2 hJ2
  try unfold uK at hf1
  let Z0 : List HO := [Ha (lnM vb x_.Parts)]
  rcases y9 hf1 with ⟨c0, hf1⟩ | ⟨c0, hf1⟩
  ·refine yJ X0 hC xi [1,1,2,1,0,0,1] [J1, J2] [2,3,5,6] (fun z : List zg => kh p_ z = some lr1) (fun z => Ul x_ c_ p_ z) [(2, .own (.box (xj x_))), (3, .own (.box (xM c_))), (5, .own (eOs 6 false jp out1)), (6, .d (I p_))] (Z0 ++ [Hq c0, Hh (.cut 0)]) ?_ fun J3 hJ3 => ?_
   ·rintro out2 hf1
    unfold kh at hf1
    obtain rfl := zm hf1
    exact yB X0 hC hJ2 (out2, w64 (p_ + 1)) hl1 []
   ·obtain ⟨t4, ht4, hf1⟩ := zq hf1
    refine yL X0 hC xi [1,1,2,1,0,0,1,2,0,1,0] [J1, J2, J3] (fun s => uJ x_ c_ p_ s.1 s.2) (fun x => Uf x_ c_ p_ x.1 x.2) (out1,0) ht4  [] ?_
    rintro ⟨out3, i_⟩ m4 lr2 hf2 hl2 J4 hJ4
    try unfold uJ at hf2
    obtain ⟨Part_e, h0, hf2⟩ := zq hf2
    let Z1 : List HO := [Hi vb h0, Ha (lnM vN Part_e.Arcs)]
    rcases y9 hf2 with ⟨c1, hf2⟩ | ⟨c1, hf2⟩
    ·refine yJ X0 hC xi [1,1,2,1,0,0,1,2,0,1,0,0,1] [J1, J2, J3, J4] [2,3,5,6,7] (fun z : List zg => vE i_ z = some lr2) (fun z => Uk x_ c_ p_ i_ z) [(2, .own (.box (xj x_))), (3, .own (.box (xM c_))), (5, .own (eOs 6 false jp out3)), (6, .d (I p_)), (7, .d (I i_))] (Z1 ++ [Hq c1, Hh (.cut 0)]) ?_ fun J5 hJ5 => ?_
     ·rintro out4 hf2
      unfold vE at hf2
      obtain rfl := zm hf2
      exact yB X0 hC hJ4 (out4, w64 (i_ + 1)) hl2 []
     ·obtain ⟨Part_e1, h1, hf2⟩ := zq hf2
      obtain ⟨Arc_e, h2, hf2⟩ := zq hf2
      obtain ⟨State_e, h3, hf2⟩ := zq hf2
      let Z2 : List HO := [Hi vb h1, Hi vN h2, Hi (eI .i64) h3]
      rcases y9 hf2 with ⟨c2, hf2⟩ | ⟨c2, hf2⟩
      ·exact yB X0 hC hJ5 out3 hf2 (Z2 ++ [Hq c2])
      ·rcases y9 hf2 with ⟨c3, hf2⟩ | ⟨c3, hf2⟩
       ·obtain ⟨r_, h4, hf2⟩ := zq hf2
        obtain ⟨g0, hf2⟩ := gdE hf2
        exact yB X0 hC hJ5 (out3 ++ ([(zg.mk (z8.mk p_ i_ (-1) (-1)) r_)] : List zg)) hf2 (Z2 ++ [Hq c2, Hq c3, Hc h07 (x := (c_, p_, Arc_e.To, (-1), [])) h4 (loC xM c_ <| loC (eI .i64) p_ <| loC (eI .i64) Arc_e.To <| loC (eI .i64) (-1) <| loC F1_ ([] : List Int) <| loN), Hq (dM jp ([(zg.mk (z8.mk p_ i_ (-1) (-1)) r_)] : List zg)), Hn (dM jp ([(zg.mk (z8.mk p_ i_ (-1) (-1)) r_)] : List zg)), Hn (aL jp jp g0), Hl (aM jp out3 ([(zg.mk (z8.mk p_ i_ (-1) (-1)) r_)] : List zg))])
       ·obtain ⟨Queue_e, h5, hf2⟩ := zq hf2
        obtain ⟨Channel_e, h6, hf2⟩ := zq hf2
        refine yJ X0 hC xi [1,1,2,1,0,0,1,2,0,1,0,0,1,2,0,1,1,1,1,1] [J1, J2, J3, J4, J5] [2,3,5,6,7,8,9,10,11] (fun z : List zg => wS x_ c_ p_ i_ Arc_e Queue_e Channel_e z = some lr2) (fun z => Uj x_ c_ p_ i_ Arc_e Queue_e Channel_e z) [(2, .own (.box (xj x_))), (3, .own (.box (xM c_))), (5, .own (eOs 6 false jp out3)), (6, .d (I p_)), (7, .d (I i_)), (8, .own (.box (vN Arc_e))), (9, .own (.box (.agg [I p_, I i_, I (-1), I (-1)]))), (10, .d (eSl 1 false (eI .i64) Queue_e)), (11, .d (I Channel_e))] (Z2 ++ [Hq c2, Hq c3, Hi F2_ h5, Hi (eI .i64) h6, Hh (.cut 0)]) ?_ fun J6 hJ6 => ?_
        ·rintro out5 hf2
         unfold wS at hf2
         refine yJ X0 hC xi [1,1,2,1,0,0,1,2,0,1,0,0,1,2,0,1,1,1,1,1,1] [J1, J2, J3, J4, J5] [2,3,5,6,7,8,11] (fun z : List zg => wp x_ c_ p_ i_ Arc_e Channel_e z = some lr2) (fun z => Ui x_ c_ p_ i_ Arc_e Channel_e z) [(2, .own (.box (xj x_))), (3, .own (.box (xM c_))), (5, .own (eOs 6 false jp out5)), (6, .d (I p_)), (7, .d (I i_)), (8, .own (.box (vN Arc_e))), (9, .own (.box (.agg [I p_, I i_, I (-1), I (-1)]))), (10, .d (eSl 1 false (eI .i64) Queue_e)), (11, .d (I Channel_e))] [Hh (.cut 0)] ?_ fun J7 hJ7 => ?_
         ·rintro out6 hf2
          unfold wp at hf2
          obtain ⟨t8, ht8, hf2⟩ := zq hf2
          refine yL X0 hC xi [1,1,2,1,0,0,1,2,0,1,0,0,1,2,0,1,1,1,1,1,1,1,1,0] [J1, J2, J3, J4, J5] (fun s => wo x_ c_ p_ i_ Arc_e Channel_e s.1 s.2) (fun x => Ue x_ c_ p_ i_ Arc_e Channel_e x.1 x.2) (out6,0) ht8  [] ?_
          rintro ⟨out7, o_⟩ m8 lr3 hf3 hl3 J8 hJ8
          try unfold wo at hf3
          let Z3 : List HO := [Ha (lnM vb x_.Parts)]
          rcases y9 hf3 with ⟨c4, hf3⟩ | ⟨c4, hf3⟩
          ·let Z4 : List HO := (Z3 ++ (rpN 4 (Hq c4) []))
           rcases y9 hf3 with ⟨c5, hf3⟩ | ⟨c5, hf3⟩
           ·rcases y9 hf3 with ⟨c6, hf3⟩ | ⟨c6, hf3⟩
            ·refine yJ X0 hC xi [1,1,2,1,0,0,1,2,0,1,0,0,1,2,0,1,1,1,1,1,1,1,1,0,0,1] [J1, J2, J3, J4, J5, J8] [2,3,5,6,7,8,11,12,143,144,147,148] (fun z : List zg => kg o_ z = some lr3) (fun z => Uh x_ c_ p_ i_ Arc_e Channel_e o_ z) [(2, .own (.box (xj x_))), (3, .own (.box (xM c_))), (5, .own (eOs 6 false jp out7)), (6, .d (I p_)), (7, .d (I i_)), (8, .own (.box (vN Arc_e))), (11, .d (I Channel_e)), (12, .d (I o_)), (143, .d (.atom (.int .u8 Arc_e.Kind))), (144, .d (B (Arc_e.Kind == 1))), (147, .d (I Channel_e)), (148, .d (B (Channel_e == 0)))] (Z4 ++ [Hq c5, Hq c5, Hq c5, Hq c6, Hh (.cut 0)]) ?_ fun J9 hJ9 => ?_
             ·rintro out8 hf3
              unfold kg at hf3
              obtain rfl := zm hf3
              exact yB X0 hC hJ8 (out8, w64 (o_ + 1)) hl3 []
             ·obtain ⟨t10, ht10, hf3⟩ := zq hf3
              refine yL X0 hC xi [1,1,2,1,0,0,1,2,0,1,0,0,1,2,0,1,1,1,1,1,1,1,1,0,0,1,2,0,1,0] [J1, J2, J3, J4, J5, J8, J9] (fun s => wu x_ c_ p_ i_ Arc_e o_ s.1 s.2) (fun x => Vu x_ c_ p_ i_ Arc_e Channel_e o_ x.1 x.2) (out7,0) ht10  [] ?_
              rintro ⟨out9, k_⟩ m10 lr4 hf4 hl4 J10 hJ10
              try unfold wu at hf4
              obtain ⟨Part_e2, h7, hf4⟩ := zq hf4
              let Z5 : List HO := [Hi vb h7, Ha (lnM vN Part_e2.Arcs)]
              rcases y9 hf4 with ⟨c7, hf4⟩ | ⟨c7, hf4⟩
              ·let Z6 : List HO := (Z5 ++ (rpN 4 (Hq c7) []))
               rcases y9 hf4 with ⟨c8, hf4⟩ | ⟨c8, hf4⟩
               ·refine yJ X0 hC xi [1,1,2,1,0,0,1,2,0,1,0,0,1,2,0,1,1,1,1,1,1,1,1,0,0,1,2,0,1,0,0,1] [J1, J2, J3, J4, J5, J8, J9, J10] [2,3,5,6,7,8,11,12,13,143,144,147,148,162,163,164] (fun z : List zg => wv k_ z = some lr4) (fun z => Vv x_ c_ p_ i_ Arc_e Channel_e o_ k_ z) [(2, .own (.box (xj x_))), (3, .own (.box (xM c_))), (5, .own (eOs 6 false jp out9)), (6, .d (I p_)), (7, .d (I i_)), (8, .own (.box (vN Arc_e))), (11, .d (I Channel_e)), (12, .d (I o_)), (13, .d (I k_)), (143, .d (.atom (.int .u8 Arc_e.Kind))), (144, .d (B (Arc_e.Kind == 1))), (147, .d (I Channel_e)), (148, .d (B (Channel_e == 0))), (162, .d (I o_)), (163, .d (I p_)), (164, .d (B (o_ != p_)))] (Z6 ++ [Hq c8, Hh (.cut 0)]) ?_ fun J11 hJ11 => ?_
                ·rintro out10 hf4
                 unfold wv at hf4
                 obtain rfl := zm hf4
                 exact yB X0 hC hJ10 (out10, w64 (k_ + 1)) hl4 []
                ·obtain ⟨Part_e3, h8, hf4⟩ := zq hf4
                 obtain ⟨Arc_e1, h9, hf4⟩ := zq hf4
                 let Z7 : List HO := [Hi vb h8, Hi vN h9]
                 rcases y9 hf4 with ⟨c9, hf4⟩ | ⟨c9, hf4⟩
                 ·obtain ⟨State_e1, h10, hf4⟩ := zq hf4
                  let Z8 : List HO := (Z7 ++ (rpN 6 (Hq c9) [Hi (eI .i64) h10, Hq c9, Hq c9, Hq c9]))
                  rcases y9 hf4 with ⟨c10, hf4⟩ | ⟨c10, hf4⟩
                  ·let Z9 : List HO := (Z8 ++ (rpN 6 (Hq c10) []))
                   rcases y9 hf4 with ⟨c11, hf4⟩ | ⟨c11, hf4⟩
                   ·let Z10 : List HO := (Z9 ++ (rpN 6 (Hq c11) []))
                    rcases y9 hf4 with ⟨c12, hf4⟩ | ⟨c12, hf4⟩
                    ·obtain ⟨r_1, h11, hf4⟩ := zq hf4
                     obtain ⟨r_2, h12, hf4⟩ := zq hf4
                     obtain ⟨g1, hf4⟩ := gdE hf4
                     exact yB X0 hC hJ11 (out9 ++ ([(zg.mk (z8.mk p_ i_ o_ k_) r_2)] : List zg)) hf4 (Z10 ++ [Hq c12, Hc h07 (x := (c_, p_, Arc_e.To, (-1), [])) h11 (loC xM c_ <| loC (eI .i64) p_ <| loC (eI .i64) Arc_e.To <| loC (eI .i64) (-1) <| loC F1_ ([] : List Int) <| loN), Hc h07 (x := (r_1, o_, Arc_e1.To, (-1), [])) h12 (loC xM r_1 <| loC (eI .i64) o_ <| loC (eI .i64) Arc_e1.To <| loC (eI .i64) (-1) <| loC F1_ ([] : List Int) <| loN), Hq (dM jp ([(zg.mk (z8.mk p_ i_ o_ k_) r_2)] : List zg)), Hn (dM jp ([(zg.mk (z8.mk p_ i_ o_ k_) r_2)] : List zg)), Hn (aL jp jp g1), Hl (aM jp out9 ([(zg.mk (z8.mk p_ i_ o_ k_) r_2)] : List zg))])
                    ·exact yB X0 hC hJ11 out9 hf4 (Z10 ++ [Hq c12])
                   ·exact yB X0 hC hJ11 out9 hf4 (Z9 ++ (rpN 6 (Hq c11) [qF]))
                  ·exact yB X0 hC hJ11 out9 hf4 (Z8 ++ (rpN 6 (Hq c10) (rpN 7 qF [])))
                 ·exact yB X0 hC hJ11 out9 hf4 (Z7 ++ (rpN 9 (Hq c9) (rpN 13 qF [])))
               ·obtain rfl := zm hf4
                obtain rfl := hl4
                exact yB X0 hC hJ9 out9 hf3 (Z6 ++ [Hq c8])
              ·obtain rfl := zm hf4
               obtain rfl := hl4
               exact yB X0 hC hJ9 out9 hf3 (Z5 ++ (rpN 4 (Hq c7) [qF]))
            ·obtain rfl := zm hf3
             obtain rfl := hl3
             exact yB X0 hC hJ5 out7 hf2 (Z4 ++ [Hq c5, Hq c5, Hq c5, Hq c6])
           ·obtain rfl := zm hf3
            obtain rfl := hl3
            exact yB X0 hC hJ5 out7 hf2 (Z4 ++ [Hq c5, Hq c5, Hq c5, qF])
          ·obtain rfl := zm hf3
           obtain rfl := hl3
           exact yB X0 hC hJ5 out7 hf2 (Z3 ++ (rpN 4 (Hq c4) (rpN 4 qF [])))
         ·rcases y9 hf2 with ⟨c13, hf2⟩ | ⟨c13, hf2⟩
          ·let Z11 : List HO := [Hq c13, Hq c13, Ha (lnM (eI .i64) Queue_e), Hq c13, Hq c13]
           rcases y9 hf2 with ⟨c14, hf2⟩ | ⟨c14, hf2⟩
           ·obtain ⟨Queue_e_e, h13, hf2⟩ := zq hf2
            let Z12 : List HO := (Z11 ++ (Hq c14 :: Hq c14 :: Hi (eI .i64) h13 :: (rpN 5 (Hq c14) [])))
            rcases y9 hf2 with ⟨c15, hf2⟩ | ⟨c15, hf2⟩
            ·obtain ⟨g2, hf2⟩ := gdE hf2
             obtain ⟨r_3, h14, hf2⟩ := zq hf2
             obtain ⟨g3, hf2⟩ := gdE hf2
             exact yB X0 hC hJ7 (out5 ++ ([(zg.mk (z8.mk p_ i_ (-1) (-1)) r_3)] : List zg)) hf2 (Z12 ++ [Hq c15, Hn (slA g2), Hn (zcK (eI .i64) g2), Ha (slE 1 false (eI .i64) Queue_e (1 : Int).toNat), Hc h07 (x := (c_, p_, Arc_e.To, Arc_e.Channel, (Queue_e.drop (1 : Int).toNat))) h14 (loC xM c_ <| loC (eI .i64) p_ <| loC (eI .i64) Arc_e.To <| loC (eI .i64) Arc_e.Channel <| loC F2_ (Queue_e.drop (1 : Int).toNat) <| loN), Hq (dM jp ([(zg.mk (z8.mk p_ i_ (-1) (-1)) r_3)] : List zg)), Hn (dM jp ([(zg.mk (z8.mk p_ i_ (-1) (-1)) r_3)] : List zg)), Hn (aL jp jp g3), Hl (aM jp out5 ([(zg.mk (z8.mk p_ i_ (-1) (-1)) r_3)] : List zg))])
            ·exact yB X0 hC hJ7 out5 hf2 (Z12 ++ [Hq c15])
           ·exact yB X0 hC hJ7 out5 hf2 (Z11 ++ (rpN 7 (Hq c14) [qF]))
          ·exact yB X0 hC hJ7 out5 hf2 (rpN 4 (Hq c13) (rpN 8 qF []))
        ·rcases y9 hf2 with ⟨c16, hf2⟩ | ⟨c16, hf2⟩
         ·let Z13 : List HO := [Hq c16, Hq c16, Ha (lnM (eI .i64) Queue_e), Hq c16, Hq c16, Hq c16]
          rcases y9 hf2 with ⟨c17, hf2⟩ | ⟨c17, hf2⟩
          ·obtain ⟨g4, hf2⟩ := gdE hf2
           obtain ⟨g5, hf2⟩ := gdE hf2
           obtain ⟨r_4, h15, hf2⟩ := zq hf2
           obtain ⟨g6, hf2⟩ := gdE hf2
           exact yB X0 hC hJ6 (out3 ++ ([(zg.mk (z8.mk p_ i_ (-1) (-1)) r_4)] : List zg)) hf2 (Z13 ++ [Hq c17, Hn (dM (eI .i64) Queue_e), Hn (aL (eI .i64) (eI .i64) g4), Hl (aM0 (eI .i64) Queue_e), Hq (dM (eI .i64) ([Arc_e.Message] : List Int)), Hn (dM (eI .i64) ([Arc_e.Message] : List Int)), Hn (aL (eI .i64) (eI .i64) g5), Hl (aM (eI .i64) Queue_e ([Arc_e.Message] : List Int)), Hg (z1L h07), Hm (shM (eI .i64) (eI .i64) (Queue_e ++ ([Arc_e.Message] : List Int))), Hs (z1M h07 (x := (c_, p_, Arc_e.To, Arc_e.Channel, (Queue_e ++ ([Arc_e.Message] : List Int)))) h15 (loC xM c_ <| loC (eI .i64) p_ <| loC (eI .i64) Arc_e.To <| loC (eI .i64) Arc_e.Channel <| loC F2_ (Queue_e ++ ([Arc_e.Message] : List Int)) <| loN)), Hm (shM (eI .i64) (eI .i64) (Queue_e ++ ([Arc_e.Message] : List Int))), Hq (dM jp ([(zg.mk (z8.mk p_ i_ (-1) (-1)) r_4)] : List zg)), Hn (dM jp ([(zg.mk (z8.mk p_ i_ (-1) (-1)) r_4)] : List zg)), Hn (aL jp jp g6), Hl (aM jp out3 ([(zg.mk (z8.mk p_ i_ (-1) (-1)) r_4)] : List zg))])
          ·exact yB X0 hC hJ6 out3 hf2 (Z13 ++ [Hq c17])
         ·exact yB X0 hC hJ6 out3 hf2 (rpN 5 (Hq c16) [qF])
    ·obtain rfl := zm hf2
     obtain rfl := hl2
     exact yB X0 hC hJ3 out3 hf1 (Z1 ++ [Hq c1])
  ·obtain rfl := zm hf1
   obtain rfl := hl1
   exact yB X0 hC hJ1 out1 hf0 (Z0 ++ [Hq c0])
def ZD : Code := (Tryz.f70.body).getD .skip
def Zl : yZ := spF (α := List Int × List Int) (ρ := Int) 70 (fun x => [F2_ x.1, F2_ x.2]) (fun r => (eI .i64) r) (fun x => jf x.1 x.2) [] (UP)
abbrev Vx : List (Nat × T) := []
abbrev Vw (a_ : List Int) (b_ : List Int) (i_ : Int) : List (Nat × T) := [(0, .d (eSl 1 false (eI .i64) a_)), (1, .d (eSl 1 false (eI .i64) b_)), (5, .d (I i_))]
theorem JY {ctr : Ctr} (hC : zW Tryz.prog ctr) : Zl.Ok Tryz.prog := by
 refine ya ?_
 rintro ⟨a_, b_⟩ r0 hf0
 try unfold jf at hf0
 refine yO true [(4, none)] ZD 40 Tryz.func70 fun E hE => ?_
 let Z0 : List HO := [Ha (lnM (eI .i64) a_), Ha (lnM (eI .i64) b_)]
 rcases y9 hf0 with ⟨c0, hf0⟩ | ⟨c0, hf0⟩
 ·let Z1 : List HO := (Z0 ++ [Hq c0, Ha (lnM (eI .i64) a_), Ha (lnM (eI .i64) b_)])
  rcases y9 hf0 with ⟨c1, hf0⟩ | ⟨c1, hf0⟩
  ·obtain rfl := zm hf0
   exact yE X0 hC hE (Z1 ++ [Hq c1])
  ·obtain rfl := zm hf0
   exact yE X0 hC hE (Z1 ++ [Hq c1])
 ·refine yJ X0 hC ZD [1,1] [] [] (fun z : Unit => Zu = some r0) (fun z => Vx) [(0, .d (eSl 1 false (eI .i64) a_)), (1, .d (eSl 1 false (eI .i64) b_))] (Z0 ++ [Hq c0, Hh (.cut 0)]) ?_ fun J1 hJ1 => ?_
  ·rintro ⟨⟩ hf0
   unfold Zu at hf0
   obtain rfl := zm hf0
   exact yE X0 hC hE []
  ·obtain ⟨t2, ht2, hf0⟩ := zq hf0
   refine yL X0 hC ZD [1,1,2,1,0] [J1] (fun s => qj a_ b_ s) (fun x => Vw a_ b_ x) 0 ht2  [] ?_
   rintro i_ m2 lr1 hf1 hl1 J2 hJ2
   try unfold qj at hf1
   rcases y9 hf1 with ⟨c2, hf1⟩ | ⟨c2, hf1⟩
   ·obtain ⟨a__e, h0, hf1⟩ := zq hf1
    obtain ⟨b__e, h1, hf1⟩ := zq hf1
    let Z2 : List HO := [Ha (lnM (eI .i64) a_), Hq c2, Hi (eI .i64) h0, Hi (eI .i64) h1]
    rcases y9 hf1 with ⟨c3, hf1⟩ | ⟨c3, hf1⟩
    ·obtain ⟨a__e1, h2, hf1⟩ := zq hf1
     obtain ⟨b__e1, h3, hf1⟩ := zq hf1
     let Z3 : List HO := (Z2 ++ [Hq c3, Hi (eI .i64) h2, Hi (eI .i64) h3])
     rcases y9 hf1 with ⟨c4, hf1⟩ | ⟨c4, hf1⟩
     ·obtain rfl := zm hf1
      obtain rfl := hl1
      obtain rfl := zm hf0
      exact yE X0 hC hE (Z3 ++ [Hq c4])
     ·obtain rfl := zm hf1
      obtain rfl := hl1
      obtain rfl := zm hf0
      exact yE X0 hC hE (Z3 ++ [Hq c4])
    ·obtain rfl := zm hf1
     exact yB X0 hC hJ2 (w64 (i_ + 1)) hl1 (Z2 ++ [Hq c3])
   ·obtain rfl := zm hf1
    obtain rfl := hl1
    exact yB X0 hC hJ1 () hf0 [Ha (lnM (eI .i64) a_), Hq c2]
def z0j : Code := (Tryz.f36.body).getD .skip
def YL : yZ := spF (α := List Int × List Int) (ρ := Int) 36 (fun x => [F2_ x.1, F2_ x.2]) (fun r => (eI .i64) r) (fun x => Zi x.1 x.2) [] (UP)
theorem z0y {ctr : Ctr} (hC : zW Tryz.prog ctr) (h0n : ctr.Has Zl) : YL.Ok Tryz.prog := by
 refine ya ?_
 rintro ⟨a_, b_⟩ r0 hf0
 try unfold Zi at hf0
 refine yO true [(4, none)] z0j 22 Tryz.func36 fun E hE => ?_
 let Z0 : List HO := [Ha (lnM (eI .i64) a_), Ha (lnM (eI .i64) b_)]
 rcases y9 hf0 with ⟨c0, hf0⟩ | ⟨c0, hf0⟩
 ·obtain rfl := zm hf0
  exact yE X0 hC hE (Z0 ++ (rpN 5 (Hq c0) (rpN 6 qT [])))
 ·obtain ⟨r_, h0, hf0⟩ := zq hf0
  let Z1 : List HO := (Z0 ++ [Hq c0, Hq c0, Hq c0, Hc h0n (x := (a_, b_)) h0 (loC F2_ a_ <| loC F2_ b_ <| loN), Hq c0, Hq c0])
  rcases y9 hf0 with ⟨c1, hf0⟩ | ⟨c1, hf0⟩
  ·obtain rfl := zm hf0
   exact yE X0 hC hE (Z1 ++ (rpN 5 (Hq c1) [qT]))
  ·obtain ⟨r_1, h1, hf0⟩ := zq hf0
   let Z2 : List HO := (Z1 ++ [Hq c1, Hq c1, Hq c1, Hc h0n (x := (b_, a_)) h1 (loC F2_ b_ <| loC F2_ a_ <| loN), Hq c1, Hq c1])
   rcases y9 hf0 with ⟨c2, hf0⟩ | ⟨c2, hf0⟩
   ·obtain rfl := zm hf0
    exact yE X0 hC hE (Z2 ++ [Hq c2])
   ·obtain rfl := zm hf0
    exact yE X0 hC hE (Z2 ++ [Hq c2])
def Xf : Code := (Tryz.f16.body).getD .skip
def qr : yZ := spF (α := z7 × z7) (ρ := Int) 16 (fun x => [xM x.1, xM x.2]) (fun r => (eI .i64) r) (fun x => uI x.1 x.2) [] (UP)
abbrev Qe : List (Nat × T) := []
abbrev Qd (a_ : z7) (b_ : z7) (i_ : Int) : List (Nat × T) := [(2, .own (.box (xM a_))), (3, .own (.box (xM b_))), (5, .d (I i_))]
theorem z0w {ctr : Ctr} (hC : zW Tryz.prog ctr) (h0o : ctr.Has YL) : qr.Ok Tryz.prog := by
 refine ya ?_
 rintro ⟨a_, b_⟩ r0 hf0
 try unfold uI at hf0
 refine yO true [(4, none)] Xf 40 Tryz.func16 fun E hE => ?_
 obtain ⟨r_, h0, hf0⟩ := zq hf0
 let Z0 : List HO := [Hc h0o (x := (a_.States, b_.States)) h0 (loC F2_ a_.States <| loC F2_ b_.States <| loN)]
 rcases y9 hf0 with ⟨c0, hf0⟩ | ⟨c0, hf0⟩
 ·obtain rfl := zm hf0
  exact yE X0 hC hE (Z0 ++ (rpN 8 (Hq c0) [qT]))
 ·let Z1 : List HO := (Z0 ++ [Hq c0, Hq c0, Hq c0, Ha (lnM F2_ a_.Queues), Hq c0, Hq c0, Hq c0, Ha (lnM F2_ b_.Queues), Hq c0, Hq c0])
  rcases y9 hf0 with ⟨c1, hf0⟩ | ⟨c1, hf0⟩
  ·obtain rfl := zm hf0
   exact yE X0 hC hE (Z1 ++ [Hq c1])
  ·refine yJ X0 hC Xf [1,1] [] [] (fun z : Unit => YW = some r0) (fun z => Qe) [(2, .own (.box (xM a_))), (3, .own (.box (xM b_)))] (Z1 ++ [Hq c1, Hh (.cut 0)]) ?_ fun J1 hJ1 => ?_
   ·rintro ⟨⟩ hf0
    unfold YW at hf0
    obtain rfl := zm hf0
    exact yE X0 hC hE []
   ·obtain ⟨t2, ht2, hf0⟩ := zq hf0
    refine yL X0 hC Xf [1,1,2,1,0] [J1] (fun s => jK a_ b_ s) (fun x => Qd a_ b_ x) 0 ht2  [] ?_
    rintro i_ m2 lr1 hf1 hl1 J2 hJ2
    try unfold jK at hf1
    let Z2 : List HO := [Ha (lnM F2_ a_.Queues)]
    rcases y9 hf1 with ⟨c2, hf1⟩ | ⟨c2, hf1⟩
    ·obtain ⟨Queue_e, h1, hf1⟩ := zq hf1
     obtain ⟨Queue_e1, h2, hf1⟩ := zq hf1
     obtain ⟨r_1, h3, hf1⟩ := zq hf1
     let Z3 : List HO := (Z2 ++ [Hq c2, Hi F2_ h1, Hi F2_ h2, Hc h0o (x := (Queue_e, Queue_e1)) h3 (loC F2_ Queue_e <| loC F2_ Queue_e1 <| loN)])
     rcases y9 hf1 with ⟨c3, hf1⟩ | ⟨c3, hf1⟩
     ·obtain rfl := zm hf1
      obtain rfl := hl1
      obtain rfl := zm hf0
      exact yE X0 hC hE (Z3 ++ [Hq c3])
     ·obtain rfl := zm hf1
      exact yB X0 hC hJ2 (w64 (i_ + 1)) hl1 (Z3 ++ [Hq c3])
    ·obtain rfl := zm hf1
     obtain rfl := hl1
     exact yB X0 hC hJ1 () hf0 (Z2 ++ [Hq c2])
def xR : Code := (Tryz.f10.body).getD .skip
def Y8 : yZ := spF (α := za × Int) (ρ := List z7 × List (List z6)) 10 (fun x => [xj x.1, (eI .i64) x.2]) (fun r => .tup [z9t r.1, z7L r.2]) (fun x => Zs x.1 x.2) [] (UP)
abbrev Uv (list : List z7) (steps : List (List z6)) : List (Nat × T) := [(6, .own (eOs 2 false xM list)), (7, .own (eOs 1 false K7 steps))]
abbrev Uu (x_ : za) (most : Int) (list1 : List z7) (n_ : Int) (list2 : List z7) (steps2 : List (List z6)) : List (Nat × T) := [(1, .d (I most)), (2, .own (.box (xj x_))), (6, .own (eOs 2 false xM list2)), (7, .own (eOs 1 false K7 steps2)), (8, .d (I n_)), (22, .d (I ((list1.length : Nat) : Int))), (23, .d (I most)), (24, .d (B (decide (((list1.length : Nat) : Int) ≤ most))))]
abbrev Ut (x_ : za) (most : Int) (list1 : List z7) (steps1 : List (List z6)) (n_ : Int) (list3 : List z7) (l_ : List z6) : List (Nat × T) := [(1, .d (I most)), (2, .own (.box (xj x_))), (6, .own (eOs 2 false xM list3)), (7, .own (eOs 1 false K7 steps1)), (8, .d (I n_)), (9, .own (eOs 5 false uR l_)), (22, .d (I ((list1.length : Nat) : Int))), (23, .d (I most)), (24, .d (B (decide (((list1.length : Nat) : Int) ≤ most))))]
abbrev Us (x_ : za) (most : Int) (list1 : List z7) (steps1 : List (List z6)) (n_ : Int) (r_1 : List zg) (i_ : Int) (list5 : List z7) (l_2 : List z6) : List (Nat × T) := [(1, .d (I most)), (2, .own (.box (xj x_))), (6, .own (eOs 2 false xM list5)), (7, .own (eOs 1 false K7 steps1)), (8, .d (I n_)), (9, .own (eOs 5 false uR l_2)), (10, .own (eOs 6 false jp r_1)), (11, .d (I i_)), (22, .d (I ((list1.length : Nat) : Int))), (23, .d (I most)), (24, .d (B (decide (((list1.length : Nat) : Int) ≤ most))))]
abbrev Uq (x_ : za) (most : Int) (list1 : List z7) (steps1 : List (List z6)) (n_ : Int) (r_1 : List zg) (l_1 : List z6) (i_ : Int) (k_ : Int) (list6 : List z7) : List (Nat × T) := [(1, .d (I most)), (2, .own (.box (xj x_))), (6, .own (eOs 2 false xM list6)), (7, .own (eOs 1 false K7 steps1)), (8, .d (I n_)), (9, .own (eOs 5 false uR l_1)), (10, .own (eOs 6 false jp r_1)), (11, .d (I i_)), (12, .d (I k_)), (22, .d (I ((list1.length : Nat) : Int))), (23, .d (I most)), (24, .d (B (decide (((list1.length : Nat) : Int) ≤ most))))]
abbrev Ur (x_ : za) (most : Int) (list1 : List z7) (steps1 : List (List z6)) (n_ : Int) (r_1 : List zg) (list4 : List z7) (l_1 : List z6) (i_ : Int) (k_ : Int) : List (Nat × T) := [(1, .d (I most)), (2, .own (.box (xj x_))), (6, .own (eOs 2 false xM list4)), (7, .own (eOs 1 false K7 steps1)), (8, .d (I n_)), (9, .own (eOs 5 false uR l_1)), (10, .own (eOs 6 false jp r_1)), (11, .d (I i_)), (12, .d (I k_)), (22, .d (I ((list1.length : Nat) : Int))), (23, .d (I most)), (24, .d (B (decide (((list1.length : Nat) : Int) ≤ most))))]
abbrev Un (x_ : za) (most : Int) (list1 : List z7) (steps1 : List (List z6)) (n_ : Int) (r_1 : List zg) (list4 : List z7) (l_1 : List z6) (i_ : Int) (k_1 : Int) : List (Nat × T) := [(1, .d (I most)), (2, .own (.box (xj x_))), (6, .own (eOs 2 false xM list4)), (7, .own (eOs 1 false K7 steps1)), (8, .d (I n_)), (9, .own (eOs 5 false uR l_1)), (10, .own (eOs 6 false jp r_1)), (11, .d (I i_)), (12, .d (I k_1)), (22, .d (I ((list1.length : Nat) : Int))), (23, .d (I most)), (24, .d (B (decide (((list1.length : Nat) : Int) ≤ most))))]
abbrev Uo (x_ : za) (most : Int) (list1 : List z7) (steps1 : List (List z6)) (n_ : Int) (r_1 : List zg) (list4 : List z7) (l_1 : List z6) (i_ : Int) : List (Nat × T) := [(1, .d (I most)), (2, .own (.box (xj x_))), (6, .own (eOs 2 false xM list4)), (7, .own (eOs 1 false K7 steps1)), (8, .d (I n_)), (9, .own (eOs 5 false uR l_1)), (10, .own (eOs 6 false jp r_1)), (11, .d (I i_)), (22, .d (I ((list1.length : Nat) : Int))), (23, .d (I most)), (24, .d (B (decide (((list1.length : Nat) : Int) ≤ most))))]
abbrev Up (x_ : za) (most : Int) (list1 : List z7) (steps1 : List (List z6)) (n_ : Int) : List (Nat × T) := [(1, .d (I most)), (2, .own (.box (xj x_))), (6, .own (eOs 2 false xM list1)), (7, .own (eOs 1 false K7 steps1)), (8, .d (I n_))]
theorem KI {ctr : Ctr} (hC : zW Tryz.prog ctr) (h0A : ctr.Has Y9) (h0B : ctr.Has Y7) (h05 : ctr.Has qr) : Y8.Ok Tryz.prog := by
 refine ya ?_
 rintro ⟨x_, most⟩ r0 hf0
 try unfold Zs at hf0
 refine yO false [(4, none), (5, none)] xR 87 Tryz.func10 fun E hE => ?_
 obtain ⟨r_, h0, hf0⟩ := zq hf0
 refine yJ X0 hC xR [1,1,1] [] [6,7] (fun z : List z7 × List (List z6) => Ye z.1 z.2 = some r0) (fun z => Uv z.1 z.2) [(1, .d (I most)), (2, .own (.box (xj x_))), (6, .own (eOs 2 true Qx ([r_]))), (7, .own (eOs 1 true ko []))] [Hc h0A (x := x_) h0 (loC xj x_ <| loN), Hh (.cut 1)] ?_ fun J1 hJ1 => ?_
 ·rintro ⟨list, steps⟩ hf0
  unfold Ye at hf0
  obtain rfl := zm hf0
  exact yE X0 hC hE [Hm (shM xM xM list), Hm (shM K7 ko steps)]
 ·obtain ⟨t2, ht2, hf0⟩ := zq hf0
  refine yLx X0 hC xR [1,1,1,2,1,0] [J1] (fun s => qU x_ most s.1 s.2.1 s.2.2) (fun x => Up x_ most x.1 x.2.1 x.2.2) (([r_] : List z7), ([] : List (List z6)), 0) ht2 [(1, .d (I most)), (2, .own (.box (xj x_))), (6, .own (eOs 2 true Qx ([r_]))), (7, .own (eOs 1 true K7 [])), (8, .d (I 0))] inferInstance [] ?_
  rintro ⟨list1, steps1, n_⟩ m2 lr1 hf1 hl1 J2 hJ2
  try unfold qU at hf1
  let Z0 : List HO := [Ha (lnM xM list1)]
  rcases y9 hf1 with ⟨c0, hf1⟩ | ⟨c0, hf1⟩
  ·let Z1 : List HO := (Z0 ++ [Hq c0, Hq c0, Ha (lnM xM list1), Hq c0, Hq c0, Hq c0])
   rcases y9 hf1 with ⟨c1, hf1⟩ | ⟨c1, hf1⟩
   ·refine yJ X0 hC xR [1,1,1,2,1,0,0,1] [J1, J2] [1,2,6,7,8,22,23,24] (fun z : List z7 × List (List z6) => km n_ z.1 z.2 = some lr1) (fun z => Uu x_ most list1 n_ z.1 z.2) [(1, .d (I most)), (2, .own (.box (xj x_))), (6, .own (eOs 2 false xM list1)), (7, .own (eOs 1 false K7 steps1)), (8, .d (I n_)), (21, .als 6 [] 0 0), (22, .d (I ((list1.length : Nat) : Int))), (23, .d (I most)), (24, .d (B (decide (((list1.length : Nat) : Int) ≤ most))))] (Z1 ++ [Hq c1, Hh (.cut 0)]) ?_ fun J3 hJ3 => ?_
    ·rintro ⟨list2, steps2⟩ hf1
     unfold km at hf1
     obtain rfl := zm hf1
     exact yB X0 hC hJ2 (list2, steps2, w64 (n_ + 1)) hl1 []
    ·obtain ⟨list_e, h1, hf1⟩ := zq hf1
     obtain ⟨r_1, h2, hf1⟩ := zq hf1
     refine yJ X0 hC xR [1,1,1,2,1,0,0,1,2,0,1,1] [J1, J2, J3] [1,2,6,7,8,9,22,23,24] (fun z : List z7 × List z6 => kl steps1 n_ z.1 z.2 = some lr1) (fun z => Ut x_ most list1 steps1 n_ z.1 z.2) [(1, .d (I most)), (2, .own (.box (xj x_))), (6, .own (eOs 2 false xM list1)), (7, .own (eOs 1 false K7 steps1)), (8, .d (I n_)), (9, .own (eOs 5 true uR [])), (10, .own (eOs 6 false jp r_1)), (21, .als 6 [] 0 0), (22, .d (I ((list1.length : Nat) : Int))), (23, .d (I most)), (24, .d (B (decide (((list1.length : Nat) : Int) ≤ most))))] [Hn (iL xM h1), Hs (iM xM h1), Hc h0B (x := (x_, list_e)) h2 (loC xj x_ <| loC xM list_e <| loN), Hh (.cut 0)] ?_ fun J4 hJ4 => ?_
     ·rintro ⟨list3, l_⟩ hf1
      unfold kl at hf1
      obtain ⟨g0, hf1⟩ := gdE hf1
      exact yB X0 hC hJ3 (list3, (steps1 ++ ([l_] : List (List z6)))) hf1 [Hq (oC K7 l_ []), Hn (aL K7 K7 g0), Hl (aM K7 steps1 ([l_] : List (List z6)))]
     ·obtain ⟨t5, ht5, hf1⟩ := zq hf1
      refine yLx X0 hC xR [1,1,1,2,1,0,0,1,2,0,1,1,2,1,0] [J1, J2, J3, J4] (fun s => uM r_1 s.1 s.2.1 s.2.2) (fun x => Uo x_ most list1 steps1 n_ r_1 x.1 x.2.1 x.2.2) (list1, ([] : List z6), 0) ht5 [(1, .d (I most)), (2, .own (.box (xj x_))), (6, .own (eOs 2 false xM list1)), (7, .own (eOs 1 false K7 steps1)), (8, .d (I n_)), (9, .own (eOs 5 true uR [])), (10, .own (eOs 6 false jp r_1)), (11, .d (I 0)), (22, .d (I ((list1.length : Nat) : Int))), (23, .d (I most)), (24, .d (B (decide (((list1.length : Nat) : Int) ≤ most))))] inferInstance [] ?_
      rintro ⟨list4, l_1, i_⟩ m5 lr2 hf2 hl2 J5 hJ5
      try unfold uM at hf2
      let Z2 : List HO := [Ha (lnM jp r_1)]
      rcases y9 hf2 with ⟨c2, hf2⟩ | ⟨c2, hf2⟩
      ·refine yJ X0 hC xR [1,1,1,2,1,0,0,1,2,0,1,1,2,1,0,0,1] [J1, J2, J3, J4, J5] [1,2,6,7,8,9,10,11,22,23,24] (fun z : List z7 × List z6 => kj i_ z.1 z.2 = some lr2) (fun z => Us x_ most list1 steps1 n_ r_1 i_ z.1 z.2) [(1, .d (I most)), (2, .own (.box (xj x_))), (6, .own (eOs 2 false xM list4)), (7, .own (eOs 1 false K7 steps1)), (8, .d (I n_)), (9, .own (eOs 5 false uR l_1)), (10, .own (eOs 6 false jp r_1)), (11, .d (I i_)), (22, .d (I ((list1.length : Nat) : Int))), (23, .d (I most)), (24, .d (B (decide (((list1.length : Nat) : Int) ≤ most))))] (Z2 ++ [Hq c2, Hh (.cut 0)]) ?_ fun J6 hJ6 => ?_
       ·rintro ⟨list5, l_2⟩ hf2
        unfold kj at hf2
        obtain rfl := zm hf2
        exact yB X0 hC hJ5 (list5, l_2, w64 (i_ + 1)) hl2 []
       ·refine yJ X0 hC xR [1,1,1,2,1,0,0,1,2,0,1,1,2,1,0,0,1,2,0,1] [J1, J2, J3, J4, J5, J6] [1,2,6,7,8,9,10,11,12,22,23,24] (fun z : Int => ki r_1 list4 l_1 i_ z = some lr2) (fun z => Ur x_ most list1 steps1 n_ r_1 list4 l_1 i_ z) [(1, .d (I most)), (2, .own (.box (xj x_))), (6, .own (eOs 2 false xM list4)), (7, .own (eOs 1 false K7 steps1)), (8, .d (I n_)), (9, .own (eOs 5 false uR l_1)), (10, .own (eOs 6 false jp r_1)), (11, .d (I i_)), (12, .d (I 0)), (22, .d (I ((list1.length : Nat) : Int))), (23, .d (I most)), (24, .d (B (decide (((list1.length : Nat) : Int) ≤ most))))] [Hh (.cut 1)] ?_ fun J7 hJ7 => ?_
        ·rintro k_ hf2
         unfold ki at hf2
         refine yJ X0 hC xR [1,1,1,2,1,0,0,1,2,0,1,1,2,1,0,0,1,2,0,1,1] [J1, J2, J3, J4, J5, J6] [1,2,6,7,8,9,10,11,12,22,23,24] (fun z : List z7 => qV r_1 l_1 i_ k_ z = some lr2) (fun z => Uq x_ most list1 steps1 n_ r_1 l_1 i_ k_ z) [(1, .d (I most)), (2, .own (.box (xj x_))), (6, .own (eOs 2 false xM list4)), (7, .own (eOs 1 false K7 steps1)), (8, .d (I n_)), (9, .own (eOs 5 false uR l_1)), (10, .own (eOs 6 false jp r_1)), (11, .d (I i_)), (12, .d (I k_)), (22, .d (I ((list1.length : Nat) : Int))), (23, .d (I most)), (24, .d (B (decide (((list1.length : Nat) : Int) ≤ most))))] [Hh (.cut 0)] ?_ fun J8 hJ8 => ?_
         ·rintro list6 hf2
          unfold qV at hf2
          obtain ⟨r__e, h3, hf2⟩ := zq hf2
          obtain ⟨g1, hf2⟩ := gdE hf2
          exact yB X0 hC hJ6 (list6, (l_1 ++ ([(z6.mk r__e.Move k_)] : List z6))) hf2 [Hn (iL jp h3), Hs (iM jp h3), Hs (iM jp h3), Hq (dM uR ([(z6.mk r__e.Move k_)] : List z6)), Hn (dM uR ([(z6.mk r__e.Move k_)] : List z6)), Hn (aL uR uR g1), Hl (aM uR l_1 ([(z6.mk r__e.Move k_)] : List z6))]
         ·let Z3 : List HO := [Ha (lnM xM list4)]
          rcases y9 hf2 with ⟨c3, hf2⟩ | ⟨c3, hf2⟩
          ·obtain ⟨r__e1, h4, hf2⟩ := zq hf2
           obtain ⟨g2, hf2⟩ := gdE hf2
           exact yB X0 hC hJ8 (list4 ++ ([r__e1.To] : List z7)) hf2 (Z3 ++ [Hq c3, Hn (iL jp h4), Hs (iM jp h4), Hs (iM jp h4), Hq (dM xM ([r__e1.To] : List z7)), Hn (dM xM ([r__e1.To] : List z7)), Hn (aL xM xM g2), Hl (aM xM list4 ([r__e1.To] : List z7))])
          ·exact yB X0 hC hJ8 list4 hf2 (Z3 ++ [Hq c3])
        ·obtain ⟨t9, ht9, hf2⟩ := zq hf2
         refine yL X0 hC xR [1,1,1,2,1,0,0,1,2,0,1,1,2,1,0,0,1,2,0,1,2,0] [J1, J2, J3, J4, J5, J6, J7] (fun s => uL r_1 list4 i_ s) (fun x => Un x_ most list1 steps1 n_ r_1 list4 l_1 i_ x) 0 ht9  [] ?_
         rintro k_1 m9 lr3 hf3 hl3 J9 hJ9
         try unfold uL at hf3
         let Z4 : List HO := [Ha (lnM xM list4)]
         rcases y9 hf3 with ⟨c4, hf3⟩ | ⟨c4, hf3⟩
         ·obtain ⟨list_e1, h5, hf3⟩ := zq hf3
          obtain ⟨r__e2, h6, hf3⟩ := zq hf3
          obtain ⟨r_2, h7, hf3⟩ := zq hf3
          let Z5 : List HO := (Z4 ++ [Hq c4, Hq c4, Hq c4, Hn (iL xM h5), Hq c4, Hs (iM xM h5), Hq c4, Hq c4, Hq c4, Hn (iL jp h6), Hq c4, Hs (iM jp h6), Hq c4, Hs (iM jp h6), Hq c4, Hc h05 (x := (list_e1, r__e2.To)) h7 (loC xM list_e1 <| loC xM r__e2.To <| loN), Hq c4, Hq c4])
          rcases y9 hf3 with ⟨c5, hf3⟩ | ⟨c5, hf3⟩
          ·obtain rfl := zm hf3
           exact yB X0 hC hJ9 (w64 (k_1 + 1)) hl3 (Z5 ++ [Hq c5])
          ·obtain rfl := zm hf3
           obtain rfl := hl3
           exact yB X0 hC hJ7 k_1 hf2 (Z5 ++ [Hq c5])
         ·obtain rfl := zm hf3
          obtain rfl := hl3
          exact yB X0 hC hJ7 k_1 hf2 (Z4 ++ (rpN 12 (Hq c4) [qF]))
      ·obtain rfl := zm hf2
       obtain rfl := hl2
       exact yB X0 hC hJ4 (list4, l_1) hf1 (Z2 ++ [Hq c2])
   ·obtain rfl := zm hf1
    obtain rfl := hl1
    exact yB X0 hC hJ1 (list1, steps1) hf0 (Z1 ++ [Hq c1])
  ·obtain rfl := zm hf1
   obtain rfl := hl1
   exact yB X0 hC hJ1 (list1, steps1) hf0 (Z0 ++ (rpN 5 (Hq c0) [qF]))
def z0k : Code := (Tryz.f37.body).getD .skip
def YM : yZ := spF (α := Int × List ze) (ρ := za) 37 (fun x => [(eI .i64) x.1, z3c x.2]) (fun r => z7I r) (fun x => YA x.1 x.2) [] (UP)
def z1I : XH Tryz.prog := ((zcz zZ (.inl 13) [10,12]).or X0)
theorem z0z {ctr : Ctr} (hC : zW Tryz.prog ctr) : YM.Ok Tryz.prog := by
 refine ya ?_
 rintro ⟨capacity, arcs⟩ r0 hf0
 try unfold YA at hf0
 refine yO false [(4, some 29)] z0k 15 Tryz.func37 fun E hE => ?_
 obtain rfl := zm hf0
 exact yE z1I hC hE [Hm (shM vN vN ([(ze.mk 0 1 0 0 1), (ze.mk 1 0 0 0 0)])), Hm (shM (eI .i64) (eI .i64) []), Hm (shM (eI .i64) (eI .i64) []), Hm (shM (eI .i64) (eI .i64) ([capacity])), Hm (shM z9G z9G ([(zh.mk 2 ([(ze.mk 0 1 0 0 1), (ze.mk 1 0 0 0 0)]) []), (zh.mk 1 arcs [])]))]
def Vn : Code := (Tryz.f87.body).getD .skip
def vn : yZ := spF (α := Int) (ρ := Bool) 87 (fun x => [(eI .i64) x]) (fun r => eB r) (fun x => jt x) [] (UQ)
theorem VC {ctr : Ctr} (hC : zW Tryz.prog ctr) : vn.Ok Tryz.prog := by
 refine ya ?_
 rintro n_ r0 hf0
 try unfold jt at hf0
 refine yO true [(2, none)] Vn 5 Tryz.func87 fun E hE => ?_
 obtain rfl := zm hf0
 exact yE X0 hC hE []
def wm : Code := (Tryz.f90.body).getD .skip
def vS : yZ := spF (α := List Int × Unit) (ρ := Int) 90 (fun x => [F2_ x.1, (K3 87) x.2]) (fun r => (eI .i64) r) (fun x => xL x.1 x.2) [] (by
 rintro ⟨a0, a1⟩ ⟨b0, b1⟩ h
 have e0 := wT.inj (f := F2_) _ _ (List.cons.inj h).1
 replace h := (List.cons.inj h).2
 have e1 := wT.inj (f := (K3 87)) _ _ (List.cons.inj h).1
 subst e0 e1
 rfl)
abbrev jo : List (Nat × T) := []
abbrev jn (s_ : List Int) (x8 : Int) : List (Nat × T) := [(0, .d (eSl 1 false (eI .i64) s_)), (1, .d (.fn 87 [])), (7, .d (I ((s_.length : Nat) : Int))), (8, .d (I x8))]
theorem kq {ctr : Ctr} (hC : zW Tryz.prog ctr) (h08 : ctr.Has vn) : vS.Ok Tryz.prog := by
 refine ya ?_
 rintro ⟨s_, f_⟩ r0 hf0
 try unfold xL at hf0
 refine yO true [(4, none)] wm 19 Tryz.func90 fun E hE => ?_
 refine yJ X0 hC wm [1] [] [] (fun z : Unit => wi = some r0) (fun z => jo) [(0, .d (eSl 1 false (eI .i64) s_)), (1, .d (.fn 87 []))] [Hh (.cut 1)] ?_ fun J1 hJ1 => ?_
 ·rintro ⟨⟩ hf0
  unfold wi at hf0
  obtain rfl := zm hf0
  exact yE X0 hC hE []
 ·obtain ⟨t2, ht2, hf0⟩ := zq hf0
  refine yL X0 hC wm [1,2,1,0] [J1] (fun s => yH s_ s) (fun x => jn s_ x) 0 ht2  [Ha (lnM (eI .i64) s_)] ?_
  rintro x8 m2 lr1 hf1 hl1 J2 hJ2
  try unfold yH at hf1
  rcases y9 hf1 with ⟨c0, hf1⟩ | ⟨c0, hf1⟩
  ·obtain ⟨s__e, h0, hf1⟩ := zq hf1
   obtain ⟨r_, h1, hf1⟩ := zq hf1
   let Z0 : List HO := [Hq c0, Hi (eI .i64) h0, Hc h08 (x := s__e) h1 (loC (eI .i64) s__e <| loN)]
   rcases y9 hf1 with ⟨c1, hf1⟩ | ⟨c1, hf1⟩
   ·obtain rfl := zm hf1
    obtain rfl := hl1
    obtain rfl := zm hf0
    exact yE X0 hC hE (Z0 ++ [Hq c1])
   ·obtain rfl := zm hf1
    exact yB X0 hC hJ2 (w64 (x8 + 1)) hl1 (Z0 ++ [Hq c1])
  ·obtain rfl := zm hf1
   obtain rfl := hl1
   exact yB X0 hC hJ1 () hf0 [Hq c0]
def jj : Code := (Tryz.f62.body).getD .skip
def va : yZ := spF (α := List Int × Unit) (ρ := Bool) 62 (fun x => [F2_ x.1, (K3 87) x.2]) (fun r => eB r) (fun x => yK x.1 x.2) [] (by
 rintro ⟨a0, a1⟩ ⟨b0, b1⟩ h
 have e0 := wT.inj (f := F2_) _ _ (List.cons.inj h).1
 replace h := (List.cons.inj h).2
 have e1 := wT.inj (f := (K3 87)) _ _ (List.cons.inj h).1
 subst e0 e1
 rfl)
theorem vh {ctr : Ctr} (hC : zW Tryz.prog ctr) (h08 : ctr.Has vn) : va.Ok Tryz.prog := by
 refine ya ?_
 rintro ⟨s_, f_⟩ r0 hf0
 try unfold yK at hf0
 refine yO true [(4, none)] jj 9 Tryz.func62 fun E hE => ?_
 obtain ⟨r_, h0, hf0⟩ := zq hf0
 obtain rfl := zm hf0
 exact yE ((z1P zZ (kq hC h08) 7).or X0) hC hE [Hc (Ctr.add_has JI vS) (x := (s_, ())) h0 (loC F2_ s_ <| loC (K3 87) () <| loN)]
def Vm : Code := (Tryz.f89.body).getD .skip
def jD : yZ := spF (α := zh) (ρ := Bool) 89 (fun x => [vb x]) (fun r => eB r) (fun x => js x) [] (UQ)
theorem VB {ctr : Ctr} (hC : zW Tryz.prog ctr) : jD.Ok Tryz.prog := by
 refine ya ?_
 rintro p_ r0 hf0
 try unfold js at hf0
 refine yO true [(2, none)] Vm 12 Tryz.func89 fun E hE => ?_
 rcases y9 hf0 with ⟨c0, hf0⟩ | ⟨c0, hf0⟩
 ·obtain rfl := zm hf0
  exact yE X0 hC hE (rpN 5 (Hq c0) [])
 ·obtain rfl := zm hf0
  exact yE X0 hC hE [Hq c0, Hq c0, Hq c0, Ha (lnM vN p_.Arcs), Hq c0, Hq c0]
def yM : Code := (Tryz.f107.body).getD .skip
def yC : yZ := spF (α := List zh × Unit) (ρ := Int) 107 (fun x => [z7J x.1, (K3 89) x.2]) (fun r => (eI .i64) r) (fun x => yh x.1 x.2) [] (by
 rintro ⟨a0, a1⟩ ⟨b0, b1⟩ h
 have e0 := wT.inj (f := z7J) _ _ (List.cons.inj h).1
 replace h := (List.cons.inj h).2
 have e1 := wT.inj (f := (K3 89)) _ _ (List.cons.inj h).1
 subst e0 e1
 rfl)
abbrev vB : List (Nat × T) := []
abbrev vA (s_ : List zh) (x8 : Int) : List (Nat × T) := [(0, .d (eSl 3 false vb s_)), (1, .d (.fn 89 [])), (7, .d (I ((s_.length : Nat) : Int))), (8, .d (I x8))]
theorem u4 {ctr : Ctr} (hC : zW Tryz.prog ctr) (h0C : ctr.Has jD) : yC.Ok Tryz.prog := by
 refine ya ?_
 rintro ⟨s_, f_⟩ r0 hf0
 try unfold yh at hf0
 refine yO true [(4, none)] yM 19 Tryz.func107 fun E hE => ?_
 refine yJ X0 hC yM [1] [] [] (fun z : Unit => yD = some r0) (fun z => vB) [(0, .d (eSl 3 false vb s_)), (1, .d (.fn 89 []))] [Hh (.cut 1)] ?_ fun J1 hJ1 => ?_
 ·rintro ⟨⟩ hf0
  unfold yD at hf0
  obtain rfl := zm hf0
  exact yE X0 hC hE []
 ·obtain ⟨t2, ht2, hf0⟩ := zq hf0
  refine yL X0 hC yM [1,2,1,0] [J1] (fun s => zO s_ s) (fun x => vA s_ x) 0 ht2  [Ha (lnM vb s_)] ?_
  rintro x8 m2 lr1 hf1 hl1 J2 hJ2
  try unfold zO at hf1
  rcases y9 hf1 with ⟨c0, hf1⟩ | ⟨c0, hf1⟩
  ·obtain ⟨s__e, h0, hf1⟩ := zq hf1
   obtain ⟨r_, h1, hf1⟩ := zq hf1
   let Z0 : List HO := [Hq c0, Hi vb h0, Hc h0C (x := s__e) h1 (loC vb s__e <| loN)]
   rcases y9 hf1 with ⟨c1, hf1⟩ | ⟨c1, hf1⟩
   ·obtain rfl := zm hf1
    obtain rfl := hl1
    obtain rfl := zm hf0
    exact yE X0 hC hE (Z0 ++ [Hq c1])
   ·obtain rfl := zm hf1
    exact yB X0 hC hJ2 (w64 (x8 + 1)) hl1 (Z0 ++ [Hq c1])
  ·obtain rfl := zm hf1
   obtain rfl := hl1
   exact yB X0 hC hJ1 () hf0 [Hq c0]
def vw : Code := (Tryz.f88.body).getD .skip
def yo : yZ := spF (α := List zh × Unit) (ρ := Bool) 88 (fun x => [z7J x.1, (K3 89) x.2]) (fun r => eB r) (fun x => zP x.1 x.2) [] (by
 rintro ⟨a0, a1⟩ ⟨b0, b1⟩ h
 have e0 := wT.inj (f := z7J) _ _ (List.cons.inj h).1
 replace h := (List.cons.inj h).2
 have e1 := wT.inj (f := (K3 89)) _ _ (List.cons.inj h).1
 subst e0 e1
 rfl)
theorem vC {ctr : Ctr} (hC : zW Tryz.prog ctr) (h0D : ctr.Has yC) : yo.Ok Tryz.prog := by
 refine ya ?_
 rintro ⟨s_, f_⟩ r0 hf0
 try unfold zP at hf0
 refine yO true [(4, none)] vw 9 Tryz.func88 fun E hE => ?_
 obtain ⟨r_, h0, hf0⟩ := zq hf0
 obtain rfl := zm hf0
 exact yE X0 hC hE [Hc h0D (x := (s_, ())) h0 (loC z7J s_ <| loC (K3 89) () <| loN)]
def Q5 : Code := (Tryz.f61.body).getD .skip
def kF : yZ := spF (α := za) (ρ := Bool) 61 (fun x => [xj x]) (fun r => eB r) (fun x => ju x) [] (UQ)
theorem QG {ctr : Ctr} (hC : zW Tryz.prog ctr) (h08 : ctr.Has vn) (h0E : ctr.Has yo) : kF.Ok Tryz.prog := by
 refine ya ?_
 rintro x_ r0 hf0
 try unfold ju at hf0
 refine yO true [(2, none)] Q5 31 Tryz.func61 fun E hE => ?_
 rcases y9 hf0 with ⟨c0, hf0⟩ | ⟨c0, hf0⟩
 ·obtain rfl := zm hf0
  exact yE X0 hC hE (rpN 4 (Hq c0) (rpN 11 qT []))
 ·let Z0 : List HO := (rpN 4 (Hq c0) [])
  rcases y9 hf0 with ⟨c1, hf0⟩ | ⟨c1, hf0⟩
  ·obtain rfl := zm hf0
   exact yE X0 hC hE (Z0 ++ (rpN 5 (Hq c1) (rpN 6 qT [])))
  ·let Z1 : List HO := (Z0 ++ [Hq c1, Hq c1, Hq c1, Ha (lnM (eI .i64) x_.Channels), Hq c1, Hq c1])
   rcases y9 hf0 with ⟨c2, hf0⟩ | ⟨c2, hf0⟩
   ·obtain rfl := zm hf0
    exact yE X0 hC hE (Z1 ++ (rpN 5 (Hq c2) [qT]))
   ·let Z2 : List HO := (Z1 ++ [Hq c2, Hq c2, Hq c2, Ha (lnM vb x_.Parts), Hq c2, Hq c2])
    rcases y9 hf0 with ⟨c3, hf0⟩ | ⟨c3, hf0⟩
    ·obtain rfl := zm hf0
     exact yE X0 hC hE (Z2 ++ [Hq c3])
    ·obtain ⟨r_, h0, hf0⟩ := zq hf0
     let Z3 : List HO := (Z2 ++ [Hq c3, Hc (Ctr.add_has JI va) (x := (x_.Channels, ())) h0 (loC F2_ x_.Channels <| loC (K3 87) () <| loN)])
     rcases y9 hf0 with ⟨c4, hf0⟩ | ⟨c4, hf0⟩
     ·obtain rfl := zm hf0
      exact yE ((z1P zZ (vh hC h08) 25).or X0) hC hE (Z3 ++ (rpN 4 (Hq c4) []))
     ·obtain ⟨r_1, h1, hf0⟩ := zq hf0
      obtain rfl := zm hf0
      exact yE ((z1P zZ (vh hC h08) 25).or X0) hC hE (Z3 ++ [Hq c4, Hq c4, Hq c4, Hc h0E (x := (x_.Parts, ())) h1 (loC z7J x_.Parts <| loC (K3 89) () <| loN), Hq c4])
def Vp : Code := (Tryz.f63.body).getD .skip
def vo : yZ := spF (α := Int) (ρ := Bool) 63 (fun x => [(eI .i64) x]) (fun r => eB r) (fun x => jC x) [] (UQ)
theorem VF {ctr : Ctr} (hC : zW Tryz.prog ctr) : vo.Ok Tryz.prog := by
 refine ya ?_
 rintro n_ r0 hf0
 try unfold jC at hf0
 refine yO true [(2, none)] Vp 5 Tryz.func63 fun E hE => ?_
 obtain rfl := zm hf0
 exact yE X0 hC hE []
def wl : Code := (Tryz.f90.body).getD .skip
def vR : yZ := spF (α := List Int × Unit) (ρ := Int) 90 (fun x => [F2_ x.1, (K3 63) x.2]) (fun r => (eI .i64) r) (fun x => xK x.1 x.2) [] (by
 rintro ⟨a0, a1⟩ ⟨b0, b1⟩ h
 have e0 := wT.inj (f := F2_) _ _ (List.cons.inj h).1
 replace h := (List.cons.inj h).2
 have e1 := wT.inj (f := (K3 63)) _ _ (List.cons.inj h).1
 subst e0 e1
 rfl)
abbrev jm : List (Nat × T) := []
abbrev jl (s_ : List Int) (x8 : Int) : List (Nat × T) := [(0, .d (eSl 1 false (eI .i64) s_)), (1, .d (.fn 63 [])), (7, .d (I ((s_.length : Nat) : Int))), (8, .d (I x8))]
theorem kp {ctr : Ctr} (hC : zW Tryz.prog ctr) (h09 : ctr.Has vo) : vR.Ok Tryz.prog := by
 refine ya ?_
 rintro ⟨s_, f_⟩ r0 hf0
 try unfold xK at hf0
 refine yO true [(4, none)] wl 19 Tryz.func90 fun E hE => ?_
 refine yJ X0 hC wl [1] [] [] (fun z : Unit => wh = some r0) (fun z => jm) [(0, .d (eSl 1 false (eI .i64) s_)), (1, .d (.fn 63 []))] [Hh (.cut 1)] ?_ fun J1 hJ1 => ?_
 ·rintro ⟨⟩ hf0
  unfold wh at hf0
  obtain rfl := zm hf0
  exact yE X0 hC hE []
 ·obtain ⟨t2, ht2, hf0⟩ := zq hf0
  refine yL X0 hC wl [1,2,1,0] [J1] (fun s => yG s_ s) (fun x => jl s_ x) 0 ht2  [Ha (lnM (eI .i64) s_)] ?_
  rintro x8 m2 lr1 hf1 hl1 J2 hJ2
  try unfold yG at hf1
  rcases y9 hf1 with ⟨c0, hf1⟩ | ⟨c0, hf1⟩
  ·obtain ⟨s__e, h0, hf1⟩ := zq hf1
   obtain ⟨r_, h1, hf1⟩ := zq hf1
   let Z0 : List HO := [Hq c0, Hi (eI .i64) h0, Hc h09 (x := s__e) h1 (loC (eI .i64) s__e <| loN)]
   rcases y9 hf1 with ⟨c1, hf1⟩ | ⟨c1, hf1⟩
   ·obtain rfl := zm hf1
    obtain rfl := hl1
    obtain rfl := zm hf0
    exact yE X0 hC hE (Z0 ++ [Hq c1])
   ·obtain rfl := zm hf1
    exact yB X0 hC hJ2 (w64 (x8 + 1)) hl1 (Z0 ++ [Hq c1])
  ·obtain rfl := zm hf1
   obtain rfl := hl1
   exact yB X0 hC hJ1 () hf0 [Hq c0]
def ji : Code := (Tryz.f62.body).getD .skip
def v8 : yZ := spF (α := List Int × Unit) (ρ := Bool) 62 (fun x => [F2_ x.1, (K3 63) x.2]) (fun r => eB r) (fun x => yI x.1 x.2) [] (by
 rintro ⟨a0, a1⟩ ⟨b0, b1⟩ h
 have e0 := wT.inj (f := F2_) _ _ (List.cons.inj h).1
 replace h := (List.cons.inj h).2
 have e1 := wT.inj (f := (K3 63)) _ _ (List.cons.inj h).1
 subst e0 e1
 rfl)
theorem vg {ctr : Ctr} (hC : zW Tryz.prog ctr) (h09 : ctr.Has vo) : v8.Ok Tryz.prog := by
 refine ya ?_
 rintro ⟨s_, f_⟩ r0 hf0
 try unfold yI at hf0
 refine yO true [(4, none)] ji 9 Tryz.func62 fun E hE => ?_
 obtain ⟨r_, h0, hf0⟩ := zq hf0
 obtain rfl := zm hf0
 exact yE ((z1P zZ (kp hC h09) 7).or X0) hC hE [Hc (Ctr.add_has JI vR) (x := (s_, ())) h0 (loC F2_ s_ <| loC (K3 63) () <| loN)]
def z0i : Code := (Tryz.f67.body).getD .skip
def kU : yZ := spF (α := Int × Int) (ρ := Bool) 67 (fun x => [(eI .i64) x.1, (eI .i64) x.2]) (fun r => eB r) (fun x => uH x.1 x.2) [] (UP)
theorem z0u {ctr : Ctr} (hC : zW Tryz.prog ctr) : kU.Ok Tryz.prog := by
 refine ya ?_
 rintro ⟨n_, many⟩ r0 hf0
 try unfold uH at hf0
 refine yO true [(4, none)] z0i 12 Tryz.func67 fun E hE => ?_
 rcases y9 hf0 with ⟨c0, hf0⟩ | ⟨c0, hf0⟩
 ·obtain rfl := zm hf0
  exact yE X0 hC hE (rpN 4 (Hq c0) [])
 ·obtain rfl := zm hf0
  exact yE X0 hC hE (rpN 4 (Hq c0) [])
def qH : Code := (Tryz.f46.body).getD .skip
def qq : yZ := spF (α := List Int × Int) (ρ := Bool) 46 (fun x => [F2_ x.1, (eI .i64) x.2]) (fun r => eB r) (fun x => uG x.1 x.2) [] (UP)
abbrev Ws : List (Nat × T) := []
abbrev Wr (l_ : List Int) (many : Int) (x9 : Int) (x29 : Bool) : List (Nat × T) := [(0, .d (eSl 1 false (eI .i64) l_)), (1, .d (I many)), (7, .d (eSl 1 false (eI .i64) l_)), (8, .d (I ((l_.length : Nat) : Int))), (9, .d (I x9)), (19, .d (I x9)), (20, .d (B (decide (x9 > 0)))), (21, .d (B (decide (x9 > 0)))), (29, .d (B x29))]
abbrev Wq (l_ : List Int) (many : Int) (x9 : Int) : List (Nat × T) := [(0, .d (eSl 1 false (eI .i64) l_)), (1, .d (I many)), (7, .d (eSl 1 false (eI .i64) l_)), (8, .d (I ((l_.length : Nat) : Int))), (9, .d (I x9))]
theorem UZ {ctr : Ctr} (hC : zW Tryz.prog ctr) (h06 : ctr.Has kU) : qq.Ok Tryz.prog := by
 refine ya ?_
 rintro ⟨l_, many⟩ r0 hf0
 try unfold uG at hf0
 refine yO true [(4, none)] qH 32 Tryz.func46 fun E hE => ?_
 refine yJ X0 hC qH [1] [] [] (fun z : Unit => jX = some r0) (fun z => Ws) [(0, .d (eSl 1 false (eI .i64) l_)), (1, .d (I many))] [Hh (.cut 1)] ?_ fun J1 hJ1 => ?_
 ·rintro ⟨⟩ hf0
  unfold jX at hf0
  obtain rfl := zm hf0
  exact yE X0 hC hE []
 ·obtain ⟨t2, ht2, hf0⟩ := zq hf0
  refine yL X0 hC qH [1,2,1,0] [J1] (fun s => vP l_ many s) (fun x => Wq l_ many x) 0 ht2  [Ha (lnM (eI .i64) l_)] ?_
  rintro x9 m2 lr1 hf1 hl1 J2 hJ2
  try unfold vP at hf1
  rcases y9 hf1 with ⟨c0, hf1⟩ | ⟨c0, hf1⟩
  ·refine yJ X0 hC qH [1,2,1,0,0,1,1] [J1, J2] [0,1,7,8,9,19,20,21,29] (fun z : Bool => qn x9 z = some lr1) (fun z => Wr l_ many x9 z) [(0, .d (eSl 1 false (eI .i64) l_)), (1, .d (I many)), (7, .d (eSl 1 false (eI .i64) l_)), (8, .d (I ((l_.length : Nat) : Int))), (9, .d (I x9))] [Hq c0, Hh (.cut 0)] ?_ fun J3 hJ3 => ?_
   ·rintro x29 hf1
    unfold qn at hf1
    obtain rfl := zm hf1
    exact yB X0 hC hJ2 (w64 (x9 + 1)) hl1 []
   ·obtain ⟨l__e, h0, hf1⟩ := zq hf1
    obtain ⟨r_, h1, hf1⟩ := zq hf1
    let Z0 : List HO := [Hi (eI .i64) h0, Hc h06 (x := (l__e, many)) h1 (loC (eI .i64) l__e <| loC (eI .i64) many <| loN)]
    rcases y9 hf1 with ⟨c1, hf1⟩ | ⟨c1, hf1⟩
    ·obtain rfl := zm hf1
     obtain rfl := hl1
     obtain rfl := zm hf0
     exact yE X0 hC hE (Z0 ++ (rpN 5 (Hq c1) [qT]))
    ·rcases y9 hf1 with ⟨c2, hf1⟩ | ⟨c2, hf1⟩
     ·obtain ⟨l__e1, h2, hf1⟩ := zq hf1
      let Z1 : List HO := (Z0 ++ (Hq c1 :: Hq c1 :: Hq c1 :: (rpN 5 (Hq c2) [Hi (eI .i64) h2, Hq c2, Hq c2, Hq c1, Hq c2, Hq c1])))
      rcases y9 hf1 with ⟨c3, hf1⟩ | ⟨c3, hf1⟩
      ·obtain rfl := zm hf1
       obtain rfl := hl1
       obtain rfl := zm hf0
       exact yE X0 hC hE (Z1 ++ [Hq c3])
      ·exact yB X0 hC hJ3 (decide (l__e ≤ l__e1)) hf1 (Z1 ++ [Hq c3])
     ·exact yB X0 hC hJ3 false hf1 (Z0 ++ (Hq c1 :: Hq c1 :: Hq c1 :: (rpN 7 (Hq c2) [Hq c1, Hq c2, Hq c1, qF])))
  ·obtain rfl := zm hf1
   obtain rfl := hl1
   exact yB X0 hC hJ1 () hf0 [Hq c0]
def Xc : Code := (Tryz.f66.body).getD .skip
def ui : yZ := spF (α := za × zh × ze) (ρ := Bool) 66 (fun x => [xj x.1, vb x.2.1, vN x.2.2]) (fun r => eB r) (fun x => wK x.1 x.2.1 x.2.2) [] (zcn)
theorem Xn {ctr : Ctr} (hC : zW Tryz.prog ctr) (h06 : ctr.Has kU) : ui.Ok Tryz.prog := by
 refine ya ?_
 rintro ⟨x_, p_, a_⟩ r0 hf0
 try unfold wK at hf0
 refine yO true [(6, none)] Xc 52 Tryz.func66 fun E hE => ?_
 obtain ⟨r_, h0, hf0⟩ := zq hf0
 let Z0 : List HO := [Hc h06 (x := (a_.From, p_.States)) h0 (loC (eI .i64) a_.From <| loC (eI .i64) p_.States <| loN)]
 rcases y9 hf0 with ⟨c0, hf0⟩ | ⟨c0, hf0⟩
 ·obtain rfl := zm hf0
  exact yE X0 hC hE (Z0 ++ (rpN 7 (Hq c0) (rpN 5 qT [])))
 ·obtain ⟨r_1, h1, hf0⟩ := zq hf0
  let Z1 : List HO := (Z0 ++ (rpN 5 (Hq c0) [Hc h06 (x := (a_.To, p_.States)) h1 (loC (eI .i64) a_.To <| loC (eI .i64) p_.States <| loN), Hq c0, Hq c0]))
  rcases y9 hf0 with ⟨c1, hf0⟩ | ⟨c1, hf0⟩
  ·obtain rfl := zm hf0
   exact yE X0 hC hE (Z1 ++ (rpN 4 (Hq c1) [qT]))
  ·let Z2 : List HO := (Z1 ++ (rpN 4 (Hq c1) []))
   rcases y9 hf0 with ⟨c2, hf0⟩ | ⟨c2, hf0⟩
   ·obtain rfl := zm hf0
    exact yE X0 hC hE (Z2 ++ [Hq c2])
   ·rcases y9 hf0 with ⟨c3, hf0⟩ | ⟨c3, hf0⟩
    ·rcases y9 hf0 with ⟨c4, hf0⟩ | ⟨c4, hf0⟩
     ·obtain ⟨r_2, h2, hf0⟩ := zq hf0
      obtain rfl := zm hf0
      exact yE X0 hC hE (Z2 ++ (Hq c2 :: Hq c3 :: (rpN 5 (Hq c4) [Hc h06 (x := (a_.Message, x_.Labels)) h2 (loC (eI .i64) a_.Message <| loC (eI .i64) x_.Labels <| loN), Hq c4])))
     ·obtain rfl := zm hf0
      exact yE X0 hC hE (Z2 ++ (Hq c2 :: Hq c3 :: (rpN 6 (Hq c4) [])))
    ·obtain ⟨r_3, h3, hf0⟩ := zq hf0
     let Z3 : List HO := (Z2 ++ [Hq c2, Hq c3, Ha (lnM (eI .i64) x_.Channels), Hc h06 (x := (a_.Channel, ((x_.Channels.length : Nat) : Int))) h3 (loC (eI .i64) a_.Channel <| loC (eI .i64) ((x_.Channels.length : Nat) : Int) <| loN)])
     rcases y9 hf0 with ⟨c5, hf0⟩ | ⟨c5, hf0⟩
     ·obtain ⟨r_4, h4, hf0⟩ := zq hf0
      obtain rfl := zm hf0
      exact yE X0 hC hE (Z3 ++ (rpN 5 (Hq c5) [Hc h06 (x := (a_.Message, x_.Messages)) h4 (loC (eI .i64) a_.Message <| loC (eI .i64) x_.Messages <| loN), Hq c5]))
     ·obtain rfl := zm hf0
      exact yE X0 hC hE (Z3 ++ (rpN 6 (Hq c5) []))
def Vo : Code := (Tryz.f65.body).getD .skip
def jF : yZ := spF (α := ze × za × zh) (ρ := Bool) 65 (fun x => [vN x.1, z5w x.2.1, z7K x.2.2]) (fun r => eB r) (fun x => jB x.1 x.2.1 x.2.2) [] (zcn)
theorem VE {ctr : Ctr} (hC : zW Tryz.prog ctr) (h0F : ctr.Has ui) : jF.Ok Tryz.prog := by
 refine ya ?_
 rintro ⟨a_, x1, x2⟩ r0 hf0
 try unfold jB at hf0
 refine yO true [(4, none)] Vo 10 Tryz.func65 fun E hE => ?_
 obtain ⟨r_, h0, hf0⟩ := zq hf0
 obtain rfl := zm hf0
 exact yE X0 hC hE [Hc h0F (x := (x1, x2, a_)) h0 (loC xj x1 <| loC vb x2 <| loC vN a_ <| loN)]
def yU : Code := (Tryz.f91.body).getD .skip
def yS : yZ := spF (α := List ze × (za × zh)) (ρ := Int) 91 (fun x => [z9u x.1, (z3G 65 z5w z7K) x.2]) (fun r => (eI .i64) r) (fun x => yl x.1 x.2) [] (by
 rintro ⟨a0, a1⟩ ⟨b0, b1⟩ h
 have e0 := wT.inj (f := z9u) _ _ (List.cons.inj h).1
 replace h := (List.cons.inj h).2
 have e1 := wT.inj (f := (z3G 65 z5w z7K)) _ _ (List.cons.inj h).1
 subst e0 e1
 rfl)
abbrev vJ : List (Nat × T) := []
abbrev vI (s_ : List ze) (f_ : za × zh) (x8 : Int) : List (Nat × T) := [(0, .d (eSl 5 false vN s_)), (1, .d (.fn 65 [.sptr (.agg [I f_.1.Messages, I f_.1.Labels, eSl 1 false (eI .i64) f_.1.Channels, eSl 3 false vb f_.1.Parts]), .sptr (.agg [I f_.2.States, eSl 5 false vN f_.2.Arcs, eSl 1 false (eI .i64) f_.2.Final])])), (7, .d (I ((s_.length : Nat) : Int))), (8, .d (I x8))]
theorem uv {ctr : Ctr} (hC : zW Tryz.prog ctr) (h0G : ctr.Has jF) : yS.Ok Tryz.prog := by
 refine ya ?_
 rintro ⟨s_, f_⟩ r0 hf0
 try unfold yl at hf0
 refine yO true [(4, none)] yU 19 Tryz.func91 fun E hE => ?_
 refine yJ X0 hC yU [1] [] [] (fun z : Unit => yT = some r0) (fun z => vJ) [(0, .d (eSl 5 false vN s_)), (1, .d (.fn 65 [.sptr (.agg [I f_.1.Messages, I f_.1.Labels, eSl 1 false (eI .i64) f_.1.Channels, eSl 3 false vb f_.1.Parts]), .sptr (.agg [I f_.2.States, eSl 5 false vN f_.2.Arcs, eSl 1 false (eI .i64) f_.2.Final])]))] [Hh (.cut 1)] ?_ fun J1 hJ1 => ?_
 ·rintro ⟨⟩ hf0
  unfold yT at hf0
  obtain rfl := zm hf0
  exact yE X0 hC hE []
 ·obtain ⟨t2, ht2, hf0⟩ := zq hf0
  refine yL X0 hC yU [1,2,1,0] [J1] (fun s => zT s_ f_ s) (fun x => vI s_ f_ x) 0 ht2  [Ha (lnM vN s_)] ?_
  rintro x8 m2 lr1 hf1 hl1 J2 hJ2
  try unfold zT at hf1
  rcases y9 hf1 with ⟨c0, hf1⟩ | ⟨c0, hf1⟩
  ·obtain ⟨s__e, h0, hf1⟩ := zq hf1
   obtain ⟨r_, h1, hf1⟩ := zq hf1
   let Z0 : List HO := [Hq c0, Hi vN h0, Hc h0G (x := (s__e, f_.1, f_.2)) h1 (loC vN s__e <| loC z5w f_.1 <| loC z7K f_.2 <| loN)]
   rcases y9 hf1 with ⟨c1, hf1⟩ | ⟨c1, hf1⟩
   ·obtain rfl := zm hf1
    obtain rfl := hl1
    obtain rfl := zm hf0
    exact yE X0 hC hE (Z0 ++ [Hq c1])
   ·obtain rfl := zm hf1
    exact yB X0 hC hJ2 (w64 (x8 + 1)) hl1 (Z0 ++ [Hq c1])
  ·obtain rfl := zm hf1
   obtain rfl := hl1
   exact yB X0 hC hJ1 () hf0 [Hq c0]
def vG : Code := (Tryz.f64.body).getD .skip
def yx : yZ := spF (α := List ze × (za × zh)) (ρ := Bool) 64 (fun x => [z9u x.1, (z3G 65 z5w z7K) x.2]) (fun r => eB r) (fun x => zU x.1 x.2) [] (by
 rintro ⟨a0, a1⟩ ⟨b0, b1⟩ h
 have e0 := wT.inj (f := z9u) _ _ (List.cons.inj h).1
 replace h := (List.cons.inj h).2
 have e1 := wT.inj (f := (z3G 65 z5w z7K)) _ _ (List.cons.inj h).1
 subst e0 e1
 rfl)
theorem vO {ctr : Ctr} (hC : zW Tryz.prog ctr) (h0H : ctr.Has yS) : yx.Ok Tryz.prog := by
 refine ya ?_
 rintro ⟨s_, f_⟩ r0 hf0
 try unfold zU at hf0
 refine yO true [(4, none)] vG 9 Tryz.func64 fun E hE => ?_
 obtain ⟨r_, h0, hf0⟩ := zq hf0
 obtain rfl := zm hf0
 exact yE X0 hC hE [Hc h0H (x := (s_, (f_.1, f_.2))) h0 (loC z9u s_ <| loC (z3G 65 z5w z7K) (f_.1, f_.2) <| loN)]
def kN : Code := (Tryz.f28.body).getD .skip
def uz : yZ := spF (α := za) (ρ := Int) 28 (fun x => [xj x]) (fun r => (eI .i64) r) (fun x => uh x) [] (UQ)
abbrev WZ : List (Nat × T) := []
abbrev WY (x_ : za) (x29 : Int) : List (Nat × T) := [(1, .d (.sptr (xj x_))), (27, .d (eSl 3 false vb x_.Parts)), (28, .d (I ((x_.Parts.length : Nat) : Int))), (29, .d (I x29))]
theorem QI {ctr : Ctr} (hC : zW Tryz.prog ctr) (h0I : ctr.Has kF) (h09 : ctr.Has vo) (h0h : ctr.Has qq) (h0J : ctr.Has yx) : uz.Ok Tryz.prog := by
 refine ya ?_
 rintro x_ r0 hf0
 try unfold uh at hf0
 refine yO true [(2, none)] kN 51 Tryz.func28 fun E hE => ?_
 obtain ⟨r_, h0, hf0⟩ := zq hf0
 let Z0 : List HO := [Hc h0I (x := x_) h0 (loC xj x_ <| loN)]
 rcases y9 hf0 with ⟨c0, hf0⟩ | ⟨c0, hf0⟩
 ·obtain rfl := zm hf0
  exact yE X0 hC hE (Z0 ++ [Hq c0])
 ·rcases y9 hf0 with ⟨c1, hf0⟩ | ⟨c1, hf0⟩
  ·obtain rfl := zm hf0
   exact yE X0 hC hE (Z0 ++ (Hq c0 :: (rpN 4 (Hq c1) (rpN 10 qT []))))
  ·let Z1 : List HO := (Z0 ++ (Hq c0 :: (rpN 4 (Hq c1) [])))
   rcases y9 hf0 with ⟨c2, hf0⟩ | ⟨c2, hf0⟩
   ·obtain rfl := zm hf0
    exact yE X0 hC hE (Z1 ++ (rpN 5 (Hq c2) (rpN 5 qT [])))
   ·let Z2 : List HO := (Z1 ++ [Hq c2, Hq c2, Hq c2, Ha (lnM vb x_.Parts), Hq c2, Hq c2])
    rcases y9 hf0 with ⟨c3, hf0⟩ | ⟨c3, hf0⟩
    ·obtain rfl := zm hf0
     exact yE X0 hC hE (Z2 ++ (rpN 4 (Hq c3) [qT]))
    ·obtain ⟨r_1, h1, hf0⟩ := zq hf0
     let Z3 : List HO := (Z2 ++ [Hq c3, Hq c3, Hq c3, Hc (Ctr.add_has JI v8) (x := (x_.Channels, ())) h1 (loC F2_ x_.Channels <| loC (K3 63) () <| loN), Hq c3])
     rcases y9 hf0 with ⟨c4, hf0⟩ | ⟨c4, hf0⟩
     ·obtain rfl := zm hf0
      exact yE ((z1P zZ (vg hC h09) 24).or X0) hC hE (Z3 ++ [Hq c4])
     ·refine yJ ((z1P zZ (vg hC h09) 24).or X0) hC kN [1,1,1] [] [] (fun z : Unit => kE = some r0) (fun z => WZ) [(1, .own (.box (xj x_)))] (Z3 ++ [Hq c4, Hh (.cut 0)]) ?_ fun J1 hJ1 => ?_
      ·rintro ⟨⟩ hf0
       unfold kE at hf0
       obtain rfl := zm hf0
       exact yE X0 hC hE []
      ·obtain ⟨t2, ht2, hf0⟩ := zq hf0
       refine yL X0 hC kN [1,1,1,2,1,0] [J1] (fun s => uw x_ s) (fun x => WY x_ x) 0 ht2  [Ha (lnM vb x_.Parts), Hh (.n 1 [1])] ?_
       rintro x29 m2 lr1 hf1 hl1 J2 hJ2
       try unfold uw at hf1
       rcases y9 hf1 with ⟨c5, hf1⟩ | ⟨c5, hf1⟩
       ·obtain ⟨Part_e, h2, hf1⟩ := zq hf1
        let Z4 : List HO := [Hq c5, Hi vb h2]
        rcases y9 hf1 with ⟨c6, hf1⟩ | ⟨c6, hf1⟩
        ·obtain rfl := zm hf1
         obtain rfl := hl1
         obtain rfl := zm hf0
         exact yE X0 hC hE (Z4 ++ (rpN 7 (Hq c6) (rpN 6 qT [])))
        ·obtain ⟨r_2, h3, hf1⟩ := zq hf1
         let Z5 : List HO := (Z4 ++ (rpN 5 (Hq c6) [Hc h0h (x := (Part_e.Final, Part_e.States)) h3 (loC F2_ Part_e.Final <| loC (eI .i64) Part_e.States <| loN), Hq c6, Hq c6]))
         rcases y9 hf1 with ⟨c7, hf1⟩ | ⟨c7, hf1⟩
         ·obtain rfl := zm hf1
          obtain rfl := hl1
          obtain rfl := zm hf0
          exact yE X0 hC hE (Z5 ++ (rpN 5 (Hq c7) [qT]))
         ·obtain ⟨r_3, h4, hf1⟩ := zq hf1
          let Z6 : List HO := (Z5 ++ (rpN 4 (Hq c7) [Hc h0J (x := (Part_e.Arcs, (x_, Part_e))) h4 (loC z9u Part_e.Arcs <| loC (z3G 65 z5w z7K) (x_, Part_e) <| loN), Hq c7]))
          rcases y9 hf1 with ⟨c8, hf1⟩ | ⟨c8, hf1⟩
          ·obtain rfl := zm hf1
           obtain rfl := hl1
           obtain rfl := zm hf0
           exact yE X0 hC hE (Z6 ++ [Hq c8])
          ·obtain rfl := zm hf1
           exact yB X0 hC hJ2 (w64 (x29 + 1)) hl1 (Z6 ++ [Hq c8])
       ·obtain rfl := zm hf1
        obtain rfl := hl1
        exact yB X0 hC hJ1 () hf0 [Hq c5]
def Xd : Code := (Tryz.f57.body).getD .skip
def uk : yZ := spF (α := za × zb) (ρ := za × zb) 57 (fun x => [xj x.1, yV x.2]) (fun r => (z3G 82 z5w (eSp yV)) r) (fun x => vK x.1 x.2) [] (UP)
theorem Xp {ctr : Ctr} (hC : zW Tryz.prog ctr) : uk.Ok Tryz.prog := by
 refine ya ?_
 rintro ⟨x_, s_⟩ r0 hf0
 try unfold vK at hf0
 refine yO true [(4, none)] Xd 6 Tryz.func57 fun E hE => ?_
 obtain rfl := zm hf0
 exact yEx X0 hC hE [] (.fn 82 [.sptr (.agg [I x_.Messages, I x_.Labels, eSl 1 false (eI .i64) x_.Channels, eSl 3 false vb x_.Parts]), .sptr (.agg [.agg [I s_.states_.e0, I s_.states_.e1, I s_.states_.e2, I s_.states_.e3], .agg [.agg [I s_.queues_.e0.many_, .agg [I s_.queues_.e0.l_.e0, I s_.queues_.e0.l_.e1, I s_.queues_.e0.l_.e2, I s_.queues_.e0.l_.e3]], .agg [I s_.queues_.e1.many_, .agg [I s_.queues_.e1.l_.e0, I s_.queues_.e1.l_.e1, I s_.queues_.e1.l_.e2, I s_.queues_.e1.l_.e3]], .agg [I s_.queues_.e2.many_, .agg [I s_.queues_.e2.l_.e0, I s_.queues_.e2.l_.e1, I s_.queues_.e2.l_.e2, I s_.queues_.e2.l_.e3]], .agg [I s_.queues_.e3.many_, .agg [I s_.queues_.e3.l_.e0, I s_.queues_.e3.l_.e1, I s_.queues_.e3.l_.e2, I s_.queues_.e3.l_.e3]]]])]) (show LeV (.fn 82 [.sptr (.agg [I x_.Messages, I x_.Labels, eSl 1 false (eI .i64) x_.Channels, eSl 3 false vb x_.Parts]), .sptr (.agg [.agg [I s_.states_.e0, I s_.states_.e1, I s_.states_.e2, I s_.states_.e3], .agg [.agg [I s_.queues_.e0.many_, .agg [I s_.queues_.e0.l_.e0, I s_.queues_.e0.l_.e1, I s_.queues_.e0.l_.e2, I s_.queues_.e0.l_.e3]], .agg [I s_.queues_.e1.many_, .agg [I s_.queues_.e1.l_.e0, I s_.queues_.e1.l_.e1, I s_.queues_.e1.l_.e2, I s_.queues_.e1.l_.e3]], .agg [I s_.queues_.e2.many_, .agg [I s_.queues_.e2.l_.e0, I s_.queues_.e2.l_.e1, I s_.queues_.e2.l_.e2, I s_.queues_.e2.l_.e3]], .agg [I s_.queues_.e3.many_, .agg [I s_.queues_.e3.l_.e0, I s_.queues_.e3.l_.e1, I s_.queues_.e3.l_.e2, I s_.queues_.e3.l_.e3]]]])]) (.fn 82 [.sptr (.agg [I (((x_, s_).1).Messages), I (((x_, s_).1).Labels), eSl 1 false (eI .i64) (((x_, s_).1).Channels), eSl 3 false vb (((x_, s_).1).Parts)]), .sptr (.agg [.agg [I ((((x_, s_).2).states_).e0), I ((((x_, s_).2).states_).e1), I ((((x_, s_).2).states_).e2), I ((((x_, s_).2).states_).e3)], .agg [.agg [I (((((x_, s_).2).queues_).e0).many_), .agg [I ((((((x_, s_).2).queues_).e0).l_).e0), I ((((((x_, s_).2).queues_).e0).l_).e1), I ((((((x_, s_).2).queues_).e0).l_).e2), I ((((((x_, s_).2).queues_).e0).l_).e3)]], .agg [I (((((x_, s_).2).queues_).e1).many_), .agg [I ((((((x_, s_).2).queues_).e1).l_).e0), I ((((((x_, s_).2).queues_).e1).l_).e1), I ((((((x_, s_).2).queues_).e1).l_).e2), I ((((((x_, s_).2).queues_).e1).l_).e3)]], .agg [I (((((x_, s_).2).queues_).e2).many_), .agg [I ((((((x_, s_).2).queues_).e2).l_).e0), I ((((((x_, s_).2).queues_).e2).l_).e1), I ((((((x_, s_).2).queues_).e2).l_).e2), I ((((((x_, s_).2).queues_).e2).l_).e3)]], .agg [I (((((x_, s_).2).queues_).e3).many_), .agg [I ((((((x_, s_).2).queues_).e3).l_).e0), I ((((((x_, s_).2).queues_).e3).l_).e1), I ((((((x_, s_).2).queues_).e3).l_).e2), I ((((((x_, s_).2).queues_).e3).l_).e3)]]]])]) from inferInstance)
def Xv : Code := (Tryz.f83.body).getD .skip
def v7 : yZ := spF (α := za × zb × Int) (ρ := za × Int × zb) 83 (fun x => [xj x.1, yV x.2.1, (eI .i64) x.2.2]) (fun r => (zga 103 z5w (eSp (eI .i64)) (eSp yV)) r) (fun x => wc x.1 x.2.1 x.2.2) [] (zcn)
theorem XJ {ctr : Ctr} (hC : zW Tryz.prog ctr) : v7.Ok Tryz.prog := by
 refine ya ?_
 rintro ⟨x_, s_, part⟩ r0 hf0
 try unfold wc at hf0
 refine yO true [(6, none)] Xv 8 Tryz.func83 fun E hE => ?_
 obtain rfl := zm hf0
 exact yEx X0 hC hE [] (.fn 103 [.sptr (.agg [I x_.Messages, I x_.Labels, eSl 1 false (eI .i64) x_.Channels, eSl 3 false vb x_.Parts]), .sptr (I part), .sptr (.agg [.agg [I s_.states_.e0, I s_.states_.e1, I s_.states_.e2, I s_.states_.e3], .agg [.agg [I s_.queues_.e0.many_, .agg [I s_.queues_.e0.l_.e0, I s_.queues_.e0.l_.e1, I s_.queues_.e0.l_.e2, I s_.queues_.e0.l_.e3]], .agg [I s_.queues_.e1.many_, .agg [I s_.queues_.e1.l_.e0, I s_.queues_.e1.l_.e1, I s_.queues_.e1.l_.e2, I s_.queues_.e1.l_.e3]], .agg [I s_.queues_.e2.many_, .agg [I s_.queues_.e2.l_.e0, I s_.queues_.e2.l_.e1, I s_.queues_.e2.l_.e2, I s_.queues_.e2.l_.e3]], .agg [I s_.queues_.e3.many_, .agg [I s_.queues_.e3.l_.e0, I s_.queues_.e3.l_.e1, I s_.queues_.e3.l_.e2, I s_.queues_.e3.l_.e3]]]])]) (show LeV (.fn 103 [.sptr (.agg [I x_.Messages, I x_.Labels, eSl 1 false (eI .i64) x_.Channels, eSl 3 false vb x_.Parts]), .sptr (I part), .sptr (.agg [.agg [I s_.states_.e0, I s_.states_.e1, I s_.states_.e2, I s_.states_.e3], .agg [.agg [I s_.queues_.e0.many_, .agg [I s_.queues_.e0.l_.e0, I s_.queues_.e0.l_.e1, I s_.queues_.e0.l_.e2, I s_.queues_.e0.l_.e3]], .agg [I s_.queues_.e1.many_, .agg [I s_.queues_.e1.l_.e0, I s_.queues_.e1.l_.e1, I s_.queues_.e1.l_.e2, I s_.queues_.e1.l_.e3]], .agg [I s_.queues_.e2.many_, .agg [I s_.queues_.e2.l_.e0, I s_.queues_.e2.l_.e1, I s_.queues_.e2.l_.e2, I s_.queues_.e2.l_.e3]], .agg [I s_.queues_.e3.many_, .agg [I s_.queues_.e3.l_.e0, I s_.queues_.e3.l_.e1, I s_.queues_.e3.l_.e2, I s_.queues_.e3.l_.e3]]]])]) (.fn 103 [.sptr (.agg [I (((x_, part, s_).1).Messages), I (((x_, part, s_).1).Labels), eSl 1 false (eI .i64) (((x_, part, s_).1).Channels), eSl 3 false vb (((x_, part, s_).1).Parts)]), .sptr (I ((x_, part, s_).2.1)), .sptr (.agg [.agg [I ((((x_, part, s_).2.2).states_).e0), I ((((x_, part, s_).2.2).states_).e1), I ((((x_, part, s_).2.2).states_).e2), I ((((x_, part, s_).2.2).states_).e3)], .agg [.agg [I (((((x_, part, s_).2.2).queues_).e0).many_), .agg [I ((((((x_, part, s_).2.2).queues_).e0).l_).e0), I ((((((x_, part, s_).2.2).queues_).e0).l_).e1), I ((((((x_, part, s_).2.2).queues_).e0).l_).e2), I ((((((x_, part, s_).2.2).queues_).e0).l_).e3)]], .agg [I (((((x_, part, s_).2.2).queues_).e1).many_), .agg [I ((((((x_, part, s_).2.2).queues_).e1).l_).e0), I ((((((x_, part, s_).2.2).queues_).e1).l_).e1), I ((((((x_, part, s_).2.2).queues_).e1).l_).e2), I ((((((x_, part, s_).2.2).queues_).e1).l_).e3)]], .agg [I (((((x_, part, s_).2.2).queues_).e2).many_), .agg [I ((((((x_, part, s_).2.2).queues_).e2).l_).e0), I ((((((x_, part, s_).2.2).queues_).e2).l_).e1), I ((((((x_, part, s_).2.2).queues_).e2).l_).e2), I ((((((x_, part, s_).2.2).queues_).e2).l_).e3)]], .agg [I (((((x_, part, s_).2.2).queues_).e3).many_), .agg [I ((((((x_, part, s_).2.2).queues_).e3).l_).e0), I ((((((x_, part, s_).2.2).queues_).e3).l_).e1), I ((((((x_, part, s_).2.2).queues_).e3).l_).e2), I ((((((x_, part, s_).2.2).queues_).e3).l_).e3)]]]])]) from inferInstance)
def vZ : Code := (Tryz.f103.body).getD .skip
abbrev ZG {σ : Type} (x1 : Int) (x2 : zb) (YY : σ → z0s) (Part_e : zh) (x14 : Int) (sg2 : σ) : List (Nat × T) := [(0, .own (.opq (YY sg2).q)), (2, .d (.sptr (I x1))), (3, .d (.sptr (yV x2))), (12, .d (eSl 5 false vN Part_e.Arcs)), (13, .d (I ((Part_e.Arcs.length : Nat) : Int))), (14, .d (I x14))]
abbrev ZF {σ : Type} (x1 : Int) (x2 : zb) (YY : σ → z0s) (Part_e : zh) (sg1 : σ) (x14 : Int) : List (Nat × T) := [(0, .own (.opq (YY sg1).q)), (2, .d (.sptr (I x1))), (3, .d (.sptr (yV x2))), (12, .d (eSl 5 false vN Part_e.Arcs)), (13, .d (I ((Part_e.Arcs.length : Nat) : Int))), (14, .d (I x14))]
theorem jq {ctr : Ctr} (hC : zW Tryz.prog ctr) (x0 : za) (x1 : Int) (x2 : zb) : z5n Tryz.prog (.fn 103 [.sptr (.agg [I x0.Messages, I x0.Labels, eSl 1 false (eI .i64) x0.Channels, eSl 3 false vb x0.Parts]), .sptr (I x1), .sptr (.agg [.agg [I x2.states_.e0, I x2.states_.e1, I x2.states_.e2, I x2.states_.e3], .agg [.agg [I x2.queues_.e0.many_, .agg [I x2.queues_.e0.l_.e0, I x2.queues_.e0.l_.e1, I x2.queues_.e0.l_.e2, I x2.queues_.e0.l_.e3]], .agg [I x2.queues_.e1.many_, .agg [I x2.queues_.e1.l_.e0, I x2.queues_.e1.l_.e1, I x2.queues_.e1.l_.e2, I x2.queues_.e1.l_.e3]], .agg [I x2.queues_.e2.many_, .agg [I x2.queues_.e2.l_.e0, I x2.queues_.e2.l_.e1, I x2.queues_.e2.l_.e2, I x2.queues_.e2.l_.e3]], .agg [I x2.queues_.e3.many_, .agg [I x2.queues_.e3.l_.e0, I x2.queues_.e3.l_.e1, I x2.queues_.e3.l_.e2, I x2.queues_.e3.l_.e3]]]])]) (fun (x : Int × ze) (_ : Bool) (_ : Value) => [(eI .i64) x.1, vN x.2]) (@yn x0 x1 x2) := by
 refine z4z (tt := xS) (nt := 34) (body := vZ) zZ Tryz.func103 rfl (by kernel_rfl) rfl rfl (by show (4 : Nat) ≤ 34; decide) ?_
 intro σ yv YY yy hy sg r0 hf0 E hE
 unfold yn at hf0
 obtain ⟨Part_e, h0, hf0⟩ := zq hf0
 obtain ⟨t1, ht1, hf0⟩ := zq hf0
 refine yL X0 hC vZ [1,0] [] (fun s => xG x1 x2 yy Part_e s.1 s.2) (fun x => ZF x1 x2 YY Part_e x.1 x.2) (sg, 0) ht1  [Hi vb h0, Ha (lnM vN Part_e.Arcs)] ?_
 rintro ⟨sg1, x14⟩ m1 lr1 hf1 hl1 J1 hJ1
 try unfold xG at hf1
 rcases y9 hf1 with ⟨c0, hf1⟩ | ⟨c0, hf1⟩
 ·refine yJ X0 hC vZ [1,0,0,1,1] [J1] [0,2,3,12,13,14] (fun z : σ => wC x14 z = some lr1) (fun z => ZG x1 x2 YY Part_e x14 z) [(0, .own (.opq (YY sg1).q)), (2, .d (.sptr (I x1))), (3, .d (.sptr (yV x2))), (12, .d (eSl 5 false vN Part_e.Arcs)), (13, .d (I ((Part_e.Arcs.length : Nat) : Int))), (14, .d (I x14))] [Hq c0, Hh (.cut 0)] ?_ fun J2 hJ2 => ?_
  ·rintro sg2 hf1
   unfold wC at hf1
   obtain rfl := zm hf1
   exact yB X0 hC hJ1 (sg2, w64 (x14 + 1)) hl1 []
  ·obtain ⟨Arc_e, h1, hf1⟩ := zq hf1
   obtain ⟨cell, h2, hf1⟩ := zq hf1
   let Z0 : List HO := [Hi vN h1, Hs (iM (eI .i64) h2), Hn (arJ (by kernel_rfl) (i0 h2) : YE xS 110 ((y8.toL x2.states_).map (eI .i64)) x1 = true)]
   rcases y9 hf1 with ⟨c1, hf1⟩ | ⟨c1, hf1⟩
   ·obtain ⟨yr, h3, hf1⟩ := zq hf1
    let Z1 : List HO := (Z0 ++ (rpN 4 (Hq c1) [Hn (z1U (yv := yv) (Y := YY) (enc := (fun (x : Int × ze) (_ : Bool) (_ : Value) => [(eI .i64) x.1, vN x.2])) (s := sg1) (x := (x14, Arc_e)) (s' := yr.1) (b := yr.2) (v := .nilFunc) [(eI .i64) x14, vN Arc_e] (show KC [(eI .i64) x14, vN Arc_e] [(eI .i64) x14, vN Arc_e] from inferInstance)), Hq c1, Hq c1]))
    rcases y9 hf1 with ⟨c2, hf1⟩ | ⟨c2, hf1⟩
    ·obtain rfl := zm hf1
     obtain rfl := hl1
     obtain rfl := zm hf0
     exact yF ((Kb (P := Tryz.prog) xS hy 30 (s := sg1) (x := (x14, Arc_e)) (s' := yr.1) (b := yr.2) .nilFunc h3).or X0) hC .ret [(0, .own (.opq (YY yr.1).q))] (Z1 ++ [Hq c2]) fun st0 h0 => hE _ st0 (.inr rfl) h0
    ·exact yB ((Kb (P := Tryz.prog) xS hy 30 (s := sg1) (x := (x14, Arc_e)) (s' := yr.1) (b := yr.2) .nilFunc h3).or X0) hC hJ2 yr.1 hf1 (Z1 ++ [Hq c2])
   ·exact yB X0 hC hJ2 sg1 hf1 (Z0 ++ (rpN 6 (Hq c1) [qF]))
 ·obtain rfl := zm hf1
  obtain rfl := hl1
  obtain rfl := zm hf0
  exact yF X0 hC .normal [(0, .own (.opq (YY sg1).q))] [Hq c0] fun st0 h0 => hE _ st0 (.inl rfl) h0
def Wn : Code := (Tryz.f86.body).getD .skip
def qK : yZ := spF (α := zi × Int) (ρ := zi) 86 (fun x => [F9_ x.1, (eI .i64) x.2]) (fun r => F9_ r) (fun x => qp x.1 x.2) [] (UP)
theorem WB {ctr : Ctr} (hC : zW Tryz.prog ctr) : qK.Ok Tryz.prog := by
 refine ya ?_
 rintro ⟨q_, m_⟩ r0 hf0
 try unfold qp at hf0
 refine yO false [(4, some 112)] Wn 15 Tryz.func86 fun E hE => ?_
 obtain ⟨cell, h0, hf0⟩ := zq hf0
 obtain ⟨arr, h1, hf0⟩ := zq hf0
 replace h1 := zm h1
 obtain rfl := zm hf0
 exact yE X0 hC hE [Hn (⟨arJ (by kernel_rfl) (i0 h0), (iL (eI .i64) h0).2⟩ : YE xS 110 ((y8.toL q_.l_).map (eI .i64)) q_.many_ = true ∧ q_.many_.toNat < ((y8.toL q_.l_).map (eI .i64)).length), Hh (.op 7), Hh (.f), Hx (.a (.agg [I q_.l_.e0, I q_.l_.e1, I q_.l_.e2, I q_.l_.e3])) (rfl : some (.agg [I q_.l_.e0, I q_.l_.e1, I q_.l_.e2, I q_.l_.e3] : A) = some (.agg [I q_.l_.e0, I q_.l_.e1, I q_.l_.e2, I q_.l_.e3])), Hh (.f), Hs (iM (eI .i64) h0), Hh (.f), Hx (.a (.agg [I q_.l_.e0, I q_.l_.e1, I q_.l_.e2, I q_.l_.e3])) (rfl : some (.agg [I q_.l_.e0, I q_.l_.e1, I q_.l_.e2, I q_.l_.e3] : A) = some (.agg [I q_.l_.e0, I q_.l_.e1, I q_.l_.e2, I q_.l_.e3])), Hh (.f), Hs (iM (eI .i64) h0), Hx (.l ((y8.toL arr).map (eI .i64))) ((y8.setL (eI .i64) q_.l_ q_.many_ m_).trans (congrArg (fun q => (y8.toL q).map (eI .i64)) h1)), Hx (.l [I q_.many_, .agg [I arr.e0, I arr.e1, I arr.e2, I arr.e3]]) (rfl : ([I q_.many_, .agg [I arr.e0, I arr.e1, I arr.e2, I arr.e3]] : List A) = [I q_.many_, .agg [I arr.e0, I arr.e1, I arr.e2, I arr.e3]])]
def ky : Code := (Tryz.f104.body).getD .skip
def qh : yZ := spF (α := zi) (ρ := zi) 104 (fun x => [F9_ x]) (fun r => F9_ r) (fun x => uS x) [] (UQ)
theorem Wj {ctr : Ctr} (hC : zW Tryz.prog ctr) : qh.Ok Tryz.prog := by
 refine ya ?_
 rintro q_ r0 hf0
 try unfold uS at hf0
 refine yO false [(2, some 112)] ky 15 Tryz.func104 fun E hE => ?_
 refine yA X0 hC ky [1] [] [(1, .own (.box (F9_ q_))), (2, .own (.box (.agg [I 0, .agg [I 0, I 0, I 0, I 0]])))] [Hh (.cut 1)] ?_
 refine z5c (y := .box (.agg [I q_.many_, .agg [I q_.l_.e0, I q_.l_.e1, I q_.l_.e2, I q_.l_.e3]])) (by kernel_rfl) 1 (by kernel_rfl) (by kernel_rfl) fun pv1 hv1 => ?_
 obtain ⟨arr, h0, hf0⟩ := zq hf0
 replace h0 := zm h0
 obtain rfl := zm hf0
 exact yE ((xCp zZ 7 1 1 0 pv1 (some 1)).or ((xAv zZ 6 1 1 1 pv1).or ((xAv zZ 4 1 1 0 pv1).or X0))) hC hE [Hn (⟨rfl, rfl⟩ : T.ptr 1 [.deref, .fld 1] 0 0 = T.ptr 1 [.deref, .fld 1] 0 0 ∧ some pv1 = some pv1), Hn (⟨rfl, rfl⟩ : T.ptr 1 [.deref, .fld 1] 0 0 = T.ptr 1 [.deref, .fld 1] 0 0 ∧ some pv1 = some pv1), Hn (⟨rfl, by decide⟩ : T.d (.atom (z1E pv1 1 1 4)) = T.d (.atom (z1E pv1 1 1 4)) ∧ 1 ≤ 4), Hn (⟨rfl, rfl⟩ : T.d (.atom (z1E pv1 1 0 4)) = T.d (.atom (z1E pv1 1 0 4)) ∧ some pv1 = some pv1), Hn (dM (eI .i64) ((y8.toL q_.l_).drop 1)), Hx (.l ((y8.toL arr).map (eI .i64))) ((z9e (eI .i64) (y8.toL q_.l_) 0 ((y8.toL q_.l_).drop 1)).trans (congrArg (fun q => q.map (eI .i64)) ((y8.toL_ofL (cpA (y8.toL q_.l_) 0 ((y8.toL q_.l_).drop 1)) q_.l_ (z9f (y8.toL q_.l_) 0 ((y8.toL q_.l_).drop 1) (by show (0 : Nat) ≤ 4; decide))).symm.trans (congrArg y8.toL h0)))), Hn (⟨rfl, by decide⟩ : true = true ∧ 3 < 4)]
def uQ : Code := (Tryz.f84.body).getD .skip
def v6 : yZ := spF (α := za × zb × Int × ze) (ρ := zb × Bool) 84 (fun x => [xj x.1, yV x.2.1, (eI .i64) x.2.2.1, vN x.2.2.2]) (fun r => .tup [yV r.1, (eEr 0 201) r.2]) (fun x => xD x.1 x.2.1 x.2.2.1 x.2.2.2) [] (zf5)
abbrev Yq (arr : y8 Int) (s_queues : y8 zi) : List (Nat × T) := [(5, .own (.box (.agg [F0_ arr, z9v s_queues]))), (8, .own (.box (.agg [.agg [I 0, I 0, I 0, I 0], .agg [.agg [I 0, .agg [I 0, I 0, I 0, I 0]], .agg [I 0, .agg [I 0, I 0, I 0, I 0]], .agg [I 0, .agg [I 0, I 0, I 0, I 0]], .agg [I 0, .agg [I 0, I 0, I 0, I 0]]]])))]
abbrev Yp (s_ : zb) (a_ : ze) (arr : y8 Int) (cell1 : zi) (x33 : Bool) : List (Nat × T) := [(5, .own (.box (.agg [F0_ arr, z9v s_.queues_]))), (7, .own (.box (vN a_))), (8, .own (.box (.agg [.agg [I 0, I 0, I 0, I 0], .agg [.agg [I 0, .agg [I 0, I 0, I 0, I 0]], .agg [I 0, .agg [I 0, I 0, I 0, I 0]], .agg [I 0, .agg [I 0, I 0, I 0, I 0]], .agg [I 0, .agg [I 0, I 0, I 0, I 0]]]]))), (10, .own (.box (F9_ cell1))), (33, .d (B x33))]
theorem XI {ctr : Ctr} (hC : zW Tryz.prog ctr) (h0K : ctr.Has qK) (h0L : ctr.Has qh) : v6.Ok Tryz.prog := by
 refine ya ?_
 rintro ⟨x_, s_, part, a_⟩ r0 hf0
 try unfold xD at hf0
 refine yO false [(8, some 115), (9, none)] uQ 86 Tryz.func84 fun E hE => ?_
 obtain ⟨cell, h0, hf0⟩ := zq hf0
 obtain ⟨arr, h1, hf0⟩ := zq hf0
 replace h1 := zm h1
 obtain ⟨cell1, h2, hf0⟩ := zq hf0
 refine yJ ((xNe Tryz.prog 9 0 201).or X0) hC uQ [1,1,1] [] [5,8] (fun z : y8 zi => wZ arr z = some r0) (fun z => Yq arr z) [(4, .own (.box (xj x_))), (5, .own (.box (.agg [F0_ arr, z9v s_.queues_]))), (7, .own (.box (vN a_))), (8, .own (.box (.agg [.agg [I 0, I 0, I 0, I 0], .agg [.agg [I 0, .agg [I 0, I 0, I 0, I 0]], .agg [I 0, .agg [I 0, I 0, I 0, I 0]], .agg [I 0, .agg [I 0, I 0, I 0, I 0]], .agg [I 0, .agg [I 0, I 0, I 0, I 0]]]]))), (10, .own (.box (F9_ cell1)))] [Hn (⟨arJ (by kernel_rfl) (i0 h0), (iL (eI .i64) h0).2⟩ : YE xS 110 ((y8.toL s_.states_).map (eI .i64)) part = true ∧ part.toNat < ((y8.toL s_.states_).map (eI .i64)).length), Hh (.op 10), Hh (.f), Hx (.a (.agg [I s_.states_.e0, I s_.states_.e1, I s_.states_.e2, I s_.states_.e3])) (rfl : some (.agg [I s_.states_.e0, I s_.states_.e1, I s_.states_.e2, I s_.states_.e3] : A) = some (.agg [I s_.states_.e0, I s_.states_.e1, I s_.states_.e2, I s_.states_.e3])), Hh (.f), Hs (iM (eI .i64) h0), Hh (.f), Hx (.a (.agg [I s_.states_.e0, I s_.states_.e1, I s_.states_.e2, I s_.states_.e3])) (rfl : some (.agg [I s_.states_.e0, I s_.states_.e1, I s_.states_.e2, I s_.states_.e3] : A) = some (.agg [I s_.states_.e0, I s_.states_.e1, I s_.states_.e2, I s_.states_.e3])), Hh (.f), Hs (iM (eI .i64) h0), Hx (.l ((y8.toL arr).map (eI .i64))) ((y8.setL (eI .i64) s_.states_ part a_.To).trans (congrArg (fun q => (y8.toL q).map (eI .i64)) h1)), Hx (.l [.agg [I arr.e0, I arr.e1, I arr.e2, I arr.e3], .agg [.agg [I s_.queues_.e0.many_, .agg [I s_.queues_.e0.l_.e0, I s_.queues_.e0.l_.e1, I s_.queues_.e0.l_.e2, I s_.queues_.e0.l_.e3]], .agg [I s_.queues_.e1.many_, .agg [I s_.queues_.e1.l_.e0, I s_.queues_.e1.l_.e1, I s_.queues_.e1.l_.e2, I s_.queues_.e1.l_.e3]], .agg [I s_.queues_.e2.many_, .agg [I s_.queues_.e2.l_.e0, I s_.queues_.e2.l_.e1, I s_.queues_.e2.l_.e2, I s_.queues_.e2.l_.e3]], .agg [I s_.queues_.e3.many_, .agg [I s_.queues_.e3.l_.e0, I s_.queues_.e3.l_.e1, I s_.queues_.e3.l_.e2, I s_.queues_.e3.l_.e3]]]]) (rfl : ([.agg [I arr.e0, I arr.e1, I arr.e2, I arr.e3], .agg [.agg [I s_.queues_.e0.many_, .agg [I s_.queues_.e0.l_.e0, I s_.queues_.e0.l_.e1, I s_.queues_.e0.l_.e2, I s_.queues_.e0.l_.e3]], .agg [I s_.queues_.e1.many_, .agg [I s_.queues_.e1.l_.e0, I s_.queues_.e1.l_.e1, I s_.queues_.e1.l_.e2, I s_.queues_.e1.l_.e3]], .agg [I s_.queues_.e2.many_, .agg [I s_.queues_.e2.l_.e0, I s_.queues_.e2.l_.e1, I s_.queues_.e2.l_.e2, I s_.queues_.e2.l_.e3]], .agg [I s_.queues_.e3.many_, .agg [I s_.queues_.e3.l_.e0, I s_.queues_.e3.l_.e1, I s_.queues_.e3.l_.e2, I s_.queues_.e3.l_.e3]]]] : List A) = [.agg [I arr.e0, I arr.e1, I arr.e2, I arr.e3], .agg [.agg [I s_.queues_.e0.many_, .agg [I s_.queues_.e0.l_.e0, I s_.queues_.e0.l_.e1, I s_.queues_.e0.l_.e2, I s_.queues_.e0.l_.e3]], .agg [I s_.queues_.e1.many_, .agg [I s_.queues_.e1.l_.e0, I s_.queues_.e1.l_.e1, I s_.queues_.e1.l_.e2, I s_.queues_.e1.l_.e3]], .agg [I s_.queues_.e2.many_, .agg [I s_.queues_.e2.l_.e0, I s_.queues_.e2.l_.e1, I s_.queues_.e2.l_.e2, I s_.queues_.e2.l_.e3]], .agg [I s_.queues_.e3.many_, .agg [I s_.queues_.e3.l_.e0, I s_.queues_.e3.l_.e1, I s_.queues_.e3.l_.e2, I s_.queues_.e3.l_.e3]]]]), Hn (⟨arJ (by kernel_rfl) (i0 h2), (iL F9_ h2).2⟩ : YE xS 113 ((y8.toL s_.queues_).map F9_) (mn a_.Channel 3) = true ∧ (mn a_.Channel 3).toNat < ((y8.toL s_.queues_).map F9_).length), Hh (.op 5), Hh (.f), Hx (.a (.agg [.agg [I s_.queues_.e0.many_, .agg [I s_.queues_.e0.l_.e0, I s_.queues_.e0.l_.e1, I s_.queues_.e0.l_.e2, I s_.queues_.e0.l_.e3]], .agg [I s_.queues_.e1.many_, .agg [I s_.queues_.e1.l_.e0, I s_.queues_.e1.l_.e1, I s_.queues_.e1.l_.e2, I s_.queues_.e1.l_.e3]], .agg [I s_.queues_.e2.many_, .agg [I s_.queues_.e2.l_.e0, I s_.queues_.e2.l_.e1, I s_.queues_.e2.l_.e2, I s_.queues_.e2.l_.e3]], .agg [I s_.queues_.e3.many_, .agg [I s_.queues_.e3.l_.e0, I s_.queues_.e3.l_.e1, I s_.queues_.e3.l_.e2, I s_.queues_.e3.l_.e3]]])) (rfl : some (.agg [.agg [I s_.queues_.e0.many_, .agg [I s_.queues_.e0.l_.e0, I s_.queues_.e0.l_.e1, I s_.queues_.e0.l_.e2, I s_.queues_.e0.l_.e3]], .agg [I s_.queues_.e1.many_, .agg [I s_.queues_.e1.l_.e0, I s_.queues_.e1.l_.e1, I s_.queues_.e1.l_.e2, I s_.queues_.e1.l_.e3]], .agg [I s_.queues_.e2.many_, .agg [I s_.queues_.e2.l_.e0, I s_.queues_.e2.l_.e1, I s_.queues_.e2.l_.e2, I s_.queues_.e2.l_.e3]], .agg [I s_.queues_.e3.many_, .agg [I s_.queues_.e3.l_.e0, I s_.queues_.e3.l_.e1, I s_.queues_.e3.l_.e2, I s_.queues_.e3.l_.e3]]] : A) = some (.agg [.agg [I s_.queues_.e0.many_, .agg [I s_.queues_.e0.l_.e0, I s_.queues_.e0.l_.e1, I s_.queues_.e0.l_.e2, I s_.queues_.e0.l_.e3]], .agg [I s_.queues_.e1.many_, .agg [I s_.queues_.e1.l_.e0, I s_.queues_.e1.l_.e1, I s_.queues_.e1.l_.e2, I s_.queues_.e1.l_.e3]], .agg [I s_.queues_.e2.many_, .agg [I s_.queues_.e2.l_.e0, I s_.queues_.e2.l_.e1, I s_.queues_.e2.l_.e2, I s_.queues_.e2.l_.e3]], .agg [I s_.queues_.e3.many_, .agg [I s_.queues_.e3.l_.e0, I s_.queues_.e3.l_.e1, I s_.queues_.e3.l_.e2, I s_.queues_.e3.l_.e3]]])), Hh (.f), Hs (iM F9_ h2), Hh (.cut 0)] ?_ fun J1 hJ1 => ?_
 ·rintro s_queues hf0
  unfold wZ at hf0
  obtain rfl := zm hf0
  exact yE ((xNe Tryz.prog 9 0 201).or X0) hC hE []
 ·rcases y9 hf0 with ⟨c0, hf0⟩ | ⟨c0, hf0⟩
  ·obtain rfl := zm hf0
   exact yE ((xNe Tryz.prog 9 0 201).or X0) hC hE [Hq c0]
  ·refine yJ X0 hC uQ [1,1,1,2,0,1,1] [J1] [5,7,8,10,33] (fun z : Bool => zR s_ a_ arr cell1 z = some r0) (fun z => Yp s_ a_ arr cell1 z) [(4, .own (.box (xj x_))), (5, .own (.box (.agg [F0_ arr, z9v s_.queues_]))), (7, .own (.box (vN a_))), (8, .own (.box (.agg [.agg [I 0, I 0, I 0, I 0], .agg [.agg [I 0, .agg [I 0, I 0, I 0, I 0]], .agg [I 0, .agg [I 0, I 0, I 0, I 0]], .agg [I 0, .agg [I 0, I 0, I 0, I 0]], .agg [I 0, .agg [I 0, I 0, I 0, I 0]]]]))), (10, .own (.box (F9_ cell1)))] [Hq c0, Hh (.cut 0)] ?_ fun J2 hJ2 => ?_
   ·rintro x33 hf0
    unfold zR at hf0
    rcases y9 hf0 with ⟨c1, hf0⟩ | ⟨c1, hf0⟩
    ·obtain rfl := zm hf0
     exact yE X0 hC hE [Hq c1]
    ·rcases y9 hf0 with ⟨c2, hf0⟩ | ⟨c2, hf0⟩
     ·obtain ⟨r_, h3, hf0⟩ := zq hf0
      obtain ⟨cell2, h4, hf0⟩ := zq hf0
      obtain ⟨arr1, h5, hf0⟩ := zq hf0
      replace h5 := zm h5
      exact yB X0 hC hJ1 arr1 hf0 [Hq c1, Hq c2, Hc h0K (x := (cell1, a_.Message)) h3 (loC F9_ cell1 <| loC (eI .i64) a_.Message <| loN), Hn (⟨arJ (by kernel_rfl) (i0 h4), (iL F9_ h4).2⟩ : YE xS 113 ((y8.toL s_.queues_).map F9_) a_.Channel = true ∧ a_.Channel.toNat < ((y8.toL s_.queues_).map F9_).length), Hh (.op 2), Hh (.f), Hx (.a (.agg [.agg [I s_.queues_.e0.many_, .agg [I s_.queues_.e0.l_.e0, I s_.queues_.e0.l_.e1, I s_.queues_.e0.l_.e2, I s_.queues_.e0.l_.e3]], .agg [I s_.queues_.e1.many_, .agg [I s_.queues_.e1.l_.e0, I s_.queues_.e1.l_.e1, I s_.queues_.e1.l_.e2, I s_.queues_.e1.l_.e3]], .agg [I s_.queues_.e2.many_, .agg [I s_.queues_.e2.l_.e0, I s_.queues_.e2.l_.e1, I s_.queues_.e2.l_.e2, I s_.queues_.e2.l_.e3]], .agg [I s_.queues_.e3.many_, .agg [I s_.queues_.e3.l_.e0, I s_.queues_.e3.l_.e1, I s_.queues_.e3.l_.e2, I s_.queues_.e3.l_.e3]]])) (rfl : some (.agg [.agg [I s_.queues_.e0.many_, .agg [I s_.queues_.e0.l_.e0, I s_.queues_.e0.l_.e1, I s_.queues_.e0.l_.e2, I s_.queues_.e0.l_.e3]], .agg [I s_.queues_.e1.many_, .agg [I s_.queues_.e1.l_.e0, I s_.queues_.e1.l_.e1, I s_.queues_.e1.l_.e2, I s_.queues_.e1.l_.e3]], .agg [I s_.queues_.e2.many_, .agg [I s_.queues_.e2.l_.e0, I s_.queues_.e2.l_.e1, I s_.queues_.e2.l_.e2, I s_.queues_.e2.l_.e3]], .agg [I s_.queues_.e3.many_, .agg [I s_.queues_.e3.l_.e0, I s_.queues_.e3.l_.e1, I s_.queues_.e3.l_.e2, I s_.queues_.e3.l_.e3]]] : A) = some (.agg [.agg [I s_.queues_.e0.many_, .agg [I s_.queues_.e0.l_.e0, I s_.queues_.e0.l_.e1, I s_.queues_.e0.l_.e2, I s_.queues_.e0.l_.e3]], .agg [I s_.queues_.e1.many_, .agg [I s_.queues_.e1.l_.e0, I s_.queues_.e1.l_.e1, I s_.queues_.e1.l_.e2, I s_.queues_.e1.l_.e3]], .agg [I s_.queues_.e2.many_, .agg [I s_.queues_.e2.l_.e0, I s_.queues_.e2.l_.e1, I s_.queues_.e2.l_.e2, I s_.queues_.e2.l_.e3]], .agg [I s_.queues_.e3.many_, .agg [I s_.queues_.e3.l_.e0, I s_.queues_.e3.l_.e1, I s_.queues_.e3.l_.e2, I s_.queues_.e3.l_.e3]]])), Hh (.f), Hs (iM F9_ h4), Hh (.f), Hx (.a (.agg [.agg [I s_.queues_.e0.many_, .agg [I s_.queues_.e0.l_.e0, I s_.queues_.e0.l_.e1, I s_.queues_.e0.l_.e2, I s_.queues_.e0.l_.e3]], .agg [I s_.queues_.e1.many_, .agg [I s_.queues_.e1.l_.e0, I s_.queues_.e1.l_.e1, I s_.queues_.e1.l_.e2, I s_.queues_.e1.l_.e3]], .agg [I s_.queues_.e2.many_, .agg [I s_.queues_.e2.l_.e0, I s_.queues_.e2.l_.e1, I s_.queues_.e2.l_.e2, I s_.queues_.e2.l_.e3]], .agg [I s_.queues_.e3.many_, .agg [I s_.queues_.e3.l_.e0, I s_.queues_.e3.l_.e1, I s_.queues_.e3.l_.e2, I s_.queues_.e3.l_.e3]]])) (rfl : some (.agg [.agg [I s_.queues_.e0.many_, .agg [I s_.queues_.e0.l_.e0, I s_.queues_.e0.l_.e1, I s_.queues_.e0.l_.e2, I s_.queues_.e0.l_.e3]], .agg [I s_.queues_.e1.many_, .agg [I s_.queues_.e1.l_.e0, I s_.queues_.e1.l_.e1, I s_.queues_.e1.l_.e2, I s_.queues_.e1.l_.e3]], .agg [I s_.queues_.e2.many_, .agg [I s_.queues_.e2.l_.e0, I s_.queues_.e2.l_.e1, I s_.queues_.e2.l_.e2, I s_.queues_.e2.l_.e3]], .agg [I s_.queues_.e3.many_, .agg [I s_.queues_.e3.l_.e0, I s_.queues_.e3.l_.e1, I s_.queues_.e3.l_.e2, I s_.queues_.e3.l_.e3]]] : A) = some (.agg [.agg [I s_.queues_.e0.many_, .agg [I s_.queues_.e0.l_.e0, I s_.queues_.e0.l_.e1, I s_.queues_.e0.l_.e2, I s_.queues_.e0.l_.e3]], .agg [I s_.queues_.e1.many_, .agg [I s_.queues_.e1.l_.e0, I s_.queues_.e1.l_.e1, I s_.queues_.e1.l_.e2, I s_.queues_.e1.l_.e3]], .agg [I s_.queues_.e2.many_, .agg [I s_.queues_.e2.l_.e0, I s_.queues_.e2.l_.e1, I s_.queues_.e2.l_.e2, I s_.queues_.e2.l_.e3]], .agg [I s_.queues_.e3.many_, .agg [I s_.queues_.e3.l_.e0, I s_.queues_.e3.l_.e1, I s_.queues_.e3.l_.e2, I s_.queues_.e3.l_.e3]]])), Hh (.f), Hs (iM F9_ h4), Hx (.l ((y8.toL arr1).map F9_)) ((y8.setL F9_ s_.queues_ a_.Channel r_).trans (congrArg (fun q => (y8.toL q).map F9_) h5)), Hx (.l [.agg [I arr.e0, I arr.e1, I arr.e2, I arr.e3], .agg [.agg [I arr1.e0.many_, .agg [I arr1.e0.l_.e0, I arr1.e0.l_.e1, I arr1.e0.l_.e2, I arr1.e0.l_.e3]], .agg [I arr1.e1.many_, .agg [I arr1.e1.l_.e0, I arr1.e1.l_.e1, I arr1.e1.l_.e2, I arr1.e1.l_.e3]], .agg [I arr1.e2.many_, .agg [I arr1.e2.l_.e0, I arr1.e2.l_.e1, I arr1.e2.l_.e2, I arr1.e2.l_.e3]], .agg [I arr1.e3.many_, .agg [I arr1.e3.l_.e0, I arr1.e3.l_.e1, I arr1.e3.l_.e2, I arr1.e3.l_.e3]]]]) (rfl : ([.agg [I arr.e0, I arr.e1, I arr.e2, I arr.e3], .agg [.agg [I arr1.e0.many_, .agg [I arr1.e0.l_.e0, I arr1.e0.l_.e1, I arr1.e0.l_.e2, I arr1.e0.l_.e3]], .agg [I arr1.e1.many_, .agg [I arr1.e1.l_.e0, I arr1.e1.l_.e1, I arr1.e1.l_.e2, I arr1.e1.l_.e3]], .agg [I arr1.e2.many_, .agg [I arr1.e2.l_.e0, I arr1.e2.l_.e1, I arr1.e2.l_.e2, I arr1.e2.l_.e3]], .agg [I arr1.e3.many_, .agg [I arr1.e3.l_.e0, I arr1.e3.l_.e1, I arr1.e3.l_.e2, I arr1.e3.l_.e3]]]] : List A) = [.agg [I arr.e0, I arr.e1, I arr.e2, I arr.e3], .agg [.agg [I arr1.e0.many_, .agg [I arr1.e0.l_.e0, I arr1.e0.l_.e1, I arr1.e0.l_.e2, I arr1.e0.l_.e3]], .agg [I arr1.e1.many_, .agg [I arr1.e1.l_.e0, I arr1.e1.l_.e1, I arr1.e1.l_.e2, I arr1.e1.l_.e3]], .agg [I arr1.e2.many_, .agg [I arr1.e2.l_.e0, I arr1.e2.l_.e1, I arr1.e2.l_.e2, I arr1.e2.l_.e3]], .agg [I arr1.e3.many_, .agg [I arr1.e3.l_.e0, I arr1.e3.l_.e1, I arr1.e3.l_.e2, I arr1.e3.l_.e3]]]])]
     ·obtain ⟨r_1, h6, hf0⟩ := zq hf0
      obtain ⟨cell3, h7, hf0⟩ := zq hf0
      obtain ⟨arr2, h8, hf0⟩ := zq hf0
      replace h8 := zm h8
      exact yB X0 hC hJ1 arr2 hf0 [Hq c1, Hq c2, Hc h0L (x := cell1) h6 (loC F9_ cell1 <| loN), Hn (⟨arJ (by kernel_rfl) (i0 h7), (iL F9_ h7).2⟩ : YE xS 113 ((y8.toL s_.queues_).map F9_) a_.Channel = true ∧ a_.Channel.toNat < ((y8.toL s_.queues_).map F9_).length), Hh (.op 2), Hh (.f), Hx (.a (.agg [.agg [I s_.queues_.e0.many_, .agg [I s_.queues_.e0.l_.e0, I s_.queues_.e0.l_.e1, I s_.queues_.e0.l_.e2, I s_.queues_.e0.l_.e3]], .agg [I s_.queues_.e1.many_, .agg [I s_.queues_.e1.l_.e0, I s_.queues_.e1.l_.e1, I s_.queues_.e1.l_.e2, I s_.queues_.e1.l_.e3]], .agg [I s_.queues_.e2.many_, .agg [I s_.queues_.e2.l_.e0, I s_.queues_.e2.l_.e1, I s_.queues_.e2.l_.e2, I s_.queues_.e2.l_.e3]], .agg [I s_.queues_.e3.many_, .agg [I s_.queues_.e3.l_.e0, I s_.queues_.e3.l_.e1, I s_.queues_.e3.l_.e2, I s_.queues_.e3.l_.e3]]])) (rfl : some (.agg [.agg [I s_.queues_.e0.many_, .agg [I s_.queues_.e0.l_.e0, I s_.queues_.e0.l_.e1, I s_.queues_.e0.l_.e2, I s_.queues_.e0.l_.e3]], .agg [I s_.queues_.e1.many_, .agg [I s_.queues_.e1.l_.e0, I s_.queues_.e1.l_.e1, I s_.queues_.e1.l_.e2, I s_.queues_.e1.l_.e3]], .agg [I s_.queues_.e2.many_, .agg [I s_.queues_.e2.l_.e0, I s_.queues_.e2.l_.e1, I s_.queues_.e2.l_.e2, I s_.queues_.e2.l_.e3]], .agg [I s_.queues_.e3.many_, .agg [I s_.queues_.e3.l_.e0, I s_.queues_.e3.l_.e1, I s_.queues_.e3.l_.e2, I s_.queues_.e3.l_.e3]]] : A) = some (.agg [.agg [I s_.queues_.e0.many_, .agg [I s_.queues_.e0.l_.e0, I s_.queues_.e0.l_.e1, I s_.queues_.e0.l_.e2, I s_.queues_.e0.l_.e3]], .agg [I s_.queues_.e1.many_, .agg [I s_.queues_.e1.l_.e0, I s_.queues_.e1.l_.e1, I s_.queues_.e1.l_.e2, I s_.queues_.e1.l_.e3]], .agg [I s_.queues_.e2.many_, .agg [I s_.queues_.e2.l_.e0, I s_.queues_.e2.l_.e1, I s_.queues_.e2.l_.e2, I s_.queues_.e2.l_.e3]], .agg [I s_.queues_.e3.many_, .agg [I s_.queues_.e3.l_.e0, I s_.queues_.e3.l_.e1, I s_.queues_.e3.l_.e2, I s_.queues_.e3.l_.e3]]])), Hh (.f), Hs (iM F9_ h7), Hh (.f), Hx (.a (.agg [.agg [I s_.queues_.e0.many_, .agg [I s_.queues_.e0.l_.e0, I s_.queues_.e0.l_.e1, I s_.queues_.e0.l_.e2, I s_.queues_.e0.l_.e3]], .agg [I s_.queues_.e1.many_, .agg [I s_.queues_.e1.l_.e0, I s_.queues_.e1.l_.e1, I s_.queues_.e1.l_.e2, I s_.queues_.e1.l_.e3]], .agg [I s_.queues_.e2.many_, .agg [I s_.queues_.e2.l_.e0, I s_.queues_.e2.l_.e1, I s_.queues_.e2.l_.e2, I s_.queues_.e2.l_.e3]], .agg [I s_.queues_.e3.many_, .agg [I s_.queues_.e3.l_.e0, I s_.queues_.e3.l_.e1, I s_.queues_.e3.l_.e2, I s_.queues_.e3.l_.e3]]])) (rfl : some (.agg [.agg [I s_.queues_.e0.many_, .agg [I s_.queues_.e0.l_.e0, I s_.queues_.e0.l_.e1, I s_.queues_.e0.l_.e2, I s_.queues_.e0.l_.e3]], .agg [I s_.queues_.e1.many_, .agg [I s_.queues_.e1.l_.e0, I s_.queues_.e1.l_.e1, I s_.queues_.e1.l_.e2, I s_.queues_.e1.l_.e3]], .agg [I s_.queues_.e2.many_, .agg [I s_.queues_.e2.l_.e0, I s_.queues_.e2.l_.e1, I s_.queues_.e2.l_.e2, I s_.queues_.e2.l_.e3]], .agg [I s_.queues_.e3.many_, .agg [I s_.queues_.e3.l_.e0, I s_.queues_.e3.l_.e1, I s_.queues_.e3.l_.e2, I s_.queues_.e3.l_.e3]]] : A) = some (.agg [.agg [I s_.queues_.e0.many_, .agg [I s_.queues_.e0.l_.e0, I s_.queues_.e0.l_.e1, I s_.queues_.e0.l_.e2, I s_.queues_.e0.l_.e3]], .agg [I s_.queues_.e1.many_, .agg [I s_.queues_.e1.l_.e0, I s_.queues_.e1.l_.e1, I s_.queues_.e1.l_.e2, I s_.queues_.e1.l_.e3]], .agg [I s_.queues_.e2.many_, .agg [I s_.queues_.e2.l_.e0, I s_.queues_.e2.l_.e1, I s_.queues_.e2.l_.e2, I s_.queues_.e2.l_.e3]], .agg [I s_.queues_.e3.many_, .agg [I s_.queues_.e3.l_.e0, I s_.queues_.e3.l_.e1, I s_.queues_.e3.l_.e2, I s_.queues_.e3.l_.e3]]])), Hh (.f), Hs (iM F9_ h7), Hx (.l ((y8.toL arr2).map F9_)) ((y8.setL F9_ s_.queues_ a_.Channel r_1).trans (congrArg (fun q => (y8.toL q).map F9_) h8)), Hx (.l [.agg [I arr.e0, I arr.e1, I arr.e2, I arr.e3], .agg [.agg [I arr2.e0.many_, .agg [I arr2.e0.l_.e0, I arr2.e0.l_.e1, I arr2.e0.l_.e2, I arr2.e0.l_.e3]], .agg [I arr2.e1.many_, .agg [I arr2.e1.l_.e0, I arr2.e1.l_.e1, I arr2.e1.l_.e2, I arr2.e1.l_.e3]], .agg [I arr2.e2.many_, .agg [I arr2.e2.l_.e0, I arr2.e2.l_.e1, I arr2.e2.l_.e2, I arr2.e2.l_.e3]], .agg [I arr2.e3.many_, .agg [I arr2.e3.l_.e0, I arr2.e3.l_.e1, I arr2.e3.l_.e2, I arr2.e3.l_.e3]]]]) (rfl : ([.agg [I arr.e0, I arr.e1, I arr.e2, I arr.e3], .agg [.agg [I arr2.e0.many_, .agg [I arr2.e0.l_.e0, I arr2.e0.l_.e1, I arr2.e0.l_.e2, I arr2.e0.l_.e3]], .agg [I arr2.e1.many_, .agg [I arr2.e1.l_.e0, I arr2.e1.l_.e1, I arr2.e1.l_.e2, I arr2.e1.l_.e3]], .agg [I arr2.e2.many_, .agg [I arr2.e2.l_.e0, I arr2.e2.l_.e1, I arr2.e2.l_.e2, I arr2.e2.l_.e3]], .agg [I arr2.e3.many_, .agg [I arr2.e3.l_.e0, I arr2.e3.l_.e1, I arr2.e3.l_.e2, I arr2.e3.l_.e3]]]] : List A) = [.agg [I arr.e0, I arr.e1, I arr.e2, I arr.e3], .agg [.agg [I arr2.e0.many_, .agg [I arr2.e0.l_.e0, I arr2.e0.l_.e1, I arr2.e0.l_.e2, I arr2.e0.l_.e3]], .agg [I arr2.e1.many_, .agg [I arr2.e1.l_.e0, I arr2.e1.l_.e1, I arr2.e1.l_.e2, I arr2.e1.l_.e3]], .agg [I arr2.e2.many_, .agg [I arr2.e2.l_.e0, I arr2.e2.l_.e1, I arr2.e2.l_.e2, I arr2.e2.l_.e3]], .agg [I arr2.e3.many_, .agg [I arr2.e3.l_.e0, I arr2.e3.l_.e1, I arr2.e3.l_.e2, I arr2.e3.l_.e3]]]])]
   ·obtain ⟨Channel_e, h9, hf0⟩ := zq hf0
    rcases y9 hf0 with ⟨c3, hf0⟩ | ⟨c3, hf0⟩
    ·exact yB X0 hC hJ2 (Channel_e == 0) hf0 [Hi (eI .i64) h9, Hq c3]
    ·rcases y9 hf0 with ⟨c4, hf0⟩ | ⟨c4, hf0⟩
     ·obtain ⟨Channel_e1, h10, hf0⟩ := zq hf0
      let Z0 : List HO := (Hi (eI .i64) h9 :: Hq c3 :: (rpN 7 (Hq c4) [Hi (eI .i64) h10, Hq c4, Hq c4, Hq c4]))
      rcases y9 hf0 with ⟨c5, hf0⟩ | ⟨c5, hf0⟩
      ·exact yB X0 hC hJ2 (cell1.many_ == Channel_e1) hf0 (Z0 ++ [Hq c5])
      ·rcases y9 hf0 with ⟨c6, hf0⟩ | ⟨c6, hf0⟩
       ·let Z1 : List HO := (Z0 ++ (Hq c5 :: (rpN 4 (Hq c6) [])))
        rcases y9 hf0 with ⟨c7, hf0⟩ | ⟨c7, hf0⟩
        ·exact yB X0 hC hJ2 true hf0 (Z1 ++ (rpN 6 (Hq c7) [Hq c6, Hq c7, Hq c6]))
        ·exact yB X0 hC hJ2 (cell1.l_.e0 != a_.Message) hf0 (Z1 ++ (Hq c7 :: Hq c7 :: Hn (⟨rfl, by decide⟩ : true = true ∧ 0 < 4) :: (rpN 4 (Hq c7) [Hq c6, Hq c7, Hq c6])))
       ·exact yB X0 hC hJ2 false hf0 (Z0 ++ (Hq c5 :: (rpN 6 (Hq c6) [])))
     ·let Z2 : List HO := (Hi (eI .i64) h9 :: Hq c3 :: (rpN 10 (Hq c4) [qF]))
      rcases y9 hf0 with ⟨c8, hf0⟩ | ⟨c8, hf0⟩
      ·let Z3 : List HO := (Z2 ++ (rpN 4 (Hq c8) []))
       rcases y9 hf0 with ⟨c9, hf0⟩ | ⟨c9, hf0⟩
       ·exact yB X0 hC hJ2 true hf0 (Z3 ++ (rpN 6 (Hq c9) [Hq c8, Hq c9, Hq c8]))
       ·exact yB X0 hC hJ2 (cell1.l_.e0 != a_.Message) hf0 (Z3 ++ (Hq c9 :: Hq c9 :: Hn (⟨rfl, by decide⟩ : true = true ∧ 0 < 4) :: (rpN 4 (Hq c9) [Hq c8, Hq c9, Hq c8])))
      ·exact yB X0 hC hJ2 false hf0 (Z2 ++ (rpN 6 (Hq c8) []))
def Y2 : yZ := spF (α := Bool × Bool) (ρ := Bool) 85 (fun x => [(eEr 0 201) x.1, (eEr 0 201) x.2]) (fun r => eB r) (fun x => JG x.1 x.2) [] (UP)
theorem z1R {ctr : Ctr} (hC : zW Tryz.prog ctr) : Y2.Ok Tryz.prog := by
 refine ya ?_
 rintro ⟨e, t⟩ r0 hf0
 cases t with
 | false => cases hf0
 | true =>
  cases hf0
  exact z8Y e
def zB : Code := (Tryz.f82.body).getD .skip
abbrev Zf {σ : Type} (x0 : za) (x1 : zb) (yv : Value) (YY : σ → z0s) (x16 : Int) (sg2 : σ) : List (Nat × T) := [(0, .own (.opq (YY sg2).q)), (1, .d (.sptr (xj x0))), (2, .d (.sptr (yV x1))), (3, .own (.box (.atom yv))), (15, .d (I ((x0.Parts.length : Nat) : Int))), (16, .d (I x16))]
abbrev y3 {σ : Type} (x0 : za) (x1 : zb) (yv : Value) (YY : σ → z0s) (x16 : Int) (r_ : za × Int × zb) (sg3 : σ) : List (Nat × T) := [(0, .own (.opq (YY sg3).q)), (1, .d (.sptr (xj x0))), (2, .d (.sptr (yV x1))), (3, .own (.box (.atom yv))), (4, .own (.box (I x16))), (15, .d (I ((x0.Parts.length : Nat) : Int))), (16, .d (I x16)), (22, .d (.fn 103 [.sptr (.agg [I r_.1.Messages, I r_.1.Labels, eSl 1 false (eI .i64) r_.1.Channels, eSl 3 false vb r_.1.Parts]), .sptr (I r_.2.1), .sptr (.agg [.agg [I r_.2.2.states_.e0, I r_.2.2.states_.e1, I r_.2.2.states_.e2, I r_.2.2.states_.e3], .agg [.agg [I r_.2.2.queues_.e0.many_, .agg [I r_.2.2.queues_.e0.l_.e0, I r_.2.2.queues_.e0.l_.e1, I r_.2.2.queues_.e0.l_.e2, I r_.2.2.queues_.e0.l_.e3]], .agg [I r_.2.2.queues_.e1.many_, .agg [I r_.2.2.queues_.e1.l_.e0, I r_.2.2.queues_.e1.l_.e1, I r_.2.2.queues_.e1.l_.e2, I r_.2.2.queues_.e1.l_.e3]], .agg [I r_.2.2.queues_.e2.many_, .agg [I r_.2.2.queues_.e2.l_.e0, I r_.2.2.queues_.e2.l_.e1, I r_.2.2.queues_.e2.l_.e2, I r_.2.2.queues_.e2.l_.e3]], .agg [I r_.2.2.queues_.e3.many_, .agg [I r_.2.2.queues_.e3.l_.e0, I r_.2.2.queues_.e3.l_.e1, I r_.2.2.queues_.e3.l_.e2, I r_.2.2.queues_.e3.l_.e3]]]])]))]
abbrev Ze {σ : Type} (x0 : za) (x1 : zb) (yv : Value) (YY : σ → z0s) (x16 : Int) (r_ : za × Int × zb) (x23 : Int) (x24 : ze) (Channel_e : Int) (x59 : Int) (sg5 : σ) : List (Nat × T) := [(0, .own (.opq (YY sg5).q)), (1, .d (.sptr (xj x0))), (2, .d (.sptr (yV x1))), (3, .own (.box (.atom yv))), (4, .own (.box (I x16))), (5, .own (.box (I x23))), (6, .own (.box (vN x24))), (15, .d (I ((x0.Parts.length : Nat) : Int))), (16, .d (I x16)), (22, .d (.fn 103 [.sptr (.agg [I r_.1.Messages, I r_.1.Labels, eSl 1 false (eI .i64) r_.1.Channels, eSl 3 false vb r_.1.Parts]), .sptr (I r_.2.1), .sptr (.agg [.agg [I r_.2.2.states_.e0, I r_.2.2.states_.e1, I r_.2.2.states_.e2, I r_.2.2.states_.e3], .agg [.agg [I r_.2.2.queues_.e0.many_, .agg [I r_.2.2.queues_.e0.l_.e0, I r_.2.2.queues_.e0.l_.e1, I r_.2.2.queues_.e0.l_.e2, I r_.2.2.queues_.e0.l_.e3]], .agg [I r_.2.2.queues_.e1.many_, .agg [I r_.2.2.queues_.e1.l_.e0, I r_.2.2.queues_.e1.l_.e1, I r_.2.2.queues_.e1.l_.e2, I r_.2.2.queues_.e1.l_.e3]], .agg [I r_.2.2.queues_.e2.many_, .agg [I r_.2.2.queues_.e2.l_.e0, I r_.2.2.queues_.e2.l_.e1, I r_.2.2.queues_.e2.l_.e2, I r_.2.2.queues_.e2.l_.e3]], .agg [I r_.2.2.queues_.e3.many_, .agg [I r_.2.2.queues_.e3.l_.e0, I r_.2.2.queues_.e3.l_.e1, I r_.2.2.queues_.e3.l_.e2, I r_.2.2.queues_.e3.l_.e3]]]])])), (48, .d (.sptr (eSl 1 false (eI .i64) x0.Channels))), (49, .d (eSl 1 false (eI .i64) x0.Channels)), (51, .d (I x24.Channel)), (52, .d (.sptr (I Channel_e))), (53, .d (I Channel_e)), (54, .d (B (decide (Channel_e > 0)))), (58, .d (I ((x0.Parts.length : Nat) : Int))), (59, .d (I x59))]
abbrev yd {σ : Type} (x0 : za) (x1 : zb) (yv : Value) (YY : σ → z0s) (x16 : Int) (r_ : za × Int × zb) (x23 : Int) (x24 : ze) (Channel_e : Int) (x59 : Int) (r_3 : za × Int × zb) (sg6 : σ) : List (Nat × T) := [(0, .own (.opq (YY sg6).q)), (1, .d (.sptr (xj x0))), (2, .d (.sptr (yV x1))), (3, .own (.box (.atom yv))), (4, .own (.box (I x16))), (5, .own (.box (I x23))), (6, .own (.box (vN x24))), (9, .own (.box (I x59))), (15, .d (I ((x0.Parts.length : Nat) : Int))), (16, .d (I x16)), (22, .d (.fn 103 [.sptr (.agg [I r_.1.Messages, I r_.1.Labels, eSl 1 false (eI .i64) r_.1.Channels, eSl 3 false vb r_.1.Parts]), .sptr (I r_.2.1), .sptr (.agg [.agg [I r_.2.2.states_.e0, I r_.2.2.states_.e1, I r_.2.2.states_.e2, I r_.2.2.states_.e3], .agg [.agg [I r_.2.2.queues_.e0.many_, .agg [I r_.2.2.queues_.e0.l_.e0, I r_.2.2.queues_.e0.l_.e1, I r_.2.2.queues_.e0.l_.e2, I r_.2.2.queues_.e0.l_.e3]], .agg [I r_.2.2.queues_.e1.many_, .agg [I r_.2.2.queues_.e1.l_.e0, I r_.2.2.queues_.e1.l_.e1, I r_.2.2.queues_.e1.l_.e2, I r_.2.2.queues_.e1.l_.e3]], .agg [I r_.2.2.queues_.e2.many_, .agg [I r_.2.2.queues_.e2.l_.e0, I r_.2.2.queues_.e2.l_.e1, I r_.2.2.queues_.e2.l_.e2, I r_.2.2.queues_.e2.l_.e3]], .agg [I r_.2.2.queues_.e3.many_, .agg [I r_.2.2.queues_.e3.l_.e0, I r_.2.2.queues_.e3.l_.e1, I r_.2.2.queues_.e3.l_.e2, I r_.2.2.queues_.e3.l_.e3]]]])])), (48, .d (.sptr (eSl 1 false (eI .i64) x0.Channels))), (49, .d (eSl 1 false (eI .i64) x0.Channels)), (51, .d (I x24.Channel)), (52, .d (.sptr (I Channel_e))), (53, .d (I Channel_e)), (54, .d (B (decide (Channel_e > 0)))), (58, .d (I ((x0.Parts.length : Nat) : Int))), (59, .d (I x59)), (68, .d (.fn 103 [.sptr (.agg [I r_3.1.Messages, I r_3.1.Labels, eSl 1 false (eI .i64) r_3.1.Channels, eSl 3 false vb r_3.1.Parts]), .sptr (I r_3.2.1), .sptr (.agg [.agg [I r_3.2.2.states_.e0, I r_3.2.2.states_.e1, I r_3.2.2.states_.e2, I r_3.2.2.states_.e3], .agg [.agg [I r_3.2.2.queues_.e0.many_, .agg [I r_3.2.2.queues_.e0.l_.e0, I r_3.2.2.queues_.e0.l_.e1, I r_3.2.2.queues_.e0.l_.e2, I r_3.2.2.queues_.e0.l_.e3]], .agg [I r_3.2.2.queues_.e1.many_, .agg [I r_3.2.2.queues_.e1.l_.e0, I r_3.2.2.queues_.e1.l_.e1, I r_3.2.2.queues_.e1.l_.e2, I r_3.2.2.queues_.e1.l_.e3]], .agg [I r_3.2.2.queues_.e2.many_, .agg [I r_3.2.2.queues_.e2.l_.e0, I r_3.2.2.queues_.e2.l_.e1, I r_3.2.2.queues_.e2.l_.e2, I r_3.2.2.queues_.e2.l_.e3]], .agg [I r_3.2.2.queues_.e3.many_, .agg [I r_3.2.2.queues_.e3.l_.e0, I r_3.2.2.queues_.e3.l_.e1, I r_3.2.2.queues_.e3.l_.e2, I r_3.2.2.queues_.e3.l_.e3]]]])]))]
abbrev Zc {σ : Type} (x0 : za) (x1 : zb) (yv : Value) (YY : σ → z0s) (x16 : Int) (r_ : za × Int × zb) (x23 : Int) (x24 : ze) (Channel_e : Int) (sg4 : σ) (x59 : Int) : List (Nat × T) := [(0, .own (.opq (YY sg4).q)), (1, .d (.sptr (xj x0))), (2, .d (.sptr (yV x1))), (3, .own (.box (.atom yv))), (4, .own (.box (I x16))), (5, .own (.box (I x23))), (6, .own (.box (vN x24))), (15, .d (I ((x0.Parts.length : Nat) : Int))), (16, .d (I x16)), (22, .d (.fn 103 [.sptr (.agg [I r_.1.Messages, I r_.1.Labels, eSl 1 false (eI .i64) r_.1.Channels, eSl 3 false vb r_.1.Parts]), .sptr (I r_.2.1), .sptr (.agg [.agg [I r_.2.2.states_.e0, I r_.2.2.states_.e1, I r_.2.2.states_.e2, I r_.2.2.states_.e3], .agg [.agg [I r_.2.2.queues_.e0.many_, .agg [I r_.2.2.queues_.e0.l_.e0, I r_.2.2.queues_.e0.l_.e1, I r_.2.2.queues_.e0.l_.e2, I r_.2.2.queues_.e0.l_.e3]], .agg [I r_.2.2.queues_.e1.many_, .agg [I r_.2.2.queues_.e1.l_.e0, I r_.2.2.queues_.e1.l_.e1, I r_.2.2.queues_.e1.l_.e2, I r_.2.2.queues_.e1.l_.e3]], .agg [I r_.2.2.queues_.e2.many_, .agg [I r_.2.2.queues_.e2.l_.e0, I r_.2.2.queues_.e2.l_.e1, I r_.2.2.queues_.e2.l_.e2, I r_.2.2.queues_.e2.l_.e3]], .agg [I r_.2.2.queues_.e3.many_, .agg [I r_.2.2.queues_.e3.l_.e0, I r_.2.2.queues_.e3.l_.e1, I r_.2.2.queues_.e3.l_.e2, I r_.2.2.queues_.e3.l_.e3]]]])])), (48, .d (.sptr (eSl 1 false (eI .i64) x0.Channels))), (49, .d (eSl 1 false (eI .i64) x0.Channels)), (51, .d (I x24.Channel)), (52, .d (.sptr (I Channel_e))), (53, .d (I Channel_e)), (54, .d (B (decide (Channel_e > 0)))), (58, .d (I ((x0.Parts.length : Nat) : Int))), (59, .d (I x59))]
abbrev Zd {σ : Type} (x0 : za) (x1 : zb) (yv : Value) (YY : σ → z0s) (sg1 : σ) (x16 : Int) : List (Nat × T) := [(0, .own (.opq (YY sg1).q)), (1, .d (.sptr (xj x0))), (2, .d (.sptr (yV x1))), (3, .own (.box (.atom yv))), (15, .d (I ((x0.Parts.length : Nat) : Int))), (16, .d (I x16))]
theorem Yu {ctr : Ctr} (hC : zW Tryz.prog ctr) (h0d : ctr.Has v7) (h0i : ctr.Has v6) (h0j : ctr.Has Y2) (x0 : za) (x1 : zb) : z5n Tryz.prog (.fn 82 [.sptr (.agg [I x0.Messages, I x0.Labels, eSl 1 false (eI .i64) x0.Channels, eSl 3 false vb x0.Parts]), .sptr (.agg [.agg [I x1.states_.e0, I x1.states_.e1, I x1.states_.e2, I x1.states_.e3], .agg [.agg [I x1.queues_.e0.many_, .agg [I x1.queues_.e0.l_.e0, I x1.queues_.e0.l_.e1, I x1.queues_.e0.l_.e2, I x1.queues_.e0.l_.e3]], .agg [I x1.queues_.e1.many_, .agg [I x1.queues_.e1.l_.e0, I x1.queues_.e1.l_.e1, I x1.queues_.e1.l_.e2, I x1.queues_.e1.l_.e3]], .agg [I x1.queues_.e2.many_, .agg [I x1.queues_.e2.l_.e0, I x1.queues_.e2.l_.e1, I x1.queues_.e2.l_.e2, I x1.queues_.e2.l_.e3]], .agg [I x1.queues_.e3.many_, .agg [I x1.queues_.e3.l_.e0, I x1.queues_.e3.l_.e1, I x1.queues_.e3.l_.e2, I x1.queues_.e3.l_.e3]]]])]) (fun (x : z8 × zb) (_ : Bool) (_ : Value) => [wB x.1, yV x.2]) (@xv x0 x1) := by
 refine z4z (tt := xS) (nt := 110) (body := zB) zZ Tryz.func82 rfl (by kernel_rfl) rfl rfl (by show (3 : Nat) ≤ 110; decide) ?_
 intro σ yv YY yy hy sg r0 hf0 E hE
 unfold xv at hf0
 obtain ⟨t1, ht1, hf0⟩ := zq hf0
 refine yL ((xBx Tryz.prog 3 0 yv).or X0) hC zB [1,1,0] [] (fun s => xw x0 x1 yy s.1 s.2) (fun x => Zd x0 x1 yv YY x.1 x.2) (sg, 0) ht1  [Hn (⟨rfl, rfl⟩ : false = false ∧ some yv = some yv), Ha (lnM vb x0.Parts)] ?_
 rintro ⟨sg1, x16⟩ m1 lr1 hf1 hl1 J1 hJ1
 try unfold xw at hf1
 rcases y9 hf1 with ⟨c0, hf1⟩ | ⟨c0, hf1⟩
 ·refine yJ X0 hC zB [1,1,0,0,1,1] [J1] [0,1,2,3,15,16] (fun z : σ => vD x16 z = some lr1) (fun z => Zf x0 x1 yv YY x16 z) [(0, .own (.opq (YY sg1).q)), (1, .d (.sptr (xj x0))), (2, .d (.sptr (yV x1))), (3, .own (.box (.atom yv))), (15, .d (I ((x0.Parts.length : Nat) : Int))), (16, .d (I x16))] [Hq c0, Hh (.cut 0)] ?_ fun J2 hJ2 => ?_
  ·rintro sg2 hf1
   unfold vD at hf1
   obtain rfl := zm hf1
   exact yB X0 hC hJ1 (sg2, w64 (x16 + 1)) hl1 []
  ·obtain ⟨r_, h0, hf1⟩ := zq hf1
   obtain ⟨t3, ht3, hf1⟩ := zq hf1
   refine yAt X0 hC (sub [1,1,0,0,1,1,2,0,1,1,0] zB) (frs [1,1,0,0,1,1,2,0,1,1,0] [J1, J2] zB []) [(0, .own (.opq (YY sg1).q)), (1, .d (.sptr (xj x0))), (2, .d (.sptr (yV x1))), (3, .own (.box (.atom yv))), (4, .own (.box (I x16))), (15, .d (I ((x0.Parts.length : Nat) : Int))), (16, .d (I x16)), (22, .d (.fn 103 [.sptr (.agg [I r_.1.Messages, I r_.1.Labels, eSl 1 false (eI .i64) r_.1.Channels, eSl 3 false vb r_.1.Parts]), .sptr (I r_.2.1), .sptr (.agg [.agg [I r_.2.2.states_.e0, I r_.2.2.states_.e1, I r_.2.2.states_.e2, I r_.2.2.states_.e3], .agg [.agg [I r_.2.2.queues_.e0.many_, .agg [I r_.2.2.queues_.e0.l_.e0, I r_.2.2.queues_.e0.l_.e1, I r_.2.2.queues_.e0.l_.e2, I r_.2.2.queues_.e0.l_.e3]], .agg [I r_.2.2.queues_.e1.many_, .agg [I r_.2.2.queues_.e1.l_.e0, I r_.2.2.queues_.e1.l_.e1, I r_.2.2.queues_.e1.l_.e2, I r_.2.2.queues_.e1.l_.e3]], .agg [I r_.2.2.queues_.e2.many_, .agg [I r_.2.2.queues_.e2.l_.e0, I r_.2.2.queues_.e2.l_.e1, I r_.2.2.queues_.e2.l_.e2, I r_.2.2.queues_.e2.l_.e3]], .agg [I r_.2.2.queues_.e3.many_, .agg [I r_.2.2.queues_.e3.l_.e0, I r_.2.2.queues_.e3.l_.e1, I r_.2.2.queues_.e3.l_.e2, I r_.2.2.queues_.e3.l_.e3]]]])]))] [Hc h0d (x := (x0, x1, x16)) h0 (loC xj x0 <| loC yV x1 <| loC (eI .i64) x16 <| loN)] fun st0 h0 => ?_
   refine z2s (g := .tmp 22) (ps := [23,24]) (assign := (sub [1,1,0,0,1,1,2,0,1,1,0,0] zB)) (body := (sub [1,1,0,0,1,1,2,0,1,1,0,1] zB)) (K := 103) (caps := [.sptr (.agg [I r_.1.Messages, I r_.1.Labels, eSl 1 false (eI .i64) r_.1.Channels, eSl 3 false vb r_.1.Parts]), .sptr (I r_.2.1), .sptr (.agg [.agg [I r_.2.2.states_.e0, I r_.2.2.states_.e1, I r_.2.2.states_.e2, I r_.2.2.states_.e3], .agg [.agg [I r_.2.2.queues_.e0.many_, .agg [I r_.2.2.queues_.e0.l_.e0, I r_.2.2.queues_.e0.l_.e1, I r_.2.2.queues_.e0.l_.e2, I r_.2.2.queues_.e0.l_.e3]], .agg [I r_.2.2.queues_.e1.many_, .agg [I r_.2.2.queues_.e1.l_.e0, I r_.2.2.queues_.e1.l_.e1, I r_.2.2.queues_.e1.l_.e2, I r_.2.2.queues_.e1.l_.e3]], .agg [I r_.2.2.queues_.e2.many_, .agg [I r_.2.2.queues_.e2.l_.e0, I r_.2.2.queues_.e2.l_.e1, I r_.2.2.queues_.e2.l_.e2, I r_.2.2.queues_.e2.l_.e3]], .agg [I r_.2.2.queues_.e3.many_, .agg [I r_.2.2.queues_.e3.l_.e0, I r_.2.2.queues_.e3.l_.e1, I r_.2.2.queues_.e3.l_.e2, I r_.2.2.queues_.e3.l_.e3]]]])]) (by kernel_rfl) [0,1,2,3,4,15,16,22] (fun s => y3 x0 x1 yv YY x16 r_ s) (fun s => y3 x0 x1 yv YY x16 r_ s) (fun s => Code.ret) ((fun (x : Int × ze) (_ : Bool) (_ : Value) => [(eI .i64) x.1, vN x.2])) (F := @yn r_.1 r_.2.1 r_.2.2) (fun s x => yY x0 x1 yy x16 s x.1 x.2) sg1 t3 _ h0 inferInstance (by kernel_rfl) (by decide) (fun _ => rfl) (fun _ => rfl) (by kernel_rfl) (fun _ _ _ => rfl) (jq hC r_.1 r_.2.1 r_.2.2) ht3 ?_ ?_
   ·rintro tv3 sg3 ⟨x23, x24⟩ vr lr2 hf2
    refine z0m (sz := 110) (k := 0) (u := tv3 0) (v := yv) (ps := List.map (fun t => (t, tv3 t)) [1,2,3,4,15,16,22] ++ ([(0, yv)])) rfl (by simp) ?_
    replace hf2 : yY x0 x1 yy x16 sg3 x23 x24 = some lr2 := hf2
    unfold yY at hf2
    refine yF X0 hC .normal [(0, .own (.opq (YY sg3).q)), (1, .d (.sptr (xj x0))), (2, .d (.sptr (yV x1))), (3, .own (.box (.atom yv))), (4, .own (.box (I x16))), (5, .own (.box (I x23))), (6, .own (.box (vN x24))), (15, .d (I ((x0.Parts.length : Nat) : Int))), (16, .d (I x16)), (22, .d (.fn 103 [.sptr (.agg [I r_.1.Messages, I r_.1.Labels, eSl 1 false (eI .i64) r_.1.Channels, eSl 3 false vb r_.1.Parts]), .sptr (I r_.2.1), .sptr (.agg [.agg [I r_.2.2.states_.e0, I r_.2.2.states_.e1, I r_.2.2.states_.e2, I r_.2.2.states_.e3], .agg [.agg [I r_.2.2.queues_.e0.many_, .agg [I r_.2.2.queues_.e0.l_.e0, I r_.2.2.queues_.e0.l_.e1, I r_.2.2.queues_.e0.l_.e2, I r_.2.2.queues_.e0.l_.e3]], .agg [I r_.2.2.queues_.e1.many_, .agg [I r_.2.2.queues_.e1.l_.e0, I r_.2.2.queues_.e1.l_.e1, I r_.2.2.queues_.e1.l_.e2, I r_.2.2.queues_.e1.l_.e3]], .agg [I r_.2.2.queues_.e2.many_, .agg [I r_.2.2.queues_.e2.l_.e0, I r_.2.2.queues_.e2.l_.e1, I r_.2.2.queues_.e2.l_.e2, I r_.2.2.queues_.e2.l_.e3]], .agg [I r_.2.2.queues_.e3.many_, .agg [I r_.2.2.queues_.e3.l_.e0, I r_.2.2.queues_.e3.l_.e1, I r_.2.2.queues_.e3.l_.e2, I r_.2.2.queues_.e3.l_.e3]]]])]))] [] fun st0 h0 => ⟨rfl, z2r h0 ?_⟩
    refine z0m (sz := 110) (k := 0) (u := tv3 0) (v := yv) (ps := List.map (fun t => (t, tv3 t)) [1,2,3,4,15,16,22] ++ ([(0, yv)])) rfl (by simp) ?_
    obtain ⟨r_1, h1, hf2⟩ := zq hf2
    obtain ⟨r_2, h2, hf2⟩ := zq hf2
    let Z0 : List HO := [Hc h0i (x := (x0, x1, x16, x24)) h1 (loC xj x0 <| loC yV x1 <| loC (eI .i64) x16 <| loC vN x24 <| loN), Hc h0j (x := (r_1.2, true)) h2 (loC (eEr 0 201) r_1.2 <| loC (eEr 0 201) true <| loN)]
    rcases y9 hf2 with ⟨c1, hf2⟩ | ⟨c1, hf2⟩
    ·obtain ⟨yr, h3, hf2⟩ := zq hf2
     let Z1 : List HO := (Z0 ++ [Hq c1, Hn (⟨rfl, rfl, _, rfl⟩ : T.own (.box (.atom yv)) = T.own (.box (.atom yv)) ∧ some yv = some yv ∧ ∃ x, T.own (.opq (YY sg3).q) = T.own x), Hn (z1U (yv := yv) (Y := YY) (enc := (fun (x : z8 × zb) (_ : Bool) (_ : Value) => [wB x.1, yV x.2])) (s := sg3) (x := ((z8.mk x16 x23 (-1) (-1)), r_1.1)) (s' := yr.1) (b := yr.2) (v := .nilFunc) [wB (z8.mk x16 x23 (-1) (-1)), yV r_1.1] (show KC [wB (z8.mk x16 x23 (-1) (-1)), yV r_1.1] [wB (z8.mk x16 x23 (-1) (-1)), yV r_1.1] from inferInstance))])
     rcases y9 hf2 with ⟨c2, hf2⟩ | ⟨c2, hf2⟩
     ·obtain rfl := zm hf2
      exact yF ((Kb (P := Tryz.prog) xS hy 42 (s := sg3) (x := ((z8.mk x16 x23 (-1) (-1)), r_1.1)) (s' := yr.1) (b := yr.2) .nilFunc h3).or ((xLy zZ 37 3 0 yv).or X0)) hC .ret (y3 x0 x1 yv YY x16 r_ yr.1) (Z1 ++ [Hq c2]) fun st0 h0 => ⟨rfl, _, h0, LeL.refl _⟩
     ·obtain rfl := zm hf2
      exact yF ((Kb (P := Tryz.prog) xS hy 42 (s := sg3) (x := ((z8.mk x16 x23 (-1) (-1)), r_1.1)) (s' := yr.1) (b := yr.2) .nilFunc h3).or ((xLy zZ 37 3 0 yv).or X0)) hC .normal (y3 x0 x1 yv YY x16 r_ yr.1) (Z1 ++ [Hq c2]) fun st0 h0 => ⟨rfl, _, h0, LeL.refl _⟩
    ·rcases y9 hf2 with ⟨c3, hf2⟩ | ⟨c3, hf2⟩
     ·obtain rfl := zm hf2
      exact yF X0 hC .normal (y3 x0 x1 yv YY x16 r_ sg3) (Z0 ++ (Hq c1 :: (rpN 8 (Hq c3) [qT]))) fun st0 h0 => ⟨rfl, _, h0, LeL.refl _⟩
     ·obtain ⟨Channel_e, h4, hf2⟩ := zq hf2
      let Z2 : List HO := (Z0 ++ (Hq c1 :: (rpN 5 (Hq c3) [Hi (eI .i64) h4, Hq c3, Hq c3, Hq c3])))
      rcases y9 hf2 with ⟨c4, hf2⟩ | ⟨c4, hf2⟩
      ·obtain rfl := zm hf2
       exact yF X0 hC .normal (y3 x0 x1 yv YY x16 r_ sg3) (Z2 ++ [Hq c4]) fun st0 h0 => ⟨rfl, _, h0, LeL.refl _⟩
      ·obtain ⟨t4, ht4, hf2⟩ := zq hf2
       refine yL X0 hC zB [1,1,0,0,1,1,2,0,1,1,0,1,0,1,1,1,1,0] [J1, J2] (fun s => yW x0 x1 yy x16 x23 x24 s.1 s.2) (fun x => Zc x0 x1 yv YY x16 r_ x23 x24 Channel_e x.1 x.2) (sg3,0) ht4  (Z2 ++ [Hq c4, Ha (lnM vb x0.Parts)]) ?_
       rintro ⟨sg4, x59⟩ m4 lr3 hf3 hl3 J4 hJ4
       try unfold yW at hf3
       rcases y9 hf3 with ⟨c5, hf3⟩ | ⟨c5, hf3⟩
       ·refine yJ X0 hC zB [1,1,0,0,1,1,2,0,1,1,0,1,0,1,1,1,1,0,0,1,1] [J1, J2, J4] [0,1,2,3,4,5,6,15,16,22,48,49,51,52,53,54,58,59] (fun z : σ => wn x59 z = some lr3) (fun z => Ze x0 x1 yv YY x16 r_ x23 x24 Channel_e x59 z) [(0, .own (.opq (YY sg4).q)), (1, .d (.sptr (xj x0))), (2, .d (.sptr (yV x1))), (3, .own (.box (.atom yv))), (4, .own (.box (I x16))), (5, .own (.box (I x23))), (6, .own (.box (vN x24))), (15, .d (I ((x0.Parts.length : Nat) : Int))), (16, .d (I x16)), (22, .d (.fn 103 [.sptr (.agg [I r_.1.Messages, I r_.1.Labels, eSl 1 false (eI .i64) r_.1.Channels, eSl 3 false vb r_.1.Parts]), .sptr (I r_.2.1), .sptr (.agg [.agg [I r_.2.2.states_.e0, I r_.2.2.states_.e1, I r_.2.2.states_.e2, I r_.2.2.states_.e3], .agg [.agg [I r_.2.2.queues_.e0.many_, .agg [I r_.2.2.queues_.e0.l_.e0, I r_.2.2.queues_.e0.l_.e1, I r_.2.2.queues_.e0.l_.e2, I r_.2.2.queues_.e0.l_.e3]], .agg [I r_.2.2.queues_.e1.many_, .agg [I r_.2.2.queues_.e1.l_.e0, I r_.2.2.queues_.e1.l_.e1, I r_.2.2.queues_.e1.l_.e2, I r_.2.2.queues_.e1.l_.e3]], .agg [I r_.2.2.queues_.e2.many_, .agg [I r_.2.2.queues_.e2.l_.e0, I r_.2.2.queues_.e2.l_.e1, I r_.2.2.queues_.e2.l_.e2, I r_.2.2.queues_.e2.l_.e3]], .agg [I r_.2.2.queues_.e3.many_, .agg [I r_.2.2.queues_.e3.l_.e0, I r_.2.2.queues_.e3.l_.e1, I r_.2.2.queues_.e3.l_.e2, I r_.2.2.queues_.e3.l_.e3]]]])])), (48, .d (.sptr (eSl 1 false (eI .i64) x0.Channels))), (49, .d (eSl 1 false (eI .i64) x0.Channels)), (51, .d (I x24.Channel)), (52, .d (.sptr (I Channel_e))), (53, .d (I Channel_e)), (54, .d (B (decide (Channel_e > 0)))), (58, .d (I ((x0.Parts.length : Nat) : Int))), (59, .d (I x59))] [Hq c5, Hh (.cut 0)] ?_ fun J5 hJ5 => ?_
        ·rintro sg5 hf3
         unfold wn at hf3
         obtain rfl := zm hf3
         exact yB X0 hC hJ4 (sg5, w64 (x59 + 1)) hl3 []
        ·rcases y9 hf3 with ⟨c6, hf3⟩ | ⟨c6, hf3⟩
         ·exact yB X0 hC hJ5 sg4 hf3 [Hq c6]
         ·obtain ⟨r_3, h5, hf3⟩ := zq hf3
          obtain ⟨t6, ht6, hf3⟩ := zq hf3
          refine yAt X0 hC (sub [1,1,0,0,1,1,2,0,1,1,0,1,0,1,1,1,1,0,0,1,1,2,0,1,1,1,0] zB) (frs [1,1,0,0,1,1,2,0,1,1,0,1,0,1,1,1,1,0,0,1,1,2,0,1,1,1,0] [J1, J2, J4, J5] zB []) [(0, .own (.opq (YY sg4).q)), (1, .d (.sptr (xj x0))), (2, .d (.sptr (yV x1))), (3, .own (.box (.atom yv))), (4, .own (.box (I x16))), (5, .own (.box (I x23))), (6, .own (.box (vN x24))), (9, .own (.box (I x59))), (15, .d (I ((x0.Parts.length : Nat) : Int))), (16, .d (I x16)), (22, .d (.fn 103 [.sptr (.agg [I r_.1.Messages, I r_.1.Labels, eSl 1 false (eI .i64) r_.1.Channels, eSl 3 false vb r_.1.Parts]), .sptr (I r_.2.1), .sptr (.agg [.agg [I r_.2.2.states_.e0, I r_.2.2.states_.e1, I r_.2.2.states_.e2, I r_.2.2.states_.e3], .agg [.agg [I r_.2.2.queues_.e0.many_, .agg [I r_.2.2.queues_.e0.l_.e0, I r_.2.2.queues_.e0.l_.e1, I r_.2.2.queues_.e0.l_.e2, I r_.2.2.queues_.e0.l_.e3]], .agg [I r_.2.2.queues_.e1.many_, .agg [I r_.2.2.queues_.e1.l_.e0, I r_.2.2.queues_.e1.l_.e1, I r_.2.2.queues_.e1.l_.e2, I r_.2.2.queues_.e1.l_.e3]], .agg [I r_.2.2.queues_.e2.many_, .agg [I r_.2.2.queues_.e2.l_.e0, I r_.2.2.queues_.e2.l_.e1, I r_.2.2.queues_.e2.l_.e2, I r_.2.2.queues_.e2.l_.e3]], .agg [I r_.2.2.queues_.e3.many_, .agg [I r_.2.2.queues_.e3.l_.e0, I r_.2.2.queues_.e3.l_.e1, I r_.2.2.queues_.e3.l_.e2, I r_.2.2.queues_.e3.l_.e3]]]])])), (48, .d (.sptr (eSl 1 false (eI .i64) x0.Channels))), (49, .d (eSl 1 false (eI .i64) x0.Channels)), (51, .d (I x24.Channel)), (52, .d (.sptr (I Channel_e))), (53, .d (I Channel_e)), (54, .d (B (decide (Channel_e > 0)))), (58, .d (I ((x0.Parts.length : Nat) : Int))), (59, .d (I x59)), (68, .d (.fn 103 [.sptr (.agg [I r_3.1.Messages, I r_3.1.Labels, eSl 1 false (eI .i64) r_3.1.Channels, eSl 3 false vb r_3.1.Parts]), .sptr (I r_3.2.1), .sptr (.agg [.agg [I r_3.2.2.states_.e0, I r_3.2.2.states_.e1, I r_3.2.2.states_.e2, I r_3.2.2.states_.e3], .agg [.agg [I r_3.2.2.queues_.e0.many_, .agg [I r_3.2.2.queues_.e0.l_.e0, I r_3.2.2.queues_.e0.l_.e1, I r_3.2.2.queues_.e0.l_.e2, I r_3.2.2.queues_.e0.l_.e3]], .agg [I r_3.2.2.queues_.e1.many_, .agg [I r_3.2.2.queues_.e1.l_.e0, I r_3.2.2.queues_.e1.l_.e1, I r_3.2.2.queues_.e1.l_.e2, I r_3.2.2.queues_.e1.l_.e3]], .agg [I r_3.2.2.queues_.e2.many_, .agg [I r_3.2.2.queues_.e2.l_.e0, I r_3.2.2.queues_.e2.l_.e1, I r_3.2.2.queues_.e2.l_.e2, I r_3.2.2.queues_.e2.l_.e3]], .agg [I r_3.2.2.queues_.e3.many_, .agg [I r_3.2.2.queues_.e3.l_.e0, I r_3.2.2.queues_.e3.l_.e1, I r_3.2.2.queues_.e3.l_.e2, I r_3.2.2.queues_.e3.l_.e3]]]])]))] [Hq c6, Hc h0d (x := (x0, x1, x59)) h5 (loC xj x0 <| loC yV x1 <| loC (eI .i64) x59 <| loN)] fun st0 h0 => ?_
          refine z2s (g := .tmp 68) (ps := [69,70]) (assign := (sub [1,1,0,0,1,1,2,0,1,1,0,1,0,1,1,1,1,0,0,1,1,2,0,1,1,1,0,0] zB)) (body := (sub [1,1,0,0,1,1,2,0,1,1,0,1,0,1,1,1,1,0,0,1,1,2,0,1,1,1,0,1] zB)) (K := 103) (caps := [.sptr (.agg [I r_3.1.Messages, I r_3.1.Labels, eSl 1 false (eI .i64) r_3.1.Channels, eSl 3 false vb r_3.1.Parts]), .sptr (I r_3.2.1), .sptr (.agg [.agg [I r_3.2.2.states_.e0, I r_3.2.2.states_.e1, I r_3.2.2.states_.e2, I r_3.2.2.states_.e3], .agg [.agg [I r_3.2.2.queues_.e0.many_, .agg [I r_3.2.2.queues_.e0.l_.e0, I r_3.2.2.queues_.e0.l_.e1, I r_3.2.2.queues_.e0.l_.e2, I r_3.2.2.queues_.e0.l_.e3]], .agg [I r_3.2.2.queues_.e1.many_, .agg [I r_3.2.2.queues_.e1.l_.e0, I r_3.2.2.queues_.e1.l_.e1, I r_3.2.2.queues_.e1.l_.e2, I r_3.2.2.queues_.e1.l_.e3]], .agg [I r_3.2.2.queues_.e2.many_, .agg [I r_3.2.2.queues_.e2.l_.e0, I r_3.2.2.queues_.e2.l_.e1, I r_3.2.2.queues_.e2.l_.e2, I r_3.2.2.queues_.e2.l_.e3]], .agg [I r_3.2.2.queues_.e3.many_, .agg [I r_3.2.2.queues_.e3.l_.e0, I r_3.2.2.queues_.e3.l_.e1, I r_3.2.2.queues_.e3.l_.e2, I r_3.2.2.queues_.e3.l_.e3]]]])]) (by kernel_rfl) [0,1,2,3,4,5,6,9,15,16,22,48,49,51,52,53,54,58,59,68] (fun s => yd x0 x1 yv YY x16 r_ x23 x24 Channel_e x59 r_3 s) (fun s => yd x0 x1 yv YY x16 r_ x23 x24 Channel_e x59 r_3 s) (fun s => Code.ret) ((fun (x : Int × ze) (_ : Bool) (_ : Value) => [(eI .i64) x.1, vN x.2])) (F := @yn r_3.1 r_3.2.1 r_3.2.2) (fun s x => yX x1 yy x16 x23 x24 x59 s x.1 x.2) sg4 t6 _ h0 inferInstance (by kernel_rfl) (by decide) (fun _ => rfl) (fun _ => rfl) (by kernel_rfl) (fun _ _ _ => rfl) (jq hC r_3.1 r_3.2.1 r_3.2.2) ht6 ?_ ?_
          ·rintro tv6 sg6 ⟨x69, x70⟩ vr lr4 hf4
           refine z0m (sz := 110) (k := 0) (u := tv6 0) (v := yv) (ps := List.map (fun t => (t, tv6 t)) [1,2,3,4,5,6,9,15,16,22,48,49,51,52,53,54,58,59,68] ++ (List.map (fun t => (t, tv3 t)) [1,2,3,4,15,16,22] ++ ([(0, yv)]))) rfl (by simp) ?_
           replace hf4 : yX x1 yy x16 x23 x24 x59 sg6 x69 x70 = some lr4 := hf4
           unfold yX at hf4
           refine yF X0 hC .normal [(0, .own (.opq (YY sg6).q)), (1, .d (.sptr (xj x0))), (2, .d (.sptr (yV x1))), (3, .own (.box (.atom yv))), (4, .own (.box (I x16))), (5, .own (.box (I x23))), (6, .own (.box (vN x24))), (9, .own (.box (I x59))), (10, .d (I x69)), (11, .own (.box (vN x70))), (15, .d (I ((x0.Parts.length : Nat) : Int))), (16, .d (I x16)), (22, .d (.fn 103 [.sptr (.agg [I r_.1.Messages, I r_.1.Labels, eSl 1 false (eI .i64) r_.1.Channels, eSl 3 false vb r_.1.Parts]), .sptr (I r_.2.1), .sptr (.agg [.agg [I r_.2.2.states_.e0, I r_.2.2.states_.e1, I r_.2.2.states_.e2, I r_.2.2.states_.e3], .agg [.agg [I r_.2.2.queues_.e0.many_, .agg [I r_.2.2.queues_.e0.l_.e0, I r_.2.2.queues_.e0.l_.e1, I r_.2.2.queues_.e0.l_.e2, I r_.2.2.queues_.e0.l_.e3]], .agg [I r_.2.2.queues_.e1.many_, .agg [I r_.2.2.queues_.e1.l_.e0, I r_.2.2.queues_.e1.l_.e1, I r_.2.2.queues_.e1.l_.e2, I r_.2.2.queues_.e1.l_.e3]], .agg [I r_.2.2.queues_.e2.many_, .agg [I r_.2.2.queues_.e2.l_.e0, I r_.2.2.queues_.e2.l_.e1, I r_.2.2.queues_.e2.l_.e2, I r_.2.2.queues_.e2.l_.e3]], .agg [I r_.2.2.queues_.e3.many_, .agg [I r_.2.2.queues_.e3.l_.e0, I r_.2.2.queues_.e3.l_.e1, I r_.2.2.queues_.e3.l_.e2, I r_.2.2.queues_.e3.l_.e3]]]])])), (48, .d (.sptr (eSl 1 false (eI .i64) x0.Channels))), (49, .d (eSl 1 false (eI .i64) x0.Channels)), (51, .d (I x24.Channel)), (52, .d (.sptr (I Channel_e))), (53, .d (I Channel_e)), (54, .d (B (decide (Channel_e > 0)))), (58, .d (I ((x0.Parts.length : Nat) : Int))), (59, .d (I x59)), (68, .d (.fn 103 [.sptr (.agg [I r_3.1.Messages, I r_3.1.Labels, eSl 1 false (eI .i64) r_3.1.Channels, eSl 3 false vb r_3.1.Parts]), .sptr (I r_3.2.1), .sptr (.agg [.agg [I r_3.2.2.states_.e0, I r_3.2.2.states_.e1, I r_3.2.2.states_.e2, I r_3.2.2.states_.e3], .agg [.agg [I r_3.2.2.queues_.e0.many_, .agg [I r_3.2.2.queues_.e0.l_.e0, I r_3.2.2.queues_.e0.l_.e1, I r_3.2.2.queues_.e0.l_.e2, I r_3.2.2.queues_.e0.l_.e3]], .agg [I r_3.2.2.queues_.e1.many_, .agg [I r_3.2.2.queues_.e1.l_.e0, I r_3.2.2.queues_.e1.l_.e1, I r_3.2.2.queues_.e1.l_.e2, I r_3.2.2.queues_.e1.l_.e3]], .agg [I r_3.2.2.queues_.e2.many_, .agg [I r_3.2.2.queues_.e2.l_.e0, I r_3.2.2.queues_.e2.l_.e1, I r_3.2.2.queues_.e2.l_.e2, I r_3.2.2.queues_.e2.l_.e3]], .agg [I r_3.2.2.queues_.e3.many_, .agg [I r_3.2.2.queues_.e3.l_.e0, I r_3.2.2.queues_.e3.l_.e1, I r_3.2.2.queues_.e3.l_.e2, I r_3.2.2.queues_.e3.l_.e3]]]])]))] [] fun st0 h0 => ⟨rfl, z2r h0 ?_⟩
           refine z0m (sz := 110) (k := 0) (u := tv6 0) (v := yv) (ps := List.map (fun t => (t, tv6 t)) [1,2,3,4,5,6,9,15,16,22,48,49,51,52,53,54,58,59,68] ++ (List.map (fun t => (t, tv3 t)) [1,2,3,4,15,16,22] ++ ([(0, yv)]))) rfl (by simp) ?_
           rcases y9 hf4 with ⟨c7, hf4⟩ | ⟨c7, hf4⟩
           ·obtain rfl := zm hf4
            exact yF X0 hC .normal (yd x0 x1 yv YY x16 r_ x23 x24 Channel_e x59 r_3 sg6) (rpN 6 (Hq c7) (rpN 7 qT [])) fun st0 h0 => ⟨rfl, _, h0, LeL.refl _⟩
           ·let Z3 : List HO := (rpN 6 (Hq c7) [])
            rcases y9 hf4 with ⟨c8, hf4⟩ | ⟨c8, hf4⟩
            ·obtain rfl := zm hf4
             exact yF X0 hC .normal (yd x0 x1 yv YY x16 r_ x23 x24 Channel_e x59 r_3 sg6) (Z3 ++ (rpN 6 (Hq c8) [qT])) fun st0 h0 => ⟨rfl, _, h0, LeL.refl _⟩
            ·let Z4 : List HO := (Z3 ++ (rpN 6 (Hq c8) []))
             rcases y9 hf4 with ⟨c9, hf4⟩ | ⟨c9, hf4⟩
             ·obtain rfl := zm hf4
              exact yF X0 hC .normal (yd x0 x1 yv YY x16 r_ x23 x24 Channel_e x59 r_3 sg6) (Z4 ++ [Hq c9]) fun st0 h0 => ⟨rfl, _, h0, LeL.refl _⟩
             ·refine yA X0 hC zB [1,1,0,0,1,1,2,0,1,1,0,1,0,1,1,1,1,0,0,1,1,2,0,1,1,1,0,1,0,1,1] [J1, J2, J4, J5] [(0, .own (.opq (YY sg6).q)), (1, .d (.sptr (xj x0))), (2, .d (.sptr (yV x1))), (3, .own (.box (.atom yv))), (4, .own (.box (I x16))), (5, .own (.box (I x23))), (6, .own (.box (vN x24))), (9, .own (.box (I x59))), (10, .d (I x69)), (11, .own (.box (vN x70))), (12, .own (.box (yV x1))), (15, .d (I ((x0.Parts.length : Nat) : Int))), (16, .d (I x16)), (22, .d (.fn 103 [.sptr (.agg [I r_.1.Messages, I r_.1.Labels, eSl 1 false (eI .i64) r_.1.Channels, eSl 3 false vb r_.1.Parts]), .sptr (I r_.2.1), .sptr (.agg [.agg [I r_.2.2.states_.e0, I r_.2.2.states_.e1, I r_.2.2.states_.e2, I r_.2.2.states_.e3], .agg [.agg [I r_.2.2.queues_.e0.many_, .agg [I r_.2.2.queues_.e0.l_.e0, I r_.2.2.queues_.e0.l_.e1, I r_.2.2.queues_.e0.l_.e2, I r_.2.2.queues_.e0.l_.e3]], .agg [I r_.2.2.queues_.e1.many_, .agg [I r_.2.2.queues_.e1.l_.e0, I r_.2.2.queues_.e1.l_.e1, I r_.2.2.queues_.e1.l_.e2, I r_.2.2.queues_.e1.l_.e3]], .agg [I r_.2.2.queues_.e2.many_, .agg [I r_.2.2.queues_.e2.l_.e0, I r_.2.2.queues_.e2.l_.e1, I r_.2.2.queues_.e2.l_.e2, I r_.2.2.queues_.e2.l_.e3]], .agg [I r_.2.2.queues_.e3.many_, .agg [I r_.2.2.queues_.e3.l_.e0, I r_.2.2.queues_.e3.l_.e1, I r_.2.2.queues_.e3.l_.e2, I r_.2.2.queues_.e3.l_.e3]]]])])), (48, .d (.sptr (eSl 1 false (eI .i64) x0.Channels))), (49, .d (eSl 1 false (eI .i64) x0.Channels)), (51, .d (I x24.Channel)), (52, .d (.sptr (I Channel_e))), (53, .d (I Channel_e)), (54, .d (B (decide (Channel_e > 0)))), (58, .d (I ((x0.Parts.length : Nat) : Int))), (59, .d (I x59)), (68, .d (.fn 103 [.sptr (.agg [I r_3.1.Messages, I r_3.1.Labels, eSl 1 false (eI .i64) r_3.1.Channels, eSl 3 false vb r_3.1.Parts]), .sptr (I r_3.2.1), .sptr (.agg [.agg [I r_3.2.2.states_.e0, I r_3.2.2.states_.e1, I r_3.2.2.states_.e2, I r_3.2.2.states_.e3], .agg [.agg [I r_3.2.2.queues_.e0.many_, .agg [I r_3.2.2.queues_.e0.l_.e0, I r_3.2.2.queues_.e0.l_.e1, I r_3.2.2.queues_.e0.l_.e2, I r_3.2.2.queues_.e0.l_.e3]], .agg [I r_3.2.2.queues_.e1.many_, .agg [I r_3.2.2.queues_.e1.l_.e0, I r_3.2.2.queues_.e1.l_.e1, I r_3.2.2.queues_.e1.l_.e2, I r_3.2.2.queues_.e1.l_.e3]], .agg [I r_3.2.2.queues_.e2.many_, .agg [I r_3.2.2.queues_.e2.l_.e0, I r_3.2.2.queues_.e2.l_.e1, I r_3.2.2.queues_.e2.l_.e2, I r_3.2.2.queues_.e2.l_.e3]], .agg [I r_3.2.2.queues_.e3.many_, .agg [I r_3.2.2.queues_.e3.l_.e0, I r_3.2.2.queues_.e3.l_.e1, I r_3.2.2.queues_.e3.l_.e2, I r_3.2.2.queues_.e3.l_.e3]]]])])), (76, .d (I x70.Channel)), (78, .d (I x24.Channel)), (79, .d (B (x70.Channel != x24.Channel))), (83, .d (I x70.Message)), (85, .d (I x24.Message)), (86, .d (B (x70.Message != x24.Message)))] (Z4 ++ [Hq c9, Hh (.cut 1)]) ?_
              obtain ⟨cell, h6, hf4⟩ := zq hf4
              obtain ⟨arr, h7, hf4⟩ := zq hf4
              replace h7 := zm h7
              obtain ⟨cell1, h8, hf4⟩ := zq hf4
              obtain ⟨arr1, h9, hf4⟩ := zq hf4
              replace h9 := zm h9
              refine z5b (by kernel_rfl) (x := (sub [1,1,0,0,1,1,2,0,1,1,0,1,0,1,1,1,1,0,0,1,1,2,0,1,1,1,0,1,0,1,1,0] zB)) (y := (sub [1,1,0,0,1,1,2,0,1,1,0,1,0,1,1,1,1,0,0,1,1,2,0,1,1,1,0,1,0,1,1,1] zB)) 12 (fun st1 => Own.canon [0,1,2,3,4,5,6,9,10,12,15,16,22,48,49,51,52,53,54,58,59,68,76,78,79,83,85,86] st1 = ofL [(0, .own (.opq (YY sg6).q)), (1, .d (.sptr (xj x0))), (2, .d (.sptr (yV x1))), (3, .own (.box (.atom yv))), (4, .own (.box (I x16))), (5, .own (.box (I x23))), (6, .own (.box (vN x24))), (9, .own (.box (I x59))), (10, .d (I x69)), (12, .own (.box (.agg [F0_ arr1, z9v x1.queues_]))), (15, .d (I ((x0.Parts.length : Nat) : Int))), (16, .d (I x16)), (22, .d (.fn 103 [.sptr (.agg [I r_.1.Messages, I r_.1.Labels, eSl 1 false (eI .i64) r_.1.Channels, eSl 3 false vb r_.1.Parts]), .sptr (I r_.2.1), .sptr (.agg [.agg [I r_.2.2.states_.e0, I r_.2.2.states_.e1, I r_.2.2.states_.e2, I r_.2.2.states_.e3], .agg [.agg [I r_.2.2.queues_.e0.many_, .agg [I r_.2.2.queues_.e0.l_.e0, I r_.2.2.queues_.e0.l_.e1, I r_.2.2.queues_.e0.l_.e2, I r_.2.2.queues_.e0.l_.e3]], .agg [I r_.2.2.queues_.e1.many_, .agg [I r_.2.2.queues_.e1.l_.e0, I r_.2.2.queues_.e1.l_.e1, I r_.2.2.queues_.e1.l_.e2, I r_.2.2.queues_.e1.l_.e3]], .agg [I r_.2.2.queues_.e2.many_, .agg [I r_.2.2.queues_.e2.l_.e0, I r_.2.2.queues_.e2.l_.e1, I r_.2.2.queues_.e2.l_.e2, I r_.2.2.queues_.e2.l_.e3]], .agg [I r_.2.2.queues_.e3.many_, .agg [I r_.2.2.queues_.e3.l_.e0, I r_.2.2.queues_.e3.l_.e1, I r_.2.2.queues_.e3.l_.e2, I r_.2.2.queues_.e3.l_.e3]]]])])), (48, .d (.sptr (eSl 1 false (eI .i64) x0.Channels))), (49, .d (eSl 1 false (eI .i64) x0.Channels)), (51, .d (I x24.Channel)), (52, .d (.sptr (I Channel_e))), (53, .d (I Channel_e)), (54, .d (B (decide (Channel_e > 0)))), (58, .d (I ((x0.Parts.length : Nat) : Int))), (59, .d (I x59)), (68, .d (.fn 103 [.sptr (.agg [I r_3.1.Messages, I r_3.1.Labels, eSl 1 false (eI .i64) r_3.1.Channels, eSl 3 false vb r_3.1.Parts]), .sptr (I r_3.2.1), .sptr (.agg [.agg [I r_3.2.2.states_.e0, I r_3.2.2.states_.e1, I r_3.2.2.states_.e2, I r_3.2.2.states_.e3], .agg [.agg [I r_3.2.2.queues_.e0.many_, .agg [I r_3.2.2.queues_.e0.l_.e0, I r_3.2.2.queues_.e0.l_.e1, I r_3.2.2.queues_.e0.l_.e2, I r_3.2.2.queues_.e0.l_.e3]], .agg [I r_3.2.2.queues_.e1.many_, .agg [I r_3.2.2.queues_.e1.l_.e0, I r_3.2.2.queues_.e1.l_.e1, I r_3.2.2.queues_.e1.l_.e2, I r_3.2.2.queues_.e1.l_.e3]], .agg [I r_3.2.2.queues_.e2.many_, .agg [I r_3.2.2.queues_.e2.l_.e0, I r_3.2.2.queues_.e2.l_.e1, I r_3.2.2.queues_.e2.l_.e2, I r_3.2.2.queues_.e2.l_.e3]], .agg [I r_3.2.2.queues_.e3.many_, .agg [I r_3.2.2.queues_.e3.l_.e0, I r_3.2.2.queues_.e3.l_.e1, I r_3.2.2.queues_.e3.l_.e2, I r_3.2.2.queues_.e3.l_.e3]]]])])), (76, .d (I x70.Channel)), (78, .d (I x24.Channel)), (79, .d (B (x70.Channel != x24.Channel))), (83, .d (I x70.Message)), (85, .d (I x24.Message)), (86, .d (B (x70.Message != x24.Message)))]) ⟨_, rfl⟩ (fun b12 => yF ((xIa zZ 98 12 0 b12).or ((xFa zZ 97 12 0 b12).or ((xIa zZ 96 12 0 b12).or ((xFa zZ 95 12 0 b12).or X0)))) hC .normal [(0, .own (.opq (YY sg6).q)), (1, .d (.sptr (xj x0))), (2, .d (.sptr (yV x1))), (3, .own (.box (.atom yv))), (4, .own (.box (I x16))), (5, .own (.box (I x23))), (6, .own (.box (vN x24))), (9, .own (.box (I x59))), (10, .d (I x69)), (12, .own (.box (.agg [F0_ arr1, z9v x1.queues_]))), (15, .d (I ((x0.Parts.length : Nat) : Int))), (16, .d (I x16)), (22, .d (.fn 103 [.sptr (.agg [I r_.1.Messages, I r_.1.Labels, eSl 1 false (eI .i64) r_.1.Channels, eSl 3 false vb r_.1.Parts]), .sptr (I r_.2.1), .sptr (.agg [.agg [I r_.2.2.states_.e0, I r_.2.2.states_.e1, I r_.2.2.states_.e2, I r_.2.2.states_.e3], .agg [.agg [I r_.2.2.queues_.e0.many_, .agg [I r_.2.2.queues_.e0.l_.e0, I r_.2.2.queues_.e0.l_.e1, I r_.2.2.queues_.e0.l_.e2, I r_.2.2.queues_.e0.l_.e3]], .agg [I r_.2.2.queues_.e1.many_, .agg [I r_.2.2.queues_.e1.l_.e0, I r_.2.2.queues_.e1.l_.e1, I r_.2.2.queues_.e1.l_.e2, I r_.2.2.queues_.e1.l_.e3]], .agg [I r_.2.2.queues_.e2.many_, .agg [I r_.2.2.queues_.e2.l_.e0, I r_.2.2.queues_.e2.l_.e1, I r_.2.2.queues_.e2.l_.e2, I r_.2.2.queues_.e2.l_.e3]], .agg [I r_.2.2.queues_.e3.many_, .agg [I r_.2.2.queues_.e3.l_.e0, I r_.2.2.queues_.e3.l_.e1, I r_.2.2.queues_.e3.l_.e2, I r_.2.2.queues_.e3.l_.e3]]]])])), (48, .d (.sptr (eSl 1 false (eI .i64) x0.Channels))), (49, .d (eSl 1 false (eI .i64) x0.Channels)), (51, .d (I x24.Channel)), (52, .d (.sptr (I Channel_e))), (53, .d (I Channel_e)), (54, .d (B (decide (Channel_e > 0)))), (58, .d (I ((x0.Parts.length : Nat) : Int))), (59, .d (I x59)), (68, .d (.fn 103 [.sptr (.agg [I r_3.1.Messages, I r_3.1.Labels, eSl 1 false (eI .i64) r_3.1.Channels, eSl 3 false vb r_3.1.Parts]), .sptr (I r_3.2.1), .sptr (.agg [.agg [I r_3.2.2.states_.e0, I r_3.2.2.states_.e1, I r_3.2.2.states_.e2, I r_3.2.2.states_.e3], .agg [.agg [I r_3.2.2.queues_.e0.many_, .agg [I r_3.2.2.queues_.e0.l_.e0, I r_3.2.2.queues_.e0.l_.e1, I r_3.2.2.queues_.e0.l_.e2, I r_3.2.2.queues_.e0.l_.e3]], .agg [I r_3.2.2.queues_.e1.many_, .agg [I r_3.2.2.queues_.e1.l_.e0, I r_3.2.2.queues_.e1.l_.e1, I r_3.2.2.queues_.e1.l_.e2, I r_3.2.2.queues_.e1.l_.e3]], .agg [I r_3.2.2.queues_.e2.many_, .agg [I r_3.2.2.queues_.e2.l_.e0, I r_3.2.2.queues_.e2.l_.e1, I r_3.2.2.queues_.e2.l_.e2, I r_3.2.2.queues_.e2.l_.e3]], .agg [I r_3.2.2.queues_.e3.many_, .agg [I r_3.2.2.queues_.e3.l_.e0, I r_3.2.2.queues_.e3.l_.e1, I r_3.2.2.queues_.e3.l_.e2, I r_3.2.2.queues_.e3.l_.e3]]]])])), (76, .d (I x70.Channel)), (78, .d (I x24.Channel)), (79, .d (B (x70.Channel != x24.Channel))), (83, .d (I x70.Message)), (85, .d (I x24.Message)), (86, .d (B (x70.Message != x24.Message)))] [Hn (rfl : some (z12 b12) = some (z12 b12)), Hn (⟨rfl, rfl⟩ : T.d (.atom (.pointer (some ⟨b12,0, none⟩))) = T.d (.atom (.pointer (some ⟨b12,0, none⟩))) ∧ some (z12 b12) = some (z12 b12)), Hn (⟨arJ (by kernel_rfl) (i0 h6), (iL (eI .i64) h6).2⟩ : YE xS 110 ((y8.toL x1.states_).map (eI .i64)) x16 = true ∧ x16.toNat < ((y8.toL x1.states_).map (eI .i64)).length), Hh (.op 8), Hh (.f), Hx (.a (.agg [I x1.states_.e0, I x1.states_.e1, I x1.states_.e2, I x1.states_.e3])) (rfl : some (.agg [I x1.states_.e0, I x1.states_.e1, I x1.states_.e2, I x1.states_.e3] : A) = some (.agg [I x1.states_.e0, I x1.states_.e1, I x1.states_.e2, I x1.states_.e3])), Hh (.f), Hs (iM (eI .i64) h6), Hh (.f), Hx (.a (.agg [I x1.states_.e0, I x1.states_.e1, I x1.states_.e2, I x1.states_.e3])) (rfl : some (.agg [I x1.states_.e0, I x1.states_.e1, I x1.states_.e2, I x1.states_.e3] : A) = some (.agg [I x1.states_.e0, I x1.states_.e1, I x1.states_.e2, I x1.states_.e3])), Hh (.f), Hs (iM (eI .i64) h6), Hx (.l ((y8.toL arr).map (eI .i64))) ((y8.setL (eI .i64) x1.states_ x16 x24.To).trans (congrArg (fun q => (y8.toL q).map (eI .i64)) h7)), Hx (.l [.agg [I arr.e0, I arr.e1, I arr.e2, I arr.e3], .agg [.agg [I x1.queues_.e0.many_, .agg [I x1.queues_.e0.l_.e0, I x1.queues_.e0.l_.e1, I x1.queues_.e0.l_.e2, I x1.queues_.e0.l_.e3]], .agg [I x1.queues_.e1.many_, .agg [I x1.queues_.e1.l_.e0, I x1.queues_.e1.l_.e1, I x1.queues_.e1.l_.e2, I x1.queues_.e1.l_.e3]], .agg [I x1.queues_.e2.many_, .agg [I x1.queues_.e2.l_.e0, I x1.queues_.e2.l_.e1, I x1.queues_.e2.l_.e2, I x1.queues_.e2.l_.e3]], .agg [I x1.queues_.e3.many_, .agg [I x1.queues_.e3.l_.e0, I x1.queues_.e3.l_.e1, I x1.queues_.e3.l_.e2, I x1.queues_.e3.l_.e3]]]]) (rfl : ([.agg [I arr.e0, I arr.e1, I arr.e2, I arr.e3], .agg [.agg [I x1.queues_.e0.many_, .agg [I x1.queues_.e0.l_.e0, I x1.queues_.e0.l_.e1, I x1.queues_.e0.l_.e2, I x1.queues_.e0.l_.e3]], .agg [I x1.queues_.e1.many_, .agg [I x1.queues_.e1.l_.e0, I x1.queues_.e1.l_.e1, I x1.queues_.e1.l_.e2, I x1.queues_.e1.l_.e3]], .agg [I x1.queues_.e2.many_, .agg [I x1.queues_.e2.l_.e0, I x1.queues_.e2.l_.e1, I x1.queues_.e2.l_.e2, I x1.queues_.e2.l_.e3]], .agg [I x1.queues_.e3.many_, .agg [I x1.queues_.e3.l_.e0, I x1.queues_.e3.l_.e1, I x1.queues_.e3.l_.e2, I x1.queues_.e3.l_.e3]]]] : List A) = [.agg [I arr.e0, I arr.e1, I arr.e2, I arr.e3], .agg [.agg [I x1.queues_.e0.many_, .agg [I x1.queues_.e0.l_.e0, I x1.queues_.e0.l_.e1, I x1.queues_.e0.l_.e2, I x1.queues_.e0.l_.e3]], .agg [I x1.queues_.e1.many_, .agg [I x1.queues_.e1.l_.e0, I x1.queues_.e1.l_.e1, I x1.queues_.e1.l_.e2, I x1.queues_.e1.l_.e3]], .agg [I x1.queues_.e2.many_, .agg [I x1.queues_.e2.l_.e0, I x1.queues_.e2.l_.e1, I x1.queues_.e2.l_.e2, I x1.queues_.e2.l_.e3]], .agg [I x1.queues_.e3.many_, .agg [I x1.queues_.e3.l_.e0, I x1.queues_.e3.l_.e1, I x1.queues_.e3.l_.e2, I x1.queues_.e3.l_.e3]]]]), Hn (rfl : some (z12 b12) = some (z12 b12)), Hn (⟨rfl, rfl⟩ : T.d (.atom (.pointer (some ⟨b12,0, none⟩))) = T.d (.atom (.pointer (some ⟨b12,0, none⟩))) ∧ some (z12 b12) = some (z12 b12)), Hn (⟨arJ (by kernel_rfl) (i0 h8), (iL (eI .i64) h8).2⟩ : YE xS 110 ((y8.toL arr).map (eI .i64)) x59 = true ∧ x59.toNat < ((y8.toL arr).map (eI .i64)).length), Hh (.op 2), Hh (.f), Hx (.a (.agg [I arr.e0, I arr.e1, I arr.e2, I arr.e3])) (rfl : some (.agg [I arr.e0, I arr.e1, I arr.e2, I arr.e3] : A) = some (.agg [I arr.e0, I arr.e1, I arr.e2, I arr.e3])), Hh (.f), Hs (iM (eI .i64) h8), Hh (.f), Hx (.a (.agg [I arr.e0, I arr.e1, I arr.e2, I arr.e3])) (rfl : some (.agg [I arr.e0, I arr.e1, I arr.e2, I arr.e3] : A) = some (.agg [I arr.e0, I arr.e1, I arr.e2, I arr.e3])), Hh (.f), Hs (iM (eI .i64) h8), Hx (.l ((y8.toL arr1).map (eI .i64))) ((y8.setL (eI .i64) arr x59 x70.To).trans (congrArg (fun q => (y8.toL q).map (eI .i64)) h9)), Hx (.l [.agg [I arr1.e0, I arr1.e1, I arr1.e2, I arr1.e3], .agg [.agg [I x1.queues_.e0.many_, .agg [I x1.queues_.e0.l_.e0, I x1.queues_.e0.l_.e1, I x1.queues_.e0.l_.e2, I x1.queues_.e0.l_.e3]], .agg [I x1.queues_.e1.many_, .agg [I x1.queues_.e1.l_.e0, I x1.queues_.e1.l_.e1, I x1.queues_.e1.l_.e2, I x1.queues_.e1.l_.e3]], .agg [I x1.queues_.e2.many_, .agg [I x1.queues_.e2.l_.e0, I x1.queues_.e2.l_.e1, I x1.queues_.e2.l_.e2, I x1.queues_.e2.l_.e3]], .agg [I x1.queues_.e3.many_, .agg [I x1.queues_.e3.l_.e0, I x1.queues_.e3.l_.e1, I x1.queues_.e3.l_.e2, I x1.queues_.e3.l_.e3]]]]) (rfl : ([.agg [I arr1.e0, I arr1.e1, I arr1.e2, I arr1.e3], .agg [.agg [I x1.queues_.e0.many_, .agg [I x1.queues_.e0.l_.e0, I x1.queues_.e0.l_.e1, I x1.queues_.e0.l_.e2, I x1.queues_.e0.l_.e3]], .agg [I x1.queues_.e1.many_, .agg [I x1.queues_.e1.l_.e0, I x1.queues_.e1.l_.e1, I x1.queues_.e1.l_.e2, I x1.queues_.e1.l_.e3]], .agg [I x1.queues_.e2.many_, .agg [I x1.queues_.e2.l_.e0, I x1.queues_.e2.l_.e1, I x1.queues_.e2.l_.e2, I x1.queues_.e2.l_.e3]], .agg [I x1.queues_.e3.many_, .agg [I x1.queues_.e3.l_.e0, I x1.queues_.e3.l_.e1, I x1.queues_.e3.l_.e2, I x1.queues_.e3.l_.e3]]]] : List A) = [.agg [I arr1.e0, I arr1.e1, I arr1.e2, I arr1.e3], .agg [.agg [I x1.queues_.e0.many_, .agg [I x1.queues_.e0.l_.e0, I x1.queues_.e0.l_.e1, I x1.queues_.e0.l_.e2, I x1.queues_.e0.l_.e3]], .agg [I x1.queues_.e1.many_, .agg [I x1.queues_.e1.l_.e0, I x1.queues_.e1.l_.e1, I x1.queues_.e1.l_.e2, I x1.queues_.e1.l_.e3]], .agg [I x1.queues_.e2.many_, .agg [I x1.queues_.e2.l_.e0, I x1.queues_.e2.l_.e1, I x1.queues_.e2.l_.e2, I x1.queues_.e2.l_.e3]], .agg [I x1.queues_.e3.many_, .agg [I x1.queues_.e3.l_.e0, I x1.queues_.e3.l_.e1, I x1.queues_.e3.l_.e2, I x1.queues_.e3.l_.e3]]]])] fun st0 h0 => ⟨rfl, h0⟩) fun st1 h1 => z2r h1 ?_
              obtain ⟨yr1, h10, hf4⟩ := zq hf4
              let Z5 : List HO := [Hn (⟨rfl, rfl, _, rfl⟩ : T.own (.box (.atom yv)) = T.own (.box (.atom yv)) ∧ some yv = some yv ∧ ∃ x, T.own (.opq (YY sg6).q) = T.own x), Hn (z1U (yv := yv) (Y := YY) (enc := (fun (x : z8 × zb) (_ : Bool) (_ : Value) => [wB x.1, yV x.2])) (s := sg6) (x := ((z8.mk x16 x23 x59 x69), (zb.mk arr1 x1.queues_))) (s' := yr1.1) (b := yr1.2) (v := .nilFunc) [wB (z8.mk x16 x23 x59 x69), yV (zb.mk arr1 x1.queues_)] (show KC [wB (z8.mk x16 x23 x59 x69), yV (zb.mk arr1 x1.queues_)] [wB (z8.mk x16 x23 x59 x69), yV (zb.mk arr1 x1.queues_)] from inferInstance))]
              rcases y9 hf4 with ⟨c10, hf4⟩ | ⟨c10, hf4⟩
              ·obtain rfl := zm hf4
               exact yF ((Kb (P := Tryz.prog) xS hy 106 (s := sg6) (x := ((z8.mk x16 x23 x59 x69), (zb.mk arr1 x1.queues_))) (s' := yr1.1) (b := yr1.2) .nilFunc h10).or ((xLy zZ 99 3 0 yv).or X0)) hC .ret (yd x0 x1 yv YY x16 r_ x23 x24 Channel_e x59 r_3 yr1.1) (Z5 ++ [Hq c10]) fun st0 h0 => ⟨rfl, _, h0, LeL.refl _⟩
              ·obtain rfl := zm hf4
               exact yF ((Kb (P := Tryz.prog) xS hy 106 (s := sg6) (x := ((z8.mk x16 x23 x59 x69), (zb.mk arr1 x1.queues_))) (s' := yr1.1) (b := yr1.2) .nilFunc h10).or ((xLy zZ 99 3 0 yv).or X0)) hC .normal (yd x0 x1 yv YY x16 r_ x23 x24 Channel_e x59 r_3 yr1.1) (Z5 ++ [Hq c10]) fun st0 h0 => ⟨rfl, _, h0, LeL.refl _⟩
          ·rcases t6 with sg6 | sg6
           ·dsimp only at hf3
            exact Vs (by kernel_rfl) (hJ5 _ [(0, .own (.opq (YY sg6).q)), (1, .d (.sptr (xj x0))), (2, .d (.sptr (yV x1))), (3, .own (.box (.atom yv))), (4, .own (.box (I x16))), (5, .own (.box (I x23))), (6, .own (.box (vN x24))), (15, .d (I ((x0.Parts.length : Nat) : Int))), (16, .d (I x16)), (22, .d (.fn 103 [.sptr (.agg [I r_.1.Messages, I r_.1.Labels, eSl 1 false (eI .i64) r_.1.Channels, eSl 3 false vb r_.1.Parts]), .sptr (I r_.2.1), .sptr (.agg [.agg [I r_.2.2.states_.e0, I r_.2.2.states_.e1, I r_.2.2.states_.e2, I r_.2.2.states_.e3], .agg [.agg [I r_.2.2.queues_.e0.many_, .agg [I r_.2.2.queues_.e0.l_.e0, I r_.2.2.queues_.e0.l_.e1, I r_.2.2.queues_.e0.l_.e2, I r_.2.2.queues_.e0.l_.e3]], .agg [I r_.2.2.queues_.e1.many_, .agg [I r_.2.2.queues_.e1.l_.e0, I r_.2.2.queues_.e1.l_.e1, I r_.2.2.queues_.e1.l_.e2, I r_.2.2.queues_.e1.l_.e3]], .agg [I r_.2.2.queues_.e2.many_, .agg [I r_.2.2.queues_.e2.l_.e0, I r_.2.2.queues_.e2.l_.e1, I r_.2.2.queues_.e2.l_.e2, I r_.2.2.queues_.e2.l_.e3]], .agg [I r_.2.2.queues_.e3.many_, .agg [I r_.2.2.queues_.e3.l_.e0, I r_.2.2.queues_.e3.l_.e1, I r_.2.2.queues_.e3.l_.e2, I r_.2.2.queues_.e3.l_.e3]]]])])), (48, .d (.sptr (eSl 1 false (eI .i64) x0.Channels))), (49, .d (eSl 1 false (eI .i64) x0.Channels)), (51, .d (I x24.Channel)), (52, .d (.sptr (I Channel_e))), (53, .d (I Channel_e)), (54, .d (B (decide (Channel_e > 0)))), (58, .d (I ((x0.Parts.length : Nat) : Int))), (59, .d (I x59))] sg6 hf3 (show Own.canon [0,1,2,3,4,5,6,15,16,22,48,49,51,52,53,54,58,59] _ = ofL _ by kernel_rfl) inferInstance)
           ·dsimp only at hf3
            show AWP _ _ (Code.ret) _ _
            obtain rfl := zm hf3
            obtain rfl := hl3
            obtain rfl := zm hf2
            exact yF X0 hC .ret (y3 x0 x1 yv YY x16 r_ sg6) [] fun st0 h0 => ⟨rfl, _, h0, LeL.refl _⟩
       ·obtain rfl := zm hf3
        obtain rfl := hl3
        obtain rfl := zm hf2
        exact yF X0 hC .normal (y3 x0 x1 yv YY x16 r_ sg4) [Hq c5] fun st0 h0 => ⟨rfl, _, h0, LeL.refl _⟩
   ·rcases t3 with sg3 | sg3
    ·dsimp only at hf1
     exact Vs (by kernel_rfl) (hJ2 _ [(0, .own (.opq (YY sg3).q)), (1, .d (.sptr (xj x0))), (2, .d (.sptr (yV x1))), (3, .own (.box (.atom yv))), (15, .d (I ((x0.Parts.length : Nat) : Int))), (16, .d (I x16))] sg3 hf1 (show Own.canon [0,1,2,3,15,16] _ = ofL _ by kernel_rfl) inferInstance)
    ·dsimp only at hf1
     show AWP _ _ (Code.ret) _ _
     obtain rfl := zm hf1
     obtain rfl := hl1
     obtain rfl := zm hf0
     exact yF X0 hC .ret [(0, .own (.opq (YY sg3).q))] [] fun st0 h0 => hE _ st0 (.inr rfl) h0
 ·obtain rfl := zm hf1
  obtain rfl := hl1
  obtain rfl := zm hf0
  exact yF X0 hC .normal [(0, .own (.opq (YY sg1).q))] [Hq c0] fun st0 h0 => hE _ st0 (.inl rfl) h0
def uU : Code := (Tryz.f71.body).getD .skip
def x7 : yZ := spF (α := List z6) (ρ := List z6) 71 (fun x => [ko x]) (fun r => wz r) (fun x => yb x) [] (UQ)
theorem qe {ctr : Ctr} (hC : zW Tryz.prog ctr) : x7.Ok Tryz.prog := by
 refine ya ?_
 rintro s_ r0 hf0
 try unfold yb at hf0
 refine yO true [(2, none)] uU 9 Tryz.func71 fun E hE => ?_
 obtain ⟨g0, hf0⟩ := gdE hf0
 obtain rfl := zm hf0
 exact yE X0 hC hE [Ha (lnM uR s_), Ha (lnM uR s_), Hn (slB g0), Hn (slC g0), Hn (z3l uR g0), Ha (z9x 5 uR s_ 0 ((s_.length : Nat) : Int).toNat)]
def u2 : Code := (Tryz.f72.body).getD .skip
def zN : yZ := spR (α := List (List z6)) (ρ := List (List z6)) 72 (fun x => [(eOs 1 false wz) x]) (fun r => (eOs 1 true wz) r) (fun x => yi x) [true] (UQ)
theorem vW : ∀ x r, (fun x => yi x) x = some r → (JI.add zN).run 72 ((JI.add zN).norm 72 ((fun x => [(eOs 1 false wz) x]) x)) = some ((fun r => (eOs 1 true wz) r) r) := fun x r h => zg8 h rfl
theorem vX : (JI.add zN).lend 72 = none ∧ (JI.add zN).gives 72 = [true] := zdg
theorem u6 {ctr : Ctr} (hC : zW Tryz.prog ctr) : zN.Ok Tryz.prog := by
 refine zac ?_
 rintro s_ r0 hf0
 try unfold yi at hf0
 refine yO true [(2, none)] u2 9 Tryz.func72 fun E hE => ?_
 obtain rfl := zm hf0
 exact yE ((xCl zZ 8).or X0) hC hE [Ha (lnM wz s_), Ha (lnM wz s_), Hn (Int.natCast_nonneg _ : (0 : Int) ≤ ((s_.length : Nat) : Int)), Hn (Int.natCast_nonneg _ : (0 : Int) ≤ ((s_.length : Nat) : Int)), Hn (clB wz s_), Ha (clE 1 wz s_)]
def y6 : Code := (Tryz.f41.body).getD .skip
def xX : yZ := spF (α := za) (ρ := List zb × List (List z6) × Int) 41 (fun x => [xj x]) (fun r => .tup [(eSl 24 false yV) r.1, z2v r.2.1, (eI .i64) r.2.2]) (fun x => yj x) [] (UQ)
abbrev ZX (x4 : Int) (list : List zb) (steps : List (List z6)) : List (Nat × T) := [(2, .own (.box (eOs 24 true yV []))), (3, .own (.box (eOs 1 true ko []))), (4, .own (.box (I x4))), (5, .own (.box (eOs 24 false yV list))), (7, .own (eOs 1 false wz steps))]
abbrev ZW (x_ : za) (i_ : Int) (x42 : Int) (list2 : List zb) (at_1 : List (zb × Int)) (steps2 : List (List z6)) : List (Nat × T) := [(1, .own (.box (xj x_))), (2, .own (.box (eOs 24 true yV []))), (3, .own (.box (eOs 1 true ko []))), (4, .own (.box (I x42))), (5, .own (.box (eOs 24 false yV list2))), (6, .own (.box (.opq (YZ (Yn yV (eI .i64) at_1))))), (7, .own (eOs 1 false wz steps2)), (8, .d (I i_))]
abbrev ZV (x_ : za) (steps1 : List (List z6)) (i_ : Int) (x43 : Int) (list3 : List zb) (at_2 : List (zb × Int)) (l_ : List z6) : List (Nat × T) := [(1, .own (.box (xj x_))), (2, .own (.box (eOs 24 true yV []))), (3, .own (.box (eOs 1 true ko []))), (4, .own (.box (I x43))), (5, .own (.box (eOs 24 false yV list3))), (6, .own (.box (.opq (YZ (Yn yV (eI .i64) at_2))))), (7, .own (eOs 1 false wz steps1)), (8, .d (I i_)), (9, .own (.box (eOs 5 false uR l_)))]
abbrev wb (x_ : za) (steps1 : List (List z6)) (i_ : Int) (r_2 : za × zb) (x44 : Int) (list4 : List zb) (at_3 : List (zb × Int)) (l_1 : List z6) : List (Nat × T) := [(1, .own (.box (xj x_))), (2, .own (.box (eOs 24 true yV []))), (3, .own (.box (eOs 1 true ko []))), (4, .own (.box (I x44))), (5, .own (.box (eOs 24 false yV list4))), (6, .own (.box (.opq (YZ (Yn yV (eI .i64) at_3))))), (7, .own (eOs 1 false wz steps1)), (8, .d (I i_)), (9, .own (.box (eOs 5 false uR l_1))), (30, .d (.fn 82 [.sptr (.agg [I r_2.1.Messages, I r_2.1.Labels, eSl 1 false (eI .i64) r_2.1.Channels, eSl 3 false vb r_2.1.Parts]), .sptr (.agg [.agg [I r_2.2.states_.e0, I r_2.2.states_.e1, I r_2.2.states_.e2, I r_2.2.states_.e3], .agg [.agg [I r_2.2.queues_.e0.many_, .agg [I r_2.2.queues_.e0.l_.e0, I r_2.2.queues_.e0.l_.e1, I r_2.2.queues_.e0.l_.e2, I r_2.2.queues_.e0.l_.e3]], .agg [I r_2.2.queues_.e1.many_, .agg [I r_2.2.queues_.e1.l_.e0, I r_2.2.queues_.e1.l_.e1, I r_2.2.queues_.e1.l_.e2, I r_2.2.queues_.e1.l_.e3]], .agg [I r_2.2.queues_.e2.many_, .agg [I r_2.2.queues_.e2.l_.e0, I r_2.2.queues_.e2.l_.e1, I r_2.2.queues_.e2.l_.e2, I r_2.2.queues_.e2.l_.e3]], .agg [I r_2.2.queues_.e3.many_, .agg [I r_2.2.queues_.e3.l_.e0, I r_2.2.queues_.e3.l_.e1, I r_2.2.queues_.e3.l_.e2, I r_2.2.queues_.e3.l_.e3]]]])]))]
abbrev ZU (x_ : za) (steps1 : List (List z6)) (i_ : Int) (r_2 : za × zb) (x44 : Int) (l_1 : List z6) (x31 : z8) (list5 : List zb) (at_4 : List (zb × Int)) (n_ : Int) : List (Nat × T) := [(1, .own (.box (xj x_))), (2, .own (.box (eOs 24 true yV []))), (3, .own (.box (eOs 1 true ko []))), (4, .own (.box (I x44))), (5, .own (.box (eOs 24 false yV list5))), (6, .own (.box (.opq (YZ (Yn yV (eI .i64) at_4))))), (7, .own (eOs 1 false wz steps1)), (8, .d (I i_)), (9, .own (.box (eOs 5 false uR l_1))), (10, .own (.box (wB x31))), (12, .d (I n_)), (30, .d (.fn 82 [.sptr (.agg [I r_2.1.Messages, I r_2.1.Labels, eSl 1 false (eI .i64) r_2.1.Channels, eSl 3 false vb r_2.1.Parts]), .sptr (.agg [.agg [I r_2.2.states_.e0, I r_2.2.states_.e1, I r_2.2.states_.e2, I r_2.2.states_.e3], .agg [.agg [I r_2.2.queues_.e0.many_, .agg [I r_2.2.queues_.e0.l_.e0, I r_2.2.queues_.e0.l_.e1, I r_2.2.queues_.e0.l_.e2, I r_2.2.queues_.e0.l_.e3]], .agg [I r_2.2.queues_.e1.many_, .agg [I r_2.2.queues_.e1.l_.e0, I r_2.2.queues_.e1.l_.e1, I r_2.2.queues_.e1.l_.e2, I r_2.2.queues_.e1.l_.e3]], .agg [I r_2.2.queues_.e2.many_, .agg [I r_2.2.queues_.e2.l_.e0, I r_2.2.queues_.e2.l_.e1, I r_2.2.queues_.e2.l_.e2, I r_2.2.queues_.e2.l_.e3]], .agg [I r_2.2.queues_.e3.many_, .agg [I r_2.2.queues_.e3.l_.e0, I r_2.2.queues_.e3.l_.e1, I r_2.2.queues_.e3.l_.e2, I r_2.2.queues_.e3.l_.e3]]]])]))]
abbrev ZT (x_ : za) (x41 : Int) (list1 : List zb) (at_ : List (zb × Int)) (steps1 : List (List z6)) (i_ : Int) : List (Nat × T) := [(1, .own (.box (xj x_))), (2, .own (.box (eOs 24 true yV []))), (3, .own (.box (eOs 1 true ko []))), (4, .own (.box (I x41))), (5, .own (.box (eOs 24 false yV list1))), (6, .own (.box (.opq (YZ (Yn yV (eI .i64) at_))))), (7, .own (eOs 1 false wz steps1)), (8, .d (I i_))]
theorem Xq {ctr : Ctr} (hC : zW Tryz.prog ctr) (h0M : ctr.Has uk) (h0d : ctr.Has v7) (h0i : ctr.Has v6) (h0j : ctr.Has Y2) (h0p : ctr.Has x7) : xX.Ok Tryz.prog := by
 refine ya ?_
 rintro x_ r0 hf0
 try unfold yj at hf0
 refine yO false [(2, some 103), (3, some 32), (4, some 40)] y6 66 Tryz.func41 fun E hE => ?_
 refine yJ ((zfs z4o 16 (Yn yV (eI .i64) ([] : List (zb × Int))) (Yn yV (eI .i64) (JU ([] : List (zb × Int)) (zb.mk (y8.mk 0 0 0 0) (y8.mk (zi.mk 0 (y8.mk 0 0 0 0)) (zi.mk 0 (y8.mk 0 0 0 0)) (zi.mk 0 (y8.mk 0 0 0 0)) (zi.mk 0 (y8.mk 0 0 0 0)))) 0))).or ((zcA Tryz.prog 16).or X0)) hC y6 [1,1,1] [] [2,3,4,5,7] (fun z : Int × List zb × List (List z6) => ud z.1 z.2.1 z.2.2 = some r0) (fun z => ZX z.1 z.2.1 z.2.2) [(1, .own (.box (xj x_))), (2, .own (.box (eOs 24 true yV []))), (3, .own (.box (eOs 1 true ko []))), (4, .own (.box (I 0))), (5, .own (.box (eOs 24 true yV ([(zb.mk (y8.mk 0 0 0 0) (y8.mk (zi.mk 0 (y8.mk 0 0 0 0)) (zi.mk 0 (y8.mk 0 0 0 0)) (zi.mk 0 (y8.mk 0 0 0 0)) (zi.mk 0 (y8.mk 0 0 0 0))))])))), (6, .own (.box (.opq (YZ (Yn yV (eI .i64) (JU ([] : List (zb × Int)) (zb.mk (y8.mk 0 0 0 0) (y8.mk (zi.mk 0 (y8.mk 0 0 0 0)) (zi.mk 0 (y8.mk 0 0 0 0)) (zi.mk 0 (y8.mk 0 0 0 0)) (zi.mk 0 (y8.mk 0 0 0 0)))) 0)))))), (7, .own (eOs 1 true ko []))] [Hn (⟨rfl, rfl, rfl, rfl, z4T (fun _ => rfl) ([] : List (zb × Int))⟩ : T.own (.opq (YZ (Yn yV (eI .i64) ([] : List (zb × Int))))) = T.own (.opq (YZ (Yn yV (eI .i64) ([] : List (zb × Int))))) ∧ 1 = 1 ∧ (Jo [.i64, .i64, .i64, .i64, .i64, .i64, .i64, .i64, .i64, .i64, .i64, .i64, .i64, .i64, .i64, .i64, .i64, .i64, .i64, .i64, .i64, .i64, .i64, .i64]) (yV (zb.mk (y8.mk 0 0 0 0) (y8.mk (zi.mk 0 (y8.mk 0 0 0 0)) (zi.mk 0 (y8.mk 0 0 0 0)) (zi.mk 0 (y8.mk 0 0 0 0)) (zi.mk 0 (y8.mk 0 0 0 0))))) = true ∧ ((eI .i64) 0).isD = true ∧ ∀ p ∈ Yn yV (eI .i64) ([] : List (zb × Int)), (Jo [.i64, .i64, .i64, .i64, .i64, .i64, .i64, .i64, .i64, .i64, .i64, .i64, .i64, .i64, .i64, .i64, .i64, .i64, .i64, .i64, .i64, .i64, .i64, .i64]) p.1 = true), Hn (z44 (f := yV) (g := (eI .i64)) (zb.mk (y8.mk 0 0 0 0) (y8.mk (zi.mk 0 (y8.mk 0 0 0 0)) (zi.mk 0 (y8.mk 0 0 0 0)) (zi.mk 0 (y8.mk 0 0 0 0)) (zi.mk 0 (y8.mk 0 0 0 0)))) 0 ([] : List (zb × Int))), Hh (.cut 3)] ?_ fun J1 hJ1 => ?_
 ·rintro ⟨x4, list, steps⟩ hf0
  unfold ud at hf0
  obtain ⟨r_, h0, hf0⟩ := zq hf0
  obtain rfl := zm hf0
  exact yE ((z1P zZ (u6 hC) 65).or X0) hC hE [Hh (.g [true]), Hn vX, Hx (.a ((eOs 1 true wz) r_)) (vW steps _ h0), Hm (shM yV yV list), Hm (shM wz wz r_)]
 ·obtain ⟨t2, ht2, hf0⟩ := zq hf0
  refine yLx X0 hC y6 [1,1,1,2,1,0] [J1] (fun s => xV x_ s.1 s.2.1 s.2.2.1 s.2.2.2.1 s.2.2.2.2) (fun x => ZT x_ x.1 x.2.1 x.2.2.1 x.2.2.2.1 x.2.2.2.2) (0, ([(zb.mk (y8.mk 0 0 0 0) (y8.mk (zi.mk 0 (y8.mk 0 0 0 0)) (zi.mk 0 (y8.mk 0 0 0 0)) (zi.mk 0 (y8.mk 0 0 0 0)) (zi.mk 0 (y8.mk 0 0 0 0))))] : List zb), (JU ([] : List (zb × Int)) (zb.mk (y8.mk 0 0 0 0) (y8.mk (zi.mk 0 (y8.mk 0 0 0 0)) (zi.mk 0 (y8.mk 0 0 0 0)) (zi.mk 0 (y8.mk 0 0 0 0)) (zi.mk 0 (y8.mk 0 0 0 0)))) 0), ([] : List (List z6)), 0) ht2 [(1, .own (.box (xj x_))), (2, .own (.box (eOs 24 true yV []))), (3, .own (.box (eOs 1 true ko []))), (4, .own (.box (I 0))), (5, .own (.box (eOs 24 true yV ([(zb.mk (y8.mk 0 0 0 0) (y8.mk (zi.mk 0 (y8.mk 0 0 0 0)) (zi.mk 0 (y8.mk 0 0 0 0)) (zi.mk 0 (y8.mk 0 0 0 0)) (zi.mk 0 (y8.mk 0 0 0 0))))])))), (6, .own (.box (.opq (YZ (Yn yV (eI .i64) (JU ([] : List (zb × Int)) (zb.mk (y8.mk 0 0 0 0) (y8.mk (zi.mk 0 (y8.mk 0 0 0 0)) (zi.mk 0 (y8.mk 0 0 0 0)) (zi.mk 0 (y8.mk 0 0 0 0)) (zi.mk 0 (y8.mk 0 0 0 0)))) 0)))))), (7, .own (eOs 1 true wz [])), (8, .d (I 0))] inferInstance [] ?_
  rintro ⟨x41, list1, at_, steps1, i_⟩ m2 lr1 hf1 hl1 J2 hJ2
  try unfold xV at hf1
  let Z0 : List HO := [Ha (lnM yV list1)]
  rcases y9 hf1 with ⟨c0, hf1⟩ | ⟨c0, hf1⟩
  ·refine yJ X0 hC y6 [1,1,1,2,1,0,0,1] [J1, J2] [1,2,3,4,5,6,7,8] (fun z : Int × List zb × (List (zb × Int)) × List (List z6) => wP i_ z.1 z.2.1 z.2.2.1 z.2.2.2 = some lr1) (fun z => ZW x_ i_ z.1 z.2.1 z.2.2.1 z.2.2.2) [(1, .own (.box (xj x_))), (2, .own (.box (eOs 24 true yV []))), (3, .own (.box (eOs 1 true ko []))), (4, .own (.box (I x41))), (5, .own (.box (eOs 24 false yV list1))), (6, .own (.box (.opq (YZ (Yn yV (eI .i64) at_))))), (7, .own (eOs 1 false wz steps1)), (8, .d (I i_))] (Z0 ++ [Hq c0, Hh (.cut 0)]) ?_ fun J3 hJ3 => ?_
   ·rintro ⟨x42, list2, at_1, steps2⟩ hf1
    unfold wP at hf1
    obtain rfl := zm hf1
    exact yB X0 hC hJ2 (x42, list2, at_1, steps2, w64 (i_ + 1)) hl1 []
   ·refine yJ X0 hC y6 [1,1,1,2,1,0,0,1,2,0,1] [J1, J2, J3] [1,2,3,4,5,6,7,8,9] (fun z : Int × List zb × (List (zb × Int)) × List z6 => xW steps1 i_ z.1 z.2.1 z.2.2.1 z.2.2.2 = some lr1) (fun z => ZV x_ steps1 i_ z.1 z.2.1 z.2.2.1 z.2.2.2) [(1, .own (.box (xj x_))), (2, .own (.box (eOs 24 true yV []))), (3, .own (.box (eOs 1 true ko []))), (4, .own (.box (I x41))), (5, .own (.box (eOs 24 false yV list1))), (6, .own (.box (.opq (YZ (Yn yV (eI .i64) at_))))), (7, .own (eOs 1 false wz steps1)), (8, .d (I i_)), (9, .own (.box (eOs 5 true uR [])))] [Hh (.cut 1)] ?_ fun J4 hJ4 => ?_
    ·rintro ⟨x43, list3, at_2, l_⟩ hf1
     unfold xW at hf1
     obtain ⟨r_1, h1, hf1⟩ := zq hf1
     obtain ⟨g0, hf1⟩ := gdE hf1
     exact yB X0 hC hJ3 (x43, list3, at_2, (steps1 ++ ([r_1] : List (List z6)))) hf1 [Hg (z1L h0p), Hm (shM uR uR l_), Hs (z1M h0p (x := l_) h1 (loC ko l_ <| loN)), Hm (shM uR uR l_), Hq (dM wz ([r_1] : List (List z6))), Hn (dM wz ([r_1] : List (List z6))), Hn (aL wz wz g0), Hl (aM wz steps1 ([r_1] : List (List z6)))]
    ·obtain ⟨list_e, h2, hf1⟩ := zq hf1
     obtain ⟨r_2, h3, hf1⟩ := zq hf1
     obtain ⟨t5, ht5, hf1⟩ := zq hf1
     refine yAt X0 hC (sub [1,1,1,2,1,0,0,1,2,0,1,2,1,0] y6) (frs [1,1,1,2,1,0,0,1,2,0,1,2,1,0] [J1, J2, J3, J4] y6 []) [(1, .own (.box (xj x_))), (2, .own (.box (eOs 24 true yV []))), (3, .own (.box (eOs 1 true ko []))), (4, .own (.box (I x41))), (5, .own (.box (eOs 24 false yV list1))), (6, .own (.box (.opq (YZ (Yn yV (eI .i64) at_))))), (7, .own (eOs 1 false wz steps1)), (8, .d (I i_)), (9, .own (.box (eOs 5 true uR []))), (30, .d (.fn 82 [.sptr (.agg [I r_2.1.Messages, I r_2.1.Labels, eSl 1 false (eI .i64) r_2.1.Channels, eSl 3 false vb r_2.1.Parts]), .sptr (.agg [.agg [I r_2.2.states_.e0, I r_2.2.states_.e1, I r_2.2.states_.e2, I r_2.2.states_.e3], .agg [.agg [I r_2.2.queues_.e0.many_, .agg [I r_2.2.queues_.e0.l_.e0, I r_2.2.queues_.e0.l_.e1, I r_2.2.queues_.e0.l_.e2, I r_2.2.queues_.e0.l_.e3]], .agg [I r_2.2.queues_.e1.many_, .agg [I r_2.2.queues_.e1.l_.e0, I r_2.2.queues_.e1.l_.e1, I r_2.2.queues_.e1.l_.e2, I r_2.2.queues_.e1.l_.e3]], .agg [I r_2.2.queues_.e2.many_, .agg [I r_2.2.queues_.e2.l_.e0, I r_2.2.queues_.e2.l_.e1, I r_2.2.queues_.e2.l_.e2, I r_2.2.queues_.e2.l_.e3]], .agg [I r_2.2.queues_.e3.many_, .agg [I r_2.2.queues_.e3.l_.e0, I r_2.2.queues_.e3.l_.e1, I r_2.2.queues_.e3.l_.e2, I r_2.2.queues_.e3.l_.e3]]]])]))] [Hn (iL yV h2), Hs (iM yV h2), Hc h0M (x := (x_, list_e)) h3 (loC xj x_ <| loC yV list_e <| loN)] fun st0 h0 => ?_
     refine z2s (g := .tmp 30) (ps := [31,32]) (assign := (sub [1,1,1,2,1,0,0,1,2,0,1,2,1,0,0] y6)) (body := (sub [1,1,1,2,1,0,0,1,2,0,1,2,1,0,1] y6)) (K := 82) (caps := [.sptr (.agg [I r_2.1.Messages, I r_2.1.Labels, eSl 1 false (eI .i64) r_2.1.Channels, eSl 3 false vb r_2.1.Parts]), .sptr (.agg [.agg [I r_2.2.states_.e0, I r_2.2.states_.e1, I r_2.2.states_.e2, I r_2.2.states_.e3], .agg [.agg [I r_2.2.queues_.e0.many_, .agg [I r_2.2.queues_.e0.l_.e0, I r_2.2.queues_.e0.l_.e1, I r_2.2.queues_.e0.l_.e2, I r_2.2.queues_.e0.l_.e3]], .agg [I r_2.2.queues_.e1.many_, .agg [I r_2.2.queues_.e1.l_.e0, I r_2.2.queues_.e1.l_.e1, I r_2.2.queues_.e1.l_.e2, I r_2.2.queues_.e1.l_.e3]], .agg [I r_2.2.queues_.e2.many_, .agg [I r_2.2.queues_.e2.l_.e0, I r_2.2.queues_.e2.l_.e1, I r_2.2.queues_.e2.l_.e2, I r_2.2.queues_.e2.l_.e3]], .agg [I r_2.2.queues_.e3.many_, .agg [I r_2.2.queues_.e3.l_.e0, I r_2.2.queues_.e3.l_.e1, I r_2.2.queues_.e3.l_.e2, I r_2.2.queues_.e3.l_.e3]]]])]) (by kernel_rfl) [1,2,3,4,5,6,7,8,9,30] (fun s => wb x_ steps1 i_ r_2 s.1 s.2.1 s.2.2.1 s.2.2.2) (fun s => wb x_ steps1 i_ r_2 s.1 s.2.1 s.2.2.1 s.2.2.2) (fun s => Code.ret) ((fun (x : z8 × zb) (_ : Bool) (_ : Value) => [wB x.1, yV x.2])) (F := @xv r_2.1 r_2.2) (fun s x => zL s.1 s.2.1 s.2.2.1 s.2.2.2 x.1 x.2) (x41, list1, at_, ([] : List z6)) t5 _ h0 inferInstance (by kernel_rfl) (by decide) (fun _ => rfl) (fun _ => rfl) (by kernel_rfl) (fun _ _ _ => rfl) (Yu hC h0d h0i h0j r_2.1 r_2.2) ht5 ?_ ?_
     ·rintro tv5 ⟨x44, list4, at_3, l_1⟩ ⟨x31, x32⟩ vr lr2 hf2
      replace hf2 : zL x44 list4 at_3 l_1 x31 x32 = some lr2 := hf2
      unfold zL at hf2
      refine yF X0 hC .normal [(1, .own (.box (xj x_))), (2, .own (.box (eOs 24 true yV []))), (3, .own (.box (eOs 1 true ko []))), (4, .own (.box (I x44))), (5, .own (.box (eOs 24 false yV list4))), (6, .own (.box (.opq (YZ (Yn yV (eI .i64) at_3))))), (7, .own (eOs 1 false wz steps1)), (8, .d (I i_)), (9, .own (.box (eOs 5 false uR l_1))), (10, .own (.box (wB x31))), (11, .own (.box (yV x32))), (30, .d (.fn 82 [.sptr (.agg [I r_2.1.Messages, I r_2.1.Labels, eSl 1 false (eI .i64) r_2.1.Channels, eSl 3 false vb r_2.1.Parts]), .sptr (.agg [.agg [I r_2.2.states_.e0, I r_2.2.states_.e1, I r_2.2.states_.e2, I r_2.2.states_.e3], .agg [.agg [I r_2.2.queues_.e0.many_, .agg [I r_2.2.queues_.e0.l_.e0, I r_2.2.queues_.e0.l_.e1, I r_2.2.queues_.e0.l_.e2, I r_2.2.queues_.e0.l_.e3]], .agg [I r_2.2.queues_.e1.many_, .agg [I r_2.2.queues_.e1.l_.e0, I r_2.2.queues_.e1.l_.e1, I r_2.2.queues_.e1.l_.e2, I r_2.2.queues_.e1.l_.e3]], .agg [I r_2.2.queues_.e2.many_, .agg [I r_2.2.queues_.e2.l_.e0, I r_2.2.queues_.e2.l_.e1, I r_2.2.queues_.e2.l_.e2, I r_2.2.queues_.e2.l_.e3]], .agg [I r_2.2.queues_.e3.many_, .agg [I r_2.2.queues_.e3.l_.e0, I r_2.2.queues_.e3.l_.e1, I r_2.2.queues_.e3.l_.e2, I r_2.2.queues_.e3.l_.e3]]]])]))] [] fun st0 h0 => ⟨rfl, z2r h0 ?_⟩
      obtain ⟨val, h4, hf2⟩ := zq hf2
      replace h4 := zm h4
      refine yJ ((zcB z4o 36 (Yn yV (eI .i64) at_3)).or X0) hC y6 [1,1,1,2,1,0,0,1,2,0,1,2,1,0,1,0,1] [J1, J2, J3, J4] [1,2,3,4,5,6,7,8,9,10,12,30] (fun z : List zb × (List (zb × Int)) × Int => xk x44 l_1 x31 z.1 z.2.1 z.2.2 = some lr2) (fun z => ZU x_ steps1 i_ r_2 x44 l_1 x31 z.1 z.2.1 z.2.2) [(1, .own (.box (xj x_))), (2, .own (.box (eOs 24 true yV []))), (3, .own (.box (eOs 1 true ko []))), (4, .own (.box (I x44))), (5, .own (.box (eOs 24 false yV list4))), (6, .own (.box (.opq (YZ (Yn yV (eI .i64) at_3))))), (7, .own (eOs 1 false wz steps1)), (8, .d (I i_)), (9, .own (.box (eOs 5 false uR l_1))), (10, .own (.box (wB x31))), (11, .own (.box (yV x32))), (12, .d (I val)), (13, .d (B ((JV at_3 x32).isSome))), (30, .d (.fn 82 [.sptr (.agg [I r_2.1.Messages, I r_2.1.Labels, eSl 1 false (eI .i64) r_2.1.Channels, eSl 3 false vb r_2.1.Parts]), .sptr (.agg [.agg [I r_2.2.states_.e0, I r_2.2.states_.e1, I r_2.2.states_.e2, I r_2.2.states_.e3], .agg [.agg [I r_2.2.queues_.e0.many_, .agg [I r_2.2.queues_.e0.l_.e0, I r_2.2.queues_.e0.l_.e1, I r_2.2.queues_.e0.l_.e2, I r_2.2.queues_.e0.l_.e3]], .agg [I r_2.2.queues_.e1.many_, .agg [I r_2.2.queues_.e1.l_.e0, I r_2.2.queues_.e1.l_.e1, I r_2.2.queues_.e1.l_.e2, I r_2.2.queues_.e1.l_.e3]], .agg [I r_2.2.queues_.e2.many_, .agg [I r_2.2.queues_.e2.l_.e0, I r_2.2.queues_.e2.l_.e1, I r_2.2.queues_.e2.l_.e2, I r_2.2.queues_.e2.l_.e3]], .agg [I r_2.2.queues_.e3.many_, .agg [I r_2.2.queues_.e3.l_.e0, I r_2.2.queues_.e3.l_.e1, I r_2.2.queues_.e3.l_.e2, I r_2.2.queues_.e3.l_.e3]]]])]))] [Hn (⟨rfl, rfl, z4T (fun _ => rfl) at_3⟩ : A.opq (YZ (Yn yV (eI .i64) at_3)) = A.opq (YZ (Yn yV (eI .i64) at_3)) ∧ (Jo [.i64, .i64, .i64, .i64, .i64, .i64, .i64, .i64, .i64, .i64, .i64, .i64, .i64, .i64, .i64, .i64, .i64, .i64, .i64, .i64, .i64, .i64, .i64, .i64]) (yV x32) = true ∧ ∀ p ∈ Yn yV (eI .i64) at_3, (Jo [.i64, .i64, .i64, .i64, .i64, .i64, .i64, .i64, .i64, .i64, .i64, .i64, .i64, .i64, .i64, .i64, .i64, .i64, .i64, .i64, .i64, .i64, .i64, .i64]) p.1 = true), Hx (.a (.tup [I val, B ((JV at_3 x32).isSome)])) ((zg9 (f := yV) (g := (eI .i64)) (z0 := 0) (z := .atom (.int .i64 0)) rfl x32 at_3).trans (congrArg (fun x => A.tup [(eI .i64) x, .atom (.bool (JV at_3 x32).isSome)]) h4)), Hh (.cut 0)] ?_ fun J6 hJ6 => ?_
      ·rintro ⟨list5, at_4, n_⟩ hf2
       unfold xk at hf2
       obtain ⟨g1, hf2⟩ := gdE hf2
       obtain rfl := zm hf2
       exact yF X0 hC .normal (wb x_ steps1 i_ r_2 x44 list5 at_4 (l_1 ++ ([(z6.mk x31 n_)] : List z6))) [Hq (dM uR ([(z6.mk x31 n_)] : List z6)), Hn (dM uR ([(z6.mk x31 n_)] : List z6)), Hn (aL uR uR g1), Hl (aM uR l_1 ([(z6.mk x31 n_)] : List z6))] fun st0 h0 => ⟨rfl, _, h0, LeL.refl _⟩
      ·rcases y9 hf2 with ⟨c1, hf2⟩ | ⟨c1, hf2⟩
       ·let Z1 : List HO := [Hq c1, Ha (lnM yV list4)]
        rcases y9 hf2 with ⟨c2, hf2⟩ | ⟨c2, hf2⟩
        ·obtain rfl := zm hf2
         exact yF X0 hC .ret (wb x_ steps1 i_ r_2 3 list4 at_3 l_1) (Z1 ++ [Hq c2]) fun st0 h0 => ⟨rfl, _, h0, LeL.refl _⟩
        ·obtain ⟨g2, hf2⟩ := gdE hf2
         exact yB ((zcy z4o 45 (Yn yV (eI .i64) at_3) (Yn yV (eI .i64) (JU at_3 x32 ((list4.length : Nat) : Int)))).or X0) hC hJ6 ((list4 ++ ([x32] : List zb)), (JU at_3 x32 ((list4.length : Nat) : Int)), ((list4.length : Nat) : Int)) hf2 (Z1 ++ [Hq c2, Hq (dM yV ([x32] : List zb)), Hn (dM yV ([x32] : List zb)), Hn (aL yV yV g2), Hl (aM yV list4 ([x32] : List zb)), Hn (⟨rfl, ⟨rfl, rfl⟩, rfl, rfl, z4T (fun _ => rfl) at_3⟩ : T.own (.box (.opq (YZ (Yn yV (eI .i64) at_3)))) = T.own (.box (.opq (YZ (Yn yV (eI .i64) at_3)))) ∧ (0 = 0 ∧ 0 = 0) ∧ (Jo [.i64, .i64, .i64, .i64, .i64, .i64, .i64, .i64, .i64, .i64, .i64, .i64, .i64, .i64, .i64, .i64, .i64, .i64, .i64, .i64, .i64, .i64, .i64, .i64]) (yV x32) = true ∧ ((eI .i64) ((list4.length : Nat) : Int)).isD = true ∧ ∀ p ∈ Yn yV (eI .i64) at_3, (Jo [.i64, .i64, .i64, .i64, .i64, .i64, .i64, .i64, .i64, .i64, .i64, .i64, .i64, .i64, .i64, .i64, .i64, .i64, .i64, .i64, .i64, .i64, .i64, .i64]) p.1 = true), Hn (z44 (f := yV) (g := (eI .i64)) x32 ((list4.length : Nat) : Int) at_3)])
       ·exact yB X0 hC hJ6 (list4, at_3, val) hf2 [Hq c1]
     ·rcases t5 with ⟨x44, list4, at_3, l_1⟩ | z
      ·dsimp only at hf1
       exact Vs (by kernel_rfl) (hJ4 _ [(1, .own (.box (xj x_))), (2, .own (.box (eOs 24 true yV []))), (3, .own (.box (eOs 1 true ko []))), (4, .own (.box (I x44))), (5, .own (.box (eOs 24 false yV list4))), (6, .own (.box (.opq (YZ (Yn yV (eI .i64) at_3))))), (7, .own (eOs 1 false wz steps1)), (8, .d (I i_)), (9, .own (.box (eOs 5 false uR l_1)))] (x44, list4, at_3, l_1) hf1 (show Own.canon [1,2,3,4,5,6,7,8,9] _ = ofL _ by kernel_rfl) inferInstance)
      ·obtain ⟨x44, list4, at_3, l_1⟩ := z
       dsimp only at hf1
       show AWP _ _ (Code.ret) _ _
       obtain rfl := zm hf1
       obtain rfl := hl1
       obtain rfl := zm hf0
       exact yEx X0 hC hE [Hm (shM yV yV []), Hm (shM ko ko [])] (.tup [eSl 24 true yV [], eSl 1 true wz [], I x44]) (show LeV (.tup [eSl 24 true yV [], eSl 1 true wz [], I x44]) (.tup [eSl 24 false yV ([] : List zb), eSl 1 true wz ([] : List (List z6)), I x44]) from inferInstance)
  ·obtain rfl := zm hf1
   obtain rfl := hl1
   exact yB X0 hC hJ1 (x41, list1, steps1) hf0 (Z0 ++ [Hq c0])
def Xe : Code := (Tryz.f75.body).getD .skip
def un : yZ := spF (α := List Int) (ρ := List Int) 75 (fun x => [F2_ x]) (fun r => F3_ r) (fun x => w7 x) [] (UQ)
theorem Xs {ctr : Ctr} (hC : zW Tryz.prog ctr) : un.Ok Tryz.prog := by
 refine ya ?_
 rintro s_ r0 hf0
 try unfold w7 at hf0
 refine yO true [(2, none)] Xe 8 Tryz.func75 fun E hE => ?_
 refine z9o rfl 0 (sz := 1) (t := false) (es := s_.map (eI .i64)) (by kernel_rfl) fun pv0 hv0 hn => ?_
 rcases hn with ⟨hn0, he0⟩ | hn0
 ·obtain ⟨_, hf0⟩ := gdE hf0
  rw [show s_ = [] from List.map_eq_nil_iff.1 he0] at hf0
  obtain rfl := zm hf0
  exact yEx ((zed zZ 4 26 (by kernel_rfl) hn0).or ((xMv Tryz.prog 3 0 pv0 hv0).or X0)) hC hE [Hn (rfl : some pv0 = some pv0), Hn (⟨rfl, rfl⟩ : T.d (.atom pv0) = T.d (.atom pv0) ∧ T.d (.atom (.slice none 0 0)) = T.d (.atom (.slice none 0 0))), qT] (eOs 1 true (eI .i64) []) (show LeV (eOs 1 true (eI .i64) []) (eOs 1 false (eI .i64) ([] : List Int)) from inferInstance)
 ·obtain ⟨g0, hf0⟩ := gdE hf0
  obtain rfl := zm hf0
  exact yE ((zed zZ 4 26 (by kernel_rfl) hn0).or ((xMv Tryz.prog 3 0 pv0 hv0).or X0)) hC hE [Hn (rfl : some pv0 = some pv0), Hn (⟨rfl, rfl⟩ : T.d (.atom pv0) = T.d (.atom pv0) ∧ T.d (.atom (.slice none 0 0)) = T.d (.atom (.slice none 0 0))), qF, Hn (dM (eI .i64) s_), Hn (aL (eI .i64) (eI .i64) g0), Hl (aM0 (eI .i64) s_)]
def Xw : Code := (Tryz.f74.body).getD .skip
def uO : yZ := spF (α := List Int) (ρ := List Int) 74 (fun x => [F2_ x]) (fun r => F1_ r) (fun x => wk x) [] (UQ)
theorem XK {ctr : Ctr} (hC : zW Tryz.prog ctr) : uO.Ok Tryz.prog := by
 refine ya ?_
 rintro s_ r0 hf0
 try unfold wk at hf0
 refine yO true [(2, none)] Xw 9 Tryz.func74 fun E hE => ?_
 obtain ⟨g0, hf0⟩ := gdE hf0
 obtain rfl := zm hf0
 exact yE X0 hC hE [Ha (lnM (eI .i64) s_), Ha (lnM (eI .i64) s_), Hn (slB g0), Hn (slC g0), Hn (z3l (eI .i64) g0), Ha (z9x 1 (eI .i64) s_ 0 ((s_.length : Nat) : Int).toNat)]
def u0 : Code := (Tryz.f45.body).getD .skip
def wD : yZ := spF (α := za × zb) (ρ := z7) 45 (fun x => [xj x.1, yV x.2]) (fun r => Qx r) (fun x => xe x.1 x.2) [] (UP)
abbrev ZI (r_1 : List Int) (c_Queues : List (List Int)) : List (Nat × T) := [(4, .own (.box (.agg [eOs 1 true (eI .i64) [], eOs 1 true F2_ []]))), (5, .own (.box (.agg [eSl 1 true (eI .i64) r_1, eOs 1 true F1_ c_Queues])))]
abbrev ZH (x_ : za) (s_ : zb) (r_1 : List Int) (c_Queues1 : List (List Int)) (x23 : Int) : List (Nat × T) := [(3, .d (.sptr (yV s_))), (4, .own (.box (.agg [eOs 1 true (eI .i64) [], eOs 1 true F2_ []]))), (5, .own (.box (.agg [eSl 1 true (eI .i64) r_1, eOs 1 true F1_ c_Queues1]))), (22, .d (I (((List.replicate ((x_.Channels.length : Nat) : Int).toNat ([] : List Int)).length : Nat) : Int))), (23, .d (I x23))]
theorem YF {ctr : Ctr} (hC : zW Tryz.prog ctr) (h0q : ctr.Has un) (h0e : ctr.Has uO) : wD.Ok Tryz.prog := by
 refine ya ?_
 rintro ⟨x_, s_⟩ r0 hf0
 try unfold xe at hf0
 refine yO false [(4, some 39)] u0 42 Tryz.func45 fun E hE => ?_
 obtain ⟨g0, hf0⟩ := gdE hf0
 obtain ⟨r_, h0, hf0⟩ := zq hf0
 obtain ⟨r_1, h1, hf0⟩ := zq hf0
 obtain ⟨g1, hf0⟩ := gdE hf0
 refine yJ ((xMs zZ 18 26).or ((xAh zZ 12).or X0)) hC u0 [1,1] [] [4,5] (fun z : List (List Int) => vQ r_1 z = some r0) (fun z => ZI r_1 z) [(3, .d (.sptr (yV s_))), (4, .own (.box (.agg [eOs 1 true (eI .i64) [], eOs 1 true F2_ []]))), (5, .own (.box (.agg [eSl 1 true (eI .i64) r_1, eOs 1 true F1_ (List.replicate ((x_.Channels.length : Nat) : Int).toNat ([] : List Int))])))] [Hh (.n 2 [3]), Ha (lnM vb x_.Parts), Hn g0.1, Hn (cuB (eI .i64) g0), Hl (cuM (eI .i64) [s_.states_.e0, s_.states_.e1, s_.states_.e2, s_.states_.e3] ((x_.Parts.length : Nat) : Int)), Hc h0q (x := ([s_.states_.e0, s_.states_.e1, s_.states_.e2, s_.states_.e3].take ((x_.Parts.length : Nat) : Int).toNat)) h0 (loC F2_ ([s_.states_.e0, s_.states_.e1, s_.states_.e2, s_.states_.e3].take ((x_.Parts.length : Nat) : Int).toNat) <| loN), Hg (z1L h0e), Hm (shM (eI .i64) (eI .i64) r_), Hs (z1M h0e (x := r_) h1 (loC F2_ r_ <| loN)), Hm (shM (eI .i64) (eI .i64) r_), Ha (lnM (eI .i64) x_.Channels), Hn (rL g1), Ha (rM 1 F1_ ((x_.Channels.length : Nat) : Int) ([] : List Int)), Hh (.cut 0)] ?_ fun J1 hJ1 => ?_
 ·rintro c_Queues hf0
  unfold vQ at hf0
  obtain rfl := zm hf0
  exact yE X0 hC hE [Hm (shM F1_ F1_ c_Queues)]
 ·obtain ⟨t2, ht2, hf0⟩ := zq hf0
  refine yL X0 hC u0 [1,1,2,1,0] [J1] (fun s => xc x_ s_ s.1 s.2) (fun x => ZH x_ s_ r_1 x.1 x.2) ((List.replicate ((x_.Channels.length : Nat) : Int).toNat ([] : List Int)), 0) ht2  [Ha (lnM F1_ (List.replicate ((x_.Channels.length : Nat) : Int).toNat ([] : List Int)))] ?_
  rintro ⟨c_Queues1, x23⟩ m2 lr1 hf1 hl1 J2 hJ2
  try unfold xc at hf1
  rcases y9 hf1 with ⟨c0, hf1⟩ | ⟨c0, hf1⟩
  ·obtain ⟨cell, h2, hf1⟩ := zq hf1
   obtain ⟨g2, hf1⟩ := gdE hf1
   obtain ⟨r_2, h3, hf1⟩ := zq hf1
   obtain ⟨r_3, h4, hf1⟩ := zq hf1
   obtain ⟨c_Queue_e, h5, hf1⟩ := zq hf1
   obtain rfl := zm hf1
   exact yB ((xAh zZ 36).or X0) hC hJ2 ((c_Queues1.set x23.toNat r_3), w64 (x23 + 1)) hl1 [Hq c0, Hs (iM F9_ h2), Hn (arJ (by kernel_rfl) (i0 h2) : YE xS 113 ((y8.toL s_.queues_).map F9_) x23 = true), Hh (.n 0 [7]), Hn g2.1, Hn (cuB (eI .i64) g2), Hl (cuM (eI .i64) [cell.l_.e0, cell.l_.e1, cell.l_.e2, cell.l_.e3] cell.many_), Hc h0q (x := ([cell.l_.e0, cell.l_.e1, cell.l_.e2, cell.l_.e3].take cell.many_.toNat)) h3 (loC F2_ ([cell.l_.e0, cell.l_.e1, cell.l_.e2, cell.l_.e3].take cell.many_.toNat) <| loN), Hg (z1L h0e), Hm (shM (eI .i64) (eI .i64) r_2), Hs (z1M h0e (x := r_2) h4 (loC F2_ r_2 <| loN)), Hm (shM (eI .i64) (eI .i64) r_2), Hn (iL F1_ h5), Hs (iM F1_ h5), Hs (iM F1_ h5), Hl (sM F1_ c_Queues1 x23 r_3)]
  ·obtain rfl := zm hf1
   obtain rfl := hl1
   exact yB X0 hC hJ1 c_Queues1 hf0 [Hq c0]
def ua : Code := (Tryz.f69.body).getD .skip
def yR : yZ := spF (α := List z7) (ρ := List z7) 69 (fun x => [z9t x]) (fun r => z5o r) (fun x => x5 x) [] (UQ)
theorem uc {ctr : Ctr} (hC : zW Tryz.prog ctr) : yR.Ok Tryz.prog := by
 refine ya ?_
 rintro s_ r0 hf0
 try unfold x5 at hf0
 refine yO true [(2, none)] ua 9 Tryz.func69 fun E hE => ?_
 obtain ⟨g0, hf0⟩ := gdE hf0
 obtain rfl := zm hf0
 exact yE X0 hC hE [Ha (lnM xM s_), Ha (lnM xM s_), Hn (slB g0), Hn (slC g0), Hn (z3l xM g0), Ha (z9x 2 xM s_ 0 ((s_.length : Nat) : Int).toNat)]
def kM : Code := (Tryz.f30.body).getD .skip
def kG : yZ := spF (α := za) (ρ := List z7 × List (List z6) × Int) 30 (fun x => [xj x]) (fun r => .tup [z5o r.1, z2v r.2.1, (eI .i64) r.2.2]) (fun x => kT x) [] (UQ)
abbrev WX (r_1 : List zb × List (List z6) × Int) (out : List z7) : List (Nat × T) := [(7, .d (eSl 1 true wz r_1.2.1)), (9, .own (eOs 2 false Qx out))]
abbrev WW (x_ : za) (r_1 : List zb × List (List z6) × Int) (out1 : List z7) (x28 : Int) : List (Nat × T) := [(1, .own (.box (xj x_))), (7, .d (eSl 1 true wz r_1.2.1)), (9, .own (eOs 2 false Qx out1)), (26, .d (eSl 24 false yV r_1.1)), (27, .d (I ((r_1.1.length : Nat) : Int))), (28, .d (I x28))]
theorem QH {ctr : Ctr} (hC : zW Tryz.prog ctr) (h0a : ctr.Has uz) (h0b : ctr.Has xX) (h0k : ctr.Has wD) (h0r : ctr.Has yR) : kG.Ok Tryz.prog := by
 refine ya ?_
 rintro x_ r0 hf0
 try unfold kT at hf0
 refine yO false [(2, none), (3, none), (4, none)] kM 42 Tryz.func30 fun E hE => ?_
 obtain ⟨r_, h0, hf0⟩ := zq hf0
 let Z0 : List HO := [Hc h0a (x := x_) h0 (loC xj x_ <| loN)]
 rcases y9 hf0 with ⟨c0, hf0⟩ | ⟨c0, hf0⟩
 ·obtain rfl := zm hf0
  exact yEx X0 hC hE (Z0 ++ [Hq c0, Hm (shM xM xM []), Hm (shM ko ko [])]) (.tup [eSl 2 true xM [], eSl 1 true wz [], I r_]) (show LeV (.tup [eSl 2 true xM [], eSl 1 true wz [], I r_]) (.tup [eSl 2 true xM ([] : List z7), eSl 1 true wz ([] : List (List z6)), I r_]) from inferInstance)
 ·obtain ⟨r_1, h1, hf0⟩ := zq hf0
  let Z1 : List HO := (Z0 ++ [Hq c0, Hc h0b (x := x_) h1 (loC xj x_ <| loN)])
  rcases y9 hf0 with ⟨c1, hf0⟩ | ⟨c1, hf0⟩
  ·obtain rfl := zm hf0
   exact yEx X0 hC hE (Z1 ++ [Hq c1, Hm (shM xM xM []), Hm (shM ko ko [])]) (.tup [eSl 2 true xM [], eSl 1 true wz [], I r_1.2.2]) (show LeV (.tup [eSl 2 true xM [], eSl 1 true wz [], I r_1.2.2]) (.tup [eSl 2 true xM ([] : List z7), eSl 1 true wz ([] : List (List z6)), I r_1.2.2]) from inferInstance)
  ·refine yJ X0 hC kM [1,1,1,1,1] [] [7,9] (fun z : List z7 => kD r_1 z = some r0) (fun z => WX r_1 z) [(1, .own (.box (xj x_))), (6, .d (eSl 24 false yV r_1.1)), (7, .d (eSl 1 true wz r_1.2.1)), (9, .own (eOs 2 true xM []))] (Z1 ++ [Hq c1, Hh (.cut 1)]) ?_ fun J1 hJ1 => ?_
   ·rintro out hf0
    unfold kD at hf0
    obtain ⟨r_2, h2, hf0⟩ := zq hf0
    obtain rfl := zm hf0
    exact yE X0 hC hE [Hg (z1L h0r), Hm (shM Qx Qx out), Hs (z1M h0r (x := out) h2 (loC (eSl 2 false Qx) out <| loN)), Hm (shM Qx Qx out)]
   ·obtain ⟨t2, ht2, hf0⟩ := zq hf0
    refine yLx X0 hC kM [1,1,1,1,1,2,1,0] [J1] (fun s => kC x_ r_1 s.1 s.2) (fun x => WW x_ r_1 x.1 x.2) (([] : List z7), 0) ht2 [(1, .own (.box (xj x_))), (7, .d (eSl 1 true wz r_1.2.1)), (9, .own (eOs 2 true Qx [])), (26, .d (eSl 24 false yV r_1.1)), (27, .d (I ((r_1.1.length : Nat) : Int))), (28, .d (I 0))] inferInstance [Ha (lnM yV r_1.1)] ?_
    rintro ⟨out1, x28⟩ m2 lr1 hf1 hl1 J2 hJ2
    try unfold kC at hf1
    rcases y9 hf1 with ⟨c2, hf1⟩ | ⟨c2, hf1⟩
    ·obtain ⟨u_, h3, hf1⟩ := zq hf1
     obtain ⟨r_3, h4, hf1⟩ := zq hf1
     obtain ⟨g0, hf1⟩ := gdE hf1
     obtain rfl := zm hf1
     exact yB X0 hC hJ2 ((out1 ++ ([r_3] : List z7)), w64 (x28 + 1)) hl1 [Hq c2, Hi yV h3, Hc h0k (x := (x_, u_)) h4 (loC xj x_ <| loC yV u_ <| loN), Hq (dM Qx ([r_3] : List z7)), Hn (dM Qx ([r_3] : List z7)), Hn (aL Qx Qx g0), Hl (aM Qx out1 ([r_3] : List z7))]
    ·obtain rfl := zm hf1
     obtain rfl := hl1
     exact yB X0 hC hJ1 out1 hf0 [Hq c2]
def JN : Code := (Tryz.f38.body).getD .skip
def Zm : yZ := spF (α := Int × Int × List Int) (ρ := z7) 38 (fun x => [(eI .i64) x.1, (eI .i64) x.2.1, F2_ x.2.2]) (fun r => z7M r) (fun x => vq x.1 x.2.1 x.2.2) [] (zcn)
theorem JZ {ctr : Ctr} (hC : zW Tryz.prog ctr) : Zm.Ok Tryz.prog := by
 refine ya ?_
 rintro ⟨a_, b_, queue⟩ r0 hf0
 try unfold vq at hf0
 refine yO false [(6, some 39)] JN 13 Tryz.func38 fun E hE => ?_
 obtain rfl := zm hf0
 exact yE X0 hC hE [Hm (shM (eI .i64) (eI .i64) ([a_, b_])), Hm (shM F2_ F2_ ([queue]))]
def z0l : Code := (Tryz.f39.body).getD .skip
def YN : yZ := spF (α := Int × Int) (ρ := z8) 39 (fun x => [(eI .i64) x.1, (eI .i64) x.2]) (fun r => wB r) (fun x => uN x.1 x.2) [] (UP)
theorem z0A {ctr : Ctr} (hC : zW Tryz.prog ctr) : YN.Ok Tryz.prog := by
 refine ya ?_
 rintro ⟨part, arc⟩ r0 hf0
 try unfold uN at hf0
 refine yO false [(4, some 65)] z0l 8 Tryz.func39 fun E hE => ?_
 obtain rfl := zm hf0
 exact yE X0 hC hE []
end Go.Own
end
