/- -/
import Derived.Test.YtcldlioffanjaaaGreatDoorPartE
noncomputable section
set_option linter.unusedVariables false
set_option linter.unusedSimpArgs false
namespace Go.Own
open Go.Proofs
set_option maxRecDepth 100000
set_option maxHeartbeats 8000000
def X0 : XH Tryz.prog := xB zQ
theorem W0 : Tryz.prog.follows .mixedOrders = true := by kernel_rfl
section
variable {ctr : Ctr} {n : Fr} {Q : Exit → St → Prop} {c : Code} {fs : List Fm} {st : St}
theorem yE (X : XH Tryz.prog) (hC : zV Tryz.prog ctr) {E : St → Prop} {r : A} {keep : Bool} {rs : List (Nat × Option Nat)} (hE : ∀ st x R U, z2C xQ keep rs st = some (x, R, U) → LeV x r → E st) (L : List HO) (e : z7J X xQ ctr n keep rs 4000 c fs st (hoH L) = some (r, hoO L) := by kernel_rfl) : AWP Tryz.prog n c st (Qf Tryz.prog n fs (z3N E)) := yE6 X zQ hC W0 hE L e
theorem yEx (X : XH Tryz.prog) (hC : zV Tryz.prog ctr) {E : St → Prop} {r : A} {keep : Bool} {rs : List (Nat × Option Nat)} (hE : ∀ st x R U, z2C xQ keep rs st = some (x, R, U) → LeV x r → E st) (L : List HO) (x : A) (hle : LeV x r) (e : z7J X xQ ctr n keep rs 4000 c fs st (hoH L) = some (x, hoO L) := by kernel_rfl) : AWP Tryz.prog n c st (Qf Tryz.prog n fs (z3N E)) := zdm X zQ hC W0 hE L x hle e
theorem yB (X : XH Tryz.prog) (hC : zV Tryz.prog ctr) {τ : Type} {J : St → Prop} {live : List Nat} {S : τ → List (Nat × T)} {Inv : τ → Prop} (hJ : ∀ st' l' z, Inv z → Own.canon live st' = ofL l' → LeL l' (S z) → J st') (z : τ) (hz : Inv z) (L : List HO) (e : Ja X xQ ctr n live 4000 c fs st (hoH L) = some (.back J, ofL (S z), hoO L) := by kernel_rfl) : AWP Tryz.prog n c st (Qf Tryz.prog n fs Q) := yB6 X zQ hC W0 hJ z hz L e
theorem yBx (X : XH Tryz.prog) (hC : zV Tryz.prog ctr) {τ : Type} {J : St → Prop} {live : List Nat} {S : τ → List (Nat × T)} {Inv : τ → Prop} (hJ : ∀ st' l' z, Inv z → Own.canon live st' = ofL l' → LeL l' (S z) → J st') (z : τ) (hz : Inv z) (l : List (Nat × T)) (hl : LeL l (S z)) (L : List HO) (e : Ja X xQ ctr n live 4000 c fs st (hoH L) = some (.back J, ofL l, hoO L) := by kernel_rfl) : AWP Tryz.prog n c st (Qf Tryz.prog n fs Q) := zdn X zQ hC W0 hJ z hz l hl L e
theorem yA (X : XH Tryz.prog) (hC : zV Tryz.prog ctr) (bd : Code) (path : List Nat) (Js : List (St → Prop)) (l : List (Nat × T)) (L : List HO) (h : AWP Tryz.prog n (sub path bd) (ofL l) (Qf Tryz.prog n (frs path Js bd []) Q)) (e : Ja X xQ ctr n (Wg l) 4000 c fs st (hoH L) = some (.at (sub path bd) (frs path Js bd []), ofL l, hoO L) := by kernel_rfl) : AWP Tryz.prog n c st (Qf Tryz.prog n fs Q) := yA6 X zQ hC W0 bd path Js l L e h
theorem yAt (X : XH Tryz.prog) (hC : zV Tryz.prog ctr) (c' : Code) (fs' : List Fm) (l : List (Nat × T)) (L : List HO) (h : ∀ st0, Own.canon (Wg l) st0 = ofL l → AWP Tryz.prog n c' st0 (Qf Tryz.prog n fs' Q)) (e : Ja X xQ ctr n (Wg l) 4000 c fs st (hoH L) = some (.at c' fs', ofL l, hoO L) := by kernel_rfl) : AWP Tryz.prog n c st (Qf Tryz.prog n fs Q) := zdo X zQ hC W0 c' fs' l L e h
theorem yLx (X : XH Tryz.prog) (hC : zV Tryz.prog ctr) (bd : Code) (path : List Nat) (Js : List (St → Prop)) {σ τ : Type} (f : σ → Option (LR σ τ)) (S : σ → List (Nat × T)) (x0 : σ) {t : τ} (ht : loop f x0 = some t) (l : List (Nat × T)) (hl : LeL l (S x0)) (L : List HO) (round : ∀ x m lr, f x = some lr → zax f m t lr → ∀ J : St → Prop, (∀ st' l' x', WP f m x' = some t → Own.canon (Wg l) st' = ofL l' → LeL l' (S x') → J st') → AWP Tryz.prog n (sub (path ++ [0]) bd) (ofL (S x)) (Qf Tryz.prog n (.pre J :: frs path Js bd []) Q)) (e : Ja X xQ ctr n (Wg l) 4000 c fs st (hoH L) = some (.at (sub path bd) (frs path Js bd []), ofL l, hoO L) := by kernel_rfl) (e2 : sub path bd = .loop (sub (path ++ [0]) bd) := by kernel_rfl) (hk : ∀ x, Wg (S x) = Wg l := by exact fun _ => rfl) : AWP Tryz.prog n c st (Qf Tryz.prog n fs Q) := yL6 X zQ hC W0 bd path Js f S x0 ht l hl L hk e e2 round
theorem yL (X : XH Tryz.prog) (hC : zV Tryz.prog ctr) (bd : Code) (path : List Nat) (Js : List (St → Prop)) {σ τ : Type} (f : σ → Option (LR σ τ)) (S : σ → List (Nat × T)) (x0 : σ) {t : τ} (ht : loop f x0 = some t) (L : List HO) (round : ∀ x m lr, f x = some lr → zax f m t lr → ∀ J : St → Prop, (∀ st' l' x', WP f m x' = some t → Own.canon (Wg (S x0)) st' = ofL l' → LeL l' (S x') → J st') → AWP Tryz.prog n (sub (path ++ [0]) bd) (ofL (S x)) (Qf Tryz.prog n (.pre J :: frs path Js bd []) Q)) (e : Ja X xQ ctr n (Wg (S x0)) 4000 c fs st (hoH L) = some (.at (sub path bd) (frs path Js bd []), ofL (S x0), hoO L) := by kernel_rfl) (e2 : sub path bd = .loop (sub (path ++ [0]) bd) := by kernel_rfl) (hk : ∀ x, Wg (S x) = Wg (S x0) := by exact fun _ => rfl) : AWP Tryz.prog n c st (Qf Tryz.prog n fs Q) := yL6 X zQ hC W0 bd path Js f S x0 ht _ (LeL.refl _) L hk e e2 round
theorem yJ (X : XH Tryz.prog) (hC : zV Tryz.prog ctr) (bd : Code) (path : List Nat) (Js : List (St → Prop)) {σ : Type} (live : List Nat) (Inv : σ → Prop) (S : σ → List (Nat × T)) (l : List (Nat × T)) (L : List HO) (h1 : ∀ z, Inv z → AWP Tryz.prog n (sub (path ++ [1]) bd) (ofL (S z)) (Qf Tryz.prog n (frs path Js bd []) Q)) (h2 : ∀ J : St → Prop, (∀ st' l' z, Inv z → Own.canon live st' = ofL l' → LeL l' (S z) → J st') → AWP Tryz.prog n (sub (path ++ [2]) bd) (ofL l) (Qf Tryz.prog n (.pre J :: frs path Js bd []) Q)) (e : Ja X xQ ctr n (Wg l) 4000 c fs st (hoH L) = some (.at (sub path bd) (frs path Js bd []), ofL l, hoO L) := by kernel_rfl) (e2 : sub path bd = .seq (sub (path ++ [2]) bd) (sub (path ++ [1]) bd) := by kernel_rfl) : AWP Tryz.prog n c st (Qf Tryz.prog n fs Q) := yJ6 X zQ hC W0 bd path Js live Inv S l L e e2 h1 h2
theorem yF (X : XH Tryz.prog) (hC : zV Tryz.prog ctr) (ex : Exit) (l : List (Nat × T)) (L : List HO) (h : ∀ st0, Own.canon (Wg l) st0 = ofL l → Q ex st0) (e : Ja X xQ ctr n (Wg l) 4000 c fs st (hoH L) = some (.fin ex, ofL l, hoO L) := by kernel_rfl) : AWP Tryz.prog n c st (Qf Tryz.prog n fs Q) := yF6 X zQ hC W0 ex l L e h
theorem yO {k : Nat} {fn : Func} {r : A} {ls : List A} (keep : Bool) (rs : List (Nat × Option Nat)) (body : Code) (nt : Nat) (hf : Tryz.prog.funcs[k]? = some fn) (h : ∀ E : St → Prop, (∀ st x R U, z2C xQ keep rs st = some (x, R, U) → LeV x r → E st) → AWP Tryz.prog ⟨nt, []⟩ body (ofL (z3P 0 ls)) (Qf Tryz.prog ⟨nt, []⟩ [] (z3N E))) (hb : fn.body = some body := by kernel_rfl) (hn : nt = fn.ntmps := by exact rfl) (hr : fn.results = (rs.map z3X).toArray := by exact rfl) (hnm : (fn.name == "runtime.NumGoroutine") = false := by exact rfl) (ha : Nat.ble ls.length nt = true := by kernel_rfl) : YO Tryz.prog k ls r := yO6 zQ keep rs body nt hf hb hn hr hnm ha h
end
theorem z2U : z5u Tryz.prog 142 115 3 (Ql [.i64, .i64, .i64, .i64, .i64, .i64, .i64, .i64, .i64, .i64, .i64, .i64, .i64, .i64, .i64, .i64, .i64, .i64, .i64, .i64, .i64, .i64, .i64, .i64]) (.atom (.int .i64 0)) := z4L Tryz.underlying142 _ Tryz.underlying115 (Go.Ex.z38.eqn rfl) (z10.eqn rfl) rfl ⟨.int .i64 0, fun w => z3U (f := Tryz.t3) (by kernel_rfl) rfl w, fun S => ut.2 ⟨rfl, rfl⟩⟩ rfl
theorem zaL : z7D Tryz.prog 48 3 true := z4q zQ (t := 61) Tryz.so48 rfl rfl (by kernel_rfl) (by decide)
def xP : Code := (Tryz.f9.body).getD .skip
def Yk : yV := spF (α := y3) (ρ := z7) 9 (fun x => [UI x]) (fun r => z5V r) (fun x => kQ x) [] (Ue)
abbrev Uv (x_ : y3) (out_Parts : List zh) : List (Nat × T) := [(2, .own (.box (.agg [I 0, I 0, eOs 1 true (eI .i64) [], eOs 3 true wG []]))), (3, .own (.box (.agg [I 2, I 2, eOs 1 true (eI .i64) ([w64 (Int.tmod x_.Channels.e0 3), w64 (Int.tmod x_.Channels.e1 3)]), eOs 3 false Uy out_Parts])))]
abbrev Ut (x_ : y3) (i_ : Int) (x34 : Bool) (out_Parts2 : List zh) : List (Nat × T) := [(1, .own (.box (UI x_))), (2, .own (.box (.agg [I 0, I 0, eOs 1 true (eI .i64) [], eOs 3 true wG []]))), (3, .own (.box (.agg [I 2, I 2, eOs 1 true (eI .i64) ([w64 (Int.tmod x_.Channels.e0 3), w64 (Int.tmod x_.Channels.e1 3)]), eOs 3 false Uy out_Parts2]))), (4, .d (I i_)), (26, .d (I i_)), (28, .d (eSl 3 false WF x_.Parts)), (29, .d (I ((x_.Parts.length : Nat) : Int))), (30, .d (B (decide (i_ < ((x_.Parts.length : Nat) : Int))))), (31, .d (B (decide (i_ < ((x_.Parts.length : Nat) : Int))))), (34, .d (B x34))]
abbrev Us (x_ : y3) (out_Parts1 : List zh) (i_ : Int) (x34 : Bool) (p_States : Int) (p_Arcs : List ze) (p_Final : List Int) : List (Nat × T) := [(1, .own (.box (UI x_))), (2, .own (.box (.agg [I 0, I 0, eOs 1 true (eI .i64) [], eOs 3 true wG []]))), (3, .own (.box (.agg [I 2, I 2, eOs 1 true (eI .i64) ([w64 (Int.tmod x_.Channels.e0 3), w64 (Int.tmod x_.Channels.e1 3)]), eOs 3 false Uy out_Parts1]))), (4, .d (I i_)), (5, .own (.box (.agg [I p_States, eOs 5 false uV p_Arcs, eOs 1 false (eI .i64) p_Final]))), (26, .d (I i_)), (28, .d (eSl 3 false WF x_.Parts)), (29, .d (I ((x_.Parts.length : Nat) : Int))), (30, .d (B (decide (i_ < ((x_.Parts.length : Nat) : Int))))), (31, .d (B (decide (i_ < ((x_.Parts.length : Nat) : Int))))), (34, .d (B x34))]
abbrev Uq (x_ : y3) (out_Parts1 : List zh) (i_ : Int) (x34 : Bool) (Part_e : xr) (p_Final1 : List Int) (p_Arcs1 : List ze) (k_ : Int) (Arc_e : z21 Int) (arc_Channel : Int) : List (Nat × T) := [(1, .own (.box (UI x_))), (2, .own (.box (.agg [I 0, I 0, eOs 1 true (eI .i64) [], eOs 3 true wG []]))), (3, .own (.box (.agg [I 2, I 2, eOs 1 true (eI .i64) ([w64 (Int.tmod x_.Channels.e0 3), w64 (Int.tmod x_.Channels.e1 3)]), eOs 3 false Uy out_Parts1]))), (4, .d (I i_)), (5, .own (.box (.agg [I (w64 (1 + (w64 (Int.tmod Part_e.States 3)))), eOs 5 false uV p_Arcs1, eOs 1 false (eI .i64) p_Final1]))), (6, .own (.box (WF Part_e))), (8, .d (I k_)), (10, .own (.box (.agg [I (Int.tmod (w64 (Arc_e.e0)) (w64 (1 + (w64 (Int.tmod Part_e.States 3))))), .atom (.int .u8 (Int.tmod Arc_e.e1 3)), I arc_Channel, I (w64 (Int.tmod Arc_e.e3 2)), I (Int.tmod (w64 (Arc_e.e4)) (w64 (1 + (w64 (Int.tmod Part_e.States 3)))))]))), (26, .d (I i_)), (28, .d (eSl 3 false WF x_.Parts)), (29, .d (I ((x_.Parts.length : Nat) : Int))), (30, .d (B (decide (i_ < ((x_.Parts.length : Nat) : Int))))), (31, .d (B (decide (i_ < ((x_.Parts.length : Nat) : Int))))), (34, .d (B x34)), (80, .d (I k_)), (81, .d (B (decide (k_ < 6))))]
abbrev Uo (x_ : y3) (out_Parts1 : List zh) (i_ : Int) (x34 : Bool) (Part_e : xr) (p_Final1 : List Int) (p_Arcs1 : List ze) (k_ : Int) : List (Nat × T) := [(1, .own (.box (UI x_))), (2, .own (.box (.agg [I 0, I 0, eOs 1 true (eI .i64) [], eOs 3 true wG []]))), (3, .own (.box (.agg [I 2, I 2, eOs 1 true (eI .i64) ([w64 (Int.tmod x_.Channels.e0 3), w64 (Int.tmod x_.Channels.e1 3)]), eOs 3 false Uy out_Parts1]))), (4, .d (I i_)), (5, .own (.box (.agg [I (w64 (1 + (w64 (Int.tmod Part_e.States 3)))), eOs 5 false uV p_Arcs1, eOs 1 false (eI .i64) p_Final1]))), (6, .own (.box (WF Part_e))), (8, .d (I k_)), (26, .d (I i_)), (28, .d (eSl 3 false WF x_.Parts)), (29, .d (I ((x_.Parts.length : Nat) : Int))), (30, .d (B (decide (i_ < ((x_.Parts.length : Nat) : Int))))), (31, .d (B (decide (i_ < ((x_.Parts.length : Nat) : Int))))), (34, .d (B x34))]
abbrev Ur (x_ : y3) (out_Parts1 : List zh) (i_ : Int) (x34 : Bool) (Part_e : xr) (p_Final1 : List Int) : List (Nat × T) := [(1, .own (.box (UI x_))), (2, .own (.box (.agg [I 0, I 0, eOs 1 true (eI .i64) [], eOs 3 true wG []]))), (3, .own (.box (.agg [I 2, I 2, eOs 1 true (eI .i64) ([w64 (Int.tmod x_.Channels.e0 3), w64 (Int.tmod x_.Channels.e1 3)]), eOs 3 false Uy out_Parts1]))), (4, .d (I i_)), (5, .own (.box (.agg [I (w64 (1 + (w64 (Int.tmod Part_e.States 3)))), eOs 5 true uV [], eOs 1 false (eI .i64) p_Final1]))), (6, .own (.box (WF Part_e))), (26, .d (I i_)), (28, .d (eSl 3 false WF x_.Parts)), (29, .d (I ((x_.Parts.length : Nat) : Int))), (30, .d (B (decide (i_ < ((x_.Parts.length : Nat) : Int))))), (31, .d (B (decide (i_ < ((x_.Parts.length : Nat) : Int))))), (34, .d (B x34))]
abbrev VF (x_ : y3) (out_Parts1 : List zh) (i_ : Int) (x34 : Bool) (Part_e : xr) (s_ : Int) (p_Final3 : List Int) : List (Nat × T) := [(1, .own (.box (UI x_))), (2, .own (.box (.agg [I 0, I 0, eOs 1 true (eI .i64) [], eOs 3 true wG []]))), (3, .own (.box (.agg [I 2, I 2, eOs 1 true (eI .i64) ([w64 (Int.tmod x_.Channels.e0 3), w64 (Int.tmod x_.Channels.e1 3)]), eOs 3 false Uy out_Parts1]))), (4, .d (I i_)), (5, .own (.box (.agg [I (w64 (1 + (w64 (Int.tmod Part_e.States 3)))), eOs 5 true uV [], eOs 1 false (eI .i64) p_Final3]))), (6, .own (.box (WF Part_e))), (7, .d (I s_)), (26, .d (I i_)), (28, .d (eSl 3 false WF x_.Parts)), (29, .d (I ((x_.Parts.length : Nat) : Int))), (30, .d (B (decide (i_ < ((x_.Parts.length : Nat) : Int))))), (31, .d (B (decide (i_ < ((x_.Parts.length : Nat) : Int))))), (34, .d (B x34))]
abbrev Un (x_ : y3) (out_Parts1 : List zh) (i_ : Int) (x34 : Bool) (Part_e : xr) (p_Final2 : List Int) (s_ : Int) : List (Nat × T) := [(1, .own (.box (UI x_))), (2, .own (.box (.agg [I 0, I 0, eOs 1 true (eI .i64) [], eOs 3 true wG []]))), (3, .own (.box (.agg [I 2, I 2, eOs 1 true (eI .i64) ([w64 (Int.tmod x_.Channels.e0 3), w64 (Int.tmod x_.Channels.e1 3)]), eOs 3 false Uy out_Parts1]))), (4, .d (I i_)), (5, .own (.box (.agg [I (w64 (1 + (w64 (Int.tmod Part_e.States 3)))), eOs 5 true uV [], eOs 1 false (eI .i64) p_Final2]))), (6, .own (.box (WF Part_e))), (7, .d (I s_)), (26, .d (I i_)), (28, .d (eSl 3 false WF x_.Parts)), (29, .d (I ((x_.Parts.length : Nat) : Int))), (30, .d (B (decide (i_ < ((x_.Parts.length : Nat) : Int))))), (31, .d (B (decide (i_ < ((x_.Parts.length : Nat) : Int))))), (34, .d (B x34))]
abbrev Uu (x_ : y3) (out_Parts1 : List zh) (i_ : Int) (x34 : Bool) : List (Nat × T) := [(1, .own (.box (UI x_))), (2, .own (.box (.agg [I 0, I 0, eOs 1 true (eI .i64) [], eOs 3 true wG []]))), (3, .own (.box (.agg [I 2, I 2, eOs 1 true (eI .i64) ([w64 (Int.tmod x_.Channels.e0 3), w64 (Int.tmod x_.Channels.e1 3)]), eOs 3 false Uy out_Parts1]))), (4, .d (I i_)), (26, .d (I i_)), (28, .d (eSl 3 false WF x_.Parts)), (29, .d (I ((x_.Parts.length : Nat) : Int))), (30, .d (B (decide (i_ < ((x_.Parts.length : Nat) : Int))))), (31, .d (B (decide (i_ < ((x_.Parts.length : Nat) : Int))))), (34, .d (B x34))]
abbrev Up (x_ : y3) (out_Parts1 : List zh) (i_ : Int) : List (Nat × T) := [(1, .own (.box (UI x_))), (2, .own (.box (.agg [I 0, I 0, eOs 1 true (eI .i64) [], eOs 3 true wG []]))), (3, .own (.box (.agg [I 2, I 2, eOs 1 true (eI .i64) ([w64 (Int.tmod x_.Channels.e0 3), w64 (Int.tmod x_.Channels.e1 3)]), eOs 3 false Uy out_Parts1]))), (4, .d (I i_))]
theorem Km {ctr : Ctr} (hC : zV Tryz.prog ctr) : Yk.Ok Tryz.prog := by
 refine y5 ?_
 rintro x_ r0 hf0
 try unfold kQ at hf0
 refine yO false [(2, some 29)] xP 131 Tryz.func9 fun E hE => ?_
 obtain ⟨g0, hf0⟩ := gdE hf0
 obtain ⟨g1, hf0⟩ := gdE hf0
 refine yJ X0 hC xP [1,1] [] [2,3] (fun z : List zh => Yu x_ z = some r0) (fun z => Uv x_ z) [(1, .own (.box (UI x_))), (2, .own (.box (.agg [I 0, I 0, eOs 1 true (eI .i64) [], eOs 3 true wG []]))), (3, .own (.box (.agg [I 2, I 2, eOs 1 true (eI .i64) ([w64 (Int.tmod x_.Channels.e0 3), w64 (Int.tmod x_.Channels.e1 3)]), eOs 3 true wG []])))] [Hn (⟨rfl, by decide⟩ : true = true ∧ 0 < 2), Hn g0, Hn (⟨rfl, by decide⟩ : true = true ∧ 1 < 2), Hn g1, Hh (.cut 2)] ?_ fun J1 hJ1 => ?_
 ·rintro out_Parts hf0
  unfold Yu at hf0
  obtain rfl := zl hf0
  exact yE X0 hC hE [Hm (shM (eI .i64) (eI .i64) ([w64 (Int.tmod x_.Channels.e0 3), w64 (Int.tmod x_.Channels.e1 3)])), Hm (shM Uy wG out_Parts)]
 ·obtain ⟨t2, ht2, hf0⟩ := zn hf0
  refine yLx X0 hC xP [1,1,2,1,0] [J1] (fun s => jH x_ s.1 s.2) (fun x => Up x_ x.1 x.2) (([] : List zh), 0) ht2 [(1, .own (.box (UI x_))), (2, .own (.box (.agg [I 0, I 0, eOs 1 true (eI .i64) [], eOs 3 true wG []]))), (3, .own (.box (.agg [I 2, I 2, eOs 1 true (eI .i64) ([w64 (Int.tmod x_.Channels.e0 3), w64 (Int.tmod x_.Channels.e1 3)]), eOs 3 true Uy []]))), (4, .d (I 0))] inferInstance [] ?_
  rintro ⟨out_Parts1, i_⟩ m2 lr1 hf1 hl1 J2 hJ2
  try unfold jH at hf1
  refine yJ X0 hC xP [1,1,2,1,0,0] [J1, J2] [1,2,3,4,26,28,29,30,31,34] (fun z : Bool => uk x_ out_Parts1 i_ z = some lr1) (fun z => Uu x_ out_Parts1 i_ z) [(1, .own (.box (UI x_))), (2, .own (.box (.agg [I 0, I 0, eOs 1 true (eI .i64) [], eOs 3 true wG []]))), (3, .own (.box (.agg [I 2, I 2, eOs 1 true (eI .i64) ([w64 (Int.tmod x_.Channels.e0 3), w64 (Int.tmod x_.Channels.e1 3)]), eOs 3 false Uy out_Parts1]))), (4, .d (I i_))] [Hh (.cut 0)] ?_ fun J3 hJ3 => ?_
  ·rintro x34 hf1
   unfold uk at hf1
   refine yJ X0 hC xP [1,1,2,1,0,0,1] [J1, J2] [1,2,3,4,26,28,29,30,31,34] (fun z : List zh => kH i_ z = some lr1) (fun z => Ut x_ i_ x34 z) [(1, .own (.box (UI x_))), (2, .own (.box (.agg [I 0, I 0, eOs 1 true (eI .i64) [], eOs 3 true wG []]))), (3, .own (.box (.agg [I 2, I 2, eOs 1 true (eI .i64) ([w64 (Int.tmod x_.Channels.e0 3), w64 (Int.tmod x_.Channels.e1 3)]), eOs 3 false Uy out_Parts1]))), (4, .d (I i_)), (26, .d (I i_)), (28, .d (eSl 3 false WF x_.Parts)), (29, .d (I ((x_.Parts.length : Nat) : Int))), (30, .d (B (decide (i_ < ((x_.Parts.length : Nat) : Int))))), (31, .d (B (decide (i_ < ((x_.Parts.length : Nat) : Int))))), (34, .d (B x34))] [Hh (.cut 0)] ?_ fun J4 hJ4 => ?_
   ·rintro out_Parts2 hf1
    unfold kH at hf1
    obtain rfl := zl hf1
    exact yB X0 hC hJ2 (out_Parts2, w64 (i_ + 1)) hl1 []
   ·refine yJ X0 hC xP [1,1,2,1,0,0,1,2,0,1] [J1, J2, J4] [1,2,3,4,5,26,28,29,30,31,34] (fun z : Int × List ze × List Int => qg out_Parts1 i_ z.1 z.2.1 z.2.2 = some lr1) (fun z => Us x_ out_Parts1 i_ x34 z.1 z.2.1 z.2.2) [(1, .own (.box (UI x_))), (2, .own (.box (.agg [I 0, I 0, eOs 1 true (eI .i64) [], eOs 3 true wG []]))), (3, .own (.box (.agg [I 2, I 2, eOs 1 true (eI .i64) ([w64 (Int.tmod x_.Channels.e0 3), w64 (Int.tmod x_.Channels.e1 3)]), eOs 3 false Uy out_Parts1]))), (4, .d (I i_)), (5, .own (.box (.agg [I 1, eOs 5 true uV [], eOs 1 true (eI .i64) []]))), (26, .d (I i_)), (28, .d (eSl 3 false WF x_.Parts)), (29, .d (I ((x_.Parts.length : Nat) : Int))), (30, .d (B (decide (i_ < ((x_.Parts.length : Nat) : Int))))), (31, .d (B (decide (i_ < ((x_.Parts.length : Nat) : Int))))), (34, .d (B x34))] [Hh (.cut 1)] ?_ fun J5 hJ5 => ?_
    ·rintro ⟨p_States, p_Arcs, p_Final⟩ hf1
     unfold qg at hf1
     obtain ⟨g2, hf1⟩ := gdE hf1
     exact yB X0 hC hJ4 (out_Parts1 ++ ([(zh.mk p_States p_Arcs p_Final)] : List zh)) hf1 [Hq (oC Uy (zh.mk p_States p_Arcs p_Final) []), Hn (aL Uy Uy g2), Hl (aM Uy out_Parts1 ([(zh.mk p_States p_Arcs p_Final)] : List zh))]
    ·let Z0 : List HO := [Ha (lnM WF x_.Parts)]
     rcases yc hf1 with ⟨c0, hf1⟩ | ⟨c0, hf1⟩
     ·obtain ⟨Part_e, h0, hf1⟩ := zn hf1
      obtain ⟨g3, hf1⟩ := gdE hf1
      refine yJ X0 hC xP [1,1,2,1,0,0,1,2,0,1,2,1,0,1,1] [J1, J2, J4, J5] [1,2,3,4,5,6,26,28,29,30,31,34] (fun z : List Int => kG out_Parts1 i_ Part_e z = some lr1) (fun z => Ur x_ out_Parts1 i_ x34 Part_e z) [(1, .own (.box (UI x_))), (2, .own (.box (.agg [I 0, I 0, eOs 1 true (eI .i64) [], eOs 3 true wG []]))), (3, .own (.box (.agg [I 2, I 2, eOs 1 true (eI .i64) ([w64 (Int.tmod x_.Channels.e0 3), w64 (Int.tmod x_.Channels.e1 3)]), eOs 3 false Uy out_Parts1]))), (4, .d (I i_)), (5, .own (.box (.agg [I (w64 (1 + (w64 (Int.tmod Part_e.States 3)))), eOs 5 true uV [], eOs 1 true (eI .i64) []]))), (6, .own (.box (WF Part_e))), (26, .d (I i_)), (28, .d (eSl 3 false WF x_.Parts)), (29, .d (I ((x_.Parts.length : Nat) : Int))), (30, .d (B (decide (i_ < ((x_.Parts.length : Nat) : Int))))), (31, .d (B (decide (i_ < ((x_.Parts.length : Nat) : Int))))), (34, .d (B x34))] (Z0 ++ [Hq c0, Hi WF h0, Hn g3, Hh (.cut 1)]) ?_ fun J6 hJ6 => ?_
      ·rintro p_Final1 hf1
       unfold kG at hf1
       obtain ⟨t7, ht7, hf1⟩ := zn hf1
       refine yLx X0 hC xP [1,1,2,1,0,0,1,2,0,1,2,1,0,1,1,1,1,0] [J1, J2, J4, J5] (fun s => jG Part_e p_Final1 s.1 s.2) (fun x => Uo x_ out_Parts1 i_ x34 Part_e p_Final1 x.1 x.2) (([] : List ze), 0) ht7 [(1, .own (.box (UI x_))), (2, .own (.box (.agg [I 0, I 0, eOs 1 true (eI .i64) [], eOs 3 true wG []]))), (3, .own (.box (.agg [I 2, I 2, eOs 1 true (eI .i64) ([w64 (Int.tmod x_.Channels.e0 3), w64 (Int.tmod x_.Channels.e1 3)]), eOs 3 false Uy out_Parts1]))), (4, .d (I i_)), (5, .own (.box (.agg [I (w64 (1 + (w64 (Int.tmod Part_e.States 3)))), eOs 5 true uV [], eOs 1 false (eI .i64) p_Final1]))), (6, .own (.box (WF Part_e))), (8, .d (I 0)), (26, .d (I i_)), (28, .d (eSl 3 false WF x_.Parts)), (29, .d (I ((x_.Parts.length : Nat) : Int))), (30, .d (B (decide (i_ < ((x_.Parts.length : Nat) : Int))))), (31, .d (B (decide (i_ < ((x_.Parts.length : Nat) : Int))))), (34, .d (B x34))] inferInstance [] ?_
       rintro ⟨p_Arcs1, k_⟩ m7 lr2 hf2 hl2 J7 hJ7
       try unfold jG at hf2
       let Z1 : List HO := [Ha (lnM (YV (eI .u8)) Part_e.Arcs)]
       rcases yc hf2 with ⟨c1, hf2⟩ | ⟨c1, hf2⟩
       ·rcases yc hf2 with ⟨c2, hf2⟩ | ⟨c2, hf2⟩
        ·obtain ⟨Arc_e, h1, hf2⟩ := zn hf2
         obtain ⟨g4, hf2⟩ := gdE hf2
         obtain ⟨g5, hf2⟩ := gdE hf2
         obtain ⟨g6, hf2⟩ := gdE hf2
         obtain ⟨g7, hf2⟩ := gdE hf2
         obtain ⟨g8, hf2⟩ := gdE hf2
         refine yJ X0 hC xP [1,1,2,1,0,0,1,2,0,1,2,1,0,1,1,1,1,0,0,1,0,0,1,1] [J1, J2, J4, J5, J7] [1,2,3,4,5,6,8,10,26,28,29,30,31,34,80,81] (fun z : Int => qe Part_e p_Arcs1 k_ Arc_e z = some lr2) (fun z => Uq x_ out_Parts1 i_ x34 Part_e p_Final1 p_Arcs1 k_ Arc_e z) [(1, .own (.box (UI x_))), (2, .own (.box (.agg [I 0, I 0, eOs 1 true (eI .i64) [], eOs 3 true wG []]))), (3, .own (.box (.agg [I 2, I 2, eOs 1 true (eI .i64) ([w64 (Int.tmod x_.Channels.e0 3), w64 (Int.tmod x_.Channels.e1 3)]), eOs 3 false Uy out_Parts1]))), (4, .d (I i_)), (5, .own (.box (.agg [I (w64 (1 + (w64 (Int.tmod Part_e.States 3)))), eOs 5 false uV p_Arcs1, eOs 1 false (eI .i64) p_Final1]))), (6, .own (.box (WF Part_e))), (8, .d (I k_)), (10, .own (.box (.agg [I (Int.tmod (w64 (Arc_e.e0)) (w64 (1 + (w64 (Int.tmod Part_e.States 3))))), .atom (.int .u8 (Int.tmod Arc_e.e1 3)), I (w64 (Int.tmod Arc_e.e2 2)), I (w64 (Int.tmod Arc_e.e3 2)), I (Int.tmod (w64 (Arc_e.e4)) (w64 (1 + (w64 (Int.tmod Part_e.States 3)))))]))), (26, .d (I i_)), (28, .d (eSl 3 false WF x_.Parts)), (29, .d (I ((x_.Parts.length : Nat) : Int))), (30, .d (B (decide (i_ < ((x_.Parts.length : Nat) : Int))))), (31, .d (B (decide (i_ < ((x_.Parts.length : Nat) : Int))))), (34, .d (B x34)), (80, .d (I k_)), (81, .d (B (decide (k_ < 6))))] (Z1 ++ [Hq c1, Hq c1, Hq c1, Hq c2, Hi (YV (eI .u8)) h1, Hn (⟨rfl, by decide⟩ : true = true ∧ 0 < 5), Hn g4, Hn (⟨rfl, by decide⟩ : true = true ∧ 1 < 5), Hn g5, Hn (⟨rfl, by decide⟩ : true = true ∧ 2 < 5), Hn g6, Hn (⟨rfl, by decide⟩ : true = true ∧ 3 < 5), Hn g7, Hn (⟨rfl, by decide⟩ : true = true ∧ 4 < 5), Hn g8, Hh (.cut 1)]) ?_ fun J8 hJ8 => ?_
         ·rintro arc_Channel hf2
          unfold qe at hf2
          obtain ⟨g9, hf2⟩ := gdE hf2
          obtain rfl := zl hf2
          exact yB X0 hC hJ7 ((p_Arcs1 ++ ([(ze.mk (Int.tmod (w64 (Arc_e.e0)) (w64 (1 + (w64 (Int.tmod Part_e.States 3))))) (Int.tmod Arc_e.e1 3) arc_Channel (w64 (Int.tmod Arc_e.e3 2)) (Int.tmod (w64 (Arc_e.e4)) (w64 (1 + (w64 (Int.tmod Part_e.States 3))))))] : List ze)), w64 (k_ + 1)) hl2 [Hq (dM uV ([(ze.mk (Int.tmod (w64 (Arc_e.e0)) (w64 (1 + (w64 (Int.tmod Part_e.States 3))))) (Int.tmod Arc_e.e1 3) arc_Channel (w64 (Int.tmod Arc_e.e3 2)) (Int.tmod (w64 (Arc_e.e4)) (w64 (1 + (w64 (Int.tmod Part_e.States 3))))))] : List ze)), Hn (dM uV ([(ze.mk (Int.tmod (w64 (Arc_e.e0)) (w64 (1 + (w64 (Int.tmod Part_e.States 3))))) (Int.tmod Arc_e.e1 3) arc_Channel (w64 (Int.tmod Arc_e.e3 2)) (Int.tmod (w64 (Arc_e.e4)) (w64 (1 + (w64 (Int.tmod Part_e.States 3))))))] : List ze)), Hn (aL uV uV g9), Hl (aM uV p_Arcs1 ([(ze.mk (Int.tmod (w64 (Arc_e.e0)) (w64 (1 + (w64 (Int.tmod Part_e.States 3))))) (Int.tmod Arc_e.e1 3) arc_Channel (w64 (Int.tmod Arc_e.e3 2)) (Int.tmod (w64 (Arc_e.e4)) (w64 (1 + (w64 (Int.tmod Part_e.States 3))))))] : List ze))]
         ·rcases yc hf2 with ⟨c3, hf2⟩ | ⟨c3, hf2⟩
          ·exact yB X0 hC hJ8 0 hf2 [Hq c3]
          ·exact yB X0 hC hJ8 (w64 (Int.tmod Arc_e.e2 2)) hf2 [Hq c3]
        ·obtain rfl := zl hf2
         obtain rfl := hl2
         exact yB X0 hC hJ5 (w64 (1 + (w64 (Int.tmod Part_e.States 3))), p_Arcs1, p_Final1) hf1 (Z1 ++ [Hq c1, Hq c1, Hq c1, Hq c2])
       ·obtain rfl := zl hf2
        obtain rfl := hl2
        exact yB X0 hC hJ5 (w64 (1 + (w64 (Int.tmod Part_e.States 3))), p_Arcs1, p_Final1) hf1 (Z1 ++ [Hq c1, Hq c1, Hq c1, qF])
      ·obtain ⟨t9, ht9, hf1⟩ := zn hf1
       refine yLx X0 hC xP [1,1,2,1,0,0,1,2,0,1,2,1,0,1,1,2,1,0] [J1, J2, J4, J5, J6] (fun s => jF Part_e s.1 s.2) (fun x => Un x_ out_Parts1 i_ x34 Part_e x.1 x.2) (([] : List Int), 0) ht9 [(1, .own (.box (UI x_))), (2, .own (.box (.agg [I 0, I 0, eOs 1 true (eI .i64) [], eOs 3 true wG []]))), (3, .own (.box (.agg [I 2, I 2, eOs 1 true (eI .i64) ([w64 (Int.tmod x_.Channels.e0 3), w64 (Int.tmod x_.Channels.e1 3)]), eOs 3 false Uy out_Parts1]))), (4, .d (I i_)), (5, .own (.box (.agg [I (w64 (1 + (w64 (Int.tmod Part_e.States 3)))), eOs 5 true uV [], eOs 1 true (eI .i64) []]))), (6, .own (.box (WF Part_e))), (7, .d (I 0)), (26, .d (I i_)), (28, .d (eSl 3 false WF x_.Parts)), (29, .d (I ((x_.Parts.length : Nat) : Int))), (30, .d (B (decide (i_ < ((x_.Parts.length : Nat) : Int))))), (31, .d (B (decide (i_ < ((x_.Parts.length : Nat) : Int))))), (34, .d (B x34))] inferInstance [] ?_
       rintro ⟨p_Final2, s_⟩ m9 lr2 hf2 hl2 J9 hJ9
       try unfold jF at hf2
       rcases yc hf2 with ⟨c4, hf2⟩ | ⟨c4, hf2⟩
       ·refine yJ X0 hC xP [1,1,2,1,0,0,1,2,0,1,2,1,0,1,1,2,1,0,0,1] [J1, J2, J4, J5, J6, J9] [1,2,3,4,5,6,7,26,28,29,30,31,34] (fun z : List Int => qE s_ z = some lr2) (fun z => VF x_ out_Parts1 i_ x34 Part_e s_ z) [(1, .own (.box (UI x_))), (2, .own (.box (.agg [I 0, I 0, eOs 1 true (eI .i64) [], eOs 3 true wG []]))), (3, .own (.box (.agg [I 2, I 2, eOs 1 true (eI .i64) ([w64 (Int.tmod x_.Channels.e0 3), w64 (Int.tmod x_.Channels.e1 3)]), eOs 3 false Uy out_Parts1]))), (4, .d (I i_)), (5, .own (.box (.agg [I (w64 (1 + (w64 (Int.tmod Part_e.States 3)))), eOs 5 true uV [], eOs 1 false (eI .i64) p_Final2]))), (6, .own (.box (WF Part_e))), (7, .d (I s_)), (26, .d (I i_)), (28, .d (eSl 3 false WF x_.Parts)), (29, .d (I ((x_.Parts.length : Nat) : Int))), (30, .d (B (decide (i_ < ((x_.Parts.length : Nat) : Int))))), (31, .d (B (decide (i_ < ((x_.Parts.length : Nat) : Int))))), (34, .d (B x34))] [Hq c4, Hh (.cut 0)] ?_ fun J10 hJ10 => ?_
        ·rintro p_Final3 hf2
         unfold qE at hf2
         obtain rfl := zl hf2
         exact yB X0 hC hJ9 (p_Final3, w64 (s_ + 1)) hl2 []
        ·obtain ⟨g10, hf2⟩ := gdE hf2
         rcases yc hf2 with ⟨c5, hf2⟩ | ⟨c5, hf2⟩
         ·obtain ⟨g11, hf2⟩ := gdE hf2
          exact yB ((zca Tryz.prog).or ((zc7 Tryz.prog).or X0)) hC hJ10 (p_Final2 ++ ([s_] : List Int)) hf2 [Hn g10, Hq c5, Hq (dM (eI .i64) ([s_] : List Int)), Hn (dM (eI .i64) ([s_] : List Int)), Hn (aL (eI .i64) (eI .i64) g11), Hl (aM (eI .i64) p_Final2 ([s_] : List Int))]
         ·exact yB ((zca Tryz.prog).or ((zc7 Tryz.prog).or X0)) hC hJ10 p_Final2 hf2 [Hn g10, Hq c5]
       ·obtain rfl := zl hf2
        obtain rfl := hl2
        exact yB X0 hC hJ6 p_Final2 hf1 [Hq c4]
     ·exact yBx X0 hC hJ5 (1, ([] : List ze), ([] : List Int)) hf1 [(1, .own (.box (UI x_))), (2, .own (.box (.agg [I 0, I 0, eOs 1 true (eI .i64) [], eOs 3 true wG []]))), (3, .own (.box (.agg [I 2, I 2, eOs 1 true (eI .i64) ([w64 (Int.tmod x_.Channels.e0 3), w64 (Int.tmod x_.Channels.e1 3)]), eOs 3 false Uy out_Parts1]))), (4, .d (I i_)), (5, .own (.box (.agg [I 1, eOs 5 true uV [], eOs 1 true (eI .i64) []]))), (26, .d (I i_)), (28, .d (eSl 3 false WF x_.Parts)), (29, .d (I ((x_.Parts.length : Nat) : Int))), (30, .d (B (decide (i_ < ((x_.Parts.length : Nat) : Int))))), (31, .d (B (decide (i_ < ((x_.Parts.length : Nat) : Int))))), (34, .d (B x34))] inferInstance (Z0 ++ [Hq c0])
  ·rcases yc hf1 with ⟨c6, hf1⟩ | ⟨c6, hf1⟩
   ·let Z2 : List HO := (rpN 4 (Hq c6) [Ha (lnM WF x_.Parts), Hq c6, Hq c6])
    rcases yc hf1 with ⟨c7, hf1⟩ | ⟨c7, hf1⟩
    ·exact yB X0 hC hJ3 true hf1 (Z2 ++ [Hq c7, Hq c7, Hq c6, Hq c7, Hq c6, qT])
    ·let Z3 : List HO := (Z2 ++ [Hq c7, Hq c7, Hq c6, Hq c7, Hq c6])
     rcases yc hf1 with ⟨c8, hf1⟩ | ⟨c8, hf1⟩
     ·exact yB X0 hC hJ3 (i_ == 0) hf1 (Z3 ++ [Hq c8])
     ·obtain rfl := zl hf1
      obtain rfl := hl1
      exact yB X0 hC hJ1 out_Parts1 hf0 (Z3 ++ [Hq c8])
   ·obtain rfl := zl hf1
    obtain rfl := hl1
    exact yB X0 hC hJ1 out_Parts1 hf0 (rpN 8 (Hq c6) [qF])
def QP : Code := (Tryz.f25.body).getD .skip
def ZH : yV := spF (α := z7) (ρ := z8) 25 (fun x => [xR x]) (fun r => Uz r) (fun x => jU x) [] (Ue)
theorem Jx {ctr : Ctr} (hC : zV Tryz.prog ctr) : ZH.Ok Tryz.prog := by
 refine y5 ?_
 rintro x_ r0 hf0
 try unfold jU at hf0
 refine yO false [(2, some 39)] QP 12 Tryz.func25 fun E hE => ?_
 obtain ⟨g0, hf0⟩ := gdE hf0
 obtain ⟨g1, hf0⟩ := gdE hf0
 obtain rfl := zl hf0
 exact yE X0 hC hE [Ha (lnM wG x_.Parts), Hn (rL g0), Ha (rM 1 (eI .i64) ((x_.Parts.length : Nat) : Int) (0 : Int)), Ha (lnM (eI .i64) x_.Channels), Hn (rL g1), Ha (rM 1 (eOs 1 true (eI .i64)) ((x_.Channels.length : Nat) : Int) ([] : List Int)), Hm (shM (eI .i64) (eI .i64) (List.replicate ((x_.Parts.length : Nat) : Int).toNat (0 : Int))), Hm (shM (eOs 1 true (eI .i64)) F1_ (List.replicate ((x_.Channels.length : Nat) : Int).toNat ([] : List Int)))]
def WW : Code := (Tryz.f87.body).getD .skip
def vg : yV := spF (α := Int) (ρ := Bool) 87 (fun x => [(eI .i64) x]) (fun r => eB r) (fun x => jn x) [] (Ue)
theorem V7 {ctr : Ctr} (hC : zV Tryz.prog ctr) : vg.Ok Tryz.prog := by
 refine y5 ?_
 rintro n_ r0 hf0
 try unfold jn at hf0
 refine yO true [(2, none)] WW 5 Tryz.func87 fun E hE => ?_
 obtain rfl := zl hf0
 exact yE X0 hC hE []
def wh : Code := (Tryz.f90.body).getD .skip
def vO : yV := spF (α := List Int × Unit) (ρ := Int) 90 (fun x => [F2_ x.1, (QN 87) x.2]) (fun r => (eI .i64) r) (fun x => xG x.1 x.2) [] (by
 rintro ⟨a0, a1⟩ ⟨b0, b1⟩ h
 have e0 := wK.inj (f := F2_) _ _ (List.cons.inj h).1
 replace h := (List.cons.inj h).2
 have e1 := wK.inj (f := (QN 87)) _ _ (List.cons.inj h).1
 subst e0 e1
 rfl)
abbrev jj : List (Nat × T) := []
abbrev ji (s_ : List Int) (x8 : Int) : List (Nat × T) := [(0, .d (eSl 1 false (eI .i64) s_)), (1, .d (.fn 87 [])), (7, .d (I ((s_.length : Nat) : Int))), (8, .d (I x8))]
theorem k9 {ctr : Ctr} (hC : zV Tryz.prog ctr) (h09 : ctr.Has vg) : vO.Ok Tryz.prog := by
 refine y5 ?_
 rintro ⟨s_, f_⟩ r0 hf0
 try unfold xG at hf0
 refine yO true [(4, none)] wh 19 Tryz.func90 fun E hE => ?_
 refine yJ X0 hC wh [1] [] [] (fun z : Unit => wb = some r0) (fun z => jj) [(0, .d (eSl 1 false (eI .i64) s_)), (1, .d (.fn 87 []))] [Hh (.cut 1)] ?_ fun J1 hJ1 => ?_
 ·rintro ⟨⟩ hf0
  unfold wb at hf0
  obtain rfl := zl hf0
  exact yE X0 hC hE []
 ·obtain ⟨t2, ht2, hf0⟩ := zn hf0
  refine yL X0 hC wh [1,2,1,0] [J1] (fun s => yw s_ s) (fun x => ji s_ x) 0 ht2  [Ha (lnM (eI .i64) s_)] ?_
  rintro x8 m2 lr1 hf1 hl1 J2 hJ2
  try unfold yw at hf1
  rcases yc hf1 with ⟨c0, hf1⟩ | ⟨c0, hf1⟩
  ·obtain ⟨s__e, h0, hf1⟩ := zn hf1
   obtain ⟨r_, h1, hf1⟩ := zn hf1
   let Z0 : List HO := [Hq c0, Hi (eI .i64) h0, Hc h09 (x := s__e) h1 (loC (eI .i64) s__e <| loN)]
   rcases yc hf1 with ⟨c1, hf1⟩ | ⟨c1, hf1⟩
   ·obtain rfl := zl hf1
    obtain rfl := hl1
    obtain rfl := zl hf0
    exact yE X0 hC hE (Z0 ++ [Hq c1])
   ·obtain rfl := zl hf1
    exact yB X0 hC hJ2 (w64 (x8 + 1)) hl1 (Z0 ++ [Hq c1])
  ·obtain rfl := zl hf1
   obtain rfl := hl1
   exact yB X0 hC hJ1 () hf0 [Hq c0]
def jb : Code := (Tryz.f62.body).getD .skip
def wS : yV := spF (α := List Int × Unit) (ρ := Bool) 62 (fun x => [F2_ x.1, (QN 87) x.2]) (fun r => eB r) (fun x => yC x.1 x.2) [] (by
 rintro ⟨a0, a1⟩ ⟨b0, b1⟩ h
 have e0 := wK.inj (f := F2_) _ _ (List.cons.inj h).1
 replace h := (List.cons.inj h).2
 have e1 := wK.inj (f := (QN 87)) _ _ (List.cons.inj h).1
 subst e0 e1
 rfl)
theorem v8 {ctr : Ctr} (hC : zV Tryz.prog ctr) (h09 : ctr.Has vg) : wS.Ok Tryz.prog := by
 refine y5 ?_
 rintro ⟨s_, f_⟩ r0 hf0
 try unfold yC at hf0
 refine yO true [(4, none)] jb 9 Tryz.func62 fun E hE => ?_
 obtain ⟨r_, h0, hf0⟩ := zn hf0
 obtain rfl := zl hf0
 exact yE ((QI zQ (k9 hC h09) 7).or X0) hC hE [Hc (Ctr.add_has Ug vO) (x := (s_, ())) h0 (loC F2_ s_ <| loC (QN 87) () <| loN)]
def WV : Code := (Tryz.f89.body).getD .skip
def jy : yV := spF (α := zh) (ρ := Bool) 89 (fun x => [wG x]) (fun r => eB r) (fun x => jm x) [] (Ue)
theorem V6 {ctr : Ctr} (hC : zV Tryz.prog ctr) : jy.Ok Tryz.prog := by
 refine y5 ?_
 rintro p_ r0 hf0
 try unfold jm at hf0
 refine yO true [(2, none)] WV 12 Tryz.func89 fun E hE => ?_
 rcases yc hf0 with ⟨c0, hf0⟩ | ⟨c0, hf0⟩
 ·obtain rfl := zl hf0
  exact yE X0 hC hE (rpN 5 (Hq c0) [])
 ·obtain rfl := zl hf0
  exact yE X0 hC hE [Hq c0, Hq c0, Hq c0, Ha (lnM uV p_.Arcs), Hq c0, Hq c0]
def yD : Code := (Tryz.f107.body).getD .skip
def yo : yV := spF (α := List zh × Unit) (ρ := Int) 107 (fun x => [z5X x.1, (QN 89) x.2]) (fun r => (eI .i64) r) (fun x => ya x.1 x.2) [] (by
 rintro ⟨a0, a1⟩ ⟨b0, b1⟩ h
 have e0 := wK.inj (f := z5X) _ _ (List.cons.inj h).1
 replace h := (List.cons.inj h).2
 have e1 := wK.inj (f := (QN 89)) _ _ (List.cons.inj h).1
 subst e0 e1
 rfl)
abbrev vq : List (Nat × T) := []
abbrev vp (s_ : List zh) (x8 : Int) : List (Nat × T) := [(0, .d (eSl 3 false wG s_)), (1, .d (.fn 89 [])), (7, .d (I ((s_.length : Nat) : Int))), (8, .d (I x8))]
theorem vW {ctr : Ctr} (hC : zV Tryz.prog ctr) (h0H : ctr.Has jy) : yo.Ok Tryz.prog := by
 refine y5 ?_
 rintro ⟨s_, f_⟩ r0 hf0
 try unfold ya at hf0
 refine yO true [(4, none)] yD 19 Tryz.func107 fun E hE => ?_
 refine yJ X0 hC yD [1] [] [] (fun z : Unit => yp = some r0) (fun z => vq) [(0, .d (eSl 3 false wG s_)), (1, .d (.fn 89 []))] [Hh (.cut 1)] ?_ fun J1 hJ1 => ?_
 ·rintro ⟨⟩ hf0
  unfold yp at hf0
  obtain rfl := zl hf0
  exact yE X0 hC hE []
 ·obtain ⟨t2, ht2, hf0⟩ := zn hf0
  refine yL X0 hC yD [1,2,1,0] [J1] (fun s => zN s_ s) (fun x => vp s_ x) 0 ht2  [Ha (lnM wG s_)] ?_
  rintro x8 m2 lr1 hf1 hl1 J2 hJ2
  try unfold zN at hf1
  rcases yc hf1 with ⟨c0, hf1⟩ | ⟨c0, hf1⟩
  ·obtain ⟨s__e, h0, hf1⟩ := zn hf1
   obtain ⟨r_, h1, hf1⟩ := zn hf1
   let Z0 : List HO := [Hq c0, Hi wG h0, Hc h0H (x := s__e) h1 (loC wG s__e <| loN)]
   rcases yc hf1 with ⟨c1, hf1⟩ | ⟨c1, hf1⟩
   ·obtain rfl := zl hf1
    obtain rfl := hl1
    obtain rfl := zl hf0
    exact yE X0 hC hE (Z0 ++ [Hq c1])
   ·obtain rfl := zl hf1
    exact yB X0 hC hJ2 (w64 (x8 + 1)) hl1 (Z0 ++ [Hq c1])
  ·obtain rfl := zl hf1
   obtain rfl := hl1
   exact yB X0 hC hJ1 () hf0 [Hq c0]
def vo : Code := (Tryz.f88.body).getD .skip
def yh : yV := spF (α := List zh × Unit) (ρ := Bool) 88 (fun x => [z5X x.1, (QN 89) x.2]) (fun r => eB r) (fun x => zO x.1 x.2) [] (by
 rintro ⟨a0, a1⟩ ⟨b0, b1⟩ h
 have e0 := wK.inj (f := z5X) _ _ (List.cons.inj h).1
 replace h := (List.cons.inj h).2
 have e1 := wK.inj (f := (QN 89)) _ _ (List.cons.inj h).1
 subst e0 e1
 rfl)
theorem vt {ctr : Ctr} (hC : zV Tryz.prog ctr) (h0I : ctr.Has yo) : yh.Ok Tryz.prog := by
 refine y5 ?_
 rintro ⟨s_, f_⟩ r0 hf0
 try unfold zO at hf0
 refine yO true [(4, none)] vo 9 Tryz.func88 fun E hE => ?_
 obtain ⟨r_, h0, hf0⟩ := zn hf0
 obtain rfl := zl hf0
 exact yE X0 hC hE [Hc h0I (x := (s_, ())) h0 (loC z5X s_ <| loC (QN 89) () <| loN)]
def Uh : Code := (Tryz.f61.body).getD .skip
def kp : yV := spF (α := z7) (ρ := Bool) 61 (fun x => [xR x]) (fun r => eB r) (fun x => jo x) [] (Ue)
theorem UK {ctr : Ctr} (hC : zV Tryz.prog ctr) (h09 : ctr.Has vg) (h0J : ctr.Has yh) : kp.Ok Tryz.prog := by
 refine y5 ?_
 rintro x_ r0 hf0
 try unfold jo at hf0
 refine yO true [(2, none)] Uh 31 Tryz.func61 fun E hE => ?_
 rcases yc hf0 with ⟨c0, hf0⟩ | ⟨c0, hf0⟩
 ·obtain rfl := zl hf0
  exact yE X0 hC hE (rpN 4 (Hq c0) (rpN 11 qT []))
 ·let Z0 : List HO := (rpN 4 (Hq c0) [])
  rcases yc hf0 with ⟨c1, hf0⟩ | ⟨c1, hf0⟩
  ·obtain rfl := zl hf0
   exact yE X0 hC hE (Z0 ++ (rpN 5 (Hq c1) (rpN 6 qT [])))
  ·let Z1 : List HO := (Z0 ++ [Hq c1, Hq c1, Hq c1, Ha (lnM (eI .i64) x_.Channels), Hq c1, Hq c1])
   rcases yc hf0 with ⟨c2, hf0⟩ | ⟨c2, hf0⟩
   ·obtain rfl := zl hf0
    exact yE X0 hC hE (Z1 ++ (rpN 5 (Hq c2) [qT]))
   ·let Z2 : List HO := (Z1 ++ [Hq c2, Hq c2, Hq c2, Ha (lnM wG x_.Parts), Hq c2, Hq c2])
    rcases yc hf0 with ⟨c3, hf0⟩ | ⟨c3, hf0⟩
    ·obtain rfl := zl hf0
     exact yE X0 hC hE (Z2 ++ [Hq c3])
    ·obtain ⟨r_, h0, hf0⟩ := zn hf0
     let Z3 : List HO := (Z2 ++ [Hq c3, Hc (Ctr.add_has Ug wS) (x := (x_.Channels, ())) h0 (loC F2_ x_.Channels <| loC (QN 87) () <| loN)])
     rcases yc hf0 with ⟨c4, hf0⟩ | ⟨c4, hf0⟩
     ·obtain rfl := zl hf0
      exact yE ((QI zQ (v8 hC h09) 25).or X0) hC hE (Z3 ++ (rpN 4 (Hq c4) []))
     ·obtain ⟨r_1, h1, hf0⟩ := zn hf0
      obtain rfl := zl hf0
      exact yE ((QI zQ (v8 hC h09) 25).or X0) hC hE (Z3 ++ [Hq c4, Hq c4, Hq c4, Hc h0J (x := (x_.Parts, ())) h1 (loC z5X x_.Parts <| loC (QN 89) () <| loN), Hq c4])
def WY : Code := (Tryz.f63.body).getD .skip
def vh : yV := spF (α := Int) (ρ := Bool) 63 (fun x => [(eI .i64) x]) (fun r => eB r) (fun x => jx x) [] (Ue)
theorem Va {ctr : Ctr} (hC : zV Tryz.prog ctr) : vh.Ok Tryz.prog := by
 refine y5 ?_
 rintro n_ r0 hf0
 try unfold jx at hf0
 refine yO true [(2, none)] WY 5 Tryz.func63 fun E hE => ?_
 obtain rfl := zl hf0
 exact yE X0 hC hE []
def wg : Code := (Tryz.f90.body).getD .skip
def vN : yV := spF (α := List Int × Unit) (ρ := Int) 90 (fun x => [F2_ x.1, (QN 63) x.2]) (fun r => (eI .i64) r) (fun x => xF x.1 x.2) [] (by
 rintro ⟨a0, a1⟩ ⟨b0, b1⟩ h
 have e0 := wK.inj (f := F2_) _ _ (List.cons.inj h).1
 replace h := (List.cons.inj h).2
 have e1 := wK.inj (f := (QN 63)) _ _ (List.cons.inj h).1
 subst e0 e1
 rfl)
abbrev jh : List (Nat × T) := []
abbrev jg (s_ : List Int) (x8 : Int) : List (Nat × T) := [(0, .d (eSl 1 false (eI .i64) s_)), (1, .d (.fn 63 [])), (7, .d (I ((s_.length : Nat) : Int))), (8, .d (I x8))]
theorem k8 {ctr : Ctr} (hC : zV Tryz.prog ctr) (h0a : ctr.Has vh) : vN.Ok Tryz.prog := by
 refine y5 ?_
 rintro ⟨s_, f_⟩ r0 hf0
 try unfold xF at hf0
 refine yO true [(4, none)] wg 19 Tryz.func90 fun E hE => ?_
 refine yJ X0 hC wg [1] [] [] (fun z : Unit => wa = some r0) (fun z => jh) [(0, .d (eSl 1 false (eI .i64) s_)), (1, .d (.fn 63 []))] [Hh (.cut 1)] ?_ fun J1 hJ1 => ?_
 ·rintro ⟨⟩ hf0
  unfold wa at hf0
  obtain rfl := zl hf0
  exact yE X0 hC hE []
 ·obtain ⟨t2, ht2, hf0⟩ := zn hf0
  refine yL X0 hC wg [1,2,1,0] [J1] (fun s => yu s_ s) (fun x => jg s_ x) 0 ht2  [Ha (lnM (eI .i64) s_)] ?_
  rintro x8 m2 lr1 hf1 hl1 J2 hJ2
  try unfold yu at hf1
  rcases yc hf1 with ⟨c0, hf1⟩ | ⟨c0, hf1⟩
  ·obtain ⟨s__e, h0, hf1⟩ := zn hf1
   obtain ⟨r_, h1, hf1⟩ := zn hf1
   let Z0 : List HO := [Hq c0, Hi (eI .i64) h0, Hc h0a (x := s__e) h1 (loC (eI .i64) s__e <| loN)]
   rcases yc hf1 with ⟨c1, hf1⟩ | ⟨c1, hf1⟩
   ·obtain rfl := zl hf1
    obtain rfl := hl1
    obtain rfl := zl hf0
    exact yE X0 hC hE (Z0 ++ [Hq c1])
   ·obtain rfl := zl hf1
    exact yB X0 hC hJ2 (w64 (x8 + 1)) hl1 (Z0 ++ [Hq c1])
  ·obtain rfl := zl hf1
   obtain rfl := hl1
   exact yB X0 hC hJ1 () hf0 [Hq c0]
def ja : Code := (Tryz.f62.body).getD .skip
def wR : yV := spF (α := List Int × Unit) (ρ := Bool) 62 (fun x => [F2_ x.1, (QN 63) x.2]) (fun r => eB r) (fun x => yz x.1 x.2) [] (by
 rintro ⟨a0, a1⟩ ⟨b0, b1⟩ h
 have e0 := wK.inj (f := F2_) _ _ (List.cons.inj h).1
 replace h := (List.cons.inj h).2
 have e1 := wK.inj (f := (QN 63)) _ _ (List.cons.inj h).1
 subst e0 e1
 rfl)
theorem v7 {ctr : Ctr} (hC : zV Tryz.prog ctr) (h0a : ctr.Has vh) : wR.Ok Tryz.prog := by
 refine y5 ?_
 rintro ⟨s_, f_⟩ r0 hf0
 try unfold yz at hf0
 refine yO true [(4, none)] ja 9 Tryz.func62 fun E hE => ?_
 obtain ⟨r_, h0, hf0⟩ := zn hf0
 obtain rfl := zl hf0
 exact yE ((QI zQ (k8 hC h0a) 7).or X0) hC hE [Hc (Ctr.add_has Ug vN) (x := (s_, ())) h0 (loC F2_ s_ <| loC (QN 63) () <| loN)]
def K1 : Code := (Tryz.f67.body).getD .skip
def qa : yV := spF (α := Int × Int) (ρ := Bool) 67 (fun x => [(eI .i64) x.1, (eI .i64) x.2]) (fun r => eB r) (fun x => wV x.1 x.2) [] (VS)
theorem Kg {ctr : Ctr} (hC : zV Tryz.prog ctr) : qa.Ok Tryz.prog := by
 refine y5 ?_
 rintro ⟨n_, many⟩ r0 hf0
 try unfold wV at hf0
 refine yO true [(4, none)] K1 12 Tryz.func67 fun E hE => ?_
 rcases yc hf0 with ⟨c0, hf0⟩ | ⟨c0, hf0⟩
 ·obtain rfl := zl hf0
  exact yE X0 hC hE (rpN 4 (Hq c0) [])
 ·obtain rfl := zl hf0
  exact yE X0 hC hE (rpN 4 (Hq c0) [])
def qm : Code := (Tryz.f46.body).getD .skip
def uZ : yV := spF (α := List Int × Int) (ρ := Bool) 46 (fun x => [F2_ x.1, (eI .i64) x.2]) (fun r => eB r) (fun x => uw x.1 x.2) [] (VS)
abbrev XW : List (Nat × T) := []
abbrev XV (l_ : List Int) (many : Int) (x9 : Int) (x29 : Bool) : List (Nat × T) := [(0, .d (eSl 1 false (eI .i64) l_)), (1, .d (I many)), (7, .d (eSl 1 false (eI .i64) l_)), (8, .d (I ((l_.length : Nat) : Int))), (9, .d (I x9)), (19, .d (I x9)), (20, .d (B (decide (x9 > 0)))), (21, .d (B (decide (x9 > 0)))), (29, .d (B x29))]
abbrev XU (l_ : List Int) (many : Int) (x9 : Int) : List (Nat × T) := [(0, .d (eSl 1 false (eI .i64) l_)), (1, .d (I many)), (7, .d (eSl 1 false (eI .i64) l_)), (8, .d (I ((l_.length : Nat) : Int))), (9, .d (I x9))]
theorem U0 {ctr : Ctr} (hC : zV Tryz.prog ctr) (h01 : ctr.Has qa) : uZ.Ok Tryz.prog := by
 refine y5 ?_
 rintro ⟨l_, many⟩ r0 hf0
 try unfold uw at hf0
 refine yO true [(4, none)] qm 32 Tryz.func46 fun E hE => ?_
 refine yJ X0 hC qm [1] [] [] (fun z : Unit => jQ = some r0) (fun z => XW) [(0, .d (eSl 1 false (eI .i64) l_)), (1, .d (I many))] [Hh (.cut 1)] ?_ fun J1 hJ1 => ?_
 ·rintro ⟨⟩ hf0
  unfold jQ at hf0
  obtain rfl := zl hf0
  exact yE X0 hC hE []
 ·obtain ⟨t2, ht2, hf0⟩ := zn hf0
  refine yL X0 hC qm [1,2,1,0] [J1] (fun s => vJ l_ many s) (fun x => XU l_ many x) 0 ht2  [Ha (lnM (eI .i64) l_)] ?_
  rintro x9 m2 lr1 hf1 hl1 J2 hJ2
  try unfold vJ at hf1
  rcases yc hf1 with ⟨c0, hf1⟩ | ⟨c0, hf1⟩
  ·refine yJ X0 hC qm [1,2,1,0,0,1,1] [J1, J2] [0,1,7,8,9,19,20,21,29] (fun z : Bool => uW x9 z = some lr1) (fun z => XV l_ many x9 z) [(0, .d (eSl 1 false (eI .i64) l_)), (1, .d (I many)), (7, .d (eSl 1 false (eI .i64) l_)), (8, .d (I ((l_.length : Nat) : Int))), (9, .d (I x9))] [Hq c0, Hh (.cut 0)] ?_ fun J3 hJ3 => ?_
   ·rintro x29 hf1
    unfold uW at hf1
    obtain rfl := zl hf1
    exact yB X0 hC hJ2 (w64 (x9 + 1)) hl1 []
   ·obtain ⟨l__e, h0, hf1⟩ := zn hf1
    obtain ⟨r_, h1, hf1⟩ := zn hf1
    let Z0 : List HO := [Hi (eI .i64) h0, Hc h01 (x := (l__e, many)) h1 (loC (eI .i64) l__e <| loC (eI .i64) many <| loN)]
    rcases yc hf1 with ⟨c1, hf1⟩ | ⟨c1, hf1⟩
    ·obtain rfl := zl hf1
     obtain rfl := hl1
     obtain rfl := zl hf0
     exact yE X0 hC hE (Z0 ++ (rpN 5 (Hq c1) [qT]))
    ·rcases yc hf1 with ⟨c2, hf1⟩ | ⟨c2, hf1⟩
     ·obtain ⟨l__e1, h2, hf1⟩ := zn hf1
      let Z1 : List HO := (Z0 ++ (Hq c1 :: Hq c1 :: Hq c1 :: (rpN 5 (Hq c2) [Hi (eI .i64) h2, Hq c2, Hq c2, Hq c1, Hq c2, Hq c1])))
      rcases yc hf1 with ⟨c3, hf1⟩ | ⟨c3, hf1⟩
      ·obtain rfl := zl hf1
       obtain rfl := hl1
       obtain rfl := zl hf0
       exact yE X0 hC hE (Z1 ++ [Hq c3])
      ·exact yB X0 hC hJ3 (decide (l__e ≤ l__e1)) hf1 (Z1 ++ [Hq c3])
     ·exact yB X0 hC hJ3 false hf1 (Z0 ++ (Hq c1 :: Hq c1 :: Hq c1 :: (rpN 7 (Hq c2) [Hq c1, Hq c2, Hq c1, qF])))
  ·obtain rfl := zl hf1
   obtain rfl := hl1
   exact yB X0 hC hJ1 () hf0 [Hq c0]
def YC : Code := (Tryz.f66.body).getD .skip
def ud : yV := spF (α := z7 × zh × ze) (ρ := Bool) 66 (fun x => [xR x.1, wG x.2.1, uV x.2.2]) (fun r => eB r) (fun x => wB x.1 x.2.1 x.2.2) [] (z8L)
theorem YP {ctr : Ctr} (hC : zV Tryz.prog ctr) (h01 : ctr.Has qa) : ud.Ok Tryz.prog := by
 refine y5 ?_
 rintro ⟨x_, p_, a_⟩ r0 hf0
 try unfold wB at hf0
 refine yO true [(6, none)] YC 52 Tryz.func66 fun E hE => ?_
 obtain ⟨r_, h0, hf0⟩ := zn hf0
 let Z0 : List HO := [Hc h01 (x := (a_.From, p_.States)) h0 (loC (eI .i64) a_.From <| loC (eI .i64) p_.States <| loN)]
 rcases yc hf0 with ⟨c0, hf0⟩ | ⟨c0, hf0⟩
 ·obtain rfl := zl hf0
  exact yE X0 hC hE (Z0 ++ (rpN 7 (Hq c0) (rpN 5 qT [])))
 ·obtain ⟨r_1, h1, hf0⟩ := zn hf0
  let Z1 : List HO := (Z0 ++ (rpN 5 (Hq c0) [Hc h01 (x := (a_.To, p_.States)) h1 (loC (eI .i64) a_.To <| loC (eI .i64) p_.States <| loN), Hq c0, Hq c0]))
  rcases yc hf0 with ⟨c1, hf0⟩ | ⟨c1, hf0⟩
  ·obtain rfl := zl hf0
   exact yE X0 hC hE (Z1 ++ (rpN 4 (Hq c1) [qT]))
  ·let Z2 : List HO := (Z1 ++ (rpN 4 (Hq c1) []))
   rcases yc hf0 with ⟨c2, hf0⟩ | ⟨c2, hf0⟩
   ·obtain rfl := zl hf0
    exact yE X0 hC hE (Z2 ++ [Hq c2])
   ·rcases yc hf0 with ⟨c3, hf0⟩ | ⟨c3, hf0⟩
    ·rcases yc hf0 with ⟨c4, hf0⟩ | ⟨c4, hf0⟩
     ·obtain ⟨r_2, h2, hf0⟩ := zn hf0
      obtain rfl := zl hf0
      exact yE X0 hC hE (Z2 ++ (Hq c2 :: Hq c3 :: (rpN 5 (Hq c4) [Hc h01 (x := (a_.Message, x_.Labels)) h2 (loC (eI .i64) a_.Message <| loC (eI .i64) x_.Labels <| loN), Hq c4])))
     ·obtain rfl := zl hf0
      exact yE X0 hC hE (Z2 ++ (Hq c2 :: Hq c3 :: (rpN 6 (Hq c4) [])))
    ·obtain ⟨r_3, h3, hf0⟩ := zn hf0
     let Z3 : List HO := (Z2 ++ [Hq c2, Hq c3, Ha (lnM (eI .i64) x_.Channels), Hc h01 (x := (a_.Channel, ((x_.Channels.length : Nat) : Int))) h3 (loC (eI .i64) a_.Channel <| loC (eI .i64) ((x_.Channels.length : Nat) : Int) <| loN)])
     rcases yc hf0 with ⟨c5, hf0⟩ | ⟨c5, hf0⟩
     ·obtain ⟨r_4, h4, hf0⟩ := zn hf0
      obtain rfl := zl hf0
      exact yE X0 hC hE (Z3 ++ (rpN 5 (Hq c5) [Hc h01 (x := (a_.Message, x_.Messages)) h4 (loC (eI .i64) a_.Message <| loC (eI .i64) x_.Messages <| loN), Hq c5]))
     ·obtain rfl := zl hf0
      exact yE X0 hC hE (Z3 ++ (rpN 6 (Hq c5) []))
def WX : Code := (Tryz.f65.body).getD .skip
def jA : yV := spF (α := ze × z7 × zh) (ρ := Bool) 65 (fun x => [uV x.1, Ke x.2.1, z5Y x.2.2]) (fun r => eB r) (fun x => jw x.1 x.2.1 x.2.2) [] (z8L)
theorem V9 {ctr : Ctr} (hC : zV Tryz.prog ctr) (h0K : ctr.Has ud) : jA.Ok Tryz.prog := by
 refine y5 ?_
 rintro ⟨a_, x1, x2⟩ r0 hf0
 try unfold jw at hf0
 refine yO true [(4, none)] WX 10 Tryz.func65 fun E hE => ?_
 obtain ⟨r_, h0, hf0⟩ := zn hf0
 obtain rfl := zl hf0
 exact yE X0 hC hE [Hc h0K (x := (x1, x2, a_)) h0 (loC xR x1 <| loC wG x2 <| loC uV a_ <| loN)]
def yR : Code := (Tryz.f91.body).getD .skip
def yN : yV := spF (α := List ze × (z7 × zh)) (ρ := Int) 91 (fun x => [z7E x.1, (z2a 65 Ke z5Y) x.2]) (fun r => (eI .i64) r) (fun x => ye x.1 x.2) [] (by
 rintro ⟨a0, a1⟩ ⟨b0, b1⟩ h
 have e0 := wK.inj (f := z7E) _ _ (List.cons.inj h).1
 replace h := (List.cons.inj h).2
 have e1 := wK.inj (f := (z2a 65 Ke z5Y)) _ _ (List.cons.inj h).1
 subst e0 e1
 rfl)
abbrev vC : List (Nat × T) := []
abbrev vB (s_ : List ze) (f_ : z7 × zh) (x8 : Int) : List (Nat × T) := [(0, .d (eSl 5 false uV s_)), (1, .d (.fn 65 [.sptr (.agg [I f_.1.Messages, I f_.1.Labels, eSl 1 false (eI .i64) f_.1.Channels, eSl 3 false wG f_.1.Parts]), .sptr (.agg [I f_.2.States, eSl 5 false uV f_.2.Arcs, eSl 1 false (eI .i64) f_.2.Final])])), (7, .d (I ((s_.length : Nat) : Int))), (8, .d (I x8))]
theorem uo {ctr : Ctr} (hC : zV Tryz.prog ctr) (h0L : ctr.Has jA) : yN.Ok Tryz.prog := by
 refine y5 ?_
 rintro ⟨s_, f_⟩ r0 hf0
 try unfold ye at hf0
 refine yO true [(4, none)] yR 19 Tryz.func91 fun E hE => ?_
 refine yJ X0 hC yR [1] [] [] (fun z : Unit => yQ = some r0) (fun z => vC) [(0, .d (eSl 5 false uV s_)), (1, .d (.fn 65 [.sptr (.agg [I f_.1.Messages, I f_.1.Labels, eSl 1 false (eI .i64) f_.1.Channels, eSl 3 false wG f_.1.Parts]), .sptr (.agg [I f_.2.States, eSl 5 false uV f_.2.Arcs, eSl 1 false (eI .i64) f_.2.Final])]))] [Hh (.cut 1)] ?_ fun J1 hJ1 => ?_
 ·rintro ⟨⟩ hf0
  unfold yQ at hf0
  obtain rfl := zl hf0
  exact yE X0 hC hE []
 ·obtain ⟨t2, ht2, hf0⟩ := zn hf0
  refine yL X0 hC yR [1,2,1,0] [J1] (fun s => zS s_ f_ s) (fun x => vB s_ f_ x) 0 ht2  [Ha (lnM uV s_)] ?_
  rintro x8 m2 lr1 hf1 hl1 J2 hJ2
  try unfold zS at hf1
  rcases yc hf1 with ⟨c0, hf1⟩ | ⟨c0, hf1⟩
  ·obtain ⟨s__e, h0, hf1⟩ := zn hf1
   obtain ⟨r_, h1, hf1⟩ := zn hf1
   let Z0 : List HO := [Hq c0, Hi uV h0, Hc h0L (x := (s__e, f_.1, f_.2)) h1 (loC uV s__e <| loC Ke f_.1 <| loC z5Y f_.2 <| loN)]
   rcases yc hf1 with ⟨c1, hf1⟩ | ⟨c1, hf1⟩
   ·obtain rfl := zl hf1
    obtain rfl := hl1
    obtain rfl := zl hf0
    exact yE X0 hC hE (Z0 ++ [Hq c1])
   ·obtain rfl := zl hf1
    exact yB X0 hC hJ2 (w64 (x8 + 1)) hl1 (Z0 ++ [Hq c1])
  ·obtain rfl := zl hf1
   obtain rfl := hl1
   exact yB X0 hC hJ1 () hf0 [Hq c0]
def vz : Code := (Tryz.f64.body).getD .skip
def ym : yV := spF (α := List ze × (z7 × zh)) (ρ := Bool) 64 (fun x => [z7E x.1, (z2a 65 Ke z5Y) x.2]) (fun r => eB r) (fun x => zT x.1 x.2) [] (by
 rintro ⟨a0, a1⟩ ⟨b0, b1⟩ h
 have e0 := wK.inj (f := z7E) _ _ (List.cons.inj h).1
 replace h := (List.cons.inj h).2
 have e1 := wK.inj (f := (z2a 65 Ke z5Y)) _ _ (List.cons.inj h).1
 subst e0 e1
 rfl)
theorem vI {ctr : Ctr} (hC : zV Tryz.prog ctr) (h0M : ctr.Has yN) : ym.Ok Tryz.prog := by
 refine y5 ?_
 rintro ⟨s_, f_⟩ r0 hf0
 try unfold zT at hf0
 refine yO true [(4, none)] vz 9 Tryz.func64 fun E hE => ?_
 obtain ⟨r_, h0, hf0⟩ := zn hf0
 obtain rfl := zl hf0
 exact yE X0 hC hE [Hc h0M (x := (s_, (f_.1, f_.2))) h0 (loC z7E s_ <| loC (z2a 65 Ke z5Y) (f_.1, f_.2) <| loN)]
def kB : Code := (Tryz.f28.body).getD .skip
def wW : yV := spF (α := z7) (ρ := Int) 28 (fun x => [xR x]) (fun r => (eI .i64) r) (fun x => ve x) [] (Ue)
abbrev WA : List (Nat × T) := []
abbrev Wz (x_ : z7) (x29 : Int) : List (Nat × T) := [(1, .d (.sptr (xR x_))), (27, .d (eSl 3 false wG x_.Parts)), (28, .d (I ((x_.Parts.length : Nat) : Int))), (29, .d (I x29))]
theorem UN {ctr : Ctr} (hC : zV Tryz.prog ctr) (h0N : ctr.Has kp) (h0a : ctr.Has vh) (h0l : ctr.Has uZ) (h0O : ctr.Has ym) : wW.Ok Tryz.prog := by
 refine y5 ?_
 rintro x_ r0 hf0
 try unfold ve at hf0
 refine yO true [(2, none)] kB 51 Tryz.func28 fun E hE => ?_
 obtain ⟨r_, h0, hf0⟩ := zn hf0
 let Z0 : List HO := [Hc h0N (x := x_) h0 (loC xR x_ <| loN)]
 rcases yc hf0 with ⟨c0, hf0⟩ | ⟨c0, hf0⟩
 ·obtain rfl := zl hf0
  exact yE X0 hC hE (Z0 ++ [Hq c0])
 ·rcases yc hf0 with ⟨c1, hf0⟩ | ⟨c1, hf0⟩
  ·obtain rfl := zl hf0
   exact yE X0 hC hE (Z0 ++ (Hq c0 :: (rpN 4 (Hq c1) (rpN 10 qT []))))
  ·let Z1 : List HO := (Z0 ++ (Hq c0 :: (rpN 4 (Hq c1) [])))
   rcases yc hf0 with ⟨c2, hf0⟩ | ⟨c2, hf0⟩
   ·obtain rfl := zl hf0
    exact yE X0 hC hE (Z1 ++ (rpN 5 (Hq c2) (rpN 5 qT [])))
   ·let Z2 : List HO := (Z1 ++ [Hq c2, Hq c2, Hq c2, Ha (lnM wG x_.Parts), Hq c2, Hq c2])
    rcases yc hf0 with ⟨c3, hf0⟩ | ⟨c3, hf0⟩
    ·obtain rfl := zl hf0
     exact yE X0 hC hE (Z2 ++ (rpN 4 (Hq c3) [qT]))
    ·obtain ⟨r_1, h1, hf0⟩ := zn hf0
     let Z3 : List HO := (Z2 ++ [Hq c3, Hq c3, Hq c3, Hc (Ctr.add_has Ug wR) (x := (x_.Channels, ())) h1 (loC F2_ x_.Channels <| loC (QN 63) () <| loN), Hq c3])
     rcases yc hf0 with ⟨c4, hf0⟩ | ⟨c4, hf0⟩
     ·obtain rfl := zl hf0
      exact yE ((QI zQ (v7 hC h0a) 24).or X0) hC hE (Z3 ++ [Hq c4])
     ·refine yJ ((QI zQ (v7 hC h0a) 24).or X0) hC kB [1,1,1] [] [] (fun z : Unit => ko = some r0) (fun z => WA) [(1, .own (.box (xR x_)))] (Z3 ++ [Hq c4, Hh (.cut 0)]) ?_ fun J1 hJ1 => ?_
      ·rintro ⟨⟩ hf0
       unfold ko at hf0
       obtain rfl := zl hf0
       exact yE X0 hC hE []
      ·obtain ⟨t2, ht2, hf0⟩ := zn hf0
       refine yL X0 hC kB [1,1,1,2,1,0] [J1] (fun s => uq x_ s) (fun x => Wz x_ x) 0 ht2  [Ha (lnM wG x_.Parts), Hh (.n 1 [1])] ?_
       rintro x29 m2 lr1 hf1 hl1 J2 hJ2
       try unfold uq at hf1
       rcases yc hf1 with ⟨c5, hf1⟩ | ⟨c5, hf1⟩
       ·obtain ⟨Part_e, h2, hf1⟩ := zn hf1
        let Z4 : List HO := [Hq c5, Hi wG h2]
        rcases yc hf1 with ⟨c6, hf1⟩ | ⟨c6, hf1⟩
        ·obtain rfl := zl hf1
         obtain rfl := hl1
         obtain rfl := zl hf0
         exact yE X0 hC hE (Z4 ++ (rpN 7 (Hq c6) (rpN 6 qT [])))
        ·obtain ⟨r_2, h3, hf1⟩ := zn hf1
         let Z5 : List HO := (Z4 ++ (rpN 5 (Hq c6) [Hc h0l (x := (Part_e.Final, Part_e.States)) h3 (loC F2_ Part_e.Final <| loC (eI .i64) Part_e.States <| loN), Hq c6, Hq c6]))
         rcases yc hf1 with ⟨c7, hf1⟩ | ⟨c7, hf1⟩
         ·obtain rfl := zl hf1
          obtain rfl := hl1
          obtain rfl := zl hf0
          exact yE X0 hC hE (Z5 ++ (rpN 5 (Hq c7) [qT]))
         ·obtain ⟨r_3, h4, hf1⟩ := zn hf1
          let Z6 : List HO := (Z5 ++ (rpN 4 (Hq c7) [Hc h0O (x := (Part_e.Arcs, (x_, Part_e))) h4 (loC z7E Part_e.Arcs <| loC (z2a 65 Ke z5Y) (x_, Part_e) <| loN), Hq c7]))
          rcases yc hf1 with ⟨c8, hf1⟩ | ⟨c8, hf1⟩
          ·obtain rfl := zl hf1
           obtain rfl := hl1
           obtain rfl := zl hf0
           exact yE X0 hC hE (Z6 ++ [Hq c8])
          ·obtain rfl := zl hf1
           exact yB X0 hC hJ2 (w64 (x29 + 1)) hl1 (Z6 ++ [Hq c8])
       ·obtain rfl := zl hf1
        obtain rfl := hl1
        exact yB X0 hC hJ1 () hf0 [Hq c5]
def Ya : Code := (Tryz.f68.body).getD .skip
def xA : yV := spF (α := Int × z7) (ρ := Bool) 68 (fun x => [(eI .i64) x.1, Ke x.2]) (fun r => eB r) (fun x => vd x.1 x.2) [] (VS)
theorem Yd {ctr : Ctr} (hC : zV Tryz.prog ctr) (h01 : ctr.Has qa) : xA.Ok Tryz.prog := by
 refine y5 ?_
 rintro ⟨m_, x1⟩ r0 hf0
 try unfold vd at hf0
 refine yO true [(3, none)] Ya 9 Tryz.func68 fun E hE => ?_
 obtain ⟨r_, h0, hf0⟩ := zn hf0
 obtain rfl := zl hf0
 exact yE X0 hC hE [Hc h01 (x := (m_, x1.Messages)) h0 (loC (eI .i64) m_ <| loC (eI .i64) x1.Messages <| loN)]
def we : Code := (Tryz.f90.body).getD .skip
def vM : yV := spF (α := List Int × z7) (ρ := Int) 90 (fun x => [F2_ x.1, (z3l 68 Ke) x.2]) (fun r => (eI .i64) r) (fun x => xE x.1 x.2) [] (by
 rintro ⟨a0, a1⟩ ⟨b0, b1⟩ h
 have e0 := wK.inj (f := F2_) _ _ (List.cons.inj h).1
 replace h := (List.cons.inj h).2
 have e1 := wK.inj (f := (z3l 68 Ke)) _ _ (List.cons.inj h).1
 subst e0 e1
 rfl)
abbrev jf : List (Nat × T) := []
abbrev je (s_ : List Int) (f_ : z7) (x8 : Int) : List (Nat × T) := [(0, .d (eSl 1 false (eI .i64) s_)), (1, .d (.fn 68 [.sptr (.agg [I f_.Messages, I f_.Labels, eSl 1 false (eI .i64) f_.Channels, eSl 3 false wG f_.Parts])])), (7, .d (I ((s_.length : Nat) : Int))), (8, .d (I x8))]
theorem k7 {ctr : Ctr} (hC : zV Tryz.prog ctr) (h0b : ctr.Has xA) : vM.Ok Tryz.prog := by
 refine y5 ?_
 rintro ⟨s_, f_⟩ r0 hf0
 try unfold xE at hf0
 refine yO true [(4, none)] we 19 Tryz.func90 fun E hE => ?_
 refine yJ X0 hC we [1] [] [] (fun z : Unit => w9 = some r0) (fun z => jf) [(0, .d (eSl 1 false (eI .i64) s_)), (1, .d (.fn 68 [.sptr (.agg [I f_.Messages, I f_.Labels, eSl 1 false (eI .i64) f_.Channels, eSl 3 false wG f_.Parts])]))] [Hh (.cut 1)] ?_ fun J1 hJ1 => ?_
 ·rintro ⟨⟩ hf0
  unfold w9 at hf0
  obtain rfl := zl hf0
  exact yE X0 hC hE []
 ·obtain ⟨t2, ht2, hf0⟩ := zn hf0
  refine yL X0 hC we [1,2,1,0] [J1] (fun s => yq s_ f_ s) (fun x => je s_ f_ x) 0 ht2  [Ha (lnM (eI .i64) s_)] ?_
  rintro x8 m2 lr1 hf1 hl1 J2 hJ2
  try unfold yq at hf1
  rcases yc hf1 with ⟨c0, hf1⟩ | ⟨c0, hf1⟩
  ·obtain ⟨s__e, h0, hf1⟩ := zn hf1
   obtain ⟨r_, h1, hf1⟩ := zn hf1
   let Z0 : List HO := [Hq c0, Hi (eI .i64) h0, Hc h0b (x := (s__e, f_)) h1 (loC (eI .i64) s__e <| loC Ke f_ <| loN)]
   rcases yc hf1 with ⟨c1, hf1⟩ | ⟨c1, hf1⟩
   ·obtain rfl := zl hf1
    obtain rfl := hl1
    obtain rfl := zl hf0
    exact yE X0 hC hE (Z0 ++ [Hq c1])
   ·obtain rfl := zl hf1
    exact yB X0 hC hJ2 (w64 (x8 + 1)) hl1 (Z0 ++ [Hq c1])
  ·obtain rfl := zl hf1
   obtain rfl := hl1
   exact yB X0 hC hJ1 () hf0 [Hq c0]
def j9 : Code := (Tryz.f62.body).getD .skip
def wQ : yV := spF (α := List Int × z7) (ρ := Bool) 62 (fun x => [F2_ x.1, (z3l 68 Ke) x.2]) (fun r => eB r) (fun x => yx x.1 x.2) [] (by
 rintro ⟨a0, a1⟩ ⟨b0, b1⟩ h
 have e0 := wK.inj (f := F2_) _ _ (List.cons.inj h).1
 replace h := (List.cons.inj h).2
 have e1 := wK.inj (f := (z3l 68 Ke)) _ _ (List.cons.inj h).1
 subst e0 e1
 rfl)
theorem v6 {ctr : Ctr} (hC : zV Tryz.prog ctr) (h0b : ctr.Has xA) : wQ.Ok Tryz.prog := by
 refine y5 ?_
 rintro ⟨s_, f_⟩ r0 hf0
 try unfold yx at hf0
 refine yO true [(4, none)] j9 9 Tryz.func62 fun E hE => ?_
 obtain ⟨r_, h0, hf0⟩ := zn hf0
 obtain rfl := zl hf0
 exact yE ((QI zQ (k7 hC h0b) 7).or X0) hC hE [Hc (Ctr.add_has Ug vM) (x := (s_, f_)) h0 (loC F2_ s_ <| loC (z3l 68 Ke) f_ <| loN)]
def w6 : Code := (Tryz.f29.body).getD .skip
def wP : yV := spF (α := z7 × z8) (ρ := Int) 29 (fun x => [xR x.1, kg x.2]) (fun r => (eI .i64) r) (fun x => w8 x.1 x.2) [] (VS)
abbrev Y0 : List (Nat × T) := []
abbrev ZZ (x_ : z7) (c_ : z8) (x52 : Int) : List (Nat × T) := [(2, .d (.sptr (xR x_))), (50, .d (eSl 1 false F2_ c_.Queues)), (51, .d (I ((c_.Queues.length : Nat) : Int))), (52, .d (I x52))]
abbrev Y1 (x_ : z7) (c_ : z8) : List (Nat × T) := [(2, .own (.box (xR x_))), (3, .own (.box (kg c_)))]
abbrev ZY (x_ : z7) (c_ : z8) (x34 : Int) : List (Nat × T) := [(2, .own (.box (xR x_))), (3, .own (.box (kg c_))), (32, .d (eSl 3 false wG x_.Parts)), (33, .d (I ((x_.Parts.length : Nat) : Int))), (34, .d (I x34))]
theorem Xb {ctr : Ctr} (hC : zV Tryz.prog ctr) (h06 : ctr.Has wW) (h01 : ctr.Has qa) (h0b : ctr.Has xA) : wP.Ok Tryz.prog := by
 refine y5 ?_
 rintro ⟨x_, c_⟩ r0 hf0
 try unfold w8 at hf0
 refine yO true [(4, none)] w6 71 Tryz.func29 fun E hE => ?_
 obtain ⟨r_, h0, hf0⟩ := zn hf0
 let Z0 : List HO := [Hc h06 (x := x_) h0 (loC xR x_ <| loN)]
 rcases yc hf0 with ⟨c0, hf0⟩ | ⟨c0, hf0⟩
 ·obtain rfl := zl hf0
  exact yE X0 hC hE (Z0 ++ [Hq c0])
 ·let Z1 : List HO := (Z0 ++ [Hq c0, Ha (lnM (eI .i64) c_.States), Ha (lnM wG x_.Parts)])
  rcases yc hf0 with ⟨c1, hf0⟩ | ⟨c1, hf0⟩
  ·obtain rfl := zl hf0
   exact yE X0 hC hE (Z1 ++ (rpN 8 (Hq c1) [qT]))
  ·let Z2 : List HO := (Z1 ++ [Hq c1, Hq c1, Hq c1, Ha (lnM F2_ c_.Queues), Hq c1, Hq c1, Hq c1, Ha (lnM (eI .i64) x_.Channels), Hq c1, Hq c1])
   rcases yc hf0 with ⟨c2, hf0⟩ | ⟨c2, hf0⟩
   ·obtain rfl := zl hf0
    exact yE X0 hC hE (Z2 ++ [Hq c2])
   ·refine yJ X0 hC w6 [1,1,1] [] [2,3] (fun z : Unit => w5 x_ c_ = some r0) (fun z => Y1 x_ c_) [(2, .own (.box (xR x_))), (3, .own (.box (kg c_)))] (Z2 ++ [Hq c2, Hh (.cut 0)]) ?_ fun J1 hJ1 => ?_
    ·rintro ⟨⟩ hf0
     unfold w5 at hf0
     refine yJ X0 hC w6 [1,1,1,1] [] [] (fun z : Unit => uA = some r0) (fun z => Y0) [(2, .own (.box (xR x_))), (3, .own (.box (kg c_)))] [Hh (.cut 0)] ?_ fun J2 hJ2 => ?_
     ·rintro ⟨⟩ hf0
      unfold uA at hf0
      obtain rfl := zl hf0
      exact yE X0 hC hE []
     ·obtain ⟨t3, ht3, hf0⟩ := zn hf0
      refine yL X0 hC w6 [1,1,1,1,2,1,0] [J2] (fun s => xZ x_ c_ s) (fun x => ZZ x_ c_ x) 0 ht3  [Ha (lnM F2_ c_.Queues), Hh (.n 1 [2])] ?_
      rintro x52 m3 lr1 hf1 hl1 J3 hJ3
      try unfold xZ at hf1
      rcases yc hf1 with ⟨c3, hf1⟩ | ⟨c3, hf1⟩
      ·obtain ⟨Queue_e, h1, hf1⟩ := zn hf1
       obtain ⟨Channel_e, h2, hf1⟩ := zn hf1
       let Z3 : List HO := [Hq c3, Hi F2_ h1, Ha (lnM (eI .i64) Queue_e), Hi (eI .i64) h2]
       rcases yc hf1 with ⟨c4, hf1⟩ | ⟨c4, hf1⟩
       ·obtain rfl := zl hf1
        obtain rfl := hl1
        obtain rfl := zl hf0
        exact yE X0 hC hE (Z3 ++ (rpN 4 (Hq c4) [qT]))
       ·obtain ⟨r_1, h3, hf1⟩ := zn hf1
        let Z4 : List HO := (Z3 ++ [Hq c4, Hq c4, Hq c4, Hc (Ctr.add_has Ug wQ) (x := (Queue_e, x_)) h3 (loC F2_ Queue_e <| loC (z3l 68 Ke) x_ <| loN), Hq c4])
        rcases yc hf1 with ⟨c5, hf1⟩ | ⟨c5, hf1⟩
        ·obtain rfl := zl hf1
         obtain rfl := hl1
         obtain rfl := zl hf0
         exact yE ((QI zQ (v6 hC h0b) 68).or X0) hC hE (Z4 ++ [Hq c5])
        ·obtain rfl := zl hf1
         exact yB ((QI zQ (v6 hC h0b) 68).or X0) hC hJ3 (w64 (x52 + 1)) hl1 (Z4 ++ [Hq c5])
      ·obtain rfl := zl hf1
       obtain rfl := hl1
       exact yB X0 hC hJ2 () hf0 [Hq c3]
    ·obtain ⟨t4, ht4, hf0⟩ := zn hf0
     refine yL X0 hC w6 [1,1,1,2,1,0] [J1] (fun s => xY x_ c_ s) (fun x => ZY x_ c_ x) 0 ht4  [Ha (lnM wG x_.Parts)] ?_
     rintro x34 m4 lr1 hf1 hl1 J4 hJ4
     try unfold xY at hf1
     rcases yc hf1 with ⟨c6, hf1⟩ | ⟨c6, hf1⟩
     ·obtain ⟨Part_e, h4, hf1⟩ := zn hf1
      obtain ⟨State_e, h5, hf1⟩ := zn hf1
      obtain ⟨r_2, h6, hf1⟩ := zn hf1
      let Z5 : List HO := [Hq c6, Hi wG h4, Hi (eI .i64) h5, Hc h01 (x := (State_e, Part_e.States)) h6 (loC (eI .i64) State_e <| loC (eI .i64) Part_e.States <| loN)]
      rcases yc hf1 with ⟨c7, hf1⟩ | ⟨c7, hf1⟩
      ·obtain rfl := zl hf1
       obtain rfl := hl1
       obtain rfl := zl hf0
       exact yE X0 hC hE (Z5 ++ [Hq c7])
      ·obtain rfl := zl hf1
       exact yB X0 hC hJ4 (w64 (x34 + 1)) hl1 (Z5 ++ [Hq c7])
     ·obtain rfl := zl hf1
      obtain rfl := hl1
      exact yB X0 hC hJ1 () hf0 [Hq c6]
def XR : Code := (Tryz.f86.body).getD .skip
def vE : yV := spF (α := zf × Int) (ρ := zf) 86 (fun x => [F9_ x.1, (eI .i64) x.2]) (fun r => F9_ r) (fun x => vK x.1 x.2) [] (VS)
theorem W5 {ctr : Ctr} (hC : zV Tryz.prog ctr) : vE.Ok Tryz.prog := by
 refine y5 ?_
 rintro ⟨q_, m_⟩ r0 hf0
 try unfold vK at hf0
 refine yO false [(4, some 112)] XR 15 Tryz.func86 fun E hE => ?_
 obtain ⟨cell, h0, hf0⟩ := zn hf0
 obtain ⟨arr, h1, hf0⟩ := zn hf0
 replace h1 := zl h1
 obtain rfl := zl hf0
 exact yE X0 hC hE [Hn (⟨arJ (by kernel_rfl) (i0 h0), (iL (eI .i64) h0).2⟩ : Zs xQ 110 ((zC.toL q_.l_).map (eI .i64)) q_.many_ = true ∧ q_.many_.toNat < ((zC.toL q_.l_).map (eI .i64)).length), Hh (.op 7), Hh (.f), Hx (.a (.agg [I q_.l_.e0, I q_.l_.e1, I q_.l_.e2, I q_.l_.e3])) (rfl : some (.agg [I q_.l_.e0, I q_.l_.e1, I q_.l_.e2, I q_.l_.e3] : A) = some (.agg [I q_.l_.e0, I q_.l_.e1, I q_.l_.e2, I q_.l_.e3])), Hh (.f), Hs (iM (eI .i64) h0), Hh (.f), Hx (.a (.agg [I q_.l_.e0, I q_.l_.e1, I q_.l_.e2, I q_.l_.e3])) (rfl : some (.agg [I q_.l_.e0, I q_.l_.e1, I q_.l_.e2, I q_.l_.e3] : A) = some (.agg [I q_.l_.e0, I q_.l_.e1, I q_.l_.e2, I q_.l_.e3])), Hh (.f), Hs (iM (eI .i64) h0), Hx (.l ((zC.toL arr).map (eI .i64))) ((zC.setL (eI .i64) q_.l_ q_.many_ m_).trans (congrArg (fun q => (zC.toL q).map (eI .i64)) h1)), Hx (.l [I q_.many_, .agg [I arr.e0, I arr.e1, I arr.e2, I arr.e3]]) (rfl : ([I q_.many_, .agg [I arr.e0, I arr.e1, I arr.e2, I arr.e3]] : List A) = [I q_.many_, .agg [I arr.e0, I arr.e1, I arr.e2, I arr.e3]])]
def wX : Code := (Tryz.f58.body).getD .skip
def qJ : yV := spF (α := z8) (ρ := za) 58 (fun x => [kg x]) (fun r => yG r) (fun x => uX x) [] (Ue)
abbrev Wv (arr : zC Int) (s_queues : zC zf) : List (Nat × T) := [(2, .own (.box (.agg [F0_ arr, z2d s_queues])))]
abbrev Wu (c_ : z8) (arr : zC Int) (x15 : Int) (s_queues2 : zC zf) : List (Nat × T) := [(2, .own (.box (.agg [F0_ arr, z2d s_queues2]))), (13, .d (eSl 1 false F2_ c_.Queues)), (14, .d (I ((c_.Queues.length : Nat) : Int))), (15, .d (I x15))]
abbrev Ws (c_ : z8) (arr : zC Int) (x15 : Int) (Queue_e : List Int) (s_queues3 : zC zf) (x22 : Int) : List (Nat × T) := [(2, .own (.box (.agg [F0_ arr, z2d s_queues3]))), (3, .d (I x15)), (13, .d (eSl 1 false F2_ c_.Queues)), (14, .d (I ((c_.Queues.length : Nat) : Int))), (15, .d (I x15)), (20, .d (eSl 1 false (eI .i64) Queue_e)), (21, .d (I ((Queue_e.length : Nat) : Int))), (22, .d (I x22))]
abbrev Wt (c_ : z8) (arr : zC Int) (s_queues1 : zC zf) (x15 : Int) : List (Nat × T) := [(2, .own (.box (.agg [F0_ arr, z2d s_queues1]))), (13, .d (eSl 1 false F2_ c_.Queues)), (14, .d (I ((c_.Queues.length : Nat) : Int))), (15, .d (I x15))]
theorem UJ {ctr : Ctr} (hC : zV Tryz.prog ctr) (h0m : ctr.Has vE) : qJ.Ok Tryz.prog := by
 refine y5 ?_
 rintro c_ r0 hf0
 try unfold uX at hf0
 refine yO false [(2, some 115)] wX 38 Tryz.func58 fun E hE => ?_
 refine yA X0 hC wX [1] [] [(1, .own (.box (kg c_))), (2, .own (.box (.agg [.agg [I 0, I 0, I 0, I 0], .agg [.agg [I 0, .agg [I 0, I 0, I 0, I 0]], .agg [I 0, .agg [I 0, I 0, I 0, I 0]], .agg [I 0, .agg [I 0, I 0, I 0, I 0]], .agg [I 0, .agg [I 0, I 0, I 0, I 0]]]])))] [Hh (.cut 1)] ?_
 refine z0T (y := .box (.agg [.agg [I 0, I 0, I 0, I 0], .agg [.agg [I 0, .agg [I 0, I 0, I 0, I 0]], .agg [I 0, .agg [I 0, I 0, I 0, I 0]], .agg [I 0, .agg [I 0, I 0, I 0, I 0]], .agg [I 0, .agg [I 0, I 0, I 0, I 0]]]])) (by kernel_rfl) 2 (by kernel_rfl) (by kernel_rfl) fun pv2 hv2 => ?_
 obtain ⟨arr, h0, hf0⟩ := zn hf0
 replace h0 := zl h0
 refine yJ ((xCp zQ 11 2 0 0 pv2 none).or ((xAv zQ 8 2 0 0 pv2).or X0)) hC wX [1,1] [] [2] (fun z : zC zf => kl arr z = some r0) (fun z => Wv arr z) [(1, .own (.box (kg c_))), (2, .own (.box (.agg [F0_ arr, .agg [.agg [I 0, .agg [I 0, I 0, I 0, I 0]], .agg [I 0, .agg [I 0, I 0, I 0, I 0]], .agg [I 0, .agg [I 0, I 0, I 0, I 0]], .agg [I 0, .agg [I 0, I 0, I 0, I 0]]]])))] [Hn (⟨rfl, rfl⟩ : T.ptr 2 [.deref, .fld 0] 0 0 = T.ptr 2 [.deref, .fld 0] 0 0 ∧ some pv2 = some pv2), Hn (⟨rfl, rfl⟩ : T.d (.atom (K8 pv2 0 0 4)) = T.d (.atom (K8 pv2 0 0 4)) ∧ some pv2 = some pv2), Hn (dM (eI .i64) c_.States), Hx (.l ((zC.toL arr).map (eI .i64))) ((z3m (eI .i64) (zC.toL (zC.mk 0 0 0 0)) 0 c_.States).trans (congrArg (fun q => q.map (eI .i64)) ((zC.toL_ofL (cpA (zC.toL (zC.mk 0 0 0 0)) 0 c_.States) (zC.mk 0 0 0 0) (z3n (zC.toL (zC.mk 0 0 0 0)) 0 c_.States (by show (0 : Nat) ≤ 4; decide))).symm.trans (congrArg zC.toL h0)))), Hh (.cut 0)] ?_ fun J1 hJ1 => ?_
 ·rintro s_queues hf0
  unfold kl at hf0
  obtain rfl := zl hf0
  exact yE X0 hC hE []
 ·obtain ⟨t2, ht2, hf0⟩ := zn hf0
  refine yL X0 hC wX [1,1,2,1,0] [J1] (fun s => wU c_ s.1 s.2) (fun x => Wt c_ arr x.1 x.2) ((zC.mk (zf.mk 0 (zC.mk 0 0 0 0)) (zf.mk 0 (zC.mk 0 0 0 0)) (zf.mk 0 (zC.mk 0 0 0 0)) (zf.mk 0 (zC.mk 0 0 0 0))), 0) ht2  [Ha (lnM F2_ c_.Queues)] ?_
  rintro ⟨s_queues1, x15⟩ m2 lr1 hf1 hl1 J2 hJ2
  try unfold wU at hf1
  rcases yc hf1 with ⟨c0, hf1⟩ | ⟨c0, hf1⟩
  ·refine yJ X0 hC wX [1,1,2,1,0,0,1,1] [J1, J2] [2,13,14,15] (fun z : zC zf => qH x15 z = some lr1) (fun z => Wu c_ arr x15 z) [(2, .own (.box (.agg [F0_ arr, z2d s_queues1]))), (13, .d (eSl 1 false F2_ c_.Queues)), (14, .d (I ((c_.Queues.length : Nat) : Int))), (15, .d (I x15))] [Hq c0, Hh (.cut 0)] ?_ fun J3 hJ3 => ?_
   ·rintro s_queues2 hf1
    unfold qH at hf1
    obtain rfl := zl hf1
    exact yB X0 hC hJ2 (s_queues2, w64 (x15 + 1)) hl1 []
   ·obtain ⟨Queue_e, h1, hf1⟩ := zn hf1
    obtain ⟨t4, ht4, hf1⟩ := zn hf1
    refine yL X0 hC wX [1,1,2,1,0,0,1,1,2,0,1,1,0] [J1, J2, J3] (fun s => wv x15 Queue_e s.1 s.2) (fun x => Ws c_ arr x15 Queue_e x.1 x.2) (s_queues1,0) ht4  [Hi F2_ h1, Ha (lnM (eI .i64) Queue_e)] ?_
    rintro ⟨s_queues3, x22⟩ m4 lr2 hf2 hl2 J4 hJ4
    try unfold wv at hf2
    rcases yc hf2 with ⟨c1, hf2⟩ | ⟨c1, hf2⟩
    ·obtain ⟨Queue_e_e, h2, hf2⟩ := zn hf2
     obtain ⟨cell, h3, hf2⟩ := zn hf2
     obtain ⟨r_, h4, hf2⟩ := zn hf2
     obtain ⟨cell1, h5, hf2⟩ := zn hf2
     obtain ⟨arr1, h6, hf2⟩ := zn hf2
     replace h6 := zl h6
     obtain rfl := zl hf2
     exact yB X0 hC hJ4 (arr1, w64 (x22 + 1)) hl2 [Hq c1, Hi (eI .i64) h2, Hn (⟨arJ (by kernel_rfl) (i0 h3), (iL F9_ h3).2⟩ : Zs xQ 113 ((zC.toL s_queues3).map F9_) x15 = true ∧ x15.toNat < ((zC.toL s_queues3).map F9_).length), Hh (.op 6), Hh (.f), Hx (.a (.agg [.agg [I s_queues3.e0.many_, .agg [I s_queues3.e0.l_.e0, I s_queues3.e0.l_.e1, I s_queues3.e0.l_.e2, I s_queues3.e0.l_.e3]], .agg [I s_queues3.e1.many_, .agg [I s_queues3.e1.l_.e0, I s_queues3.e1.l_.e1, I s_queues3.e1.l_.e2, I s_queues3.e1.l_.e3]], .agg [I s_queues3.e2.many_, .agg [I s_queues3.e2.l_.e0, I s_queues3.e2.l_.e1, I s_queues3.e2.l_.e2, I s_queues3.e2.l_.e3]], .agg [I s_queues3.e3.many_, .agg [I s_queues3.e3.l_.e0, I s_queues3.e3.l_.e1, I s_queues3.e3.l_.e2, I s_queues3.e3.l_.e3]]])) (rfl : some (.agg [.agg [I s_queues3.e0.many_, .agg [I s_queues3.e0.l_.e0, I s_queues3.e0.l_.e1, I s_queues3.e0.l_.e2, I s_queues3.e0.l_.e3]], .agg [I s_queues3.e1.many_, .agg [I s_queues3.e1.l_.e0, I s_queues3.e1.l_.e1, I s_queues3.e1.l_.e2, I s_queues3.e1.l_.e3]], .agg [I s_queues3.e2.many_, .agg [I s_queues3.e2.l_.e0, I s_queues3.e2.l_.e1, I s_queues3.e2.l_.e2, I s_queues3.e2.l_.e3]], .agg [I s_queues3.e3.many_, .agg [I s_queues3.e3.l_.e0, I s_queues3.e3.l_.e1, I s_queues3.e3.l_.e2, I s_queues3.e3.l_.e3]]] : A) = some (.agg [.agg [I s_queues3.e0.many_, .agg [I s_queues3.e0.l_.e0, I s_queues3.e0.l_.e1, I s_queues3.e0.l_.e2, I s_queues3.e0.l_.e3]], .agg [I s_queues3.e1.many_, .agg [I s_queues3.e1.l_.e0, I s_queues3.e1.l_.e1, I s_queues3.e1.l_.e2, I s_queues3.e1.l_.e3]], .agg [I s_queues3.e2.many_, .agg [I s_queues3.e2.l_.e0, I s_queues3.e2.l_.e1, I s_queues3.e2.l_.e2, I s_queues3.e2.l_.e3]], .agg [I s_queues3.e3.many_, .agg [I s_queues3.e3.l_.e0, I s_queues3.e3.l_.e1, I s_queues3.e3.l_.e2, I s_queues3.e3.l_.e3]]])), Hh (.f), Hs (iM F9_ h3), Hc h0m (x := (cell, Queue_e_e)) h4 (loC F9_ cell <| loC (eI .i64) Queue_e_e <| loN), Hn (⟨arJ (by kernel_rfl) (i0 h5), (iL F9_ h5).2⟩ : Zs xQ 113 ((zC.toL s_queues3).map F9_) x15 = true ∧ x15.toNat < ((zC.toL s_queues3).map F9_).length), Hh (.op 2), Hh (.f), Hx (.a (.agg [.agg [I s_queues3.e0.many_, .agg [I s_queues3.e0.l_.e0, I s_queues3.e0.l_.e1, I s_queues3.e0.l_.e2, I s_queues3.e0.l_.e3]], .agg [I s_queues3.e1.many_, .agg [I s_queues3.e1.l_.e0, I s_queues3.e1.l_.e1, I s_queues3.e1.l_.e2, I s_queues3.e1.l_.e3]], .agg [I s_queues3.e2.many_, .agg [I s_queues3.e2.l_.e0, I s_queues3.e2.l_.e1, I s_queues3.e2.l_.e2, I s_queues3.e2.l_.e3]], .agg [I s_queues3.e3.many_, .agg [I s_queues3.e3.l_.e0, I s_queues3.e3.l_.e1, I s_queues3.e3.l_.e2, I s_queues3.e3.l_.e3]]])) (rfl : some (.agg [.agg [I s_queues3.e0.many_, .agg [I s_queues3.e0.l_.e0, I s_queues3.e0.l_.e1, I s_queues3.e0.l_.e2, I s_queues3.e0.l_.e3]], .agg [I s_queues3.e1.many_, .agg [I s_queues3.e1.l_.e0, I s_queues3.e1.l_.e1, I s_queues3.e1.l_.e2, I s_queues3.e1.l_.e3]], .agg [I s_queues3.e2.many_, .agg [I s_queues3.e2.l_.e0, I s_queues3.e2.l_.e1, I s_queues3.e2.l_.e2, I s_queues3.e2.l_.e3]], .agg [I s_queues3.e3.many_, .agg [I s_queues3.e3.l_.e0, I s_queues3.e3.l_.e1, I s_queues3.e3.l_.e2, I s_queues3.e3.l_.e3]]] : A) = some (.agg [.agg [I s_queues3.e0.many_, .agg [I s_queues3.e0.l_.e0, I s_queues3.e0.l_.e1, I s_queues3.e0.l_.e2, I s_queues3.e0.l_.e3]], .agg [I s_queues3.e1.many_, .agg [I s_queues3.e1.l_.e0, I s_queues3.e1.l_.e1, I s_queues3.e1.l_.e2, I s_queues3.e1.l_.e3]], .agg [I s_queues3.e2.many_, .agg [I s_queues3.e2.l_.e0, I s_queues3.e2.l_.e1, I s_queues3.e2.l_.e2, I s_queues3.e2.l_.e3]], .agg [I s_queues3.e3.many_, .agg [I s_queues3.e3.l_.e0, I s_queues3.e3.l_.e1, I s_queues3.e3.l_.e2, I s_queues3.e3.l_.e3]]])), Hh (.f), Hs (iM F9_ h5), Hh (.f), Hx (.a (.agg [.agg [I s_queues3.e0.many_, .agg [I s_queues3.e0.l_.e0, I s_queues3.e0.l_.e1, I s_queues3.e0.l_.e2, I s_queues3.e0.l_.e3]], .agg [I s_queues3.e1.many_, .agg [I s_queues3.e1.l_.e0, I s_queues3.e1.l_.e1, I s_queues3.e1.l_.e2, I s_queues3.e1.l_.e3]], .agg [I s_queues3.e2.many_, .agg [I s_queues3.e2.l_.e0, I s_queues3.e2.l_.e1, I s_queues3.e2.l_.e2, I s_queues3.e2.l_.e3]], .agg [I s_queues3.e3.many_, .agg [I s_queues3.e3.l_.e0, I s_queues3.e3.l_.e1, I s_queues3.e3.l_.e2, I s_queues3.e3.l_.e3]]])) (rfl : some (.agg [.agg [I s_queues3.e0.many_, .agg [I s_queues3.e0.l_.e0, I s_queues3.e0.l_.e1, I s_queues3.e0.l_.e2, I s_queues3.e0.l_.e3]], .agg [I s_queues3.e1.many_, .agg [I s_queues3.e1.l_.e0, I s_queues3.e1.l_.e1, I s_queues3.e1.l_.e2, I s_queues3.e1.l_.e3]], .agg [I s_queues3.e2.many_, .agg [I s_queues3.e2.l_.e0, I s_queues3.e2.l_.e1, I s_queues3.e2.l_.e2, I s_queues3.e2.l_.e3]], .agg [I s_queues3.e3.many_, .agg [I s_queues3.e3.l_.e0, I s_queues3.e3.l_.e1, I s_queues3.e3.l_.e2, I s_queues3.e3.l_.e3]]] : A) = some (.agg [.agg [I s_queues3.e0.many_, .agg [I s_queues3.e0.l_.e0, I s_queues3.e0.l_.e1, I s_queues3.e0.l_.e2, I s_queues3.e0.l_.e3]], .agg [I s_queues3.e1.many_, .agg [I s_queues3.e1.l_.e0, I s_queues3.e1.l_.e1, I s_queues3.e1.l_.e2, I s_queues3.e1.l_.e3]], .agg [I s_queues3.e2.many_, .agg [I s_queues3.e2.l_.e0, I s_queues3.e2.l_.e1, I s_queues3.e2.l_.e2, I s_queues3.e2.l_.e3]], .agg [I s_queues3.e3.many_, .agg [I s_queues3.e3.l_.e0, I s_queues3.e3.l_.e1, I s_queues3.e3.l_.e2, I s_queues3.e3.l_.e3]]])), Hh (.f), Hs (iM F9_ h5), Hx (.l ((zC.toL arr1).map F9_)) ((zC.setL F9_ s_queues3 x15 r_).trans (congrArg (fun q => (zC.toL q).map F9_) h6)), Hx (.l [.agg [I arr.e0, I arr.e1, I arr.e2, I arr.e3], .agg [.agg [I arr1.e0.many_, .agg [I arr1.e0.l_.e0, I arr1.e0.l_.e1, I arr1.e0.l_.e2, I arr1.e0.l_.e3]], .agg [I arr1.e1.many_, .agg [I arr1.e1.l_.e0, I arr1.e1.l_.e1, I arr1.e1.l_.e2, I arr1.e1.l_.e3]], .agg [I arr1.e2.many_, .agg [I arr1.e2.l_.e0, I arr1.e2.l_.e1, I arr1.e2.l_.e2, I arr1.e2.l_.e3]], .agg [I arr1.e3.many_, .agg [I arr1.e3.l_.e0, I arr1.e3.l_.e1, I arr1.e3.l_.e2, I arr1.e3.l_.e3]]]]) (rfl : ([.agg [I arr.e0, I arr.e1, I arr.e2, I arr.e3], .agg [.agg [I arr1.e0.many_, .agg [I arr1.e0.l_.e0, I arr1.e0.l_.e1, I arr1.e0.l_.e2, I arr1.e0.l_.e3]], .agg [I arr1.e1.many_, .agg [I arr1.e1.l_.e0, I arr1.e1.l_.e1, I arr1.e1.l_.e2, I arr1.e1.l_.e3]], .agg [I arr1.e2.many_, .agg [I arr1.e2.l_.e0, I arr1.e2.l_.e1, I arr1.e2.l_.e2, I arr1.e2.l_.e3]], .agg [I arr1.e3.many_, .agg [I arr1.e3.l_.e0, I arr1.e3.l_.e1, I arr1.e3.l_.e2, I arr1.e3.l_.e3]]]] : List A) = [.agg [I arr.e0, I arr.e1, I arr.e2, I arr.e3], .agg [.agg [I arr1.e0.many_, .agg [I arr1.e0.l_.e0, I arr1.e0.l_.e1, I arr1.e0.l_.e2, I arr1.e0.l_.e3]], .agg [I arr1.e1.many_, .agg [I arr1.e1.l_.e0, I arr1.e1.l_.e1, I arr1.e1.l_.e2, I arr1.e1.l_.e3]], .agg [I arr1.e2.many_, .agg [I arr1.e2.l_.e0, I arr1.e2.l_.e1, I arr1.e2.l_.e2, I arr1.e2.l_.e3]], .agg [I arr1.e3.many_, .agg [I arr1.e3.l_.e0, I arr1.e3.l_.e1, I arr1.e3.l_.e2, I arr1.e3.l_.e3]]]])]
    ·obtain rfl := zl hf2
     obtain rfl := hl2
     exact yB X0 hC hJ3 s_queues3 hf1 [Hq c1]
  ·obtain rfl := zl hf1
   obtain rfl := hl1
   exact yB X0 hC hJ1 s_queues1 hf0 [Hq c0]
def YD : Code := (Tryz.f57.body).getD .skip
def xL : yV := spF (α := z7 × za) (ρ := z7 × za) 57 (fun x => [xR x.1, yG x.2]) (fun r => (z2a 82 Ke (eSp yG)) r) (fun x => xc x.1 x.2) [] (VS)
theorem YR {ctr : Ctr} (hC : zV Tryz.prog ctr) : xL.Ok Tryz.prog := by
 refine y5 ?_
 rintro ⟨x_, s_⟩ r0 hf0
 try unfold xc at hf0
 refine yO true [(4, none)] YD 6 Tryz.func57 fun E hE => ?_
 obtain rfl := zl hf0
 exact yEx X0 hC hE [] (.fn 82 [.sptr (.agg [I x_.Messages, I x_.Labels, eSl 1 false (eI .i64) x_.Channels, eSl 3 false wG x_.Parts]), .sptr (.agg [.agg [I s_.states_.e0, I s_.states_.e1, I s_.states_.e2, I s_.states_.e3], .agg [.agg [I s_.queues_.e0.many_, .agg [I s_.queues_.e0.l_.e0, I s_.queues_.e0.l_.e1, I s_.queues_.e0.l_.e2, I s_.queues_.e0.l_.e3]], .agg [I s_.queues_.e1.many_, .agg [I s_.queues_.e1.l_.e0, I s_.queues_.e1.l_.e1, I s_.queues_.e1.l_.e2, I s_.queues_.e1.l_.e3]], .agg [I s_.queues_.e2.many_, .agg [I s_.queues_.e2.l_.e0, I s_.queues_.e2.l_.e1, I s_.queues_.e2.l_.e2, I s_.queues_.e2.l_.e3]], .agg [I s_.queues_.e3.many_, .agg [I s_.queues_.e3.l_.e0, I s_.queues_.e3.l_.e1, I s_.queues_.e3.l_.e2, I s_.queues_.e3.l_.e3]]]])]) (show LeV (.fn 82 [.sptr (.agg [I x_.Messages, I x_.Labels, eSl 1 false (eI .i64) x_.Channels, eSl 3 false wG x_.Parts]), .sptr (.agg [.agg [I s_.states_.e0, I s_.states_.e1, I s_.states_.e2, I s_.states_.e3], .agg [.agg [I s_.queues_.e0.many_, .agg [I s_.queues_.e0.l_.e0, I s_.queues_.e0.l_.e1, I s_.queues_.e0.l_.e2, I s_.queues_.e0.l_.e3]], .agg [I s_.queues_.e1.many_, .agg [I s_.queues_.e1.l_.e0, I s_.queues_.e1.l_.e1, I s_.queues_.e1.l_.e2, I s_.queues_.e1.l_.e3]], .agg [I s_.queues_.e2.many_, .agg [I s_.queues_.e2.l_.e0, I s_.queues_.e2.l_.e1, I s_.queues_.e2.l_.e2, I s_.queues_.e2.l_.e3]], .agg [I s_.queues_.e3.many_, .agg [I s_.queues_.e3.l_.e0, I s_.queues_.e3.l_.e1, I s_.queues_.e3.l_.e2, I s_.queues_.e3.l_.e3]]]])]) (.fn 82 [.sptr (.agg [I (((x_, s_).1).Messages), I (((x_, s_).1).Labels), eSl 1 false (eI .i64) (((x_, s_).1).Channels), eSl 3 false wG (((x_, s_).1).Parts)]), .sptr (.agg [.agg [I ((((x_, s_).2).states_).e0), I ((((x_, s_).2).states_).e1), I ((((x_, s_).2).states_).e2), I ((((x_, s_).2).states_).e3)], .agg [.agg [I (((((x_, s_).2).queues_).e0).many_), .agg [I ((((((x_, s_).2).queues_).e0).l_).e0), I ((((((x_, s_).2).queues_).e0).l_).e1), I ((((((x_, s_).2).queues_).e0).l_).e2), I ((((((x_, s_).2).queues_).e0).l_).e3)]], .agg [I (((((x_, s_).2).queues_).e1).many_), .agg [I ((((((x_, s_).2).queues_).e1).l_).e0), I ((((((x_, s_).2).queues_).e1).l_).e1), I ((((((x_, s_).2).queues_).e1).l_).e2), I ((((((x_, s_).2).queues_).e1).l_).e3)]], .agg [I (((((x_, s_).2).queues_).e2).many_), .agg [I ((((((x_, s_).2).queues_).e2).l_).e0), I ((((((x_, s_).2).queues_).e2).l_).e1), I ((((((x_, s_).2).queues_).e2).l_).e2), I ((((((x_, s_).2).queues_).e2).l_).e3)]], .agg [I (((((x_, s_).2).queues_).e3).many_), .agg [I ((((((x_, s_).2).queues_).e3).l_).e0), I ((((((x_, s_).2).queues_).e3).l_).e1), I ((((((x_, s_).2).queues_).e3).l_).e2), I ((((((x_, s_).2).queues_).e3).l_).e3)]]]])]) from inferInstance)
def YW : Code := (Tryz.f83.body).getD .skip
def xo : yV := spF (α := z7 × za × Int) (ρ := z7 × Int × za) 83 (fun x => [xR x.1, yG x.2.1, (eI .i64) x.2.2]) (fun r => (ze7 103 Ke (eSp (eI .i64)) (eSp yG)) r) (fun x => w7 x.1 x.2.1 x.2.2) [] (z8L)
theorem Xa {ctr : Ctr} (hC : zV Tryz.prog ctr) : xo.Ok Tryz.prog := by
 refine y5 ?_
 rintro ⟨x_, s_, part⟩ r0 hf0
 try unfold w7 at hf0
 refine yO true [(6, none)] YW 8 Tryz.func83 fun E hE => ?_
 obtain rfl := zl hf0
 exact yEx X0 hC hE [] (.fn 103 [.sptr (.agg [I x_.Messages, I x_.Labels, eSl 1 false (eI .i64) x_.Channels, eSl 3 false wG x_.Parts]), .sptr (I part), .sptr (.agg [.agg [I s_.states_.e0, I s_.states_.e1, I s_.states_.e2, I s_.states_.e3], .agg [.agg [I s_.queues_.e0.many_, .agg [I s_.queues_.e0.l_.e0, I s_.queues_.e0.l_.e1, I s_.queues_.e0.l_.e2, I s_.queues_.e0.l_.e3]], .agg [I s_.queues_.e1.many_, .agg [I s_.queues_.e1.l_.e0, I s_.queues_.e1.l_.e1, I s_.queues_.e1.l_.e2, I s_.queues_.e1.l_.e3]], .agg [I s_.queues_.e2.many_, .agg [I s_.queues_.e2.l_.e0, I s_.queues_.e2.l_.e1, I s_.queues_.e2.l_.e2, I s_.queues_.e2.l_.e3]], .agg [I s_.queues_.e3.many_, .agg [I s_.queues_.e3.l_.e0, I s_.queues_.e3.l_.e1, I s_.queues_.e3.l_.e2, I s_.queues_.e3.l_.e3]]]])]) (show LeV (.fn 103 [.sptr (.agg [I x_.Messages, I x_.Labels, eSl 1 false (eI .i64) x_.Channels, eSl 3 false wG x_.Parts]), .sptr (I part), .sptr (.agg [.agg [I s_.states_.e0, I s_.states_.e1, I s_.states_.e2, I s_.states_.e3], .agg [.agg [I s_.queues_.e0.many_, .agg [I s_.queues_.e0.l_.e0, I s_.queues_.e0.l_.e1, I s_.queues_.e0.l_.e2, I s_.queues_.e0.l_.e3]], .agg [I s_.queues_.e1.many_, .agg [I s_.queues_.e1.l_.e0, I s_.queues_.e1.l_.e1, I s_.queues_.e1.l_.e2, I s_.queues_.e1.l_.e3]], .agg [I s_.queues_.e2.many_, .agg [I s_.queues_.e2.l_.e0, I s_.queues_.e2.l_.e1, I s_.queues_.e2.l_.e2, I s_.queues_.e2.l_.e3]], .agg [I s_.queues_.e3.many_, .agg [I s_.queues_.e3.l_.e0, I s_.queues_.e3.l_.e1, I s_.queues_.e3.l_.e2, I s_.queues_.e3.l_.e3]]]])]) (.fn 103 [.sptr (.agg [I (((x_, part, s_).1).Messages), I (((x_, part, s_).1).Labels), eSl 1 false (eI .i64) (((x_, part, s_).1).Channels), eSl 3 false wG (((x_, part, s_).1).Parts)]), .sptr (I ((x_, part, s_).2.1)), .sptr (.agg [.agg [I ((((x_, part, s_).2.2).states_).e0), I ((((x_, part, s_).2.2).states_).e1), I ((((x_, part, s_).2.2).states_).e2), I ((((x_, part, s_).2.2).states_).e3)], .agg [.agg [I (((((x_, part, s_).2.2).queues_).e0).many_), .agg [I ((((((x_, part, s_).2.2).queues_).e0).l_).e0), I ((((((x_, part, s_).2.2).queues_).e0).l_).e1), I ((((((x_, part, s_).2.2).queues_).e0).l_).e2), I ((((((x_, part, s_).2.2).queues_).e0).l_).e3)]], .agg [I (((((x_, part, s_).2.2).queues_).e1).many_), .agg [I ((((((x_, part, s_).2.2).queues_).e1).l_).e0), I ((((((x_, part, s_).2.2).queues_).e1).l_).e1), I ((((((x_, part, s_).2.2).queues_).e1).l_).e2), I ((((((x_, part, s_).2.2).queues_).e1).l_).e3)]], .agg [I (((((x_, part, s_).2.2).queues_).e2).many_), .agg [I ((((((x_, part, s_).2.2).queues_).e2).l_).e0), I ((((((x_, part, s_).2.2).queues_).e2).l_).e1), I ((((((x_, part, s_).2.2).queues_).e2).l_).e2), I ((((((x_, part, s_).2.2).queues_).e2).l_).e3)]], .agg [I (((((x_, part, s_).2.2).queues_).e3).many_), .agg [I ((((((x_, part, s_).2.2).queues_).e3).l_).e0), I ((((((x_, part, s_).2.2).queues_).e3).l_).e1), I ((((((x_, part, s_).2.2).queues_).e3).l_).e2), I ((((((x_, part, s_).2.2).queues_).e3).l_).e3)]]]])]) from inferInstance)
def vT : Code := (Tryz.f103.body).getD .skip
abbrev Zj {σ : Type} (x1 : Int) (x2 : za) (YY : σ → Kd) (Part_e : zh) (x14 : Int) (sg2 : σ) : List (Nat × T) := [(0, .own (.opq (YY sg2).q)), (2, .d (.sptr (I x1))), (3, .d (.sptr (yG x2))), (12, .d (eSl 5 false uV Part_e.Arcs)), (13, .d (I ((Part_e.Arcs.length : Nat) : Int))), (14, .d (I x14))]
abbrev Zi {σ : Type} (x1 : Int) (x2 : za) (YY : σ → Kd) (Part_e : zh) (sg1 : σ) (x14 : Int) : List (Nat × T) := [(0, .own (.opq (YY sg1).q)), (2, .d (.sptr (I x1))), (3, .d (.sptr (yG x2))), (12, .d (eSl 5 false uV Part_e.Arcs)), (13, .d (I ((Part_e.Arcs.length : Nat) : Int))), (14, .d (I x14))]
theorem jk {ctr : Ctr} (hC : zV Tryz.prog ctr) (x0 : z7) (x1 : Int) (x2 : za) : z3K Tryz.prog (.fn 103 [.sptr (.agg [I x0.Messages, I x0.Labels, eSl 1 false (eI .i64) x0.Channels, eSl 3 false wG x0.Parts]), .sptr (I x1), .sptr (.agg [.agg [I x2.states_.e0, I x2.states_.e1, I x2.states_.e2, I x2.states_.e3], .agg [.agg [I x2.queues_.e0.many_, .agg [I x2.queues_.e0.l_.e0, I x2.queues_.e0.l_.e1, I x2.queues_.e0.l_.e2, I x2.queues_.e0.l_.e3]], .agg [I x2.queues_.e1.many_, .agg [I x2.queues_.e1.l_.e0, I x2.queues_.e1.l_.e1, I x2.queues_.e1.l_.e2, I x2.queues_.e1.l_.e3]], .agg [I x2.queues_.e2.many_, .agg [I x2.queues_.e2.l_.e0, I x2.queues_.e2.l_.e1, I x2.queues_.e2.l_.e2, I x2.queues_.e2.l_.e3]], .agg [I x2.queues_.e3.many_, .agg [I x2.queues_.e3.l_.e0, I x2.queues_.e3.l_.e1, I x2.queues_.e3.l_.e2, I x2.queues_.e3.l_.e3]]]])]) (fun (x : Int × ze) (_ : Bool) (_ : Value) => [(eI .i64) x.1, uV x.2]) (@yg x0 x1 x2) := by
 refine z35 (tt := xQ) (nt := 34) (body := vT) zQ Tryz.func103 rfl (by kernel_rfl) rfl rfl (by show (4 : Nat) ≤ 34; decide) ?_
 intro σ yv YY yy hy sg r0 hf0 E hE
 unfold yg at hf0
 obtain ⟨Part_e, h0, hf0⟩ := zn hf0
 obtain ⟨t1, ht1, hf0⟩ := zn hf0
 refine yL X0 hC vT [1,0] [] (fun s => xy x1 x2 yy Part_e s.1 s.2) (fun x => Zi x1 x2 YY Part_e x.1 x.2) (sg, 0) ht1  [Hi wG h0, Ha (lnM uV Part_e.Arcs)] ?_
 rintro ⟨sg1, x14⟩ m1 lr1 hf1 hl1 J1 hJ1
 try unfold xy at hf1
 rcases yc hf1 with ⟨c0, hf1⟩ | ⟨c0, hf1⟩
 ·refine yJ X0 hC vT [1,0,0,1,1] [J1] [0,2,3,12,13,14] (fun z : σ => ws x14 z = some lr1) (fun z => Zj x1 x2 YY Part_e x14 z) [(0, .own (.opq (YY sg1).q)), (2, .d (.sptr (I x1))), (3, .d (.sptr (yG x2))), (12, .d (eSl 5 false uV Part_e.Arcs)), (13, .d (I ((Part_e.Arcs.length : Nat) : Int))), (14, .d (I x14))] [Hq c0, Hh (.cut 0)] ?_ fun J2 hJ2 => ?_
  ·rintro sg2 hf1
   unfold ws at hf1
   obtain rfl := zl hf1
   exact yB X0 hC hJ1 (sg2, w64 (x14 + 1)) hl1 []
  ·obtain ⟨Arc_e, h1, hf1⟩ := zn hf1
   obtain ⟨cell, h2, hf1⟩ := zn hf1
   let Z0 : List HO := [Hi uV h1, Hs (iM (eI .i64) h2), Hn (arJ (by kernel_rfl) (i0 h2) : Zs xQ 110 ((zC.toL x2.states_).map (eI .i64)) x1 = true)]
   rcases yc hf1 with ⟨c1, hf1⟩ | ⟨c1, hf1⟩
   ·obtain ⟨yr, h3, hf1⟩ := zn hf1
    let Z1 : List HO := (Z0 ++ (rpN 4 (Hq c1) [Hn (z0s (yv := yv) (Y := YY) (enc := (fun (x : Int × ze) (_ : Bool) (_ : Value) => [(eI .i64) x.1, uV x.2])) (s := sg1) (x := (x14, Arc_e)) (s' := yr.1) (b := yr.2) (v := .nilFunc) [(eI .i64) x14, uV Arc_e] (show Kb [(eI .i64) x14, uV Arc_e] [(eI .i64) x14, uV Arc_e] from inferInstance)), Hq c1, Hq c1]))
    rcases yc hf1 with ⟨c2, hf1⟩ | ⟨c2, hf1⟩
    ·obtain rfl := zl hf1
     obtain rfl := hl1
     obtain rfl := zl hf0
     exact yF ((QU (P := Tryz.prog) xQ hy 30 (s := sg1) (x := (x14, Arc_e)) (s' := yr.1) (b := yr.2) .nilFunc h3).or X0) hC .ret [(0, .own (.opq (YY yr.1).q))] (Z1 ++ [Hq c2]) fun st0 h0 => hE _ st0 (.inr rfl) h0
    ·exact yB ((QU (P := Tryz.prog) xQ hy 30 (s := sg1) (x := (x14, Arc_e)) (s' := yr.1) (b := yr.2) .nilFunc h3).or X0) hC hJ2 yr.1 hf1 (Z1 ++ [Hq c2])
   ·exact yB X0 hC hJ2 sg1 hf1 (Z0 ++ (rpN 6 (Hq c1) [qF]))
 ·obtain rfl := zl hf1
  obtain rfl := hl1
  obtain rfl := zl hf0
  exact yF X0 hC .normal [(0, .own (.opq (YY sg1).q))] [Hq c0] fun st0 h0 => hE _ st0 (.inl rfl) h0
def ke : Code := (Tryz.f104.body).getD .skip
def uS : yV := spF (α := zf) (ρ := zf) 104 (fun x => [F9_ x]) (fun r => F9_ r) (fun x => uE x) [] (Ue)
theorem XN {ctr : Ctr} (hC : zV Tryz.prog ctr) : uS.Ok Tryz.prog := by
 refine y5 ?_
 rintro q_ r0 hf0
 try unfold uE at hf0
 refine yO false [(2, some 112)] ke 15 Tryz.func104 fun E hE => ?_
 refine yA X0 hC ke [1] [] [(1, .own (.box (F9_ q_))), (2, .own (.box (.agg [I 0, .agg [I 0, I 0, I 0, I 0]])))] [Hh (.cut 1)] ?_
 refine z0T (y := .box (.agg [I q_.many_, .agg [I q_.l_.e0, I q_.l_.e1, I q_.l_.e2, I q_.l_.e3]])) (by kernel_rfl) 1 (by kernel_rfl) (by kernel_rfl) fun pv1 hv1 => ?_
 obtain ⟨arr, h0, hf0⟩ := zn hf0
 replace h0 := zl h0
 obtain rfl := zl hf0
 exact yE ((xCp zQ 7 1 1 0 pv1 (some 1)).or ((xAv zQ 6 1 1 1 pv1).or ((xAv zQ 4 1 1 0 pv1).or X0))) hC hE [Hn (⟨rfl, rfl⟩ : T.ptr 1 [.deref, .fld 1] 0 0 = T.ptr 1 [.deref, .fld 1] 0 0 ∧ some pv1 = some pv1), Hn (⟨rfl, rfl⟩ : T.ptr 1 [.deref, .fld 1] 0 0 = T.ptr 1 [.deref, .fld 1] 0 0 ∧ some pv1 = some pv1), Hn (⟨rfl, by decide⟩ : T.d (.atom (K8 pv1 1 1 4)) = T.d (.atom (K8 pv1 1 1 4)) ∧ 1 ≤ 4), Hn (⟨rfl, rfl⟩ : T.d (.atom (K8 pv1 1 0 4)) = T.d (.atom (K8 pv1 1 0 4)) ∧ some pv1 = some pv1), Hn (dM (eI .i64) ((zC.toL q_.l_).drop 1)), Hx (.l ((zC.toL arr).map (eI .i64))) ((z3m (eI .i64) (zC.toL q_.l_) 0 ((zC.toL q_.l_).drop 1)).trans (congrArg (fun q => q.map (eI .i64)) ((zC.toL_ofL (cpA (zC.toL q_.l_) 0 ((zC.toL q_.l_).drop 1)) q_.l_ (z3n (zC.toL q_.l_) 0 ((zC.toL q_.l_).drop 1) (by show (0 : Nat) ≤ 4; decide))).symm.trans (congrArg zC.toL h0)))), Hn (⟨rfl, by decide⟩ : true = true ∧ 3 < 4)]
def uD : Code := (Tryz.f84.body).getD .skip
def xm : yV := spF (α := z7 × za × Int × ze) (ρ := za × Bool) 84 (fun x => [xR x.1, yG x.2.1, (eI .i64) x.2.2.1, uV x.2.2.2]) (fun r => .tup [yG r.1, (eEr 0 201) r.2]) (fun x => xw x.1 x.2.1 x.2.2.1 x.2.2.2) [] (zd1)
abbrev ZX (arr : zC Int) (s_queues : zC zf) : List (Nat × T) := [(5, .own (.box (.agg [F0_ arr, z2d s_queues]))), (8, .own (.box (.agg [.agg [I 0, I 0, I 0, I 0], .agg [.agg [I 0, .agg [I 0, I 0, I 0, I 0]], .agg [I 0, .agg [I 0, I 0, I 0, I 0]], .agg [I 0, .agg [I 0, I 0, I 0, I 0]], .agg [I 0, .agg [I 0, I 0, I 0, I 0]]]])))]
abbrev ZW (s_ : za) (a_ : ze) (arr : zC Int) (cell1 : zf) (x33 : Bool) : List (Nat × T) := [(5, .own (.box (.agg [F0_ arr, z2d s_.queues_]))), (7, .own (.box (uV a_))), (8, .own (.box (.agg [.agg [I 0, I 0, I 0, I 0], .agg [.agg [I 0, .agg [I 0, I 0, I 0, I 0]], .agg [I 0, .agg [I 0, I 0, I 0, I 0]], .agg [I 0, .agg [I 0, I 0, I 0, I 0]], .agg [I 0, .agg [I 0, I 0, I 0, I 0]]]]))), (10, .own (.box (F9_ cell1))), (33, .d (B x33))]
theorem X9 {ctr : Ctr} (hC : zV Tryz.prog ctr) (h0m : ctr.Has vE) (h0P : ctr.Has uS) : xm.Ok Tryz.prog := by
 refine y5 ?_
 rintro ⟨x_, s_, part, a_⟩ r0 hf0
 try unfold xw at hf0
 refine yO false [(8, some 115), (9, none)] uD 86 Tryz.func84 fun E hE => ?_
 obtain ⟨cell, h0, hf0⟩ := zn hf0
 obtain ⟨arr, h1, hf0⟩ := zn hf0
 replace h1 := zl h1
 obtain ⟨cell1, h2, hf0⟩ := zn hf0
 refine yJ ((xNe Tryz.prog 9 0 201).or X0) hC uD [1,1,1] [] [5,8] (fun z : zC zf => wO arr z = some r0) (fun z => ZX arr z) [(4, .own (.box (xR x_))), (5, .own (.box (.agg [F0_ arr, z2d s_.queues_]))), (7, .own (.box (uV a_))), (8, .own (.box (.agg [.agg [I 0, I 0, I 0, I 0], .agg [.agg [I 0, .agg [I 0, I 0, I 0, I 0]], .agg [I 0, .agg [I 0, I 0, I 0, I 0]], .agg [I 0, .agg [I 0, I 0, I 0, I 0]], .agg [I 0, .agg [I 0, I 0, I 0, I 0]]]]))), (10, .own (.box (F9_ cell1)))] [Hn (⟨arJ (by kernel_rfl) (i0 h0), (iL (eI .i64) h0).2⟩ : Zs xQ 110 ((zC.toL s_.states_).map (eI .i64)) part = true ∧ part.toNat < ((zC.toL s_.states_).map (eI .i64)).length), Hh (.op 10), Hh (.f), Hx (.a (.agg [I s_.states_.e0, I s_.states_.e1, I s_.states_.e2, I s_.states_.e3])) (rfl : some (.agg [I s_.states_.e0, I s_.states_.e1, I s_.states_.e2, I s_.states_.e3] : A) = some (.agg [I s_.states_.e0, I s_.states_.e1, I s_.states_.e2, I s_.states_.e3])), Hh (.f), Hs (iM (eI .i64) h0), Hh (.f), Hx (.a (.agg [I s_.states_.e0, I s_.states_.e1, I s_.states_.e2, I s_.states_.e3])) (rfl : some (.agg [I s_.states_.e0, I s_.states_.e1, I s_.states_.e2, I s_.states_.e3] : A) = some (.agg [I s_.states_.e0, I s_.states_.e1, I s_.states_.e2, I s_.states_.e3])), Hh (.f), Hs (iM (eI .i64) h0), Hx (.l ((zC.toL arr).map (eI .i64))) ((zC.setL (eI .i64) s_.states_ part a_.To).trans (congrArg (fun q => (zC.toL q).map (eI .i64)) h1)), Hx (.l [.agg [I arr.e0, I arr.e1, I arr.e2, I arr.e3], .agg [.agg [I s_.queues_.e0.many_, .agg [I s_.queues_.e0.l_.e0, I s_.queues_.e0.l_.e1, I s_.queues_.e0.l_.e2, I s_.queues_.e0.l_.e3]], .agg [I s_.queues_.e1.many_, .agg [I s_.queues_.e1.l_.e0, I s_.queues_.e1.l_.e1, I s_.queues_.e1.l_.e2, I s_.queues_.e1.l_.e3]], .agg [I s_.queues_.e2.many_, .agg [I s_.queues_.e2.l_.e0, I s_.queues_.e2.l_.e1, I s_.queues_.e2.l_.e2, I s_.queues_.e2.l_.e3]], .agg [I s_.queues_.e3.many_, .agg [I s_.queues_.e3.l_.e0, I s_.queues_.e3.l_.e1, I s_.queues_.e3.l_.e2, I s_.queues_.e3.l_.e3]]]]) (rfl : ([.agg [I arr.e0, I arr.e1, I arr.e2, I arr.e3], .agg [.agg [I s_.queues_.e0.many_, .agg [I s_.queues_.e0.l_.e0, I s_.queues_.e0.l_.e1, I s_.queues_.e0.l_.e2, I s_.queues_.e0.l_.e3]], .agg [I s_.queues_.e1.many_, .agg [I s_.queues_.e1.l_.e0, I s_.queues_.e1.l_.e1, I s_.queues_.e1.l_.e2, I s_.queues_.e1.l_.e3]], .agg [I s_.queues_.e2.many_, .agg [I s_.queues_.e2.l_.e0, I s_.queues_.e2.l_.e1, I s_.queues_.e2.l_.e2, I s_.queues_.e2.l_.e3]], .agg [I s_.queues_.e3.many_, .agg [I s_.queues_.e3.l_.e0, I s_.queues_.e3.l_.e1, I s_.queues_.e3.l_.e2, I s_.queues_.e3.l_.e3]]]] : List A) = [.agg [I arr.e0, I arr.e1, I arr.e2, I arr.e3], .agg [.agg [I s_.queues_.e0.many_, .agg [I s_.queues_.e0.l_.e0, I s_.queues_.e0.l_.e1, I s_.queues_.e0.l_.e2, I s_.queues_.e0.l_.e3]], .agg [I s_.queues_.e1.many_, .agg [I s_.queues_.e1.l_.e0, I s_.queues_.e1.l_.e1, I s_.queues_.e1.l_.e2, I s_.queues_.e1.l_.e3]], .agg [I s_.queues_.e2.many_, .agg [I s_.queues_.e2.l_.e0, I s_.queues_.e2.l_.e1, I s_.queues_.e2.l_.e2, I s_.queues_.e2.l_.e3]], .agg [I s_.queues_.e3.many_, .agg [I s_.queues_.e3.l_.e0, I s_.queues_.e3.l_.e1, I s_.queues_.e3.l_.e2, I s_.queues_.e3.l_.e3]]]]), Hn (⟨arJ (by kernel_rfl) (i0 h2), (iL F9_ h2).2⟩ : Zs xQ 113 ((zC.toL s_.queues_).map F9_) (mn a_.Channel 3) = true ∧ (mn a_.Channel 3).toNat < ((zC.toL s_.queues_).map F9_).length), Hh (.op 5), Hh (.f), Hx (.a (.agg [.agg [I s_.queues_.e0.many_, .agg [I s_.queues_.e0.l_.e0, I s_.queues_.e0.l_.e1, I s_.queues_.e0.l_.e2, I s_.queues_.e0.l_.e3]], .agg [I s_.queues_.e1.many_, .agg [I s_.queues_.e1.l_.e0, I s_.queues_.e1.l_.e1, I s_.queues_.e1.l_.e2, I s_.queues_.e1.l_.e3]], .agg [I s_.queues_.e2.many_, .agg [I s_.queues_.e2.l_.e0, I s_.queues_.e2.l_.e1, I s_.queues_.e2.l_.e2, I s_.queues_.e2.l_.e3]], .agg [I s_.queues_.e3.many_, .agg [I s_.queues_.e3.l_.e0, I s_.queues_.e3.l_.e1, I s_.queues_.e3.l_.e2, I s_.queues_.e3.l_.e3]]])) (rfl : some (.agg [.agg [I s_.queues_.e0.many_, .agg [I s_.queues_.e0.l_.e0, I s_.queues_.e0.l_.e1, I s_.queues_.e0.l_.e2, I s_.queues_.e0.l_.e3]], .agg [I s_.queues_.e1.many_, .agg [I s_.queues_.e1.l_.e0, I s_.queues_.e1.l_.e1, I s_.queues_.e1.l_.e2, I s_.queues_.e1.l_.e3]], .agg [I s_.queues_.e2.many_, .agg [I s_.queues_.e2.l_.e0, I s_.queues_.e2.l_.e1, I s_.queues_.e2.l_.e2, I s_.queues_.e2.l_.e3]], .agg [I s_.queues_.e3.many_, .agg [I s_.queues_.e3.l_.e0, I s_.queues_.e3.l_.e1, I s_.queues_.e3.l_.e2, I s_.queues_.e3.l_.e3]]] : A) = some (.agg [.agg [I s_.queues_.e0.many_, .agg [I s_.queues_.e0.l_.e0, I s_.queues_.e0.l_.e1, I s_.queues_.e0.l_.e2, I s_.queues_.e0.l_.e3]], .agg [I s_.queues_.e1.many_, .agg [I s_.queues_.e1.l_.e0, I s_.queues_.e1.l_.e1, I s_.queues_.e1.l_.e2, I s_.queues_.e1.l_.e3]], .agg [I s_.queues_.e2.many_, .agg [I s_.queues_.e2.l_.e0, I s_.queues_.e2.l_.e1, I s_.queues_.e2.l_.e2, I s_.queues_.e2.l_.e3]], .agg [I s_.queues_.e3.many_, .agg [I s_.queues_.e3.l_.e0, I s_.queues_.e3.l_.e1, I s_.queues_.e3.l_.e2, I s_.queues_.e3.l_.e3]]])), Hh (.f), Hs (iM F9_ h2), Hh (.cut 0)] ?_ fun J1 hJ1 => ?_
 ·rintro s_queues hf0
  unfold wO at hf0
  obtain rfl := zl hf0
  exact yE ((xNe Tryz.prog 9 0 201).or X0) hC hE []
 ·rcases yc hf0 with ⟨c0, hf0⟩ | ⟨c0, hf0⟩
  ·obtain rfl := zl hf0
   exact yE ((xNe Tryz.prog 9 0 201).or X0) hC hE [Hq c0]
  ·refine yJ X0 hC uD [1,1,1,2,0,1,1] [J1] [5,7,8,10,33] (fun z : Bool => zR s_ a_ arr cell1 z = some r0) (fun z => ZW s_ a_ arr cell1 z) [(4, .own (.box (xR x_))), (5, .own (.box (.agg [F0_ arr, z2d s_.queues_]))), (7, .own (.box (uV a_))), (8, .own (.box (.agg [.agg [I 0, I 0, I 0, I 0], .agg [.agg [I 0, .agg [I 0, I 0, I 0, I 0]], .agg [I 0, .agg [I 0, I 0, I 0, I 0]], .agg [I 0, .agg [I 0, I 0, I 0, I 0]], .agg [I 0, .agg [I 0, I 0, I 0, I 0]]]]))), (10, .own (.box (F9_ cell1)))] [Hq c0, Hh (.cut 0)] ?_ fun J2 hJ2 => ?_
   ·rintro x33 hf0
    unfold zR at hf0
    rcases yc hf0 with ⟨c1, hf0⟩ | ⟨c1, hf0⟩
    ·obtain rfl := zl hf0
     exact yE X0 hC hE [Hq c1]
    ·rcases yc hf0 with ⟨c2, hf0⟩ | ⟨c2, hf0⟩
     ·obtain ⟨r_, h3, hf0⟩ := zn hf0
      obtain ⟨cell2, h4, hf0⟩ := zn hf0
      obtain ⟨arr1, h5, hf0⟩ := zn hf0
      replace h5 := zl h5
      exact yB X0 hC hJ1 arr1 hf0 [Hq c1, Hq c2, Hc h0m (x := (cell1, a_.Message)) h3 (loC F9_ cell1 <| loC (eI .i64) a_.Message <| loN), Hn (⟨arJ (by kernel_rfl) (i0 h4), (iL F9_ h4).2⟩ : Zs xQ 113 ((zC.toL s_.queues_).map F9_) a_.Channel = true ∧ a_.Channel.toNat < ((zC.toL s_.queues_).map F9_).length), Hh (.op 2), Hh (.f), Hx (.a (.agg [.agg [I s_.queues_.e0.many_, .agg [I s_.queues_.e0.l_.e0, I s_.queues_.e0.l_.e1, I s_.queues_.e0.l_.e2, I s_.queues_.e0.l_.e3]], .agg [I s_.queues_.e1.many_, .agg [I s_.queues_.e1.l_.e0, I s_.queues_.e1.l_.e1, I s_.queues_.e1.l_.e2, I s_.queues_.e1.l_.e3]], .agg [I s_.queues_.e2.many_, .agg [I s_.queues_.e2.l_.e0, I s_.queues_.e2.l_.e1, I s_.queues_.e2.l_.e2, I s_.queues_.e2.l_.e3]], .agg [I s_.queues_.e3.many_, .agg [I s_.queues_.e3.l_.e0, I s_.queues_.e3.l_.e1, I s_.queues_.e3.l_.e2, I s_.queues_.e3.l_.e3]]])) (rfl : some (.agg [.agg [I s_.queues_.e0.many_, .agg [I s_.queues_.e0.l_.e0, I s_.queues_.e0.l_.e1, I s_.queues_.e0.l_.e2, I s_.queues_.e0.l_.e3]], .agg [I s_.queues_.e1.many_, .agg [I s_.queues_.e1.l_.e0, I s_.queues_.e1.l_.e1, I s_.queues_.e1.l_.e2, I s_.queues_.e1.l_.e3]], .agg [I s_.queues_.e2.many_, .agg [I s_.queues_.e2.l_.e0, I s_.queues_.e2.l_.e1, I s_.queues_.e2.l_.e2, I s_.queues_.e2.l_.e3]], .agg [I s_.queues_.e3.many_, .agg [I s_.queues_.e3.l_.e0, I s_.queues_.e3.l_.e1, I s_.queues_.e3.l_.e2, I s_.queues_.e3.l_.e3]]] : A) = some (.agg [.agg [I s_.queues_.e0.many_, .agg [I s_.queues_.e0.l_.e0, I s_.queues_.e0.l_.e1, I s_.queues_.e0.l_.e2, I s_.queues_.e0.l_.e3]], .agg [I s_.queues_.e1.many_, .agg [I s_.queues_.e1.l_.e0, I s_.queues_.e1.l_.e1, I s_.queues_.e1.l_.e2, I s_.queues_.e1.l_.e3]], .agg [I s_.queues_.e2.many_, .agg [I s_.queues_.e2.l_.e0, I s_.queues_.e2.l_.e1, I s_.queues_.e2.l_.e2, I s_.queues_.e2.l_.e3]], .agg [I s_.queues_.e3.many_, .agg [I s_.queues_.e3.l_.e0, I s_.queues_.e3.l_.e1, I s_.queues_.e3.l_.e2, I s_.queues_.e3.l_.e3]]])), Hh (.f), Hs (iM F9_ h4), Hh (.f), Hx (.a (.agg [.agg [I s_.queues_.e0.many_, .agg [I s_.queues_.e0.l_.e0, I s_.queues_.e0.l_.e1, I s_.queues_.e0.l_.e2, I s_.queues_.e0.l_.e3]], .agg [I s_.queues_.e1.many_, .agg [I s_.queues_.e1.l_.e0, I s_.queues_.e1.l_.e1, I s_.queues_.e1.l_.e2, I s_.queues_.e1.l_.e3]], .agg [I s_.queues_.e2.many_, .agg [I s_.queues_.e2.l_.e0, I s_.queues_.e2.l_.e1, I s_.queues_.e2.l_.e2, I s_.queues_.e2.l_.e3]], .agg [I s_.queues_.e3.many_, .agg [I s_.queues_.e3.l_.e0, I s_.queues_.e3.l_.e1, I s_.queues_.e3.l_.e2, I s_.queues_.e3.l_.e3]]])) (rfl : some (.agg [.agg [I s_.queues_.e0.many_, .agg [I s_.queues_.e0.l_.e0, I s_.queues_.e0.l_.e1, I s_.queues_.e0.l_.e2, I s_.queues_.e0.l_.e3]], .agg [I s_.queues_.e1.many_, .agg [I s_.queues_.e1.l_.e0, I s_.queues_.e1.l_.e1, I s_.queues_.e1.l_.e2, I s_.queues_.e1.l_.e3]], .agg [I s_.queues_.e2.many_, .agg [I s_.queues_.e2.l_.e0, I s_.queues_.e2.l_.e1, I s_.queues_.e2.l_.e2, I s_.queues_.e2.l_.e3]], .agg [I s_.queues_.e3.many_, .agg [I s_.queues_.e3.l_.e0, I s_.queues_.e3.l_.e1, I s_.queues_.e3.l_.e2, I s_.queues_.e3.l_.e3]]] : A) = some (.agg [.agg [I s_.queues_.e0.many_, .agg [I s_.queues_.e0.l_.e0, I s_.queues_.e0.l_.e1, I s_.queues_.e0.l_.e2, I s_.queues_.e0.l_.e3]], .agg [I s_.queues_.e1.many_, .agg [I s_.queues_.e1.l_.e0, I s_.queues_.e1.l_.e1, I s_.queues_.e1.l_.e2, I s_.queues_.e1.l_.e3]], .agg [I s_.queues_.e2.many_, .agg [I s_.queues_.e2.l_.e0, I s_.queues_.e2.l_.e1, I s_.queues_.e2.l_.e2, I s_.queues_.e2.l_.e3]], .agg [I s_.queues_.e3.many_, .agg [I s_.queues_.e3.l_.e0, I s_.queues_.e3.l_.e1, I s_.queues_.e3.l_.e2, I s_.queues_.e3.l_.e3]]])), Hh (.f), Hs (iM F9_ h4), Hx (.l ((zC.toL arr1).map F9_)) ((zC.setL F9_ s_.queues_ a_.Channel r_).trans (congrArg (fun q => (zC.toL q).map F9_) h5)), Hx (.l [.agg [I arr.e0, I arr.e1, I arr.e2, I arr.e3], .agg [.agg [I arr1.e0.many_, .agg [I arr1.e0.l_.e0, I arr1.e0.l_.e1, I arr1.e0.l_.e2, I arr1.e0.l_.e3]], .agg [I arr1.e1.many_, .agg [I arr1.e1.l_.e0, I arr1.e1.l_.e1, I arr1.e1.l_.e2, I arr1.e1.l_.e3]], .agg [I arr1.e2.many_, .agg [I arr1.e2.l_.e0, I arr1.e2.l_.e1, I arr1.e2.l_.e2, I arr1.e2.l_.e3]], .agg [I arr1.e3.many_, .agg [I arr1.e3.l_.e0, I arr1.e3.l_.e1, I arr1.e3.l_.e2, I arr1.e3.l_.e3]]]]) (rfl : ([.agg [I arr.e0, I arr.e1, I arr.e2, I arr.e3], .agg [.agg [I arr1.e0.many_, .agg [I arr1.e0.l_.e0, I arr1.e0.l_.e1, I arr1.e0.l_.e2, I arr1.e0.l_.e3]], .agg [I arr1.e1.many_, .agg [I arr1.e1.l_.e0, I arr1.e1.l_.e1, I arr1.e1.l_.e2, I arr1.e1.l_.e3]], .agg [I arr1.e2.many_, .agg [I arr1.e2.l_.e0, I arr1.e2.l_.e1, I arr1.e2.l_.e2, I arr1.e2.l_.e3]], .agg [I arr1.e3.many_, .agg [I arr1.e3.l_.e0, I arr1.e3.l_.e1, I arr1.e3.l_.e2, I arr1.e3.l_.e3]]]] : List A) = [.agg [I arr.e0, I arr.e1, I arr.e2, I arr.e3], .agg [.agg [I arr1.e0.many_, .agg [I arr1.e0.l_.e0, I arr1.e0.l_.e1, I arr1.e0.l_.e2, I arr1.e0.l_.e3]], .agg [I arr1.e1.many_, .agg [I arr1.e1.l_.e0, I arr1.e1.l_.e1, I arr1.e1.l_.e2, I arr1.e1.l_.e3]], .agg [I arr1.e2.many_, .agg [I arr1.e2.l_.e0, I arr1.e2.l_.e1, I arr1.e2.l_.e2, I arr1.e2.l_.e3]], .agg [I arr1.e3.many_, .agg [I arr1.e3.l_.e0, I arr1.e3.l_.e1, I arr1.e3.l_.e2, I arr1.e3.l_.e3]]]])]
     ·obtain ⟨r_1, h6, hf0⟩ := zn hf0
      obtain ⟨cell3, h7, hf0⟩ := zn hf0
      obtain ⟨arr2, h8, hf0⟩ := zn hf0
      replace h8 := zl h8
      exact yB X0 hC hJ1 arr2 hf0 [Hq c1, Hq c2, Hc h0P (x := cell1) h6 (loC F9_ cell1 <| loN), Hn (⟨arJ (by kernel_rfl) (i0 h7), (iL F9_ h7).2⟩ : Zs xQ 113 ((zC.toL s_.queues_).map F9_) a_.Channel = true ∧ a_.Channel.toNat < ((zC.toL s_.queues_).map F9_).length), Hh (.op 2), Hh (.f), Hx (.a (.agg [.agg [I s_.queues_.e0.many_, .agg [I s_.queues_.e0.l_.e0, I s_.queues_.e0.l_.e1, I s_.queues_.e0.l_.e2, I s_.queues_.e0.l_.e3]], .agg [I s_.queues_.e1.many_, .agg [I s_.queues_.e1.l_.e0, I s_.queues_.e1.l_.e1, I s_.queues_.e1.l_.e2, I s_.queues_.e1.l_.e3]], .agg [I s_.queues_.e2.many_, .agg [I s_.queues_.e2.l_.e0, I s_.queues_.e2.l_.e1, I s_.queues_.e2.l_.e2, I s_.queues_.e2.l_.e3]], .agg [I s_.queues_.e3.many_, .agg [I s_.queues_.e3.l_.e0, I s_.queues_.e3.l_.e1, I s_.queues_.e3.l_.e2, I s_.queues_.e3.l_.e3]]])) (rfl : some (.agg [.agg [I s_.queues_.e0.many_, .agg [I s_.queues_.e0.l_.e0, I s_.queues_.e0.l_.e1, I s_.queues_.e0.l_.e2, I s_.queues_.e0.l_.e3]], .agg [I s_.queues_.e1.many_, .agg [I s_.queues_.e1.l_.e0, I s_.queues_.e1.l_.e1, I s_.queues_.e1.l_.e2, I s_.queues_.e1.l_.e3]], .agg [I s_.queues_.e2.many_, .agg [I s_.queues_.e2.l_.e0, I s_.queues_.e2.l_.e1, I s_.queues_.e2.l_.e2, I s_.queues_.e2.l_.e3]], .agg [I s_.queues_.e3.many_, .agg [I s_.queues_.e3.l_.e0, I s_.queues_.e3.l_.e1, I s_.queues_.e3.l_.e2, I s_.queues_.e3.l_.e3]]] : A) = some (.agg [.agg [I s_.queues_.e0.many_, .agg [I s_.queues_.e0.l_.e0, I s_.queues_.e0.l_.e1, I s_.queues_.e0.l_.e2, I s_.queues_.e0.l_.e3]], .agg [I s_.queues_.e1.many_, .agg [I s_.queues_.e1.l_.e0, I s_.queues_.e1.l_.e1, I s_.queues_.e1.l_.e2, I s_.queues_.e1.l_.e3]], .agg [I s_.queues_.e2.many_, .agg [I s_.queues_.e2.l_.e0, I s_.queues_.e2.l_.e1, I s_.queues_.e2.l_.e2, I s_.queues_.e2.l_.e3]], .agg [I s_.queues_.e3.many_, .agg [I s_.queues_.e3.l_.e0, I s_.queues_.e3.l_.e1, I s_.queues_.e3.l_.e2, I s_.queues_.e3.l_.e3]]])), Hh (.f), Hs (iM F9_ h7), Hh (.f), Hx (.a (.agg [.agg [I s_.queues_.e0.many_, .agg [I s_.queues_.e0.l_.e0, I s_.queues_.e0.l_.e1, I s_.queues_.e0.l_.e2, I s_.queues_.e0.l_.e3]], .agg [I s_.queues_.e1.many_, .agg [I s_.queues_.e1.l_.e0, I s_.queues_.e1.l_.e1, I s_.queues_.e1.l_.e2, I s_.queues_.e1.l_.e3]], .agg [I s_.queues_.e2.many_, .agg [I s_.queues_.e2.l_.e0, I s_.queues_.e2.l_.e1, I s_.queues_.e2.l_.e2, I s_.queues_.e2.l_.e3]], .agg [I s_.queues_.e3.many_, .agg [I s_.queues_.e3.l_.e0, I s_.queues_.e3.l_.e1, I s_.queues_.e3.l_.e2, I s_.queues_.e3.l_.e3]]])) (rfl : some (.agg [.agg [I s_.queues_.e0.many_, .agg [I s_.queues_.e0.l_.e0, I s_.queues_.e0.l_.e1, I s_.queues_.e0.l_.e2, I s_.queues_.e0.l_.e3]], .agg [I s_.queues_.e1.many_, .agg [I s_.queues_.e1.l_.e0, I s_.queues_.e1.l_.e1, I s_.queues_.e1.l_.e2, I s_.queues_.e1.l_.e3]], .agg [I s_.queues_.e2.many_, .agg [I s_.queues_.e2.l_.e0, I s_.queues_.e2.l_.e1, I s_.queues_.e2.l_.e2, I s_.queues_.e2.l_.e3]], .agg [I s_.queues_.e3.many_, .agg [I s_.queues_.e3.l_.e0, I s_.queues_.e3.l_.e1, I s_.queues_.e3.l_.e2, I s_.queues_.e3.l_.e3]]] : A) = some (.agg [.agg [I s_.queues_.e0.many_, .agg [I s_.queues_.e0.l_.e0, I s_.queues_.e0.l_.e1, I s_.queues_.e0.l_.e2, I s_.queues_.e0.l_.e3]], .agg [I s_.queues_.e1.many_, .agg [I s_.queues_.e1.l_.e0, I s_.queues_.e1.l_.e1, I s_.queues_.e1.l_.e2, I s_.queues_.e1.l_.e3]], .agg [I s_.queues_.e2.many_, .agg [I s_.queues_.e2.l_.e0, I s_.queues_.e2.l_.e1, I s_.queues_.e2.l_.e2, I s_.queues_.e2.l_.e3]], .agg [I s_.queues_.e3.many_, .agg [I s_.queues_.e3.l_.e0, I s_.queues_.e3.l_.e1, I s_.queues_.e3.l_.e2, I s_.queues_.e3.l_.e3]]])), Hh (.f), Hs (iM F9_ h7), Hx (.l ((zC.toL arr2).map F9_)) ((zC.setL F9_ s_.queues_ a_.Channel r_1).trans (congrArg (fun q => (zC.toL q).map F9_) h8)), Hx (.l [.agg [I arr.e0, I arr.e1, I arr.e2, I arr.e3], .agg [.agg [I arr2.e0.many_, .agg [I arr2.e0.l_.e0, I arr2.e0.l_.e1, I arr2.e0.l_.e2, I arr2.e0.l_.e3]], .agg [I arr2.e1.many_, .agg [I arr2.e1.l_.e0, I arr2.e1.l_.e1, I arr2.e1.l_.e2, I arr2.e1.l_.e3]], .agg [I arr2.e2.many_, .agg [I arr2.e2.l_.e0, I arr2.e2.l_.e1, I arr2.e2.l_.e2, I arr2.e2.l_.e3]], .agg [I arr2.e3.many_, .agg [I arr2.e3.l_.e0, I arr2.e3.l_.e1, I arr2.e3.l_.e2, I arr2.e3.l_.e3]]]]) (rfl : ([.agg [I arr.e0, I arr.e1, I arr.e2, I arr.e3], .agg [.agg [I arr2.e0.many_, .agg [I arr2.e0.l_.e0, I arr2.e0.l_.e1, I arr2.e0.l_.e2, I arr2.e0.l_.e3]], .agg [I arr2.e1.many_, .agg [I arr2.e1.l_.e0, I arr2.e1.l_.e1, I arr2.e1.l_.e2, I arr2.e1.l_.e3]], .agg [I arr2.e2.many_, .agg [I arr2.e2.l_.e0, I arr2.e2.l_.e1, I arr2.e2.l_.e2, I arr2.e2.l_.e3]], .agg [I arr2.e3.many_, .agg [I arr2.e3.l_.e0, I arr2.e3.l_.e1, I arr2.e3.l_.e2, I arr2.e3.l_.e3]]]] : List A) = [.agg [I arr.e0, I arr.e1, I arr.e2, I arr.e3], .agg [.agg [I arr2.e0.many_, .agg [I arr2.e0.l_.e0, I arr2.e0.l_.e1, I arr2.e0.l_.e2, I arr2.e0.l_.e3]], .agg [I arr2.e1.many_, .agg [I arr2.e1.l_.e0, I arr2.e1.l_.e1, I arr2.e1.l_.e2, I arr2.e1.l_.e3]], .agg [I arr2.e2.many_, .agg [I arr2.e2.l_.e0, I arr2.e2.l_.e1, I arr2.e2.l_.e2, I arr2.e2.l_.e3]], .agg [I arr2.e3.many_, .agg [I arr2.e3.l_.e0, I arr2.e3.l_.e1, I arr2.e3.l_.e2, I arr2.e3.l_.e3]]]])]
   ·obtain ⟨Channel_e, h9, hf0⟩ := zn hf0
    rcases yc hf0 with ⟨c3, hf0⟩ | ⟨c3, hf0⟩
    ·exact yB X0 hC hJ2 (Channel_e == 0) hf0 [Hi (eI .i64) h9, Hq c3]
    ·rcases yc hf0 with ⟨c4, hf0⟩ | ⟨c4, hf0⟩
     ·obtain ⟨Channel_e1, h10, hf0⟩ := zn hf0
      let Z0 : List HO := (Hi (eI .i64) h9 :: Hq c3 :: (rpN 7 (Hq c4) [Hi (eI .i64) h10, Hq c4, Hq c4, Hq c4]))
      rcases yc hf0 with ⟨c5, hf0⟩ | ⟨c5, hf0⟩
      ·exact yB X0 hC hJ2 (cell1.many_ == Channel_e1) hf0 (Z0 ++ [Hq c5])
      ·rcases yc hf0 with ⟨c6, hf0⟩ | ⟨c6, hf0⟩
       ·let Z1 : List HO := (Z0 ++ (Hq c5 :: (rpN 4 (Hq c6) [])))
        rcases yc hf0 with ⟨c7, hf0⟩ | ⟨c7, hf0⟩
        ·exact yB X0 hC hJ2 true hf0 (Z1 ++ (rpN 6 (Hq c7) [Hq c6, Hq c7, Hq c6]))
        ·exact yB X0 hC hJ2 (cell1.l_.e0 != a_.Message) hf0 (Z1 ++ (Hq c7 :: Hq c7 :: Hn (⟨rfl, by decide⟩ : true = true ∧ 0 < 4) :: (rpN 4 (Hq c7) [Hq c6, Hq c7, Hq c6])))
       ·exact yB X0 hC hJ2 false hf0 (Z0 ++ (Hq c5 :: (rpN 6 (Hq c6) [])))
     ·let Z2 : List HO := (Hi (eI .i64) h9 :: Hq c3 :: (rpN 10 (Hq c4) [qF]))
      rcases yc hf0 with ⟨c8, hf0⟩ | ⟨c8, hf0⟩
      ·let Z3 : List HO := (Z2 ++ (rpN 4 (Hq c8) []))
       rcases yc hf0 with ⟨c9, hf0⟩ | ⟨c9, hf0⟩
       ·exact yB X0 hC hJ2 true hf0 (Z3 ++ (rpN 6 (Hq c9) [Hq c8, Hq c9, Hq c8]))
       ·exact yB X0 hC hJ2 (cell1.l_.e0 != a_.Message) hf0 (Z3 ++ (Hq c9 :: Hq c9 :: Hn (⟨rfl, by decide⟩ : true = true ∧ 0 < 4) :: (rpN 4 (Hq c9) [Hq c8, Hq c9, Hq c8])))
      ·exact yB X0 hC hJ2 false hf0 (Z2 ++ (rpN 6 (Hq c8) []))
def j5 : yV := spF (α := Bool × Bool) (ρ := Bool) 85 (fun x => [(eEr 0 201) x.1, (eEr 0 201) x.2]) (fun r => eB r) (fun x => Qz x.1 x.2) [] (VS)
theorem z0p {ctr : Ctr} (hC : zV Tryz.prog ctr) : j5.Ok Tryz.prog := by
 refine y5 ?_
 rintro ⟨e, t⟩ r0 hf0
 cases t with
 | false => cases hf0
 | true =>
  cases hf0
  exact z7c e
def zz : Code := (Tryz.f82.body).getD .skip
abbrev kL {σ : Type} (x0 : z7) (x1 : za) (yv : Value) (YY : σ → Kd) (x16 : Int) (sg2 : σ) : List (Nat × T) := [(0, .own (.opq (YY sg2).q)), (1, .d (.sptr (xR x0))), (2, .d (.sptr (yG x1))), (3, .own (.box (.atom yv))), (15, .d (I ((x0.Parts.length : Nat) : Int))), (16, .d (I x16))]
abbrev zX {σ : Type} (x0 : z7) (x1 : za) (yv : Value) (YY : σ → Kd) (x16 : Int) (r_ : z7 × Int × za) (sg3 : σ) : List (Nat × T) := [(0, .own (.opq (YY sg3).q)), (1, .d (.sptr (xR x0))), (2, .d (.sptr (yG x1))), (3, .own (.box (.atom yv))), (4, .own (.box (I x16))), (15, .d (I ((x0.Parts.length : Nat) : Int))), (16, .d (I x16)), (22, .d (.fn 103 [.sptr (.agg [I r_.1.Messages, I r_.1.Labels, eSl 1 false (eI .i64) r_.1.Channels, eSl 3 false wG r_.1.Parts]), .sptr (I r_.2.1), .sptr (.agg [.agg [I r_.2.2.states_.e0, I r_.2.2.states_.e1, I r_.2.2.states_.e2, I r_.2.2.states_.e3], .agg [.agg [I r_.2.2.queues_.e0.many_, .agg [I r_.2.2.queues_.e0.l_.e0, I r_.2.2.queues_.e0.l_.e1, I r_.2.2.queues_.e0.l_.e2, I r_.2.2.queues_.e0.l_.e3]], .agg [I r_.2.2.queues_.e1.many_, .agg [I r_.2.2.queues_.e1.l_.e0, I r_.2.2.queues_.e1.l_.e1, I r_.2.2.queues_.e1.l_.e2, I r_.2.2.queues_.e1.l_.e3]], .agg [I r_.2.2.queues_.e2.many_, .agg [I r_.2.2.queues_.e2.l_.e0, I r_.2.2.queues_.e2.l_.e1, I r_.2.2.queues_.e2.l_.e2, I r_.2.2.queues_.e2.l_.e3]], .agg [I r_.2.2.queues_.e3.many_, .agg [I r_.2.2.queues_.e3.l_.e0, I r_.2.2.queues_.e3.l_.e1, I r_.2.2.queues_.e3.l_.e2, I r_.2.2.queues_.e3.l_.e3]]]])]))]
abbrev kK {σ : Type} (x0 : z7) (x1 : za) (yv : Value) (YY : σ → Kd) (x16 : Int) (r_ : z7 × Int × za) (x23 : Int) (x24 : ze) (Channel_e : Int) (x59 : Int) (sg5 : σ) : List (Nat × T) := [(0, .own (.opq (YY sg5).q)), (1, .d (.sptr (xR x0))), (2, .d (.sptr (yG x1))), (3, .own (.box (.atom yv))), (4, .own (.box (I x16))), (5, .own (.box (I x23))), (6, .own (.box (uV x24))), (15, .d (I ((x0.Parts.length : Nat) : Int))), (16, .d (I x16)), (22, .d (.fn 103 [.sptr (.agg [I r_.1.Messages, I r_.1.Labels, eSl 1 false (eI .i64) r_.1.Channels, eSl 3 false wG r_.1.Parts]), .sptr (I r_.2.1), .sptr (.agg [.agg [I r_.2.2.states_.e0, I r_.2.2.states_.e1, I r_.2.2.states_.e2, I r_.2.2.states_.e3], .agg [.agg [I r_.2.2.queues_.e0.many_, .agg [I r_.2.2.queues_.e0.l_.e0, I r_.2.2.queues_.e0.l_.e1, I r_.2.2.queues_.e0.l_.e2, I r_.2.2.queues_.e0.l_.e3]], .agg [I r_.2.2.queues_.e1.many_, .agg [I r_.2.2.queues_.e1.l_.e0, I r_.2.2.queues_.e1.l_.e1, I r_.2.2.queues_.e1.l_.e2, I r_.2.2.queues_.e1.l_.e3]], .agg [I r_.2.2.queues_.e2.many_, .agg [I r_.2.2.queues_.e2.l_.e0, I r_.2.2.queues_.e2.l_.e1, I r_.2.2.queues_.e2.l_.e2, I r_.2.2.queues_.e2.l_.e3]], .agg [I r_.2.2.queues_.e3.many_, .agg [I r_.2.2.queues_.e3.l_.e0, I r_.2.2.queues_.e3.l_.e1, I r_.2.2.queues_.e3.l_.e2, I r_.2.2.queues_.e3.l_.e3]]]])])), (48, .d (.sptr (eSl 1 false (eI .i64) x0.Channels))), (49, .d (eSl 1 false (eI .i64) x0.Channels)), (51, .d (I x24.Channel)), (52, .d (.sptr (I Channel_e))), (53, .d (I Channel_e)), (54, .d (B (decide (Channel_e > 0)))), (58, .d (I ((x0.Parts.length : Nat) : Int))), (59, .d (I x59))]
abbrev y7 {σ : Type} (x0 : z7) (x1 : za) (yv : Value) (YY : σ → Kd) (x16 : Int) (r_ : z7 × Int × za) (x23 : Int) (x24 : ze) (Channel_e : Int) (x59 : Int) (r_3 : z7 × Int × za) (sg6 : σ) : List (Nat × T) := [(0, .own (.opq (YY sg6).q)), (1, .d (.sptr (xR x0))), (2, .d (.sptr (yG x1))), (3, .own (.box (.atom yv))), (4, .own (.box (I x16))), (5, .own (.box (I x23))), (6, .own (.box (uV x24))), (9, .own (.box (I x59))), (15, .d (I ((x0.Parts.length : Nat) : Int))), (16, .d (I x16)), (22, .d (.fn 103 [.sptr (.agg [I r_.1.Messages, I r_.1.Labels, eSl 1 false (eI .i64) r_.1.Channels, eSl 3 false wG r_.1.Parts]), .sptr (I r_.2.1), .sptr (.agg [.agg [I r_.2.2.states_.e0, I r_.2.2.states_.e1, I r_.2.2.states_.e2, I r_.2.2.states_.e3], .agg [.agg [I r_.2.2.queues_.e0.many_, .agg [I r_.2.2.queues_.e0.l_.e0, I r_.2.2.queues_.e0.l_.e1, I r_.2.2.queues_.e0.l_.e2, I r_.2.2.queues_.e0.l_.e3]], .agg [I r_.2.2.queues_.e1.many_, .agg [I r_.2.2.queues_.e1.l_.e0, I r_.2.2.queues_.e1.l_.e1, I r_.2.2.queues_.e1.l_.e2, I r_.2.2.queues_.e1.l_.e3]], .agg [I r_.2.2.queues_.e2.many_, .agg [I r_.2.2.queues_.e2.l_.e0, I r_.2.2.queues_.e2.l_.e1, I r_.2.2.queues_.e2.l_.e2, I r_.2.2.queues_.e2.l_.e3]], .agg [I r_.2.2.queues_.e3.many_, .agg [I r_.2.2.queues_.e3.l_.e0, I r_.2.2.queues_.e3.l_.e1, I r_.2.2.queues_.e3.l_.e2, I r_.2.2.queues_.e3.l_.e3]]]])])), (48, .d (.sptr (eSl 1 false (eI .i64) x0.Channels))), (49, .d (eSl 1 false (eI .i64) x0.Channels)), (51, .d (I x24.Channel)), (52, .d (.sptr (I Channel_e))), (53, .d (I Channel_e)), (54, .d (B (decide (Channel_e > 0)))), (58, .d (I ((x0.Parts.length : Nat) : Int))), (59, .d (I x59)), (68, .d (.fn 103 [.sptr (.agg [I r_3.1.Messages, I r_3.1.Labels, eSl 1 false (eI .i64) r_3.1.Channels, eSl 3 false wG r_3.1.Parts]), .sptr (I r_3.2.1), .sptr (.agg [.agg [I r_3.2.2.states_.e0, I r_3.2.2.states_.e1, I r_3.2.2.states_.e2, I r_3.2.2.states_.e3], .agg [.agg [I r_3.2.2.queues_.e0.many_, .agg [I r_3.2.2.queues_.e0.l_.e0, I r_3.2.2.queues_.e0.l_.e1, I r_3.2.2.queues_.e0.l_.e2, I r_3.2.2.queues_.e0.l_.e3]], .agg [I r_3.2.2.queues_.e1.many_, .agg [I r_3.2.2.queues_.e1.l_.e0, I r_3.2.2.queues_.e1.l_.e1, I r_3.2.2.queues_.e1.l_.e2, I r_3.2.2.queues_.e1.l_.e3]], .agg [I r_3.2.2.queues_.e2.many_, .agg [I r_3.2.2.queues_.e2.l_.e0, I r_3.2.2.queues_.e2.l_.e1, I r_3.2.2.queues_.e2.l_.e2, I r_3.2.2.queues_.e2.l_.e3]], .agg [I r_3.2.2.queues_.e3.many_, .agg [I r_3.2.2.queues_.e3.l_.e0, I r_3.2.2.queues_.e3.l_.e1, I r_3.2.2.queues_.e3.l_.e2, I r_3.2.2.queues_.e3.l_.e3]]]])]))]
abbrev kI {σ : Type} (x0 : z7) (x1 : za) (yv : Value) (YY : σ → Kd) (x16 : Int) (r_ : z7 × Int × za) (x23 : Int) (x24 : ze) (Channel_e : Int) (sg4 : σ) (x59 : Int) : List (Nat × T) := [(0, .own (.opq (YY sg4).q)), (1, .d (.sptr (xR x0))), (2, .d (.sptr (yG x1))), (3, .own (.box (.atom yv))), (4, .own (.box (I x16))), (5, .own (.box (I x23))), (6, .own (.box (uV x24))), (15, .d (I ((x0.Parts.length : Nat) : Int))), (16, .d (I x16)), (22, .d (.fn 103 [.sptr (.agg [I r_.1.Messages, I r_.1.Labels, eSl 1 false (eI .i64) r_.1.Channels, eSl 3 false wG r_.1.Parts]), .sptr (I r_.2.1), .sptr (.agg [.agg [I r_.2.2.states_.e0, I r_.2.2.states_.e1, I r_.2.2.states_.e2, I r_.2.2.states_.e3], .agg [.agg [I r_.2.2.queues_.e0.many_, .agg [I r_.2.2.queues_.e0.l_.e0, I r_.2.2.queues_.e0.l_.e1, I r_.2.2.queues_.e0.l_.e2, I r_.2.2.queues_.e0.l_.e3]], .agg [I r_.2.2.queues_.e1.many_, .agg [I r_.2.2.queues_.e1.l_.e0, I r_.2.2.queues_.e1.l_.e1, I r_.2.2.queues_.e1.l_.e2, I r_.2.2.queues_.e1.l_.e3]], .agg [I r_.2.2.queues_.e2.many_, .agg [I r_.2.2.queues_.e2.l_.e0, I r_.2.2.queues_.e2.l_.e1, I r_.2.2.queues_.e2.l_.e2, I r_.2.2.queues_.e2.l_.e3]], .agg [I r_.2.2.queues_.e3.many_, .agg [I r_.2.2.queues_.e3.l_.e0, I r_.2.2.queues_.e3.l_.e1, I r_.2.2.queues_.e3.l_.e2, I r_.2.2.queues_.e3.l_.e3]]]])])), (48, .d (.sptr (eSl 1 false (eI .i64) x0.Channels))), (49, .d (eSl 1 false (eI .i64) x0.Channels)), (51, .d (I x24.Channel)), (52, .d (.sptr (I Channel_e))), (53, .d (I Channel_e)), (54, .d (B (decide (Channel_e > 0)))), (58, .d (I ((x0.Parts.length : Nat) : Int))), (59, .d (I x59))]
abbrev kJ {σ : Type} (x0 : z7) (x1 : za) (yv : Value) (YY : σ → Kd) (sg1 : σ) (x16 : Int) : List (Nat × T) := [(0, .own (.opq (YY sg1).q)), (1, .d (.sptr (xR x0))), (2, .d (.sptr (yG x1))), (3, .own (.box (.atom yv))), (15, .d (I ((x0.Parts.length : Nat) : Int))), (16, .d (I x16))]
theorem vH {ctr : Ctr} (hC : zV Tryz.prog ctr) (h04 : ctr.Has xo) (h07 : ctr.Has xm) (h08 : ctr.Has j5) (x0 : z7) (x1 : za) : z3K Tryz.prog (.fn 82 [.sptr (.agg [I x0.Messages, I x0.Labels, eSl 1 false (eI .i64) x0.Channels, eSl 3 false wG x0.Parts]), .sptr (.agg [.agg [I x1.states_.e0, I x1.states_.e1, I x1.states_.e2, I x1.states_.e3], .agg [.agg [I x1.queues_.e0.many_, .agg [I x1.queues_.e0.l_.e0, I x1.queues_.e0.l_.e1, I x1.queues_.e0.l_.e2, I x1.queues_.e0.l_.e3]], .agg [I x1.queues_.e1.many_, .agg [I x1.queues_.e1.l_.e0, I x1.queues_.e1.l_.e1, I x1.queues_.e1.l_.e2, I x1.queues_.e1.l_.e3]], .agg [I x1.queues_.e2.many_, .agg [I x1.queues_.e2.l_.e0, I x1.queues_.e2.l_.e1, I x1.queues_.e2.l_.e2, I x1.queues_.e2.l_.e3]], .agg [I x1.queues_.e3.many_, .agg [I x1.queues_.e3.l_.e0, I x1.queues_.e3.l_.e1, I x1.queues_.e3.l_.e2, I x1.queues_.e3.l_.e3]]]])]) (fun (x : zc × za) (_ : Bool) (_ : Value) => [xK x.1, yG x.2]) (@y4 x0 x1) := by
 refine z35 (tt := xQ) (nt := 110) (body := zz) zQ Tryz.func82 rfl (by kernel_rfl) rfl rfl (by show (3 : Nat) ≤ 110; decide) ?_
 intro σ yv YY yy hy sg r0 hf0 E hE
 unfold y4 at hf0
 obtain ⟨t1, ht1, hf0⟩ := zn hf0
 refine yL ((xBx Tryz.prog 3 0 yv).or X0) hC zz [1,1,0] [] (fun s => xp x0 x1 yy s.1 s.2) (fun x => kJ x0 x1 yv YY x.1 x.2) (sg, 0) ht1  [Hn (⟨rfl, rfl⟩ : false = false ∧ some yv = some yv), Ha (lnM wG x0.Parts)] ?_
 rintro ⟨sg1, x16⟩ m1 lr1 hf1 hl1 J1 hJ1
 try unfold xp at hf1
 rcases yc hf1 with ⟨c0, hf1⟩ | ⟨c0, hf1⟩
 ·refine yJ X0 hC zz [1,1,0,0,1,1] [J1] [0,1,2,3,15,16] (fun z : σ => vu x16 z = some lr1) (fun z => kL x0 x1 yv YY x16 z) [(0, .own (.opq (YY sg1).q)), (1, .d (.sptr (xR x0))), (2, .d (.sptr (yG x1))), (3, .own (.box (.atom yv))), (15, .d (I ((x0.Parts.length : Nat) : Int))), (16, .d (I x16))] [Hq c0, Hh (.cut 0)] ?_ fun J2 hJ2 => ?_
  ·rintro sg2 hf1
   unfold vu at hf1
   obtain rfl := zl hf1
   exact yB X0 hC hJ1 (sg2, w64 (x16 + 1)) hl1 []
  ·obtain ⟨r_, h0, hf1⟩ := zn hf1
   obtain ⟨t3, ht3, hf1⟩ := zn hf1
   refine yAt X0 hC (sub [1,1,0,0,1,1,2,0,1,1,0] zz) (frs [1,1,0,0,1,1,2,0,1,1,0] [J1, J2] zz []) [(0, .own (.opq (YY sg1).q)), (1, .d (.sptr (xR x0))), (2, .d (.sptr (yG x1))), (3, .own (.box (.atom yv))), (4, .own (.box (I x16))), (15, .d (I ((x0.Parts.length : Nat) : Int))), (16, .d (I x16)), (22, .d (.fn 103 [.sptr (.agg [I r_.1.Messages, I r_.1.Labels, eSl 1 false (eI .i64) r_.1.Channels, eSl 3 false wG r_.1.Parts]), .sptr (I r_.2.1), .sptr (.agg [.agg [I r_.2.2.states_.e0, I r_.2.2.states_.e1, I r_.2.2.states_.e2, I r_.2.2.states_.e3], .agg [.agg [I r_.2.2.queues_.e0.many_, .agg [I r_.2.2.queues_.e0.l_.e0, I r_.2.2.queues_.e0.l_.e1, I r_.2.2.queues_.e0.l_.e2, I r_.2.2.queues_.e0.l_.e3]], .agg [I r_.2.2.queues_.e1.many_, .agg [I r_.2.2.queues_.e1.l_.e0, I r_.2.2.queues_.e1.l_.e1, I r_.2.2.queues_.e1.l_.e2, I r_.2.2.queues_.e1.l_.e3]], .agg [I r_.2.2.queues_.e2.many_, .agg [I r_.2.2.queues_.e2.l_.e0, I r_.2.2.queues_.e2.l_.e1, I r_.2.2.queues_.e2.l_.e2, I r_.2.2.queues_.e2.l_.e3]], .agg [I r_.2.2.queues_.e3.many_, .agg [I r_.2.2.queues_.e3.l_.e0, I r_.2.2.queues_.e3.l_.e1, I r_.2.2.queues_.e3.l_.e2, I r_.2.2.queues_.e3.l_.e3]]]])]))] [Hc h04 (x := (x0, x1, x16)) h0 (loC xR x0 <| loC yG x1 <| loC (eI .i64) x16 <| loN)] fun st0 h0 => ?_
   refine QE (g := .tmp 22) (ps := [23,24]) (assign := (sub [1,1,0,0,1,1,2,0,1,1,0,0] zz)) (body := (sub [1,1,0,0,1,1,2,0,1,1,0,1] zz)) (K := 103) (caps := [.sptr (.agg [I r_.1.Messages, I r_.1.Labels, eSl 1 false (eI .i64) r_.1.Channels, eSl 3 false wG r_.1.Parts]), .sptr (I r_.2.1), .sptr (.agg [.agg [I r_.2.2.states_.e0, I r_.2.2.states_.e1, I r_.2.2.states_.e2, I r_.2.2.states_.e3], .agg [.agg [I r_.2.2.queues_.e0.many_, .agg [I r_.2.2.queues_.e0.l_.e0, I r_.2.2.queues_.e0.l_.e1, I r_.2.2.queues_.e0.l_.e2, I r_.2.2.queues_.e0.l_.e3]], .agg [I r_.2.2.queues_.e1.many_, .agg [I r_.2.2.queues_.e1.l_.e0, I r_.2.2.queues_.e1.l_.e1, I r_.2.2.queues_.e1.l_.e2, I r_.2.2.queues_.e1.l_.e3]], .agg [I r_.2.2.queues_.e2.many_, .agg [I r_.2.2.queues_.e2.l_.e0, I r_.2.2.queues_.e2.l_.e1, I r_.2.2.queues_.e2.l_.e2, I r_.2.2.queues_.e2.l_.e3]], .agg [I r_.2.2.queues_.e3.many_, .agg [I r_.2.2.queues_.e3.l_.e0, I r_.2.2.queues_.e3.l_.e1, I r_.2.2.queues_.e3.l_.e2, I r_.2.2.queues_.e3.l_.e3]]]])]) (by kernel_rfl) [0,1,2,3,4,15,16,22] (fun s => zX x0 x1 yv YY x16 r_ s) (fun s => zX x0 x1 yv YY x16 r_ s) (fun s => Code.ret) ((fun (x : Int × ze) (_ : Bool) (_ : Value) => [(eI .i64) x.1, uV x.2])) (F := @yg r_.1 r_.2.1 r_.2.2) (fun s x => yU x0 x1 yy x16 s x.1 x.2) sg1 t3 _ h0 inferInstance (by kernel_rfl) (by decide) (fun _ => rfl) (fun _ => rfl) (by kernel_rfl) (fun _ _ _ => rfl) (jk hC r_.1 r_.2.1 r_.2.2) ht3 ?_ ?_
   ·rintro tv3 sg3 ⟨x23, x24⟩ vr lr2 hf2
    refine K6 (sz := 110) (k := 0) (u := tv3 0) (v := yv) (ps := List.map (fun t => (t, tv3 t)) [1,2,3,4,15,16,22] ++ ([(0, yv)])) rfl (by simp) ?_
    replace hf2 : yU x0 x1 yy x16 sg3 x23 x24 = some lr2 := hf2
    unfold yU at hf2
    refine yF X0 hC .normal [(0, .own (.opq (YY sg3).q)), (1, .d (.sptr (xR x0))), (2, .d (.sptr (yG x1))), (3, .own (.box (.atom yv))), (4, .own (.box (I x16))), (5, .own (.box (I x23))), (6, .own (.box (uV x24))), (15, .d (I ((x0.Parts.length : Nat) : Int))), (16, .d (I x16)), (22, .d (.fn 103 [.sptr (.agg [I r_.1.Messages, I r_.1.Labels, eSl 1 false (eI .i64) r_.1.Channels, eSl 3 false wG r_.1.Parts]), .sptr (I r_.2.1), .sptr (.agg [.agg [I r_.2.2.states_.e0, I r_.2.2.states_.e1, I r_.2.2.states_.e2, I r_.2.2.states_.e3], .agg [.agg [I r_.2.2.queues_.e0.many_, .agg [I r_.2.2.queues_.e0.l_.e0, I r_.2.2.queues_.e0.l_.e1, I r_.2.2.queues_.e0.l_.e2, I r_.2.2.queues_.e0.l_.e3]], .agg [I r_.2.2.queues_.e1.many_, .agg [I r_.2.2.queues_.e1.l_.e0, I r_.2.2.queues_.e1.l_.e1, I r_.2.2.queues_.e1.l_.e2, I r_.2.2.queues_.e1.l_.e3]], .agg [I r_.2.2.queues_.e2.many_, .agg [I r_.2.2.queues_.e2.l_.e0, I r_.2.2.queues_.e2.l_.e1, I r_.2.2.queues_.e2.l_.e2, I r_.2.2.queues_.e2.l_.e3]], .agg [I r_.2.2.queues_.e3.many_, .agg [I r_.2.2.queues_.e3.l_.e0, I r_.2.2.queues_.e3.l_.e1, I r_.2.2.queues_.e3.l_.e2, I r_.2.2.queues_.e3.l_.e3]]]])]))] [] fun st0 h0 => ⟨rfl, K5 h0 ?_⟩
    refine K6 (sz := 110) (k := 0) (u := tv3 0) (v := yv) (ps := List.map (fun t => (t, tv3 t)) [1,2,3,4,15,16,22] ++ ([(0, yv)])) rfl (by simp) ?_
    obtain ⟨r_1, h1, hf2⟩ := zn hf2
    obtain ⟨r_2, h2, hf2⟩ := zn hf2
    let Z0 : List HO := [Hc h07 (x := (x0, x1, x16, x24)) h1 (loC xR x0 <| loC yG x1 <| loC (eI .i64) x16 <| loC uV x24 <| loN), Hc h08 (x := (r_1.2, true)) h2 (loC (eEr 0 201) r_1.2 <| loC (eEr 0 201) true <| loN)]
    rcases yc hf2 with ⟨c1, hf2⟩ | ⟨c1, hf2⟩
    ·obtain ⟨yr, h3, hf2⟩ := zn hf2
     let Z1 : List HO := (Z0 ++ [Hq c1, Hn (⟨rfl, rfl, _, rfl⟩ : T.own (.box (.atom yv)) = T.own (.box (.atom yv)) ∧ some yv = some yv ∧ ∃ x, T.own (.opq (YY sg3).q) = T.own x), Hn (z0s (yv := yv) (Y := YY) (enc := (fun (x : zc × za) (_ : Bool) (_ : Value) => [xK x.1, yG x.2])) (s := sg3) (x := ((zc.mk x16 x23 (-1) (-1)), r_1.1)) (s' := yr.1) (b := yr.2) (v := .nilFunc) [xK (zc.mk x16 x23 (-1) (-1)), yG r_1.1] (show Kb [xK (zc.mk x16 x23 (-1) (-1)), yG r_1.1] [xK (zc.mk x16 x23 (-1) (-1)), yG r_1.1] from inferInstance))])
     rcases yc hf2 with ⟨c2, hf2⟩ | ⟨c2, hf2⟩
     ·obtain rfl := zl hf2
      exact yF ((QU (P := Tryz.prog) xQ hy 42 (s := sg3) (x := ((zc.mk x16 x23 (-1) (-1)), r_1.1)) (s' := yr.1) (b := yr.2) .nilFunc h3).or ((xLy zQ 37 3 0 yv).or X0)) hC .ret (zX x0 x1 yv YY x16 r_ yr.1) (Z1 ++ [Hq c2]) fun st0 h0 => ⟨rfl, _, h0, LeL.refl _⟩
     ·obtain rfl := zl hf2
      exact yF ((QU (P := Tryz.prog) xQ hy 42 (s := sg3) (x := ((zc.mk x16 x23 (-1) (-1)), r_1.1)) (s' := yr.1) (b := yr.2) .nilFunc h3).or ((xLy zQ 37 3 0 yv).or X0)) hC .normal (zX x0 x1 yv YY x16 r_ yr.1) (Z1 ++ [Hq c2]) fun st0 h0 => ⟨rfl, _, h0, LeL.refl _⟩
    ·rcases yc hf2 with ⟨c3, hf2⟩ | ⟨c3, hf2⟩
     ·obtain rfl := zl hf2
      exact yF X0 hC .normal (zX x0 x1 yv YY x16 r_ sg3) (Z0 ++ (Hq c1 :: (rpN 8 (Hq c3) [qT]))) fun st0 h0 => ⟨rfl, _, h0, LeL.refl _⟩
     ·obtain ⟨Channel_e, h4, hf2⟩ := zn hf2
      let Z2 : List HO := (Z0 ++ (Hq c1 :: (rpN 5 (Hq c3) [Hi (eI .i64) h4, Hq c3, Hq c3, Hq c3])))
      rcases yc hf2 with ⟨c4, hf2⟩ | ⟨c4, hf2⟩
      ·obtain rfl := zl hf2
       exact yF X0 hC .normal (zX x0 x1 yv YY x16 r_ sg3) (Z2 ++ [Hq c4]) fun st0 h0 => ⟨rfl, _, h0, LeL.refl _⟩
      ·obtain ⟨t4, ht4, hf2⟩ := zn hf2
       refine yL X0 hC zz [1,1,0,0,1,1,2,0,1,1,0,1,0,1,1,1,1,0] [J1, J2] (fun s => yS x0 x1 yy x16 x23 x24 s.1 s.2) (fun x => kI x0 x1 yv YY x16 r_ x23 x24 Channel_e x.1 x.2) (sg3,0) ht4  (Z2 ++ [Hq c4, Ha (lnM wG x0.Parts)]) ?_
       rintro ⟨sg4, x59⟩ m4 lr3 hf3 hl3 J4 hJ4
       try unfold yS at hf3
       rcases yc hf3 with ⟨c5, hf3⟩ | ⟨c5, hf3⟩
       ·refine yJ X0 hC zz [1,1,0,0,1,1,2,0,1,1,0,1,0,1,1,1,1,0,0,1,1] [J1, J2, J4] [0,1,2,3,4,5,6,15,16,22,48,49,51,52,53,54,58,59] (fun z : σ => wi x59 z = some lr3) (fun z => kK x0 x1 yv YY x16 r_ x23 x24 Channel_e x59 z) [(0, .own (.opq (YY sg4).q)), (1, .d (.sptr (xR x0))), (2, .d (.sptr (yG x1))), (3, .own (.box (.atom yv))), (4, .own (.box (I x16))), (5, .own (.box (I x23))), (6, .own (.box (uV x24))), (15, .d (I ((x0.Parts.length : Nat) : Int))), (16, .d (I x16)), (22, .d (.fn 103 [.sptr (.agg [I r_.1.Messages, I r_.1.Labels, eSl 1 false (eI .i64) r_.1.Channels, eSl 3 false wG r_.1.Parts]), .sptr (I r_.2.1), .sptr (.agg [.agg [I r_.2.2.states_.e0, I r_.2.2.states_.e1, I r_.2.2.states_.e2, I r_.2.2.states_.e3], .agg [.agg [I r_.2.2.queues_.e0.many_, .agg [I r_.2.2.queues_.e0.l_.e0, I r_.2.2.queues_.e0.l_.e1, I r_.2.2.queues_.e0.l_.e2, I r_.2.2.queues_.e0.l_.e3]], .agg [I r_.2.2.queues_.e1.many_, .agg [I r_.2.2.queues_.e1.l_.e0, I r_.2.2.queues_.e1.l_.e1, I r_.2.2.queues_.e1.l_.e2, I r_.2.2.queues_.e1.l_.e3]], .agg [I r_.2.2.queues_.e2.many_, .agg [I r_.2.2.queues_.e2.l_.e0, I r_.2.2.queues_.e2.l_.e1, I r_.2.2.queues_.e2.l_.e2, I r_.2.2.queues_.e2.l_.e3]], .agg [I r_.2.2.queues_.e3.many_, .agg [I r_.2.2.queues_.e3.l_.e0, I r_.2.2.queues_.e3.l_.e1, I r_.2.2.queues_.e3.l_.e2, I r_.2.2.queues_.e3.l_.e3]]]])])), (48, .d (.sptr (eSl 1 false (eI .i64) x0.Channels))), (49, .d (eSl 1 false (eI .i64) x0.Channels)), (51, .d (I x24.Channel)), (52, .d (.sptr (I Channel_e))), (53, .d (I Channel_e)), (54, .d (B (decide (Channel_e > 0)))), (58, .d (I ((x0.Parts.length : Nat) : Int))), (59, .d (I x59))] [Hq c5, Hh (.cut 0)] ?_ fun J5 hJ5 => ?_
        ·rintro sg5 hf3
         unfold wi at hf3
         obtain rfl := zl hf3
         exact yB X0 hC hJ4 (sg5, w64 (x59 + 1)) hl3 []
        ·rcases yc hf3 with ⟨c6, hf3⟩ | ⟨c6, hf3⟩
         ·exact yB X0 hC hJ5 sg4 hf3 [Hq c6]
         ·obtain ⟨r_3, h5, hf3⟩ := zn hf3
          obtain ⟨t6, ht6, hf3⟩ := zn hf3
          refine yAt X0 hC (sub [1,1,0,0,1,1,2,0,1,1,0,1,0,1,1,1,1,0,0,1,1,2,0,1,1,1,0] zz) (frs [1,1,0,0,1,1,2,0,1,1,0,1,0,1,1,1,1,0,0,1,1,2,0,1,1,1,0] [J1, J2, J4, J5] zz []) [(0, .own (.opq (YY sg4).q)), (1, .d (.sptr (xR x0))), (2, .d (.sptr (yG x1))), (3, .own (.box (.atom yv))), (4, .own (.box (I x16))), (5, .own (.box (I x23))), (6, .own (.box (uV x24))), (9, .own (.box (I x59))), (15, .d (I ((x0.Parts.length : Nat) : Int))), (16, .d (I x16)), (22, .d (.fn 103 [.sptr (.agg [I r_.1.Messages, I r_.1.Labels, eSl 1 false (eI .i64) r_.1.Channels, eSl 3 false wG r_.1.Parts]), .sptr (I r_.2.1), .sptr (.agg [.agg [I r_.2.2.states_.e0, I r_.2.2.states_.e1, I r_.2.2.states_.e2, I r_.2.2.states_.e3], .agg [.agg [I r_.2.2.queues_.e0.many_, .agg [I r_.2.2.queues_.e0.l_.e0, I r_.2.2.queues_.e0.l_.e1, I r_.2.2.queues_.e0.l_.e2, I r_.2.2.queues_.e0.l_.e3]], .agg [I r_.2.2.queues_.e1.many_, .agg [I r_.2.2.queues_.e1.l_.e0, I r_.2.2.queues_.e1.l_.e1, I r_.2.2.queues_.e1.l_.e2, I r_.2.2.queues_.e1.l_.e3]], .agg [I r_.2.2.queues_.e2.many_, .agg [I r_.2.2.queues_.e2.l_.e0, I r_.2.2.queues_.e2.l_.e1, I r_.2.2.queues_.e2.l_.e2, I r_.2.2.queues_.e2.l_.e3]], .agg [I r_.2.2.queues_.e3.many_, .agg [I r_.2.2.queues_.e3.l_.e0, I r_.2.2.queues_.e3.l_.e1, I r_.2.2.queues_.e3.l_.e2, I r_.2.2.queues_.e3.l_.e3]]]])])), (48, .d (.sptr (eSl 1 false (eI .i64) x0.Channels))), (49, .d (eSl 1 false (eI .i64) x0.Channels)), (51, .d (I x24.Channel)), (52, .d (.sptr (I Channel_e))), (53, .d (I Channel_e)), (54, .d (B (decide (Channel_e > 0)))), (58, .d (I ((x0.Parts.length : Nat) : Int))), (59, .d (I x59)), (68, .d (.fn 103 [.sptr (.agg [I r_3.1.Messages, I r_3.1.Labels, eSl 1 false (eI .i64) r_3.1.Channels, eSl 3 false wG r_3.1.Parts]), .sptr (I r_3.2.1), .sptr (.agg [.agg [I r_3.2.2.states_.e0, I r_3.2.2.states_.e1, I r_3.2.2.states_.e2, I r_3.2.2.states_.e3], .agg [.agg [I r_3.2.2.queues_.e0.many_, .agg [I r_3.2.2.queues_.e0.l_.e0, I r_3.2.2.queues_.e0.l_.e1, I r_3.2.2.queues_.e0.l_.e2, I r_3.2.2.queues_.e0.l_.e3]], .agg [I r_3.2.2.queues_.e1.many_, .agg [I r_3.2.2.queues_.e1.l_.e0, I r_3.2.2.queues_.e1.l_.e1, I r_3.2.2.queues_.e1.l_.e2, I r_3.2.2.queues_.e1.l_.e3]], .agg [I r_3.2.2.queues_.e2.many_, .agg [I r_3.2.2.queues_.e2.l_.e0, I r_3.2.2.queues_.e2.l_.e1, I r_3.2.2.queues_.e2.l_.e2, I r_3.2.2.queues_.e2.l_.e3]], .agg [I r_3.2.2.queues_.e3.many_, .agg [I r_3.2.2.queues_.e3.l_.e0, I r_3.2.2.queues_.e3.l_.e1, I r_3.2.2.queues_.e3.l_.e2, I r_3.2.2.queues_.e3.l_.e3]]]])]))] [Hq c6, Hc h04 (x := (x0, x1, x59)) h5 (loC xR x0 <| loC yG x1 <| loC (eI .i64) x59 <| loN)] fun st0 h0 => ?_
          refine QE (g := .tmp 68) (ps := [69,70]) (assign := (sub [1,1,0,0,1,1,2,0,1,1,0,1,0,1,1,1,1,0,0,1,1,2,0,1,1,1,0,0] zz)) (body := (sub [1,1,0,0,1,1,2,0,1,1,0,1,0,1,1,1,1,0,0,1,1,2,0,1,1,1,0,1] zz)) (K := 103) (caps := [.sptr (.agg [I r_3.1.Messages, I r_3.1.Labels, eSl 1 false (eI .i64) r_3.1.Channels, eSl 3 false wG r_3.1.Parts]), .sptr (I r_3.2.1), .sptr (.agg [.agg [I r_3.2.2.states_.e0, I r_3.2.2.states_.e1, I r_3.2.2.states_.e2, I r_3.2.2.states_.e3], .agg [.agg [I r_3.2.2.queues_.e0.many_, .agg [I r_3.2.2.queues_.e0.l_.e0, I r_3.2.2.queues_.e0.l_.e1, I r_3.2.2.queues_.e0.l_.e2, I r_3.2.2.queues_.e0.l_.e3]], .agg [I r_3.2.2.queues_.e1.many_, .agg [I r_3.2.2.queues_.e1.l_.e0, I r_3.2.2.queues_.e1.l_.e1, I r_3.2.2.queues_.e1.l_.e2, I r_3.2.2.queues_.e1.l_.e3]], .agg [I r_3.2.2.queues_.e2.many_, .agg [I r_3.2.2.queues_.e2.l_.e0, I r_3.2.2.queues_.e2.l_.e1, I r_3.2.2.queues_.e2.l_.e2, I r_3.2.2.queues_.e2.l_.e3]], .agg [I r_3.2.2.queues_.e3.many_, .agg [I r_3.2.2.queues_.e3.l_.e0, I r_3.2.2.queues_.e3.l_.e1, I r_3.2.2.queues_.e3.l_.e2, I r_3.2.2.queues_.e3.l_.e3]]]])]) (by kernel_rfl) [0,1,2,3,4,5,6,9,15,16,22,48,49,51,52,53,54,58,59,68] (fun s => y7 x0 x1 yv YY x16 r_ x23 x24 Channel_e x59 r_3 s) (fun s => y7 x0 x1 yv YY x16 r_ x23 x24 Channel_e x59 r_3 s) (fun s => Code.ret) ((fun (x : Int × ze) (_ : Bool) (_ : Value) => [(eI .i64) x.1, uV x.2])) (F := @yg r_3.1 r_3.2.1 r_3.2.2) (fun s x => yT x1 yy x16 x23 x24 x59 s x.1 x.2) sg4 t6 _ h0 inferInstance (by kernel_rfl) (by decide) (fun _ => rfl) (fun _ => rfl) (by kernel_rfl) (fun _ _ _ => rfl) (jk hC r_3.1 r_3.2.1 r_3.2.2) ht6 ?_ ?_
          ·rintro tv6 sg6 ⟨x69, x70⟩ vr lr4 hf4
           refine K6 (sz := 110) (k := 0) (u := tv6 0) (v := yv) (ps := List.map (fun t => (t, tv6 t)) [1,2,3,4,5,6,9,15,16,22,48,49,51,52,53,54,58,59,68] ++ (List.map (fun t => (t, tv3 t)) [1,2,3,4,15,16,22] ++ ([(0, yv)]))) rfl (by simp) ?_
           replace hf4 : yT x1 yy x16 x23 x24 x59 sg6 x69 x70 = some lr4 := hf4
           unfold yT at hf4
           refine yF X0 hC .normal [(0, .own (.opq (YY sg6).q)), (1, .d (.sptr (xR x0))), (2, .d (.sptr (yG x1))), (3, .own (.box (.atom yv))), (4, .own (.box (I x16))), (5, .own (.box (I x23))), (6, .own (.box (uV x24))), (9, .own (.box (I x59))), (10, .d (I x69)), (11, .own (.box (uV x70))), (15, .d (I ((x0.Parts.length : Nat) : Int))), (16, .d (I x16)), (22, .d (.fn 103 [.sptr (.agg [I r_.1.Messages, I r_.1.Labels, eSl 1 false (eI .i64) r_.1.Channels, eSl 3 false wG r_.1.Parts]), .sptr (I r_.2.1), .sptr (.agg [.agg [I r_.2.2.states_.e0, I r_.2.2.states_.e1, I r_.2.2.states_.e2, I r_.2.2.states_.e3], .agg [.agg [I r_.2.2.queues_.e0.many_, .agg [I r_.2.2.queues_.e0.l_.e0, I r_.2.2.queues_.e0.l_.e1, I r_.2.2.queues_.e0.l_.e2, I r_.2.2.queues_.e0.l_.e3]], .agg [I r_.2.2.queues_.e1.many_, .agg [I r_.2.2.queues_.e1.l_.e0, I r_.2.2.queues_.e1.l_.e1, I r_.2.2.queues_.e1.l_.e2, I r_.2.2.queues_.e1.l_.e3]], .agg [I r_.2.2.queues_.e2.many_, .agg [I r_.2.2.queues_.e2.l_.e0, I r_.2.2.queues_.e2.l_.e1, I r_.2.2.queues_.e2.l_.e2, I r_.2.2.queues_.e2.l_.e3]], .agg [I r_.2.2.queues_.e3.many_, .agg [I r_.2.2.queues_.e3.l_.e0, I r_.2.2.queues_.e3.l_.e1, I r_.2.2.queues_.e3.l_.e2, I r_.2.2.queues_.e3.l_.e3]]]])])), (48, .d (.sptr (eSl 1 false (eI .i64) x0.Channels))), (49, .d (eSl 1 false (eI .i64) x0.Channels)), (51, .d (I x24.Channel)), (52, .d (.sptr (I Channel_e))), (53, .d (I Channel_e)), (54, .d (B (decide (Channel_e > 0)))), (58, .d (I ((x0.Parts.length : Nat) : Int))), (59, .d (I x59)), (68, .d (.fn 103 [.sptr (.agg [I r_3.1.Messages, I r_3.1.Labels, eSl 1 false (eI .i64) r_3.1.Channels, eSl 3 false wG r_3.1.Parts]), .sptr (I r_3.2.1), .sptr (.agg [.agg [I r_3.2.2.states_.e0, I r_3.2.2.states_.e1, I r_3.2.2.states_.e2, I r_3.2.2.states_.e3], .agg [.agg [I r_3.2.2.queues_.e0.many_, .agg [I r_3.2.2.queues_.e0.l_.e0, I r_3.2.2.queues_.e0.l_.e1, I r_3.2.2.queues_.e0.l_.e2, I r_3.2.2.queues_.e0.l_.e3]], .agg [I r_3.2.2.queues_.e1.many_, .agg [I r_3.2.2.queues_.e1.l_.e0, I r_3.2.2.queues_.e1.l_.e1, I r_3.2.2.queues_.e1.l_.e2, I r_3.2.2.queues_.e1.l_.e3]], .agg [I r_3.2.2.queues_.e2.many_, .agg [I r_3.2.2.queues_.e2.l_.e0, I r_3.2.2.queues_.e2.l_.e1, I r_3.2.2.queues_.e2.l_.e2, I r_3.2.2.queues_.e2.l_.e3]], .agg [I r_3.2.2.queues_.e3.many_, .agg [I r_3.2.2.queues_.e3.l_.e0, I r_3.2.2.queues_.e3.l_.e1, I r_3.2.2.queues_.e3.l_.e2, I r_3.2.2.queues_.e3.l_.e3]]]])]))] [] fun st0 h0 => ⟨rfl, K5 h0 ?_⟩
           refine K6 (sz := 110) (k := 0) (u := tv6 0) (v := yv) (ps := List.map (fun t => (t, tv6 t)) [1,2,3,4,5,6,9,15,16,22,48,49,51,52,53,54,58,59,68] ++ (List.map (fun t => (t, tv3 t)) [1,2,3,4,15,16,22] ++ ([(0, yv)]))) rfl (by simp) ?_
           rcases yc hf4 with ⟨c7, hf4⟩ | ⟨c7, hf4⟩
           ·obtain rfl := zl hf4
            exact yF X0 hC .normal (y7 x0 x1 yv YY x16 r_ x23 x24 Channel_e x59 r_3 sg6) (rpN 6 (Hq c7) (rpN 7 qT [])) fun st0 h0 => ⟨rfl, _, h0, LeL.refl _⟩
           ·let Z3 : List HO := (rpN 6 (Hq c7) [])
            rcases yc hf4 with ⟨c8, hf4⟩ | ⟨c8, hf4⟩
            ·obtain rfl := zl hf4
             exact yF X0 hC .normal (y7 x0 x1 yv YY x16 r_ x23 x24 Channel_e x59 r_3 sg6) (Z3 ++ (rpN 6 (Hq c8) [qT])) fun st0 h0 => ⟨rfl, _, h0, LeL.refl _⟩
            ·let Z4 : List HO := (Z3 ++ (rpN 6 (Hq c8) []))
             rcases yc hf4 with ⟨c9, hf4⟩ | ⟨c9, hf4⟩
             ·obtain rfl := zl hf4
              exact yF X0 hC .normal (y7 x0 x1 yv YY x16 r_ x23 x24 Channel_e x59 r_3 sg6) (Z4 ++ [Hq c9]) fun st0 h0 => ⟨rfl, _, h0, LeL.refl _⟩
             ·refine yA X0 hC zz [1,1,0,0,1,1,2,0,1,1,0,1,0,1,1,1,1,0,0,1,1,2,0,1,1,1,0,1,0,1,1] [J1, J2, J4, J5] [(0, .own (.opq (YY sg6).q)), (1, .d (.sptr (xR x0))), (2, .d (.sptr (yG x1))), (3, .own (.box (.atom yv))), (4, .own (.box (I x16))), (5, .own (.box (I x23))), (6, .own (.box (uV x24))), (9, .own (.box (I x59))), (10, .d (I x69)), (11, .own (.box (uV x70))), (12, .own (.box (yG x1))), (15, .d (I ((x0.Parts.length : Nat) : Int))), (16, .d (I x16)), (22, .d (.fn 103 [.sptr (.agg [I r_.1.Messages, I r_.1.Labels, eSl 1 false (eI .i64) r_.1.Channels, eSl 3 false wG r_.1.Parts]), .sptr (I r_.2.1), .sptr (.agg [.agg [I r_.2.2.states_.e0, I r_.2.2.states_.e1, I r_.2.2.states_.e2, I r_.2.2.states_.e3], .agg [.agg [I r_.2.2.queues_.e0.many_, .agg [I r_.2.2.queues_.e0.l_.e0, I r_.2.2.queues_.e0.l_.e1, I r_.2.2.queues_.e0.l_.e2, I r_.2.2.queues_.e0.l_.e3]], .agg [I r_.2.2.queues_.e1.many_, .agg [I r_.2.2.queues_.e1.l_.e0, I r_.2.2.queues_.e1.l_.e1, I r_.2.2.queues_.e1.l_.e2, I r_.2.2.queues_.e1.l_.e3]], .agg [I r_.2.2.queues_.e2.many_, .agg [I r_.2.2.queues_.e2.l_.e0, I r_.2.2.queues_.e2.l_.e1, I r_.2.2.queues_.e2.l_.e2, I r_.2.2.queues_.e2.l_.e3]], .agg [I r_.2.2.queues_.e3.many_, .agg [I r_.2.2.queues_.e3.l_.e0, I r_.2.2.queues_.e3.l_.e1, I r_.2.2.queues_.e3.l_.e2, I r_.2.2.queues_.e3.l_.e3]]]])])), (48, .d (.sptr (eSl 1 false (eI .i64) x0.Channels))), (49, .d (eSl 1 false (eI .i64) x0.Channels)), (51, .d (I x24.Channel)), (52, .d (.sptr (I Channel_e))), (53, .d (I Channel_e)), (54, .d (B (decide (Channel_e > 0)))), (58, .d (I ((x0.Parts.length : Nat) : Int))), (59, .d (I x59)), (68, .d (.fn 103 [.sptr (.agg [I r_3.1.Messages, I r_3.1.Labels, eSl 1 false (eI .i64) r_3.1.Channels, eSl 3 false wG r_3.1.Parts]), .sptr (I r_3.2.1), .sptr (.agg [.agg [I r_3.2.2.states_.e0, I r_3.2.2.states_.e1, I r_3.2.2.states_.e2, I r_3.2.2.states_.e3], .agg [.agg [I r_3.2.2.queues_.e0.many_, .agg [I r_3.2.2.queues_.e0.l_.e0, I r_3.2.2.queues_.e0.l_.e1, I r_3.2.2.queues_.e0.l_.e2, I r_3.2.2.queues_.e0.l_.e3]], .agg [I r_3.2.2.queues_.e1.many_, .agg [I r_3.2.2.queues_.e1.l_.e0, I r_3.2.2.queues_.e1.l_.e1, I r_3.2.2.queues_.e1.l_.e2, I r_3.2.2.queues_.e1.l_.e3]], .agg [I r_3.2.2.queues_.e2.many_, .agg [I r_3.2.2.queues_.e2.l_.e0, I r_3.2.2.queues_.e2.l_.e1, I r_3.2.2.queues_.e2.l_.e2, I r_3.2.2.queues_.e2.l_.e3]], .agg [I r_3.2.2.queues_.e3.many_, .agg [I r_3.2.2.queues_.e3.l_.e0, I r_3.2.2.queues_.e3.l_.e1, I r_3.2.2.queues_.e3.l_.e2, I r_3.2.2.queues_.e3.l_.e3]]]])])), (76, .d (I x70.Channel)), (78, .d (I x24.Channel)), (79, .d (B (x70.Channel != x24.Channel))), (83, .d (I x70.Message)), (85, .d (I x24.Message)), (86, .d (B (x70.Message != x24.Message)))] (Z4 ++ [Hq c9, Hh (.cut 1)]) ?_
              obtain ⟨cell, h6, hf4⟩ := zn hf4
              obtain ⟨arr, h7, hf4⟩ := zn hf4
              replace h7 := zl h7
              obtain ⟨cell1, h8, hf4⟩ := zn hf4
              obtain ⟨arr1, h9, hf4⟩ := zn hf4
              replace h9 := zl h9
              refine z3A (by kernel_rfl) (x := (sub [1,1,0,0,1,1,2,0,1,1,0,1,0,1,1,1,1,0,0,1,1,2,0,1,1,1,0,1,0,1,1,0] zz)) (y := (sub [1,1,0,0,1,1,2,0,1,1,0,1,0,1,1,1,1,0,0,1,1,2,0,1,1,1,0,1,0,1,1,1] zz)) 12 (fun st1 => Own.canon [0,1,2,3,4,5,6,9,10,12,15,16,22,48,49,51,52,53,54,58,59,68,76,78,79,83,85,86] st1 = ofL [(0, .own (.opq (YY sg6).q)), (1, .d (.sptr (xR x0))), (2, .d (.sptr (yG x1))), (3, .own (.box (.atom yv))), (4, .own (.box (I x16))), (5, .own (.box (I x23))), (6, .own (.box (uV x24))), (9, .own (.box (I x59))), (10, .d (I x69)), (12, .own (.box (.agg [F0_ arr1, z2d x1.queues_]))), (15, .d (I ((x0.Parts.length : Nat) : Int))), (16, .d (I x16)), (22, .d (.fn 103 [.sptr (.agg [I r_.1.Messages, I r_.1.Labels, eSl 1 false (eI .i64) r_.1.Channels, eSl 3 false wG r_.1.Parts]), .sptr (I r_.2.1), .sptr (.agg [.agg [I r_.2.2.states_.e0, I r_.2.2.states_.e1, I r_.2.2.states_.e2, I r_.2.2.states_.e3], .agg [.agg [I r_.2.2.queues_.e0.many_, .agg [I r_.2.2.queues_.e0.l_.e0, I r_.2.2.queues_.e0.l_.e1, I r_.2.2.queues_.e0.l_.e2, I r_.2.2.queues_.e0.l_.e3]], .agg [I r_.2.2.queues_.e1.many_, .agg [I r_.2.2.queues_.e1.l_.e0, I r_.2.2.queues_.e1.l_.e1, I r_.2.2.queues_.e1.l_.e2, I r_.2.2.queues_.e1.l_.e3]], .agg [I r_.2.2.queues_.e2.many_, .agg [I r_.2.2.queues_.e2.l_.e0, I r_.2.2.queues_.e2.l_.e1, I r_.2.2.queues_.e2.l_.e2, I r_.2.2.queues_.e2.l_.e3]], .agg [I r_.2.2.queues_.e3.many_, .agg [I r_.2.2.queues_.e3.l_.e0, I r_.2.2.queues_.e3.l_.e1, I r_.2.2.queues_.e3.l_.e2, I r_.2.2.queues_.e3.l_.e3]]]])])), (48, .d (.sptr (eSl 1 false (eI .i64) x0.Channels))), (49, .d (eSl 1 false (eI .i64) x0.Channels)), (51, .d (I x24.Channel)), (52, .d (.sptr (I Channel_e))), (53, .d (I Channel_e)), (54, .d (B (decide (Channel_e > 0)))), (58, .d (I ((x0.Parts.length : Nat) : Int))), (59, .d (I x59)), (68, .d (.fn 103 [.sptr (.agg [I r_3.1.Messages, I r_3.1.Labels, eSl 1 false (eI .i64) r_3.1.Channels, eSl 3 false wG r_3.1.Parts]), .sptr (I r_3.2.1), .sptr (.agg [.agg [I r_3.2.2.states_.e0, I r_3.2.2.states_.e1, I r_3.2.2.states_.e2, I r_3.2.2.states_.e3], .agg [.agg [I r_3.2.2.queues_.e0.many_, .agg [I r_3.2.2.queues_.e0.l_.e0, I r_3.2.2.queues_.e0.l_.e1, I r_3.2.2.queues_.e0.l_.e2, I r_3.2.2.queues_.e0.l_.e3]], .agg [I r_3.2.2.queues_.e1.many_, .agg [I r_3.2.2.queues_.e1.l_.e0, I r_3.2.2.queues_.e1.l_.e1, I r_3.2.2.queues_.e1.l_.e2, I r_3.2.2.queues_.e1.l_.e3]], .agg [I r_3.2.2.queues_.e2.many_, .agg [I r_3.2.2.queues_.e2.l_.e0, I r_3.2.2.queues_.e2.l_.e1, I r_3.2.2.queues_.e2.l_.e2, I r_3.2.2.queues_.e2.l_.e3]], .agg [I r_3.2.2.queues_.e3.many_, .agg [I r_3.2.2.queues_.e3.l_.e0, I r_3.2.2.queues_.e3.l_.e1, I r_3.2.2.queues_.e3.l_.e2, I r_3.2.2.queues_.e3.l_.e3]]]])])), (76, .d (I x70.Channel)), (78, .d (I x24.Channel)), (79, .d (B (x70.Channel != x24.Channel))), (83, .d (I x70.Message)), (85, .d (I x24.Message)), (86, .d (B (x70.Message != x24.Message)))]) ⟨_, rfl⟩ (fun b12 => yF ((xIa zQ 98 12 0 b12).or ((xFa zQ 97 12 0 b12).or ((xIa zQ 96 12 0 b12).or ((xFa zQ 95 12 0 b12).or X0)))) hC .normal [(0, .own (.opq (YY sg6).q)), (1, .d (.sptr (xR x0))), (2, .d (.sptr (yG x1))), (3, .own (.box (.atom yv))), (4, .own (.box (I x16))), (5, .own (.box (I x23))), (6, .own (.box (uV x24))), (9, .own (.box (I x59))), (10, .d (I x69)), (12, .own (.box (.agg [F0_ arr1, z2d x1.queues_]))), (15, .d (I ((x0.Parts.length : Nat) : Int))), (16, .d (I x16)), (22, .d (.fn 103 [.sptr (.agg [I r_.1.Messages, I r_.1.Labels, eSl 1 false (eI .i64) r_.1.Channels, eSl 3 false wG r_.1.Parts]), .sptr (I r_.2.1), .sptr (.agg [.agg [I r_.2.2.states_.e0, I r_.2.2.states_.e1, I r_.2.2.states_.e2, I r_.2.2.states_.e3], .agg [.agg [I r_.2.2.queues_.e0.many_, .agg [I r_.2.2.queues_.e0.l_.e0, I r_.2.2.queues_.e0.l_.e1, I r_.2.2.queues_.e0.l_.e2, I r_.2.2.queues_.e0.l_.e3]], .agg [I r_.2.2.queues_.e1.many_, .agg [I r_.2.2.queues_.e1.l_.e0, I r_.2.2.queues_.e1.l_.e1, I r_.2.2.queues_.e1.l_.e2, I r_.2.2.queues_.e1.l_.e3]], .agg [I r_.2.2.queues_.e2.many_, .agg [I r_.2.2.queues_.e2.l_.e0, I r_.2.2.queues_.e2.l_.e1, I r_.2.2.queues_.e2.l_.e2, I r_.2.2.queues_.e2.l_.e3]], .agg [I r_.2.2.queues_.e3.many_, .agg [I r_.2.2.queues_.e3.l_.e0, I r_.2.2.queues_.e3.l_.e1, I r_.2.2.queues_.e3.l_.e2, I r_.2.2.queues_.e3.l_.e3]]]])])), (48, .d (.sptr (eSl 1 false (eI .i64) x0.Channels))), (49, .d (eSl 1 false (eI .i64) x0.Channels)), (51, .d (I x24.Channel)), (52, .d (.sptr (I Channel_e))), (53, .d (I Channel_e)), (54, .d (B (decide (Channel_e > 0)))), (58, .d (I ((x0.Parts.length : Nat) : Int))), (59, .d (I x59)), (68, .d (.fn 103 [.sptr (.agg [I r_3.1.Messages, I r_3.1.Labels, eSl 1 false (eI .i64) r_3.1.Channels, eSl 3 false wG r_3.1.Parts]), .sptr (I r_3.2.1), .sptr (.agg [.agg [I r_3.2.2.states_.e0, I r_3.2.2.states_.e1, I r_3.2.2.states_.e2, I r_3.2.2.states_.e3], .agg [.agg [I r_3.2.2.queues_.e0.many_, .agg [I r_3.2.2.queues_.e0.l_.e0, I r_3.2.2.queues_.e0.l_.e1, I r_3.2.2.queues_.e0.l_.e2, I r_3.2.2.queues_.e0.l_.e3]], .agg [I r_3.2.2.queues_.e1.many_, .agg [I r_3.2.2.queues_.e1.l_.e0, I r_3.2.2.queues_.e1.l_.e1, I r_3.2.2.queues_.e1.l_.e2, I r_3.2.2.queues_.e1.l_.e3]], .agg [I r_3.2.2.queues_.e2.many_, .agg [I r_3.2.2.queues_.e2.l_.e0, I r_3.2.2.queues_.e2.l_.e1, I r_3.2.2.queues_.e2.l_.e2, I r_3.2.2.queues_.e2.l_.e3]], .agg [I r_3.2.2.queues_.e3.many_, .agg [I r_3.2.2.queues_.e3.l_.e0, I r_3.2.2.queues_.e3.l_.e1, I r_3.2.2.queues_.e3.l_.e2, I r_3.2.2.queues_.e3.l_.e3]]]])])), (76, .d (I x70.Channel)), (78, .d (I x24.Channel)), (79, .d (B (x70.Channel != x24.Channel))), (83, .d (I x70.Message)), (85, .d (I x24.Message)), (86, .d (B (x70.Message != x24.Message)))] [Hn (rfl : some (KI b12) = some (KI b12)), Hn (⟨rfl, rfl⟩ : T.d (.atom (.pointer (some ⟨b12,0, none⟩))) = T.d (.atom (.pointer (some ⟨b12,0, none⟩))) ∧ some (KI b12) = some (KI b12)), Hn (⟨arJ (by kernel_rfl) (i0 h6), (iL (eI .i64) h6).2⟩ : Zs xQ 110 ((zC.toL x1.states_).map (eI .i64)) x16 = true ∧ x16.toNat < ((zC.toL x1.states_).map (eI .i64)).length), Hh (.op 8), Hh (.f), Hx (.a (.agg [I x1.states_.e0, I x1.states_.e1, I x1.states_.e2, I x1.states_.e3])) (rfl : some (.agg [I x1.states_.e0, I x1.states_.e1, I x1.states_.e2, I x1.states_.e3] : A) = some (.agg [I x1.states_.e0, I x1.states_.e1, I x1.states_.e2, I x1.states_.e3])), Hh (.f), Hs (iM (eI .i64) h6), Hh (.f), Hx (.a (.agg [I x1.states_.e0, I x1.states_.e1, I x1.states_.e2, I x1.states_.e3])) (rfl : some (.agg [I x1.states_.e0, I x1.states_.e1, I x1.states_.e2, I x1.states_.e3] : A) = some (.agg [I x1.states_.e0, I x1.states_.e1, I x1.states_.e2, I x1.states_.e3])), Hh (.f), Hs (iM (eI .i64) h6), Hx (.l ((zC.toL arr).map (eI .i64))) ((zC.setL (eI .i64) x1.states_ x16 x24.To).trans (congrArg (fun q => (zC.toL q).map (eI .i64)) h7)), Hx (.l [.agg [I arr.e0, I arr.e1, I arr.e2, I arr.e3], .agg [.agg [I x1.queues_.e0.many_, .agg [I x1.queues_.e0.l_.e0, I x1.queues_.e0.l_.e1, I x1.queues_.e0.l_.e2, I x1.queues_.e0.l_.e3]], .agg [I x1.queues_.e1.many_, .agg [I x1.queues_.e1.l_.e0, I x1.queues_.e1.l_.e1, I x1.queues_.e1.l_.e2, I x1.queues_.e1.l_.e3]], .agg [I x1.queues_.e2.many_, .agg [I x1.queues_.e2.l_.e0, I x1.queues_.e2.l_.e1, I x1.queues_.e2.l_.e2, I x1.queues_.e2.l_.e3]], .agg [I x1.queues_.e3.many_, .agg [I x1.queues_.e3.l_.e0, I x1.queues_.e3.l_.e1, I x1.queues_.e3.l_.e2, I x1.queues_.e3.l_.e3]]]]) (rfl : ([.agg [I arr.e0, I arr.e1, I arr.e2, I arr.e3], .agg [.agg [I x1.queues_.e0.many_, .agg [I x1.queues_.e0.l_.e0, I x1.queues_.e0.l_.e1, I x1.queues_.e0.l_.e2, I x1.queues_.e0.l_.e3]], .agg [I x1.queues_.e1.many_, .agg [I x1.queues_.e1.l_.e0, I x1.queues_.e1.l_.e1, I x1.queues_.e1.l_.e2, I x1.queues_.e1.l_.e3]], .agg [I x1.queues_.e2.many_, .agg [I x1.queues_.e2.l_.e0, I x1.queues_.e2.l_.e1, I x1.queues_.e2.l_.e2, I x1.queues_.e2.l_.e3]], .agg [I x1.queues_.e3.many_, .agg [I x1.queues_.e3.l_.e0, I x1.queues_.e3.l_.e1, I x1.queues_.e3.l_.e2, I x1.queues_.e3.l_.e3]]]] : List A) = [.agg [I arr.e0, I arr.e1, I arr.e2, I arr.e3], .agg [.agg [I x1.queues_.e0.many_, .agg [I x1.queues_.e0.l_.e0, I x1.queues_.e0.l_.e1, I x1.queues_.e0.l_.e2, I x1.queues_.e0.l_.e3]], .agg [I x1.queues_.e1.many_, .agg [I x1.queues_.e1.l_.e0, I x1.queues_.e1.l_.e1, I x1.queues_.e1.l_.e2, I x1.queues_.e1.l_.e3]], .agg [I x1.queues_.e2.many_, .agg [I x1.queues_.e2.l_.e0, I x1.queues_.e2.l_.e1, I x1.queues_.e2.l_.e2, I x1.queues_.e2.l_.e3]], .agg [I x1.queues_.e3.many_, .agg [I x1.queues_.e3.l_.e0, I x1.queues_.e3.l_.e1, I x1.queues_.e3.l_.e2, I x1.queues_.e3.l_.e3]]]]), Hn (rfl : some (KI b12) = some (KI b12)), Hn (⟨rfl, rfl⟩ : T.d (.atom (.pointer (some ⟨b12,0, none⟩))) = T.d (.atom (.pointer (some ⟨b12,0, none⟩))) ∧ some (KI b12) = some (KI b12)), Hn (⟨arJ (by kernel_rfl) (i0 h8), (iL (eI .i64) h8).2⟩ : Zs xQ 110 ((zC.toL arr).map (eI .i64)) x59 = true ∧ x59.toNat < ((zC.toL arr).map (eI .i64)).length), Hh (.op 2), Hh (.f), Hx (.a (.agg [I arr.e0, I arr.e1, I arr.e2, I arr.e3])) (rfl : some (.agg [I arr.e0, I arr.e1, I arr.e2, I arr.e3] : A) = some (.agg [I arr.e0, I arr.e1, I arr.e2, I arr.e3])), Hh (.f), Hs (iM (eI .i64) h8), Hh (.f), Hx (.a (.agg [I arr.e0, I arr.e1, I arr.e2, I arr.e3])) (rfl : some (.agg [I arr.e0, I arr.e1, I arr.e2, I arr.e3] : A) = some (.agg [I arr.e0, I arr.e1, I arr.e2, I arr.e3])), Hh (.f), Hs (iM (eI .i64) h8), Hx (.l ((zC.toL arr1).map (eI .i64))) ((zC.setL (eI .i64) arr x59 x70.To).trans (congrArg (fun q => (zC.toL q).map (eI .i64)) h9)), Hx (.l [.agg [I arr1.e0, I arr1.e1, I arr1.e2, I arr1.e3], .agg [.agg [I x1.queues_.e0.many_, .agg [I x1.queues_.e0.l_.e0, I x1.queues_.e0.l_.e1, I x1.queues_.e0.l_.e2, I x1.queues_.e0.l_.e3]], .agg [I x1.queues_.e1.many_, .agg [I x1.queues_.e1.l_.e0, I x1.queues_.e1.l_.e1, I x1.queues_.e1.l_.e2, I x1.queues_.e1.l_.e3]], .agg [I x1.queues_.e2.many_, .agg [I x1.queues_.e2.l_.e0, I x1.queues_.e2.l_.e1, I x1.queues_.e2.l_.e2, I x1.queues_.e2.l_.e3]], .agg [I x1.queues_.e3.many_, .agg [I x1.queues_.e3.l_.e0, I x1.queues_.e3.l_.e1, I x1.queues_.e3.l_.e2, I x1.queues_.e3.l_.e3]]]]) (rfl : ([.agg [I arr1.e0, I arr1.e1, I arr1.e2, I arr1.e3], .agg [.agg [I x1.queues_.e0.many_, .agg [I x1.queues_.e0.l_.e0, I x1.queues_.e0.l_.e1, I x1.queues_.e0.l_.e2, I x1.queues_.e0.l_.e3]], .agg [I x1.queues_.e1.many_, .agg [I x1.queues_.e1.l_.e0, I x1.queues_.e1.l_.e1, I x1.queues_.e1.l_.e2, I x1.queues_.e1.l_.e3]], .agg [I x1.queues_.e2.many_, .agg [I x1.queues_.e2.l_.e0, I x1.queues_.e2.l_.e1, I x1.queues_.e2.l_.e2, I x1.queues_.e2.l_.e3]], .agg [I x1.queues_.e3.many_, .agg [I x1.queues_.e3.l_.e0, I x1.queues_.e3.l_.e1, I x1.queues_.e3.l_.e2, I x1.queues_.e3.l_.e3]]]] : List A) = [.agg [I arr1.e0, I arr1.e1, I arr1.e2, I arr1.e3], .agg [.agg [I x1.queues_.e0.many_, .agg [I x1.queues_.e0.l_.e0, I x1.queues_.e0.l_.e1, I x1.queues_.e0.l_.e2, I x1.queues_.e0.l_.e3]], .agg [I x1.queues_.e1.many_, .agg [I x1.queues_.e1.l_.e0, I x1.queues_.e1.l_.e1, I x1.queues_.e1.l_.e2, I x1.queues_.e1.l_.e3]], .agg [I x1.queues_.e2.many_, .agg [I x1.queues_.e2.l_.e0, I x1.queues_.e2.l_.e1, I x1.queues_.e2.l_.e2, I x1.queues_.e2.l_.e3]], .agg [I x1.queues_.e3.many_, .agg [I x1.queues_.e3.l_.e0, I x1.queues_.e3.l_.e1, I x1.queues_.e3.l_.e2, I x1.queues_.e3.l_.e3]]]])] fun st0 h0 => ⟨rfl, h0⟩) fun st1 h1 => K5 h1 ?_
              obtain ⟨yr1, h10, hf4⟩ := zn hf4
              let Z5 : List HO := [Hn (⟨rfl, rfl, _, rfl⟩ : T.own (.box (.atom yv)) = T.own (.box (.atom yv)) ∧ some yv = some yv ∧ ∃ x, T.own (.opq (YY sg6).q) = T.own x), Hn (z0s (yv := yv) (Y := YY) (enc := (fun (x : zc × za) (_ : Bool) (_ : Value) => [xK x.1, yG x.2])) (s := sg6) (x := ((zc.mk x16 x23 x59 x69), (za.mk arr1 x1.queues_))) (s' := yr1.1) (b := yr1.2) (v := .nilFunc) [xK (zc.mk x16 x23 x59 x69), yG (za.mk arr1 x1.queues_)] (show Kb [xK (zc.mk x16 x23 x59 x69), yG (za.mk arr1 x1.queues_)] [xK (zc.mk x16 x23 x59 x69), yG (za.mk arr1 x1.queues_)] from inferInstance))]
              rcases yc hf4 with ⟨c10, hf4⟩ | ⟨c10, hf4⟩
              ·obtain rfl := zl hf4
               exact yF ((QU (P := Tryz.prog) xQ hy 106 (s := sg6) (x := ((zc.mk x16 x23 x59 x69), (za.mk arr1 x1.queues_))) (s' := yr1.1) (b := yr1.2) .nilFunc h10).or ((xLy zQ 99 3 0 yv).or X0)) hC .ret (y7 x0 x1 yv YY x16 r_ x23 x24 Channel_e x59 r_3 yr1.1) (Z5 ++ [Hq c10]) fun st0 h0 => ⟨rfl, _, h0, LeL.refl _⟩
              ·obtain rfl := zl hf4
               exact yF ((QU (P := Tryz.prog) xQ hy 106 (s := sg6) (x := ((zc.mk x16 x23 x59 x69), (za.mk arr1 x1.queues_))) (s' := yr1.1) (b := yr1.2) .nilFunc h10).or ((xLy zQ 99 3 0 yv).or X0)) hC .normal (y7 x0 x1 yv YY x16 r_ x23 x24 Channel_e x59 r_3 yr1.1) (Z5 ++ [Hq c10]) fun st0 h0 => ⟨rfl, _, h0, LeL.refl _⟩
          ·rcases t6 with sg6 | sg6
           ·dsimp only at hf3
            exact Yb (by kernel_rfl) (hJ5 _ [(0, .own (.opq (YY sg6).q)), (1, .d (.sptr (xR x0))), (2, .d (.sptr (yG x1))), (3, .own (.box (.atom yv))), (4, .own (.box (I x16))), (5, .own (.box (I x23))), (6, .own (.box (uV x24))), (15, .d (I ((x0.Parts.length : Nat) : Int))), (16, .d (I x16)), (22, .d (.fn 103 [.sptr (.agg [I r_.1.Messages, I r_.1.Labels, eSl 1 false (eI .i64) r_.1.Channels, eSl 3 false wG r_.1.Parts]), .sptr (I r_.2.1), .sptr (.agg [.agg [I r_.2.2.states_.e0, I r_.2.2.states_.e1, I r_.2.2.states_.e2, I r_.2.2.states_.e3], .agg [.agg [I r_.2.2.queues_.e0.many_, .agg [I r_.2.2.queues_.e0.l_.e0, I r_.2.2.queues_.e0.l_.e1, I r_.2.2.queues_.e0.l_.e2, I r_.2.2.queues_.e0.l_.e3]], .agg [I r_.2.2.queues_.e1.many_, .agg [I r_.2.2.queues_.e1.l_.e0, I r_.2.2.queues_.e1.l_.e1, I r_.2.2.queues_.e1.l_.e2, I r_.2.2.queues_.e1.l_.e3]], .agg [I r_.2.2.queues_.e2.many_, .agg [I r_.2.2.queues_.e2.l_.e0, I r_.2.2.queues_.e2.l_.e1, I r_.2.2.queues_.e2.l_.e2, I r_.2.2.queues_.e2.l_.e3]], .agg [I r_.2.2.queues_.e3.many_, .agg [I r_.2.2.queues_.e3.l_.e0, I r_.2.2.queues_.e3.l_.e1, I r_.2.2.queues_.e3.l_.e2, I r_.2.2.queues_.e3.l_.e3]]]])])), (48, .d (.sptr (eSl 1 false (eI .i64) x0.Channels))), (49, .d (eSl 1 false (eI .i64) x0.Channels)), (51, .d (I x24.Channel)), (52, .d (.sptr (I Channel_e))), (53, .d (I Channel_e)), (54, .d (B (decide (Channel_e > 0)))), (58, .d (I ((x0.Parts.length : Nat) : Int))), (59, .d (I x59))] sg6 hf3 (show Own.canon [0,1,2,3,4,5,6,15,16,22,48,49,51,52,53,54,58,59] _ = ofL _ by kernel_rfl) inferInstance)
           ·dsimp only at hf3
            show AWP _ _ (Code.ret) _ _
            obtain rfl := zl hf3
            obtain rfl := hl3
            obtain rfl := zl hf2
            exact yF X0 hC .ret (zX x0 x1 yv YY x16 r_ sg6) [] fun st0 h0 => ⟨rfl, _, h0, LeL.refl _⟩
       ·obtain rfl := zl hf3
        obtain rfl := hl3
        obtain rfl := zl hf2
        exact yF X0 hC .normal (zX x0 x1 yv YY x16 r_ sg4) [Hq c5] fun st0 h0 => ⟨rfl, _, h0, LeL.refl _⟩
   ·rcases t3 with sg3 | sg3
    ·dsimp only at hf1
     exact Yb (by kernel_rfl) (hJ2 _ [(0, .own (.opq (YY sg3).q)), (1, .d (.sptr (xR x0))), (2, .d (.sptr (yG x1))), (3, .own (.box (.atom yv))), (15, .d (I ((x0.Parts.length : Nat) : Int))), (16, .d (I x16))] sg3 hf1 (show Own.canon [0,1,2,3,15,16] _ = ofL _ by kernel_rfl) inferInstance)
    ·dsimp only at hf1
     show AWP _ _ (Code.ret) _ _
     obtain rfl := zl hf1
     obtain rfl := hl1
     obtain rfl := zl hf0
     exact yF X0 hC .ret [(0, .own (.opq (YY sg3).q))] [] fun st0 h0 => hE _ st0 (.inr rfl) h0
 ·obtain rfl := zl hf1
  obtain rfl := hl1
  obtain rfl := zl hf0
  exact yF X0 hC .normal [(0, .own (.opq (YY sg1).q))] [Hq c0] fun st0 h0 => hE _ st0 (.inl rfl) h0
def uI : Code := (Tryz.f44.body).getD .skip
def yd : yV := spF (α := List zc) (ρ := List zc) 44 (fun x => [z7R x]) (fun r => z3T r) (fun x => y6 x) [] (Ue)
theorem uQ {ctr : Ctr} (hC : zV Tryz.prog ctr) : yd.Ok Tryz.prog := by
 refine y5 ?_
 rintro s_ r0 hf0
 try unfold y6 at hf0
 refine yO true [(2, none)] uI 9 Tryz.func44 fun E hE => ?_
 obtain ⟨g0, hf0⟩ := gdE hf0
 obtain rfl := zl hf0
 exact yE X0 hC hE [Ha (lnM xK s_), Ha (lnM xK s_), Hn (slB g0), Hn (slC g0), Hn (z1P xK g0), Ha (z7G 4 xK s_ 0 ((s_.length : Nat) : Int).toNat)]
def wY : Code := (Tryz.f22.body).getD .skip
def kq : yV := spF (α := z7 × z8) (ρ := List zc × Int) 22 (fun x => [xR x.1, kg x.2]) (fun r => .tup [z3T r.1, (eI .i64) r.2]) (fun x => jv x.1 x.2) [] (VS)
abbrev Ww (out : List zc) : List (Nat × T) := [(7, .own (.box (eOs 4 false xK out)))]
abbrev Zm (r_3 : z7 × za) (out1 : List zc) : List (Nat × T) := [(7, .own (.box (eOs 4 false xK out1))), (18, .d (.fn 82 [.sptr (.agg [I r_3.1.Messages, I r_3.1.Labels, eSl 1 false (eI .i64) r_3.1.Channels, eSl 3 false wG r_3.1.Parts]), .sptr (.agg [.agg [I r_3.2.states_.e0, I r_3.2.states_.e1, I r_3.2.states_.e2, I r_3.2.states_.e3], .agg [.agg [I r_3.2.queues_.e0.many_, .agg [I r_3.2.queues_.e0.l_.e0, I r_3.2.queues_.e0.l_.e1, I r_3.2.queues_.e0.l_.e2, I r_3.2.queues_.e0.l_.e3]], .agg [I r_3.2.queues_.e1.many_, .agg [I r_3.2.queues_.e1.l_.e0, I r_3.2.queues_.e1.l_.e1, I r_3.2.queues_.e1.l_.e2, I r_3.2.queues_.e1.l_.e3]], .agg [I r_3.2.queues_.e2.many_, .agg [I r_3.2.queues_.e2.l_.e0, I r_3.2.queues_.e2.l_.e1, I r_3.2.queues_.e2.l_.e2, I r_3.2.queues_.e2.l_.e3]], .agg [I r_3.2.queues_.e3.many_, .agg [I r_3.2.queues_.e3.l_.e0, I r_3.2.queues_.e3.l_.e1, I r_3.2.queues_.e3.l_.e2, I r_3.2.queues_.e3.l_.e3]]]])]))]
theorem UL {ctr : Ctr} (hC : zV Tryz.prog ctr) (h0n : ctr.Has wP) (h0o : ctr.Has qJ) (h0c : ctr.Has xL) (h04 : ctr.Has xo) (h07 : ctr.Has xm) (h08 : ctr.Has j5) (h0d : ctr.Has yd) : kq.Ok Tryz.prog := by
 refine y5 ?_
 rintro ⟨x_, c_⟩ r0 hf0
 try unfold jv at hf0
 refine yO false [(4, none), (5, none)] wY 27 Tryz.func22 fun E hE => ?_
 obtain ⟨r_, h0, hf0⟩ := zn hf0
 let Z0 : List HO := [Hc h0n (x := (x_, c_)) h0 (loC xR x_ <| loC kg c_ <| loN)]
 rcases yc hf0 with ⟨c0, hf0⟩ | ⟨c0, hf0⟩
 ·obtain rfl := zl hf0
  exact yEx X0 hC hE (Z0 ++ [Hq c0, Hm (shM xK xK [])]) (.tup [eSl 4 true xK [], I r_]) (show LeV (.tup [eSl 4 true xK [], I r_]) (.tup [eSl 4 true xK ([] : List zc), I r_]) from inferInstance)
 ·refine yJ X0 hC wY [1,1,1] [] [7] (fun z : List zc => up z = some r0) (fun z => Ww z) [(2, .own (.box (xR x_))), (3, .own (.box (kg c_))), (7, .own (.box (eOs 4 true xK [])))] (Z0 ++ [Hq c0, Hh (.cut 1)]) ?_ fun J1 hJ1 => ?_
  ·rintro out hf0
   unfold up at hf0
   obtain ⟨r_1, h1, hf0⟩ := zn hf0
   obtain rfl := zl hf0
   exact yE X0 hC hE [Hg (z05 h0d), Hm (shM xK xK out), Hs (z06 h0d (x := out) h1 (loC z7R out <| loN)), Hm (shM xK xK out)]
  ·obtain ⟨r_2, h2, hf0⟩ := zn hf0
   obtain ⟨r_3, h3, hf0⟩ := zn hf0
   obtain ⟨t2, ht2, hf0⟩ := zn hf0
   refine yAt X0 hC (sub [1,1,1,2,1,0] wY) (frs [1,1,1,2,1,0] [J1] wY []) [(7, .own (.box (eOs 4 true xK []))), (18, .d (.fn 82 [.sptr (.agg [I r_3.1.Messages, I r_3.1.Labels, eSl 1 false (eI .i64) r_3.1.Channels, eSl 3 false wG r_3.1.Parts]), .sptr (.agg [.agg [I r_3.2.states_.e0, I r_3.2.states_.e1, I r_3.2.states_.e2, I r_3.2.states_.e3], .agg [.agg [I r_3.2.queues_.e0.many_, .agg [I r_3.2.queues_.e0.l_.e0, I r_3.2.queues_.e0.l_.e1, I r_3.2.queues_.e0.l_.e2, I r_3.2.queues_.e0.l_.e3]], .agg [I r_3.2.queues_.e1.many_, .agg [I r_3.2.queues_.e1.l_.e0, I r_3.2.queues_.e1.l_.e1, I r_3.2.queues_.e1.l_.e2, I r_3.2.queues_.e1.l_.e3]], .agg [I r_3.2.queues_.e2.many_, .agg [I r_3.2.queues_.e2.l_.e0, I r_3.2.queues_.e2.l_.e1, I r_3.2.queues_.e2.l_.e2, I r_3.2.queues_.e2.l_.e3]], .agg [I r_3.2.queues_.e3.many_, .agg [I r_3.2.queues_.e3.l_.e0, I r_3.2.queues_.e3.l_.e1, I r_3.2.queues_.e3.l_.e2, I r_3.2.queues_.e3.l_.e3]]]])]))] [Hc h0o (x := c_) h2 (loC kg c_ <| loN), Hc h0c (x := (x_, r_2)) h3 (loC xR x_ <| loC yG r_2 <| loN)] fun st0 h0 => ?_
   refine QE (g := .tmp 18) (ps := [19,20]) (assign := (sub [1,1,1,2,1,0,0] wY)) (body := (sub [1,1,1,2,1,0,1] wY)) (K := 82) (caps := [.sptr (.agg [I r_3.1.Messages, I r_3.1.Labels, eSl 1 false (eI .i64) r_3.1.Channels, eSl 3 false wG r_3.1.Parts]), .sptr (.agg [.agg [I r_3.2.states_.e0, I r_3.2.states_.e1, I r_3.2.states_.e2, I r_3.2.states_.e3], .agg [.agg [I r_3.2.queues_.e0.many_, .agg [I r_3.2.queues_.e0.l_.e0, I r_3.2.queues_.e0.l_.e1, I r_3.2.queues_.e0.l_.e2, I r_3.2.queues_.e0.l_.e3]], .agg [I r_3.2.queues_.e1.many_, .agg [I r_3.2.queues_.e1.l_.e0, I r_3.2.queues_.e1.l_.e1, I r_3.2.queues_.e1.l_.e2, I r_3.2.queues_.e1.l_.e3]], .agg [I r_3.2.queues_.e2.many_, .agg [I r_3.2.queues_.e2.l_.e0, I r_3.2.queues_.e2.l_.e1, I r_3.2.queues_.e2.l_.e2, I r_3.2.queues_.e2.l_.e3]], .agg [I r_3.2.queues_.e3.many_, .agg [I r_3.2.queues_.e3.l_.e0, I r_3.2.queues_.e3.l_.e1, I r_3.2.queues_.e3.l_.e2, I r_3.2.queues_.e3.l_.e3]]]])]) (by kernel_rfl) [7,18] (fun s => Zm r_3 s) (fun z => nomatch z) (fun z => nomatch z) ((fun (x : zc × za) (_ : Bool) (_ : Value) => [xK x.1, yG x.2])) (F := @y4 r_3.1 r_3.2) (fun s x => ww s x.1 x.2) ([] : List zc) t2 _ h0 inferInstance (by kernel_rfl) (by decide) (fun _ => rfl) (by rintro ⟨⟩) (by kernel_rfl) (fun _ _ _ => rfl) (vH hC h04 h07 h08 r_3.1 r_3.2) ht2 ?_ ?_
   ·rintro tv2 out1 ⟨x19, x20⟩ vr lr1 hf1
    replace hf1 : ww out1 x19 x20 = some lr1 := hf1
    unfold ww at hf1
    refine yF X0 hC .normal [(7, .own (.box (eOs 4 false xK out1))), (8, .own (.box (xK x19))), (18, .d (.fn 82 [.sptr (.agg [I r_3.1.Messages, I r_3.1.Labels, eSl 1 false (eI .i64) r_3.1.Channels, eSl 3 false wG r_3.1.Parts]), .sptr (.agg [.agg [I r_3.2.states_.e0, I r_3.2.states_.e1, I r_3.2.states_.e2, I r_3.2.states_.e3], .agg [.agg [I r_3.2.queues_.e0.many_, .agg [I r_3.2.queues_.e0.l_.e0, I r_3.2.queues_.e0.l_.e1, I r_3.2.queues_.e0.l_.e2, I r_3.2.queues_.e0.l_.e3]], .agg [I r_3.2.queues_.e1.many_, .agg [I r_3.2.queues_.e1.l_.e0, I r_3.2.queues_.e1.l_.e1, I r_3.2.queues_.e1.l_.e2, I r_3.2.queues_.e1.l_.e3]], .agg [I r_3.2.queues_.e2.many_, .agg [I r_3.2.queues_.e2.l_.e0, I r_3.2.queues_.e2.l_.e1, I r_3.2.queues_.e2.l_.e2, I r_3.2.queues_.e2.l_.e3]], .agg [I r_3.2.queues_.e3.many_, .agg [I r_3.2.queues_.e3.l_.e0, I r_3.2.queues_.e3.l_.e1, I r_3.2.queues_.e3.l_.e2, I r_3.2.queues_.e3.l_.e3]]]])]))] [] fun st0 h0 => ⟨rfl, K5 h0 ?_⟩
    obtain ⟨g0, hf1⟩ := gdE hf1
    obtain rfl := zl hf1
    exact yF X0 hC .normal (Zm r_3 (out1 ++ ([x19] : List zc))) [Hq (dM xK ([x19] : List zc)), Hn (dM xK ([x19] : List zc)), Hn (aL xK xK g0), Hl (aM xK out1 ([x19] : List zc))] fun st0 h0 => ⟨rfl, _, h0, LeL.refl _⟩
   ·rcases t2 with out1 | z
    ·dsimp only at hf0
     exact Yb (by kernel_rfl) (hJ1 _ [(7, .own (.box (eOs 4 false xK out1)))] out1 hf0 (show Own.canon [7] _ = ofL _ by kernel_rfl) inferInstance)
    ·cases z
def K3 : Code := (Tryz.f37.body).getD .skip
def Yi : yV := spF (α := Int × List ze) (ρ := z7) 37 (fun x => [(eI .i64) x.1, z1H x.2]) (fun r => z5W r) (fun x => Y7 x.1 x.2) [] (VS)
def z0k : XH Tryz.prog := ((zaB zQ (.inl 13) [10,12]).or X0)
theorem Kk {ctr : Ctr} (hC : zV Tryz.prog ctr) : Yi.Ok Tryz.prog := by
 refine y5 ?_
 rintro ⟨capacity, arcs⟩ r0 hf0
 try unfold Y7 at hf0
 refine yO false [(4, some 29)] K3 15 Tryz.func37 fun E hE => ?_
 obtain rfl := zl hf0
 exact yE z0k hC hE [Hm (shM uV uV ([(ze.mk 0 1 0 0 1), (ze.mk 1 0 0 0 0)])), Hm (shM (eI .i64) (eI .i64) []), Hm (shM (eI .i64) (eI .i64) []), Hm (shM (eI .i64) (eI .i64) ([capacity])), Hm (shM z7P z7P ([(zh.mk 2 ([(ze.mk 0 1 0 0 1), (ze.mk 1 0 0 0 0)]) []), (zh.mk 1 arcs [])]))]
def uH : Code := (Tryz.f71.body).getD .skip
def yX : yV := spF (α := List z6) (ρ := List z6) 71 (fun x => [Xx x]) (fun r => wr r) (fun x => xl x) [] (Ue)
theorem uP {ctr : Ctr} (hC : zV Tryz.prog ctr) : yX.Ok Tryz.prog := by
 refine y5 ?_
 rintro s_ r0 hf0
 try unfold xl at hf0
 refine yO true [(2, none)] uH 9 Tryz.func71 fun E hE => ?_
 obtain ⟨g0, hf0⟩ := gdE hf0
 obtain rfl := zl hf0
 exact yE X0 hC hE [Ha (lnM jZ s_), Ha (lnM jZ s_), Hn (slB g0), Hn (slC g0), Hn (z1P jZ g0), Ha (z7G 5 jZ s_ 0 ((s_.length : Nat) : Int).toNat)]
def vV : Code := (Tryz.f72.body).getD .skip
def zM : yV := spR (α := List (List z6)) (ρ := List (List z6)) 72 (fun x => [(eOs 1 false wr) x]) (fun r => (eOs 1 true wr) r) (fun x => yb x) [true] (Ue)
theorem vQ : ∀ x r, (fun x => yb x) x = some r → (Ug.add zM).run 72 ((Ug.add zM).norm 72 ((fun x => [(eOs 1 false wr) x]) x)) = some ((fun r => (eOs 1 true wr) r) r) := fun x r h => ze5 h rfl
theorem vR : (Ug.add zM).lend 72 = none ∧ (Ug.add zM).gives 72 = [true] := zbc
theorem vX {ctr : Ctr} (hC : zV Tryz.prog ctr) : zM.Ok Tryz.prog := by
 refine z8m ?_
 rintro s_ r0 hf0
 try unfold yb at hf0
 refine yO true [(2, none)] vV 9 Tryz.func72 fun E hE => ?_
 obtain rfl := zl hf0
 exact yE ((xCl zQ 8).or X0) hC hE [Ha (lnM wr s_), Ha (lnM wr s_), Hn (Int.natCast_nonneg _ : (0 : Int) ≤ ((s_.length : Nat) : Int)), Hn (Int.natCast_nonneg _ : (0 : Int) ≤ ((s_.length : Nat) : Int)), Hn (clB wr s_), Ha (clE 1 wr s_)]
def zY : Code := (Tryz.f41.body).getD .skip
def xM : yV := spF (α := z7) (ρ := List za × List (List z6) × Int) 41 (fun x => [xR x]) (fun r => .tup [(eSl 24 false yG) r.1, z0X r.2.1, (eI .i64) r.2.2]) (fun x => wC x) [] (Ue)
abbrev Zz (x4 : Int) (list : List za) (steps : List (List z6)) : List (Nat × T) := [(2, .own (.box (eOs 24 true yG []))), (3, .own (.box (eOs 1 true Xx []))), (4, .own (.box (I x4))), (5, .own (.box (eOs 24 false yG list))), (7, .own (eOs 1 false wr steps))]
abbrev Zy (x_ : z7) (i_ : Int) (x42 : Int) (list2 : List za) (at_1 : List (za × Int)) (steps2 : List (List z6)) : List (Nat × T) := [(1, .own (.box (xR x_))), (2, .own (.box (eOs 24 true yG []))), (3, .own (.box (eOs 1 true Xx []))), (4, .own (.box (I x42))), (5, .own (.box (eOs 24 false yG list2))), (6, .own (.box (.opq (Yr (ZU yG (eI .i64) at_1))))), (7, .own (eOs 1 false wr steps2)), (8, .d (I i_))]
abbrev Zx (x_ : z7) (steps1 : List (List z6)) (i_ : Int) (x43 : Int) (list3 : List za) (at_2 : List (za × Int)) (l_ : List z6) : List (Nat × T) := [(1, .own (.box (xR x_))), (2, .own (.box (eOs 24 true yG []))), (3, .own (.box (eOs 1 true Xx []))), (4, .own (.box (I x43))), (5, .own (.box (eOs 24 false yG list3))), (6, .own (.box (.opq (Yr (ZU yG (eI .i64) at_2))))), (7, .own (eOs 1 false wr steps1)), (8, .d (I i_)), (9, .own (.box (eOs 5 false jZ l_)))]
abbrev xX (x_ : z7) (steps1 : List (List z6)) (i_ : Int) (r_2 : z7 × za) (x44 : Int) (list4 : List za) (at_3 : List (za × Int)) (l_1 : List z6) : List (Nat × T) := [(1, .own (.box (xR x_))), (2, .own (.box (eOs 24 true yG []))), (3, .own (.box (eOs 1 true Xx []))), (4, .own (.box (I x44))), (5, .own (.box (eOs 24 false yG list4))), (6, .own (.box (.opq (Yr (ZU yG (eI .i64) at_3))))), (7, .own (eOs 1 false wr steps1)), (8, .d (I i_)), (9, .own (.box (eOs 5 false jZ l_1))), (30, .d (.fn 82 [.sptr (.agg [I r_2.1.Messages, I r_2.1.Labels, eSl 1 false (eI .i64) r_2.1.Channels, eSl 3 false wG r_2.1.Parts]), .sptr (.agg [.agg [I r_2.2.states_.e0, I r_2.2.states_.e1, I r_2.2.states_.e2, I r_2.2.states_.e3], .agg [.agg [I r_2.2.queues_.e0.many_, .agg [I r_2.2.queues_.e0.l_.e0, I r_2.2.queues_.e0.l_.e1, I r_2.2.queues_.e0.l_.e2, I r_2.2.queues_.e0.l_.e3]], .agg [I r_2.2.queues_.e1.many_, .agg [I r_2.2.queues_.e1.l_.e0, I r_2.2.queues_.e1.l_.e1, I r_2.2.queues_.e1.l_.e2, I r_2.2.queues_.e1.l_.e3]], .agg [I r_2.2.queues_.e2.many_, .agg [I r_2.2.queues_.e2.l_.e0, I r_2.2.queues_.e2.l_.e1, I r_2.2.queues_.e2.l_.e2, I r_2.2.queues_.e2.l_.e3]], .agg [I r_2.2.queues_.e3.many_, .agg [I r_2.2.queues_.e3.l_.e0, I r_2.2.queues_.e3.l_.e1, I r_2.2.queues_.e3.l_.e2, I r_2.2.queues_.e3.l_.e3]]]])]))]
abbrev Zw (x_ : z7) (steps1 : List (List z6)) (i_ : Int) (r_2 : z7 × za) (x44 : Int) (l_1 : List z6) (x31 : zc) (list5 : List za) (at_4 : List (za × Int)) (n_ : Int) : List (Nat × T) := [(1, .own (.box (xR x_))), (2, .own (.box (eOs 24 true yG []))), (3, .own (.box (eOs 1 true Xx []))), (4, .own (.box (I x44))), (5, .own (.box (eOs 24 false yG list5))), (6, .own (.box (.opq (Yr (ZU yG (eI .i64) at_4))))), (7, .own (eOs 1 false wr steps1)), (8, .d (I i_)), (9, .own (.box (eOs 5 false jZ l_1))), (10, .own (.box (xK x31))), (12, .d (I n_)), (30, .d (.fn 82 [.sptr (.agg [I r_2.1.Messages, I r_2.1.Labels, eSl 1 false (eI .i64) r_2.1.Channels, eSl 3 false wG r_2.1.Parts]), .sptr (.agg [.agg [I r_2.2.states_.e0, I r_2.2.states_.e1, I r_2.2.states_.e2, I r_2.2.states_.e3], .agg [.agg [I r_2.2.queues_.e0.many_, .agg [I r_2.2.queues_.e0.l_.e0, I r_2.2.queues_.e0.l_.e1, I r_2.2.queues_.e0.l_.e2, I r_2.2.queues_.e0.l_.e3]], .agg [I r_2.2.queues_.e1.many_, .agg [I r_2.2.queues_.e1.l_.e0, I r_2.2.queues_.e1.l_.e1, I r_2.2.queues_.e1.l_.e2, I r_2.2.queues_.e1.l_.e3]], .agg [I r_2.2.queues_.e2.many_, .agg [I r_2.2.queues_.e2.l_.e0, I r_2.2.queues_.e2.l_.e1, I r_2.2.queues_.e2.l_.e2, I r_2.2.queues_.e2.l_.e3]], .agg [I r_2.2.queues_.e3.many_, .agg [I r_2.2.queues_.e3.l_.e0, I r_2.2.queues_.e3.l_.e1, I r_2.2.queues_.e3.l_.e2, I r_2.2.queues_.e3.l_.e3]]]])]))]
abbrev Zv (x_ : z7) (x41 : Int) (list1 : List za) (at_ : List (za × Int)) (steps1 : List (List z6)) (i_ : Int) : List (Nat × T) := [(1, .own (.box (xR x_))), (2, .own (.box (eOs 24 true yG []))), (3, .own (.box (eOs 1 true Xx []))), (4, .own (.box (I x41))), (5, .own (.box (eOs 24 false yG list1))), (6, .own (.box (.opq (Yr (ZU yG (eI .i64) at_))))), (7, .own (eOs 1 false wr steps1)), (8, .d (I i_))]
theorem YS {ctr : Ctr} (hC : zV Tryz.prog ctr) (h0c : ctr.Has xL) (h04 : ctr.Has xo) (h07 : ctr.Has xm) (h08 : ctr.Has j5) (h0r : ctr.Has yX) : xM.Ok Tryz.prog := by
 refine y5 ?_
 rintro x_ r0 hf0
 try unfold wC at hf0
 refine yO false [(2, some 103), (3, some 32), (4, some 40)] zY 66 Tryz.func41 fun E hE => ?_
 refine yJ ((zdp z2U 16 (ZU yG (eI .i64) ([] : List (za × Int))) (ZU yG (eI .i64) (z27 ([] : List (za × Int)) (za.mk (zC.mk 0 0 0 0) (zC.mk (zf.mk 0 (zC.mk 0 0 0 0)) (zf.mk 0 (zC.mk 0 0 0 0)) (zf.mk 0 (zC.mk 0 0 0 0)) (zf.mk 0 (zC.mk 0 0 0 0)))) 0))).or ((zaC Tryz.prog 16).or X0)) hC zY [1,1,1] [] [2,3,4,5,7] (fun z : Int × List za × List (List z6) => ub z.1 z.2.1 z.2.2 = some r0) (fun z => Zz z.1 z.2.1 z.2.2) [(1, .own (.box (xR x_))), (2, .own (.box (eOs 24 true yG []))), (3, .own (.box (eOs 1 true Xx []))), (4, .own (.box (I 0))), (5, .own (.box (eOs 24 true yG ([(za.mk (zC.mk 0 0 0 0) (zC.mk (zf.mk 0 (zC.mk 0 0 0 0)) (zf.mk 0 (zC.mk 0 0 0 0)) (zf.mk 0 (zC.mk 0 0 0 0)) (zf.mk 0 (zC.mk 0 0 0 0))))])))), (6, .own (.box (.opq (Yr (ZU yG (eI .i64) (z27 ([] : List (za × Int)) (za.mk (zC.mk 0 0 0 0) (zC.mk (zf.mk 0 (zC.mk 0 0 0 0)) (zf.mk 0 (zC.mk 0 0 0 0)) (zf.mk 0 (zC.mk 0 0 0 0)) (zf.mk 0 (zC.mk 0 0 0 0)))) 0)))))), (7, .own (eOs 1 true Xx []))] [Hn (⟨rfl, rfl, rfl, rfl, z3j (fun _ => rfl) ([] : List (za × Int))⟩ : T.own (.opq (Yr (ZU yG (eI .i64) ([] : List (za × Int))))) = T.own (.opq (Yr (ZU yG (eI .i64) ([] : List (za × Int))))) ∧ 1 = 1 ∧ (Ql [.i64, .i64, .i64, .i64, .i64, .i64, .i64, .i64, .i64, .i64, .i64, .i64, .i64, .i64, .i64, .i64, .i64, .i64, .i64, .i64, .i64, .i64, .i64, .i64]) (yG (za.mk (zC.mk 0 0 0 0) (zC.mk (zf.mk 0 (zC.mk 0 0 0 0)) (zf.mk 0 (zC.mk 0 0 0 0)) (zf.mk 0 (zC.mk 0 0 0 0)) (zf.mk 0 (zC.mk 0 0 0 0))))) = true ∧ ((eI .i64) 0).isD = true ∧ ∀ p ∈ ZU yG (eI .i64) ([] : List (za × Int)), (Ql [.i64, .i64, .i64, .i64, .i64, .i64, .i64, .i64, .i64, .i64, .i64, .i64, .i64, .i64, .i64, .i64, .i64, .i64, .i64, .i64, .i64, .i64, .i64, .i64]) p.1 = true), Hn (z2D (f := yG) (g := (eI .i64)) (za.mk (zC.mk 0 0 0 0) (zC.mk (zf.mk 0 (zC.mk 0 0 0 0)) (zf.mk 0 (zC.mk 0 0 0 0)) (zf.mk 0 (zC.mk 0 0 0 0)) (zf.mk 0 (zC.mk 0 0 0 0)))) 0 ([] : List (za × Int))), Hh (.cut 3)] ?_ fun J1 hJ1 => ?_
 ·rintro ⟨x4, list, steps⟩ hf0
  unfold ub at hf0
  obtain ⟨r_, h0, hf0⟩ := zn hf0
  obtain rfl := zl hf0
  exact yE ((QI zQ (vX hC) 65).or X0) hC hE [Hh (.g [true]), Hn vR, Hx (.a ((eOs 1 true wr) r_)) (vQ steps _ h0), Hm (shM yG yG list), Hm (shM wr wr r_)]
 ·obtain ⟨t2, ht2, hf0⟩ := zn hf0
  refine yLx X0 hC zY [1,1,1,2,1,0] [J1] (fun s => u7 x_ s.1 s.2.1 s.2.2.1 s.2.2.2.1 s.2.2.2.2) (fun x => Zv x_ x.1 x.2.1 x.2.2.1 x.2.2.2.1 x.2.2.2.2) (0, ([(za.mk (zC.mk 0 0 0 0) (zC.mk (zf.mk 0 (zC.mk 0 0 0 0)) (zf.mk 0 (zC.mk 0 0 0 0)) (zf.mk 0 (zC.mk 0 0 0 0)) (zf.mk 0 (zC.mk 0 0 0 0))))] : List za), (z27 ([] : List (za × Int)) (za.mk (zC.mk 0 0 0 0) (zC.mk (zf.mk 0 (zC.mk 0 0 0 0)) (zf.mk 0 (zC.mk 0 0 0 0)) (zf.mk 0 (zC.mk 0 0 0 0)) (zf.mk 0 (zC.mk 0 0 0 0)))) 0), ([] : List (List z6)), 0) ht2 [(1, .own (.box (xR x_))), (2, .own (.box (eOs 24 true yG []))), (3, .own (.box (eOs 1 true Xx []))), (4, .own (.box (I 0))), (5, .own (.box (eOs 24 true yG ([(za.mk (zC.mk 0 0 0 0) (zC.mk (zf.mk 0 (zC.mk 0 0 0 0)) (zf.mk 0 (zC.mk 0 0 0 0)) (zf.mk 0 (zC.mk 0 0 0 0)) (zf.mk 0 (zC.mk 0 0 0 0))))])))), (6, .own (.box (.opq (Yr (ZU yG (eI .i64) (z27 ([] : List (za × Int)) (za.mk (zC.mk 0 0 0 0) (zC.mk (zf.mk 0 (zC.mk 0 0 0 0)) (zf.mk 0 (zC.mk 0 0 0 0)) (zf.mk 0 (zC.mk 0 0 0 0)) (zf.mk 0 (zC.mk 0 0 0 0)))) 0)))))), (7, .own (eOs 1 true wr [])), (8, .d (I 0))] inferInstance [] ?_
  rintro ⟨x41, list1, at_, steps1, i_⟩ m2 lr1 hf1 hl1 J2 hJ2
  try unfold u7 at hf1
  let Z0 : List HO := [Ha (lnM yG list1)]
  rcases yc hf1 with ⟨c0, hf1⟩ | ⟨c0, hf1⟩
  ·refine yJ X0 hC zY [1,1,1,2,1,0,0,1] [J1, J2] [1,2,3,4,5,6,7,8] (fun z : Int × List za × (List (za × Int)) × List (List z6) => ua i_ z.1 z.2.1 z.2.2.1 z.2.2.2 = some lr1) (fun z => Zy x_ i_ z.1 z.2.1 z.2.2.1 z.2.2.2) [(1, .own (.box (xR x_))), (2, .own (.box (eOs 24 true yG []))), (3, .own (.box (eOs 1 true Xx []))), (4, .own (.box (I x41))), (5, .own (.box (eOs 24 false yG list1))), (6, .own (.box (.opq (Yr (ZU yG (eI .i64) at_))))), (7, .own (eOs 1 false wr steps1)), (8, .d (I i_))] (Z0 ++ [Hq c0, Hh (.cut 0)]) ?_ fun J3 hJ3 => ?_
   ·rintro ⟨x42, list2, at_1, steps2⟩ hf1
    unfold ua at hf1
    obtain rfl := zl hf1
    exact yB X0 hC hJ2 (x42, list2, at_1, steps2, w64 (i_ + 1)) hl1 []
   ·refine yJ X0 hC zY [1,1,1,2,1,0,0,1,2,0,1] [J1, J2, J3] [1,2,3,4,5,6,7,8,9] (fun z : Int × List za × (List (za × Int)) × List z6 => u9 steps1 i_ z.1 z.2.1 z.2.2.1 z.2.2.2 = some lr1) (fun z => Zx x_ steps1 i_ z.1 z.2.1 z.2.2.1 z.2.2.2) [(1, .own (.box (xR x_))), (2, .own (.box (eOs 24 true yG []))), (3, .own (.box (eOs 1 true Xx []))), (4, .own (.box (I x41))), (5, .own (.box (eOs 24 false yG list1))), (6, .own (.box (.opq (Yr (ZU yG (eI .i64) at_))))), (7, .own (eOs 1 false wr steps1)), (8, .d (I i_)), (9, .own (.box (eOs 5 true jZ [])))] [Hh (.cut 1)] ?_ fun J4 hJ4 => ?_
    ·rintro ⟨x43, list3, at_2, l_⟩ hf1
     unfold u9 at hf1
     obtain ⟨r_1, h1, hf1⟩ := zn hf1
     obtain ⟨g0, hf1⟩ := gdE hf1
     exact yB X0 hC hJ3 (x43, list3, at_2, (steps1 ++ ([r_1] : List (List z6)))) hf1 [Hg (z05 h0r), Hm (shM jZ jZ l_), Hs (z06 h0r (x := l_) h1 (loC Xx l_ <| loN)), Hm (shM jZ jZ l_), Hq (dM wr ([r_1] : List (List z6))), Hn (dM wr ([r_1] : List (List z6))), Hn (aL wr wr g0), Hl (aM wr steps1 ([r_1] : List (List z6)))]
    ·obtain ⟨list_e, h2, hf1⟩ := zn hf1
     obtain ⟨r_2, h3, hf1⟩ := zn hf1
     obtain ⟨t5, ht5, hf1⟩ := zn hf1
     refine yAt X0 hC (sub [1,1,1,2,1,0,0,1,2,0,1,2,1,0] zY) (frs [1,1,1,2,1,0,0,1,2,0,1,2,1,0] [J1, J2, J3, J4] zY []) [(1, .own (.box (xR x_))), (2, .own (.box (eOs 24 true yG []))), (3, .own (.box (eOs 1 true Xx []))), (4, .own (.box (I x41))), (5, .own (.box (eOs 24 false yG list1))), (6, .own (.box (.opq (Yr (ZU yG (eI .i64) at_))))), (7, .own (eOs 1 false wr steps1)), (8, .d (I i_)), (9, .own (.box (eOs 5 true jZ []))), (30, .d (.fn 82 [.sptr (.agg [I r_2.1.Messages, I r_2.1.Labels, eSl 1 false (eI .i64) r_2.1.Channels, eSl 3 false wG r_2.1.Parts]), .sptr (.agg [.agg [I r_2.2.states_.e0, I r_2.2.states_.e1, I r_2.2.states_.e2, I r_2.2.states_.e3], .agg [.agg [I r_2.2.queues_.e0.many_, .agg [I r_2.2.queues_.e0.l_.e0, I r_2.2.queues_.e0.l_.e1, I r_2.2.queues_.e0.l_.e2, I r_2.2.queues_.e0.l_.e3]], .agg [I r_2.2.queues_.e1.many_, .agg [I r_2.2.queues_.e1.l_.e0, I r_2.2.queues_.e1.l_.e1, I r_2.2.queues_.e1.l_.e2, I r_2.2.queues_.e1.l_.e3]], .agg [I r_2.2.queues_.e2.many_, .agg [I r_2.2.queues_.e2.l_.e0, I r_2.2.queues_.e2.l_.e1, I r_2.2.queues_.e2.l_.e2, I r_2.2.queues_.e2.l_.e3]], .agg [I r_2.2.queues_.e3.many_, .agg [I r_2.2.queues_.e3.l_.e0, I r_2.2.queues_.e3.l_.e1, I r_2.2.queues_.e3.l_.e2, I r_2.2.queues_.e3.l_.e3]]]])]))] [Hn (iL yG h2), Hs (iM yG h2), Hc h0c (x := (x_, list_e)) h3 (loC xR x_ <| loC yG list_e <| loN)] fun st0 h0 => ?_
     refine QE (g := .tmp 30) (ps := [31,32]) (assign := (sub [1,1,1,2,1,0,0,1,2,0,1,2,1,0,0] zY)) (body := (sub [1,1,1,2,1,0,0,1,2,0,1,2,1,0,1] zY)) (K := 82) (caps := [.sptr (.agg [I r_2.1.Messages, I r_2.1.Labels, eSl 1 false (eI .i64) r_2.1.Channels, eSl 3 false wG r_2.1.Parts]), .sptr (.agg [.agg [I r_2.2.states_.e0, I r_2.2.states_.e1, I r_2.2.states_.e2, I r_2.2.states_.e3], .agg [.agg [I r_2.2.queues_.e0.many_, .agg [I r_2.2.queues_.e0.l_.e0, I r_2.2.queues_.e0.l_.e1, I r_2.2.queues_.e0.l_.e2, I r_2.2.queues_.e0.l_.e3]], .agg [I r_2.2.queues_.e1.many_, .agg [I r_2.2.queues_.e1.l_.e0, I r_2.2.queues_.e1.l_.e1, I r_2.2.queues_.e1.l_.e2, I r_2.2.queues_.e1.l_.e3]], .agg [I r_2.2.queues_.e2.many_, .agg [I r_2.2.queues_.e2.l_.e0, I r_2.2.queues_.e2.l_.e1, I r_2.2.queues_.e2.l_.e2, I r_2.2.queues_.e2.l_.e3]], .agg [I r_2.2.queues_.e3.many_, .agg [I r_2.2.queues_.e3.l_.e0, I r_2.2.queues_.e3.l_.e1, I r_2.2.queues_.e3.l_.e2, I r_2.2.queues_.e3.l_.e3]]]])]) (by kernel_rfl) [1,2,3,4,5,6,7,8,9,30] (fun s => xX x_ steps1 i_ r_2 s.1 s.2.1 s.2.2.1 s.2.2.2) (fun s => xX x_ steps1 i_ r_2 s.1 s.2.1 s.2.2.1 s.2.2.2) (fun s => Code.ret) ((fun (x : zc × za) (_ : Bool) (_ : Value) => [xK x.1, yG x.2])) (F := @y4 r_2.1 r_2.2) (fun s x => wJ s.1 s.2.1 s.2.2.1 s.2.2.2 x.1 x.2) (x41, list1, at_, ([] : List z6)) t5 _ h0 inferInstance (by kernel_rfl) (by decide) (fun _ => rfl) (fun _ => rfl) (by kernel_rfl) (fun _ _ _ => rfl) (vH hC h04 h07 h08 r_2.1 r_2.2) ht5 ?_ ?_
     ·rintro tv5 ⟨x44, list4, at_3, l_1⟩ ⟨x31, x32⟩ vr lr2 hf2
      replace hf2 : wJ x44 list4 at_3 l_1 x31 x32 = some lr2 := hf2
      unfold wJ at hf2
      refine yF X0 hC .normal [(1, .own (.box (xR x_))), (2, .own (.box (eOs 24 true yG []))), (3, .own (.box (eOs 1 true Xx []))), (4, .own (.box (I x44))), (5, .own (.box (eOs 24 false yG list4))), (6, .own (.box (.opq (Yr (ZU yG (eI .i64) at_3))))), (7, .own (eOs 1 false wr steps1)), (8, .d (I i_)), (9, .own (.box (eOs 5 false jZ l_1))), (10, .own (.box (xK x31))), (11, .own (.box (yG x32))), (30, .d (.fn 82 [.sptr (.agg [I r_2.1.Messages, I r_2.1.Labels, eSl 1 false (eI .i64) r_2.1.Channels, eSl 3 false wG r_2.1.Parts]), .sptr (.agg [.agg [I r_2.2.states_.e0, I r_2.2.states_.e1, I r_2.2.states_.e2, I r_2.2.states_.e3], .agg [.agg [I r_2.2.queues_.e0.many_, .agg [I r_2.2.queues_.e0.l_.e0, I r_2.2.queues_.e0.l_.e1, I r_2.2.queues_.e0.l_.e2, I r_2.2.queues_.e0.l_.e3]], .agg [I r_2.2.queues_.e1.many_, .agg [I r_2.2.queues_.e1.l_.e0, I r_2.2.queues_.e1.l_.e1, I r_2.2.queues_.e1.l_.e2, I r_2.2.queues_.e1.l_.e3]], .agg [I r_2.2.queues_.e2.many_, .agg [I r_2.2.queues_.e2.l_.e0, I r_2.2.queues_.e2.l_.e1, I r_2.2.queues_.e2.l_.e2, I r_2.2.queues_.e2.l_.e3]], .agg [I r_2.2.queues_.e3.many_, .agg [I r_2.2.queues_.e3.l_.e0, I r_2.2.queues_.e3.l_.e1, I r_2.2.queues_.e3.l_.e2, I r_2.2.queues_.e3.l_.e3]]]])]))] [] fun st0 h0 => ⟨rfl, K5 h0 ?_⟩
      obtain ⟨val, h4, hf2⟩ := zn hf2
      replace h4 := zl h4
      refine yJ ((zaD z2U 36 (ZU yG (eI .i64) at_3)).or X0) hC zY [1,1,1,2,1,0,0,1,2,0,1,2,1,0,1,0,1] [J1, J2, J3, J4] [1,2,3,4,5,6,7,8,9,10,12,30] (fun z : List za × (List (za × Int)) × Int => wI x44 l_1 x31 z.1 z.2.1 z.2.2 = some lr2) (fun z => Zw x_ steps1 i_ r_2 x44 l_1 x31 z.1 z.2.1 z.2.2) [(1, .own (.box (xR x_))), (2, .own (.box (eOs 24 true yG []))), (3, .own (.box (eOs 1 true Xx []))), (4, .own (.box (I x44))), (5, .own (.box (eOs 24 false yG list4))), (6, .own (.box (.opq (Yr (ZU yG (eI .i64) at_3))))), (7, .own (eOs 1 false wr steps1)), (8, .d (I i_)), (9, .own (.box (eOs 5 false jZ l_1))), (10, .own (.box (xK x31))), (11, .own (.box (yG x32))), (12, .d (I val)), (13, .d (B ((z28 at_3 x32).isSome))), (30, .d (.fn 82 [.sptr (.agg [I r_2.1.Messages, I r_2.1.Labels, eSl 1 false (eI .i64) r_2.1.Channels, eSl 3 false wG r_2.1.Parts]), .sptr (.agg [.agg [I r_2.2.states_.e0, I r_2.2.states_.e1, I r_2.2.states_.e2, I r_2.2.states_.e3], .agg [.agg [I r_2.2.queues_.e0.many_, .agg [I r_2.2.queues_.e0.l_.e0, I r_2.2.queues_.e0.l_.e1, I r_2.2.queues_.e0.l_.e2, I r_2.2.queues_.e0.l_.e3]], .agg [I r_2.2.queues_.e1.many_, .agg [I r_2.2.queues_.e1.l_.e0, I r_2.2.queues_.e1.l_.e1, I r_2.2.queues_.e1.l_.e2, I r_2.2.queues_.e1.l_.e3]], .agg [I r_2.2.queues_.e2.many_, .agg [I r_2.2.queues_.e2.l_.e0, I r_2.2.queues_.e2.l_.e1, I r_2.2.queues_.e2.l_.e2, I r_2.2.queues_.e2.l_.e3]], .agg [I r_2.2.queues_.e3.many_, .agg [I r_2.2.queues_.e3.l_.e0, I r_2.2.queues_.e3.l_.e1, I r_2.2.queues_.e3.l_.e2, I r_2.2.queues_.e3.l_.e3]]]])]))] [Hn (⟨rfl, rfl, z3j (fun _ => rfl) at_3⟩ : A.opq (Yr (ZU yG (eI .i64) at_3)) = A.opq (Yr (ZU yG (eI .i64) at_3)) ∧ (Ql [.i64, .i64, .i64, .i64, .i64, .i64, .i64, .i64, .i64, .i64, .i64, .i64, .i64, .i64, .i64, .i64, .i64, .i64, .i64, .i64, .i64, .i64, .i64, .i64]) (yG x32) = true ∧ ∀ p ∈ ZU yG (eI .i64) at_3, (Ql [.i64, .i64, .i64, .i64, .i64, .i64, .i64, .i64, .i64, .i64, .i64, .i64, .i64, .i64, .i64, .i64, .i64, .i64, .i64, .i64, .i64, .i64, .i64, .i64]) p.1 = true), Hx (.a (.tup [I val, B ((z28 at_3 x32).isSome)])) ((ze6 (f := yG) (g := (eI .i64)) (z0 := 0) (z := .atom (.int .i64 0)) rfl x32 at_3).trans (congrArg (fun x => A.tup [(eI .i64) x, .atom (.bool (z28 at_3 x32).isSome)]) h4)), Hh (.cut 0)] ?_ fun J6 hJ6 => ?_
      ·rintro ⟨list5, at_4, n_⟩ hf2
       unfold wI at hf2
       obtain ⟨g1, hf2⟩ := gdE hf2
       obtain rfl := zl hf2
       exact yF X0 hC .normal (xX x_ steps1 i_ r_2 x44 list5 at_4 (l_1 ++ ([(z6.mk x31 n_)] : List z6))) [Hq (dM jZ ([(z6.mk x31 n_)] : List z6)), Hn (dM jZ ([(z6.mk x31 n_)] : List z6)), Hn (aL jZ jZ g1), Hl (aM jZ l_1 ([(z6.mk x31 n_)] : List z6))] fun st0 h0 => ⟨rfl, _, h0, LeL.refl _⟩
      ·rcases yc hf2 with ⟨c1, hf2⟩ | ⟨c1, hf2⟩
       ·let Z1 : List HO := [Hq c1, Ha (lnM yG list4)]
        rcases yc hf2 with ⟨c2, hf2⟩ | ⟨c2, hf2⟩
        ·obtain rfl := zl hf2
         exact yF X0 hC .ret (xX x_ steps1 i_ r_2 3 list4 at_3 l_1) (Z1 ++ [Hq c2]) fun st0 h0 => ⟨rfl, _, h0, LeL.refl _⟩
        ·obtain ⟨g2, hf2⟩ := gdE hf2
         exact yB ((zaA z2U 45 (ZU yG (eI .i64) at_3) (ZU yG (eI .i64) (z27 at_3 x32 ((list4.length : Nat) : Int)))).or X0) hC hJ6 ((list4 ++ ([x32] : List za)), (z27 at_3 x32 ((list4.length : Nat) : Int)), ((list4.length : Nat) : Int)) hf2 (Z1 ++ [Hq c2, Hq (dM yG ([x32] : List za)), Hn (dM yG ([x32] : List za)), Hn (aL yG yG g2), Hl (aM yG list4 ([x32] : List za)), Hn (⟨rfl, ⟨rfl, rfl⟩, rfl, rfl, z3j (fun _ => rfl) at_3⟩ : T.own (.box (.opq (Yr (ZU yG (eI .i64) at_3)))) = T.own (.box (.opq (Yr (ZU yG (eI .i64) at_3)))) ∧ (0 = 0 ∧ 0 = 0) ∧ (Ql [.i64, .i64, .i64, .i64, .i64, .i64, .i64, .i64, .i64, .i64, .i64, .i64, .i64, .i64, .i64, .i64, .i64, .i64, .i64, .i64, .i64, .i64, .i64, .i64]) (yG x32) = true ∧ ((eI .i64) ((list4.length : Nat) : Int)).isD = true ∧ ∀ p ∈ ZU yG (eI .i64) at_3, (Ql [.i64, .i64, .i64, .i64, .i64, .i64, .i64, .i64, .i64, .i64, .i64, .i64, .i64, .i64, .i64, .i64, .i64, .i64, .i64, .i64, .i64, .i64, .i64, .i64]) p.1 = true), Hn (z2D (f := yG) (g := (eI .i64)) x32 ((list4.length : Nat) : Int) at_3)])
       ·exact yB X0 hC hJ6 (list4, at_3, val) hf2 [Hq c1]
     ·rcases t5 with ⟨x44, list4, at_3, l_1⟩ | z
      ·dsimp only at hf1
       exact Yb (by kernel_rfl) (hJ4 _ [(1, .own (.box (xR x_))), (2, .own (.box (eOs 24 true yG []))), (3, .own (.box (eOs 1 true Xx []))), (4, .own (.box (I x44))), (5, .own (.box (eOs 24 false yG list4))), (6, .own (.box (.opq (Yr (ZU yG (eI .i64) at_3))))), (7, .own (eOs 1 false wr steps1)), (8, .d (I i_)), (9, .own (.box (eOs 5 false jZ l_1)))] (x44, list4, at_3, l_1) hf1 (show Own.canon [1,2,3,4,5,6,7,8,9] _ = ofL _ by kernel_rfl) inferInstance)
      ·obtain ⟨x44, list4, at_3, l_1⟩ := z
       dsimp only at hf1
       show AWP _ _ (Code.ret) _ _
       obtain rfl := zl hf1
       obtain rfl := hl1
       obtain rfl := zl hf0
       exact yEx X0 hC hE [Hm (shM yG yG []), Hm (shM Xx Xx [])] (.tup [eSl 24 true yG [], eSl 1 true wr [], I x44]) (show LeV (.tup [eSl 24 true yG [], eSl 1 true wr [], I x44]) (.tup [eSl 24 false yG ([] : List za), eSl 1 true wr ([] : List (List z6)), I x44]) from inferInstance)
  ·obtain rfl := zl hf1
   obtain rfl := hl1
   exact yB X0 hC hJ1 (x41, list1, steps1) hf0 (Z0 ++ [Hq c0])
def YE : Code := (Tryz.f75.body).getD .skip
def ug : yV := spF (α := List Int) (ρ := List Int) 75 (fun x => [F2_ x]) (fun r => F3_ r) (fun x => xS x) [] (Ue)
theorem YU {ctr : Ctr} (hC : zV Tryz.prog ctr) : ug.Ok Tryz.prog := by
 refine y5 ?_
 rintro s_ r0 hf0
 try unfold xS at hf0
 refine yO true [(2, none)] YE 8 Tryz.func75 fun E hE => ?_
 refine z7A rfl 0 (sz := 1) (t := false) (es := s_.map (eI .i64)) (by kernel_rfl) fun pv0 hv0 hn => ?_
 rcases hn with ⟨hn0, he0⟩ | hn0
 ·obtain ⟨_, hf0⟩ := gdE hf0
  rw [show s_ = [] from List.map_eq_nil_iff.1 he0] at hf0
  obtain rfl := zl hf0
  exact yEx ((zc9 zQ 4 26 (by kernel_rfl) hn0).or ((xMv Tryz.prog 3 0 pv0 hv0).or X0)) hC hE [Hn (rfl : some pv0 = some pv0), Hn (⟨rfl, rfl⟩ : T.d (.atom pv0) = T.d (.atom pv0) ∧ T.d (.atom (.slice none 0 0)) = T.d (.atom (.slice none 0 0))), qT] (eOs 1 true (eI .i64) []) (show LeV (eOs 1 true (eI .i64) []) (eOs 1 false (eI .i64) ([] : List Int)) from inferInstance)
 ·obtain ⟨g0, hf0⟩ := gdE hf0
  obtain rfl := zl hf0
  exact yE ((zc9 zQ 4 26 (by kernel_rfl) hn0).or ((xMv Tryz.prog 3 0 pv0 hv0).or X0)) hC hE [Hn (rfl : some pv0 = some pv0), Hn (⟨rfl, rfl⟩ : T.d (.atom pv0) = T.d (.atom pv0) ∧ T.d (.atom (.slice none 0 0)) = T.d (.atom (.slice none 0 0))), qF, Hn (dM (eI .i64) s_), Hn (aL (eI .i64) (eI .i64) g0), Hl (aM0 (eI .i64) s_)]
def YX : Code := (Tryz.f74.body).getD .skip
def uB : yV := spF (α := List Int) (ρ := List Int) 74 (fun x => [F2_ x]) (fun r => F1_ r) (fun x => wd x) [] (Ue)
theorem Xc {ctr : Ctr} (hC : zV Tryz.prog ctr) : uB.Ok Tryz.prog := by
 refine y5 ?_
 rintro s_ r0 hf0
 try unfold wd at hf0
 refine yO true [(2, none)] YX 9 Tryz.func74 fun E hE => ?_
 obtain ⟨g0, hf0⟩ := gdE hf0
 obtain rfl := zl hf0
 exact yE X0 hC hE [Ha (lnM (eI .i64) s_), Ha (lnM (eI .i64) s_), Hn (slB g0), Hn (slC g0), Hn (z1P (eI .i64) g0), Ha (z7G 1 (eI .i64) s_ 0 ((s_.length : Nat) : Int).toNat)]
def vU : Code := (Tryz.f45.body).getD .skip
def xz : yV := spF (α := z7 × za) (ρ := z8) 45 (fun x => [xR x.1, yG x.2]) (fun r => Uz r) (fun x => x5 x.1 x.2) [] (VS)
abbrev Zl (r_1 : List Int) (c_Queues : List (List Int)) : List (Nat × T) := [(4, .own (.box (.agg [eOs 1 true (eI .i64) [], eOs 1 true F2_ []]))), (5, .own (.box (.agg [eSl 1 true (eI .i64) r_1, eOs 1 true F1_ c_Queues])))]
abbrev Zk (x_ : z7) (s_ : za) (r_1 : List Int) (c_Queues1 : List (List Int)) (x23 : Int) : List (Nat × T) := [(3, .d (.sptr (yG s_))), (4, .own (.box (.agg [eOs 1 true (eI .i64) [], eOs 1 true F2_ []]))), (5, .own (.box (.agg [eSl 1 true (eI .i64) r_1, eOs 1 true F1_ c_Queues1]))), (22, .d (I (((List.replicate ((x_.Channels.length : Nat) : Int).toNat ([] : List Int)).length : Nat) : Int))), (23, .d (I x23))]
theorem Yc {ctr : Ctr} (hC : zV Tryz.prog ctr) (h0s : ctr.Has ug) (h0i : ctr.Has uB) : xz.Ok Tryz.prog := by
 refine y5 ?_
 rintro ⟨x_, s_⟩ r0 hf0
 try unfold x5 at hf0
 refine yO false [(4, some 39)] vU 42 Tryz.func45 fun E hE => ?_
 obtain ⟨g0, hf0⟩ := gdE hf0
 obtain ⟨r_, h0, hf0⟩ := zn hf0
 obtain ⟨r_1, h1, hf0⟩ := zn hf0
 obtain ⟨g1, hf0⟩ := gdE hf0
 refine yJ ((xMs zQ 18 26).or ((xAh zQ 12).or X0)) hC vU [1,1] [] [4,5] (fun z : List (List Int) => vL r_1 z = some r0) (fun z => Zl r_1 z) [(3, .d (.sptr (yG s_))), (4, .own (.box (.agg [eOs 1 true (eI .i64) [], eOs 1 true F2_ []]))), (5, .own (.box (.agg [eSl 1 true (eI .i64) r_1, eOs 1 true F1_ (List.replicate ((x_.Channels.length : Nat) : Int).toNat ([] : List Int))])))] [Hh (.n 2 [3]), Ha (lnM wG x_.Parts), Hn g0.1, Hn (cuB (eI .i64) g0), Hl (cuM (eI .i64) [s_.states_.e0, s_.states_.e1, s_.states_.e2, s_.states_.e3] ((x_.Parts.length : Nat) : Int)), Hc h0s (x := ([s_.states_.e0, s_.states_.e1, s_.states_.e2, s_.states_.e3].take ((x_.Parts.length : Nat) : Int).toNat)) h0 (loC F2_ ([s_.states_.e0, s_.states_.e1, s_.states_.e2, s_.states_.e3].take ((x_.Parts.length : Nat) : Int).toNat) <| loN), Hg (z05 h0i), Hm (shM (eI .i64) (eI .i64) r_), Hs (z06 h0i (x := r_) h1 (loC F2_ r_ <| loN)), Hm (shM (eI .i64) (eI .i64) r_), Ha (lnM (eI .i64) x_.Channels), Hn (rL g1), Ha (rM 1 F1_ ((x_.Channels.length : Nat) : Int) ([] : List Int)), Hh (.cut 0)] ?_ fun J1 hJ1 => ?_
 ·rintro c_Queues hf0
  unfold vL at hf0
  obtain rfl := zl hf0
  exact yE X0 hC hE [Hm (shM F1_ F1_ c_Queues)]
 ·obtain ⟨t2, ht2, hf0⟩ := zn hf0
  refine yL X0 hC vU [1,1,2,1,0] [J1] (fun s => yZ x_ s_ s.1 s.2) (fun x => Zk x_ s_ r_1 x.1 x.2) ((List.replicate ((x_.Channels.length : Nat) : Int).toNat ([] : List Int)), 0) ht2  [Ha (lnM F1_ (List.replicate ((x_.Channels.length : Nat) : Int).toNat ([] : List Int)))] ?_
  rintro ⟨c_Queues1, x23⟩ m2 lr1 hf1 hl1 J2 hJ2
  try unfold yZ at hf1
  rcases yc hf1 with ⟨c0, hf1⟩ | ⟨c0, hf1⟩
  ·obtain ⟨cell, h2, hf1⟩ := zn hf1
   obtain ⟨g2, hf1⟩ := gdE hf1
   obtain ⟨r_2, h3, hf1⟩ := zn hf1
   obtain ⟨r_3, h4, hf1⟩ := zn hf1
   obtain ⟨c_Queue_e, h5, hf1⟩ := zn hf1
   obtain rfl := zl hf1
   exact yB ((xAh zQ 36).or X0) hC hJ2 ((c_Queues1.set x23.toNat r_3), w64 (x23 + 1)) hl1 [Hq c0, Hs (iM F9_ h2), Hn (arJ (by kernel_rfl) (i0 h2) : Zs xQ 113 ((zC.toL s_.queues_).map F9_) x23 = true), Hh (.n 0 [7]), Hn g2.1, Hn (cuB (eI .i64) g2), Hl (cuM (eI .i64) [cell.l_.e0, cell.l_.e1, cell.l_.e2, cell.l_.e3] cell.many_), Hc h0s (x := ([cell.l_.e0, cell.l_.e1, cell.l_.e2, cell.l_.e3].take cell.many_.toNat)) h3 (loC F2_ ([cell.l_.e0, cell.l_.e1, cell.l_.e2, cell.l_.e3].take cell.many_.toNat) <| loN), Hg (z05 h0i), Hm (shM (eI .i64) (eI .i64) r_2), Hs (z06 h0i (x := r_2) h4 (loC F2_ r_2 <| loN)), Hm (shM (eI .i64) (eI .i64) r_2), Hn (iL F1_ h5), Hs (iM F1_ h5), Hs (iM F1_ h5), Hl (sM F1_ c_Queues1 x23 r_3)]
  ·obtain rfl := zl hf1
   obtain rfl := hl1
   exact yB X0 hC hJ1 c_Queues1 hf0 [Hq c0]
def u0 : Code := (Tryz.f69.body).getD .skip
def yM : yV := spF (α := List z8) (ρ := List z8) 69 (fun x => [z7Q x]) (fun r => z3L r) (fun x => yW x) [] (Ue)
theorem u3 {ctr : Ctr} (hC : zV Tryz.prog ctr) : yM.Ok Tryz.prog := by
 refine y5 ?_
 rintro s_ r0 hf0
 try unfold yW at hf0
 refine yO true [(2, none)] u0 9 Tryz.func69 fun E hE => ?_
 obtain ⟨g0, hf0⟩ := gdE hf0
 obtain rfl := zl hf0
 exact yE X0 hC hE [Ha (lnM kg s_), Ha (lnM kg s_), Hn (slB g0), Hn (slC g0), Hn (z1P kg g0), Ha (z7G 2 kg s_ 0 ((s_.length : Nat) : Int).toNat)]
def kA : Code := (Tryz.f30.body).getD .skip
def kr : yV := spF (α := z7) (ρ := List z8 × List (List z6) × Int) 30 (fun x => [xR x]) (fun r => .tup [z3L r.1, z0X r.2.1, (eI .i64) r.2.2]) (fun x => kE x) [] (Ue)
abbrev Wy (r_1 : List za × List (List z6) × Int) (out : List z8) : List (Nat × T) := [(7, .d (eSl 1 true wr r_1.2.1)), (9, .own (eOs 2 false Uz out))]
abbrev Wx (x_ : z7) (r_1 : List za × List (List z6) × Int) (out1 : List z8) (x28 : Int) : List (Nat × T) := [(1, .own (.box (xR x_))), (7, .d (eSl 1 true wr r_1.2.1)), (9, .own (eOs 2 false Uz out1)), (26, .d (eSl 24 false yG r_1.1)), (27, .d (I ((r_1.1.length : Nat) : Int))), (28, .d (I x28))]
theorem UM {ctr : Ctr} (hC : zV Tryz.prog ctr) (h06 : ctr.Has wW) (h0e : ctr.Has xM) (h0f : ctr.Has xz) (h0t : ctr.Has yM) : kr.Ok Tryz.prog := by
 refine y5 ?_
 rintro x_ r0 hf0
 try unfold kE at hf0
 refine yO false [(2, none), (3, none), (4, none)] kA 42 Tryz.func30 fun E hE => ?_
 obtain ⟨r_, h0, hf0⟩ := zn hf0
 let Z0 : List HO := [Hc h06 (x := x_) h0 (loC xR x_ <| loN)]
 rcases yc hf0 with ⟨c0, hf0⟩ | ⟨c0, hf0⟩
 ·obtain rfl := zl hf0
  exact yEx X0 hC hE (Z0 ++ [Hq c0, Hm (shM kg kg []), Hm (shM Xx Xx [])]) (.tup [eSl 2 true kg [], eSl 1 true wr [], I r_]) (show LeV (.tup [eSl 2 true kg [], eSl 1 true wr [], I r_]) (.tup [eSl 2 true kg ([] : List z8), eSl 1 true wr ([] : List (List z6)), I r_]) from inferInstance)
 ·obtain ⟨r_1, h1, hf0⟩ := zn hf0
  let Z1 : List HO := (Z0 ++ [Hq c0, Hc h0e (x := x_) h1 (loC xR x_ <| loN)])
  rcases yc hf0 with ⟨c1, hf0⟩ | ⟨c1, hf0⟩
  ·obtain rfl := zl hf0
   exact yEx X0 hC hE (Z1 ++ [Hq c1, Hm (shM kg kg []), Hm (shM Xx Xx [])]) (.tup [eSl 2 true kg [], eSl 1 true wr [], I r_1.2.2]) (show LeV (.tup [eSl 2 true kg [], eSl 1 true wr [], I r_1.2.2]) (.tup [eSl 2 true kg ([] : List z8), eSl 1 true wr ([] : List (List z6)), I r_1.2.2]) from inferInstance)
  ·refine yJ X0 hC kA [1,1,1,1,1] [] [7,9] (fun z : List z8 => kn r_1 z = some r0) (fun z => Wy r_1 z) [(1, .own (.box (xR x_))), (6, .d (eSl 24 false yG r_1.1)), (7, .d (eSl 1 true wr r_1.2.1)), (9, .own (eOs 2 true kg []))] (Z1 ++ [Hq c1, Hh (.cut 1)]) ?_ fun J1 hJ1 => ?_
   ·rintro out hf0
    unfold kn at hf0
    obtain ⟨r_2, h2, hf0⟩ := zn hf0
    obtain rfl := zl hf0
    exact yE X0 hC hE [Hg (z05 h0t), Hm (shM Uz Uz out), Hs (z06 h0t (x := out) h2 (loC (eSl 2 false Uz) out <| loN)), Hm (shM Uz Uz out)]
   ·obtain ⟨t2, ht2, hf0⟩ := zn hf0
    refine yLx X0 hC kA [1,1,1,1,1,2,1,0] [J1] (fun s => km x_ r_1 s.1 s.2) (fun x => Wx x_ r_1 x.1 x.2) (([] : List z8), 0) ht2 [(1, .own (.box (xR x_))), (7, .d (eSl 1 true wr r_1.2.1)), (9, .own (eOs 2 true Uz [])), (26, .d (eSl 24 false yG r_1.1)), (27, .d (I ((r_1.1.length : Nat) : Int))), (28, .d (I 0))] inferInstance [Ha (lnM yG r_1.1)] ?_
    rintro ⟨out1, x28⟩ m2 lr1 hf1 hl1 J2 hJ2
    try unfold km at hf1
    rcases yc hf1 with ⟨c2, hf1⟩ | ⟨c2, hf1⟩
    ·obtain ⟨u_, h3, hf1⟩ := zn hf1
     obtain ⟨r_3, h4, hf1⟩ := zn hf1
     obtain ⟨g0, hf1⟩ := gdE hf1
     obtain rfl := zl hf1
     exact yB X0 hC hJ2 ((out1 ++ ([r_3] : List z8)), w64 (x28 + 1)) hl1 [Hq c2, Hi yG h3, Hc h0f (x := (x_, u_)) h4 (loC xR x_ <| loC yG u_ <| loN), Hq (dM Uz ([r_3] : List z8)), Hn (dM Uz ([r_3] : List z8)), Hn (aL Uz Uz g0), Hl (aM Uz out1 ([r_3] : List z8))]
    ·obtain rfl := zl hf1
     obtain rfl := hl1
     exact yB X0 hC hJ1 out1 hf0 [Hq c2]
def QC : Code := (Tryz.f38.body).getD .skip
def kT : yV := spF (α := Int × Int × List Int) (ρ := z8) 38 (fun x => [(eI .i64) x.1, (eI .i64) x.2.1, F2_ x.2.2]) (fun r => z5Z r) (fun x => vm x.1 x.2.1 x.2.2) [] (z8L)
theorem QK {ctr : Ctr} (hC : zV Tryz.prog ctr) : kT.Ok Tryz.prog := by
 refine y5 ?_
 rintro ⟨a_, b_, queue⟩ r0 hf0
 try unfold vm at hf0
 refine yO false [(6, some 39)] QC 13 Tryz.func38 fun E hE => ?_
 obtain rfl := zl hf0
 exact yE X0 hC hE [Hm (shM (eI .i64) (eI .i64) ([a_, b_])), Hm (shM F2_ F2_ ([queue]))]
def K4 : Code := (Tryz.f39.body).getD .skip
def Yj : yV := spF (α := Int × Int) (ρ := zc) 39 (fun x => [(eI .i64) x.1, (eI .i64) x.2]) (fun r => xK r) (fun x => uz x.1 x.2) [] (VS)
theorem Kl {ctr : Ctr} (hC : zV Tryz.prog ctr) : Yj.Ok Tryz.prog := by
 refine y5 ?_
 rintro ⟨part, arc⟩ r0 hf0
 try unfold uz at hf0
 refine yO false [(4, some 65)] K4 8 Tryz.func39 fun E hE => ?_
 obtain rfl := zl hf0
 exact yE X0 hC hE []
def Zg : Code := (Tryz.f70.body).getD .skip
def kS : yV := spF (α := List Int × List Int) (ρ := Int) 70 (fun x => [F2_ x.1, F2_ x.2]) (fun r => (eI .i64) r) (fun x => j6 x.1 x.2) [] (VS)
abbrev V3 : List (Nat × T) := []
abbrev V2 (a_ : List Int) (b_ : List Int) (i_ : Int) : List (Nat × T) := [(0, .d (eSl 1 false (eI .i64) a_)), (1, .d (eSl 1 false (eI .i64) b_)), (5, .d (I i_))]
theorem QJ {ctr : Ctr} (hC : zV Tryz.prog ctr) : kS.Ok Tryz.prog := by
 refine y5 ?_
 rintro ⟨a_, b_⟩ r0 hf0
 try unfold j6 at hf0
 refine yO true [(4, none)] Zg 40 Tryz.func70 fun E hE => ?_
 let Z0 : List HO := [Ha (lnM (eI .i64) a_), Ha (lnM (eI .i64) b_)]
 rcases yc hf0 with ⟨c0, hf0⟩ | ⟨c0, hf0⟩
 ·let Z1 : List HO := (Z0 ++ [Hq c0, Ha (lnM (eI .i64) a_), Ha (lnM (eI .i64) b_)])
  rcases yc hf0 with ⟨c1, hf0⟩ | ⟨c1, hf0⟩
  ·obtain rfl := zl hf0
   exact yE X0 hC hE (Z1 ++ [Hq c1])
  ·obtain rfl := zl hf0
   exact yE X0 hC hE (Z1 ++ [Hq c1])
 ·refine yJ X0 hC Zg [1,1] [] [] (fun z : Unit => kX = some r0) (fun z => V3) [(0, .d (eSl 1 false (eI .i64) a_)), (1, .d (eSl 1 false (eI .i64) b_))] (Z0 ++ [Hq c0, Hh (.cut 0)]) ?_ fun J1 hJ1 => ?_
  ·rintro ⟨⟩ hf0
   unfold kX at hf0
   obtain rfl := zl hf0
   exact yE X0 hC hE []
  ·obtain ⟨t2, ht2, hf0⟩ := zn hf0
   refine yL X0 hC Zg [1,1,2,1,0] [J1] (fun s => uT a_ b_ s) (fun x => V2 a_ b_ x) 0 ht2  [] ?_
   rintro i_ m2 lr1 hf1 hl1 J2 hJ2
   try unfold uT at hf1
   rcases yc hf1 with ⟨c2, hf1⟩ | ⟨c2, hf1⟩
   ·obtain ⟨a__e, h0, hf1⟩ := zn hf1
    obtain ⟨b__e, h1, hf1⟩ := zn hf1
    let Z2 : List HO := [Ha (lnM (eI .i64) a_), Hq c2, Hi (eI .i64) h0, Hi (eI .i64) h1]
    rcases yc hf1 with ⟨c3, hf1⟩ | ⟨c3, hf1⟩
    ·obtain ⟨a__e1, h2, hf1⟩ := zn hf1
     obtain ⟨b__e1, h3, hf1⟩ := zn hf1
     let Z3 : List HO := (Z2 ++ [Hq c3, Hi (eI .i64) h2, Hi (eI .i64) h3])
     rcases yc hf1 with ⟨c4, hf1⟩ | ⟨c4, hf1⟩
     ·obtain rfl := zl hf1
      obtain rfl := hl1
      obtain rfl := zl hf0
      exact yE X0 hC hE (Z3 ++ [Hq c4])
     ·obtain rfl := zl hf1
      obtain rfl := hl1
      obtain rfl := zl hf0
      exact yE X0 hC hE (Z3 ++ [Hq c4])
    ·obtain rfl := zl hf1
     exact yB X0 hC hJ2 (w64 (i_ + 1)) hl1 (Z2 ++ [Hq c3])
   ·obtain rfl := zl hf1
    obtain rfl := hl1
    exact yB X0 hC hJ1 () hf0 [Ha (lnM (eI .i64) a_), Hq c2]
def K2 : Code := (Tryz.f36.body).getD .skip
def Yh : yV := spF (α := List Int × List Int) (ρ := Int) 36 (fun x => [F2_ x.1, F2_ x.2]) (fun r => (eI .i64) r) (fun x => kO x.1 x.2) [] (VS)
theorem Kj {ctr : Ctr} (hC : zV Tryz.prog ctr) (h0u : ctr.Has kS) : Yh.Ok Tryz.prog := by
 refine y5 ?_
 rintro ⟨a_, b_⟩ r0 hf0
 try unfold kO at hf0
 refine yO true [(4, none)] K2 22 Tryz.func36 fun E hE => ?_
 let Z0 : List HO := [Ha (lnM (eI .i64) a_), Ha (lnM (eI .i64) b_)]
 rcases yc hf0 with ⟨c0, hf0⟩ | ⟨c0, hf0⟩
 ·obtain rfl := zl hf0
  exact yE X0 hC hE (Z0 ++ (rpN 5 (Hq c0) (rpN 6 qT [])))
 ·obtain ⟨r_, h0, hf0⟩ := zn hf0
  let Z1 : List HO := (Z0 ++ [Hq c0, Hq c0, Hq c0, Hc h0u (x := (a_, b_)) h0 (loC F2_ a_ <| loC F2_ b_ <| loN), Hq c0, Hq c0])
  rcases yc hf0 with ⟨c1, hf0⟩ | ⟨c1, hf0⟩
  ·obtain rfl := zl hf0
   exact yE X0 hC hE (Z1 ++ (rpN 5 (Hq c1) [qT]))
  ·obtain ⟨r_1, h1, hf0⟩ := zn hf0
   let Z2 : List HO := (Z1 ++ [Hq c1, Hq c1, Hq c1, Hc h0u (x := (b_, a_)) h1 (loC F2_ b_ <| loC F2_ a_ <| loN), Hq c1, Hq c1])
   rcases yc hf0 with ⟨c2, hf0⟩ | ⟨c2, hf0⟩
   ·obtain rfl := zl hf0
    exact yE X0 hC hE (Z2 ++ [Hq c2])
   ·obtain rfl := zl hf0
    exact yE X0 hC hE (Z2 ++ [Hq c2])
def YF : Code := (Tryz.f16.body).getD .skip
def jB : yV := spF (α := z8 × z8) (ρ := Int) 16 (fun x => [kg x.1, kg x.2]) (fun r => (eI .i64) r) (fun x => jT x.1 x.2) [] (VS)
abbrev Um : List (Nat × T) := []
abbrev Ul (a_ : z8) (b_ : z8) (i_ : Int) : List (Nat × T) := [(2, .own (.box (kg a_))), (3, .own (.box (kg b_))), (5, .d (I i_))]
theorem Ki {ctr : Ctr} (hC : zV Tryz.prog ctr) (h0v : ctr.Has Yh) : jB.Ok Tryz.prog := by
 refine y5 ?_
 rintro ⟨a_, b_⟩ r0 hf0
 try unfold jT at hf0
 refine yO true [(4, none)] YF 40 Tryz.func16 fun E hE => ?_
 obtain ⟨r_, h0, hf0⟩ := zn hf0
 let Z0 : List HO := [Hc h0v (x := (a_.States, b_.States)) h0 (loC F2_ a_.States <| loC F2_ b_.States <| loN)]
 rcases yc hf0 with ⟨c0, hf0⟩ | ⟨c0, hf0⟩
 ·obtain rfl := zl hf0
  exact yE X0 hC hE (Z0 ++ (rpN 8 (Hq c0) [qT]))
 ·let Z1 : List HO := (Z0 ++ [Hq c0, Hq c0, Hq c0, Ha (lnM F2_ a_.Queues), Hq c0, Hq c0, Hq c0, Ha (lnM F2_ b_.Queues), Hq c0, Hq c0])
  rcases yc hf0 with ⟨c1, hf0⟩ | ⟨c1, hf0⟩
  ·obtain rfl := zl hf0
   exact yE X0 hC hE (Z1 ++ [Hq c1])
  ·refine yJ X0 hC YF [1,1] [] [] (fun z : Unit => Yq = some r0) (fun z => Um) [(2, .own (.box (kg a_))), (3, .own (.box (kg b_)))] (Z1 ++ [Hq c1, Hh (.cut 0)]) ?_ fun J1 hJ1 => ?_
   ·rintro ⟨⟩ hf0
    unfold Yq at hf0
    obtain rfl := zl hf0
    exact yE X0 hC hE []
   ·obtain ⟨t2, ht2, hf0⟩ := zn hf0
    refine yL X0 hC YF [1,1,2,1,0] [J1] (fun s => jE a_ b_ s) (fun x => Ul a_ b_ x) 0 ht2  [] ?_
    rintro i_ m2 lr1 hf1 hl1 J2 hJ2
    try unfold jE at hf1
    let Z2 : List HO := [Ha (lnM F2_ a_.Queues)]
    rcases yc hf1 with ⟨c2, hf1⟩ | ⟨c2, hf1⟩
    ·obtain ⟨Queue_e, h1, hf1⟩ := zn hf1
     obtain ⟨Queue_e1, h2, hf1⟩ := zn hf1
     obtain ⟨r_1, h3, hf1⟩ := zn hf1
     let Z3 : List HO := (Z2 ++ [Hq c2, Hi F2_ h1, Hi F2_ h2, Hc h0v (x := (Queue_e, Queue_e1)) h3 (loC F2_ Queue_e <| loC F2_ Queue_e1 <| loN)])
     rcases yc hf1 with ⟨c3, hf1⟩ | ⟨c3, hf1⟩
     ·obtain rfl := zl hf1
      obtain rfl := hl1
      obtain rfl := zl hf0
      exact yE X0 hC hE (Z3 ++ [Hq c3])
     ·obtain rfl := zl hf1
      exact yB X0 hC hJ2 (w64 (i_ + 1)) hl1 (Z3 ++ [Hq c3])
    ·obtain rfl := zl hf1
     obtain rfl := hl1
     exact yB X0 hC hJ1 () hf0 (Z2 ++ [Hq c2])
def vw : Code := (Tryz.f40.body).getD .skip
def ZK : yV := spF (α := List z8 × List (List z6) × List z8 × List (List z6)) (ρ := Int) 40 (fun x => [z3L x.1, z0X x.2.1, z7Q x.2.2.1, zao x.2.2.2]) (fun r => (eI .i64) r) (fun x => Yt x.1 x.2.1 x.2.2.1 x.2.2.2) [] (zd1)
abbrev VD : List (Nat × T) := []
abbrev VC (s_ : List (List z6)) (steps : List (List z6)) (i_ : Int) (x74 : List z6) (x75 : List z6) (x76 : Int) (x79 : List z6) (x80 : List z6) (x81 : Int) (x82 : Bool) : List (Nat × T) := [(1, .d (eSl 1 true wr s_)), (3, .d (eSl 1 false Xx steps)), (10, .d (I i_)), (72, .d (eSl 1 true wr s_)), (73, .d (I i_)), (74, .d (.sptr (eSl 5 true jZ x74))), (75, .d (eSl 5 true jZ x75)), (76, .d (I x76)), (77, .d (eSl 1 true wr s_)), (78, .d (I i_)), (79, .d (.sptr (eSl 5 true jZ x79))), (80, .d (eSl 5 true jZ x80)), (81, .d (I x81)), (82, .d (B x82))]
abbrev Vz (s_ : List (List z6)) (steps : List (List z6)) (i_ : Int) (s__e1 : List z6) (s__e2 : List z6) (k_ : Int) : List (Nat × T) := [(1, .d (eSl 1 true wr s_)), (3, .d (eSl 1 false Xx steps)), (10, .d (I i_)), (11, .d (I k_)), (72, .d (eSl 1 true wr s_)), (73, .d (I i_)), (74, .d (.sptr (eSl 5 true jZ s__e1))), (75, .d (eSl 5 true jZ s__e1)), (76, .d (I ((s__e1.length : Nat) : Int))), (77, .d (eSl 1 true wr s_)), (78, .d (I i_)), (79, .d (.sptr (eSl 5 true jZ s__e2))), (80, .d (eSl 5 true jZ s__e2)), (81, .d (I ((s__e2.length : Nat) : Int))), (82, .d (B (((s__e1.length : Nat) : Int) != ((s__e2.length : Nat) : Int))))]
abbrev VB (s_ : List (List z6)) (steps : List (List z6)) (i_ : Int) : List (Nat × T) := [(1, .d (eSl 1 true wr s_)), (3, .d (eSl 1 false Xx steps)), (10, .d (I i_))]
abbrev VE (s_ : List (List z6)) (steps : List (List z6)) : List (Nat × T) := [(1, .d (eSl 1 true wr s_)), (3, .d (eSl 1 false Xx steps))]
abbrev Vy (c_ : List z8) (s_ : List (List z6)) (list : List z8) (steps : List (List z6)) (i_1 : Int) : List (Nat × T) := [(0, .d (eSl 2 true kg c_)), (1, .d (eSl 1 true wr s_)), (2, .d (eSl 2 false kg list)), (3, .d (eSl 1 false Xx steps)), (9, .d (I i_1))]
theorem JA {ctr : Ctr} (hC : zV Tryz.prog ctr) (h0g : ctr.Has jB) : ZK.Ok Tryz.prog := by
 refine y5 ?_
 rintro ⟨c_, s_, list, steps⟩ r0 hf0
 try unfold Yt at hf0
 refine yO true [(8, none)] vw 108 Tryz.func40 fun E hE => ?_
 let Z0 : List HO := [Ha (lnM kg c_), Ha (lnM kg list)]
 rcases yc hf0 with ⟨c0, hf0⟩ | ⟨c0, hf0⟩
 ·obtain rfl := zl hf0
  exact yE X0 hC hE (Z0 ++ (rpN 6 (Hq c0) (rpN 13 qT [])))
 ·let Z1 : List HO := (Z0 ++ [Hq c0, Hq c0, Ha (lnM wr s_), Hq c0, Hq c0, Ha (lnM Xx steps), Hq c0, Hq c0])
  rcases yc hf0 with ⟨c1, hf0⟩ | ⟨c1, hf0⟩
  ·obtain rfl := zl hf0
   exact yE X0 hC hE (Z1 ++ (rpN 6 (Hq c1) (rpN 7 qT [])))
  ·let Z2 : List HO := (Z1 ++ [Hq c1, Hq c1, Ha (lnM kg c_), Hq c1, Hq c1, Ha (lnM kg c_), Hq c1, Hq c1])
   rcases yc hf0 with ⟨c2, hf0⟩ | ⟨c2, hf0⟩
   ·obtain rfl := zl hf0
    exact yE X0 hC hE (Z2 ++ (rpN 6 (Hq c2) [qT]))
   ·let Z3 : List HO := (Z2 ++ [Hq c2, Hq c2, Ha (lnM wr s_), Hq c2, Hq c2, Ha (lnM wr s_), Hq c2, Hq c2])
    rcases yc hf0 with ⟨c3, hf0⟩ | ⟨c3, hf0⟩
    ·obtain rfl := zl hf0
     exact yE X0 hC hE (Z3 ++ [Hq c3])
    ·refine yJ X0 hC vw [1,1] [] [1,3] (fun z : Unit => ZT s_ steps = some r0) (fun z => VE s_ steps) [(0, .d (eSl 2 true kg c_)), (1, .d (eSl 1 true wr s_)), (2, .d (eSl 2 false kg list)), (3, .d (eSl 1 false Xx steps))] (Z3 ++ [Hq c3, Hh (.cut 0)]) ?_ fun J1 hJ1 => ?_
     ·rintro ⟨⟩ hf0
      unfold ZT at hf0
      refine yJ X0 hC vw [1,1,1] [] [] (fun z : Unit => ZS = some r0) (fun z => VD) [(1, .d (eSl 1 true wr s_)), (3, .d (eSl 1 false Xx steps))] [Hh (.cut 0)] ?_ fun J2 hJ2 => ?_
      ·rintro ⟨⟩ hf0
       unfold ZS at hf0
       obtain rfl := zl hf0
       exact yE X0 hC hE []
      ·obtain ⟨t3, ht3, hf0⟩ := zn hf0
       refine yL X0 hC vw [1,1,1,2,1,0] [J2] (fun s => ZQ s_ steps s) (fun x => VB s_ steps x) 0 ht3  [] ?_
       rintro i_ m3 lr1 hf1 hl1 J3 hJ3
       try unfold ZQ at hf1
       let Z4 : List HO := [Ha (lnM wr s_)]
       rcases yc hf1 with ⟨c4, hf1⟩ | ⟨c4, hf1⟩
       ·refine yJ X0 hC vw [1,1,1,2,1,0,0,1] [J2, J3] [1,3,10,72,73,74,75,76,77,78,79,80,81,82] (fun z : List z6 × List z6 × Int × List z6 × List z6 × Int × Bool => ZR i_ z.1 z.2.1 z.2.2.1 z.2.2.2.1 z.2.2.2.2.1 z.2.2.2.2.2.1 z.2.2.2.2.2.2 = some lr1) (fun z => VC s_ steps i_ z.1 z.2.1 z.2.2.1 z.2.2.2.1 z.2.2.2.2.1 z.2.2.2.2.2.1 z.2.2.2.2.2.2) [(1, .d (eSl 1 true wr s_)), (3, .d (eSl 1 false Xx steps)), (10, .d (I i_))] (Z4 ++ [Hq c4, Hh (.cut 0)]) ?_ fun J4 hJ4 => ?_
        ·rintro ⟨x74, x75, x76, x79, x80, x81, x82⟩ hf1
         unfold ZR at hf1
         obtain rfl := zl hf1
         exact yB X0 hC hJ3 (w64 (i_ + 1)) hl1 []
        ·obtain ⟨s__e, h0, hf1⟩ := zn hf1
         obtain ⟨step_e, h1, hf1⟩ := zn hf1
         let Z5 : List HO := [Hi wr h0, Ha (lnM jZ s__e), Hi Xx h1, Ha (lnM jZ step_e)]
         rcases yc hf1 with ⟨c5, hf1⟩ | ⟨c5, hf1⟩
         ·obtain rfl := zl hf1
          obtain rfl := hl1
          obtain rfl := zl hf0
          exact yE X0 hC hE (Z5 ++ (rpN 12 (Hq c5) [qT]))
         ·obtain ⟨s__e1, h2, hf1⟩ := zn hf1
          obtain ⟨s__e2, h3, hf1⟩ := zn hf1
          let Z6 : List HO := (Z5 ++ [Hq c5, Hq c5, Hq c5, Hi wr h2, Hq c5, Hq c5, Ha (lnM jZ s__e1), Hq c5, Hq c5, Hq c5, Hi wr h3, Hq c5, Hq c5, Ha (lnM jZ s__e2), Hq c5, Hq c5])
          rcases yc hf1 with ⟨c6, hf1⟩ | ⟨c6, hf1⟩
          ·obtain rfl := zl hf1
           obtain rfl := hl1
           obtain rfl := zl hf0
           exact yE X0 hC hE (Z6 ++ [Hq c6])
          ·obtain ⟨t5, ht5, hf1⟩ := zn hf1
           refine yL X0 hC vw [1,1,1,2,1,0,0,1,2,0,1,1,0] [J2, J3, J4] (fun s => ZP s_ steps i_ s__e1 s__e2 s) (fun x => Vz s_ steps i_ s__e1 s__e2 x) 0 ht5  (Z6 ++ [Hq c6]) ?_
           rintro k_ m5 lr2 hf2 hl2 J5 hJ5
           try unfold ZP at hf2
           obtain ⟨s__e3, h4, hf2⟩ := zn hf2
           let Z7 : List HO := [Hi wr h4, Ha (lnM jZ s__e3)]
           rcases yc hf2 with ⟨c7, hf2⟩ | ⟨c7, hf2⟩
           ·obtain ⟨s__e4, h5, hf2⟩ := zn hf2
            obtain ⟨s__e_e, h6, hf2⟩ := zn hf2
            obtain ⟨step_e1, h7, hf2⟩ := zn hf2
            obtain ⟨step_e_e, h8, hf2⟩ := zn hf2
            let Z8 : List HO := (Z7 ++ [Hq c7, Hi wr h5, Hi jZ h6, Hi Xx h7, Hi jZ h8])
            rcases yc hf2 with ⟨c8, hf2⟩ | ⟨c8, hf2⟩
            ·obtain rfl := zl hf2
             obtain rfl := hl2
             obtain rfl := zl hf1
             obtain rfl := hl1
             obtain rfl := zl hf0
             exact yE ((zaE zQ 107).or X0) hC hE (Z8 ++ [Hq c8])
            ·obtain rfl := zl hf2
             exact yB ((zaE zQ 107).or X0) hC hJ5 (w64 (k_ + 1)) hl2 (Z8 ++ [Hq c8])
           ·obtain rfl := zl hf2
            obtain rfl := hl2
            exact yB X0 hC hJ4 (s__e1, s__e1, ((s__e1.length : Nat) : Int), s__e2, s__e2, ((s__e2.length : Nat) : Int), ((s__e1.length : Nat) : Int) != ((s__e2.length : Nat) : Int)) hf1 (Z7 ++ [Hq c7])
       ·obtain rfl := zl hf1
        obtain rfl := hl1
        exact yB X0 hC hJ2 () hf0 (Z4 ++ [Hq c4])
     ·obtain ⟨t6, ht6, hf0⟩ := zn hf0
      refine yL X0 hC vw [1,1,2,1,0] [J1] (fun s => ZO c_ list s) (fun x => Vy c_ s_ list steps x) 0 ht6  [] ?_
      rintro i_1 m6 lr1 hf1 hl1 J6 hJ6
      try unfold ZO at hf1
      let Z9 : List HO := [Ha (lnM kg c_)]
      rcases yc hf1 with ⟨c9, hf1⟩ | ⟨c9, hf1⟩
      ·obtain ⟨c__e, h9, hf1⟩ := zn hf1
       obtain ⟨list_e, h10, hf1⟩ := zn hf1
       obtain ⟨r_, h11, hf1⟩ := zn hf1
       let Z10 : List HO := (Z9 ++ [Hq c9, Hi kg h9, Hi kg h10, Hc h0g (x := (c__e, list_e)) h11 (loC kg c__e <| loC kg list_e <| loN)])
       rcases yc hf1 with ⟨c10, hf1⟩ | ⟨c10, hf1⟩
       ·obtain rfl := zl hf1
        obtain rfl := hl1
        obtain rfl := zl hf0
        exact yE X0 hC hE (Z10 ++ [Hq c10])
       ·obtain rfl := zl hf1
        exact yB X0 hC hJ6 (w64 (i_1 + 1)) hl1 (Z10 ++ [Hq c10])
      ·obtain rfl := zl hf1
       obtain rfl := hl1
       exact yB X0 hC hJ1 () hf0 (Z9 ++ [Hq c9])
def Ui : Code := (Tryz.f81.body).getD .skip
def qK : yV := spF (α := Int) (ρ := Bool) 81 (fun x => [(eI .i64) x]) (fun r => eB r) (fun x => qj x) [] (Ue)
theorem UP {ctr : Ctr} (hC : zV Tryz.prog ctr) : qK.Ok Tryz.prog := by
 refine y5 ?_
 rintro x_ r0 hf0
 try unfold qj at hf0
 refine yO true [(2, none)] Ui 6 Tryz.func81 fun E hE => ?_
 obtain rfl := zl hf0
 exact yE X0 hC hE []
def QD : Code := (Tryz.f76.body).getD .skip
def kU : yV := spF (α := Int × Int) (ρ := Bool) 76 (fun x => [(eI .i64) x.1, (eI .i64) x.2]) (fun r => eB r) (fun x => Xp x.1 x.2) [] (VS)
theorem QL {ctr : Ctr} (hC : zV Tryz.prog ctr) (h0h : ctr.Has qK) : kU.Ok Tryz.prog := by
 refine y5 ?_
 rintro ⟨x_, y_⟩ r0 hf0
 try unfold Xp at hf0
 refine yO true [(4, none)] QD 17 Tryz.func76 fun E hE => ?_
 obtain ⟨r_, h0, hf0⟩ := zn hf0
 let Z0 : List HO := [Hc h0h (x := x_) h0 (loC (eI .i64) x_ <| loN)]
 rcases yc hf0 with ⟨c0, hf0⟩ | ⟨c0, hf0⟩
 ·obtain ⟨r_1, h1, hf0⟩ := zn hf0
  let Z1 : List HO := (Z0 ++ [Hq c0, Hq c0, Hc h0h (x := y_) h1 (loC (eI .i64) y_ <| loN), Hq c0, Hq c0])
  rcases yc hf0 with ⟨c1, hf0⟩ | ⟨c1, hf0⟩
  ·obtain rfl := zl hf0
   exact yE X0 hC hE (Z1 ++ (rpN 4 (Hq c1) []))
  ·obtain rfl := zl hf0
   exact yE X0 hC hE (Z1 ++ (rpN 4 (Hq c1) []))
 ·obtain rfl := zl hf0
  exact yE X0 hC hE (Z0 ++ (rpN 4 (Hq c0) (rpN 4 qF [])))
def Wo : Code := (Tryz.f77.body).getD .skip
def qZ : yV := spF (α := Int) (ρ := Bool) 77 (fun x => [(eI .i64) x]) (fun r => eB r) (fun x => qL x) [] (Ue)
theorem WH {ctr : Ctr} (hC : zV Tryz.prog ctr) : qZ.Ok Tryz.prog := by
 refine y5 ?_
 rintro x_ r0 hf0
 try unfold qL at hf0
 refine yO true [(2, none)] Wo 6 Tryz.func77 fun E hE => ?_
 obtain rfl := zl hf0
 exact yE X0 hC hE []
end Go.Own
end
