/- -/
import Derived.Test.YtcldlioffanjaaaDoorPartE
noncomputable section
set_option linter.unusedVariables false
set_option linter.unusedSimpArgs false
namespace Go.Own
open Go.Proofs
set_option maxRecDepth 100000
set_option maxHeartbeats 8000000
def X0 : XH Tryd.prog := xB zY
theorem XY : Tryd.prog.follows .mixedOrders = true := by kernel_rfl
section
variable {ctr : Ctr} {n : Fr} {Q : Exit → St → Prop} {c : Code} {fs : List Fm} {st : St}
theorem yE (X : XH Tryd.prog) (hC : zW Tryd.prog ctr) {E : St → Prop} {r : A} {keep : Bool} {rs : List (Nat × Option Nat)} (hE : ∀ st x R U, z30 xO keep rs st = some (x, R, U) → LeV x r → E st) (L : List HO) (e : z8p X xO ctr n keep rs 4000 c fs st (hoH L) = some (r, hoO L) := by kernel_rfl) : AWP Tryd.prog n c st (Qf Tryd.prog n fs (z4j E)) := yE6 X zY hC XY hE L e
theorem yEx (X : XH Tryd.prog) (hC : zW Tryd.prog ctr) {E : St → Prop} {r : A} {keep : Bool} {rs : List (Nat × Option Nat)} (hE : ∀ st x R U, z30 xO keep rs st = some (x, R, U) → LeV x r → E st) (L : List HO) (x : A) (hle : LeV x r) (e : z8p X xO ctr n keep rs 4000 c fs st (hoH L) = some (x, hoO L) := by kernel_rfl) : AWP Tryd.prog n c st (Qf Tryd.prog n fs (z4j E)) := ze9 X zY hC XY hE L x hle e
theorem yB (X : XH Tryd.prog) (hC : zW Tryd.prog ctr) {τ : Type} {J : St → Prop} {live : List Nat} {S : τ → List (Nat × T)} {Inv : τ → Prop} (hJ : ∀ st' l' z, Inv z → Own.canon live st' = ofL l' → LeL l' (S z) → J st') (z : τ) (hz : Inv z) (L : List HO) (e : Ju X xO ctr n live 4000 c fs st (hoH L) = some (.back J, ofL (S z), hoO L) := by kernel_rfl) : AWP Tryd.prog n c st (Qf Tryd.prog n fs Q) := yB6 X zY hC XY hJ z hz L e
theorem yBx (X : XH Tryd.prog) (hC : zW Tryd.prog ctr) {τ : Type} {J : St → Prop} {live : List Nat} {S : τ → List (Nat × T)} {Inv : τ → Prop} (hJ : ∀ st' l' z, Inv z → Own.canon live st' = ofL l' → LeL l' (S z) → J st') (z : τ) (hz : Inv z) (l : List (Nat × T)) (hl : LeL l (S z)) (L : List HO) (e : Ju X xO ctr n live 4000 c fs st (hoH L) = some (.back J, ofL l, hoO L) := by kernel_rfl) : AWP Tryd.prog n c st (Qf Tryd.prog n fs Q) := zea X zY hC XY hJ z hz l hl L e
theorem yA (X : XH Tryd.prog) (hC : zW Tryd.prog ctr) (bd : Code) (path : List Nat) (Js : List (St → Prop)) (l : List (Nat × T)) (L : List HO) (h : AWP Tryd.prog n (sub path bd) (ofL l) (Qf Tryd.prog n (frs path Js bd []) Q)) (e : Ju X xO ctr n (Wd l) 4000 c fs st (hoH L) = some (.at (sub path bd) (frs path Js bd []), ofL l, hoO L) := by kernel_rfl) : AWP Tryd.prog n c st (Qf Tryd.prog n fs Q) := yA6 X zY hC XY bd path Js l L e h
theorem yAt (X : XH Tryd.prog) (hC : zW Tryd.prog ctr) (c' : Code) (fs' : List Fm) (l : List (Nat × T)) (L : List HO) (h : ∀ st0, Own.canon (Wd l) st0 = ofL l → AWP Tryd.prog n c' st0 (Qf Tryd.prog n fs' Q)) (e : Ju X xO ctr n (Wd l) 4000 c fs st (hoH L) = some (.at c' fs', ofL l, hoO L) := by kernel_rfl) : AWP Tryd.prog n c st (Qf Tryd.prog n fs Q) := zeb X zY hC XY c' fs' l L e h
theorem yLx (X : XH Tryd.prog) (hC : zW Tryd.prog ctr) (bd : Code) (path : List Nat) (Js : List (St → Prop)) {σ τ : Type} (f : σ → Option (LR σ τ)) (S : σ → List (Nat × T)) (x0 : σ) {t : τ} (ht : loop f x0 = some t) (l : List (Nat × T)) (hl : LeL l (S x0)) (L : List HO) (round : ∀ x m lr, f x = some lr → zb6 f m t lr → ∀ J : St → Prop, (∀ st' l' x', XN f m x' = some t → Own.canon (Wd l) st' = ofL l' → LeL l' (S x') → J st') → AWP Tryd.prog n (sub (path ++ [0]) bd) (ofL (S x)) (Qf Tryd.prog n (.pre J :: frs path Js bd []) Q)) (e : Ju X xO ctr n (Wd l) 4000 c fs st (hoH L) = some (.at (sub path bd) (frs path Js bd []), ofL l, hoO L) := by kernel_rfl) (e2 : sub path bd = .loop (sub (path ++ [0]) bd) := by kernel_rfl) (hk : ∀ x, Wd (S x) = Wd l := by exact fun _ => rfl) : AWP Tryd.prog n c st (Qf Tryd.prog n fs Q) := yL6 X zY hC XY bd path Js f S x0 ht l hl L hk e e2 round
theorem yL (X : XH Tryd.prog) (hC : zW Tryd.prog ctr) (bd : Code) (path : List Nat) (Js : List (St → Prop)) {σ τ : Type} (f : σ → Option (LR σ τ)) (S : σ → List (Nat × T)) (x0 : σ) {t : τ} (ht : loop f x0 = some t) (L : List HO) (round : ∀ x m lr, f x = some lr → zb6 f m t lr → ∀ J : St → Prop, (∀ st' l' x', XN f m x' = some t → Own.canon (Wd (S x0)) st' = ofL l' → LeL l' (S x') → J st') → AWP Tryd.prog n (sub (path ++ [0]) bd) (ofL (S x)) (Qf Tryd.prog n (.pre J :: frs path Js bd []) Q)) (e : Ju X xO ctr n (Wd (S x0)) 4000 c fs st (hoH L) = some (.at (sub path bd) (frs path Js bd []), ofL (S x0), hoO L) := by kernel_rfl) (e2 : sub path bd = .loop (sub (path ++ [0]) bd) := by kernel_rfl) (hk : ∀ x, Wd (S x) = Wd (S x0) := by exact fun _ => rfl) : AWP Tryd.prog n c st (Qf Tryd.prog n fs Q) := yL6 X zY hC XY bd path Js f S x0 ht _ (LeL.refl _) L hk e e2 round
theorem yJ (X : XH Tryd.prog) (hC : zW Tryd.prog ctr) (bd : Code) (path : List Nat) (Js : List (St → Prop)) {σ : Type} (live : List Nat) (Inv : σ → Prop) (S : σ → List (Nat × T)) (l : List (Nat × T)) (L : List HO) (h1 : ∀ z, Inv z → AWP Tryd.prog n (sub (path ++ [1]) bd) (ofL (S z)) (Qf Tryd.prog n (frs path Js bd []) Q)) (h2 : ∀ J : St → Prop, (∀ st' l' z, Inv z → Own.canon live st' = ofL l' → LeL l' (S z) → J st') → AWP Tryd.prog n (sub (path ++ [2]) bd) (ofL l) (Qf Tryd.prog n (.pre J :: frs path Js bd []) Q)) (e : Ju X xO ctr n (Wd l) 4000 c fs st (hoH L) = some (.at (sub path bd) (frs path Js bd []), ofL l, hoO L) := by kernel_rfl) (e2 : sub path bd = .seq (sub (path ++ [2]) bd) (sub (path ++ [1]) bd) := by kernel_rfl) : AWP Tryd.prog n c st (Qf Tryd.prog n fs Q) := yJ6 X zY hC XY bd path Js live Inv S l L e e2 h1 h2
theorem yF (X : XH Tryd.prog) (hC : zW Tryd.prog ctr) (ex : Exit) (l : List (Nat × T)) (L : List HO) (h : ∀ st0, Own.canon (Wd l) st0 = ofL l → Q ex st0) (e : Ju X xO ctr n (Wd l) 4000 c fs st (hoH L) = some (.fin ex, ofL l, hoO L) := by kernel_rfl) : AWP Tryd.prog n c st (Qf Tryd.prog n fs Q) := yF6 X zY hC XY ex l L e h
theorem yO {k : Nat} {fn : Func} {r : A} {ls : List A} (keep : Bool) (rs : List (Nat × Option Nat)) (body : Code) (nt : Nat) (hf : Tryd.prog.funcs[k]? = some fn) (h : ∀ E : St → Prop, (∀ st x R U, z30 xO keep rs st = some (x, R, U) → LeV x r → E st) → AWP Tryd.prog ⟨nt, []⟩ body (ofL (z4k 0 ls)) (Qf Tryd.prog ⟨nt, []⟩ [] (z4j E))) (hb : fn.body = some body := by kernel_rfl) (hn : nt = fn.ntmps := by exact rfl) (hr : fn.results = (rs.map z4v).toArray := by exact rfl) (hnm : (fn.name == "runtime.NumGoroutine") = false := by exact rfl) (ha : Nat.ble ls.length nt = true := by kernel_rfl) : YN Tryd.prog k ls r := yO6 zY keep rs body nt hf hb hn hr hnm ha h
end
theorem z3j : z63 Tryd.prog 117 90 3 (Qx [.i64, .i64, .i64, .i64, .i64, .i64, .i64, .i64, .i64, .i64, .i64, .i64, .i64, .i64, .i64, .i64, .i64, .i64, .i64, .i64, .i64, .i64, .i64, .i64]) (.atom (.int .i64 0)) := z5g Tryd.underlying117 _ Tryd.underlying90 (Go.Ex.z6o.eqn rfl) (z2H.eqn rfl) rfl ⟨.int .i64 0, fun w => z4s (f := Tryd.t3) (by kernel_rfl) rfl w, fun S => uh.2 ⟨rfl, rfl⟩⟩ rfl
theorem zbl : z8i Tryd.prog 27 3 true := z4S zY (t := 74) Tryd.so27 rfl rfl (by kernel_rfl) (by decide)
def xT : Code := (Tryd.f4.body).getD .skip
def Yj : x5 := spF (α := ya) (ρ := z8) 4 (fun x => [QW x]) (fun r => (xa (eI .i64) (eI .i64) F1_ z4q) r) (fun x => Y8 x) [] (Us)
abbrev UM (x_ : ya) (out_Parts : List zh) : List (Nat × T) := [(2, .own (.box (.agg [I 0, I 0, eOs 1 true (eI .i64) [], eOs 3 true wN []]))), (3, .own (.box (.agg [I 2, I 2, eOs 1 true (eI .i64) ([w64 (Int.tmod x_.Channels.e0 3), w64 (Int.tmod x_.Channels.e1 3)]), eOs 3 false UP out_Parts])))]
abbrev UK (x_ : ya) (i_ : Int) (x34 : Bool) (out_Parts2 : List zh) : List (Nat × T) := [(1, .own (.box (QW x_))), (2, .own (.box (.agg [I 0, I 0, eOs 1 true (eI .i64) [], eOs 3 true wN []]))), (3, .own (.box (.agg [I 2, I 2, eOs 1 true (eI .i64) ([w64 (Int.tmod x_.Channels.e0 3), w64 (Int.tmod x_.Channels.e1 3)]), eOs 3 false UP out_Parts2]))), (4, .d (I i_)), (26, .d (I i_)), (28, .d (eSl 3 false Wx x_.Parts)), (29, .d (I ((x_.Parts.length : Nat) : Int))), (30, .d (B (decide (i_ < ((x_.Parts.length : Nat) : Int))))), (31, .d (B (decide (i_ < ((x_.Parts.length : Nat) : Int))))), (34, .d (B x34))]
abbrev UJ (x_ : ya) (out_Parts1 : List zh) (i_ : Int) (x34 : Bool) (p_States : Int) (p_Arcs : List ze) (p_Final : List Int) : List (Nat × T) := [(1, .own (.box (QW x_))), (2, .own (.box (.agg [I 0, I 0, eOs 1 true (eI .i64) [], eOs 3 true wN []]))), (3, .own (.box (.agg [I 2, I 2, eOs 1 true (eI .i64) ([w64 (Int.tmod x_.Channels.e0 3), w64 (Int.tmod x_.Channels.e1 3)]), eOs 3 false UP out_Parts1]))), (4, .d (I i_)), (5, .own (.box (.agg [I p_States, eOs 5 false vq p_Arcs, eOs 1 false (eI .i64) p_Final]))), (26, .d (I i_)), (28, .d (eSl 3 false Wx x_.Parts)), (29, .d (I ((x_.Parts.length : Nat) : Int))), (30, .d (B (decide (i_ < ((x_.Parts.length : Nat) : Int))))), (31, .d (B (decide (i_ < ((x_.Parts.length : Nat) : Int))))), (34, .d (B x34))]
abbrev UH (x_ : ya) (out_Parts1 : List zh) (i_ : Int) (x34 : Bool) (Part_e : xx) (p_Final1 : List Int) (p_Arcs1 : List ze) (k_ : Int) (Arc_e : z2y Int) (arc_Channel : Int) : List (Nat × T) := [(1, .own (.box (QW x_))), (2, .own (.box (.agg [I 0, I 0, eOs 1 true (eI .i64) [], eOs 3 true wN []]))), (3, .own (.box (.agg [I 2, I 2, eOs 1 true (eI .i64) ([w64 (Int.tmod x_.Channels.e0 3), w64 (Int.tmod x_.Channels.e1 3)]), eOs 3 false UP out_Parts1]))), (4, .d (I i_)), (5, .own (.box (.agg [I (w64 (1 + (w64 (Int.tmod Part_e.States 3)))), eOs 5 false vq p_Arcs1, eOs 1 false (eI .i64) p_Final1]))), (6, .own (.box (Wx Part_e))), (8, .d (I k_)), (10, .own (.box (.agg [I (Int.tmod (w64 (Arc_e.e0)) (w64 (1 + (w64 (Int.tmod Part_e.States 3))))), .atom (.int .u8 (Int.tmod Arc_e.e1 3)), I arc_Channel, I (w64 (Int.tmod Arc_e.e3 2)), I (Int.tmod (w64 (Arc_e.e4)) (w64 (1 + (w64 (Int.tmod Part_e.States 3)))))]))), (26, .d (I i_)), (28, .d (eSl 3 false Wx x_.Parts)), (29, .d (I ((x_.Parts.length : Nat) : Int))), (30, .d (B (decide (i_ < ((x_.Parts.length : Nat) : Int))))), (31, .d (B (decide (i_ < ((x_.Parts.length : Nat) : Int))))), (34, .d (B x34)), (80, .d (I k_)), (81, .d (B (decide (k_ < 6))))]
abbrev UF (x_ : ya) (out_Parts1 : List zh) (i_ : Int) (x34 : Bool) (Part_e : xx) (p_Final1 : List Int) (p_Arcs1 : List ze) (k_ : Int) : List (Nat × T) := [(1, .own (.box (QW x_))), (2, .own (.box (.agg [I 0, I 0, eOs 1 true (eI .i64) [], eOs 3 true wN []]))), (3, .own (.box (.agg [I 2, I 2, eOs 1 true (eI .i64) ([w64 (Int.tmod x_.Channels.e0 3), w64 (Int.tmod x_.Channels.e1 3)]), eOs 3 false UP out_Parts1]))), (4, .d (I i_)), (5, .own (.box (.agg [I (w64 (1 + (w64 (Int.tmod Part_e.States 3)))), eOs 5 false vq p_Arcs1, eOs 1 false (eI .i64) p_Final1]))), (6, .own (.box (Wx Part_e))), (8, .d (I k_)), (26, .d (I i_)), (28, .d (eSl 3 false Wx x_.Parts)), (29, .d (I ((x_.Parts.length : Nat) : Int))), (30, .d (B (decide (i_ < ((x_.Parts.length : Nat) : Int))))), (31, .d (B (decide (i_ < ((x_.Parts.length : Nat) : Int))))), (34, .d (B x34))]
abbrev UI (x_ : ya) (out_Parts1 : List zh) (i_ : Int) (x34 : Bool) (Part_e : xx) (p_Final1 : List Int) : List (Nat × T) := [(1, .own (.box (QW x_))), (2, .own (.box (.agg [I 0, I 0, eOs 1 true (eI .i64) [], eOs 3 true wN []]))), (3, .own (.box (.agg [I 2, I 2, eOs 1 true (eI .i64) ([w64 (Int.tmod x_.Channels.e0 3), w64 (Int.tmod x_.Channels.e1 3)]), eOs 3 false UP out_Parts1]))), (4, .d (I i_)), (5, .own (.box (.agg [I (w64 (1 + (w64 (Int.tmod Part_e.States 3)))), eOs 5 true vq [], eOs 1 false (eI .i64) p_Final1]))), (6, .own (.box (Wx Part_e))), (26, .d (I i_)), (28, .d (eSl 3 false Wx x_.Parts)), (29, .d (I ((x_.Parts.length : Nat) : Int))), (30, .d (B (decide (i_ < ((x_.Parts.length : Nat) : Int))))), (31, .d (B (decide (i_ < ((x_.Parts.length : Nat) : Int))))), (34, .d (B x34))]
abbrev VW (x_ : ya) (out_Parts1 : List zh) (i_ : Int) (x34 : Bool) (Part_e : xx) (s_ : Int) (p_Final3 : List Int) : List (Nat × T) := [(1, .own (.box (QW x_))), (2, .own (.box (.agg [I 0, I 0, eOs 1 true (eI .i64) [], eOs 3 true wN []]))), (3, .own (.box (.agg [I 2, I 2, eOs 1 true (eI .i64) ([w64 (Int.tmod x_.Channels.e0 3), w64 (Int.tmod x_.Channels.e1 3)]), eOs 3 false UP out_Parts1]))), (4, .d (I i_)), (5, .own (.box (.agg [I (w64 (1 + (w64 (Int.tmod Part_e.States 3)))), eOs 5 true vq [], eOs 1 false (eI .i64) p_Final3]))), (6, .own (.box (Wx Part_e))), (7, .d (I s_)), (26, .d (I i_)), (28, .d (eSl 3 false Wx x_.Parts)), (29, .d (I ((x_.Parts.length : Nat) : Int))), (30, .d (B (decide (i_ < ((x_.Parts.length : Nat) : Int))))), (31, .d (B (decide (i_ < ((x_.Parts.length : Nat) : Int))))), (34, .d (B x34))]
abbrev UE (x_ : ya) (out_Parts1 : List zh) (i_ : Int) (x34 : Bool) (Part_e : xx) (p_Final2 : List Int) (s_ : Int) : List (Nat × T) := [(1, .own (.box (QW x_))), (2, .own (.box (.agg [I 0, I 0, eOs 1 true (eI .i64) [], eOs 3 true wN []]))), (3, .own (.box (.agg [I 2, I 2, eOs 1 true (eI .i64) ([w64 (Int.tmod x_.Channels.e0 3), w64 (Int.tmod x_.Channels.e1 3)]), eOs 3 false UP out_Parts1]))), (4, .d (I i_)), (5, .own (.box (.agg [I (w64 (1 + (w64 (Int.tmod Part_e.States 3)))), eOs 5 true vq [], eOs 1 false (eI .i64) p_Final2]))), (6, .own (.box (Wx Part_e))), (7, .d (I s_)), (26, .d (I i_)), (28, .d (eSl 3 false Wx x_.Parts)), (29, .d (I ((x_.Parts.length : Nat) : Int))), (30, .d (B (decide (i_ < ((x_.Parts.length : Nat) : Int))))), (31, .d (B (decide (i_ < ((x_.Parts.length : Nat) : Int))))), (34, .d (B x34))]
abbrev UL (x_ : ya) (out_Parts1 : List zh) (i_ : Int) (x34 : Bool) : List (Nat × T) := [(1, .own (.box (QW x_))), (2, .own (.box (.agg [I 0, I 0, eOs 1 true (eI .i64) [], eOs 3 true wN []]))), (3, .own (.box (.agg [I 2, I 2, eOs 1 true (eI .i64) ([w64 (Int.tmod x_.Channels.e0 3), w64 (Int.tmod x_.Channels.e1 3)]), eOs 3 false UP out_Parts1]))), (4, .d (I i_)), (26, .d (I i_)), (28, .d (eSl 3 false Wx x_.Parts)), (29, .d (I ((x_.Parts.length : Nat) : Int))), (30, .d (B (decide (i_ < ((x_.Parts.length : Nat) : Int))))), (31, .d (B (decide (i_ < ((x_.Parts.length : Nat) : Int))))), (34, .d (B x34))]
abbrev UG (x_ : ya) (out_Parts1 : List zh) (i_ : Int) : List (Nat × T) := [(1, .own (.box (QW x_))), (2, .own (.box (.agg [I 0, I 0, eOs 1 true (eI .i64) [], eOs 3 true wN []]))), (3, .own (.box (.agg [I 2, I 2, eOs 1 true (eI .i64) ([w64 (Int.tmod x_.Channels.e0 3), w64 (Int.tmod x_.Channels.e1 3)]), eOs 3 false UP out_Parts1]))), (4, .d (I i_))]
theorem KK {ctr : Ctr} (hC : zW Tryd.prog ctr) : Yj.Ok Tryd.prog := by
 refine yd ?_
 rintro x_ r0 hf0
 try unfold Y8 at hf0
 refine yO false [(2, some 29)] xT 131 Tryd.func4 fun E hE => ?_
 obtain ⟨g0, hf0⟩ := gdE hf0
 obtain ⟨g1, hf0⟩ := gdE hf0
 refine yJ X0 hC xT [1,1] [] [2,3] (fun z : List zh => Yu x_ z = some r0) (fun z => UM x_ z) [(1, .own (.box (QW x_))), (2, .own (.box (.agg [I 0, I 0, eOs 1 true (eI .i64) [], eOs 3 true wN []]))), (3, .own (.box (.agg [I 2, I 2, eOs 1 true (eI .i64) ([w64 (Int.tmod x_.Channels.e0 3), w64 (Int.tmod x_.Channels.e1 3)]), eOs 3 true wN []])))] [Hn (⟨rfl, by decide⟩ : true = true ∧ 0 < 2), Hn g0, Hn (⟨rfl, by decide⟩ : true = true ∧ 1 < 2), Hn g1, Hh (.cut 2)] ?_ fun J1 hJ1 => ?_
 ·rintro out_Parts hf0
  unfold Yu at hf0
  obtain rfl := zn hf0
  exact yE X0 hC hE [Hm (shM (eI .i64) (eI .i64) ([w64 (Int.tmod x_.Channels.e0 3), w64 (Int.tmod x_.Channels.e1 3)])), Hm (shM UP wN out_Parts)]
 ·obtain ⟨t2, ht2, hf0⟩ := zp hf0
  refine yLx X0 hC xT [1,1,2,1,0] [J1] (fun s => jH x_ s.1 s.2) (fun x => UG x_ x.1 x.2) (([] : List zh), 0) ht2 [(1, .own (.box (QW x_))), (2, .own (.box (.agg [I 0, I 0, eOs 1 true (eI .i64) [], eOs 3 true wN []]))), (3, .own (.box (.agg [I 2, I 2, eOs 1 true (eI .i64) ([w64 (Int.tmod x_.Channels.e0 3), w64 (Int.tmod x_.Channels.e1 3)]), eOs 3 true UP []]))), (4, .d (I 0))] inferInstance [] ?_
  rintro ⟨out_Parts1, i_⟩ m2 lr1 hf1 hl1 J2 hJ2
  try unfold jH at hf1
  refine yJ X0 hC xT [1,1,2,1,0,0] [J1, J2] [1,2,3,4,26,28,29,30,31,34] (fun z : Bool => u7 x_ out_Parts1 i_ z = some lr1) (fun z => UL x_ out_Parts1 i_ z) [(1, .own (.box (QW x_))), (2, .own (.box (.agg [I 0, I 0, eOs 1 true (eI .i64) [], eOs 3 true wN []]))), (3, .own (.box (.agg [I 2, I 2, eOs 1 true (eI .i64) ([w64 (Int.tmod x_.Channels.e0 3), w64 (Int.tmod x_.Channels.e1 3)]), eOs 3 false UP out_Parts1]))), (4, .d (I i_))] [Hh (.cut 0)] ?_ fun J3 hJ3 => ?_
  ·rintro x34 hf1
   unfold u7 at hf1
   refine yJ X0 hC xT [1,1,2,1,0,0,1] [J1, J2] [1,2,3,4,26,28,29,30,31,34] (fun z : List zh => kJ i_ z = some lr1) (fun z => UK x_ i_ x34 z) [(1, .own (.box (QW x_))), (2, .own (.box (.agg [I 0, I 0, eOs 1 true (eI .i64) [], eOs 3 true wN []]))), (3, .own (.box (.agg [I 2, I 2, eOs 1 true (eI .i64) ([w64 (Int.tmod x_.Channels.e0 3), w64 (Int.tmod x_.Channels.e1 3)]), eOs 3 false UP out_Parts1]))), (4, .d (I i_)), (26, .d (I i_)), (28, .d (eSl 3 false Wx x_.Parts)), (29, .d (I ((x_.Parts.length : Nat) : Int))), (30, .d (B (decide (i_ < ((x_.Parts.length : Nat) : Int))))), (31, .d (B (decide (i_ < ((x_.Parts.length : Nat) : Int))))), (34, .d (B x34))] [Hh (.cut 0)] ?_ fun J4 hJ4 => ?_
   ·rintro out_Parts2 hf1
    unfold kJ at hf1
    obtain rfl := zn hf1
    exact yB X0 hC hJ2 (out_Parts2, w64 (i_ + 1)) hl1 []
   ·refine yJ X0 hC xT [1,1,2,1,0,0,1,2,0,1] [J1, J2, J4] [1,2,3,4,5,26,28,29,30,31,34] (fun z : Int × List ze × List Int => qa out_Parts1 i_ z.1 z.2.1 z.2.2 = some lr1) (fun z => UJ x_ out_Parts1 i_ x34 z.1 z.2.1 z.2.2) [(1, .own (.box (QW x_))), (2, .own (.box (.agg [I 0, I 0, eOs 1 true (eI .i64) [], eOs 3 true wN []]))), (3, .own (.box (.agg [I 2, I 2, eOs 1 true (eI .i64) ([w64 (Int.tmod x_.Channels.e0 3), w64 (Int.tmod x_.Channels.e1 3)]), eOs 3 false UP out_Parts1]))), (4, .d (I i_)), (5, .own (.box (.agg [I 1, eOs 5 true vq [], eOs 1 true (eI .i64) []]))), (26, .d (I i_)), (28, .d (eSl 3 false Wx x_.Parts)), (29, .d (I ((x_.Parts.length : Nat) : Int))), (30, .d (B (decide (i_ < ((x_.Parts.length : Nat) : Int))))), (31, .d (B (decide (i_ < ((x_.Parts.length : Nat) : Int))))), (34, .d (B x34))] [Hh (.cut 1)] ?_ fun J5 hJ5 => ?_
    ·rintro ⟨p_States, p_Arcs, p_Final⟩ hf1
     unfold qa at hf1
     obtain ⟨g2, hf1⟩ := gdE hf1
     exact yB X0 hC hJ4 (out_Parts1 ++ ([(zh.mk p_States p_Arcs p_Final)] : List zh)) hf1 [Hq (oC UP (zh.mk p_States p_Arcs p_Final) []), Hn (aL UP UP g2), Hl (aM UP out_Parts1 ([(zh.mk p_States p_Arcs p_Final)] : List zh))]
    ·let Z0 : List HO := [Ha (lnM Wx x_.Parts)]
     rcases yb hf1 with ⟨c0, hf1⟩ | ⟨c0, hf1⟩
     ·obtain ⟨Part_e, h0, hf1⟩ := zp hf1
      obtain ⟨g3, hf1⟩ := gdE hf1
      refine yJ X0 hC xT [1,1,2,1,0,0,1,2,0,1,2,1,0,1,1] [J1, J2, J4, J5] [1,2,3,4,5,6,26,28,29,30,31,34] (fun z : List Int => kI out_Parts1 i_ Part_e z = some lr1) (fun z => UI x_ out_Parts1 i_ x34 Part_e z) [(1, .own (.box (QW x_))), (2, .own (.box (.agg [I 0, I 0, eOs 1 true (eI .i64) [], eOs 3 true wN []]))), (3, .own (.box (.agg [I 2, I 2, eOs 1 true (eI .i64) ([w64 (Int.tmod x_.Channels.e0 3), w64 (Int.tmod x_.Channels.e1 3)]), eOs 3 false UP out_Parts1]))), (4, .d (I i_)), (5, .own (.box (.agg [I (w64 (1 + (w64 (Int.tmod Part_e.States 3)))), eOs 5 true vq [], eOs 1 true (eI .i64) []]))), (6, .own (.box (Wx Part_e))), (26, .d (I i_)), (28, .d (eSl 3 false Wx x_.Parts)), (29, .d (I ((x_.Parts.length : Nat) : Int))), (30, .d (B (decide (i_ < ((x_.Parts.length : Nat) : Int))))), (31, .d (B (decide (i_ < ((x_.Parts.length : Nat) : Int))))), (34, .d (B x34))] (Z0 ++ [Hq c0, Hi Wx h0, Hn g3, Hh (.cut 1)]) ?_ fun J6 hJ6 => ?_
      ·rintro p_Final1 hf1
       unfold kI at hf1
       obtain ⟨t7, ht7, hf1⟩ := zp hf1
       refine yLx X0 hC xT [1,1,2,1,0,0,1,2,0,1,2,1,0,1,1,1,1,0] [J1, J2, J4, J5] (fun s => jG Part_e p_Final1 s.1 s.2) (fun x => UF x_ out_Parts1 i_ x34 Part_e p_Final1 x.1 x.2) (([] : List ze), 0) ht7 [(1, .own (.box (QW x_))), (2, .own (.box (.agg [I 0, I 0, eOs 1 true (eI .i64) [], eOs 3 true wN []]))), (3, .own (.box (.agg [I 2, I 2, eOs 1 true (eI .i64) ([w64 (Int.tmod x_.Channels.e0 3), w64 (Int.tmod x_.Channels.e1 3)]), eOs 3 false UP out_Parts1]))), (4, .d (I i_)), (5, .own (.box (.agg [I (w64 (1 + (w64 (Int.tmod Part_e.States 3)))), eOs 5 true vq [], eOs 1 false (eI .i64) p_Final1]))), (6, .own (.box (Wx Part_e))), (8, .d (I 0)), (26, .d (I i_)), (28, .d (eSl 3 false Wx x_.Parts)), (29, .d (I ((x_.Parts.length : Nat) : Int))), (30, .d (B (decide (i_ < ((x_.Parts.length : Nat) : Int))))), (31, .d (B (decide (i_ < ((x_.Parts.length : Nat) : Int))))), (34, .d (B x34))] inferInstance [] ?_
       rintro ⟨p_Arcs1, k_⟩ m7 lr2 hf2 hl2 J7 hJ7
       try unfold jG at hf2
       let Z1 : List HO := [Ha (lnM (YU (eI .u8)) Part_e.Arcs)]
       rcases yb hf2 with ⟨c1, hf2⟩ | ⟨c1, hf2⟩
       ·rcases yb hf2 with ⟨c2, hf2⟩ | ⟨c2, hf2⟩
        ·obtain ⟨Arc_e, h1, hf2⟩ := zp hf2
         obtain ⟨g4, hf2⟩ := gdE hf2
         obtain ⟨g5, hf2⟩ := gdE hf2
         obtain ⟨g6, hf2⟩ := gdE hf2
         obtain ⟨g7, hf2⟩ := gdE hf2
         obtain ⟨g8, hf2⟩ := gdE hf2
         refine yJ X0 hC xT [1,1,2,1,0,0,1,2,0,1,2,1,0,1,1,1,1,0,0,1,0,0,1,1] [J1, J2, J4, J5, J7] [1,2,3,4,5,6,8,10,26,28,29,30,31,34,80,81] (fun z : Int => uZ Part_e p_Arcs1 k_ Arc_e z = some lr2) (fun z => UH x_ out_Parts1 i_ x34 Part_e p_Final1 p_Arcs1 k_ Arc_e z) [(1, .own (.box (QW x_))), (2, .own (.box (.agg [I 0, I 0, eOs 1 true (eI .i64) [], eOs 3 true wN []]))), (3, .own (.box (.agg [I 2, I 2, eOs 1 true (eI .i64) ([w64 (Int.tmod x_.Channels.e0 3), w64 (Int.tmod x_.Channels.e1 3)]), eOs 3 false UP out_Parts1]))), (4, .d (I i_)), (5, .own (.box (.agg [I (w64 (1 + (w64 (Int.tmod Part_e.States 3)))), eOs 5 false vq p_Arcs1, eOs 1 false (eI .i64) p_Final1]))), (6, .own (.box (Wx Part_e))), (8, .d (I k_)), (10, .own (.box (.agg [I (Int.tmod (w64 (Arc_e.e0)) (w64 (1 + (w64 (Int.tmod Part_e.States 3))))), .atom (.int .u8 (Int.tmod Arc_e.e1 3)), I (w64 (Int.tmod Arc_e.e2 2)), I (w64 (Int.tmod Arc_e.e3 2)), I (Int.tmod (w64 (Arc_e.e4)) (w64 (1 + (w64 (Int.tmod Part_e.States 3)))))]))), (26, .d (I i_)), (28, .d (eSl 3 false Wx x_.Parts)), (29, .d (I ((x_.Parts.length : Nat) : Int))), (30, .d (B (decide (i_ < ((x_.Parts.length : Nat) : Int))))), (31, .d (B (decide (i_ < ((x_.Parts.length : Nat) : Int))))), (34, .d (B x34)), (80, .d (I k_)), (81, .d (B (decide (k_ < 6))))] (Z1 ++ [Hq c1, Hq c1, Hq c1, Hq c2, Hi (YU (eI .u8)) h1, Hn (⟨rfl, by decide⟩ : true = true ∧ 0 < 5), Hn g4, Hn (⟨rfl, by decide⟩ : true = true ∧ 1 < 5), Hn g5, Hn (⟨rfl, by decide⟩ : true = true ∧ 2 < 5), Hn g6, Hn (⟨rfl, by decide⟩ : true = true ∧ 3 < 5), Hn g7, Hn (⟨rfl, by decide⟩ : true = true ∧ 4 < 5), Hn g8, Hh (.cut 1)]) ?_ fun J8 hJ8 => ?_
         ·rintro arc_Channel hf2
          unfold uZ at hf2
          obtain ⟨g9, hf2⟩ := gdE hf2
          obtain rfl := zn hf2
          exact yB X0 hC hJ7 ((p_Arcs1 ++ ([(ze.mk (Int.tmod (w64 (Arc_e.e0)) (w64 (1 + (w64 (Int.tmod Part_e.States 3))))) (Int.tmod Arc_e.e1 3) arc_Channel (w64 (Int.tmod Arc_e.e3 2)) (Int.tmod (w64 (Arc_e.e4)) (w64 (1 + (w64 (Int.tmod Part_e.States 3))))))] : List ze)), w64 (k_ + 1)) hl2 [Hq (dM vq ([(ze.mk (Int.tmod (w64 (Arc_e.e0)) (w64 (1 + (w64 (Int.tmod Part_e.States 3))))) (Int.tmod Arc_e.e1 3) arc_Channel (w64 (Int.tmod Arc_e.e3 2)) (Int.tmod (w64 (Arc_e.e4)) (w64 (1 + (w64 (Int.tmod Part_e.States 3))))))] : List ze)), Hn (dM vq ([(ze.mk (Int.tmod (w64 (Arc_e.e0)) (w64 (1 + (w64 (Int.tmod Part_e.States 3))))) (Int.tmod Arc_e.e1 3) arc_Channel (w64 (Int.tmod Arc_e.e3 2)) (Int.tmod (w64 (Arc_e.e4)) (w64 (1 + (w64 (Int.tmod Part_e.States 3))))))] : List ze)), Hn (aL vq vq g9), Hl (aM vq p_Arcs1 ([(ze.mk (Int.tmod (w64 (Arc_e.e0)) (w64 (1 + (w64 (Int.tmod Part_e.States 3))))) (Int.tmod Arc_e.e1 3) arc_Channel (w64 (Int.tmod Arc_e.e3 2)) (Int.tmod (w64 (Arc_e.e4)) (w64 (1 + (w64 (Int.tmod Part_e.States 3))))))] : List ze))]
         ·rcases yb hf2 with ⟨c3, hf2⟩ | ⟨c3, hf2⟩
          ·exact yB X0 hC hJ8 0 hf2 [Hq c3]
          ·exact yB X0 hC hJ8 (w64 (Int.tmod Arc_e.e2 2)) hf2 [Hq c3]
        ·obtain rfl := zn hf2
         obtain rfl := hl2
         exact yB X0 hC hJ5 (w64 (1 + (w64 (Int.tmod Part_e.States 3))), p_Arcs1, p_Final1) hf1 (Z1 ++ [Hq c1, Hq c1, Hq c1, Hq c2])
       ·obtain rfl := zn hf2
        obtain rfl := hl2
        exact yB X0 hC hJ5 (w64 (1 + (w64 (Int.tmod Part_e.States 3))), p_Arcs1, p_Final1) hf1 (Z1 ++ [Hq c1, Hq c1, Hq c1, qF])
      ·obtain ⟨t9, ht9, hf1⟩ := zp hf1
       refine yLx X0 hC xT [1,1,2,1,0,0,1,2,0,1,2,1,0,1,1,2,1,0] [J1, J2, J4, J5, J6] (fun s => jF Part_e s.1 s.2) (fun x => UE x_ out_Parts1 i_ x34 Part_e x.1 x.2) (([] : List Int), 0) ht9 [(1, .own (.box (QW x_))), (2, .own (.box (.agg [I 0, I 0, eOs 1 true (eI .i64) [], eOs 3 true wN []]))), (3, .own (.box (.agg [I 2, I 2, eOs 1 true (eI .i64) ([w64 (Int.tmod x_.Channels.e0 3), w64 (Int.tmod x_.Channels.e1 3)]), eOs 3 false UP out_Parts1]))), (4, .d (I i_)), (5, .own (.box (.agg [I (w64 (1 + (w64 (Int.tmod Part_e.States 3)))), eOs 5 true vq [], eOs 1 true (eI .i64) []]))), (6, .own (.box (Wx Part_e))), (7, .d (I 0)), (26, .d (I i_)), (28, .d (eSl 3 false Wx x_.Parts)), (29, .d (I ((x_.Parts.length : Nat) : Int))), (30, .d (B (decide (i_ < ((x_.Parts.length : Nat) : Int))))), (31, .d (B (decide (i_ < ((x_.Parts.length : Nat) : Int))))), (34, .d (B x34))] inferInstance [] ?_
       rintro ⟨p_Final2, s_⟩ m9 lr2 hf2 hl2 J9 hJ9
       try unfold jF at hf2
       rcases yb hf2 with ⟨c4, hf2⟩ | ⟨c4, hf2⟩
       ·refine yJ X0 hC xT [1,1,2,1,0,0,1,2,0,1,2,1,0,1,1,2,1,0,0,1] [J1, J2, J4, J5, J6, J9] [1,2,3,4,5,6,7,26,28,29,30,31,34] (fun z : List Int => qG s_ z = some lr2) (fun z => VW x_ out_Parts1 i_ x34 Part_e s_ z) [(1, .own (.box (QW x_))), (2, .own (.box (.agg [I 0, I 0, eOs 1 true (eI .i64) [], eOs 3 true wN []]))), (3, .own (.box (.agg [I 2, I 2, eOs 1 true (eI .i64) ([w64 (Int.tmod x_.Channels.e0 3), w64 (Int.tmod x_.Channels.e1 3)]), eOs 3 false UP out_Parts1]))), (4, .d (I i_)), (5, .own (.box (.agg [I (w64 (1 + (w64 (Int.tmod Part_e.States 3)))), eOs 5 true vq [], eOs 1 false (eI .i64) p_Final2]))), (6, .own (.box (Wx Part_e))), (7, .d (I s_)), (26, .d (I i_)), (28, .d (eSl 3 false Wx x_.Parts)), (29, .d (I ((x_.Parts.length : Nat) : Int))), (30, .d (B (decide (i_ < ((x_.Parts.length : Nat) : Int))))), (31, .d (B (decide (i_ < ((x_.Parts.length : Nat) : Int))))), (34, .d (B x34))] [Hq c4, Hh (.cut 0)] ?_ fun J10 hJ10 => ?_
        ·rintro p_Final3 hf2
         unfold qG at hf2
         obtain rfl := zn hf2
         exact yB X0 hC hJ9 (p_Final3, w64 (s_ + 1)) hl2 []
        ·obtain ⟨g10, hf2⟩ := gdE hf2
         rcases yb hf2 with ⟨c5, hf2⟩ | ⟨c5, hf2⟩
         ·obtain ⟨g11, hf2⟩ := gdE hf2
          exact yB ((zcR Tryd.prog).or ((zcO Tryd.prog).or X0)) hC hJ10 (p_Final2 ++ ([s_] : List Int)) hf2 [Hn g10, Hq c5, Hq (dM (eI .i64) ([s_] : List Int)), Hn (dM (eI .i64) ([s_] : List Int)), Hn (aL (eI .i64) (eI .i64) g11), Hl (aM (eI .i64) p_Final2 ([s_] : List Int))]
         ·exact yB ((zcR Tryd.prog).or ((zcO Tryd.prog).or X0)) hC hJ10 p_Final2 hf2 [Hn g10, Hq c5]
       ·obtain rfl := zn hf2
        obtain rfl := hl2
        exact yB X0 hC hJ6 p_Final2 hf1 [Hq c4]
     ·exact yBx X0 hC hJ5 (1, ([] : List ze), ([] : List Int)) hf1 [(1, .own (.box (QW x_))), (2, .own (.box (.agg [I 0, I 0, eOs 1 true (eI .i64) [], eOs 3 true wN []]))), (3, .own (.box (.agg [I 2, I 2, eOs 1 true (eI .i64) ([w64 (Int.tmod x_.Channels.e0 3), w64 (Int.tmod x_.Channels.e1 3)]), eOs 3 false UP out_Parts1]))), (4, .d (I i_)), (5, .own (.box (.agg [I 1, eOs 5 true vq [], eOs 1 true (eI .i64) []]))), (26, .d (I i_)), (28, .d (eSl 3 false Wx x_.Parts)), (29, .d (I ((x_.Parts.length : Nat) : Int))), (30, .d (B (decide (i_ < ((x_.Parts.length : Nat) : Int))))), (31, .d (B (decide (i_ < ((x_.Parts.length : Nat) : Int))))), (34, .d (B x34))] inferInstance (Z0 ++ [Hq c0])
  ·rcases yb hf1 with ⟨c6, hf1⟩ | ⟨c6, hf1⟩
   ·let Z2 : List HO := (rpN 4 (Hq c6) [Ha (lnM Wx x_.Parts), Hq c6, Hq c6])
    rcases yb hf1 with ⟨c7, hf1⟩ | ⟨c7, hf1⟩
    ·exact yB X0 hC hJ3 true hf1 (Z2 ++ [Hq c7, Hq c7, Hq c6, Hq c7, Hq c6, qT])
    ·let Z3 : List HO := (Z2 ++ [Hq c7, Hq c7, Hq c6, Hq c7, Hq c6])
     rcases yb hf1 with ⟨c8, hf1⟩ | ⟨c8, hf1⟩
     ·exact yB X0 hC hJ3 (i_ == 0) hf1 (Z3 ++ [Hq c8])
     ·obtain rfl := zn hf1
      obtain rfl := hl1
      exact yB X0 hC hJ1 out_Parts1 hf0 (Z3 ++ [Hq c8])
   ·obtain rfl := zn hf1
    obtain rfl := hl1
    exact yB X0 hC hJ1 out_Parts1 hf0 (rpN 8 (Hq c6) [qF])
def Jg : Code := (Tryd.f9.body).getD .skip
def ZN : x5 := spF (α := z8) (ρ := z7) 9 (fun x => [xi x]) (fun r => KA r) (fun x => Zb x) [] (Us)
theorem JT {ctr : Ctr} (hC : zW Tryd.prog ctr) : ZN.Ok Tryd.prog := by
 refine yd ?_
 rintro x_ r0 hf0
 try unfold Zb at hf0
 refine yO false [(2, some 53)] Jg 12 Tryd.func9 fun E hE => ?_
 obtain ⟨g0, hf0⟩ := gdE hf0
 obtain ⟨g1, hf0⟩ := gdE hf0
 obtain rfl := zn hf0
 exact yE X0 hC hE [Ha (lnM wN x_.Parts), Hn (rL g0), Ha (rM 1 (eI .i64) ((x_.Parts.length : Nat) : Int) (0 : Int)), Ha (lnM (eI .i64) x_.Channels), Hn (rL g1), Ha (rM 1 (eOs 1 true (eI .i64)) ((x_.Channels.length : Nat) : Int) ([] : List Int)), Hm (shM (eI .i64) (eI .i64) (List.replicate ((x_.Parts.length : Nat) : Int).toNat (0 : Int))), Hm (shM (eOs 1 true (eI .i64)) F1_ (List.replicate ((x_.Channels.length : Nat) : Int).toNat ([] : List Int)))]
def ub : Code := (Tryd.f23.body).getD .skip
def Yf : x5 := spF (α := z7 × Int × Int × Int × List Int) (ρ := z7) 23 (fun x => [wd x.1, (eI .i64) x.2.1, (eI .i64) x.2.2.1, (eI .i64) x.2.2.2.1, F2_ x.2.2.2.2]) (fun r => wd r) (fun x => uY x.1 x.2.1 x.2.2.1 x.2.2.2.1 x.2.2.2.2) [] (zeE)
abbrev UA (out_States : List Int) (out_Queues : List (List Int)) : List (Nat × T) := [(10, .own (.box (.agg [eOs 1 true (eI .i64) [], eOs 1 true F2_ []]))), (11, .own (.box (.agg [eOs 1 false (eI .i64) out_States, eOs 1 false F2_ out_Queues])))]
abbrev Uz (c_ : z7) (channel : Int) (queue : List Int) (out_States : List Int) (out_Queues1 : List (List Int)) (i_ : Int) (q_ : List Int) : List (Nat × T) := [(3, .d (I channel)), (4, .d (eSl 1 false (eI .i64) queue)), (5, .own (.box (wd c_))), (10, .own (.box (.agg [eOs 1 true (eI .i64) [], eOs 1 true F2_ []]))), (11, .own (.box (.agg [eOs 1 false (eI .i64) out_States, eOs 1 false F2_ out_Queues1]))), (14, .d (I i_)), (15, .d (eSl 1 false (eI .i64) q_))]
abbrev Ux (c_ : z7) (channel : Int) (queue : List Int) (out_States : List Int) (out_Queues1 : List (List Int)) (i_ : Int) : List (Nat × T) := [(3, .d (I channel)), (4, .d (eSl 1 false (eI .i64) queue)), (5, .own (.box (wd c_))), (10, .own (.box (.agg [eOs 1 true (eI .i64) [], eOs 1 true F2_ []]))), (11, .own (.box (.agg [eOs 1 false (eI .i64) out_States, eOs 1 false F2_ out_Queues1]))), (14, .d (I i_))]
abbrev UB (c_ : z7) (channel : Int) (queue : List Int) (out_States : List Int) : List (Nat × T) := [(3, .d (I channel)), (4, .d (eSl 1 false (eI .i64) queue)), (5, .own (.box (wd c_))), (10, .own (.box (.agg [eOs 1 true (eI .i64) [], eOs 1 true F2_ []]))), (11, .own (.box (.agg [eOs 1 false (eI .i64) out_States, eOs 1 true F2_ []])))]
abbrev Uy (c_ : z7) (part : Int) (state : Int) (channel : Int) (queue : List Int) (out_States1 : List Int) (i_1 : Int) (n_ : Int) : List (Nat × T) := [(1, .d (I part)), (2, .d (I state)), (3, .d (I channel)), (4, .d (eSl 1 false (eI .i64) queue)), (5, .own (.box (wd c_))), (10, .own (.box (.agg [eOs 1 true (eI .i64) [], eOs 1 true F2_ []]))), (11, .own (.box (.agg [eOs 1 false (eI .i64) out_States1, eOs 1 true F2_ []]))), (12, .d (I i_1)), (13, .d (I n_))]
abbrev Uw (c_ : z7) (part : Int) (state : Int) (channel : Int) (queue : List Int) (out_States1 : List Int) (i_1 : Int) : List (Nat × T) := [(1, .d (I part)), (2, .d (I state)), (3, .d (I channel)), (4, .d (eSl 1 false (eI .i64) queue)), (5, .own (.box (wd c_))), (10, .own (.box (.agg [eOs 1 true (eI .i64) [], eOs 1 true F2_ []]))), (11, .own (.box (.agg [eOs 1 false (eI .i64) out_States1, eOs 1 true F2_ []]))), (12, .d (I i_1))]
theorem KF {ctr : Ctr} (hC : zW Tryd.prog ctr) : Yf.Ok Tryd.prog := by
 refine yd ?_
 rintro ⟨c_, part, state, channel, queue⟩ r0 hf0
 try unfold uY at hf0
 refine yO false [(10, some 53)] ub 61 Tryd.func23 fun E hE => ?_
 refine yJ X0 hC ub [1,1] [] [3,4,5,10,11] (fun z : List Int => kG c_ channel queue z = some r0) (fun z => UB c_ channel queue z) [(1, .d (I part)), (2, .d (I state)), (3, .d (I channel)), (4, .d (eSl 1 false (eI .i64) queue)), (5, .own (.box (wd c_))), (10, .own (.box (.agg [eOs 1 true (eI .i64) [], eOs 1 true F2_ []]))), (11, .own (.box (.agg [eOs 1 true (eI .i64) [], eOs 1 true F2_ []])))] [Hh (.cut 2)] ?_ fun J1 hJ1 => ?_
 ·rintro out_States hf0
  unfold kG at hf0
  refine yJ X0 hC ub [1,1,1] [] [10,11] (fun z : List (List Int) => Yp out_States z = some r0) (fun z => UA out_States z) [(3, .d (I channel)), (4, .d (eSl 1 false (eI .i64) queue)), (5, .own (.box (wd c_))), (10, .own (.box (.agg [eOs 1 true (eI .i64) [], eOs 1 true F2_ []]))), (11, .own (.box (.agg [eOs 1 false (eI .i64) out_States, eOs 1 true F2_ []])))] [Hh (.cut 0)] ?_ fun J2 hJ2 => ?_
  ·rintro out_Queues hf0
   unfold Yp at hf0
   obtain rfl := zn hf0
   exact yE X0 hC hE [Hm (shM (eI .i64) (eI .i64) out_States), Hm (shM F2_ F2_ out_Queues)]
  ·obtain ⟨t3, ht3, hf0⟩ := zp hf0
   refine yLx X0 hC ub [1,1,1,2,1,0] [J2] (fun s => uX c_ channel queue s.1 s.2) (fun x => Ux c_ channel queue out_States x.1 x.2) (([] : List (List Int)), 0) ht3 [(3, .d (I channel)), (4, .d (eSl 1 false (eI .i64) queue)), (5, .own (.box (wd c_))), (10, .own (.box (.agg [eOs 1 true (eI .i64) [], eOs 1 true F2_ []]))), (11, .own (.box (.agg [eOs 1 false (eI .i64) out_States, eOs 1 true F2_ []]))), (14, .d (I 0))] inferInstance [] ?_
   rintro ⟨out_Queues1, i_⟩ m3 lr1 hf1 hl1 J3 hJ3
   try unfold uX at hf1
   let Z0 : List HO := [Ha (lnM F2_ c_.Queues)]
   rcases yb hf1 with ⟨c0, hf1⟩ | ⟨c0, hf1⟩
   ·obtain ⟨Queue_e, h0, hf1⟩ := zp hf1
    refine yJ X0 hC ub [1,1,1,2,1,0,0,1,0,0,1] [J2, J3] [3,4,5,10,11,14,15] (fun z : List Int => jD out_Queues1 i_ z = some lr1) (fun z => Uz c_ channel queue out_States out_Queues1 i_ z) [(3, .d (I channel)), (4, .d (eSl 1 false (eI .i64) queue)), (5, .own (.box (wd c_))), (10, .own (.box (.agg [eOs 1 true (eI .i64) [], eOs 1 true F2_ []]))), (11, .own (.box (.agg [eOs 1 false (eI .i64) out_States, eOs 1 false F2_ out_Queues1]))), (14, .d (I i_)), (15, .d (eSl 1 false (eI .i64) Queue_e))] (Z0 ++ [Hq c0, Hi F2_ h0, Hh (.cut 0)]) ?_ fun J4 hJ4 => ?_
    ·rintro q_ hf1
     unfold jD at hf1
     obtain ⟨g0, hf1⟩ := gdE hf1
     obtain rfl := zn hf1
     exact yB X0 hC hJ3 ((out_Queues1 ++ ([q_] : List (List Int))), w64 (i_ + 1)) hl1 [Hq (dM F2_ ([q_] : List (List Int))), Hn (dM F2_ ([q_] : List (List Int))), Hn (aL F2_ F2_ g0), Hl (aM F2_ out_Queues1 ([q_] : List (List Int)))]
    ·rcases yb hf1 with ⟨c1, hf1⟩ | ⟨c1, hf1⟩
     ·exact yB X0 hC hJ4 queue hf1 [Hq c1]
     ·exact yB X0 hC hJ4 Queue_e hf1 [Hq c1]
   ·obtain rfl := zn hf1
    obtain rfl := hl1
    exact yB X0 hC hJ2 out_Queues1 hf0 (Z0 ++ [Hq c0])
 ·obtain ⟨t5, ht5, hf0⟩ := zp hf0
  refine yLx X0 hC ub [1,1,2,1,0] [J1] (fun s => uW c_ part state s.1 s.2) (fun x => Uw c_ part state channel queue x.1 x.2) (([] : List Int), 0) ht5 [(1, .d (I part)), (2, .d (I state)), (3, .d (I channel)), (4, .d (eSl 1 false (eI .i64) queue)), (5, .own (.box (wd c_))), (10, .own (.box (.agg [eOs 1 true (eI .i64) [], eOs 1 true F2_ []]))), (11, .own (.box (.agg [eOs 1 true (eI .i64) [], eOs 1 true F2_ []]))), (12, .d (I 0))] inferInstance [] ?_
  rintro ⟨out_States1, i_1⟩ m5 lr1 hf1 hl1 J5 hJ5
  try unfold uW at hf1
  let Z1 : List HO := [Ha (lnM (eI .i64) c_.States)]
  rcases yb hf1 with ⟨c2, hf1⟩ | ⟨c2, hf1⟩
  ·obtain ⟨State_e, h1, hf1⟩ := zp hf1
   refine yJ X0 hC ub [1,1,2,1,0,0,1,0,0,1] [J1, J5] [1,2,3,4,5,10,11,12,13] (fun z : Int => jC out_States1 i_1 z = some lr1) (fun z => Uy c_ part state channel queue out_States1 i_1 z) [(1, .d (I part)), (2, .d (I state)), (3, .d (I channel)), (4, .d (eSl 1 false (eI .i64) queue)), (5, .own (.box (wd c_))), (10, .own (.box (.agg [eOs 1 true (eI .i64) [], eOs 1 true F2_ []]))), (11, .own (.box (.agg [eOs 1 false (eI .i64) out_States1, eOs 1 true F2_ []]))), (12, .d (I i_1)), (13, .d (I State_e))] (Z1 ++ [Hq c2, Hi (eI .i64) h1, Hh (.cut 0)]) ?_ fun J6 hJ6 => ?_
   ·rintro n_ hf1
    unfold jC at hf1
    obtain ⟨g1, hf1⟩ := gdE hf1
    obtain rfl := zn hf1
    exact yB X0 hC hJ5 ((out_States1 ++ ([n_] : List Int)), w64 (i_1 + 1)) hl1 [Hq (dM (eI .i64) ([n_] : List Int)), Hn (dM (eI .i64) ([n_] : List Int)), Hn (aL (eI .i64) (eI .i64) g1), Hl (aM (eI .i64) out_States1 ([n_] : List Int))]
   ·rcases yb hf1 with ⟨c3, hf1⟩ | ⟨c3, hf1⟩
    ·exact yB X0 hC hJ6 state hf1 [Hq c3]
    ·exact yB X0 hC hJ6 State_e hf1 [Hq c3]
  ·obtain rfl := zn hf1
   obtain rfl := hl1
   exact yB X0 hC hJ1 out_States1 hf0 (Z1 ++ [Hq c2])
def xg : Code := (Tryd.f10.body).getD .skip
def ZL : x5 := spF (α := z8 × z7) (ρ := List zg) 10 (fun x => [xi x.1, wd x.2]) (fun r => (eOs 6 false ji) r) (fun x => kZ x.1 x.2) [] (UT)
abbrev VD (out : List zg) : List (Nat × T) := [(5, .own (eOs 6 false ji out))]
abbrev VC (x_ : z8) (c_ : z7) (p_ : Int) (out2 : List zg) : List (Nat × T) := [(2, .own (.box (xi x_))), (3, .own (.box (wd c_))), (5, .own (eOs 6 false ji out2)), (6, .d (I p_))]
abbrev VB (x_ : z8) (c_ : z7) (p_ : Int) (i_ : Int) (out4 : List zg) : List (Nat × T) := [(2, .own (.box (xi x_))), (3, .own (.box (wd c_))), (5, .own (eOs 6 false ji out4)), (6, .d (I p_)), (7, .d (I i_))]
abbrev Vx (x_ : z8) (c_ : z7) (p_ : Int) (i_ : Int) (Arc_e : ze) (Channel_e : Int) (o_ : Int) (out8 : List zg) : List (Nat × T) := [(2, .own (.box (xi x_))), (3, .own (.box (wd c_))), (5, .own (eOs 6 false ji out8)), (6, .d (I p_)), (7, .d (I i_)), (8, .own (.box (vq Arc_e))), (11, .d (I Channel_e)), (12, .d (I o_)), (143, .d (.atom (.int .u8 Arc_e.Kind))), (144, .d (B (Arc_e.Kind == 1))), (147, .d (I Channel_e)), (148, .d (B (Channel_e == 0)))]
abbrev V0 (x_ : z8) (c_ : z7) (p_ : Int) (i_ : Int) (Arc_e : ze) (Channel_e : Int) (o_ : Int) (k_ : Int) (out10 : List zg) : List (Nat × T) := [(2, .own (.box (xi x_))), (3, .own (.box (wd c_))), (5, .own (eOs 6 false ji out10)), (6, .d (I p_)), (7, .d (I i_)), (8, .own (.box (vq Arc_e))), (11, .d (I Channel_e)), (12, .d (I o_)), (13, .d (I k_)), (143, .d (.atom (.int .u8 Arc_e.Kind))), (144, .d (B (Arc_e.Kind == 1))), (147, .d (I Channel_e)), (148, .d (B (Channel_e == 0))), (162, .d (I o_)), (163, .d (I p_)), (164, .d (B (o_ != p_)))]
abbrev WZ (x_ : z8) (c_ : z7) (p_ : Int) (i_ : Int) (Arc_e : ze) (Channel_e : Int) (o_ : Int) (out9 : List zg) (k_ : Int) : List (Nat × T) := [(2, .own (.box (xi x_))), (3, .own (.box (wd c_))), (5, .own (eOs 6 false ji out9)), (6, .d (I p_)), (7, .d (I i_)), (8, .own (.box (vq Arc_e))), (11, .d (I Channel_e)), (12, .d (I o_)), (13, .d (I k_)), (143, .d (.atom (.int .u8 Arc_e.Kind))), (144, .d (B (Arc_e.Kind == 1))), (147, .d (I Channel_e)), (148, .d (B (Channel_e == 0)))]
abbrev Vu (x_ : z8) (c_ : z7) (p_ : Int) (i_ : Int) (Arc_e : ze) (Channel_e : Int) (out7 : List zg) (o_ : Int) : List (Nat × T) := [(2, .own (.box (xi x_))), (3, .own (.box (wd c_))), (5, .own (eOs 6 false ji out7)), (6, .d (I p_)), (7, .d (I i_)), (8, .own (.box (vq Arc_e))), (11, .d (I Channel_e)), (12, .d (I o_))]
abbrev Vy (x_ : z8) (c_ : z7) (p_ : Int) (i_ : Int) (Arc_e : ze) (Channel_e : Int) (out6 : List zg) : List (Nat × T) := [(2, .own (.box (xi x_))), (3, .own (.box (wd c_))), (5, .own (eOs 6 false ji out6)), (6, .d (I p_)), (7, .d (I i_)), (8, .own (.box (vq Arc_e))), (11, .d (I Channel_e))]
abbrev Vz (x_ : z8) (c_ : z7) (p_ : Int) (i_ : Int) (Arc_e : ze) (Queue_e : List Int) (Channel_e : Int) (out5 : List zg) : List (Nat × T) := [(2, .own (.box (xi x_))), (3, .own (.box (wd c_))), (5, .own (eOs 6 false ji out5)), (6, .d (I p_)), (7, .d (I i_)), (8, .own (.box (vq Arc_e))), (9, .own (.box (.agg [I p_, I i_, I (-1), I (-1)]))), (10, .d (eSl 1 false (eI .i64) Queue_e)), (11, .d (I Channel_e))]
abbrev Vv (x_ : z8) (c_ : z7) (p_ : Int) (out3 : List zg) (i_ : Int) : List (Nat × T) := [(2, .own (.box (xi x_))), (3, .own (.box (wd c_))), (5, .own (eOs 6 false ji out3)), (6, .d (I p_)), (7, .d (I i_))]
abbrev Vw (x_ : z8) (c_ : z7) (out1 : List zg) (p_ : Int) : List (Nat × T) := [(2, .own (.box (xi x_))), (3, .own (.box (wd c_))), (5, .own (eOs 6 false ji out1)), (6, .d (I p_))]
theorem JR {ctr : Ctr} (hC : zW Tryd.prog ctr) (h05 : ctr.Has Yf) : ZL.Ok Tryd.prog := by
 refine yd ?_
 rintro ⟨x_, c_⟩ r0 hf0
 try unfold kZ at hf0
 refine yO true [(4, none)] xg 223 Tryd.func10 fun E hE => ?_
 refine yJ X0 hC xg [1,1] [] [5] (fun z : List zg => ZQ z = some r0) (fun z => VD z) [(2, .own (.box (xi x_))), (3, .own (.box (wd c_))), (5, .own (eOs 6 true ji []))] [Hh (.cut 2)] ?_ fun J1 hJ1 => ?_
 ·rintro out hf0
  unfold ZQ at hf0
  obtain rfl := zn hf0
  exact yE X0 hC hE []
 ·obtain ⟨t2, ht2, hf0⟩ := zp hf0
  refine yLx X0 hC xg [1,1,2,1,0] [J1] (fun s => up x_ c_ s.1 s.2) (fun x => Vw x_ c_ x.1 x.2) (([] : List zg), 0) ht2 [(2, .own (.box (xi x_))), (3, .own (.box (wd c_))), (5, .own (eOs 6 true ji [])), (6, .d (I 0))] inferInstance [] ?_
  rintro ⟨out1, p_⟩ m2 lr1 hf1 hl1 J2 hJ2
  try unfold up at hf1
  let Z0 : List HO := [Ha (lnM wN x_.Parts)]
  rcases yb hf1 with ⟨c0, hf1⟩ | ⟨c0, hf1⟩
  ·refine yJ X0 hC xg [1,1,2,1,0,0,1] [J1, J2] [2,3,5,6] (fun z : List zg => jZ p_ z = some lr1) (fun z => VC x_ c_ p_ z) [(2, .own (.box (xi x_))), (3, .own (.box (wd c_))), (5, .own (eOs 6 false ji out1)), (6, .d (I p_))] (Z0 ++ [Hq c0, Hh (.cut 0)]) ?_ fun J3 hJ3 => ?_
   ·rintro out2 hf1
    unfold jZ at hf1
    obtain rfl := zn hf1
    exact yB X0 hC hJ2 (out2, w64 (p_ + 1)) hl1 []
   ·obtain ⟨t4, ht4, hf1⟩ := zp hf1
    refine yL X0 hC xg [1,1,2,1,0,0,1,2,0,1,0] [J1, J2, J3] (fun s => uo x_ c_ p_ s.1 s.2) (fun x => Vv x_ c_ p_ x.1 x.2) (out1,0) ht4  [] ?_
    rintro ⟨out3, i_⟩ m4 lr2 hf2 hl2 J4 hJ4
    try unfold uo at hf2
    obtain ⟨Part_e, h0, hf2⟩ := zp hf2
    let Z1 : List HO := [Hi wN h0, Ha (lnM vq Part_e.Arcs)]
    rcases yb hf2 with ⟨c1, hf2⟩ | ⟨c1, hf2⟩
    ·refine yJ X0 hC xg [1,1,2,1,0,0,1,2,0,1,0,0,1] [J1, J2, J3, J4] [2,3,5,6,7] (fun z : List zg => vb i_ z = some lr2) (fun z => VB x_ c_ p_ i_ z) [(2, .own (.box (xi x_))), (3, .own (.box (wd c_))), (5, .own (eOs 6 false ji out3)), (6, .d (I p_)), (7, .d (I i_))] (Z1 ++ [Hq c1, Hh (.cut 0)]) ?_ fun J5 hJ5 => ?_
     ·rintro out4 hf2
      unfold vb at hf2
      obtain rfl := zn hf2
      exact yB X0 hC hJ4 (out4, w64 (i_ + 1)) hl2 []
     ·obtain ⟨Part_e1, h1, hf2⟩ := zp hf2
      obtain ⟨Arc_e, h2, hf2⟩ := zp hf2
      obtain ⟨State_e, h3, hf2⟩ := zp hf2
      let Z2 : List HO := [Hi wN h1, Hi vq h2, Hi (eI .i64) h3]
      rcases yb hf2 with ⟨c2, hf2⟩ | ⟨c2, hf2⟩
      ·exact yB X0 hC hJ5 out3 hf2 (Z2 ++ [Hq c2])
      ·rcases yb hf2 with ⟨c3, hf2⟩ | ⟨c3, hf2⟩
       ·obtain ⟨r_, h4, hf2⟩ := zp hf2
        obtain ⟨g0, hf2⟩ := gdE hf2
        exact yB X0 hC hJ5 (out3 ++ ([(zg.mk (zc.mk p_ i_ (-1) (-1)) r_)] : List zg)) hf2 (Z2 ++ [Hq c2, Hq c3, Hc h05 (x := (c_, p_, Arc_e.To, (-1), [])) h4 (loC wd c_ <| loC (eI .i64) p_ <| loC (eI .i64) Arc_e.To <| loC (eI .i64) (-1) <| loC F1_ ([] : List Int) <| loN), Hq (dM ji ([(zg.mk (zc.mk p_ i_ (-1) (-1)) r_)] : List zg)), Hn (dM ji ([(zg.mk (zc.mk p_ i_ (-1) (-1)) r_)] : List zg)), Hn (aL ji ji g0), Hl (aM ji out3 ([(zg.mk (zc.mk p_ i_ (-1) (-1)) r_)] : List zg))])
       ·obtain ⟨Queue_e, h5, hf2⟩ := zp hf2
        obtain ⟨Channel_e, h6, hf2⟩ := zp hf2
        refine yJ X0 hC xg [1,1,2,1,0,0,1,2,0,1,0,0,1,2,0,1,1,1,1,1] [J1, J2, J3, J4, J5] [2,3,5,6,7,8,9,10,11] (fun z : List zg => wz x_ c_ p_ i_ Arc_e Queue_e Channel_e z = some lr2) (fun z => Vz x_ c_ p_ i_ Arc_e Queue_e Channel_e z) [(2, .own (.box (xi x_))), (3, .own (.box (wd c_))), (5, .own (eOs 6 false ji out3)), (6, .d (I p_)), (7, .d (I i_)), (8, .own (.box (vq Arc_e))), (9, .own (.box (.agg [I p_, I i_, I (-1), I (-1)]))), (10, .d (eSl 1 false (eI .i64) Queue_e)), (11, .d (I Channel_e))] (Z2 ++ [Hq c2, Hq c3, Hi F2_ h5, Hi (eI .i64) h6, Hh (.cut 0)]) ?_ fun J6 hJ6 => ?_
        ·rintro out5 hf2
         unfold wz at hf2
         refine yJ X0 hC xg [1,1,2,1,0,0,1,2,0,1,0,0,1,2,0,1,1,1,1,1,1] [J1, J2, J3, J4, J5] [2,3,5,6,7,8,11] (fun z : List zg => wc x_ c_ p_ i_ Arc_e Channel_e z = some lr2) (fun z => Vy x_ c_ p_ i_ Arc_e Channel_e z) [(2, .own (.box (xi x_))), (3, .own (.box (wd c_))), (5, .own (eOs 6 false ji out5)), (6, .d (I p_)), (7, .d (I i_)), (8, .own (.box (vq Arc_e))), (9, .own (.box (.agg [I p_, I i_, I (-1), I (-1)]))), (10, .d (eSl 1 false (eI .i64) Queue_e)), (11, .d (I Channel_e))] [Hh (.cut 0)] ?_ fun J7 hJ7 => ?_
         ·rintro out6 hf2
          unfold wc at hf2
          obtain ⟨t8, ht8, hf2⟩ := zp hf2
          refine yL X0 hC xg [1,1,2,1,0,0,1,2,0,1,0,0,1,2,0,1,1,1,1,1,1,1,1,0] [J1, J2, J3, J4, J5] (fun s => wb x_ c_ p_ i_ Arc_e Channel_e s.1 s.2) (fun x => Vu x_ c_ p_ i_ Arc_e Channel_e x.1 x.2) (out6,0) ht8  [] ?_
          rintro ⟨out7, o_⟩ m8 lr3 hf3 hl3 J8 hJ8
          try unfold wb at hf3
          let Z3 : List HO := [Ha (lnM wN x_.Parts)]
          rcases yb hf3 with ⟨c4, hf3⟩ | ⟨c4, hf3⟩
          ·let Z4 : List HO := (Z3 ++ (rpN 4 (Hq c4) []))
           rcases yb hf3 with ⟨c5, hf3⟩ | ⟨c5, hf3⟩
           ·rcases yb hf3 with ⟨c6, hf3⟩ | ⟨c6, hf3⟩
            ·refine yJ X0 hC xg [1,1,2,1,0,0,1,2,0,1,0,0,1,2,0,1,1,1,1,1,1,1,1,0,0,1] [J1, J2, J3, J4, J5, J8] [2,3,5,6,7,8,11,12,143,144,147,148] (fun z : List zg => jY o_ z = some lr3) (fun z => Vx x_ c_ p_ i_ Arc_e Channel_e o_ z) [(2, .own (.box (xi x_))), (3, .own (.box (wd c_))), (5, .own (eOs 6 false ji out7)), (6, .d (I p_)), (7, .d (I i_)), (8, .own (.box (vq Arc_e))), (11, .d (I Channel_e)), (12, .d (I o_)), (143, .d (.atom (.int .u8 Arc_e.Kind))), (144, .d (B (Arc_e.Kind == 1))), (147, .d (I Channel_e)), (148, .d (B (Channel_e == 0)))] (Z4 ++ [Hq c5, Hq c5, Hq c5, Hq c6, Hh (.cut 0)]) ?_ fun J9 hJ9 => ?_
             ·rintro out8 hf3
              unfold jY at hf3
              obtain rfl := zn hf3
              exact yB X0 hC hJ8 (out8, w64 (o_ + 1)) hl3 []
             ·obtain ⟨t10, ht10, hf3⟩ := zp hf3
              refine yL X0 hC xg [1,1,2,1,0,0,1,2,0,1,0,0,1,2,0,1,1,1,1,1,1,1,1,0,0,1,2,0,1,0] [J1, J2, J3, J4, J5, J8, J9] (fun s => wj x_ c_ p_ i_ Arc_e o_ s.1 s.2) (fun x => WZ x_ c_ p_ i_ Arc_e Channel_e o_ x.1 x.2) (out7,0) ht10  [] ?_
              rintro ⟨out9, k_⟩ m10 lr4 hf4 hl4 J10 hJ10
              try unfold wj at hf4
              obtain ⟨Part_e2, h7, hf4⟩ := zp hf4
              let Z5 : List HO := [Hi wN h7, Ha (lnM vq Part_e2.Arcs)]
              rcases yb hf4 with ⟨c7, hf4⟩ | ⟨c7, hf4⟩
              ·let Z6 : List HO := (Z5 ++ (rpN 4 (Hq c7) []))
               rcases yb hf4 with ⟨c8, hf4⟩ | ⟨c8, hf4⟩
               ·refine yJ X0 hC xg [1,1,2,1,0,0,1,2,0,1,0,0,1,2,0,1,1,1,1,1,1,1,1,0,0,1,2,0,1,0,0,1] [J1, J2, J3, J4, J5, J8, J9, J10] [2,3,5,6,7,8,11,12,13,143,144,147,148,162,163,164] (fun z : List zg => wk k_ z = some lr4) (fun z => V0 x_ c_ p_ i_ Arc_e Channel_e o_ k_ z) [(2, .own (.box (xi x_))), (3, .own (.box (wd c_))), (5, .own (eOs 6 false ji out9)), (6, .d (I p_)), (7, .d (I i_)), (8, .own (.box (vq Arc_e))), (11, .d (I Channel_e)), (12, .d (I o_)), (13, .d (I k_)), (143, .d (.atom (.int .u8 Arc_e.Kind))), (144, .d (B (Arc_e.Kind == 1))), (147, .d (I Channel_e)), (148, .d (B (Channel_e == 0))), (162, .d (I o_)), (163, .d (I p_)), (164, .d (B (o_ != p_)))] (Z6 ++ [Hq c8, Hh (.cut 0)]) ?_ fun J11 hJ11 => ?_
                ·rintro out10 hf4
                 unfold wk at hf4
                 obtain rfl := zn hf4
                 exact yB X0 hC hJ10 (out10, w64 (k_ + 1)) hl4 []
                ·obtain ⟨Part_e3, h8, hf4⟩ := zp hf4
                 obtain ⟨Arc_e1, h9, hf4⟩ := zp hf4
                 let Z7 : List HO := [Hi wN h8, Hi vq h9]
                 rcases yb hf4 with ⟨c9, hf4⟩ | ⟨c9, hf4⟩
                 ·obtain ⟨State_e1, h10, hf4⟩ := zp hf4
                  let Z8 : List HO := (Z7 ++ (rpN 6 (Hq c9) [Hi (eI .i64) h10, Hq c9, Hq c9, Hq c9]))
                  rcases yb hf4 with ⟨c10, hf4⟩ | ⟨c10, hf4⟩
                  ·let Z9 : List HO := (Z8 ++ (rpN 6 (Hq c10) []))
                   rcases yb hf4 with ⟨c11, hf4⟩ | ⟨c11, hf4⟩
                   ·let Z10 : List HO := (Z9 ++ (rpN 6 (Hq c11) []))
                    rcases yb hf4 with ⟨c12, hf4⟩ | ⟨c12, hf4⟩
                    ·obtain ⟨r_1, h11, hf4⟩ := zp hf4
                     obtain ⟨r_2, h12, hf4⟩ := zp hf4
                     obtain ⟨g1, hf4⟩ := gdE hf4
                     exact yB X0 hC hJ11 (out9 ++ ([(zg.mk (zc.mk p_ i_ o_ k_) r_2)] : List zg)) hf4 (Z10 ++ [Hq c12, Hc h05 (x := (c_, p_, Arc_e.To, (-1), [])) h11 (loC wd c_ <| loC (eI .i64) p_ <| loC (eI .i64) Arc_e.To <| loC (eI .i64) (-1) <| loC F1_ ([] : List Int) <| loN), Hc h05 (x := (r_1, o_, Arc_e1.To, (-1), [])) h12 (loC wd r_1 <| loC (eI .i64) o_ <| loC (eI .i64) Arc_e1.To <| loC (eI .i64) (-1) <| loC F1_ ([] : List Int) <| loN), Hq (dM ji ([(zg.mk (zc.mk p_ i_ o_ k_) r_2)] : List zg)), Hn (dM ji ([(zg.mk (zc.mk p_ i_ o_ k_) r_2)] : List zg)), Hn (aL ji ji g1), Hl (aM ji out9 ([(zg.mk (zc.mk p_ i_ o_ k_) r_2)] : List zg))])
                    ·exact yB X0 hC hJ11 out9 hf4 (Z10 ++ [Hq c12])
                   ·exact yB X0 hC hJ11 out9 hf4 (Z9 ++ (rpN 6 (Hq c11) [qF]))
                  ·exact yB X0 hC hJ11 out9 hf4 (Z8 ++ (rpN 6 (Hq c10) (rpN 7 qF [])))
                 ·exact yB X0 hC hJ11 out9 hf4 (Z7 ++ (rpN 9 (Hq c9) (rpN 13 qF [])))
               ·obtain rfl := zn hf4
                obtain rfl := hl4
                exact yB X0 hC hJ9 out9 hf3 (Z6 ++ [Hq c8])
              ·obtain rfl := zn hf4
               obtain rfl := hl4
               exact yB X0 hC hJ9 out9 hf3 (Z5 ++ (rpN 4 (Hq c7) [qF]))
            ·obtain rfl := zn hf3
             obtain rfl := hl3
             exact yB X0 hC hJ5 out7 hf2 (Z4 ++ [Hq c5, Hq c5, Hq c5, Hq c6])
           ·obtain rfl := zn hf3
            obtain rfl := hl3
            exact yB X0 hC hJ5 out7 hf2 (Z4 ++ [Hq c5, Hq c5, Hq c5, qF])
          ·obtain rfl := zn hf3
           obtain rfl := hl3
           exact yB X0 hC hJ5 out7 hf2 (Z3 ++ (rpN 4 (Hq c4) (rpN 4 qF [])))
         ·rcases yb hf2 with ⟨c13, hf2⟩ | ⟨c13, hf2⟩
          ·let Z11 : List HO := [Hq c13, Hq c13, Ha (lnM (eI .i64) Queue_e), Hq c13, Hq c13]
           rcases yb hf2 with ⟨c14, hf2⟩ | ⟨c14, hf2⟩
           ·obtain ⟨Queue_e_e, h13, hf2⟩ := zp hf2
            let Z12 : List HO := (Z11 ++ (Hq c14 :: Hq c14 :: Hi (eI .i64) h13 :: (rpN 5 (Hq c14) [])))
            rcases yb hf2 with ⟨c15, hf2⟩ | ⟨c15, hf2⟩
            ·obtain ⟨g2, hf2⟩ := gdE hf2
             obtain ⟨r_3, h14, hf2⟩ := zp hf2
             obtain ⟨g3, hf2⟩ := gdE hf2
             exact yB X0 hC hJ7 (out5 ++ ([(zg.mk (zc.mk p_ i_ (-1) (-1)) r_3)] : List zg)) hf2 (Z12 ++ [Hq c15, Hn (slA g2), Hn (zbm (eI .i64) g2), Ha (slE 1 false (eI .i64) Queue_e (1 : Int).toNat), Hc h05 (x := (c_, p_, Arc_e.To, Arc_e.Channel, (Queue_e.drop (1 : Int).toNat))) h14 (loC wd c_ <| loC (eI .i64) p_ <| loC (eI .i64) Arc_e.To <| loC (eI .i64) Arc_e.Channel <| loC F2_ (Queue_e.drop (1 : Int).toNat) <| loN), Hq (dM ji ([(zg.mk (zc.mk p_ i_ (-1) (-1)) r_3)] : List zg)), Hn (dM ji ([(zg.mk (zc.mk p_ i_ (-1) (-1)) r_3)] : List zg)), Hn (aL ji ji g3), Hl (aM ji out5 ([(zg.mk (zc.mk p_ i_ (-1) (-1)) r_3)] : List zg))])
            ·exact yB X0 hC hJ7 out5 hf2 (Z12 ++ [Hq c15])
           ·exact yB X0 hC hJ7 out5 hf2 (Z11 ++ (rpN 7 (Hq c14) [qF]))
          ·exact yB X0 hC hJ7 out5 hf2 (rpN 4 (Hq c13) (rpN 8 qF []))
        ·rcases yb hf2 with ⟨c16, hf2⟩ | ⟨c16, hf2⟩
         ·let Z13 : List HO := [Hq c16, Hq c16, Ha (lnM (eI .i64) Queue_e), Hq c16, Hq c16, Hq c16]
          rcases yb hf2 with ⟨c17, hf2⟩ | ⟨c17, hf2⟩
          ·obtain ⟨g4, hf2⟩ := gdE hf2
           obtain ⟨g5, hf2⟩ := gdE hf2
           obtain ⟨r_4, h15, hf2⟩ := zp hf2
           obtain ⟨g6, hf2⟩ := gdE hf2
           exact yB X0 hC hJ6 (out3 ++ ([(zg.mk (zc.mk p_ i_ (-1) (-1)) r_4)] : List zg)) hf2 (Z13 ++ [Hq c17, Hn (dM (eI .i64) Queue_e), Hn (aL (eI .i64) (eI .i64) g4), Hl (aM0 (eI .i64) Queue_e), Hq (dM (eI .i64) ([Arc_e.Message] : List Int)), Hn (dM (eI .i64) ([Arc_e.Message] : List Int)), Hn (aL (eI .i64) (eI .i64) g5), Hl (aM (eI .i64) Queue_e ([Arc_e.Message] : List Int)), Hg (z0Q h05), Hm (shM (eI .i64) (eI .i64) (Queue_e ++ ([Arc_e.Message] : List Int))), Hs (z0R h05 (x := (c_, p_, Arc_e.To, Arc_e.Channel, (Queue_e ++ ([Arc_e.Message] : List Int)))) h15 (loC wd c_ <| loC (eI .i64) p_ <| loC (eI .i64) Arc_e.To <| loC (eI .i64) Arc_e.Channel <| loC F2_ (Queue_e ++ ([Arc_e.Message] : List Int)) <| loN)), Hm (shM (eI .i64) (eI .i64) (Queue_e ++ ([Arc_e.Message] : List Int))), Hq (dM ji ([(zg.mk (zc.mk p_ i_ (-1) (-1)) r_4)] : List zg)), Hn (dM ji ([(zg.mk (zc.mk p_ i_ (-1) (-1)) r_4)] : List zg)), Hn (aL ji ji g6), Hl (aM ji out3 ([(zg.mk (zc.mk p_ i_ (-1) (-1)) r_4)] : List zg))])
          ·exact yB X0 hC hJ6 out3 hf2 (Z13 ++ [Hq c17])
         ·exact yB X0 hC hJ6 out3 hf2 (rpN 5 (Hq c16) [qF])
    ·obtain rfl := zn hf2
     obtain rfl := hl2
     exact yB X0 hC hJ3 out3 hf1 (Z1 ++ [Hq c1])
  ·obtain rfl := zn hf1
   obtain rfl := hl1
   exact yB X0 hC hJ1 out1 hf0 (Z0 ++ [Hq c0])
def Zk : Code := (Tryd.f49.body).getD .skip
def kU : x5 := spF (α := List Int × List Int) (ρ := Int) 49 (fun x => [F2_ x.1, F2_ x.2]) (fun r => (eI .i64) r) (fun x => j8 x.1 x.2) [] (UT)
abbrev V2 : List (Nat × T) := []
abbrev V1 (a_ : List Int) (b_ : List Int) (i_ : Int) : List (Nat × T) := [(0, .d (eSl 1 false (eI .i64) a_)), (1, .d (eSl 1 false (eI .i64) b_)), (5, .d (I i_))]
theorem Ja {ctr : Ctr} (hC : zW Tryd.prog ctr) : kU.Ok Tryd.prog := by
 refine yd ?_
 rintro ⟨a_, b_⟩ r0 hf0
 try unfold j8 at hf0
 refine yO true [(4, none)] Zk 40 Tryd.func49 fun E hE => ?_
 let Z0 : List HO := [Ha (lnM (eI .i64) a_), Ha (lnM (eI .i64) b_)]
 rcases yb hf0 with ⟨c0, hf0⟩ | ⟨c0, hf0⟩
 ·let Z1 : List HO := (Z0 ++ [Hq c0, Ha (lnM (eI .i64) a_), Ha (lnM (eI .i64) b_)])
  rcases yb hf0 with ⟨c1, hf0⟩ | ⟨c1, hf0⟩
  ·obtain rfl := zn hf0
   exact yE X0 hC hE (Z1 ++ [Hq c1])
  ·obtain rfl := zn hf0
   exact yE X0 hC hE (Z1 ++ [Hq c1])
 ·refine yJ X0 hC Zk [1,1] [] [] (fun z : Unit => Zc = some r0) (fun z => V2) [(0, .d (eSl 1 false (eI .i64) a_)), (1, .d (eSl 1 false (eI .i64) b_))] (Z0 ++ [Hq c0, Hh (.cut 0)]) ?_ fun J1 hJ1 => ?_
  ·rintro ⟨⟩ hf0
   unfold Zc at hf0
   obtain rfl := zn hf0
   exact yE X0 hC hE []
  ·obtain ⟨t2, ht2, hf0⟩ := zp hf0
   refine yL X0 hC Zk [1,1,2,1,0] [J1] (fun s => uQ a_ b_ s) (fun x => V1 a_ b_ x) 0 ht2  [] ?_
   rintro i_ m2 lr1 hf1 hl1 J2 hJ2
   try unfold uQ at hf1
   rcases yb hf1 with ⟨c2, hf1⟩ | ⟨c2, hf1⟩
   ·obtain ⟨a__e, h0, hf1⟩ := zp hf1
    obtain ⟨b__e, h1, hf1⟩ := zp hf1
    let Z2 : List HO := [Ha (lnM (eI .i64) a_), Hq c2, Hi (eI .i64) h0, Hi (eI .i64) h1]
    rcases yb hf1 with ⟨c3, hf1⟩ | ⟨c3, hf1⟩
    ·obtain ⟨a__e1, h2, hf1⟩ := zp hf1
     obtain ⟨b__e1, h3, hf1⟩ := zp hf1
     let Z3 : List HO := (Z2 ++ [Hq c3, Hi (eI .i64) h2, Hi (eI .i64) h3])
     rcases yb hf1 with ⟨c4, hf1⟩ | ⟨c4, hf1⟩
     ·obtain rfl := zn hf1
      obtain rfl := hl1
      obtain rfl := zn hf0
      exact yE X0 hC hE (Z3 ++ [Hq c4])
     ·obtain rfl := zn hf1
      obtain rfl := hl1
      obtain rfl := zn hf0
      exact yE X0 hC hE (Z3 ++ [Hq c4])
    ·obtain rfl := zn hf1
     exact yB X0 hC hJ2 (w64 (i_ + 1)) hl1 (Z2 ++ [Hq c3])
   ·obtain rfl := zn hf1
    obtain rfl := hl1
    exact yB X0 hC hJ1 () hf0 [Ha (lnM (eI .i64) a_), Hq c2]
def Kr : Code := (Tryd.f24.body).getD .skip
def Yg : x5 := spF (α := List Int × List Int) (ρ := Int) 24 (fun x => [F2_ x.1, F2_ x.2]) (fun r => (eI .i64) r) (fun x => kQ x.1 x.2) [] (UT)
theorem KH {ctr : Ctr} (hC : zW Tryd.prog ctr) (h0m : ctr.Has kU) : Yg.Ok Tryd.prog := by
 refine yd ?_
 rintro ⟨a_, b_⟩ r0 hf0
 try unfold kQ at hf0
 refine yO true [(4, none)] Kr 22 Tryd.func24 fun E hE => ?_
 let Z0 : List HO := [Ha (lnM (eI .i64) a_), Ha (lnM (eI .i64) b_)]
 rcases yb hf0 with ⟨c0, hf0⟩ | ⟨c0, hf0⟩
 ·obtain rfl := zn hf0
  exact yE X0 hC hE (Z0 ++ (rpN 5 (Hq c0) (rpN 6 qT [])))
 ·obtain ⟨r_, h0, hf0⟩ := zp hf0
  let Z1 : List HO := (Z0 ++ [Hq c0, Hq c0, Hq c0, Hc h0m (x := (a_, b_)) h0 (loC F2_ a_ <| loC F2_ b_ <| loN), Hq c0, Hq c0])
  rcases yb hf0 with ⟨c1, hf0⟩ | ⟨c1, hf0⟩
  ·obtain rfl := zn hf0
   exact yE X0 hC hE (Z1 ++ (rpN 5 (Hq c1) [qT]))
  ·obtain ⟨r_1, h1, hf0⟩ := zp hf0
   let Z2 : List HO := (Z1 ++ [Hq c1, Hq c1, Hq c1, Hc h0m (x := (b_, a_)) h1 (loC F2_ b_ <| loC F2_ a_ <| loN), Hq c1, Hq c1])
   rcases yb hf0 with ⟨c2, hf0⟩ | ⟨c2, hf0⟩
   ·obtain rfl := zn hf0
    exact yE X0 hC hE (Z2 ++ [Hq c2])
   ·obtain rfl := zn hf0
    exact yE X0 hC hE (Z2 ++ [Hq c2])
def YG : Code := (Tryd.f11.body).getD .skip
def jz : x5 := spF (α := z7 × z7) (ρ := Int) 11 (fun x => [wd x.1, wd x.2]) (fun r => (eI .i64) r) (fun x => j5 x.1 x.2) [] (UT)
abbrev UD : List (Nat × T) := []
abbrev UC (a_ : z7) (b_ : z7) (i_ : Int) : List (Nat × T) := [(2, .own (.box (wd a_))), (3, .own (.box (wd b_))), (5, .d (I i_))]
theorem KG {ctr : Ctr} (hC : zW Tryd.prog ctr) (h0n : ctr.Has Yg) : jz.Ok Tryd.prog := by
 refine yd ?_
 rintro ⟨a_, b_⟩ r0 hf0
 try unfold j5 at hf0
 refine yO true [(4, none)] YG 40 Tryd.func11 fun E hE => ?_
 obtain ⟨r_, h0, hf0⟩ := zp hf0
 let Z0 : List HO := [Hc h0n (x := (a_.States, b_.States)) h0 (loC F2_ a_.States <| loC F2_ b_.States <| loN)]
 rcases yb hf0 with ⟨c0, hf0⟩ | ⟨c0, hf0⟩
 ·obtain rfl := zn hf0
  exact yE X0 hC hE (Z0 ++ (rpN 8 (Hq c0) [qT]))
 ·let Z1 : List HO := (Z0 ++ [Hq c0, Hq c0, Hq c0, Ha (lnM F2_ a_.Queues), Hq c0, Hq c0, Hq c0, Ha (lnM F2_ b_.Queues), Hq c0, Hq c0])
  rcases yb hf0 with ⟨c1, hf0⟩ | ⟨c1, hf0⟩
  ·obtain rfl := zn hf0
   exact yE X0 hC hE (Z1 ++ [Hq c1])
  ·refine yJ X0 hC YG [1,1] [] [] (fun z : Unit => Yq = some r0) (fun z => UD) [(2, .own (.box (wd a_))), (3, .own (.box (wd b_)))] (Z1 ++ [Hq c1, Hh (.cut 0)]) ?_ fun J1 hJ1 => ?_
   ·rintro ⟨⟩ hf0
    unfold Yq at hf0
    obtain rfl := zn hf0
    exact yE X0 hC hE []
   ·obtain ⟨t2, ht2, hf0⟩ := zp hf0
    refine yL X0 hC YG [1,1,2,1,0] [J1] (fun s => jE a_ b_ s) (fun x => UC a_ b_ x) 0 ht2  [] ?_
    rintro i_ m2 lr1 hf1 hl1 J2 hJ2
    try unfold jE at hf1
    let Z2 : List HO := [Ha (lnM F2_ a_.Queues)]
    rcases yb hf1 with ⟨c2, hf1⟩ | ⟨c2, hf1⟩
    ·obtain ⟨Queue_e, h1, hf1⟩ := zp hf1
     obtain ⟨Queue_e1, h2, hf1⟩ := zp hf1
     obtain ⟨r_1, h3, hf1⟩ := zp hf1
     let Z3 : List HO := (Z2 ++ [Hq c2, Hi F2_ h1, Hi F2_ h2, Hc h0n (x := (Queue_e, Queue_e1)) h3 (loC F2_ Queue_e <| loC F2_ Queue_e1 <| loN)])
     rcases yb hf1 with ⟨c3, hf1⟩ | ⟨c3, hf1⟩
     ·obtain rfl := zn hf1
      obtain rfl := hl1
      obtain rfl := zn hf0
      exact yE X0 hC hE (Z3 ++ [Hq c3])
     ·obtain rfl := zn hf1
      exact yB X0 hC hJ2 (w64 (i_ + 1)) hl1 (Z3 ++ [Hq c3])
    ·obtain rfl := zn hf1
     obtain rfl := hl1
     exact yB X0 hC hJ1 () hf0 (Z2 ++ [Hq c2])
def xN : Code := (Tryd.f5.body).getD .skip
def ZM : x5 := spF (α := z8 × Int) (ρ := List z7 × List (List z6)) 5 (fun x => [xi x.1, (eI .i64) x.2]) (fun r => .tup [z4h r.1, z4r r.2]) (fun x => Za x.1 x.2) [] (UT)
abbrev VM (list : List z7) (steps : List (List z6)) : List (Nat × T) := [(6, .own (eOs 2 false wd list)), (7, .own (eOs 1 false Ji steps))]
abbrev VL (x_ : z8) (most : Int) (list1 : List z7) (n_ : Int) (list2 : List z7) (steps2 : List (List z6)) : List (Nat × T) := [(1, .d (I most)), (2, .own (.box (xi x_))), (6, .own (eOs 2 false wd list2)), (7, .own (eOs 1 false Ji steps2)), (8, .d (I n_)), (22, .d (I ((list1.length : Nat) : Int))), (23, .d (I most)), (24, .d (B (decide (((list1.length : Nat) : Int) ≤ most))))]
abbrev VK (x_ : z8) (most : Int) (list1 : List z7) (steps1 : List (List z6)) (n_ : Int) (list3 : List z7) (l_ : List z6) : List (Nat × T) := [(1, .d (I most)), (2, .own (.box (xi x_))), (6, .own (eOs 2 false wd list3)), (7, .own (eOs 1 false Ji steps1)), (8, .d (I n_)), (9, .own (eOs 5 false uR l_)), (22, .d (I ((list1.length : Nat) : Int))), (23, .d (I most)), (24, .d (B (decide (((list1.length : Nat) : Int) ≤ most))))]
abbrev VJ (x_ : z8) (most : Int) (list1 : List z7) (steps1 : List (List z6)) (n_ : Int) (r_1 : List zg) (i_ : Int) (list5 : List z7) (l_2 : List z6) : List (Nat × T) := [(1, .d (I most)), (2, .own (.box (xi x_))), (6, .own (eOs 2 false wd list5)), (7, .own (eOs 1 false Ji steps1)), (8, .d (I n_)), (9, .own (eOs 5 false uR l_2)), (10, .own (eOs 6 false ji r_1)), (11, .d (I i_)), (22, .d (I ((list1.length : Nat) : Int))), (23, .d (I most)), (24, .d (B (decide (((list1.length : Nat) : Int) ≤ most))))]
abbrev VH (x_ : z8) (most : Int) (list1 : List z7) (steps1 : List (List z6)) (n_ : Int) (r_1 : List zg) (l_1 : List z6) (i_ : Int) (k_ : Int) (list6 : List z7) : List (Nat × T) := [(1, .d (I most)), (2, .own (.box (xi x_))), (6, .own (eOs 2 false wd list6)), (7, .own (eOs 1 false Ji steps1)), (8, .d (I n_)), (9, .own (eOs 5 false uR l_1)), (10, .own (eOs 6 false ji r_1)), (11, .d (I i_)), (12, .d (I k_)), (22, .d (I ((list1.length : Nat) : Int))), (23, .d (I most)), (24, .d (B (decide (((list1.length : Nat) : Int) ≤ most))))]
abbrev VI (x_ : z8) (most : Int) (list1 : List z7) (steps1 : List (List z6)) (n_ : Int) (r_1 : List zg) (list4 : List z7) (l_1 : List z6) (i_ : Int) (k_ : Int) : List (Nat × T) := [(1, .d (I most)), (2, .own (.box (xi x_))), (6, .own (eOs 2 false wd list4)), (7, .own (eOs 1 false Ji steps1)), (8, .d (I n_)), (9, .own (eOs 5 false uR l_1)), (10, .own (eOs 6 false ji r_1)), (11, .d (I i_)), (12, .d (I k_)), (22, .d (I ((list1.length : Nat) : Int))), (23, .d (I most)), (24, .d (B (decide (((list1.length : Nat) : Int) ≤ most))))]
abbrev VE (x_ : z8) (most : Int) (list1 : List z7) (steps1 : List (List z6)) (n_ : Int) (r_1 : List zg) (list4 : List z7) (l_1 : List z6) (i_ : Int) (k_1 : Int) : List (Nat × T) := [(1, .d (I most)), (2, .own (.box (xi x_))), (6, .own (eOs 2 false wd list4)), (7, .own (eOs 1 false Ji steps1)), (8, .d (I n_)), (9, .own (eOs 5 false uR l_1)), (10, .own (eOs 6 false ji r_1)), (11, .d (I i_)), (12, .d (I k_1)), (22, .d (I ((list1.length : Nat) : Int))), (23, .d (I most)), (24, .d (B (decide (((list1.length : Nat) : Int) ≤ most))))]
abbrev VF (x_ : z8) (most : Int) (list1 : List z7) (steps1 : List (List z6)) (n_ : Int) (r_1 : List zg) (list4 : List z7) (l_1 : List z6) (i_ : Int) : List (Nat × T) := [(1, .d (I most)), (2, .own (.box (xi x_))), (6, .own (eOs 2 false wd list4)), (7, .own (eOs 1 false Ji steps1)), (8, .d (I n_)), (9, .own (eOs 5 false uR l_1)), (10, .own (eOs 6 false ji r_1)), (11, .d (I i_)), (22, .d (I ((list1.length : Nat) : Int))), (23, .d (I most)), (24, .d (B (decide (((list1.length : Nat) : Int) ≤ most))))]
abbrev VG (x_ : z8) (most : Int) (list1 : List z7) (steps1 : List (List z6)) (n_ : Int) : List (Nat × T) := [(1, .d (I most)), (2, .own (.box (xi x_))), (6, .own (eOs 2 false wd list1)), (7, .own (eOs 1 false Ji steps1)), (8, .d (I n_))]
theorem JS {ctr : Ctr} (hC : zW Tryd.prog ctr) (h0A : ctr.Has ZN) (h0B : ctr.Has ZL) (h08 : ctr.Has jz) : ZM.Ok Tryd.prog := by
 refine yd ?_
 rintro ⟨x_, most⟩ r0 hf0
 try unfold Za at hf0
 refine yO false [(4, none), (5, none)] xN 87 Tryd.func5 fun E hE => ?_
 obtain ⟨r_, h0, hf0⟩ := zp hf0
 refine yJ X0 hC xN [1,1,1] [] [6,7] (fun z : List z7 × List (List z6) => ZR z.1 z.2 = some r0) (fun z => VM z.1 z.2) [(1, .d (I most)), (2, .own (.box (xi x_))), (6, .own (eOs 2 true KA ([r_]))), (7, .own (eOs 1 true X8 []))] [Hc h0A (x := x_) h0 (loC xi x_ <| loN), Hh (.cut 1)] ?_ fun J1 hJ1 => ?_
 ·rintro ⟨list, steps⟩ hf0
  unfold ZR at hf0
  obtain rfl := zn hf0
  exact yE X0 hC hE [Hm (shM wd wd list), Hm (shM Ji X8 steps)]
 ·obtain ⟨t2, ht2, hf0⟩ := zp hf0
  refine yLx X0 hC xN [1,1,1,2,1,0] [J1] (fun s => qw x_ most s.1 s.2.1 s.2.2) (fun x => VG x_ most x.1 x.2.1 x.2.2) (([r_] : List z7), ([] : List (List z6)), 0) ht2 [(1, .d (I most)), (2, .own (.box (xi x_))), (6, .own (eOs 2 true KA ([r_]))), (7, .own (eOs 1 true Ji [])), (8, .d (I 0))] inferInstance [] ?_
  rintro ⟨list1, steps1, n_⟩ m2 lr1 hf1 hl1 J2 hJ2
  try unfold qw at hf1
  let Z0 : List HO := [Ha (lnM wd list1)]
  rcases yb hf1 with ⟨c0, hf1⟩ | ⟨c0, hf1⟩
  ·let Z1 : List HO := (Z0 ++ [Hq c0, Hq c0, Ha (lnM wd list1), Hq c0, Hq c0, Hq c0])
   rcases yb hf1 with ⟨c1, hf1⟩ | ⟨c1, hf1⟩
   ·refine yJ X0 hC xN [1,1,1,2,1,0,0,1] [J1, J2] [1,2,6,7,8,22,23,24] (fun z : List z7 × List (List z6) => ka n_ z.1 z.2 = some lr1) (fun z => VL x_ most list1 n_ z.1 z.2) [(1, .d (I most)), (2, .own (.box (xi x_))), (6, .own (eOs 2 false wd list1)), (7, .own (eOs 1 false Ji steps1)), (8, .d (I n_)), (21, .als 6 [] 0 0), (22, .d (I ((list1.length : Nat) : Int))), (23, .d (I most)), (24, .d (B (decide (((list1.length : Nat) : Int) ≤ most))))] (Z1 ++ [Hq c1, Hh (.cut 0)]) ?_ fun J3 hJ3 => ?_
    ·rintro ⟨list2, steps2⟩ hf1
     unfold ka at hf1
     obtain rfl := zn hf1
     exact yB X0 hC hJ2 (list2, steps2, w64 (n_ + 1)) hl1 []
    ·obtain ⟨list_e, h1, hf1⟩ := zp hf1
     obtain ⟨r_1, h2, hf1⟩ := zp hf1
     refine yJ X0 hC xN [1,1,1,2,1,0,0,1,2,0,1,1] [J1, J2, J3] [1,2,6,7,8,9,22,23,24] (fun z : List z7 × List z6 => k9 steps1 n_ z.1 z.2 = some lr1) (fun z => VK x_ most list1 steps1 n_ z.1 z.2) [(1, .d (I most)), (2, .own (.box (xi x_))), (6, .own (eOs 2 false wd list1)), (7, .own (eOs 1 false Ji steps1)), (8, .d (I n_)), (9, .own (eOs 5 true uR [])), (10, .own (eOs 6 false ji r_1)), (21, .als 6 [] 0 0), (22, .d (I ((list1.length : Nat) : Int))), (23, .d (I most)), (24, .d (B (decide (((list1.length : Nat) : Int) ≤ most))))] [Hn (iL wd h1), Hs (iM wd h1), Hc h0B (x := (x_, list_e)) h2 (loC xi x_ <| loC wd list_e <| loN), Hh (.cut 0)] ?_ fun J4 hJ4 => ?_
     ·rintro ⟨list3, l_⟩ hf1
      unfold k9 at hf1
      obtain ⟨g0, hf1⟩ := gdE hf1
      exact yB X0 hC hJ3 (list3, (steps1 ++ ([l_] : List (List z6)))) hf1 [Hq (oC Ji l_ []), Hn (aL Ji Ji g0), Hl (aM Ji steps1 ([l_] : List (List z6)))]
     ·obtain ⟨t5, ht5, hf1⟩ := zp hf1
      refine yLx X0 hC xN [1,1,1,2,1,0,0,1,2,0,1,1,2,1,0] [J1, J2, J3, J4] (fun s => ur r_1 s.1 s.2.1 s.2.2) (fun x => VF x_ most list1 steps1 n_ r_1 x.1 x.2.1 x.2.2) (list1, ([] : List z6), 0) ht5 [(1, .d (I most)), (2, .own (.box (xi x_))), (6, .own (eOs 2 false wd list1)), (7, .own (eOs 1 false Ji steps1)), (8, .d (I n_)), (9, .own (eOs 5 true uR [])), (10, .own (eOs 6 false ji r_1)), (11, .d (I 0)), (22, .d (I ((list1.length : Nat) : Int))), (23, .d (I most)), (24, .d (B (decide (((list1.length : Nat) : Int) ≤ most))))] inferInstance [] ?_
      rintro ⟨list4, l_1, i_⟩ m5 lr2 hf2 hl2 J5 hJ5
      try unfold ur at hf2
      let Z2 : List HO := [Ha (lnM ji r_1)]
      rcases yb hf2 with ⟨c2, hf2⟩ | ⟨c2, hf2⟩
      ·refine yJ X0 hC xN [1,1,1,2,1,0,0,1,2,0,1,1,2,1,0,0,1] [J1, J2, J3, J4, J5] [1,2,6,7,8,9,10,11,22,23,24] (fun z : List z7 × List z6 => k8 i_ z.1 z.2 = some lr2) (fun z => VJ x_ most list1 steps1 n_ r_1 i_ z.1 z.2) [(1, .d (I most)), (2, .own (.box (xi x_))), (6, .own (eOs 2 false wd list4)), (7, .own (eOs 1 false Ji steps1)), (8, .d (I n_)), (9, .own (eOs 5 false uR l_1)), (10, .own (eOs 6 false ji r_1)), (11, .d (I i_)), (22, .d (I ((list1.length : Nat) : Int))), (23, .d (I most)), (24, .d (B (decide (((list1.length : Nat) : Int) ≤ most))))] (Z2 ++ [Hq c2, Hh (.cut 0)]) ?_ fun J6 hJ6 => ?_
       ·rintro ⟨list5, l_2⟩ hf2
        unfold k8 at hf2
        obtain rfl := zn hf2
        exact yB X0 hC hJ5 (list5, l_2, w64 (i_ + 1)) hl2 []
       ·refine yJ X0 hC xN [1,1,1,2,1,0,0,1,2,0,1,1,2,1,0,0,1,2,0,1] [J1, J2, J3, J4, J5, J6] [1,2,6,7,8,9,10,11,12,22,23,24] (fun z : Int => k7 r_1 list4 l_1 i_ z = some lr2) (fun z => VI x_ most list1 steps1 n_ r_1 list4 l_1 i_ z) [(1, .d (I most)), (2, .own (.box (xi x_))), (6, .own (eOs 2 false wd list4)), (7, .own (eOs 1 false Ji steps1)), (8, .d (I n_)), (9, .own (eOs 5 false uR l_1)), (10, .own (eOs 6 false ji r_1)), (11, .d (I i_)), (12, .d (I 0)), (22, .d (I ((list1.length : Nat) : Int))), (23, .d (I most)), (24, .d (B (decide (((list1.length : Nat) : Int) ≤ most))))] [Hh (.cut 1)] ?_ fun J7 hJ7 => ?_
        ·rintro k_ hf2
         unfold k7 at hf2
         refine yJ X0 hC xN [1,1,1,2,1,0,0,1,2,0,1,1,2,1,0,0,1,2,0,1,1] [J1, J2, J3, J4, J5, J6] [1,2,6,7,8,9,10,11,12,22,23,24] (fun z : List z7 => qA r_1 l_1 i_ k_ z = some lr2) (fun z => VH x_ most list1 steps1 n_ r_1 l_1 i_ k_ z) [(1, .d (I most)), (2, .own (.box (xi x_))), (6, .own (eOs 2 false wd list4)), (7, .own (eOs 1 false Ji steps1)), (8, .d (I n_)), (9, .own (eOs 5 false uR l_1)), (10, .own (eOs 6 false ji r_1)), (11, .d (I i_)), (12, .d (I k_)), (22, .d (I ((list1.length : Nat) : Int))), (23, .d (I most)), (24, .d (B (decide (((list1.length : Nat) : Int) ≤ most))))] [Hh (.cut 0)] ?_ fun J8 hJ8 => ?_
         ·rintro list6 hf2
          unfold qA at hf2
          obtain ⟨r__e, h3, hf2⟩ := zp hf2
          obtain ⟨g1, hf2⟩ := gdE hf2
          exact yB X0 hC hJ6 (list6, (l_1 ++ ([(z6.mk r__e.Move k_)] : List z6))) hf2 [Hn (iL ji h3), Hs (iM ji h3), Hs (iM ji h3), Hq (dM uR ([(z6.mk r__e.Move k_)] : List z6)), Hn (dM uR ([(z6.mk r__e.Move k_)] : List z6)), Hn (aL uR uR g1), Hl (aM uR l_1 ([(z6.mk r__e.Move k_)] : List z6))]
         ·let Z3 : List HO := [Ha (lnM wd list4)]
          rcases yb hf2 with ⟨c3, hf2⟩ | ⟨c3, hf2⟩
          ·obtain ⟨r__e1, h4, hf2⟩ := zp hf2
           obtain ⟨g2, hf2⟩ := gdE hf2
           exact yB X0 hC hJ8 (list4 ++ ([r__e1.To] : List z7)) hf2 (Z3 ++ [Hq c3, Hn (iL ji h4), Hs (iM ji h4), Hs (iM ji h4), Hq (dM wd ([r__e1.To] : List z7)), Hn (dM wd ([r__e1.To] : List z7)), Hn (aL wd wd g2), Hl (aM wd list4 ([r__e1.To] : List z7))])
          ·exact yB X0 hC hJ8 list4 hf2 (Z3 ++ [Hq c3])
        ·obtain ⟨t9, ht9, hf2⟩ := zp hf2
         refine yL X0 hC xN [1,1,1,2,1,0,0,1,2,0,1,1,2,1,0,0,1,2,0,1,2,0] [J1, J2, J3, J4, J5, J6, J7] (fun s => uq r_1 list4 i_ s) (fun x => VE x_ most list1 steps1 n_ r_1 list4 l_1 i_ x) 0 ht9  [] ?_
         rintro k_1 m9 lr3 hf3 hl3 J9 hJ9
         try unfold uq at hf3
         let Z4 : List HO := [Ha (lnM wd list4)]
         rcases yb hf3 with ⟨c4, hf3⟩ | ⟨c4, hf3⟩
         ·obtain ⟨list_e1, h5, hf3⟩ := zp hf3
          obtain ⟨r__e2, h6, hf3⟩ := zp hf3
          obtain ⟨r_2, h7, hf3⟩ := zp hf3
          let Z5 : List HO := (Z4 ++ [Hq c4, Hq c4, Hq c4, Hn (iL wd h5), Hq c4, Hs (iM wd h5), Hq c4, Hq c4, Hq c4, Hn (iL ji h6), Hq c4, Hs (iM ji h6), Hq c4, Hs (iM ji h6), Hq c4, Hc h08 (x := (list_e1, r__e2.To)) h7 (loC wd list_e1 <| loC wd r__e2.To <| loN), Hq c4, Hq c4])
          rcases yb hf3 with ⟨c5, hf3⟩ | ⟨c5, hf3⟩
          ·obtain rfl := zn hf3
           exact yB X0 hC hJ9 (w64 (k_1 + 1)) hl3 (Z5 ++ [Hq c5])
          ·obtain rfl := zn hf3
           obtain rfl := hl3
           exact yB X0 hC hJ7 k_1 hf2 (Z5 ++ [Hq c5])
         ·obtain rfl := zn hf3
          obtain rfl := hl3
          exact yB X0 hC hJ7 k_1 hf2 (Z4 ++ (rpN 12 (Hq c4) [qF]))
      ·obtain rfl := zn hf2
       obtain rfl := hl2
       exact yB X0 hC hJ4 (list4, l_1) hf1 (Z2 ++ [Hq c2])
   ·obtain rfl := zn hf1
    obtain rfl := hl1
    exact yB X0 hC hJ1 (list1, steps1) hf0 (Z1 ++ [Hq c1])
  ·obtain rfl := zn hf1
   obtain rfl := hl1
   exact yB X0 hC hJ1 (list1, steps1) hf0 (Z0 ++ (rpN 5 (Hq c0) [qF]))
def Ks : Code := (Tryd.f12.body).getD .skip
def Yh : x5 := spF (α := Int × List ze) (ρ := z8) 12 (fun x => [(eI .i64) x.1, z2d x.2]) (fun r => z6w r) (fun x => Y7 x.1 x.2) [] (UT)
def z0N : XH Tryd.prog := ((zbb zY (.inl 13) [10,12]).or X0)
theorem KI {ctr : Ctr} (hC : zW Tryd.prog ctr) : Yh.Ok Tryd.prog := by
 refine yd ?_
 rintro ⟨capacity, arcs⟩ r0 hf0
 try unfold Y7 at hf0
 refine yO false [(4, some 29)] Ks 15 Tryd.func12 fun E hE => ?_
 obtain rfl := zn hf0
 exact yE z0N hC hE [Hm (shM vq vq ([(ze.mk 0 1 0 0 1), (ze.mk 1 0 0 0 0)])), Hm (shM (eI .i64) (eI .i64) []), Hm (shM (eI .i64) (eI .i64) []), Hm (shM (eI .i64) (eI .i64) ([capacity])), Hm (shM z8v z8v ([(zh.mk 2 ([(ze.mk 0 1 0 0 1), (ze.mk 1 0 0 0 0)]) []), (zh.mk 1 arcs [])]))]
def WS : Code := (Tryd.f58.body).getD .skip
def wT : x5 := spF (α := Int) (ρ := Bool) 58 (fun x => [(eI .i64) x]) (fun r => eB r) (fun x => jm x) [] (Us)
theorem V6 {ctr : Ctr} (hC : zW Tryd.prog ctr) : wT.Ok Tryd.prog := by
 refine yd ?_
 rintro n_ r0 hf0
 try unfold jm at hf0
 refine yO true [(2, none)] WS 5 Tryd.func58 fun E hE => ?_
 obtain rfl := zn hf0
 exact yE X0 hC hE []
def w9 : Code := (Tryd.f61.body).getD .skip
def vA : x5 := spF (α := List Int × Unit) (ρ := Int) 61 (fun x => [F2_ x.1, (Je 58) x.2]) (fun r => (eI .i64) r) (fun x => xH x.1 x.2) [] (by
 rintro ⟨a0, a1⟩ ⟨b0, b1⟩ h
 have e0 := wC.inj (f := F2_) _ _ (List.cons.inj h).1
 replace h := (List.cons.inj h).2
 have e1 := wC.inj (f := (Je 58)) _ _ (List.cons.inj h).1
 subst e0 e1
 rfl)
abbrev jh : List (Nat × T) := []
abbrev jg (s_ : List Int) (x8 : Int) : List (Nat × T) := [(0, .d (eSl 1 false (eI .i64) s_)), (1, .d (.fn 58 [])), (7, .d (I ((s_.length : Nat) : Int))), (8, .d (I x8))]
theorem kg {ctr : Ctr} (hC : zW Tryd.prog ctr) (h06 : ctr.Has wT) : vA.Ok Tryd.prog := by
 refine yd ?_
 rintro ⟨s_, f_⟩ r0 hf0
 try unfold xH at hf0
 refine yO true [(4, none)] w9 19 Tryd.func61 fun E hE => ?_
 refine yJ X0 hC w9 [1] [] [] (fun z : Unit => w5 = some r0) (fun z => jh) [(0, .d (eSl 1 false (eI .i64) s_)), (1, .d (.fn 58 []))] [Hh (.cut 1)] ?_ fun J1 hJ1 => ?_
 ·rintro ⟨⟩ hf0
  unfold w5 at hf0
  obtain rfl := zn hf0
  exact yE X0 hC hE []
 ·obtain ⟨t2, ht2, hf0⟩ := zp hf0
  refine yL X0 hC w9 [1,2,1,0] [J1] (fun s => yz s_ s) (fun x => jg s_ x) 0 ht2  [Ha (lnM (eI .i64) s_)] ?_
  rintro x8 m2 lr1 hf1 hl1 J2 hJ2
  try unfold yz at hf1
  rcases yb hf1 with ⟨c0, hf1⟩ | ⟨c0, hf1⟩
  ·obtain ⟨s__e, h0, hf1⟩ := zp hf1
   obtain ⟨r_, h1, hf1⟩ := zp hf1
   let Z0 : List HO := [Hq c0, Hi (eI .i64) h0, Hc h06 (x := s__e) h1 (loC (eI .i64) s__e <| loN)]
   rcases yb hf1 with ⟨c1, hf1⟩ | ⟨c1, hf1⟩
   ·obtain rfl := zn hf1
    obtain rfl := hl1
    obtain rfl := zn hf0
    exact yE X0 hC hE (Z0 ++ [Hq c1])
   ·obtain rfl := zn hf1
    exact yB X0 hC hJ2 (w64 (x8 + 1)) hl1 (Z0 ++ [Hq c1])
  ·obtain rfl := zn hf1
   obtain rfl := hl1
   exact yB X0 hC hJ1 () hf0 [Hq c0]
def jb : Code := (Tryd.f39.body).getD .skip
def wK : x5 := spF (α := List Int × Unit) (ρ := Bool) 39 (fun x => [F2_ x.1, (Je 58) x.2]) (fun r => eB r) (fun x => yD x.1 x.2) [] (by
 rintro ⟨a0, a1⟩ ⟨b0, b1⟩ h
 have e0 := wC.inj (f := F2_) _ _ (List.cons.inj h).1
 replace h := (List.cons.inj h).2
 have e1 := wC.inj (f := (Je 58)) _ _ (List.cons.inj h).1
 subst e0 e1
 rfl)
theorem wQ {ctr : Ctr} (hC : zW Tryd.prog ctr) (h06 : ctr.Has wT) : wK.Ok Tryd.prog := by
 refine yd ?_
 rintro ⟨s_, f_⟩ r0 hf0
 try unfold yD at hf0
 refine yO true [(4, none)] jb 9 Tryd.func39 fun E hE => ?_
 obtain ⟨r_, h0, hf0⟩ := zp hf0
 obtain rfl := zn hf0
 exact yE ((z0U zY (kg hC h06) 7).or X0) hC hE [Hc (Ctr.add_has QN vA) (x := (s_, ())) h0 (loC F2_ s_ <| loC (Je 58) () <| loN)]
def WR : Code := (Tryd.f60.body).getD .skip
def jw : x5 := spF (α := zh) (ρ := Bool) 60 (fun x => [wN x]) (fun r => eB r) (fun x => jl x) [] (Us)
theorem V5 {ctr : Ctr} (hC : zW Tryd.prog ctr) : jw.Ok Tryd.prog := by
 refine yd ?_
 rintro p_ r0 hf0
 try unfold jl at hf0
 refine yO true [(2, none)] WR 12 Tryd.func60 fun E hE => ?_
 rcases yb hf0 with ⟨c0, hf0⟩ | ⟨c0, hf0⟩
 ·obtain rfl := zn hf0
  exact yE X0 hC hE (rpN 5 (Hq c0) [])
 ·obtain rfl := zn hf0
  exact yE X0 hC hE [Hq c0, Hq c0, Hq c0, Ha (lnM vq p_.Arcs), Hq c0, Hq c0]
def yG : Code := (Tryd.f78.body).getD .skip
def yu : x5 := spF (α := List zh × Unit) (ρ := Int) 78 (fun x => [z4q x.1, (Je 60) x.2]) (fun r => (eI .i64) r) (fun x => ye x.1 x.2) [] (by
 rintro ⟨a0, a1⟩ ⟨b0, b1⟩ h
 have e0 := wC.inj (f := z4q) _ _ (List.cons.inj h).1
 replace h := (List.cons.inj h).2
 have e1 := wC.inj (f := (Je 60)) _ _ (List.cons.inj h).1
 subst e0 e1
 rfl)
abbrev v7 : List (Nat × T) := []
abbrev v6 (s_ : List zh) (x8 : Int) : List (Nat × T) := [(0, .d (eSl 3 false wN s_)), (1, .d (.fn 60 [])), (7, .d (I ((s_.length : Nat) : Int))), (8, .d (I x8))]
theorem vJ {ctr : Ctr} (hC : zW Tryd.prog ctr) (h0C : ctr.Has jw) : yu.Ok Tryd.prog := by
 refine yd ?_
 rintro ⟨s_, f_⟩ r0 hf0
 try unfold ye at hf0
 refine yO true [(4, none)] yG 19 Tryd.func78 fun E hE => ?_
 refine yJ X0 hC yG [1] [] [] (fun z : Unit => yw = some r0) (fun z => v7) [(0, .d (eSl 3 false wN s_)), (1, .d (.fn 60 []))] [Hh (.cut 1)] ?_ fun J1 hJ1 => ?_
 ·rintro ⟨⟩ hf0
  unfold yw at hf0
  obtain rfl := zn hf0
  exact yE X0 hC hE []
 ·obtain ⟨t2, ht2, hf0⟩ := zp hf0
  refine yL X0 hC yG [1,2,1,0] [J1] (fun s => zN s_ s) (fun x => v6 s_ x) 0 ht2  [Ha (lnM wN s_)] ?_
  rintro x8 m2 lr1 hf1 hl1 J2 hJ2
  try unfold zN at hf1
  rcases yb hf1 with ⟨c0, hf1⟩ | ⟨c0, hf1⟩
  ·obtain ⟨s__e, h0, hf1⟩ := zp hf1
   obtain ⟨r_, h1, hf1⟩ := zp hf1
   let Z0 : List HO := [Hq c0, Hi wN h0, Hc h0C (x := s__e) h1 (loC wN s__e <| loN)]
   rcases yb hf1 with ⟨c1, hf1⟩ | ⟨c1, hf1⟩
   ·obtain rfl := zn hf1
    obtain rfl := hl1
    obtain rfl := zn hf0
    exact yE X0 hC hE (Z0 ++ [Hq c1])
   ·obtain rfl := zn hf1
    exact yB X0 hC hJ2 (w64 (x8 + 1)) hl1 (Z0 ++ [Hq c1])
  ·obtain rfl := zn hf1
   obtain rfl := hl1
   exact yB X0 hC hJ1 () hf0 [Hq c0]
def wY : Code := (Tryd.f59.body).getD .skip
def yk : x5 := spF (α := List zh × Unit) (ρ := Bool) 59 (fun x => [z4q x.1, (Je 60) x.2]) (fun r => eB r) (fun x => zO x.1 x.2) [] (by
 rintro ⟨a0, a1⟩ ⟨b0, b1⟩ h
 have e0 := wC.inj (f := z4q) _ _ (List.cons.inj h).1
 replace h := (List.cons.inj h).2
 have e1 := wC.inj (f := (Je 60)) _ _ (List.cons.inj h).1
 subst e0 e1
 rfl)
theorem v8 {ctr : Ctr} (hC : zW Tryd.prog ctr) (h0D : ctr.Has yu) : yk.Ok Tryd.prog := by
 refine yd ?_
 rintro ⟨s_, f_⟩ r0 hf0
 try unfold zO at hf0
 refine yO true [(4, none)] wY 9 Tryd.func59 fun E hE => ?_
 obtain ⟨r_, h0, hf0⟩ := zp hf0
 obtain rfl := zn hf0
 exact yE X0 hC hE [Hc h0D (x := (s_, ())) h0 (loC z4q s_ <| loC (Je 60) () <| loN)]
def Uu : Code := (Tryd.f38.body).getD .skip
def kq : x5 := spF (α := z8) (ρ := Bool) 38 (fun x => [xi x]) (fun r => eB r) (fun x => jn x) [] (Us)
theorem Q0 {ctr : Ctr} (hC : zW Tryd.prog ctr) (h06 : ctr.Has wT) (h0E : ctr.Has yk) : kq.Ok Tryd.prog := by
 refine yd ?_
 rintro x_ r0 hf0
 try unfold jn at hf0
 refine yO true [(2, none)] Uu 31 Tryd.func38 fun E hE => ?_
 rcases yb hf0 with ⟨c0, hf0⟩ | ⟨c0, hf0⟩
 ·obtain rfl := zn hf0
  exact yE X0 hC hE (rpN 4 (Hq c0) (rpN 11 qT []))
 ·let Z0 : List HO := (rpN 4 (Hq c0) [])
  rcases yb hf0 with ⟨c1, hf0⟩ | ⟨c1, hf0⟩
  ·obtain rfl := zn hf0
   exact yE X0 hC hE (Z0 ++ (rpN 5 (Hq c1) (rpN 6 qT [])))
  ·let Z1 : List HO := (Z0 ++ [Hq c1, Hq c1, Hq c1, Ha (lnM (eI .i64) x_.Channels), Hq c1, Hq c1])
   rcases yb hf0 with ⟨c2, hf0⟩ | ⟨c2, hf0⟩
   ·obtain rfl := zn hf0
    exact yE X0 hC hE (Z1 ++ (rpN 5 (Hq c2) [qT]))
   ·let Z2 : List HO := (Z1 ++ [Hq c2, Hq c2, Hq c2, Ha (lnM wN x_.Parts), Hq c2, Hq c2])
    rcases yb hf0 with ⟨c3, hf0⟩ | ⟨c3, hf0⟩
    ·obtain rfl := zn hf0
     exact yE X0 hC hE (Z2 ++ [Hq c3])
    ·obtain ⟨r_, h0, hf0⟩ := zp hf0
     let Z3 : List HO := (Z2 ++ [Hq c3, Hc (Ctr.add_has QN wK) (x := (x_.Channels, ())) h0 (loC F2_ x_.Channels <| loC (Je 58) () <| loN)])
     rcases yb hf0 with ⟨c4, hf0⟩ | ⟨c4, hf0⟩
     ·obtain rfl := zn hf0
      exact yE ((z0U zY (wQ hC h06) 25).or X0) hC hE (Z3 ++ (rpN 4 (Hq c4) []))
     ·obtain ⟨r_1, h1, hf0⟩ := zp hf0
      obtain rfl := zn hf0
      exact yE ((z0U zY (wQ hC h06) 25).or X0) hC hE (Z3 ++ [Hq c4, Hq c4, Hq c4, Hc h0E (x := (x_.Parts, ())) h1 (loC z4q x_.Parts <| loC (Je 60) () <| loN), Hq c4])
def WU : Code := (Tryd.f40.body).getD .skip
def wU : x5 := spF (α := Int) (ρ := Bool) 40 (fun x => [(eI .i64) x]) (fun r => eB r) (fun x => jv x) [] (Us)
theorem V9 {ctr : Ctr} (hC : zW Tryd.prog ctr) : wU.Ok Tryd.prog := by
 refine yd ?_
 rintro n_ r0 hf0
 try unfold jv at hf0
 refine yO true [(2, none)] WU 5 Tryd.func40 fun E hE => ?_
 obtain rfl := zn hf0
 exact yE X0 hC hE []
def w8 : Code := (Tryd.f61.body).getD .skip
def vz : x5 := spF (α := List Int × Unit) (ρ := Int) 61 (fun x => [F2_ x.1, (Je 40) x.2]) (fun r => (eI .i64) r) (fun x => xG x.1 x.2) [] (by
 rintro ⟨a0, a1⟩ ⟨b0, b1⟩ h
 have e0 := wC.inj (f := F2_) _ _ (List.cons.inj h).1
 replace h := (List.cons.inj h).2
 have e1 := wC.inj (f := (Je 40)) _ _ (List.cons.inj h).1
 subst e0 e1
 rfl)
abbrev jf : List (Nat × T) := []
abbrev je (s_ : List Int) (x8 : Int) : List (Nat × T) := [(0, .d (eSl 1 false (eI .i64) s_)), (1, .d (.fn 40 [])), (7, .d (I ((s_.length : Nat) : Int))), (8, .d (I x8))]
theorem ke {ctr : Ctr} (hC : zW Tryd.prog ctr) (h07 : ctr.Has wU) : vz.Ok Tryd.prog := by
 refine yd ?_
 rintro ⟨s_, f_⟩ r0 hf0
 try unfold xG at hf0
 refine yO true [(4, none)] w8 19 Tryd.func61 fun E hE => ?_
 refine yJ X0 hC w8 [1] [] [] (fun z : Unit => xZ = some r0) (fun z => jf) [(0, .d (eSl 1 false (eI .i64) s_)), (1, .d (.fn 40 []))] [Hh (.cut 1)] ?_ fun J1 hJ1 => ?_
 ·rintro ⟨⟩ hf0
  unfold xZ at hf0
  obtain rfl := zn hf0
  exact yE X0 hC hE []
 ·obtain ⟨t2, ht2, hf0⟩ := zp hf0
  refine yL X0 hC w8 [1,2,1,0] [J1] (fun s => yx s_ s) (fun x => je s_ x) 0 ht2  [Ha (lnM (eI .i64) s_)] ?_
  rintro x8 m2 lr1 hf1 hl1 J2 hJ2
  try unfold yx at hf1
  rcases yb hf1 with ⟨c0, hf1⟩ | ⟨c0, hf1⟩
  ·obtain ⟨s__e, h0, hf1⟩ := zp hf1
   obtain ⟨r_, h1, hf1⟩ := zp hf1
   let Z0 : List HO := [Hq c0, Hi (eI .i64) h0, Hc h07 (x := s__e) h1 (loC (eI .i64) s__e <| loN)]
   rcases yb hf1 with ⟨c1, hf1⟩ | ⟨c1, hf1⟩
   ·obtain rfl := zn hf1
    obtain rfl := hl1
    obtain rfl := zn hf0
    exact yE X0 hC hE (Z0 ++ [Hq c1])
   ·obtain rfl := zn hf1
    exact yB X0 hC hJ2 (w64 (x8 + 1)) hl1 (Z0 ++ [Hq c1])
  ·obtain rfl := zn hf1
   obtain rfl := hl1
   exact yB X0 hC hJ1 () hf0 [Hq c0]
def ja : Code := (Tryd.f39.body).getD .skip
def wJ : x5 := spF (α := List Int × Unit) (ρ := Bool) 39 (fun x => [F2_ x.1, (Je 40) x.2]) (fun r => eB r) (fun x => yC x.1 x.2) [] (by
 rintro ⟨a0, a1⟩ ⟨b0, b1⟩ h
 have e0 := wC.inj (f := F2_) _ _ (List.cons.inj h).1
 replace h := (List.cons.inj h).2
 have e1 := wC.inj (f := (Je 40)) _ _ (List.cons.inj h).1
 subst e0 e1
 rfl)
theorem wP {ctr : Ctr} (hC : zW Tryd.prog ctr) (h07 : ctr.Has wU) : wJ.Ok Tryd.prog := by
 refine yd ?_
 rintro ⟨s_, f_⟩ r0 hf0
 try unfold yC at hf0
 refine yO true [(4, none)] ja 9 Tryd.func39 fun E hE => ?_
 obtain ⟨r_, h0, hf0⟩ := zp hf0
 obtain rfl := zn hf0
 exact yE ((z0U zY (ke hC h07) 7).or X0) hC hE [Hc (Ctr.add_has QN vz) (x := (s_, ())) h0 (loC F2_ s_ <| loC (Je 40) () <| loN)]
def Kq : Code := (Tryd.f50.body).getD .skip
def kF : x5 := spF (α := Int × Int) (ρ := Bool) 50 (fun x => [(eI .i64) x.1, (eI .i64) x.2]) (fun r => eB r) (fun x => un x.1 x.2) [] (UT)
theorem KE {ctr : Ctr} (hC : zW Tryd.prog ctr) : kF.Ok Tryd.prog := by
 refine yd ?_
 rintro ⟨n_, many⟩ r0 hf0
 try unfold un at hf0
 refine yO true [(4, none)] Kq 12 Tryd.func50 fun E hE => ?_
 rcases yb hf0 with ⟨c0, hf0⟩ | ⟨c0, hf0⟩
 ·obtain rfl := zn hf0
  exact yE X0 hC hE (rpN 4 (Hq c0) [])
 ·obtain rfl := zn hf0
  exact yE X0 hC hE (rpN 4 (Hq c0) [])
def qe : Code := (Tryd.f25.body).getD .skip
def uV : x5 := spF (α := List Int × Int) (ρ := Bool) 25 (fun x => [F2_ x.1, (eI .i64) x.2]) (fun r => eB r) (fun x => um x.1 x.2) [] (UT)
abbrev XU : List (Nat × T) := []
abbrev XT (l_ : List Int) (many : Int) (x9 : Int) (x29 : Bool) : List (Nat × T) := [(0, .d (eSl 1 false (eI .i64) l_)), (1, .d (I many)), (7, .d (eSl 1 false (eI .i64) l_)), (8, .d (I ((l_.length : Nat) : Int))), (9, .d (I x9)), (19, .d (I x9)), (20, .d (B (decide (x9 > 0)))), (21, .d (B (decide (x9 > 0)))), (29, .d (B x29))]
abbrev XS (l_ : List Int) (many : Int) (x9 : Int) : List (Nat × T) := [(0, .d (eSl 1 false (eI .i64) l_)), (1, .d (I many)), (7, .d (eSl 1 false (eI .i64) l_)), (8, .d (I ((l_.length : Nat) : Int))), (9, .d (I x9))]
theorem Un {ctr : Ctr} (hC : zW Tryd.prog ctr) (h04 : ctr.Has kF) : uV.Ok Tryd.prog := by
 refine yd ?_
 rintro ⟨l_, many⟩ r0 hf0
 try unfold um at hf0
 refine yO true [(4, none)] qe 32 Tryd.func25 fun E hE => ?_
 refine yJ X0 hC qe [1] [] [] (fun z : Unit => jQ = some r0) (fun z => XU) [(0, .d (eSl 1 false (eI .i64) l_)), (1, .d (I many))] [Hh (.cut 1)] ?_ fun J1 hJ1 => ?_
 ·rintro ⟨⟩ hf0
  unfold jQ at hf0
  obtain rfl := zn hf0
  exact yE X0 hC hE []
 ·obtain ⟨t2, ht2, hf0⟩ := zp hf0
  refine yL X0 hC qe [1,2,1,0] [J1] (fun s => vu l_ many s) (fun x => XS l_ many x) 0 ht2  [Ha (lnM (eI .i64) l_)] ?_
  rintro x9 m2 lr1 hf1 hl1 J2 hJ2
  try unfold vu at hf1
  rcases yb hf1 with ⟨c0, hf1⟩ | ⟨c0, hf1⟩
  ·refine yJ X0 hC qe [1,2,1,0,0,1,1] [J1, J2] [0,1,7,8,9,19,20,21,29] (fun z : Bool => uT x9 z = some lr1) (fun z => XT l_ many x9 z) [(0, .d (eSl 1 false (eI .i64) l_)), (1, .d (I many)), (7, .d (eSl 1 false (eI .i64) l_)), (8, .d (I ((l_.length : Nat) : Int))), (9, .d (I x9))] [Hq c0, Hh (.cut 0)] ?_ fun J3 hJ3 => ?_
   ·rintro x29 hf1
    unfold uT at hf1
    obtain rfl := zn hf1
    exact yB X0 hC hJ2 (w64 (x9 + 1)) hl1 []
   ·obtain ⟨l__e, h0, hf1⟩ := zp hf1
    obtain ⟨r_, h1, hf1⟩ := zp hf1
    let Z0 : List HO := [Hi (eI .i64) h0, Hc h04 (x := (l__e, many)) h1 (loC (eI .i64) l__e <| loC (eI .i64) many <| loN)]
    rcases yb hf1 with ⟨c1, hf1⟩ | ⟨c1, hf1⟩
    ·obtain rfl := zn hf1
     obtain rfl := hl1
     obtain rfl := zn hf0
     exact yE X0 hC hE (Z0 ++ (rpN 5 (Hq c1) [qT]))
    ·rcases yb hf1 with ⟨c2, hf1⟩ | ⟨c2, hf1⟩
     ·obtain ⟨l__e1, h2, hf1⟩ := zp hf1
      let Z1 : List HO := (Z0 ++ (Hq c1 :: Hq c1 :: Hq c1 :: (rpN 5 (Hq c2) [Hi (eI .i64) h2, Hq c2, Hq c2, Hq c1, Hq c2, Hq c1])))
      rcases yb hf1 with ⟨c3, hf1⟩ | ⟨c3, hf1⟩
      ·obtain rfl := zn hf1
       obtain rfl := hl1
       obtain rfl := zn hf0
       exact yE X0 hC hE (Z1 ++ [Hq c3])
      ·exact yB X0 hC hJ3 (decide (l__e ≤ l__e1)) hf1 (Z1 ++ [Hq c3])
     ·exact yB X0 hC hJ3 false hf1 (Z0 ++ (Hq c1 :: Hq c1 :: Hq c1 :: (rpN 7 (Hq c2) [Hq c1, Hq c2, Hq c1, qF])))
  ·obtain rfl := zn hf1
   obtain rfl := hl1
   exact yB X0 hC hJ1 () hf0 [Hq c0]
def YD : Code := (Tryd.f43.body).getD .skip
def vW : x5 := spF (α := z8 × zh × ze) (ρ := Bool) 43 (fun x => [xi x.1, wN x.2.1, vq x.2.2]) (fun r => eB r) (fun x => wv x.1 x.2.1 x.2.2) [] (zaZ)
theorem YO {ctr : Ctr} (hC : zW Tryd.prog ctr) (h04 : ctr.Has kF) : vW.Ok Tryd.prog := by
 refine yd ?_
 rintro ⟨x_, p_, a_⟩ r0 hf0
 try unfold wv at hf0
 refine yO true [(6, none)] YD 52 Tryd.func43 fun E hE => ?_
 obtain ⟨r_, h0, hf0⟩ := zp hf0
 let Z0 : List HO := [Hc h04 (x := (a_.From, p_.States)) h0 (loC (eI .i64) a_.From <| loC (eI .i64) p_.States <| loN)]
 rcases yb hf0 with ⟨c0, hf0⟩ | ⟨c0, hf0⟩
 ·obtain rfl := zn hf0
  exact yE X0 hC hE (Z0 ++ (rpN 7 (Hq c0) (rpN 5 qT [])))
 ·obtain ⟨r_1, h1, hf0⟩ := zp hf0
  let Z1 : List HO := (Z0 ++ (rpN 5 (Hq c0) [Hc h04 (x := (a_.To, p_.States)) h1 (loC (eI .i64) a_.To <| loC (eI .i64) p_.States <| loN), Hq c0, Hq c0]))
  rcases yb hf0 with ⟨c1, hf0⟩ | ⟨c1, hf0⟩
  ·obtain rfl := zn hf0
   exact yE X0 hC hE (Z1 ++ (rpN 4 (Hq c1) [qT]))
  ·let Z2 : List HO := (Z1 ++ (rpN 4 (Hq c1) []))
   rcases yb hf0 with ⟨c2, hf0⟩ | ⟨c2, hf0⟩
   ·obtain rfl := zn hf0
    exact yE X0 hC hE (Z2 ++ [Hq c2])
   ·rcases yb hf0 with ⟨c3, hf0⟩ | ⟨c3, hf0⟩
    ·rcases yb hf0 with ⟨c4, hf0⟩ | ⟨c4, hf0⟩
     ·obtain ⟨r_2, h2, hf0⟩ := zp hf0
      obtain rfl := zn hf0
      exact yE X0 hC hE (Z2 ++ (Hq c2 :: Hq c3 :: (rpN 5 (Hq c4) [Hc h04 (x := (a_.Message, x_.Labels)) h2 (loC (eI .i64) a_.Message <| loC (eI .i64) x_.Labels <| loN), Hq c4])))
     ·obtain rfl := zn hf0
      exact yE X0 hC hE (Z2 ++ (Hq c2 :: Hq c3 :: (rpN 6 (Hq c4) [])))
    ·obtain ⟨r_3, h3, hf0⟩ := zp hf0
     let Z3 : List HO := (Z2 ++ [Hq c2, Hq c3, Ha (lnM (eI .i64) x_.Channels), Hc h04 (x := (a_.Channel, ((x_.Channels.length : Nat) : Int))) h3 (loC (eI .i64) a_.Channel <| loC (eI .i64) ((x_.Channels.length : Nat) : Int) <| loN)])
     rcases yb hf0 with ⟨c5, hf0⟩ | ⟨c5, hf0⟩
     ·obtain ⟨r_4, h4, hf0⟩ := zp hf0
      obtain rfl := zn hf0
      exact yE X0 hC hE (Z3 ++ (rpN 5 (Hq c5) [Hc h04 (x := (a_.Message, x_.Messages)) h4 (loC (eI .i64) a_.Message <| loC (eI .i64) x_.Messages <| loN), Hq c5]))
     ·obtain rfl := zn hf0
      exact yE X0 hC hE (Z3 ++ (rpN 6 (Hq c5) []))
def WT : Code := (Tryd.f42.body).getD .skip
def jy : x5 := spF (α := ze × z8 × zh) (ρ := Bool) 42 (fun x => [vq x.1, z4p x.2.1, z6x x.2.2]) (fun r => eB r) (fun x => ju x.1 x.2.1 x.2.2) [] (zaZ)
theorem V8 {ctr : Ctr} (hC : zW Tryd.prog ctr) (h0F : ctr.Has vW) : jy.Ok Tryd.prog := by
 refine yd ?_
 rintro ⟨a_, x1, x2⟩ r0 hf0
 try unfold ju at hf0
 refine yO true [(4, none)] WT 10 Tryd.func42 fun E hE => ?_
 obtain ⟨r_, h0, hf0⟩ := zp hf0
 obtain rfl := zn hf0
 exact yE X0 hC hE [Hc h0F (x := (x1, x2, a_)) h0 (loC xi x1 <| loC wN x2 <| loC vq a_ <| loN)]
def yR : Code := (Tryd.f62.body).getD .skip
def yN : x5 := spF (α := List ze × (z8 × zh)) (ρ := Int) 62 (fun x => [z8j x.1, (z2C 42 z4p z6x) x.2]) (fun r => (eI .i64) r) (fun x => yh x.1 x.2) [] (by
 rintro ⟨a0, a1⟩ ⟨b0, b1⟩ h
 have e0 := wC.inj (f := z8j) _ _ (List.cons.inj h).1
 replace h := (List.cons.inj h).2
 have e1 := wC.inj (f := (z2C 42 z4p z6x)) _ _ (List.cons.inj h).1
 subst e0 e1
 rfl)
abbrev vm : List (Nat × T) := []
abbrev vj (s_ : List ze) (f_ : z8 × zh) (x8 : Int) : List (Nat × T) := [(0, .d (eSl 5 false vq s_)), (1, .d (.fn 42 [.sptr (.agg [I f_.1.Messages, I f_.1.Labels, eSl 1 false (eI .i64) f_.1.Channels, eSl 3 false wN f_.1.Parts]), .sptr (.agg [I f_.2.States, eSl 5 false vq f_.2.Arcs, eSl 1 false (eI .i64) f_.2.Final])])), (7, .d (I ((s_.length : Nat) : Int))), (8, .d (I x8))]
theorem ud {ctr : Ctr} (hC : zW Tryd.prog ctr) (h0G : ctr.Has jy) : yN.Ok Tryd.prog := by
 refine yd ?_
 rintro ⟨s_, f_⟩ r0 hf0
 try unfold yh at hf0
 refine yO true [(4, none)] yR 19 Tryd.func62 fun E hE => ?_
 refine yJ X0 hC yR [1] [] [] (fun z : Unit => yQ = some r0) (fun z => vm) [(0, .d (eSl 5 false vq s_)), (1, .d (.fn 42 [.sptr (.agg [I f_.1.Messages, I f_.1.Labels, eSl 1 false (eI .i64) f_.1.Channels, eSl 3 false wN f_.1.Parts]), .sptr (.agg [I f_.2.States, eSl 5 false vq f_.2.Arcs, eSl 1 false (eI .i64) f_.2.Final])]))] [Hh (.cut 1)] ?_ fun J1 hJ1 => ?_
 ·rintro ⟨⟩ hf0
  unfold yQ at hf0
  obtain rfl := zn hf0
  exact yE X0 hC hE []
 ·obtain ⟨t2, ht2, hf0⟩ := zp hf0
  refine yL X0 hC yR [1,2,1,0] [J1] (fun s => zR s_ f_ s) (fun x => vj s_ f_ x) 0 ht2  [Ha (lnM vq s_)] ?_
  rintro x8 m2 lr1 hf1 hl1 J2 hJ2
  try unfold zR at hf1
  rcases yb hf1 with ⟨c0, hf1⟩ | ⟨c0, hf1⟩
  ·obtain ⟨s__e, h0, hf1⟩ := zp hf1
   obtain ⟨r_, h1, hf1⟩ := zp hf1
   let Z0 : List HO := [Hq c0, Hi vq h0, Hc h0G (x := (s__e, f_.1, f_.2)) h1 (loC vq s__e <| loC z4p f_.1 <| loC z6x f_.2 <| loN)]
   rcases yb hf1 with ⟨c1, hf1⟩ | ⟨c1, hf1⟩
   ·obtain rfl := zn hf1
    obtain rfl := hl1
    obtain rfl := zn hf0
    exact yE X0 hC hE (Z0 ++ [Hq c1])
   ·obtain rfl := zn hf1
    exact yB X0 hC hJ2 (w64 (x8 + 1)) hl1 (Z0 ++ [Hq c1])
  ·obtain rfl := zn hf1
   obtain rfl := hl1
   exact yB X0 hC hJ1 () hf0 [Hq c0]
def vg : Code := (Tryd.f41.body).getD .skip
def yp : x5 := spF (α := List ze × (z8 × zh)) (ρ := Bool) 41 (fun x => [z8j x.1, (z2C 42 z4p z6x) x.2]) (fun r => eB r) (fun x => zS x.1 x.2) [] (by
 rintro ⟨a0, a1⟩ ⟨b0, b1⟩ h
 have e0 := wC.inj (f := z8j) _ _ (List.cons.inj h).1
 replace h := (List.cons.inj h).2
 have e1 := wC.inj (f := (z2C 42 z4p z6x)) _ _ (List.cons.inj h).1
 subst e0 e1
 rfl)
theorem vt {ctr : Ctr} (hC : zW Tryd.prog ctr) (h0H : ctr.Has yN) : yp.Ok Tryd.prog := by
 refine yd ?_
 rintro ⟨s_, f_⟩ r0 hf0
 try unfold zS at hf0
 refine yO true [(4, none)] vg 9 Tryd.func41 fun E hE => ?_
 obtain ⟨r_, h0, hf0⟩ := zp hf0
 obtain rfl := zn hf0
 exact yE X0 hC hE [Hc h0H (x := (s_, (f_.1, f_.2))) h0 (loC z8j s_ <| loC (z2C 42 z4p z6x) (f_.1, f_.2) <| loN)]
def kB : Code := (Tryd.f19.body).getD .skip
def uf : x5 := spF (α := z8) (ρ := Int) 19 (fun x => [xi x]) (fun r => (eI .i64) r) (fun x => vV x) [] (Us)
abbrev Ws : List (Nat × T) := []
abbrev Wr (x_ : z8) (x29 : Int) : List (Nat × T) := [(1, .d (.sptr (xi x_))), (27, .d (eSl 3 false wN x_.Parts)), (28, .d (I ((x_.Parts.length : Nat) : Int))), (29, .d (I x29))]
theorem Q2 {ctr : Ctr} (hC : zW Tryd.prog ctr) (h0I : ctr.Has kq) (h07 : ctr.Has wU) (h0h : ctr.Has uV) (h0J : ctr.Has yp) : uf.Ok Tryd.prog := by
 refine yd ?_
 rintro x_ r0 hf0
 try unfold vV at hf0
 refine yO true [(2, none)] kB 51 Tryd.func19 fun E hE => ?_
 obtain ⟨r_, h0, hf0⟩ := zp hf0
 let Z0 : List HO := [Hc h0I (x := x_) h0 (loC xi x_ <| loN)]
 rcases yb hf0 with ⟨c0, hf0⟩ | ⟨c0, hf0⟩
 ·obtain rfl := zn hf0
  exact yE X0 hC hE (Z0 ++ [Hq c0])
 ·rcases yb hf0 with ⟨c1, hf0⟩ | ⟨c1, hf0⟩
  ·obtain rfl := zn hf0
   exact yE X0 hC hE (Z0 ++ (Hq c0 :: (rpN 4 (Hq c1) (rpN 10 qT []))))
  ·let Z1 : List HO := (Z0 ++ (Hq c0 :: (rpN 4 (Hq c1) [])))
   rcases yb hf0 with ⟨c2, hf0⟩ | ⟨c2, hf0⟩
   ·obtain rfl := zn hf0
    exact yE X0 hC hE (Z1 ++ (rpN 5 (Hq c2) (rpN 5 qT [])))
   ·let Z2 : List HO := (Z1 ++ [Hq c2, Hq c2, Hq c2, Ha (lnM wN x_.Parts), Hq c2, Hq c2])
    rcases yb hf0 with ⟨c3, hf0⟩ | ⟨c3, hf0⟩
    ·obtain rfl := zn hf0
     exact yE X0 hC hE (Z2 ++ (rpN 4 (Hq c3) [qT]))
    ·obtain ⟨r_1, h1, hf0⟩ := zp hf0
     let Z3 : List HO := (Z2 ++ [Hq c3, Hq c3, Hq c3, Hc (Ctr.add_has QN wJ) (x := (x_.Channels, ())) h1 (loC F2_ x_.Channels <| loC (Je 40) () <| loN), Hq c3])
     rcases yb hf0 with ⟨c4, hf0⟩ | ⟨c4, hf0⟩
     ·obtain rfl := zn hf0
      exact yE ((z0U zY (wP hC h07) 24).or X0) hC hE (Z3 ++ [Hq c4])
     ·refine yJ ((z0U zY (wP hC h07) 24).or X0) hC kB [1,1,1] [] [] (fun z : Unit => kp = some r0) (fun z => Ws) [(1, .own (.box (xi x_)))] (Z3 ++ [Hq c4, Hh (.cut 0)]) ?_ fun J1 hJ1 => ?_
      ·rintro ⟨⟩ hf0
       unfold kp at hf0
       obtain rfl := zn hf0
       exact yE X0 hC hE []
      ·obtain ⟨t2, ht2, hf0⟩ := zp hf0
       refine yL X0 hC kB [1,1,1,2,1,0] [J1] (fun s => ue x_ s) (fun x => Wr x_ x) 0 ht2  [Ha (lnM wN x_.Parts), Hh (.n 1 [1])] ?_
       rintro x29 m2 lr1 hf1 hl1 J2 hJ2
       try unfold ue at hf1
       rcases yb hf1 with ⟨c5, hf1⟩ | ⟨c5, hf1⟩
       ·obtain ⟨Part_e, h2, hf1⟩ := zp hf1
        let Z4 : List HO := [Hq c5, Hi wN h2]
        rcases yb hf1 with ⟨c6, hf1⟩ | ⟨c6, hf1⟩
        ·obtain rfl := zn hf1
         obtain rfl := hl1
         obtain rfl := zn hf0
         exact yE X0 hC hE (Z4 ++ (rpN 7 (Hq c6) (rpN 6 qT [])))
        ·obtain ⟨r_2, h3, hf1⟩ := zp hf1
         let Z5 : List HO := (Z4 ++ (rpN 5 (Hq c6) [Hc h0h (x := (Part_e.Final, Part_e.States)) h3 (loC F2_ Part_e.Final <| loC (eI .i64) Part_e.States <| loN), Hq c6, Hq c6]))
         rcases yb hf1 with ⟨c7, hf1⟩ | ⟨c7, hf1⟩
         ·obtain rfl := zn hf1
          obtain rfl := hl1
          obtain rfl := zn hf0
          exact yE X0 hC hE (Z5 ++ (rpN 5 (Hq c7) [qT]))
         ·obtain ⟨r_3, h4, hf1⟩ := zp hf1
          let Z6 : List HO := (Z5 ++ (rpN 4 (Hq c7) [Hc h0J (x := (Part_e.Arcs, (x_, Part_e))) h4 (loC z8j Part_e.Arcs <| loC (z2C 42 z4p z6x) (x_, Part_e) <| loN), Hq c7]))
          rcases yb hf1 with ⟨c8, hf1⟩ | ⟨c8, hf1⟩
          ·obtain rfl := zn hf1
           obtain rfl := hl1
           obtain rfl := zn hf0
           exact yE X0 hC hE (Z6 ++ [Hq c8])
          ·obtain rfl := zn hf1
           exact yB X0 hC hJ2 (w64 (x29 + 1)) hl1 (Z6 ++ [Hq c8])
       ·obtain rfl := zn hf1
        obtain rfl := hl1
        exact yB X0 hC hJ1 () hf0 [Hq c5]
def YE : Code := (Tryd.f44.body).getD .skip
def vY : x5 := spF (α := z8 × za) (ρ := z8 × za) 44 (fun x => [xi x.1, yS x.2]) (fun r => (z2C 63 z4p (eSp yS)) r) (fun x => vn x.1 x.2) [] (UT)
theorem YQ {ctr : Ctr} (hC : zW Tryd.prog ctr) : vY.Ok Tryd.prog := by
 refine yd ?_
 rintro ⟨x_, s_⟩ r0 hf0
 try unfold vn at hf0
 refine yO true [(4, none)] YE 6 Tryd.func44 fun E hE => ?_
 obtain rfl := zn hf0
 exact yEx X0 hC hE [] (.fn 63 [.sptr (.agg [I x_.Messages, I x_.Labels, eSl 1 false (eI .i64) x_.Channels, eSl 3 false wN x_.Parts]), .sptr (.agg [.agg [I s_.states_.e0, I s_.states_.e1, I s_.states_.e2, I s_.states_.e3], .agg [.agg [I s_.queues_.e0.many_, .agg [I s_.queues_.e0.l_.e0, I s_.queues_.e0.l_.e1, I s_.queues_.e0.l_.e2, I s_.queues_.e0.l_.e3]], .agg [I s_.queues_.e1.many_, .agg [I s_.queues_.e1.l_.e0, I s_.queues_.e1.l_.e1, I s_.queues_.e1.l_.e2, I s_.queues_.e1.l_.e3]], .agg [I s_.queues_.e2.many_, .agg [I s_.queues_.e2.l_.e0, I s_.queues_.e2.l_.e1, I s_.queues_.e2.l_.e2, I s_.queues_.e2.l_.e3]], .agg [I s_.queues_.e3.many_, .agg [I s_.queues_.e3.l_.e0, I s_.queues_.e3.l_.e1, I s_.queues_.e3.l_.e2, I s_.queues_.e3.l_.e3]]]])]) (show LeV (.fn 63 [.sptr (.agg [I x_.Messages, I x_.Labels, eSl 1 false (eI .i64) x_.Channels, eSl 3 false wN x_.Parts]), .sptr (.agg [.agg [I s_.states_.e0, I s_.states_.e1, I s_.states_.e2, I s_.states_.e3], .agg [.agg [I s_.queues_.e0.many_, .agg [I s_.queues_.e0.l_.e0, I s_.queues_.e0.l_.e1, I s_.queues_.e0.l_.e2, I s_.queues_.e0.l_.e3]], .agg [I s_.queues_.e1.many_, .agg [I s_.queues_.e1.l_.e0, I s_.queues_.e1.l_.e1, I s_.queues_.e1.l_.e2, I s_.queues_.e1.l_.e3]], .agg [I s_.queues_.e2.many_, .agg [I s_.queues_.e2.l_.e0, I s_.queues_.e2.l_.e1, I s_.queues_.e2.l_.e2, I s_.queues_.e2.l_.e3]], .agg [I s_.queues_.e3.many_, .agg [I s_.queues_.e3.l_.e0, I s_.queues_.e3.l_.e1, I s_.queues_.e3.l_.e2, I s_.queues_.e3.l_.e3]]]])]) (.fn 63 [.sptr (.agg [I (((x_, s_).1).Messages), I (((x_, s_).1).Labels), eSl 1 false (eI .i64) (((x_, s_).1).Channels), eSl 3 false wN (((x_, s_).1).Parts)]), .sptr (.agg [.agg [I ((((x_, s_).2).states_).e0), I ((((x_, s_).2).states_).e1), I ((((x_, s_).2).states_).e2), I ((((x_, s_).2).states_).e3)], .agg [.agg [I (((((x_, s_).2).queues_).e0).many_), .agg [I ((((((x_, s_).2).queues_).e0).l_).e0), I ((((((x_, s_).2).queues_).e0).l_).e1), I ((((((x_, s_).2).queues_).e0).l_).e2), I ((((((x_, s_).2).queues_).e0).l_).e3)]], .agg [I (((((x_, s_).2).queues_).e1).many_), .agg [I ((((((x_, s_).2).queues_).e1).l_).e0), I ((((((x_, s_).2).queues_).e1).l_).e1), I ((((((x_, s_).2).queues_).e1).l_).e2), I ((((((x_, s_).2).queues_).e1).l_).e3)]], .agg [I (((((x_, s_).2).queues_).e2).many_), .agg [I ((((((x_, s_).2).queues_).e2).l_).e0), I ((((((x_, s_).2).queues_).e2).l_).e1), I ((((((x_, s_).2).queues_).e2).l_).e2), I ((((((x_, s_).2).queues_).e2).l_).e3)]], .agg [I (((((x_, s_).2).queues_).e3).many_), .agg [I ((((((x_, s_).2).queues_).e3).l_).e0), I ((((((x_, s_).2).queues_).e3).l_).e1), I ((((((x_, s_).2).queues_).e3).l_).e2), I ((((((x_, s_).2).queues_).e3).l_).e3)]]]])]) from inferInstance)
def YV : Code := (Tryd.f64.body).getD .skip
def wI : x5 := spF (α := z8 × za × Int) (ρ := z8 × Int × za) 64 (fun x => [xi x.1, yS x.2.1, (eI .i64) x.2.2]) (fun r => (zeJ 79 z4p (eSp (eI .i64)) (eSp yS)) r) (fun x => xY x.1 x.2.1 x.2.2) [] (zaZ)
theorem Xb {ctr : Ctr} (hC : zW Tryd.prog ctr) : wI.Ok Tryd.prog := by
 refine yd ?_
 rintro ⟨x_, s_, part⟩ r0 hf0
 try unfold xY at hf0
 refine yO true [(6, none)] YV 8 Tryd.func64 fun E hE => ?_
 obtain rfl := zn hf0
 exact yEx X0 hC hE [] (.fn 79 [.sptr (.agg [I x_.Messages, I x_.Labels, eSl 1 false (eI .i64) x_.Channels, eSl 3 false wN x_.Parts]), .sptr (I part), .sptr (.agg [.agg [I s_.states_.e0, I s_.states_.e1, I s_.states_.e2, I s_.states_.e3], .agg [.agg [I s_.queues_.e0.many_, .agg [I s_.queues_.e0.l_.e0, I s_.queues_.e0.l_.e1, I s_.queues_.e0.l_.e2, I s_.queues_.e0.l_.e3]], .agg [I s_.queues_.e1.many_, .agg [I s_.queues_.e1.l_.e0, I s_.queues_.e1.l_.e1, I s_.queues_.e1.l_.e2, I s_.queues_.e1.l_.e3]], .agg [I s_.queues_.e2.many_, .agg [I s_.queues_.e2.l_.e0, I s_.queues_.e2.l_.e1, I s_.queues_.e2.l_.e2, I s_.queues_.e2.l_.e3]], .agg [I s_.queues_.e3.many_, .agg [I s_.queues_.e3.l_.e0, I s_.queues_.e3.l_.e1, I s_.queues_.e3.l_.e2, I s_.queues_.e3.l_.e3]]]])]) (show LeV (.fn 79 [.sptr (.agg [I x_.Messages, I x_.Labels, eSl 1 false (eI .i64) x_.Channels, eSl 3 false wN x_.Parts]), .sptr (I part), .sptr (.agg [.agg [I s_.states_.e0, I s_.states_.e1, I s_.states_.e2, I s_.states_.e3], .agg [.agg [I s_.queues_.e0.many_, .agg [I s_.queues_.e0.l_.e0, I s_.queues_.e0.l_.e1, I s_.queues_.e0.l_.e2, I s_.queues_.e0.l_.e3]], .agg [I s_.queues_.e1.many_, .agg [I s_.queues_.e1.l_.e0, I s_.queues_.e1.l_.e1, I s_.queues_.e1.l_.e2, I s_.queues_.e1.l_.e3]], .agg [I s_.queues_.e2.many_, .agg [I s_.queues_.e2.l_.e0, I s_.queues_.e2.l_.e1, I s_.queues_.e2.l_.e2, I s_.queues_.e2.l_.e3]], .agg [I s_.queues_.e3.many_, .agg [I s_.queues_.e3.l_.e0, I s_.queues_.e3.l_.e1, I s_.queues_.e3.l_.e2, I s_.queues_.e3.l_.e3]]]])]) (.fn 79 [.sptr (.agg [I (((x_, part, s_).1).Messages), I (((x_, part, s_).1).Labels), eSl 1 false (eI .i64) (((x_, part, s_).1).Channels), eSl 3 false wN (((x_, part, s_).1).Parts)]), .sptr (I ((x_, part, s_).2.1)), .sptr (.agg [.agg [I ((((x_, part, s_).2.2).states_).e0), I ((((x_, part, s_).2.2).states_).e1), I ((((x_, part, s_).2.2).states_).e2), I ((((x_, part, s_).2.2).states_).e3)], .agg [.agg [I (((((x_, part, s_).2.2).queues_).e0).many_), .agg [I ((((((x_, part, s_).2.2).queues_).e0).l_).e0), I ((((((x_, part, s_).2.2).queues_).e0).l_).e1), I ((((((x_, part, s_).2.2).queues_).e0).l_).e2), I ((((((x_, part, s_).2.2).queues_).e0).l_).e3)]], .agg [I (((((x_, part, s_).2.2).queues_).e1).many_), .agg [I ((((((x_, part, s_).2.2).queues_).e1).l_).e0), I ((((((x_, part, s_).2.2).queues_).e1).l_).e1), I ((((((x_, part, s_).2.2).queues_).e1).l_).e2), I ((((((x_, part, s_).2.2).queues_).e1).l_).e3)]], .agg [I (((((x_, part, s_).2.2).queues_).e2).many_), .agg [I ((((((x_, part, s_).2.2).queues_).e2).l_).e0), I ((((((x_, part, s_).2.2).queues_).e2).l_).e1), I ((((((x_, part, s_).2.2).queues_).e2).l_).e2), I ((((((x_, part, s_).2.2).queues_).e2).l_).e3)]], .agg [I (((((x_, part, s_).2.2).queues_).e3).many_), .agg [I ((((((x_, part, s_).2.2).queues_).e3).l_).e0), I ((((((x_, part, s_).2.2).queues_).e3).l_).e1), I ((((((x_, part, s_).2.2).queues_).e3).l_).e2), I ((((((x_, part, s_).2.2).queues_).e3).l_).e3)]]]])]) from inferInstance)
def vF : Code := (Tryd.f79.body).getD .skip
abbrev Zn {σ : Type} (x1 : Int) (x2 : za) (YY : σ → KC) (Part_e : zh) (x14 : Int) (sg2 : σ) : List (Nat × T) := [(0, .own (.opq (YY sg2).q)), (2, .d (.sptr (I x1))), (3, .d (.sptr (yS x2))), (12, .d (eSl 5 false vq Part_e.Arcs)), (13, .d (I ((Part_e.Arcs.length : Nat) : Int))), (14, .d (I x14))]
abbrev Zm {σ : Type} (x1 : Int) (x2 : za) (YY : σ → KC) (Part_e : zh) (sg1 : σ) (x14 : Int) : List (Nat × T) := [(0, .own (.opq (YY sg1).q)), (2, .d (.sptr (I x1))), (3, .d (.sptr (yS x2))), (12, .d (eSl 5 false vq Part_e.Arcs)), (13, .d (I ((Part_e.Arcs.length : Nat) : Int))), (14, .d (I x14))]
theorem jj {ctr : Ctr} (hC : zW Tryd.prog ctr) (x0 : z8) (x1 : Int) (x2 : za) : z4g Tryd.prog (.fn 79 [.sptr (.agg [I x0.Messages, I x0.Labels, eSl 1 false (eI .i64) x0.Channels, eSl 3 false wN x0.Parts]), .sptr (I x1), .sptr (.agg [.agg [I x2.states_.e0, I x2.states_.e1, I x2.states_.e2, I x2.states_.e3], .agg [.agg [I x2.queues_.e0.many_, .agg [I x2.queues_.e0.l_.e0, I x2.queues_.e0.l_.e1, I x2.queues_.e0.l_.e2, I x2.queues_.e0.l_.e3]], .agg [I x2.queues_.e1.many_, .agg [I x2.queues_.e1.l_.e0, I x2.queues_.e1.l_.e1, I x2.queues_.e1.l_.e2, I x2.queues_.e1.l_.e3]], .agg [I x2.queues_.e2.many_, .agg [I x2.queues_.e2.l_.e0, I x2.queues_.e2.l_.e1, I x2.queues_.e2.l_.e2, I x2.queues_.e2.l_.e3]], .agg [I x2.queues_.e3.many_, .agg [I x2.queues_.e3.l_.e0, I x2.queues_.e3.l_.e1, I x2.queues_.e3.l_.e2, I x2.queues_.e3.l_.e3]]]])]) (fun (x : Int × ze) (_ : Bool) (_ : Value) => [(eI .i64) x.1, vq x.2]) (@yj x0 x1 x2) := by
 refine z3u (tt := xO) (nt := 34) (body := vF) zY Tryd.func79 rfl (by kernel_rfl) rfl rfl (by show (4 : Nat) ≤ 34; decide) ?_
 intro σ yv YY yy hy sg r0 hf0 E hE
 unfold yj at hf0
 obtain ⟨Part_e, h0, hf0⟩ := zp hf0
 obtain ⟨t1, ht1, hf0⟩ := zp hf0
 refine yL X0 hC vF [1,0] [] (fun s => xE x1 x2 yy Part_e s.1 s.2) (fun x => Zm x1 x2 YY Part_e x.1 x.2) (sg, 0) ht1  [Hi wN h0, Ha (lnM vq Part_e.Arcs)] ?_
 rintro ⟨sg1, x14⟩ m1 lr1 hf1 hl1 J1 hJ1
 try unfold xE at hf1
 rcases yb hf1 with ⟨c0, hf1⟩ | ⟨c0, hf1⟩
 ·refine yJ X0 hC vF [1,0,0,1,1] [J1] [0,2,3,12,13,14] (fun z : σ => wp x14 z = some lr1) (fun z => Zn x1 x2 YY Part_e x14 z) [(0, .own (.opq (YY sg1).q)), (2, .d (.sptr (I x1))), (3, .d (.sptr (yS x2))), (12, .d (eSl 5 false vq Part_e.Arcs)), (13, .d (I ((Part_e.Arcs.length : Nat) : Int))), (14, .d (I x14))] [Hq c0, Hh (.cut 0)] ?_ fun J2 hJ2 => ?_
  ·rintro sg2 hf1
   unfold wp at hf1
   obtain rfl := zn hf1
   exact yB X0 hC hJ1 (sg2, w64 (x14 + 1)) hl1 []
  ·obtain ⟨Arc_e, h1, hf1⟩ := zp hf1
   obtain ⟨cell, h2, hf1⟩ := zp hf1
   let Z0 : List HO := [Hi vq h1, Hs (iM (eI .i64) h2), Hn (arJ (by kernel_rfl) (i0 h2) : Yb xO 85 ((y5.toL x2.states_).map (eI .i64)) x1 = true)]
   rcases yb hf1 with ⟨c1, hf1⟩ | ⟨c1, hf1⟩
   ·obtain ⟨yr, h3, hf1⟩ := zp hf1
    let Z1 : List HO := (Z0 ++ (rpN 4 (Hq c1) [Hn (z0Y (yv := yv) (Y := YY) (enc := (fun (x : Int × ze) (_ : Bool) (_ : Value) => [(eI .i64) x.1, vq x.2])) (s := sg1) (x := (x14, Arc_e)) (s' := yr.1) (b := yr.2) (v := .nilFunc) [(eI .i64) x14, vq Arc_e] (show JO [(eI .i64) x14, vq Arc_e] [(eI .i64) x14, vq Arc_e] from inferInstance)), Hq c1, Hq c1]))
    rcases yb hf1 with ⟨c2, hf1⟩ | ⟨c2, hf1⟩
    ·obtain rfl := zn hf1
     obtain rfl := hl1
     obtain rfl := zn hf0
     exact yF ((Jm (P := Tryd.prog) xO hy 30 (s := sg1) (x := (x14, Arc_e)) (s' := yr.1) (b := yr.2) .nilFunc h3).or X0) hC .ret [(0, .own (.opq (YY yr.1).q))] (Z1 ++ [Hq c2]) fun st0 h0 => hE _ st0 (.inr rfl) h0
    ·exact yB ((Jm (P := Tryd.prog) xO hy 30 (s := sg1) (x := (x14, Arc_e)) (s' := yr.1) (b := yr.2) .nilFunc h3).or X0) hC hJ2 yr.1 hf1 (Z1 ++ [Hq c2])
   ·exact yB X0 hC hJ2 sg1 hf1 (Z0 ++ (rpN 6 (Hq c1) [qF]))
 ·obtain rfl := zn hf1
  obtain rfl := hl1
  obtain rfl := zn hf0
  exact yF X0 hC .normal [(0, .own (.opq (YY sg1).q))] [Hq c0] fun st0 h0 => hE _ st0 (.inl rfl) h0
def XP : Code := (Tryd.f80.body).getD .skip
def qh : x5 := spF (α := zi × Int) (ρ := zi) 80 (fun x => [F9_ x.1, (eI .i64) x.2]) (fun r => F9_ r) (fun x => uU x.1 x.2) [] (UT)
theorem W3 {ctr : Ctr} (hC : zW Tryd.prog ctr) : qh.Ok Tryd.prog := by
 refine yd ?_
 rintro ⟨q_, m_⟩ r0 hf0
 try unfold uU at hf0
 refine yO false [(4, some 87)] XP 15 Tryd.func80 fun E hE => ?_
 obtain ⟨cell, h0, hf0⟩ := zp hf0
 obtain ⟨arr, h1, hf0⟩ := zp hf0
 replace h1 := zn h1
 obtain rfl := zn hf0
 exact yE X0 hC hE [Hn (⟨arJ (by kernel_rfl) (i0 h0), (iL (eI .i64) h0).2⟩ : Yb xO 85 ((y5.toL q_.l_).map (eI .i64)) q_.many_ = true ∧ q_.many_.toNat < ((y5.toL q_.l_).map (eI .i64)).length), Hh (.op 7), Hh (.f), Hx (.a (.agg [I q_.l_.e0, I q_.l_.e1, I q_.l_.e2, I q_.l_.e3])) (rfl : some (.agg [I q_.l_.e0, I q_.l_.e1, I q_.l_.e2, I q_.l_.e3] : A) = some (.agg [I q_.l_.e0, I q_.l_.e1, I q_.l_.e2, I q_.l_.e3])), Hh (.f), Hs (iM (eI .i64) h0), Hh (.f), Hx (.a (.agg [I q_.l_.e0, I q_.l_.e1, I q_.l_.e2, I q_.l_.e3])) (rfl : some (.agg [I q_.l_.e0, I q_.l_.e1, I q_.l_.e2, I q_.l_.e3] : A) = some (.agg [I q_.l_.e0, I q_.l_.e1, I q_.l_.e2, I q_.l_.e3])), Hh (.f), Hs (iM (eI .i64) h0), Hx (.l ((y5.toL arr).map (eI .i64))) ((y5.setL (eI .i64) q_.l_ q_.many_ m_).trans (congrArg (fun q => (y5.toL q).map (eI .i64)) h1)), Hx (.l [I q_.many_, .agg [I arr.e0, I arr.e1, I arr.e2, I arr.e3]]) (rfl : ([I q_.many_, .agg [I arr.e0, I arr.e1, I arr.e2, I arr.e3]] : List A) = [I q_.many_, .agg [I arr.e0, I arr.e1, I arr.e2, I arr.e3]])]
def kl : Code := (Tryd.f81.body).getD .skip
def uO : x5 := spF (α := zi) (ρ := zi) 81 (fun x => [F9_ x]) (fun r => F9_ r) (fun x => uB x) [] (Us)
theorem XJ {ctr : Ctr} (hC : zW Tryd.prog ctr) : uO.Ok Tryd.prog := by
 refine yd ?_
 rintro q_ r0 hf0
 try unfold uB at hf0
 refine yO false [(2, some 87)] kl 15 Tryd.func81 fun E hE => ?_
 refine yA X0 hC kl [1] [] [(1, .own (.box (F9_ q_))), (2, .own (.box (.agg [I 0, .agg [I 0, I 0, I 0, I 0]])))] [Hh (.cut 1)] ?_
 refine z44 (y := .box (.agg [I q_.many_, .agg [I q_.l_.e0, I q_.l_.e1, I q_.l_.e2, I q_.l_.e3]])) (by kernel_rfl) 1 (by kernel_rfl) (by kernel_rfl) fun pv1 hv1 => ?_
 obtain ⟨arr, h0, hf0⟩ := zp hf0
 replace h0 := zn h0
 obtain rfl := zn hf0
 exact yE ((xCp zY 7 1 1 0 pv1 (some 1)).or ((xAv zY 6 1 1 1 pv1).or ((xAv zY 4 1 1 0 pv1).or X0))) hC hE [Hn (⟨rfl, rfl⟩ : T.ptr 1 [.deref, .fld 1] 0 0 = T.ptr 1 [.deref, .fld 1] 0 0 ∧ some pv1 = some pv1), Hn (⟨rfl, rfl⟩ : T.ptr 1 [.deref, .fld 1] 0 0 = T.ptr 1 [.deref, .fld 1] 0 0 ∧ some pv1 = some pv1), Hn (⟨rfl, by decide⟩ : T.d (.atom (z0J pv1 1 1 4)) = T.d (.atom (z0J pv1 1 1 4)) ∧ 1 ≤ 4), Hn (⟨rfl, rfl⟩ : T.d (.atom (z0J pv1 1 0 4)) = T.d (.atom (z0J pv1 1 0 4)) ∧ some pv1 = some pv1), Hn (dM (eI .i64) ((y5.toL q_.l_).drop 1)), Hx (.l ((y5.toL arr).map (eI .i64))) ((z84 (eI .i64) (y5.toL q_.l_) 0 ((y5.toL q_.l_).drop 1)).trans (congrArg (fun q => q.map (eI .i64)) ((y5.toL_ofL (cpA (y5.toL q_.l_) 0 ((y5.toL q_.l_).drop 1)) q_.l_ (z85 (y5.toL q_.l_) 0 ((y5.toL q_.l_).drop 1) (by show (0 : Nat) ≤ 4; decide))).symm.trans (congrArg y5.toL h0)))), Hn (⟨rfl, by decide⟩ : true = true ∧ 3 < 4)]
def uz : Code := (Tryd.f65.body).getD .skip
def wH : x5 := spF (α := z8 × za × Int × ze) (ρ := za × Bool) 65 (fun x => [xi x.1, yS x.2.1, (eI .i64) x.2.2.1, vq x.2.2.2]) (fun r => .tup [yS r.1, (eEr 0 181) r.2]) (fun x => xA x.1 x.2.1 x.2.2.1 x.2.2.2) [] (zdO)
abbrev Y0 (arr : y5 Int) (s_queues : y5 zi) : List (Nat × T) := [(5, .own (.box (.agg [F0_ arr, z8k s_queues]))), (8, .own (.box (.agg [.agg [I 0, I 0, I 0, I 0], .agg [.agg [I 0, .agg [I 0, I 0, I 0, I 0]], .agg [I 0, .agg [I 0, I 0, I 0, I 0]], .agg [I 0, .agg [I 0, I 0, I 0, I 0]], .agg [I 0, .agg [I 0, I 0, I 0, I 0]]]])))]
abbrev ZZ (s_ : za) (a_ : ze) (arr : y5 Int) (cell1 : zi) (x33 : Bool) : List (Nat × T) := [(5, .own (.box (.agg [F0_ arr, z8k s_.queues_]))), (7, .own (.box (vq a_))), (8, .own (.box (.agg [.agg [I 0, I 0, I 0, I 0], .agg [.agg [I 0, .agg [I 0, I 0, I 0, I 0]], .agg [I 0, .agg [I 0, I 0, I 0, I 0]], .agg [I 0, .agg [I 0, I 0, I 0, I 0]], .agg [I 0, .agg [I 0, I 0, I 0, I 0]]]]))), (10, .own (.box (F9_ cell1))), (33, .d (B x33))]
theorem Xa {ctr : Ctr} (hC : zW Tryd.prog ctr) (h0K : ctr.Has qh) (h0L : ctr.Has uO) : wH.Ok Tryd.prog := by
 refine yd ?_
 rintro ⟨x_, s_, part, a_⟩ r0 hf0
 try unfold xA at hf0
 refine yO false [(8, some 90), (9, none)] uz 86 Tryd.func65 fun E hE => ?_
 obtain ⟨cell, h0, hf0⟩ := zp hf0
 obtain ⟨arr, h1, hf0⟩ := zp hf0
 replace h1 := zn h1
 obtain ⟨cell1, h2, hf0⟩ := zp hf0
 refine yJ ((xNe Tryd.prog 9 0 181).or X0) hC uz [1,1,1] [] [5,8] (fun z : y5 zi => wG arr z = some r0) (fun z => Y0 arr z) [(4, .own (.box (xi x_))), (5, .own (.box (.agg [F0_ arr, z8k s_.queues_]))), (7, .own (.box (vq a_))), (8, .own (.box (.agg [.agg [I 0, I 0, I 0, I 0], .agg [.agg [I 0, .agg [I 0, I 0, I 0, I 0]], .agg [I 0, .agg [I 0, I 0, I 0, I 0]], .agg [I 0, .agg [I 0, I 0, I 0, I 0]], .agg [I 0, .agg [I 0, I 0, I 0, I 0]]]]))), (10, .own (.box (F9_ cell1)))] [Hn (⟨arJ (by kernel_rfl) (i0 h0), (iL (eI .i64) h0).2⟩ : Yb xO 85 ((y5.toL s_.states_).map (eI .i64)) part = true ∧ part.toNat < ((y5.toL s_.states_).map (eI .i64)).length), Hh (.op 10), Hh (.f), Hx (.a (.agg [I s_.states_.e0, I s_.states_.e1, I s_.states_.e2, I s_.states_.e3])) (rfl : some (.agg [I s_.states_.e0, I s_.states_.e1, I s_.states_.e2, I s_.states_.e3] : A) = some (.agg [I s_.states_.e0, I s_.states_.e1, I s_.states_.e2, I s_.states_.e3])), Hh (.f), Hs (iM (eI .i64) h0), Hh (.f), Hx (.a (.agg [I s_.states_.e0, I s_.states_.e1, I s_.states_.e2, I s_.states_.e3])) (rfl : some (.agg [I s_.states_.e0, I s_.states_.e1, I s_.states_.e2, I s_.states_.e3] : A) = some (.agg [I s_.states_.e0, I s_.states_.e1, I s_.states_.e2, I s_.states_.e3])), Hh (.f), Hs (iM (eI .i64) h0), Hx (.l ((y5.toL arr).map (eI .i64))) ((y5.setL (eI .i64) s_.states_ part a_.To).trans (congrArg (fun q => (y5.toL q).map (eI .i64)) h1)), Hx (.l [.agg [I arr.e0, I arr.e1, I arr.e2, I arr.e3], .agg [.agg [I s_.queues_.e0.many_, .agg [I s_.queues_.e0.l_.e0, I s_.queues_.e0.l_.e1, I s_.queues_.e0.l_.e2, I s_.queues_.e0.l_.e3]], .agg [I s_.queues_.e1.many_, .agg [I s_.queues_.e1.l_.e0, I s_.queues_.e1.l_.e1, I s_.queues_.e1.l_.e2, I s_.queues_.e1.l_.e3]], .agg [I s_.queues_.e2.many_, .agg [I s_.queues_.e2.l_.e0, I s_.queues_.e2.l_.e1, I s_.queues_.e2.l_.e2, I s_.queues_.e2.l_.e3]], .agg [I s_.queues_.e3.many_, .agg [I s_.queues_.e3.l_.e0, I s_.queues_.e3.l_.e1, I s_.queues_.e3.l_.e2, I s_.queues_.e3.l_.e3]]]]) (rfl : ([.agg [I arr.e0, I arr.e1, I arr.e2, I arr.e3], .agg [.agg [I s_.queues_.e0.many_, .agg [I s_.queues_.e0.l_.e0, I s_.queues_.e0.l_.e1, I s_.queues_.e0.l_.e2, I s_.queues_.e0.l_.e3]], .agg [I s_.queues_.e1.many_, .agg [I s_.queues_.e1.l_.e0, I s_.queues_.e1.l_.e1, I s_.queues_.e1.l_.e2, I s_.queues_.e1.l_.e3]], .agg [I s_.queues_.e2.many_, .agg [I s_.queues_.e2.l_.e0, I s_.queues_.e2.l_.e1, I s_.queues_.e2.l_.e2, I s_.queues_.e2.l_.e3]], .agg [I s_.queues_.e3.many_, .agg [I s_.queues_.e3.l_.e0, I s_.queues_.e3.l_.e1, I s_.queues_.e3.l_.e2, I s_.queues_.e3.l_.e3]]]] : List A) = [.agg [I arr.e0, I arr.e1, I arr.e2, I arr.e3], .agg [.agg [I s_.queues_.e0.many_, .agg [I s_.queues_.e0.l_.e0, I s_.queues_.e0.l_.e1, I s_.queues_.e0.l_.e2, I s_.queues_.e0.l_.e3]], .agg [I s_.queues_.e1.many_, .agg [I s_.queues_.e1.l_.e0, I s_.queues_.e1.l_.e1, I s_.queues_.e1.l_.e2, I s_.queues_.e1.l_.e3]], .agg [I s_.queues_.e2.many_, .agg [I s_.queues_.e2.l_.e0, I s_.queues_.e2.l_.e1, I s_.queues_.e2.l_.e2, I s_.queues_.e2.l_.e3]], .agg [I s_.queues_.e3.many_, .agg [I s_.queues_.e3.l_.e0, I s_.queues_.e3.l_.e1, I s_.queues_.e3.l_.e2, I s_.queues_.e3.l_.e3]]]]), Hn (⟨arJ (by kernel_rfl) (i0 h2), (iL F9_ h2).2⟩ : Yb xO 88 ((y5.toL s_.queues_).map F9_) (mn a_.Channel 3) = true ∧ (mn a_.Channel 3).toNat < ((y5.toL s_.queues_).map F9_).length), Hh (.op 5), Hh (.f), Hx (.a (.agg [.agg [I s_.queues_.e0.many_, .agg [I s_.queues_.e0.l_.e0, I s_.queues_.e0.l_.e1, I s_.queues_.e0.l_.e2, I s_.queues_.e0.l_.e3]], .agg [I s_.queues_.e1.many_, .agg [I s_.queues_.e1.l_.e0, I s_.queues_.e1.l_.e1, I s_.queues_.e1.l_.e2, I s_.queues_.e1.l_.e3]], .agg [I s_.queues_.e2.many_, .agg [I s_.queues_.e2.l_.e0, I s_.queues_.e2.l_.e1, I s_.queues_.e2.l_.e2, I s_.queues_.e2.l_.e3]], .agg [I s_.queues_.e3.many_, .agg [I s_.queues_.e3.l_.e0, I s_.queues_.e3.l_.e1, I s_.queues_.e3.l_.e2, I s_.queues_.e3.l_.e3]]])) (rfl : some (.agg [.agg [I s_.queues_.e0.many_, .agg [I s_.queues_.e0.l_.e0, I s_.queues_.e0.l_.e1, I s_.queues_.e0.l_.e2, I s_.queues_.e0.l_.e3]], .agg [I s_.queues_.e1.many_, .agg [I s_.queues_.e1.l_.e0, I s_.queues_.e1.l_.e1, I s_.queues_.e1.l_.e2, I s_.queues_.e1.l_.e3]], .agg [I s_.queues_.e2.many_, .agg [I s_.queues_.e2.l_.e0, I s_.queues_.e2.l_.e1, I s_.queues_.e2.l_.e2, I s_.queues_.e2.l_.e3]], .agg [I s_.queues_.e3.many_, .agg [I s_.queues_.e3.l_.e0, I s_.queues_.e3.l_.e1, I s_.queues_.e3.l_.e2, I s_.queues_.e3.l_.e3]]] : A) = some (.agg [.agg [I s_.queues_.e0.many_, .agg [I s_.queues_.e0.l_.e0, I s_.queues_.e0.l_.e1, I s_.queues_.e0.l_.e2, I s_.queues_.e0.l_.e3]], .agg [I s_.queues_.e1.many_, .agg [I s_.queues_.e1.l_.e0, I s_.queues_.e1.l_.e1, I s_.queues_.e1.l_.e2, I s_.queues_.e1.l_.e3]], .agg [I s_.queues_.e2.many_, .agg [I s_.queues_.e2.l_.e0, I s_.queues_.e2.l_.e1, I s_.queues_.e2.l_.e2, I s_.queues_.e2.l_.e3]], .agg [I s_.queues_.e3.many_, .agg [I s_.queues_.e3.l_.e0, I s_.queues_.e3.l_.e1, I s_.queues_.e3.l_.e2, I s_.queues_.e3.l_.e3]]])), Hh (.f), Hs (iM F9_ h2), Hh (.cut 0)] ?_ fun J1 hJ1 => ?_
 ·rintro s_queues hf0
  unfold wG at hf0
  obtain rfl := zn hf0
  exact yE ((xNe Tryd.prog 9 0 181).or X0) hC hE []
 ·rcases yb hf0 with ⟨c0, hf0⟩ | ⟨c0, hf0⟩
  ·obtain rfl := zn hf0
   exact yE ((xNe Tryd.prog 9 0 181).or X0) hC hE [Hq c0]
  ·refine yJ X0 hC uz [1,1,1,2,0,1,1] [J1] [5,7,8,10,33] (fun z : Bool => zQ s_ a_ arr cell1 z = some r0) (fun z => ZZ s_ a_ arr cell1 z) [(4, .own (.box (xi x_))), (5, .own (.box (.agg [F0_ arr, z8k s_.queues_]))), (7, .own (.box (vq a_))), (8, .own (.box (.agg [.agg [I 0, I 0, I 0, I 0], .agg [.agg [I 0, .agg [I 0, I 0, I 0, I 0]], .agg [I 0, .agg [I 0, I 0, I 0, I 0]], .agg [I 0, .agg [I 0, I 0, I 0, I 0]], .agg [I 0, .agg [I 0, I 0, I 0, I 0]]]]))), (10, .own (.box (F9_ cell1)))] [Hq c0, Hh (.cut 0)] ?_ fun J2 hJ2 => ?_
   ·rintro x33 hf0
    unfold zQ at hf0
    rcases yb hf0 with ⟨c1, hf0⟩ | ⟨c1, hf0⟩
    ·obtain rfl := zn hf0
     exact yE X0 hC hE [Hq c1]
    ·rcases yb hf0 with ⟨c2, hf0⟩ | ⟨c2, hf0⟩
     ·obtain ⟨r_, h3, hf0⟩ := zp hf0
      obtain ⟨cell2, h4, hf0⟩ := zp hf0
      obtain ⟨arr1, h5, hf0⟩ := zp hf0
      replace h5 := zn h5
      exact yB X0 hC hJ1 arr1 hf0 [Hq c1, Hq c2, Hc h0K (x := (cell1, a_.Message)) h3 (loC F9_ cell1 <| loC (eI .i64) a_.Message <| loN), Hn (⟨arJ (by kernel_rfl) (i0 h4), (iL F9_ h4).2⟩ : Yb xO 88 ((y5.toL s_.queues_).map F9_) a_.Channel = true ∧ a_.Channel.toNat < ((y5.toL s_.queues_).map F9_).length), Hh (.op 2), Hh (.f), Hx (.a (.agg [.agg [I s_.queues_.e0.many_, .agg [I s_.queues_.e0.l_.e0, I s_.queues_.e0.l_.e1, I s_.queues_.e0.l_.e2, I s_.queues_.e0.l_.e3]], .agg [I s_.queues_.e1.many_, .agg [I s_.queues_.e1.l_.e0, I s_.queues_.e1.l_.e1, I s_.queues_.e1.l_.e2, I s_.queues_.e1.l_.e3]], .agg [I s_.queues_.e2.many_, .agg [I s_.queues_.e2.l_.e0, I s_.queues_.e2.l_.e1, I s_.queues_.e2.l_.e2, I s_.queues_.e2.l_.e3]], .agg [I s_.queues_.e3.many_, .agg [I s_.queues_.e3.l_.e0, I s_.queues_.e3.l_.e1, I s_.queues_.e3.l_.e2, I s_.queues_.e3.l_.e3]]])) (rfl : some (.agg [.agg [I s_.queues_.e0.many_, .agg [I s_.queues_.e0.l_.e0, I s_.queues_.e0.l_.e1, I s_.queues_.e0.l_.e2, I s_.queues_.e0.l_.e3]], .agg [I s_.queues_.e1.many_, .agg [I s_.queues_.e1.l_.e0, I s_.queues_.e1.l_.e1, I s_.queues_.e1.l_.e2, I s_.queues_.e1.l_.e3]], .agg [I s_.queues_.e2.many_, .agg [I s_.queues_.e2.l_.e0, I s_.queues_.e2.l_.e1, I s_.queues_.e2.l_.e2, I s_.queues_.e2.l_.e3]], .agg [I s_.queues_.e3.many_, .agg [I s_.queues_.e3.l_.e0, I s_.queues_.e3.l_.e1, I s_.queues_.e3.l_.e2, I s_.queues_.e3.l_.e3]]] : A) = some (.agg [.agg [I s_.queues_.e0.many_, .agg [I s_.queues_.e0.l_.e0, I s_.queues_.e0.l_.e1, I s_.queues_.e0.l_.e2, I s_.queues_.e0.l_.e3]], .agg [I s_.queues_.e1.many_, .agg [I s_.queues_.e1.l_.e0, I s_.queues_.e1.l_.e1, I s_.queues_.e1.l_.e2, I s_.queues_.e1.l_.e3]], .agg [I s_.queues_.e2.many_, .agg [I s_.queues_.e2.l_.e0, I s_.queues_.e2.l_.e1, I s_.queues_.e2.l_.e2, I s_.queues_.e2.l_.e3]], .agg [I s_.queues_.e3.many_, .agg [I s_.queues_.e3.l_.e0, I s_.queues_.e3.l_.e1, I s_.queues_.e3.l_.e2, I s_.queues_.e3.l_.e3]]])), Hh (.f), Hs (iM F9_ h4), Hh (.f), Hx (.a (.agg [.agg [I s_.queues_.e0.many_, .agg [I s_.queues_.e0.l_.e0, I s_.queues_.e0.l_.e1, I s_.queues_.e0.l_.e2, I s_.queues_.e0.l_.e3]], .agg [I s_.queues_.e1.many_, .agg [I s_.queues_.e1.l_.e0, I s_.queues_.e1.l_.e1, I s_.queues_.e1.l_.e2, I s_.queues_.e1.l_.e3]], .agg [I s_.queues_.e2.many_, .agg [I s_.queues_.e2.l_.e0, I s_.queues_.e2.l_.e1, I s_.queues_.e2.l_.e2, I s_.queues_.e2.l_.e3]], .agg [I s_.queues_.e3.many_, .agg [I s_.queues_.e3.l_.e0, I s_.queues_.e3.l_.e1, I s_.queues_.e3.l_.e2, I s_.queues_.e3.l_.e3]]])) (rfl : some (.agg [.agg [I s_.queues_.e0.many_, .agg [I s_.queues_.e0.l_.e0, I s_.queues_.e0.l_.e1, I s_.queues_.e0.l_.e2, I s_.queues_.e0.l_.e3]], .agg [I s_.queues_.e1.many_, .agg [I s_.queues_.e1.l_.e0, I s_.queues_.e1.l_.e1, I s_.queues_.e1.l_.e2, I s_.queues_.e1.l_.e3]], .agg [I s_.queues_.e2.many_, .agg [I s_.queues_.e2.l_.e0, I s_.queues_.e2.l_.e1, I s_.queues_.e2.l_.e2, I s_.queues_.e2.l_.e3]], .agg [I s_.queues_.e3.many_, .agg [I s_.queues_.e3.l_.e0, I s_.queues_.e3.l_.e1, I s_.queues_.e3.l_.e2, I s_.queues_.e3.l_.e3]]] : A) = some (.agg [.agg [I s_.queues_.e0.many_, .agg [I s_.queues_.e0.l_.e0, I s_.queues_.e0.l_.e1, I s_.queues_.e0.l_.e2, I s_.queues_.e0.l_.e3]], .agg [I s_.queues_.e1.many_, .agg [I s_.queues_.e1.l_.e0, I s_.queues_.e1.l_.e1, I s_.queues_.e1.l_.e2, I s_.queues_.e1.l_.e3]], .agg [I s_.queues_.e2.many_, .agg [I s_.queues_.e2.l_.e0, I s_.queues_.e2.l_.e1, I s_.queues_.e2.l_.e2, I s_.queues_.e2.l_.e3]], .agg [I s_.queues_.e3.many_, .agg [I s_.queues_.e3.l_.e0, I s_.queues_.e3.l_.e1, I s_.queues_.e3.l_.e2, I s_.queues_.e3.l_.e3]]])), Hh (.f), Hs (iM F9_ h4), Hx (.l ((y5.toL arr1).map F9_)) ((y5.setL F9_ s_.queues_ a_.Channel r_).trans (congrArg (fun q => (y5.toL q).map F9_) h5)), Hx (.l [.agg [I arr.e0, I arr.e1, I arr.e2, I arr.e3], .agg [.agg [I arr1.e0.many_, .agg [I arr1.e0.l_.e0, I arr1.e0.l_.e1, I arr1.e0.l_.e2, I arr1.e0.l_.e3]], .agg [I arr1.e1.many_, .agg [I arr1.e1.l_.e0, I arr1.e1.l_.e1, I arr1.e1.l_.e2, I arr1.e1.l_.e3]], .agg [I arr1.e2.many_, .agg [I arr1.e2.l_.e0, I arr1.e2.l_.e1, I arr1.e2.l_.e2, I arr1.e2.l_.e3]], .agg [I arr1.e3.many_, .agg [I arr1.e3.l_.e0, I arr1.e3.l_.e1, I arr1.e3.l_.e2, I arr1.e3.l_.e3]]]]) (rfl : ([.agg [I arr.e0, I arr.e1, I arr.e2, I arr.e3], .agg [.agg [I arr1.e0.many_, .agg [I arr1.e0.l_.e0, I arr1.e0.l_.e1, I arr1.e0.l_.e2, I arr1.e0.l_.e3]], .agg [I arr1.e1.many_, .agg [I arr1.e1.l_.e0, I arr1.e1.l_.e1, I arr1.e1.l_.e2, I arr1.e1.l_.e3]], .agg [I arr1.e2.many_, .agg [I arr1.e2.l_.e0, I arr1.e2.l_.e1, I arr1.e2.l_.e2, I arr1.e2.l_.e3]], .agg [I arr1.e3.many_, .agg [I arr1.e3.l_.e0, I arr1.e3.l_.e1, I arr1.e3.l_.e2, I arr1.e3.l_.e3]]]] : List A) = [.agg [I arr.e0, I arr.e1, I arr.e2, I arr.e3], .agg [.agg [I arr1.e0.many_, .agg [I arr1.e0.l_.e0, I arr1.e0.l_.e1, I arr1.e0.l_.e2, I arr1.e0.l_.e3]], .agg [I arr1.e1.many_, .agg [I arr1.e1.l_.e0, I arr1.e1.l_.e1, I arr1.e1.l_.e2, I arr1.e1.l_.e3]], .agg [I arr1.e2.many_, .agg [I arr1.e2.l_.e0, I arr1.e2.l_.e1, I arr1.e2.l_.e2, I arr1.e2.l_.e3]], .agg [I arr1.e3.many_, .agg [I arr1.e3.l_.e0, I arr1.e3.l_.e1, I arr1.e3.l_.e2, I arr1.e3.l_.e3]]]])]
     ·obtain ⟨r_1, h6, hf0⟩ := zp hf0
      obtain ⟨cell3, h7, hf0⟩ := zp hf0
      obtain ⟨arr2, h8, hf0⟩ := zp hf0
      replace h8 := zn h8
      exact yB X0 hC hJ1 arr2 hf0 [Hq c1, Hq c2, Hc h0L (x := cell1) h6 (loC F9_ cell1 <| loN), Hn (⟨arJ (by kernel_rfl) (i0 h7), (iL F9_ h7).2⟩ : Yb xO 88 ((y5.toL s_.queues_).map F9_) a_.Channel = true ∧ a_.Channel.toNat < ((y5.toL s_.queues_).map F9_).length), Hh (.op 2), Hh (.f), Hx (.a (.agg [.agg [I s_.queues_.e0.many_, .agg [I s_.queues_.e0.l_.e0, I s_.queues_.e0.l_.e1, I s_.queues_.e0.l_.e2, I s_.queues_.e0.l_.e3]], .agg [I s_.queues_.e1.many_, .agg [I s_.queues_.e1.l_.e0, I s_.queues_.e1.l_.e1, I s_.queues_.e1.l_.e2, I s_.queues_.e1.l_.e3]], .agg [I s_.queues_.e2.many_, .agg [I s_.queues_.e2.l_.e0, I s_.queues_.e2.l_.e1, I s_.queues_.e2.l_.e2, I s_.queues_.e2.l_.e3]], .agg [I s_.queues_.e3.many_, .agg [I s_.queues_.e3.l_.e0, I s_.queues_.e3.l_.e1, I s_.queues_.e3.l_.e2, I s_.queues_.e3.l_.e3]]])) (rfl : some (.agg [.agg [I s_.queues_.e0.many_, .agg [I s_.queues_.e0.l_.e0, I s_.queues_.e0.l_.e1, I s_.queues_.e0.l_.e2, I s_.queues_.e0.l_.e3]], .agg [I s_.queues_.e1.many_, .agg [I s_.queues_.e1.l_.e0, I s_.queues_.e1.l_.e1, I s_.queues_.e1.l_.e2, I s_.queues_.e1.l_.e3]], .agg [I s_.queues_.e2.many_, .agg [I s_.queues_.e2.l_.e0, I s_.queues_.e2.l_.e1, I s_.queues_.e2.l_.e2, I s_.queues_.e2.l_.e3]], .agg [I s_.queues_.e3.many_, .agg [I s_.queues_.e3.l_.e0, I s_.queues_.e3.l_.e1, I s_.queues_.e3.l_.e2, I s_.queues_.e3.l_.e3]]] : A) = some (.agg [.agg [I s_.queues_.e0.many_, .agg [I s_.queues_.e0.l_.e0, I s_.queues_.e0.l_.e1, I s_.queues_.e0.l_.e2, I s_.queues_.e0.l_.e3]], .agg [I s_.queues_.e1.many_, .agg [I s_.queues_.e1.l_.e0, I s_.queues_.e1.l_.e1, I s_.queues_.e1.l_.e2, I s_.queues_.e1.l_.e3]], .agg [I s_.queues_.e2.many_, .agg [I s_.queues_.e2.l_.e0, I s_.queues_.e2.l_.e1, I s_.queues_.e2.l_.e2, I s_.queues_.e2.l_.e3]], .agg [I s_.queues_.e3.many_, .agg [I s_.queues_.e3.l_.e0, I s_.queues_.e3.l_.e1, I s_.queues_.e3.l_.e2, I s_.queues_.e3.l_.e3]]])), Hh (.f), Hs (iM F9_ h7), Hh (.f), Hx (.a (.agg [.agg [I s_.queues_.e0.many_, .agg [I s_.queues_.e0.l_.e0, I s_.queues_.e0.l_.e1, I s_.queues_.e0.l_.e2, I s_.queues_.e0.l_.e3]], .agg [I s_.queues_.e1.many_, .agg [I s_.queues_.e1.l_.e0, I s_.queues_.e1.l_.e1, I s_.queues_.e1.l_.e2, I s_.queues_.e1.l_.e3]], .agg [I s_.queues_.e2.many_, .agg [I s_.queues_.e2.l_.e0, I s_.queues_.e2.l_.e1, I s_.queues_.e2.l_.e2, I s_.queues_.e2.l_.e3]], .agg [I s_.queues_.e3.many_, .agg [I s_.queues_.e3.l_.e0, I s_.queues_.e3.l_.e1, I s_.queues_.e3.l_.e2, I s_.queues_.e3.l_.e3]]])) (rfl : some (.agg [.agg [I s_.queues_.e0.many_, .agg [I s_.queues_.e0.l_.e0, I s_.queues_.e0.l_.e1, I s_.queues_.e0.l_.e2, I s_.queues_.e0.l_.e3]], .agg [I s_.queues_.e1.many_, .agg [I s_.queues_.e1.l_.e0, I s_.queues_.e1.l_.e1, I s_.queues_.e1.l_.e2, I s_.queues_.e1.l_.e3]], .agg [I s_.queues_.e2.many_, .agg [I s_.queues_.e2.l_.e0, I s_.queues_.e2.l_.e1, I s_.queues_.e2.l_.e2, I s_.queues_.e2.l_.e3]], .agg [I s_.queues_.e3.many_, .agg [I s_.queues_.e3.l_.e0, I s_.queues_.e3.l_.e1, I s_.queues_.e3.l_.e2, I s_.queues_.e3.l_.e3]]] : A) = some (.agg [.agg [I s_.queues_.e0.many_, .agg [I s_.queues_.e0.l_.e0, I s_.queues_.e0.l_.e1, I s_.queues_.e0.l_.e2, I s_.queues_.e0.l_.e3]], .agg [I s_.queues_.e1.many_, .agg [I s_.queues_.e1.l_.e0, I s_.queues_.e1.l_.e1, I s_.queues_.e1.l_.e2, I s_.queues_.e1.l_.e3]], .agg [I s_.queues_.e2.many_, .agg [I s_.queues_.e2.l_.e0, I s_.queues_.e2.l_.e1, I s_.queues_.e2.l_.e2, I s_.queues_.e2.l_.e3]], .agg [I s_.queues_.e3.many_, .agg [I s_.queues_.e3.l_.e0, I s_.queues_.e3.l_.e1, I s_.queues_.e3.l_.e2, I s_.queues_.e3.l_.e3]]])), Hh (.f), Hs (iM F9_ h7), Hx (.l ((y5.toL arr2).map F9_)) ((y5.setL F9_ s_.queues_ a_.Channel r_1).trans (congrArg (fun q => (y5.toL q).map F9_) h8)), Hx (.l [.agg [I arr.e0, I arr.e1, I arr.e2, I arr.e3], .agg [.agg [I arr2.e0.many_, .agg [I arr2.e0.l_.e0, I arr2.e0.l_.e1, I arr2.e0.l_.e2, I arr2.e0.l_.e3]], .agg [I arr2.e1.many_, .agg [I arr2.e1.l_.e0, I arr2.e1.l_.e1, I arr2.e1.l_.e2, I arr2.e1.l_.e3]], .agg [I arr2.e2.many_, .agg [I arr2.e2.l_.e0, I arr2.e2.l_.e1, I arr2.e2.l_.e2, I arr2.e2.l_.e3]], .agg [I arr2.e3.many_, .agg [I arr2.e3.l_.e0, I arr2.e3.l_.e1, I arr2.e3.l_.e2, I arr2.e3.l_.e3]]]]) (rfl : ([.agg [I arr.e0, I arr.e1, I arr.e2, I arr.e3], .agg [.agg [I arr2.e0.many_, .agg [I arr2.e0.l_.e0, I arr2.e0.l_.e1, I arr2.e0.l_.e2, I arr2.e0.l_.e3]], .agg [I arr2.e1.many_, .agg [I arr2.e1.l_.e0, I arr2.e1.l_.e1, I arr2.e1.l_.e2, I arr2.e1.l_.e3]], .agg [I arr2.e2.many_, .agg [I arr2.e2.l_.e0, I arr2.e2.l_.e1, I arr2.e2.l_.e2, I arr2.e2.l_.e3]], .agg [I arr2.e3.many_, .agg [I arr2.e3.l_.e0, I arr2.e3.l_.e1, I arr2.e3.l_.e2, I arr2.e3.l_.e3]]]] : List A) = [.agg [I arr.e0, I arr.e1, I arr.e2, I arr.e3], .agg [.agg [I arr2.e0.many_, .agg [I arr2.e0.l_.e0, I arr2.e0.l_.e1, I arr2.e0.l_.e2, I arr2.e0.l_.e3]], .agg [I arr2.e1.many_, .agg [I arr2.e1.l_.e0, I arr2.e1.l_.e1, I arr2.e1.l_.e2, I arr2.e1.l_.e3]], .agg [I arr2.e2.many_, .agg [I arr2.e2.l_.e0, I arr2.e2.l_.e1, I arr2.e2.l_.e2, I arr2.e2.l_.e3]], .agg [I arr2.e3.many_, .agg [I arr2.e3.l_.e0, I arr2.e3.l_.e1, I arr2.e3.l_.e2, I arr2.e3.l_.e3]]]])]
   ·obtain ⟨Channel_e, h9, hf0⟩ := zp hf0
    rcases yb hf0 with ⟨c3, hf0⟩ | ⟨c3, hf0⟩
    ·exact yB X0 hC hJ2 (Channel_e == 0) hf0 [Hi (eI .i64) h9, Hq c3]
    ·rcases yb hf0 with ⟨c4, hf0⟩ | ⟨c4, hf0⟩
     ·obtain ⟨Channel_e1, h10, hf0⟩ := zp hf0
      let Z0 : List HO := (Hi (eI .i64) h9 :: Hq c3 :: (rpN 7 (Hq c4) [Hi (eI .i64) h10, Hq c4, Hq c4, Hq c4]))
      rcases yb hf0 with ⟨c5, hf0⟩ | ⟨c5, hf0⟩
      ·exact yB X0 hC hJ2 (cell1.many_ == Channel_e1) hf0 (Z0 ++ [Hq c5])
      ·rcases yb hf0 with ⟨c6, hf0⟩ | ⟨c6, hf0⟩
       ·let Z1 : List HO := (Z0 ++ (Hq c5 :: (rpN 4 (Hq c6) [])))
        rcases yb hf0 with ⟨c7, hf0⟩ | ⟨c7, hf0⟩
        ·exact yB X0 hC hJ2 true hf0 (Z1 ++ (rpN 6 (Hq c7) [Hq c6, Hq c7, Hq c6]))
        ·exact yB X0 hC hJ2 (cell1.l_.e0 != a_.Message) hf0 (Z1 ++ (Hq c7 :: Hq c7 :: Hn (⟨rfl, by decide⟩ : true = true ∧ 0 < 4) :: (rpN 4 (Hq c7) [Hq c6, Hq c7, Hq c6])))
       ·exact yB X0 hC hJ2 false hf0 (Z0 ++ (Hq c5 :: (rpN 6 (Hq c6) [])))
     ·let Z2 : List HO := (Hi (eI .i64) h9 :: Hq c3 :: (rpN 10 (Hq c4) [qF]))
      rcases yb hf0 with ⟨c8, hf0⟩ | ⟨c8, hf0⟩
      ·let Z3 : List HO := (Z2 ++ (rpN 4 (Hq c8) []))
       rcases yb hf0 with ⟨c9, hf0⟩ | ⟨c9, hf0⟩
       ·exact yB X0 hC hJ2 true hf0 (Z3 ++ (rpN 6 (Hq c9) [Hq c8, Hq c9, Hq c8]))
       ·exact yB X0 hC hJ2 (cell1.l_.e0 != a_.Message) hf0 (Z3 ++ (Hq c9 :: Hq c9 :: Hn (⟨rfl, by decide⟩ : true = true ∧ 0 < 4) :: (rpN 4 (Hq c9) [Hq c8, Hq c9, Hq c8])))
      ·exact yB X0 hC hJ2 false hf0 (Z2 ++ (rpN 6 (Hq c8) []))
def ZG : x5 := spF (α := Bool × Bool) (ρ := Bool) 66 (fun x => [(eEr 0 181) x.1, (eEr 0 181) x.2]) (fun r => eB r) (fun x => QL x.1 x.2) [] (UT)
theorem z0V {ctr : Ctr} (hC : zW Tryd.prog ctr) : ZG.Ok Tryd.prog := by
 refine yd ?_
 rintro ⟨e, t⟩ r0 hf0
 cases t with
 | false => cases hf0
 | true =>
  cases hf0
  exact z7S e
def zA : Code := (Tryd.f63.body).getD .skip
abbrev kN {σ : Type} (x0 : z8) (x1 : za) (yv : Value) (YY : σ → KC) (x16 : Int) (sg2 : σ) : List (Nat × T) := [(0, .own (.opq (YY sg2).q)), (1, .d (.sptr (xi x0))), (2, .d (.sptr (yS x1))), (3, .own (.box (.atom yv))), (15, .d (I ((x0.Parts.length : Nat) : Int))), (16, .d (I x16))]
abbrev zZ {σ : Type} (x0 : z8) (x1 : za) (yv : Value) (YY : σ → KC) (x16 : Int) (r_ : z8 × Int × za) (sg3 : σ) : List (Nat × T) := [(0, .own (.opq (YY sg3).q)), (1, .d (.sptr (xi x0))), (2, .d (.sptr (yS x1))), (3, .own (.box (.atom yv))), (4, .own (.box (I x16))), (15, .d (I ((x0.Parts.length : Nat) : Int))), (16, .d (I x16)), (22, .d (.fn 79 [.sptr (.agg [I r_.1.Messages, I r_.1.Labels, eSl 1 false (eI .i64) r_.1.Channels, eSl 3 false wN r_.1.Parts]), .sptr (I r_.2.1), .sptr (.agg [.agg [I r_.2.2.states_.e0, I r_.2.2.states_.e1, I r_.2.2.states_.e2, I r_.2.2.states_.e3], .agg [.agg [I r_.2.2.queues_.e0.many_, .agg [I r_.2.2.queues_.e0.l_.e0, I r_.2.2.queues_.e0.l_.e1, I r_.2.2.queues_.e0.l_.e2, I r_.2.2.queues_.e0.l_.e3]], .agg [I r_.2.2.queues_.e1.many_, .agg [I r_.2.2.queues_.e1.l_.e0, I r_.2.2.queues_.e1.l_.e1, I r_.2.2.queues_.e1.l_.e2, I r_.2.2.queues_.e1.l_.e3]], .agg [I r_.2.2.queues_.e2.many_, .agg [I r_.2.2.queues_.e2.l_.e0, I r_.2.2.queues_.e2.l_.e1, I r_.2.2.queues_.e2.l_.e2, I r_.2.2.queues_.e2.l_.e3]], .agg [I r_.2.2.queues_.e3.many_, .agg [I r_.2.2.queues_.e3.l_.e0, I r_.2.2.queues_.e3.l_.e1, I r_.2.2.queues_.e3.l_.e2, I r_.2.2.queues_.e3.l_.e3]]]])]))]
abbrev kM {σ : Type} (x0 : z8) (x1 : za) (yv : Value) (YY : σ → KC) (x16 : Int) (r_ : z8 × Int × za) (x23 : Int) (x24 : ze) (Channel_e : Int) (x59 : Int) (sg5 : σ) : List (Nat × T) := [(0, .own (.opq (YY sg5).q)), (1, .d (.sptr (xi x0))), (2, .d (.sptr (yS x1))), (3, .own (.box (.atom yv))), (4, .own (.box (I x16))), (5, .own (.box (I x23))), (6, .own (.box (vq x24))), (15, .d (I ((x0.Parts.length : Nat) : Int))), (16, .d (I x16)), (22, .d (.fn 79 [.sptr (.agg [I r_.1.Messages, I r_.1.Labels, eSl 1 false (eI .i64) r_.1.Channels, eSl 3 false wN r_.1.Parts]), .sptr (I r_.2.1), .sptr (.agg [.agg [I r_.2.2.states_.e0, I r_.2.2.states_.e1, I r_.2.2.states_.e2, I r_.2.2.states_.e3], .agg [.agg [I r_.2.2.queues_.e0.many_, .agg [I r_.2.2.queues_.e0.l_.e0, I r_.2.2.queues_.e0.l_.e1, I r_.2.2.queues_.e0.l_.e2, I r_.2.2.queues_.e0.l_.e3]], .agg [I r_.2.2.queues_.e1.many_, .agg [I r_.2.2.queues_.e1.l_.e0, I r_.2.2.queues_.e1.l_.e1, I r_.2.2.queues_.e1.l_.e2, I r_.2.2.queues_.e1.l_.e3]], .agg [I r_.2.2.queues_.e2.many_, .agg [I r_.2.2.queues_.e2.l_.e0, I r_.2.2.queues_.e2.l_.e1, I r_.2.2.queues_.e2.l_.e2, I r_.2.2.queues_.e2.l_.e3]], .agg [I r_.2.2.queues_.e3.many_, .agg [I r_.2.2.queues_.e3.l_.e0, I r_.2.2.queues_.e3.l_.e1, I r_.2.2.queues_.e3.l_.e2, I r_.2.2.queues_.e3.l_.e3]]]])])), (48, .d (.sptr (eSl 1 false (eI .i64) x0.Channels))), (49, .d (eSl 1 false (eI .i64) x0.Channels)), (51, .d (I x24.Channel)), (52, .d (.sptr (I Channel_e))), (53, .d (I Channel_e)), (54, .d (B (decide (Channel_e > 0)))), (58, .d (I ((x0.Parts.length : Nat) : Int))), (59, .d (I x59))]
abbrev y8 {σ : Type} (x0 : z8) (x1 : za) (yv : Value) (YY : σ → KC) (x16 : Int) (r_ : z8 × Int × za) (x23 : Int) (x24 : ze) (Channel_e : Int) (x59 : Int) (r_3 : z8 × Int × za) (sg6 : σ) : List (Nat × T) := [(0, .own (.opq (YY sg6).q)), (1, .d (.sptr (xi x0))), (2, .d (.sptr (yS x1))), (3, .own (.box (.atom yv))), (4, .own (.box (I x16))), (5, .own (.box (I x23))), (6, .own (.box (vq x24))), (9, .own (.box (I x59))), (15, .d (I ((x0.Parts.length : Nat) : Int))), (16, .d (I x16)), (22, .d (.fn 79 [.sptr (.agg [I r_.1.Messages, I r_.1.Labels, eSl 1 false (eI .i64) r_.1.Channels, eSl 3 false wN r_.1.Parts]), .sptr (I r_.2.1), .sptr (.agg [.agg [I r_.2.2.states_.e0, I r_.2.2.states_.e1, I r_.2.2.states_.e2, I r_.2.2.states_.e3], .agg [.agg [I r_.2.2.queues_.e0.many_, .agg [I r_.2.2.queues_.e0.l_.e0, I r_.2.2.queues_.e0.l_.e1, I r_.2.2.queues_.e0.l_.e2, I r_.2.2.queues_.e0.l_.e3]], .agg [I r_.2.2.queues_.e1.many_, .agg [I r_.2.2.queues_.e1.l_.e0, I r_.2.2.queues_.e1.l_.e1, I r_.2.2.queues_.e1.l_.e2, I r_.2.2.queues_.e1.l_.e3]], .agg [I r_.2.2.queues_.e2.many_, .agg [I r_.2.2.queues_.e2.l_.e0, I r_.2.2.queues_.e2.l_.e1, I r_.2.2.queues_.e2.l_.e2, I r_.2.2.queues_.e2.l_.e3]], .agg [I r_.2.2.queues_.e3.many_, .agg [I r_.2.2.queues_.e3.l_.e0, I r_.2.2.queues_.e3.l_.e1, I r_.2.2.queues_.e3.l_.e2, I r_.2.2.queues_.e3.l_.e3]]]])])), (48, .d (.sptr (eSl 1 false (eI .i64) x0.Channels))), (49, .d (eSl 1 false (eI .i64) x0.Channels)), (51, .d (I x24.Channel)), (52, .d (.sptr (I Channel_e))), (53, .d (I Channel_e)), (54, .d (B (decide (Channel_e > 0)))), (58, .d (I ((x0.Parts.length : Nat) : Int))), (59, .d (I x59)), (68, .d (.fn 79 [.sptr (.agg [I r_3.1.Messages, I r_3.1.Labels, eSl 1 false (eI .i64) r_3.1.Channels, eSl 3 false wN r_3.1.Parts]), .sptr (I r_3.2.1), .sptr (.agg [.agg [I r_3.2.2.states_.e0, I r_3.2.2.states_.e1, I r_3.2.2.states_.e2, I r_3.2.2.states_.e3], .agg [.agg [I r_3.2.2.queues_.e0.many_, .agg [I r_3.2.2.queues_.e0.l_.e0, I r_3.2.2.queues_.e0.l_.e1, I r_3.2.2.queues_.e0.l_.e2, I r_3.2.2.queues_.e0.l_.e3]], .agg [I r_3.2.2.queues_.e1.many_, .agg [I r_3.2.2.queues_.e1.l_.e0, I r_3.2.2.queues_.e1.l_.e1, I r_3.2.2.queues_.e1.l_.e2, I r_3.2.2.queues_.e1.l_.e3]], .agg [I r_3.2.2.queues_.e2.many_, .agg [I r_3.2.2.queues_.e2.l_.e0, I r_3.2.2.queues_.e2.l_.e1, I r_3.2.2.queues_.e2.l_.e2, I r_3.2.2.queues_.e2.l_.e3]], .agg [I r_3.2.2.queues_.e3.many_, .agg [I r_3.2.2.queues_.e3.l_.e0, I r_3.2.2.queues_.e3.l_.e1, I r_3.2.2.queues_.e3.l_.e2, I r_3.2.2.queues_.e3.l_.e3]]]])]))]
abbrev kK {σ : Type} (x0 : z8) (x1 : za) (yv : Value) (YY : σ → KC) (x16 : Int) (r_ : z8 × Int × za) (x23 : Int) (x24 : ze) (Channel_e : Int) (sg4 : σ) (x59 : Int) : List (Nat × T) := [(0, .own (.opq (YY sg4).q)), (1, .d (.sptr (xi x0))), (2, .d (.sptr (yS x1))), (3, .own (.box (.atom yv))), (4, .own (.box (I x16))), (5, .own (.box (I x23))), (6, .own (.box (vq x24))), (15, .d (I ((x0.Parts.length : Nat) : Int))), (16, .d (I x16)), (22, .d (.fn 79 [.sptr (.agg [I r_.1.Messages, I r_.1.Labels, eSl 1 false (eI .i64) r_.1.Channels, eSl 3 false wN r_.1.Parts]), .sptr (I r_.2.1), .sptr (.agg [.agg [I r_.2.2.states_.e0, I r_.2.2.states_.e1, I r_.2.2.states_.e2, I r_.2.2.states_.e3], .agg [.agg [I r_.2.2.queues_.e0.many_, .agg [I r_.2.2.queues_.e0.l_.e0, I r_.2.2.queues_.e0.l_.e1, I r_.2.2.queues_.e0.l_.e2, I r_.2.2.queues_.e0.l_.e3]], .agg [I r_.2.2.queues_.e1.many_, .agg [I r_.2.2.queues_.e1.l_.e0, I r_.2.2.queues_.e1.l_.e1, I r_.2.2.queues_.e1.l_.e2, I r_.2.2.queues_.e1.l_.e3]], .agg [I r_.2.2.queues_.e2.many_, .agg [I r_.2.2.queues_.e2.l_.e0, I r_.2.2.queues_.e2.l_.e1, I r_.2.2.queues_.e2.l_.e2, I r_.2.2.queues_.e2.l_.e3]], .agg [I r_.2.2.queues_.e3.many_, .agg [I r_.2.2.queues_.e3.l_.e0, I r_.2.2.queues_.e3.l_.e1, I r_.2.2.queues_.e3.l_.e2, I r_.2.2.queues_.e3.l_.e3]]]])])), (48, .d (.sptr (eSl 1 false (eI .i64) x0.Channels))), (49, .d (eSl 1 false (eI .i64) x0.Channels)), (51, .d (I x24.Channel)), (52, .d (.sptr (I Channel_e))), (53, .d (I Channel_e)), (54, .d (B (decide (Channel_e > 0)))), (58, .d (I ((x0.Parts.length : Nat) : Int))), (59, .d (I x59))]
abbrev kL {σ : Type} (x0 : z8) (x1 : za) (yv : Value) (YY : σ → KC) (sg1 : σ) (x16 : Int) : List (Nat × T) := [(0, .own (.opq (YY sg1).q)), (1, .d (.sptr (xi x0))), (2, .d (.sptr (yS x1))), (3, .own (.box (.atom yv))), (15, .d (I ((x0.Parts.length : Nat) : Int))), (16, .d (I x16))]
theorem Y3 {ctr : Ctr} (hC : zW Tryd.prog ctr) (h0c : ctr.Has wI) (h0i : ctr.Has wH) (h0j : ctr.Has ZG) (x0 : z8) (x1 : za) : z4g Tryd.prog (.fn 63 [.sptr (.agg [I x0.Messages, I x0.Labels, eSl 1 false (eI .i64) x0.Channels, eSl 3 false wN x0.Parts]), .sptr (.agg [.agg [I x1.states_.e0, I x1.states_.e1, I x1.states_.e2, I x1.states_.e3], .agg [.agg [I x1.queues_.e0.many_, .agg [I x1.queues_.e0.l_.e0, I x1.queues_.e0.l_.e1, I x1.queues_.e0.l_.e2, I x1.queues_.e0.l_.e3]], .agg [I x1.queues_.e1.many_, .agg [I x1.queues_.e1.l_.e0, I x1.queues_.e1.l_.e1, I x1.queues_.e1.l_.e2, I x1.queues_.e1.l_.e3]], .agg [I x1.queues_.e2.many_, .agg [I x1.queues_.e2.l_.e0, I x1.queues_.e2.l_.e1, I x1.queues_.e2.l_.e2, I x1.queues_.e2.l_.e3]], .agg [I x1.queues_.e3.many_, .agg [I x1.queues_.e3.l_.e0, I x1.queues_.e3.l_.e1, I x1.queues_.e3.l_.e2, I x1.queues_.e3.l_.e3]]]])]) (fun (x : zc × za) (_ : Bool) (_ : Value) => [ve x.1, yS x.2]) (@xr x0 x1) := by
 refine z3u (tt := xO) (nt := 110) (body := zA) zY Tryd.func63 rfl (by kernel_rfl) rfl rfl (by show (3 : Nat) ≤ 110; decide) ?_
 intro σ yv YY yy hy sg r0 hf0 E hE
 unfold xr at hf0
 obtain ⟨t1, ht1, hf0⟩ := zp hf0
 refine yL ((xBx Tryd.prog 3 0 yv).or X0) hC zA [1,1,0] [] (fun s => xu x0 x1 yy s.1 s.2) (fun x => kL x0 x1 yv YY x.1 x.2) (sg, 0) ht1  [Hn (⟨rfl, rfl⟩ : false = false ∧ some yv = some yv), Ha (lnM wN x0.Parts)] ?_
 rintro ⟨sg1, x16⟩ m1 lr1 hf1 hl1 J1 hJ1
 try unfold xu at hf1
 rcases yb hf1 with ⟨c0, hf1⟩ | ⟨c0, hf1⟩
 ·refine yJ X0 hC zA [1,1,0,0,1,1] [J1] [0,1,2,3,15,16] (fun z : σ => va x16 z = some lr1) (fun z => kN x0 x1 yv YY x16 z) [(0, .own (.opq (YY sg1).q)), (1, .d (.sptr (xi x0))), (2, .d (.sptr (yS x1))), (3, .own (.box (.atom yv))), (15, .d (I ((x0.Parts.length : Nat) : Int))), (16, .d (I x16))] [Hq c0, Hh (.cut 0)] ?_ fun J2 hJ2 => ?_
  ·rintro sg2 hf1
   unfold va at hf1
   obtain rfl := zn hf1
   exact yB X0 hC hJ1 (sg2, w64 (x16 + 1)) hl1 []
  ·obtain ⟨r_, h0, hf1⟩ := zp hf1
   obtain ⟨t3, ht3, hf1⟩ := zp hf1
   refine yAt X0 hC (sub [1,1,0,0,1,1,2,0,1,1,0] zA) (frs [1,1,0,0,1,1,2,0,1,1,0] [J1, J2] zA []) [(0, .own (.opq (YY sg1).q)), (1, .d (.sptr (xi x0))), (2, .d (.sptr (yS x1))), (3, .own (.box (.atom yv))), (4, .own (.box (I x16))), (15, .d (I ((x0.Parts.length : Nat) : Int))), (16, .d (I x16)), (22, .d (.fn 79 [.sptr (.agg [I r_.1.Messages, I r_.1.Labels, eSl 1 false (eI .i64) r_.1.Channels, eSl 3 false wN r_.1.Parts]), .sptr (I r_.2.1), .sptr (.agg [.agg [I r_.2.2.states_.e0, I r_.2.2.states_.e1, I r_.2.2.states_.e2, I r_.2.2.states_.e3], .agg [.agg [I r_.2.2.queues_.e0.many_, .agg [I r_.2.2.queues_.e0.l_.e0, I r_.2.2.queues_.e0.l_.e1, I r_.2.2.queues_.e0.l_.e2, I r_.2.2.queues_.e0.l_.e3]], .agg [I r_.2.2.queues_.e1.many_, .agg [I r_.2.2.queues_.e1.l_.e0, I r_.2.2.queues_.e1.l_.e1, I r_.2.2.queues_.e1.l_.e2, I r_.2.2.queues_.e1.l_.e3]], .agg [I r_.2.2.queues_.e2.many_, .agg [I r_.2.2.queues_.e2.l_.e0, I r_.2.2.queues_.e2.l_.e1, I r_.2.2.queues_.e2.l_.e2, I r_.2.2.queues_.e2.l_.e3]], .agg [I r_.2.2.queues_.e3.many_, .agg [I r_.2.2.queues_.e3.l_.e0, I r_.2.2.queues_.e3.l_.e1, I r_.2.2.queues_.e3.l_.e2, I r_.2.2.queues_.e3.l_.e3]]]])]))] [Hc h0c (x := (x0, x1, x16)) h0 (loC xi x0 <| loC yS x1 <| loC (eI .i64) x16 <| loN)] fun st0 h0 => ?_
   refine z1s (g := .tmp 22) (ps := [23,24]) (assign := (sub [1,1,0,0,1,1,2,0,1,1,0,0] zA)) (body := (sub [1,1,0,0,1,1,2,0,1,1,0,1] zA)) (K := 79) (caps := [.sptr (.agg [I r_.1.Messages, I r_.1.Labels, eSl 1 false (eI .i64) r_.1.Channels, eSl 3 false wN r_.1.Parts]), .sptr (I r_.2.1), .sptr (.agg [.agg [I r_.2.2.states_.e0, I r_.2.2.states_.e1, I r_.2.2.states_.e2, I r_.2.2.states_.e3], .agg [.agg [I r_.2.2.queues_.e0.many_, .agg [I r_.2.2.queues_.e0.l_.e0, I r_.2.2.queues_.e0.l_.e1, I r_.2.2.queues_.e0.l_.e2, I r_.2.2.queues_.e0.l_.e3]], .agg [I r_.2.2.queues_.e1.many_, .agg [I r_.2.2.queues_.e1.l_.e0, I r_.2.2.queues_.e1.l_.e1, I r_.2.2.queues_.e1.l_.e2, I r_.2.2.queues_.e1.l_.e3]], .agg [I r_.2.2.queues_.e2.many_, .agg [I r_.2.2.queues_.e2.l_.e0, I r_.2.2.queues_.e2.l_.e1, I r_.2.2.queues_.e2.l_.e2, I r_.2.2.queues_.e2.l_.e3]], .agg [I r_.2.2.queues_.e3.many_, .agg [I r_.2.2.queues_.e3.l_.e0, I r_.2.2.queues_.e3.l_.e1, I r_.2.2.queues_.e3.l_.e2, I r_.2.2.queues_.e3.l_.e3]]]])]) (by kernel_rfl) [0,1,2,3,4,15,16,22] (fun s => zZ x0 x1 yv YY x16 r_ s) (fun s => zZ x0 x1 yv YY x16 r_ s) (fun s => Code.ret) ((fun (x : Int × ze) (_ : Bool) (_ : Value) => [(eI .i64) x.1, vq x.2])) (F := @yj r_.1 r_.2.1 r_.2.2) (fun s x => yV x0 x1 yy x16 s x.1 x.2) sg1 t3 _ h0 inferInstance (by kernel_rfl) (by decide) (fun _ => rfl) (fun _ => rfl) (by kernel_rfl) (fun _ _ _ => rfl) (jj hC r_.1 r_.2.1 r_.2.2) ht3 ?_ ?_
   ·rintro tv3 sg3 ⟨x23, x24⟩ vr lr2 hf2
    refine Ku (sz := 110) (k := 0) (u := tv3 0) (v := yv) (ps := List.map (fun t => (t, tv3 t)) [1,2,3,4,15,16,22] ++ ([(0, yv)])) rfl (by simp) ?_
    replace hf2 : yV x0 x1 yy x16 sg3 x23 x24 = some lr2 := hf2
    unfold yV at hf2
    refine yF X0 hC .normal [(0, .own (.opq (YY sg3).q)), (1, .d (.sptr (xi x0))), (2, .d (.sptr (yS x1))), (3, .own (.box (.atom yv))), (4, .own (.box (I x16))), (5, .own (.box (I x23))), (6, .own (.box (vq x24))), (15, .d (I ((x0.Parts.length : Nat) : Int))), (16, .d (I x16)), (22, .d (.fn 79 [.sptr (.agg [I r_.1.Messages, I r_.1.Labels, eSl 1 false (eI .i64) r_.1.Channels, eSl 3 false wN r_.1.Parts]), .sptr (I r_.2.1), .sptr (.agg [.agg [I r_.2.2.states_.e0, I r_.2.2.states_.e1, I r_.2.2.states_.e2, I r_.2.2.states_.e3], .agg [.agg [I r_.2.2.queues_.e0.many_, .agg [I r_.2.2.queues_.e0.l_.e0, I r_.2.2.queues_.e0.l_.e1, I r_.2.2.queues_.e0.l_.e2, I r_.2.2.queues_.e0.l_.e3]], .agg [I r_.2.2.queues_.e1.many_, .agg [I r_.2.2.queues_.e1.l_.e0, I r_.2.2.queues_.e1.l_.e1, I r_.2.2.queues_.e1.l_.e2, I r_.2.2.queues_.e1.l_.e3]], .agg [I r_.2.2.queues_.e2.many_, .agg [I r_.2.2.queues_.e2.l_.e0, I r_.2.2.queues_.e2.l_.e1, I r_.2.2.queues_.e2.l_.e2, I r_.2.2.queues_.e2.l_.e3]], .agg [I r_.2.2.queues_.e3.many_, .agg [I r_.2.2.queues_.e3.l_.e0, I r_.2.2.queues_.e3.l_.e1, I r_.2.2.queues_.e3.l_.e2, I r_.2.2.queues_.e3.l_.e3]]]])]))] [] fun st0 h0 => ⟨rfl, z1r h0 ?_⟩
    refine Ku (sz := 110) (k := 0) (u := tv3 0) (v := yv) (ps := List.map (fun t => (t, tv3 t)) [1,2,3,4,15,16,22] ++ ([(0, yv)])) rfl (by simp) ?_
    obtain ⟨r_1, h1, hf2⟩ := zp hf2
    obtain ⟨r_2, h2, hf2⟩ := zp hf2
    let Z0 : List HO := [Hc h0i (x := (x0, x1, x16, x24)) h1 (loC xi x0 <| loC yS x1 <| loC (eI .i64) x16 <| loC vq x24 <| loN), Hc h0j (x := (r_1.2, true)) h2 (loC (eEr 0 181) r_1.2 <| loC (eEr 0 181) true <| loN)]
    rcases yb hf2 with ⟨c1, hf2⟩ | ⟨c1, hf2⟩
    ·obtain ⟨yr, h3, hf2⟩ := zp hf2
     let Z1 : List HO := (Z0 ++ [Hq c1, Hn (⟨rfl, rfl, _, rfl⟩ : T.own (.box (.atom yv)) = T.own (.box (.atom yv)) ∧ some yv = some yv ∧ ∃ x, T.own (.opq (YY sg3).q) = T.own x), Hn (z0Y (yv := yv) (Y := YY) (enc := (fun (x : zc × za) (_ : Bool) (_ : Value) => [ve x.1, yS x.2])) (s := sg3) (x := ((zc.mk x16 x23 (-1) (-1)), r_1.1)) (s' := yr.1) (b := yr.2) (v := .nilFunc) [ve (zc.mk x16 x23 (-1) (-1)), yS r_1.1] (show JO [ve (zc.mk x16 x23 (-1) (-1)), yS r_1.1] [ve (zc.mk x16 x23 (-1) (-1)), yS r_1.1] from inferInstance))])
     rcases yb hf2 with ⟨c2, hf2⟩ | ⟨c2, hf2⟩
     ·obtain rfl := zn hf2
      exact yF ((Jm (P := Tryd.prog) xO hy 42 (s := sg3) (x := ((zc.mk x16 x23 (-1) (-1)), r_1.1)) (s' := yr.1) (b := yr.2) .nilFunc h3).or ((xLy zY 37 3 0 yv).or X0)) hC .ret (zZ x0 x1 yv YY x16 r_ yr.1) (Z1 ++ [Hq c2]) fun st0 h0 => ⟨rfl, _, h0, LeL.refl _⟩
     ·obtain rfl := zn hf2
      exact yF ((Jm (P := Tryd.prog) xO hy 42 (s := sg3) (x := ((zc.mk x16 x23 (-1) (-1)), r_1.1)) (s' := yr.1) (b := yr.2) .nilFunc h3).or ((xLy zY 37 3 0 yv).or X0)) hC .normal (zZ x0 x1 yv YY x16 r_ yr.1) (Z1 ++ [Hq c2]) fun st0 h0 => ⟨rfl, _, h0, LeL.refl _⟩
    ·rcases yb hf2 with ⟨c3, hf2⟩ | ⟨c3, hf2⟩
     ·obtain rfl := zn hf2
      exact yF X0 hC .normal (zZ x0 x1 yv YY x16 r_ sg3) (Z0 ++ (Hq c1 :: (rpN 8 (Hq c3) [qT]))) fun st0 h0 => ⟨rfl, _, h0, LeL.refl _⟩
     ·obtain ⟨Channel_e, h4, hf2⟩ := zp hf2
      let Z2 : List HO := (Z0 ++ (Hq c1 :: (rpN 5 (Hq c3) [Hi (eI .i64) h4, Hq c3, Hq c3, Hq c3])))
      rcases yb hf2 with ⟨c4, hf2⟩ | ⟨c4, hf2⟩
      ·obtain rfl := zn hf2
       exact yF X0 hC .normal (zZ x0 x1 yv YY x16 r_ sg3) (Z2 ++ [Hq c4]) fun st0 h0 => ⟨rfl, _, h0, LeL.refl _⟩
      ·obtain ⟨t4, ht4, hf2⟩ := zp hf2
       refine yL X0 hC zA [1,1,0,0,1,1,2,0,1,1,0,1,0,1,1,1,1,0] [J1, J2] (fun s => yT x0 x1 yy x16 x23 x24 s.1 s.2) (fun x => kK x0 x1 yv YY x16 r_ x23 x24 Channel_e x.1 x.2) (sg3,0) ht4  (Z2 ++ [Hq c4, Ha (lnM wN x0.Parts)]) ?_
       rintro ⟨sg4, x59⟩ m4 lr3 hf3 hl3 J4 hJ4
       try unfold yT at hf3
       rcases yb hf3 with ⟨c5, hf3⟩ | ⟨c5, hf3⟩
       ·refine yJ X0 hC zA [1,1,0,0,1,1,2,0,1,1,0,1,0,1,1,1,1,0,0,1,1] [J1, J2, J4] [0,1,2,3,4,5,6,15,16,22,48,49,51,52,53,54,58,59] (fun z : σ => wa x59 z = some lr3) (fun z => kM x0 x1 yv YY x16 r_ x23 x24 Channel_e x59 z) [(0, .own (.opq (YY sg4).q)), (1, .d (.sptr (xi x0))), (2, .d (.sptr (yS x1))), (3, .own (.box (.atom yv))), (4, .own (.box (I x16))), (5, .own (.box (I x23))), (6, .own (.box (vq x24))), (15, .d (I ((x0.Parts.length : Nat) : Int))), (16, .d (I x16)), (22, .d (.fn 79 [.sptr (.agg [I r_.1.Messages, I r_.1.Labels, eSl 1 false (eI .i64) r_.1.Channels, eSl 3 false wN r_.1.Parts]), .sptr (I r_.2.1), .sptr (.agg [.agg [I r_.2.2.states_.e0, I r_.2.2.states_.e1, I r_.2.2.states_.e2, I r_.2.2.states_.e3], .agg [.agg [I r_.2.2.queues_.e0.many_, .agg [I r_.2.2.queues_.e0.l_.e0, I r_.2.2.queues_.e0.l_.e1, I r_.2.2.queues_.e0.l_.e2, I r_.2.2.queues_.e0.l_.e3]], .agg [I r_.2.2.queues_.e1.many_, .agg [I r_.2.2.queues_.e1.l_.e0, I r_.2.2.queues_.e1.l_.e1, I r_.2.2.queues_.e1.l_.e2, I r_.2.2.queues_.e1.l_.e3]], .agg [I r_.2.2.queues_.e2.many_, .agg [I r_.2.2.queues_.e2.l_.e0, I r_.2.2.queues_.e2.l_.e1, I r_.2.2.queues_.e2.l_.e2, I r_.2.2.queues_.e2.l_.e3]], .agg [I r_.2.2.queues_.e3.many_, .agg [I r_.2.2.queues_.e3.l_.e0, I r_.2.2.queues_.e3.l_.e1, I r_.2.2.queues_.e3.l_.e2, I r_.2.2.queues_.e3.l_.e3]]]])])), (48, .d (.sptr (eSl 1 false (eI .i64) x0.Channels))), (49, .d (eSl 1 false (eI .i64) x0.Channels)), (51, .d (I x24.Channel)), (52, .d (.sptr (I Channel_e))), (53, .d (I Channel_e)), (54, .d (B (decide (Channel_e > 0)))), (58, .d (I ((x0.Parts.length : Nat) : Int))), (59, .d (I x59))] [Hq c5, Hh (.cut 0)] ?_ fun J5 hJ5 => ?_
        ·rintro sg5 hf3
         unfold wa at hf3
         obtain rfl := zn hf3
         exact yB X0 hC hJ4 (sg5, w64 (x59 + 1)) hl3 []
        ·rcases yb hf3 with ⟨c6, hf3⟩ | ⟨c6, hf3⟩
         ·exact yB X0 hC hJ5 sg4 hf3 [Hq c6]
         ·obtain ⟨r_3, h5, hf3⟩ := zp hf3
          obtain ⟨t6, ht6, hf3⟩ := zp hf3
          refine yAt X0 hC (sub [1,1,0,0,1,1,2,0,1,1,0,1,0,1,1,1,1,0,0,1,1,2,0,1,1,1,0] zA) (frs [1,1,0,0,1,1,2,0,1,1,0,1,0,1,1,1,1,0,0,1,1,2,0,1,1,1,0] [J1, J2, J4, J5] zA []) [(0, .own (.opq (YY sg4).q)), (1, .d (.sptr (xi x0))), (2, .d (.sptr (yS x1))), (3, .own (.box (.atom yv))), (4, .own (.box (I x16))), (5, .own (.box (I x23))), (6, .own (.box (vq x24))), (9, .own (.box (I x59))), (15, .d (I ((x0.Parts.length : Nat) : Int))), (16, .d (I x16)), (22, .d (.fn 79 [.sptr (.agg [I r_.1.Messages, I r_.1.Labels, eSl 1 false (eI .i64) r_.1.Channels, eSl 3 false wN r_.1.Parts]), .sptr (I r_.2.1), .sptr (.agg [.agg [I r_.2.2.states_.e0, I r_.2.2.states_.e1, I r_.2.2.states_.e2, I r_.2.2.states_.e3], .agg [.agg [I r_.2.2.queues_.e0.many_, .agg [I r_.2.2.queues_.e0.l_.e0, I r_.2.2.queues_.e0.l_.e1, I r_.2.2.queues_.e0.l_.e2, I r_.2.2.queues_.e0.l_.e3]], .agg [I r_.2.2.queues_.e1.many_, .agg [I r_.2.2.queues_.e1.l_.e0, I r_.2.2.queues_.e1.l_.e1, I r_.2.2.queues_.e1.l_.e2, I r_.2.2.queues_.e1.l_.e3]], .agg [I r_.2.2.queues_.e2.many_, .agg [I r_.2.2.queues_.e2.l_.e0, I r_.2.2.queues_.e2.l_.e1, I r_.2.2.queues_.e2.l_.e2, I r_.2.2.queues_.e2.l_.e3]], .agg [I r_.2.2.queues_.e3.many_, .agg [I r_.2.2.queues_.e3.l_.e0, I r_.2.2.queues_.e3.l_.e1, I r_.2.2.queues_.e3.l_.e2, I r_.2.2.queues_.e3.l_.e3]]]])])), (48, .d (.sptr (eSl 1 false (eI .i64) x0.Channels))), (49, .d (eSl 1 false (eI .i64) x0.Channels)), (51, .d (I x24.Channel)), (52, .d (.sptr (I Channel_e))), (53, .d (I Channel_e)), (54, .d (B (decide (Channel_e > 0)))), (58, .d (I ((x0.Parts.length : Nat) : Int))), (59, .d (I x59)), (68, .d (.fn 79 [.sptr (.agg [I r_3.1.Messages, I r_3.1.Labels, eSl 1 false (eI .i64) r_3.1.Channels, eSl 3 false wN r_3.1.Parts]), .sptr (I r_3.2.1), .sptr (.agg [.agg [I r_3.2.2.states_.e0, I r_3.2.2.states_.e1, I r_3.2.2.states_.e2, I r_3.2.2.states_.e3], .agg [.agg [I r_3.2.2.queues_.e0.many_, .agg [I r_3.2.2.queues_.e0.l_.e0, I r_3.2.2.queues_.e0.l_.e1, I r_3.2.2.queues_.e0.l_.e2, I r_3.2.2.queues_.e0.l_.e3]], .agg [I r_3.2.2.queues_.e1.many_, .agg [I r_3.2.2.queues_.e1.l_.e0, I r_3.2.2.queues_.e1.l_.e1, I r_3.2.2.queues_.e1.l_.e2, I r_3.2.2.queues_.e1.l_.e3]], .agg [I r_3.2.2.queues_.e2.many_, .agg [I r_3.2.2.queues_.e2.l_.e0, I r_3.2.2.queues_.e2.l_.e1, I r_3.2.2.queues_.e2.l_.e2, I r_3.2.2.queues_.e2.l_.e3]], .agg [I r_3.2.2.queues_.e3.many_, .agg [I r_3.2.2.queues_.e3.l_.e0, I r_3.2.2.queues_.e3.l_.e1, I r_3.2.2.queues_.e3.l_.e2, I r_3.2.2.queues_.e3.l_.e3]]]])]))] [Hq c6, Hc h0c (x := (x0, x1, x59)) h5 (loC xi x0 <| loC yS x1 <| loC (eI .i64) x59 <| loN)] fun st0 h0 => ?_
          refine z1s (g := .tmp 68) (ps := [69,70]) (assign := (sub [1,1,0,0,1,1,2,0,1,1,0,1,0,1,1,1,1,0,0,1,1,2,0,1,1,1,0,0] zA)) (body := (sub [1,1,0,0,1,1,2,0,1,1,0,1,0,1,1,1,1,0,0,1,1,2,0,1,1,1,0,1] zA)) (K := 79) (caps := [.sptr (.agg [I r_3.1.Messages, I r_3.1.Labels, eSl 1 false (eI .i64) r_3.1.Channels, eSl 3 false wN r_3.1.Parts]), .sptr (I r_3.2.1), .sptr (.agg [.agg [I r_3.2.2.states_.e0, I r_3.2.2.states_.e1, I r_3.2.2.states_.e2, I r_3.2.2.states_.e3], .agg [.agg [I r_3.2.2.queues_.e0.many_, .agg [I r_3.2.2.queues_.e0.l_.e0, I r_3.2.2.queues_.e0.l_.e1, I r_3.2.2.queues_.e0.l_.e2, I r_3.2.2.queues_.e0.l_.e3]], .agg [I r_3.2.2.queues_.e1.many_, .agg [I r_3.2.2.queues_.e1.l_.e0, I r_3.2.2.queues_.e1.l_.e1, I r_3.2.2.queues_.e1.l_.e2, I r_3.2.2.queues_.e1.l_.e3]], .agg [I r_3.2.2.queues_.e2.many_, .agg [I r_3.2.2.queues_.e2.l_.e0, I r_3.2.2.queues_.e2.l_.e1, I r_3.2.2.queues_.e2.l_.e2, I r_3.2.2.queues_.e2.l_.e3]], .agg [I r_3.2.2.queues_.e3.many_, .agg [I r_3.2.2.queues_.e3.l_.e0, I r_3.2.2.queues_.e3.l_.e1, I r_3.2.2.queues_.e3.l_.e2, I r_3.2.2.queues_.e3.l_.e3]]]])]) (by kernel_rfl) [0,1,2,3,4,5,6,9,15,16,22,48,49,51,52,53,54,58,59,68] (fun s => y8 x0 x1 yv YY x16 r_ x23 x24 Channel_e x59 r_3 s) (fun s => y8 x0 x1 yv YY x16 r_ x23 x24 Channel_e x59 r_3 s) (fun s => Code.ret) ((fun (x : Int × ze) (_ : Bool) (_ : Value) => [(eI .i64) x.1, vq x.2])) (F := @yj r_3.1 r_3.2.1 r_3.2.2) (fun s x => yU x1 yy x16 x23 x24 x59 s x.1 x.2) sg4 t6 _ h0 inferInstance (by kernel_rfl) (by decide) (fun _ => rfl) (fun _ => rfl) (by kernel_rfl) (fun _ _ _ => rfl) (jj hC r_3.1 r_3.2.1 r_3.2.2) ht6 ?_ ?_
          ·rintro tv6 sg6 ⟨x69, x70⟩ vr lr4 hf4
           refine Ku (sz := 110) (k := 0) (u := tv6 0) (v := yv) (ps := List.map (fun t => (t, tv6 t)) [1,2,3,4,5,6,9,15,16,22,48,49,51,52,53,54,58,59,68] ++ (List.map (fun t => (t, tv3 t)) [1,2,3,4,15,16,22] ++ ([(0, yv)]))) rfl (by simp) ?_
           replace hf4 : yU x1 yy x16 x23 x24 x59 sg6 x69 x70 = some lr4 := hf4
           unfold yU at hf4
           refine yF X0 hC .normal [(0, .own (.opq (YY sg6).q)), (1, .d (.sptr (xi x0))), (2, .d (.sptr (yS x1))), (3, .own (.box (.atom yv))), (4, .own (.box (I x16))), (5, .own (.box (I x23))), (6, .own (.box (vq x24))), (9, .own (.box (I x59))), (10, .d (I x69)), (11, .own (.box (vq x70))), (15, .d (I ((x0.Parts.length : Nat) : Int))), (16, .d (I x16)), (22, .d (.fn 79 [.sptr (.agg [I r_.1.Messages, I r_.1.Labels, eSl 1 false (eI .i64) r_.1.Channels, eSl 3 false wN r_.1.Parts]), .sptr (I r_.2.1), .sptr (.agg [.agg [I r_.2.2.states_.e0, I r_.2.2.states_.e1, I r_.2.2.states_.e2, I r_.2.2.states_.e3], .agg [.agg [I r_.2.2.queues_.e0.many_, .agg [I r_.2.2.queues_.e0.l_.e0, I r_.2.2.queues_.e0.l_.e1, I r_.2.2.queues_.e0.l_.e2, I r_.2.2.queues_.e0.l_.e3]], .agg [I r_.2.2.queues_.e1.many_, .agg [I r_.2.2.queues_.e1.l_.e0, I r_.2.2.queues_.e1.l_.e1, I r_.2.2.queues_.e1.l_.e2, I r_.2.2.queues_.e1.l_.e3]], .agg [I r_.2.2.queues_.e2.many_, .agg [I r_.2.2.queues_.e2.l_.e0, I r_.2.2.queues_.e2.l_.e1, I r_.2.2.queues_.e2.l_.e2, I r_.2.2.queues_.e2.l_.e3]], .agg [I r_.2.2.queues_.e3.many_, .agg [I r_.2.2.queues_.e3.l_.e0, I r_.2.2.queues_.e3.l_.e1, I r_.2.2.queues_.e3.l_.e2, I r_.2.2.queues_.e3.l_.e3]]]])])), (48, .d (.sptr (eSl 1 false (eI .i64) x0.Channels))), (49, .d (eSl 1 false (eI .i64) x0.Channels)), (51, .d (I x24.Channel)), (52, .d (.sptr (I Channel_e))), (53, .d (I Channel_e)), (54, .d (B (decide (Channel_e > 0)))), (58, .d (I ((x0.Parts.length : Nat) : Int))), (59, .d (I x59)), (68, .d (.fn 79 [.sptr (.agg [I r_3.1.Messages, I r_3.1.Labels, eSl 1 false (eI .i64) r_3.1.Channels, eSl 3 false wN r_3.1.Parts]), .sptr (I r_3.2.1), .sptr (.agg [.agg [I r_3.2.2.states_.e0, I r_3.2.2.states_.e1, I r_3.2.2.states_.e2, I r_3.2.2.states_.e3], .agg [.agg [I r_3.2.2.queues_.e0.many_, .agg [I r_3.2.2.queues_.e0.l_.e0, I r_3.2.2.queues_.e0.l_.e1, I r_3.2.2.queues_.e0.l_.e2, I r_3.2.2.queues_.e0.l_.e3]], .agg [I r_3.2.2.queues_.e1.many_, .agg [I r_3.2.2.queues_.e1.l_.e0, I r_3.2.2.queues_.e1.l_.e1, I r_3.2.2.queues_.e1.l_.e2, I r_3.2.2.queues_.e1.l_.e3]], .agg [I r_3.2.2.queues_.e2.many_, .agg [I r_3.2.2.queues_.e2.l_.e0, I r_3.2.2.queues_.e2.l_.e1, I r_3.2.2.queues_.e2.l_.e2, I r_3.2.2.queues_.e2.l_.e3]], .agg [I r_3.2.2.queues_.e3.many_, .agg [I r_3.2.2.queues_.e3.l_.e0, I r_3.2.2.queues_.e3.l_.e1, I r_3.2.2.queues_.e3.l_.e2, I r_3.2.2.queues_.e3.l_.e3]]]])]))] [] fun st0 h0 => ⟨rfl, z1r h0 ?_⟩
           refine Ku (sz := 110) (k := 0) (u := tv6 0) (v := yv) (ps := List.map (fun t => (t, tv6 t)) [1,2,3,4,5,6,9,15,16,22,48,49,51,52,53,54,58,59,68] ++ (List.map (fun t => (t, tv3 t)) [1,2,3,4,15,16,22] ++ ([(0, yv)]))) rfl (by simp) ?_
           rcases yb hf4 with ⟨c7, hf4⟩ | ⟨c7, hf4⟩
           ·obtain rfl := zn hf4
            exact yF X0 hC .normal (y8 x0 x1 yv YY x16 r_ x23 x24 Channel_e x59 r_3 sg6) (rpN 6 (Hq c7) (rpN 7 qT [])) fun st0 h0 => ⟨rfl, _, h0, LeL.refl _⟩
           ·let Z3 : List HO := (rpN 6 (Hq c7) [])
            rcases yb hf4 with ⟨c8, hf4⟩ | ⟨c8, hf4⟩
            ·obtain rfl := zn hf4
             exact yF X0 hC .normal (y8 x0 x1 yv YY x16 r_ x23 x24 Channel_e x59 r_3 sg6) (Z3 ++ (rpN 6 (Hq c8) [qT])) fun st0 h0 => ⟨rfl, _, h0, LeL.refl _⟩
            ·let Z4 : List HO := (Z3 ++ (rpN 6 (Hq c8) []))
             rcases yb hf4 with ⟨c9, hf4⟩ | ⟨c9, hf4⟩
             ·obtain rfl := zn hf4
              exact yF X0 hC .normal (y8 x0 x1 yv YY x16 r_ x23 x24 Channel_e x59 r_3 sg6) (Z4 ++ [Hq c9]) fun st0 h0 => ⟨rfl, _, h0, LeL.refl _⟩
             ·refine yA X0 hC zA [1,1,0,0,1,1,2,0,1,1,0,1,0,1,1,1,1,0,0,1,1,2,0,1,1,1,0,1,0,1,1] [J1, J2, J4, J5] [(0, .own (.opq (YY sg6).q)), (1, .d (.sptr (xi x0))), (2, .d (.sptr (yS x1))), (3, .own (.box (.atom yv))), (4, .own (.box (I x16))), (5, .own (.box (I x23))), (6, .own (.box (vq x24))), (9, .own (.box (I x59))), (10, .d (I x69)), (11, .own (.box (vq x70))), (12, .own (.box (yS x1))), (15, .d (I ((x0.Parts.length : Nat) : Int))), (16, .d (I x16)), (22, .d (.fn 79 [.sptr (.agg [I r_.1.Messages, I r_.1.Labels, eSl 1 false (eI .i64) r_.1.Channels, eSl 3 false wN r_.1.Parts]), .sptr (I r_.2.1), .sptr (.agg [.agg [I r_.2.2.states_.e0, I r_.2.2.states_.e1, I r_.2.2.states_.e2, I r_.2.2.states_.e3], .agg [.agg [I r_.2.2.queues_.e0.many_, .agg [I r_.2.2.queues_.e0.l_.e0, I r_.2.2.queues_.e0.l_.e1, I r_.2.2.queues_.e0.l_.e2, I r_.2.2.queues_.e0.l_.e3]], .agg [I r_.2.2.queues_.e1.many_, .agg [I r_.2.2.queues_.e1.l_.e0, I r_.2.2.queues_.e1.l_.e1, I r_.2.2.queues_.e1.l_.e2, I r_.2.2.queues_.e1.l_.e3]], .agg [I r_.2.2.queues_.e2.many_, .agg [I r_.2.2.queues_.e2.l_.e0, I r_.2.2.queues_.e2.l_.e1, I r_.2.2.queues_.e2.l_.e2, I r_.2.2.queues_.e2.l_.e3]], .agg [I r_.2.2.queues_.e3.many_, .agg [I r_.2.2.queues_.e3.l_.e0, I r_.2.2.queues_.e3.l_.e1, I r_.2.2.queues_.e3.l_.e2, I r_.2.2.queues_.e3.l_.e3]]]])])), (48, .d (.sptr (eSl 1 false (eI .i64) x0.Channels))), (49, .d (eSl 1 false (eI .i64) x0.Channels)), (51, .d (I x24.Channel)), (52, .d (.sptr (I Channel_e))), (53, .d (I Channel_e)), (54, .d (B (decide (Channel_e > 0)))), (58, .d (I ((x0.Parts.length : Nat) : Int))), (59, .d (I x59)), (68, .d (.fn 79 [.sptr (.agg [I r_3.1.Messages, I r_3.1.Labels, eSl 1 false (eI .i64) r_3.1.Channels, eSl 3 false wN r_3.1.Parts]), .sptr (I r_3.2.1), .sptr (.agg [.agg [I r_3.2.2.states_.e0, I r_3.2.2.states_.e1, I r_3.2.2.states_.e2, I r_3.2.2.states_.e3], .agg [.agg [I r_3.2.2.queues_.e0.many_, .agg [I r_3.2.2.queues_.e0.l_.e0, I r_3.2.2.queues_.e0.l_.e1, I r_3.2.2.queues_.e0.l_.e2, I r_3.2.2.queues_.e0.l_.e3]], .agg [I r_3.2.2.queues_.e1.many_, .agg [I r_3.2.2.queues_.e1.l_.e0, I r_3.2.2.queues_.e1.l_.e1, I r_3.2.2.queues_.e1.l_.e2, I r_3.2.2.queues_.e1.l_.e3]], .agg [I r_3.2.2.queues_.e2.many_, .agg [I r_3.2.2.queues_.e2.l_.e0, I r_3.2.2.queues_.e2.l_.e1, I r_3.2.2.queues_.e2.l_.e2, I r_3.2.2.queues_.e2.l_.e3]], .agg [I r_3.2.2.queues_.e3.many_, .agg [I r_3.2.2.queues_.e3.l_.e0, I r_3.2.2.queues_.e3.l_.e1, I r_3.2.2.queues_.e3.l_.e2, I r_3.2.2.queues_.e3.l_.e3]]]])])), (76, .d (I x70.Channel)), (78, .d (I x24.Channel)), (79, .d (B (x70.Channel != x24.Channel))), (83, .d (I x70.Message)), (85, .d (I x24.Message)), (86, .d (B (x70.Message != x24.Message)))] (Z4 ++ [Hq c9, Hh (.cut 1)]) ?_
              obtain ⟨cell, h6, hf4⟩ := zp hf4
              obtain ⟨arr, h7, hf4⟩ := zp hf4
              replace h7 := zn h7
              obtain ⟨cell1, h8, hf4⟩ := zp hf4
              obtain ⟨arr1, h9, hf4⟩ := zp hf4
              replace h9 := zn h9
              refine z43 (by kernel_rfl) (x := (sub [1,1,0,0,1,1,2,0,1,1,0,1,0,1,1,1,1,0,0,1,1,2,0,1,1,1,0,1,0,1,1,0] zA)) (y := (sub [1,1,0,0,1,1,2,0,1,1,0,1,0,1,1,1,1,0,0,1,1,2,0,1,1,1,0,1,0,1,1,1] zA)) 12 (fun st1 => Own.canon [0,1,2,3,4,5,6,9,10,12,15,16,22,48,49,51,52,53,54,58,59,68,76,78,79,83,85,86] st1 = ofL [(0, .own (.opq (YY sg6).q)), (1, .d (.sptr (xi x0))), (2, .d (.sptr (yS x1))), (3, .own (.box (.atom yv))), (4, .own (.box (I x16))), (5, .own (.box (I x23))), (6, .own (.box (vq x24))), (9, .own (.box (I x59))), (10, .d (I x69)), (12, .own (.box (.agg [F0_ arr1, z8k x1.queues_]))), (15, .d (I ((x0.Parts.length : Nat) : Int))), (16, .d (I x16)), (22, .d (.fn 79 [.sptr (.agg [I r_.1.Messages, I r_.1.Labels, eSl 1 false (eI .i64) r_.1.Channels, eSl 3 false wN r_.1.Parts]), .sptr (I r_.2.1), .sptr (.agg [.agg [I r_.2.2.states_.e0, I r_.2.2.states_.e1, I r_.2.2.states_.e2, I r_.2.2.states_.e3], .agg [.agg [I r_.2.2.queues_.e0.many_, .agg [I r_.2.2.queues_.e0.l_.e0, I r_.2.2.queues_.e0.l_.e1, I r_.2.2.queues_.e0.l_.e2, I r_.2.2.queues_.e0.l_.e3]], .agg [I r_.2.2.queues_.e1.many_, .agg [I r_.2.2.queues_.e1.l_.e0, I r_.2.2.queues_.e1.l_.e1, I r_.2.2.queues_.e1.l_.e2, I r_.2.2.queues_.e1.l_.e3]], .agg [I r_.2.2.queues_.e2.many_, .agg [I r_.2.2.queues_.e2.l_.e0, I r_.2.2.queues_.e2.l_.e1, I r_.2.2.queues_.e2.l_.e2, I r_.2.2.queues_.e2.l_.e3]], .agg [I r_.2.2.queues_.e3.many_, .agg [I r_.2.2.queues_.e3.l_.e0, I r_.2.2.queues_.e3.l_.e1, I r_.2.2.queues_.e3.l_.e2, I r_.2.2.queues_.e3.l_.e3]]]])])), (48, .d (.sptr (eSl 1 false (eI .i64) x0.Channels))), (49, .d (eSl 1 false (eI .i64) x0.Channels)), (51, .d (I x24.Channel)), (52, .d (.sptr (I Channel_e))), (53, .d (I Channel_e)), (54, .d (B (decide (Channel_e > 0)))), (58, .d (I ((x0.Parts.length : Nat) : Int))), (59, .d (I x59)), (68, .d (.fn 79 [.sptr (.agg [I r_3.1.Messages, I r_3.1.Labels, eSl 1 false (eI .i64) r_3.1.Channels, eSl 3 false wN r_3.1.Parts]), .sptr (I r_3.2.1), .sptr (.agg [.agg [I r_3.2.2.states_.e0, I r_3.2.2.states_.e1, I r_3.2.2.states_.e2, I r_3.2.2.states_.e3], .agg [.agg [I r_3.2.2.queues_.e0.many_, .agg [I r_3.2.2.queues_.e0.l_.e0, I r_3.2.2.queues_.e0.l_.e1, I r_3.2.2.queues_.e0.l_.e2, I r_3.2.2.queues_.e0.l_.e3]], .agg [I r_3.2.2.queues_.e1.many_, .agg [I r_3.2.2.queues_.e1.l_.e0, I r_3.2.2.queues_.e1.l_.e1, I r_3.2.2.queues_.e1.l_.e2, I r_3.2.2.queues_.e1.l_.e3]], .agg [I r_3.2.2.queues_.e2.many_, .agg [I r_3.2.2.queues_.e2.l_.e0, I r_3.2.2.queues_.e2.l_.e1, I r_3.2.2.queues_.e2.l_.e2, I r_3.2.2.queues_.e2.l_.e3]], .agg [I r_3.2.2.queues_.e3.many_, .agg [I r_3.2.2.queues_.e3.l_.e0, I r_3.2.2.queues_.e3.l_.e1, I r_3.2.2.queues_.e3.l_.e2, I r_3.2.2.queues_.e3.l_.e3]]]])])), (76, .d (I x70.Channel)), (78, .d (I x24.Channel)), (79, .d (B (x70.Channel != x24.Channel))), (83, .d (I x70.Message)), (85, .d (I x24.Message)), (86, .d (B (x70.Message != x24.Message)))]) ⟨_, rfl⟩ (fun b12 => yF ((xIa zY 98 12 0 b12).or ((xFa zY 97 12 0 b12).or ((xIa zY 96 12 0 b12).or ((xFa zY 95 12 0 b12).or X0)))) hC .normal [(0, .own (.opq (YY sg6).q)), (1, .d (.sptr (xi x0))), (2, .d (.sptr (yS x1))), (3, .own (.box (.atom yv))), (4, .own (.box (I x16))), (5, .own (.box (I x23))), (6, .own (.box (vq x24))), (9, .own (.box (I x59))), (10, .d (I x69)), (12, .own (.box (.agg [F0_ arr1, z8k x1.queues_]))), (15, .d (I ((x0.Parts.length : Nat) : Int))), (16, .d (I x16)), (22, .d (.fn 79 [.sptr (.agg [I r_.1.Messages, I r_.1.Labels, eSl 1 false (eI .i64) r_.1.Channels, eSl 3 false wN r_.1.Parts]), .sptr (I r_.2.1), .sptr (.agg [.agg [I r_.2.2.states_.e0, I r_.2.2.states_.e1, I r_.2.2.states_.e2, I r_.2.2.states_.e3], .agg [.agg [I r_.2.2.queues_.e0.many_, .agg [I r_.2.2.queues_.e0.l_.e0, I r_.2.2.queues_.e0.l_.e1, I r_.2.2.queues_.e0.l_.e2, I r_.2.2.queues_.e0.l_.e3]], .agg [I r_.2.2.queues_.e1.many_, .agg [I r_.2.2.queues_.e1.l_.e0, I r_.2.2.queues_.e1.l_.e1, I r_.2.2.queues_.e1.l_.e2, I r_.2.2.queues_.e1.l_.e3]], .agg [I r_.2.2.queues_.e2.many_, .agg [I r_.2.2.queues_.e2.l_.e0, I r_.2.2.queues_.e2.l_.e1, I r_.2.2.queues_.e2.l_.e2, I r_.2.2.queues_.e2.l_.e3]], .agg [I r_.2.2.queues_.e3.many_, .agg [I r_.2.2.queues_.e3.l_.e0, I r_.2.2.queues_.e3.l_.e1, I r_.2.2.queues_.e3.l_.e2, I r_.2.2.queues_.e3.l_.e3]]]])])), (48, .d (.sptr (eSl 1 false (eI .i64) x0.Channels))), (49, .d (eSl 1 false (eI .i64) x0.Channels)), (51, .d (I x24.Channel)), (52, .d (.sptr (I Channel_e))), (53, .d (I Channel_e)), (54, .d (B (decide (Channel_e > 0)))), (58, .d (I ((x0.Parts.length : Nat) : Int))), (59, .d (I x59)), (68, .d (.fn 79 [.sptr (.agg [I r_3.1.Messages, I r_3.1.Labels, eSl 1 false (eI .i64) r_3.1.Channels, eSl 3 false wN r_3.1.Parts]), .sptr (I r_3.2.1), .sptr (.agg [.agg [I r_3.2.2.states_.e0, I r_3.2.2.states_.e1, I r_3.2.2.states_.e2, I r_3.2.2.states_.e3], .agg [.agg [I r_3.2.2.queues_.e0.many_, .agg [I r_3.2.2.queues_.e0.l_.e0, I r_3.2.2.queues_.e0.l_.e1, I r_3.2.2.queues_.e0.l_.e2, I r_3.2.2.queues_.e0.l_.e3]], .agg [I r_3.2.2.queues_.e1.many_, .agg [I r_3.2.2.queues_.e1.l_.e0, I r_3.2.2.queues_.e1.l_.e1, I r_3.2.2.queues_.e1.l_.e2, I r_3.2.2.queues_.e1.l_.e3]], .agg [I r_3.2.2.queues_.e2.many_, .agg [I r_3.2.2.queues_.e2.l_.e0, I r_3.2.2.queues_.e2.l_.e1, I r_3.2.2.queues_.e2.l_.e2, I r_3.2.2.queues_.e2.l_.e3]], .agg [I r_3.2.2.queues_.e3.many_, .agg [I r_3.2.2.queues_.e3.l_.e0, I r_3.2.2.queues_.e3.l_.e1, I r_3.2.2.queues_.e3.l_.e2, I r_3.2.2.queues_.e3.l_.e3]]]])])), (76, .d (I x70.Channel)), (78, .d (I x24.Channel)), (79, .d (B (x70.Channel != x24.Channel))), (83, .d (I x70.Message)), (85, .d (I x24.Message)), (86, .d (B (x70.Message != x24.Message)))] [Hn (rfl : some (z0a b12) = some (z0a b12)), Hn (⟨rfl, rfl⟩ : T.d (.atom (.pointer (some ⟨b12,0, none⟩))) = T.d (.atom (.pointer (some ⟨b12,0, none⟩))) ∧ some (z0a b12) = some (z0a b12)), Hn (⟨arJ (by kernel_rfl) (i0 h6), (iL (eI .i64) h6).2⟩ : Yb xO 85 ((y5.toL x1.states_).map (eI .i64)) x16 = true ∧ x16.toNat < ((y5.toL x1.states_).map (eI .i64)).length), Hh (.op 8), Hh (.f), Hx (.a (.agg [I x1.states_.e0, I x1.states_.e1, I x1.states_.e2, I x1.states_.e3])) (rfl : some (.agg [I x1.states_.e0, I x1.states_.e1, I x1.states_.e2, I x1.states_.e3] : A) = some (.agg [I x1.states_.e0, I x1.states_.e1, I x1.states_.e2, I x1.states_.e3])), Hh (.f), Hs (iM (eI .i64) h6), Hh (.f), Hx (.a (.agg [I x1.states_.e0, I x1.states_.e1, I x1.states_.e2, I x1.states_.e3])) (rfl : some (.agg [I x1.states_.e0, I x1.states_.e1, I x1.states_.e2, I x1.states_.e3] : A) = some (.agg [I x1.states_.e0, I x1.states_.e1, I x1.states_.e2, I x1.states_.e3])), Hh (.f), Hs (iM (eI .i64) h6), Hx (.l ((y5.toL arr).map (eI .i64))) ((y5.setL (eI .i64) x1.states_ x16 x24.To).trans (congrArg (fun q => (y5.toL q).map (eI .i64)) h7)), Hx (.l [.agg [I arr.e0, I arr.e1, I arr.e2, I arr.e3], .agg [.agg [I x1.queues_.e0.many_, .agg [I x1.queues_.e0.l_.e0, I x1.queues_.e0.l_.e1, I x1.queues_.e0.l_.e2, I x1.queues_.e0.l_.e3]], .agg [I x1.queues_.e1.many_, .agg [I x1.queues_.e1.l_.e0, I x1.queues_.e1.l_.e1, I x1.queues_.e1.l_.e2, I x1.queues_.e1.l_.e3]], .agg [I x1.queues_.e2.many_, .agg [I x1.queues_.e2.l_.e0, I x1.queues_.e2.l_.e1, I x1.queues_.e2.l_.e2, I x1.queues_.e2.l_.e3]], .agg [I x1.queues_.e3.many_, .agg [I x1.queues_.e3.l_.e0, I x1.queues_.e3.l_.e1, I x1.queues_.e3.l_.e2, I x1.queues_.e3.l_.e3]]]]) (rfl : ([.agg [I arr.e0, I arr.e1, I arr.e2, I arr.e3], .agg [.agg [I x1.queues_.e0.many_, .agg [I x1.queues_.e0.l_.e0, I x1.queues_.e0.l_.e1, I x1.queues_.e0.l_.e2, I x1.queues_.e0.l_.e3]], .agg [I x1.queues_.e1.many_, .agg [I x1.queues_.e1.l_.e0, I x1.queues_.e1.l_.e1, I x1.queues_.e1.l_.e2, I x1.queues_.e1.l_.e3]], .agg [I x1.queues_.e2.many_, .agg [I x1.queues_.e2.l_.e0, I x1.queues_.e2.l_.e1, I x1.queues_.e2.l_.e2, I x1.queues_.e2.l_.e3]], .agg [I x1.queues_.e3.many_, .agg [I x1.queues_.e3.l_.e0, I x1.queues_.e3.l_.e1, I x1.queues_.e3.l_.e2, I x1.queues_.e3.l_.e3]]]] : List A) = [.agg [I arr.e0, I arr.e1, I arr.e2, I arr.e3], .agg [.agg [I x1.queues_.e0.many_, .agg [I x1.queues_.e0.l_.e0, I x1.queues_.e0.l_.e1, I x1.queues_.e0.l_.e2, I x1.queues_.e0.l_.e3]], .agg [I x1.queues_.e1.many_, .agg [I x1.queues_.e1.l_.e0, I x1.queues_.e1.l_.e1, I x1.queues_.e1.l_.e2, I x1.queues_.e1.l_.e3]], .agg [I x1.queues_.e2.many_, .agg [I x1.queues_.e2.l_.e0, I x1.queues_.e2.l_.e1, I x1.queues_.e2.l_.e2, I x1.queues_.e2.l_.e3]], .agg [I x1.queues_.e3.many_, .agg [I x1.queues_.e3.l_.e0, I x1.queues_.e3.l_.e1, I x1.queues_.e3.l_.e2, I x1.queues_.e3.l_.e3]]]]), Hn (rfl : some (z0a b12) = some (z0a b12)), Hn (⟨rfl, rfl⟩ : T.d (.atom (.pointer (some ⟨b12,0, none⟩))) = T.d (.atom (.pointer (some ⟨b12,0, none⟩))) ∧ some (z0a b12) = some (z0a b12)), Hn (⟨arJ (by kernel_rfl) (i0 h8), (iL (eI .i64) h8).2⟩ : Yb xO 85 ((y5.toL arr).map (eI .i64)) x59 = true ∧ x59.toNat < ((y5.toL arr).map (eI .i64)).length), Hh (.op 2), Hh (.f), Hx (.a (.agg [I arr.e0, I arr.e1, I arr.e2, I arr.e3])) (rfl : some (.agg [I arr.e0, I arr.e1, I arr.e2, I arr.e3] : A) = some (.agg [I arr.e0, I arr.e1, I arr.e2, I arr.e3])), Hh (.f), Hs (iM (eI .i64) h8), Hh (.f), Hx (.a (.agg [I arr.e0, I arr.e1, I arr.e2, I arr.e3])) (rfl : some (.agg [I arr.e0, I arr.e1, I arr.e2, I arr.e3] : A) = some (.agg [I arr.e0, I arr.e1, I arr.e2, I arr.e3])), Hh (.f), Hs (iM (eI .i64) h8), Hx (.l ((y5.toL arr1).map (eI .i64))) ((y5.setL (eI .i64) arr x59 x70.To).trans (congrArg (fun q => (y5.toL q).map (eI .i64)) h9)), Hx (.l [.agg [I arr1.e0, I arr1.e1, I arr1.e2, I arr1.e3], .agg [.agg [I x1.queues_.e0.many_, .agg [I x1.queues_.e0.l_.e0, I x1.queues_.e0.l_.e1, I x1.queues_.e0.l_.e2, I x1.queues_.e0.l_.e3]], .agg [I x1.queues_.e1.many_, .agg [I x1.queues_.e1.l_.e0, I x1.queues_.e1.l_.e1, I x1.queues_.e1.l_.e2, I x1.queues_.e1.l_.e3]], .agg [I x1.queues_.e2.many_, .agg [I x1.queues_.e2.l_.e0, I x1.queues_.e2.l_.e1, I x1.queues_.e2.l_.e2, I x1.queues_.e2.l_.e3]], .agg [I x1.queues_.e3.many_, .agg [I x1.queues_.e3.l_.e0, I x1.queues_.e3.l_.e1, I x1.queues_.e3.l_.e2, I x1.queues_.e3.l_.e3]]]]) (rfl : ([.agg [I arr1.e0, I arr1.e1, I arr1.e2, I arr1.e3], .agg [.agg [I x1.queues_.e0.many_, .agg [I x1.queues_.e0.l_.e0, I x1.queues_.e0.l_.e1, I x1.queues_.e0.l_.e2, I x1.queues_.e0.l_.e3]], .agg [I x1.queues_.e1.many_, .agg [I x1.queues_.e1.l_.e0, I x1.queues_.e1.l_.e1, I x1.queues_.e1.l_.e2, I x1.queues_.e1.l_.e3]], .agg [I x1.queues_.e2.many_, .agg [I x1.queues_.e2.l_.e0, I x1.queues_.e2.l_.e1, I x1.queues_.e2.l_.e2, I x1.queues_.e2.l_.e3]], .agg [I x1.queues_.e3.many_, .agg [I x1.queues_.e3.l_.e0, I x1.queues_.e3.l_.e1, I x1.queues_.e3.l_.e2, I x1.queues_.e3.l_.e3]]]] : List A) = [.agg [I arr1.e0, I arr1.e1, I arr1.e2, I arr1.e3], .agg [.agg [I x1.queues_.e0.many_, .agg [I x1.queues_.e0.l_.e0, I x1.queues_.e0.l_.e1, I x1.queues_.e0.l_.e2, I x1.queues_.e0.l_.e3]], .agg [I x1.queues_.e1.many_, .agg [I x1.queues_.e1.l_.e0, I x1.queues_.e1.l_.e1, I x1.queues_.e1.l_.e2, I x1.queues_.e1.l_.e3]], .agg [I x1.queues_.e2.many_, .agg [I x1.queues_.e2.l_.e0, I x1.queues_.e2.l_.e1, I x1.queues_.e2.l_.e2, I x1.queues_.e2.l_.e3]], .agg [I x1.queues_.e3.many_, .agg [I x1.queues_.e3.l_.e0, I x1.queues_.e3.l_.e1, I x1.queues_.e3.l_.e2, I x1.queues_.e3.l_.e3]]]])] fun st0 h0 => ⟨rfl, h0⟩) fun st1 h1 => z1r h1 ?_
              obtain ⟨yr1, h10, hf4⟩ := zp hf4
              let Z5 : List HO := [Hn (⟨rfl, rfl, _, rfl⟩ : T.own (.box (.atom yv)) = T.own (.box (.atom yv)) ∧ some yv = some yv ∧ ∃ x, T.own (.opq (YY sg6).q) = T.own x), Hn (z0Y (yv := yv) (Y := YY) (enc := (fun (x : zc × za) (_ : Bool) (_ : Value) => [ve x.1, yS x.2])) (s := sg6) (x := ((zc.mk x16 x23 x59 x69), (za.mk arr1 x1.queues_))) (s' := yr1.1) (b := yr1.2) (v := .nilFunc) [ve (zc.mk x16 x23 x59 x69), yS (za.mk arr1 x1.queues_)] (show JO [ve (zc.mk x16 x23 x59 x69), yS (za.mk arr1 x1.queues_)] [ve (zc.mk x16 x23 x59 x69), yS (za.mk arr1 x1.queues_)] from inferInstance))]
              rcases yb hf4 with ⟨c10, hf4⟩ | ⟨c10, hf4⟩
              ·obtain rfl := zn hf4
               exact yF ((Jm (P := Tryd.prog) xO hy 106 (s := sg6) (x := ((zc.mk x16 x23 x59 x69), (za.mk arr1 x1.queues_))) (s' := yr1.1) (b := yr1.2) .nilFunc h10).or ((xLy zY 99 3 0 yv).or X0)) hC .ret (y8 x0 x1 yv YY x16 r_ x23 x24 Channel_e x59 r_3 yr1.1) (Z5 ++ [Hq c10]) fun st0 h0 => ⟨rfl, _, h0, LeL.refl _⟩
              ·obtain rfl := zn hf4
               exact yF ((Jm (P := Tryd.prog) xO hy 106 (s := sg6) (x := ((zc.mk x16 x23 x59 x69), (za.mk arr1 x1.queues_))) (s' := yr1.1) (b := yr1.2) .nilFunc h10).or ((xLy zY 99 3 0 yv).or X0)) hC .normal (y8 x0 x1 yv YY x16 r_ x23 x24 Channel_e x59 r_3 yr1.1) (Z5 ++ [Hq c10]) fun st0 h0 => ⟨rfl, _, h0, LeL.refl _⟩
          ·rcases t6 with sg6 | sg6
           ·dsimp only at hf3
            exact WX (by kernel_rfl) (hJ5 _ [(0, .own (.opq (YY sg6).q)), (1, .d (.sptr (xi x0))), (2, .d (.sptr (yS x1))), (3, .own (.box (.atom yv))), (4, .own (.box (I x16))), (5, .own (.box (I x23))), (6, .own (.box (vq x24))), (15, .d (I ((x0.Parts.length : Nat) : Int))), (16, .d (I x16)), (22, .d (.fn 79 [.sptr (.agg [I r_.1.Messages, I r_.1.Labels, eSl 1 false (eI .i64) r_.1.Channels, eSl 3 false wN r_.1.Parts]), .sptr (I r_.2.1), .sptr (.agg [.agg [I r_.2.2.states_.e0, I r_.2.2.states_.e1, I r_.2.2.states_.e2, I r_.2.2.states_.e3], .agg [.agg [I r_.2.2.queues_.e0.many_, .agg [I r_.2.2.queues_.e0.l_.e0, I r_.2.2.queues_.e0.l_.e1, I r_.2.2.queues_.e0.l_.e2, I r_.2.2.queues_.e0.l_.e3]], .agg [I r_.2.2.queues_.e1.many_, .agg [I r_.2.2.queues_.e1.l_.e0, I r_.2.2.queues_.e1.l_.e1, I r_.2.2.queues_.e1.l_.e2, I r_.2.2.queues_.e1.l_.e3]], .agg [I r_.2.2.queues_.e2.many_, .agg [I r_.2.2.queues_.e2.l_.e0, I r_.2.2.queues_.e2.l_.e1, I r_.2.2.queues_.e2.l_.e2, I r_.2.2.queues_.e2.l_.e3]], .agg [I r_.2.2.queues_.e3.many_, .agg [I r_.2.2.queues_.e3.l_.e0, I r_.2.2.queues_.e3.l_.e1, I r_.2.2.queues_.e3.l_.e2, I r_.2.2.queues_.e3.l_.e3]]]])])), (48, .d (.sptr (eSl 1 false (eI .i64) x0.Channels))), (49, .d (eSl 1 false (eI .i64) x0.Channels)), (51, .d (I x24.Channel)), (52, .d (.sptr (I Channel_e))), (53, .d (I Channel_e)), (54, .d (B (decide (Channel_e > 0)))), (58, .d (I ((x0.Parts.length : Nat) : Int))), (59, .d (I x59))] sg6 hf3 (show Own.canon [0,1,2,3,4,5,6,15,16,22,48,49,51,52,53,54,58,59] _ = ofL _ by kernel_rfl) inferInstance)
           ·dsimp only at hf3
            show AWP _ _ (Code.ret) _ _
            obtain rfl := zn hf3
            obtain rfl := hl3
            obtain rfl := zn hf2
            exact yF X0 hC .ret (zZ x0 x1 yv YY x16 r_ sg6) [] fun st0 h0 => ⟨rfl, _, h0, LeL.refl _⟩
       ·obtain rfl := zn hf3
        obtain rfl := hl3
        obtain rfl := zn hf2
        exact yF X0 hC .normal (zZ x0 x1 yv YY x16 r_ sg4) [Hq c5] fun st0 h0 => ⟨rfl, _, h0, LeL.refl _⟩
   ·rcases t3 with sg3 | sg3
    ·dsimp only at hf1
     exact WX (by kernel_rfl) (hJ2 _ [(0, .own (.opq (YY sg3).q)), (1, .d (.sptr (xi x0))), (2, .d (.sptr (yS x1))), (3, .own (.box (.atom yv))), (15, .d (I ((x0.Parts.length : Nat) : Int))), (16, .d (I x16))] sg3 hf1 (show Own.canon [0,1,2,3,15,16] _ = ofL _ by kernel_rfl) inferInstance)
    ·dsimp only at hf1
     show AWP _ _ (Code.ret) _ _
     obtain rfl := zn hf1
     obtain rfl := hl1
     obtain rfl := zn hf0
     exact yF X0 hC .ret [(0, .own (.opq (YY sg3).q))] [] fun st0 h0 => hE _ st0 (.inr rfl) h0
 ·obtain rfl := zn hf1
  obtain rfl := hl1
  obtain rfl := zn hf0
  exact yF X0 hC .normal [(0, .own (.opq (YY sg1).q))] [Hq c0] fun st0 h0 => hE _ st0 (.inl rfl) h0
def uE : Code := (Tryd.f45.body).getD .skip
def yW : x5 := spF (α := List z6) (ρ := List z6) 45 (fun x => [X8 x]) (fun r => wo r) (fun x => y7 x) [] (Us)
theorem uM {ctr : Ctr} (hC : zW Tryd.prog ctr) : yW.Ok Tryd.prog := by
 refine yd ?_
 rintro s_ r0 hf0
 try unfold y7 at hf0
 refine yO true [(2, none)] uE 9 Tryd.func45 fun E hE => ?_
 obtain ⟨g0, hf0⟩ := gdE hf0
 obtain rfl := zn hf0
 exact yE X0 hC hE [Ha (lnM uR s_), Ha (lnM uR s_), Hn (slB g0), Hn (slC g0), Hn (z2l uR g0), Ha (z8m 5 uR s_ 0 ((s_.length : Nat) : Int).toNat)]
def vH : Code := (Tryd.f46.body).getD .skip
def zM : x5 := spR (α := List (List z6)) (ρ := List (List z6)) 46 (fun x => [(eOs 1 false wo) x]) (fun r => (eOs 1 true wo) r) (fun x => yf x) [true] (Us)
theorem vC : ∀ x r, (fun x => yf x) x = some r → (QN.add zM).run 46 ((QN.add zM).norm 46 ((fun x => [(eOs 1 false wo) x]) x)) = some ((fun r => (eOs 1 true wo) r) r) := fun x r h => zeH h rfl
theorem vD : (QN.add zM).lend 46 = none ∧ (QN.add zM).gives 46 = [true] := zbM
theorem vK {ctr : Ctr} (hC : zW Tryd.prog ctr) : zM.Ok Tryd.prog := by
 refine z8V ?_
 rintro s_ r0 hf0
 try unfold yf at hf0
 refine yO true [(2, none)] vH 9 Tryd.func46 fun E hE => ?_
 obtain rfl := zn hf0
 exact yE ((xCl zY 8).or X0) hC hE [Ha (lnM wo s_), Ha (lnM wo s_), Hn (Int.natCast_nonneg _ : (0 : Int) ≤ ((s_.length : Nat) : Int)), Hn (Int.natCast_nonneg _ : (0 : Int) ≤ ((s_.length : Nat) : Int)), Hn (clB wo s_), Ha (clE 1 wo s_)]
def y3 : Code := (Tryd.f20.body).getD .skip
def xR : x5 := spF (α := z8) (ρ := List za × List (List z6) × Int) 20 (fun x => [xi x]) (fun r => .tup [(eSl 24 false yS) r.1, Kz r.2.1, (eI .i64) r.2.2]) (fun x => yg x) [] (Us)
abbrev ZB (x4 : Int) (list : List za) (steps : List (List z6)) : List (Nat × T) := [(2, .own (.box (eOs 24 true yS []))), (3, .own (.box (eOs 1 true X8 []))), (4, .own (.box (I x4))), (5, .own (.box (eOs 24 false yS list))), (7, .own (eOs 1 false wo steps))]
abbrev ZA (x_ : z8) (i_ : Int) (x42 : Int) (list2 : List za) (at_1 : List (za × Int)) (steps2 : List (List z6)) : List (Nat × T) := [(1, .own (.box (xi x_))), (2, .own (.box (eOs 24 true yS []))), (3, .own (.box (eOs 1 true X8 []))), (4, .own (.box (I x42))), (5, .own (.box (eOs 24 false yS list2))), (6, .own (.box (.opq (Yr (ZX yS (eI .i64) at_1))))), (7, .own (eOs 1 false wo steps2)), (8, .d (I i_))]
abbrev Zz (x_ : z8) (steps1 : List (List z6)) (i_ : Int) (x43 : Int) (list3 : List za) (at_2 : List (za × Int)) (l_ : List z6) : List (Nat × T) := [(1, .own (.box (xi x_))), (2, .own (.box (eOs 24 true yS []))), (3, .own (.box (eOs 1 true X8 []))), (4, .own (.box (I x43))), (5, .own (.box (eOs 24 false yS list3))), (6, .own (.box (.opq (Yr (ZX yS (eI .i64) at_2))))), (7, .own (eOs 1 false wo steps1)), (8, .d (I i_)), (9, .own (.box (eOs 5 false uR l_)))]
abbrev xX (x_ : z8) (steps1 : List (List z6)) (i_ : Int) (r_2 : z8 × za) (x44 : Int) (list4 : List za) (at_3 : List (za × Int)) (l_1 : List z6) : List (Nat × T) := [(1, .own (.box (xi x_))), (2, .own (.box (eOs 24 true yS []))), (3, .own (.box (eOs 1 true X8 []))), (4, .own (.box (I x44))), (5, .own (.box (eOs 24 false yS list4))), (6, .own (.box (.opq (Yr (ZX yS (eI .i64) at_3))))), (7, .own (eOs 1 false wo steps1)), (8, .d (I i_)), (9, .own (.box (eOs 5 false uR l_1))), (30, .d (.fn 63 [.sptr (.agg [I r_2.1.Messages, I r_2.1.Labels, eSl 1 false (eI .i64) r_2.1.Channels, eSl 3 false wN r_2.1.Parts]), .sptr (.agg [.agg [I r_2.2.states_.e0, I r_2.2.states_.e1, I r_2.2.states_.e2, I r_2.2.states_.e3], .agg [.agg [I r_2.2.queues_.e0.many_, .agg [I r_2.2.queues_.e0.l_.e0, I r_2.2.queues_.e0.l_.e1, I r_2.2.queues_.e0.l_.e2, I r_2.2.queues_.e0.l_.e3]], .agg [I r_2.2.queues_.e1.many_, .agg [I r_2.2.queues_.e1.l_.e0, I r_2.2.queues_.e1.l_.e1, I r_2.2.queues_.e1.l_.e2, I r_2.2.queues_.e1.l_.e3]], .agg [I r_2.2.queues_.e2.many_, .agg [I r_2.2.queues_.e2.l_.e0, I r_2.2.queues_.e2.l_.e1, I r_2.2.queues_.e2.l_.e2, I r_2.2.queues_.e2.l_.e3]], .agg [I r_2.2.queues_.e3.many_, .agg [I r_2.2.queues_.e3.l_.e0, I r_2.2.queues_.e3.l_.e1, I r_2.2.queues_.e3.l_.e2, I r_2.2.queues_.e3.l_.e3]]]])]))]
abbrev Zy (x_ : z8) (steps1 : List (List z6)) (i_ : Int) (r_2 : z8 × za) (x44 : Int) (l_1 : List z6) (x31 : zc) (list5 : List za) (at_4 : List (za × Int)) (n_ : Int) : List (Nat × T) := [(1, .own (.box (xi x_))), (2, .own (.box (eOs 24 true yS []))), (3, .own (.box (eOs 1 true X8 []))), (4, .own (.box (I x44))), (5, .own (.box (eOs 24 false yS list5))), (6, .own (.box (.opq (Yr (ZX yS (eI .i64) at_4))))), (7, .own (eOs 1 false wo steps1)), (8, .d (I i_)), (9, .own (.box (eOs 5 false uR l_1))), (10, .own (.box (ve x31))), (12, .d (I n_)), (30, .d (.fn 63 [.sptr (.agg [I r_2.1.Messages, I r_2.1.Labels, eSl 1 false (eI .i64) r_2.1.Channels, eSl 3 false wN r_2.1.Parts]), .sptr (.agg [.agg [I r_2.2.states_.e0, I r_2.2.states_.e1, I r_2.2.states_.e2, I r_2.2.states_.e3], .agg [.agg [I r_2.2.queues_.e0.many_, .agg [I r_2.2.queues_.e0.l_.e0, I r_2.2.queues_.e0.l_.e1, I r_2.2.queues_.e0.l_.e2, I r_2.2.queues_.e0.l_.e3]], .agg [I r_2.2.queues_.e1.many_, .agg [I r_2.2.queues_.e1.l_.e0, I r_2.2.queues_.e1.l_.e1, I r_2.2.queues_.e1.l_.e2, I r_2.2.queues_.e1.l_.e3]], .agg [I r_2.2.queues_.e2.many_, .agg [I r_2.2.queues_.e2.l_.e0, I r_2.2.queues_.e2.l_.e1, I r_2.2.queues_.e2.l_.e2, I r_2.2.queues_.e2.l_.e3]], .agg [I r_2.2.queues_.e3.many_, .agg [I r_2.2.queues_.e3.l_.e0, I r_2.2.queues_.e3.l_.e1, I r_2.2.queues_.e3.l_.e2, I r_2.2.queues_.e3.l_.e3]]]])]))]
abbrev Zx (x_ : z8) (x41 : Int) (list1 : List za) (at_ : List (za × Int)) (steps1 : List (List z6)) (i_ : Int) : List (Nat × T) := [(1, .own (.box (xi x_))), (2, .own (.box (eOs 24 true yS []))), (3, .own (.box (eOs 1 true X8 []))), (4, .own (.box (I x41))), (5, .own (.box (eOs 24 false yS list1))), (6, .own (.box (.opq (Yr (ZX yS (eI .i64) at_))))), (7, .own (eOs 1 false wo steps1)), (8, .d (I i_))]
theorem YR {ctr : Ctr} (hC : zW Tryd.prog ctr) (h0M : ctr.Has vY) (h0c : ctr.Has wI) (h0i : ctr.Has wH) (h0j : ctr.Has ZG) (h0o : ctr.Has yW) : xR.Ok Tryd.prog := by
 refine yd ?_
 rintro x_ r0 hf0
 try unfold yg at hf0
 refine yO false [(2, some 82), (3, some 32), (4, some 36)] y3 66 Tryd.func20 fun E hE => ?_
 refine yJ ((zec z3j 16 (ZX yS (eI .i64) ([] : List (za × Int))) (ZX yS (eI .i64) (QX ([] : List (za × Int)) (za.mk (y5.mk 0 0 0 0) (y5.mk (zi.mk 0 (y5.mk 0 0 0 0)) (zi.mk 0 (y5.mk 0 0 0 0)) (zi.mk 0 (y5.mk 0 0 0 0)) (zi.mk 0 (y5.mk 0 0 0 0)))) 0))).or ((zbc Tryd.prog 16).or X0)) hC y3 [1,1,1] [] [2,3,4,5,7] (fun z : Int × List za × List (List z6) => vS z.1 z.2.1 z.2.2 = some r0) (fun z => ZB z.1 z.2.1 z.2.2) [(1, .own (.box (xi x_))), (2, .own (.box (eOs 24 true yS []))), (3, .own (.box (eOs 1 true X8 []))), (4, .own (.box (I 0))), (5, .own (.box (eOs 24 true yS ([(za.mk (y5.mk 0 0 0 0) (y5.mk (zi.mk 0 (y5.mk 0 0 0 0)) (zi.mk 0 (y5.mk 0 0 0 0)) (zi.mk 0 (y5.mk 0 0 0 0)) (zi.mk 0 (y5.mk 0 0 0 0))))])))), (6, .own (.box (.opq (Yr (ZX yS (eI .i64) (QX ([] : List (za × Int)) (za.mk (y5.mk 0 0 0 0) (y5.mk (zi.mk 0 (y5.mk 0 0 0 0)) (zi.mk 0 (y5.mk 0 0 0 0)) (zi.mk 0 (y5.mk 0 0 0 0)) (zi.mk 0 (y5.mk 0 0 0 0)))) 0)))))), (7, .own (eOs 1 true X8 []))] [Hn (⟨rfl, rfl, rfl, rfl, z3P (fun _ => rfl) ([] : List (za × Int))⟩ : T.own (.opq (Yr (ZX yS (eI .i64) ([] : List (za × Int))))) = T.own (.opq (Yr (ZX yS (eI .i64) ([] : List (za × Int))))) ∧ 1 = 1 ∧ (Qx [.i64, .i64, .i64, .i64, .i64, .i64, .i64, .i64, .i64, .i64, .i64, .i64, .i64, .i64, .i64, .i64, .i64, .i64, .i64, .i64, .i64, .i64, .i64, .i64]) (yS (za.mk (y5.mk 0 0 0 0) (y5.mk (zi.mk 0 (y5.mk 0 0 0 0)) (zi.mk 0 (y5.mk 0 0 0 0)) (zi.mk 0 (y5.mk 0 0 0 0)) (zi.mk 0 (y5.mk 0 0 0 0))))) = true ∧ ((eI .i64) 0).isD = true ∧ ∀ p ∈ ZX yS (eI .i64) ([] : List (za × Int)), (Qx [.i64, .i64, .i64, .i64, .i64, .i64, .i64, .i64, .i64, .i64, .i64, .i64, .i64, .i64, .i64, .i64, .i64, .i64, .i64, .i64, .i64, .i64, .i64, .i64]) p.1 = true), Hn (z31 (f := yS) (g := (eI .i64)) (za.mk (y5.mk 0 0 0 0) (y5.mk (zi.mk 0 (y5.mk 0 0 0 0)) (zi.mk 0 (y5.mk 0 0 0 0)) (zi.mk 0 (y5.mk 0 0 0 0)) (zi.mk 0 (y5.mk 0 0 0 0)))) 0 ([] : List (za × Int))), Hh (.cut 3)] ?_ fun J1 hJ1 => ?_
 ·rintro ⟨x4, list, steps⟩ hf0
  unfold vS at hf0
  obtain ⟨r_, h0, hf0⟩ := zp hf0
  obtain rfl := zn hf0
  exact yE ((z0U zY (vK hC) 65).or X0) hC hE [Hh (.g [true]), Hn vD, Hx (.a ((eOs 1 true wo) r_)) (vC steps _ h0), Hm (shM yS yS list), Hm (shM wo wo r_)]
 ·obtain ⟨t2, ht2, hf0⟩ := zp hf0
  refine yLx X0 hC y3 [1,1,1,2,1,0] [J1] (fun s => xP x_ s.1 s.2.1 s.2.2.1 s.2.2.2.1 s.2.2.2.2) (fun x => Zx x_ x.1 x.2.1 x.2.2.1 x.2.2.2.1 x.2.2.2.2) (0, ([(za.mk (y5.mk 0 0 0 0) (y5.mk (zi.mk 0 (y5.mk 0 0 0 0)) (zi.mk 0 (y5.mk 0 0 0 0)) (zi.mk 0 (y5.mk 0 0 0 0)) (zi.mk 0 (y5.mk 0 0 0 0))))] : List za), (QX ([] : List (za × Int)) (za.mk (y5.mk 0 0 0 0) (y5.mk (zi.mk 0 (y5.mk 0 0 0 0)) (zi.mk 0 (y5.mk 0 0 0 0)) (zi.mk 0 (y5.mk 0 0 0 0)) (zi.mk 0 (y5.mk 0 0 0 0)))) 0), ([] : List (List z6)), 0) ht2 [(1, .own (.box (xi x_))), (2, .own (.box (eOs 24 true yS []))), (3, .own (.box (eOs 1 true X8 []))), (4, .own (.box (I 0))), (5, .own (.box (eOs 24 true yS ([(za.mk (y5.mk 0 0 0 0) (y5.mk (zi.mk 0 (y5.mk 0 0 0 0)) (zi.mk 0 (y5.mk 0 0 0 0)) (zi.mk 0 (y5.mk 0 0 0 0)) (zi.mk 0 (y5.mk 0 0 0 0))))])))), (6, .own (.box (.opq (Yr (ZX yS (eI .i64) (QX ([] : List (za × Int)) (za.mk (y5.mk 0 0 0 0) (y5.mk (zi.mk 0 (y5.mk 0 0 0 0)) (zi.mk 0 (y5.mk 0 0 0 0)) (zi.mk 0 (y5.mk 0 0 0 0)) (zi.mk 0 (y5.mk 0 0 0 0)))) 0)))))), (7, .own (eOs 1 true wo [])), (8, .d (I 0))] inferInstance [] ?_
  rintro ⟨x41, list1, at_, steps1, i_⟩ m2 lr1 hf1 hl1 J2 hJ2
  try unfold xP at hf1
  let Z0 : List HO := [Ha (lnM yS list1)]
  rcases yb hf1 with ⟨c0, hf1⟩ | ⟨c0, hf1⟩
  ·refine yJ X0 hC y3 [1,1,1,2,1,0,0,1] [J1, J2] [1,2,3,4,5,6,7,8] (fun z : Int × List za × (List (za × Int)) × List (List z6) => wy i_ z.1 z.2.1 z.2.2.1 z.2.2.2 = some lr1) (fun z => ZA x_ i_ z.1 z.2.1 z.2.2.1 z.2.2.2) [(1, .own (.box (xi x_))), (2, .own (.box (eOs 24 true yS []))), (3, .own (.box (eOs 1 true X8 []))), (4, .own (.box (I x41))), (5, .own (.box (eOs 24 false yS list1))), (6, .own (.box (.opq (Yr (ZX yS (eI .i64) at_))))), (7, .own (eOs 1 false wo steps1)), (8, .d (I i_))] (Z0 ++ [Hq c0, Hh (.cut 0)]) ?_ fun J3 hJ3 => ?_
   ·rintro ⟨x42, list2, at_1, steps2⟩ hf1
    unfold wy at hf1
    obtain rfl := zn hf1
    exact yB X0 hC hJ2 (x42, list2, at_1, steps2, w64 (i_ + 1)) hl1 []
   ·refine yJ X0 hC y3 [1,1,1,2,1,0,0,1,2,0,1] [J1, J2, J3] [1,2,3,4,5,6,7,8,9] (fun z : Int × List za × (List (za × Int)) × List z6 => xQ steps1 i_ z.1 z.2.1 z.2.2.1 z.2.2.2 = some lr1) (fun z => Zz x_ steps1 i_ z.1 z.2.1 z.2.2.1 z.2.2.2) [(1, .own (.box (xi x_))), (2, .own (.box (eOs 24 true yS []))), (3, .own (.box (eOs 1 true X8 []))), (4, .own (.box (I x41))), (5, .own (.box (eOs 24 false yS list1))), (6, .own (.box (.opq (Yr (ZX yS (eI .i64) at_))))), (7, .own (eOs 1 false wo steps1)), (8, .d (I i_)), (9, .own (.box (eOs 5 true uR [])))] [Hh (.cut 1)] ?_ fun J4 hJ4 => ?_
    ·rintro ⟨x43, list3, at_2, l_⟩ hf1
     unfold xQ at hf1
     obtain ⟨r_1, h1, hf1⟩ := zp hf1
     obtain ⟨g0, hf1⟩ := gdE hf1
     exact yB X0 hC hJ3 (x43, list3, at_2, (steps1 ++ ([r_1] : List (List z6)))) hf1 [Hg (z0Q h0o), Hm (shM uR uR l_), Hs (z0R h0o (x := l_) h1 (loC X8 l_ <| loN)), Hm (shM uR uR l_), Hq (dM wo ([r_1] : List (List z6))), Hn (dM wo ([r_1] : List (List z6))), Hn (aL wo wo g0), Hl (aM wo steps1 ([r_1] : List (List z6)))]
    ·obtain ⟨list_e, h2, hf1⟩ := zp hf1
     obtain ⟨r_2, h3, hf1⟩ := zp hf1
     obtain ⟨t5, ht5, hf1⟩ := zp hf1
     refine yAt X0 hC (sub [1,1,1,2,1,0,0,1,2,0,1,2,1,0] y3) (frs [1,1,1,2,1,0,0,1,2,0,1,2,1,0] [J1, J2, J3, J4] y3 []) [(1, .own (.box (xi x_))), (2, .own (.box (eOs 24 true yS []))), (3, .own (.box (eOs 1 true X8 []))), (4, .own (.box (I x41))), (5, .own (.box (eOs 24 false yS list1))), (6, .own (.box (.opq (Yr (ZX yS (eI .i64) at_))))), (7, .own (eOs 1 false wo steps1)), (8, .d (I i_)), (9, .own (.box (eOs 5 true uR []))), (30, .d (.fn 63 [.sptr (.agg [I r_2.1.Messages, I r_2.1.Labels, eSl 1 false (eI .i64) r_2.1.Channels, eSl 3 false wN r_2.1.Parts]), .sptr (.agg [.agg [I r_2.2.states_.e0, I r_2.2.states_.e1, I r_2.2.states_.e2, I r_2.2.states_.e3], .agg [.agg [I r_2.2.queues_.e0.many_, .agg [I r_2.2.queues_.e0.l_.e0, I r_2.2.queues_.e0.l_.e1, I r_2.2.queues_.e0.l_.e2, I r_2.2.queues_.e0.l_.e3]], .agg [I r_2.2.queues_.e1.many_, .agg [I r_2.2.queues_.e1.l_.e0, I r_2.2.queues_.e1.l_.e1, I r_2.2.queues_.e1.l_.e2, I r_2.2.queues_.e1.l_.e3]], .agg [I r_2.2.queues_.e2.many_, .agg [I r_2.2.queues_.e2.l_.e0, I r_2.2.queues_.e2.l_.e1, I r_2.2.queues_.e2.l_.e2, I r_2.2.queues_.e2.l_.e3]], .agg [I r_2.2.queues_.e3.many_, .agg [I r_2.2.queues_.e3.l_.e0, I r_2.2.queues_.e3.l_.e1, I r_2.2.queues_.e3.l_.e2, I r_2.2.queues_.e3.l_.e3]]]])]))] [Hn (iL yS h2), Hs (iM yS h2), Hc h0M (x := (x_, list_e)) h3 (loC xi x_ <| loC yS list_e <| loN)] fun st0 h0 => ?_
     refine z1s (g := .tmp 30) (ps := [31,32]) (assign := (sub [1,1,1,2,1,0,0,1,2,0,1,2,1,0,0] y3)) (body := (sub [1,1,1,2,1,0,0,1,2,0,1,2,1,0,1] y3)) (K := 63) (caps := [.sptr (.agg [I r_2.1.Messages, I r_2.1.Labels, eSl 1 false (eI .i64) r_2.1.Channels, eSl 3 false wN r_2.1.Parts]), .sptr (.agg [.agg [I r_2.2.states_.e0, I r_2.2.states_.e1, I r_2.2.states_.e2, I r_2.2.states_.e3], .agg [.agg [I r_2.2.queues_.e0.many_, .agg [I r_2.2.queues_.e0.l_.e0, I r_2.2.queues_.e0.l_.e1, I r_2.2.queues_.e0.l_.e2, I r_2.2.queues_.e0.l_.e3]], .agg [I r_2.2.queues_.e1.many_, .agg [I r_2.2.queues_.e1.l_.e0, I r_2.2.queues_.e1.l_.e1, I r_2.2.queues_.e1.l_.e2, I r_2.2.queues_.e1.l_.e3]], .agg [I r_2.2.queues_.e2.many_, .agg [I r_2.2.queues_.e2.l_.e0, I r_2.2.queues_.e2.l_.e1, I r_2.2.queues_.e2.l_.e2, I r_2.2.queues_.e2.l_.e3]], .agg [I r_2.2.queues_.e3.many_, .agg [I r_2.2.queues_.e3.l_.e0, I r_2.2.queues_.e3.l_.e1, I r_2.2.queues_.e3.l_.e2, I r_2.2.queues_.e3.l_.e3]]]])]) (by kernel_rfl) [1,2,3,4,5,6,7,8,9,30] (fun s => xX x_ steps1 i_ r_2 s.1 s.2.1 s.2.2.1 s.2.2.2) (fun s => xX x_ steps1 i_ r_2 s.1 s.2.1 s.2.2.1 s.2.2.2) (fun s => Code.ret) ((fun (x : zc × za) (_ : Bool) (_ : Value) => [ve x.1, yS x.2])) (F := @xr r_2.1 r_2.2) (fun s x => zK s.1 s.2.1 s.2.2.1 s.2.2.2 x.1 x.2) (x41, list1, at_, ([] : List z6)) t5 _ h0 inferInstance (by kernel_rfl) (by decide) (fun _ => rfl) (fun _ => rfl) (by kernel_rfl) (fun _ _ _ => rfl) (Y3 hC h0c h0i h0j r_2.1 r_2.2) ht5 ?_ ?_
     ·rintro tv5 ⟨x44, list4, at_3, l_1⟩ ⟨x31, x32⟩ vr lr2 hf2
      replace hf2 : zK x44 list4 at_3 l_1 x31 x32 = some lr2 := hf2
      unfold zK at hf2
      refine yF X0 hC .normal [(1, .own (.box (xi x_))), (2, .own (.box (eOs 24 true yS []))), (3, .own (.box (eOs 1 true X8 []))), (4, .own (.box (I x44))), (5, .own (.box (eOs 24 false yS list4))), (6, .own (.box (.opq (Yr (ZX yS (eI .i64) at_3))))), (7, .own (eOs 1 false wo steps1)), (8, .d (I i_)), (9, .own (.box (eOs 5 false uR l_1))), (10, .own (.box (ve x31))), (11, .own (.box (yS x32))), (30, .d (.fn 63 [.sptr (.agg [I r_2.1.Messages, I r_2.1.Labels, eSl 1 false (eI .i64) r_2.1.Channels, eSl 3 false wN r_2.1.Parts]), .sptr (.agg [.agg [I r_2.2.states_.e0, I r_2.2.states_.e1, I r_2.2.states_.e2, I r_2.2.states_.e3], .agg [.agg [I r_2.2.queues_.e0.many_, .agg [I r_2.2.queues_.e0.l_.e0, I r_2.2.queues_.e0.l_.e1, I r_2.2.queues_.e0.l_.e2, I r_2.2.queues_.e0.l_.e3]], .agg [I r_2.2.queues_.e1.many_, .agg [I r_2.2.queues_.e1.l_.e0, I r_2.2.queues_.e1.l_.e1, I r_2.2.queues_.e1.l_.e2, I r_2.2.queues_.e1.l_.e3]], .agg [I r_2.2.queues_.e2.many_, .agg [I r_2.2.queues_.e2.l_.e0, I r_2.2.queues_.e2.l_.e1, I r_2.2.queues_.e2.l_.e2, I r_2.2.queues_.e2.l_.e3]], .agg [I r_2.2.queues_.e3.many_, .agg [I r_2.2.queues_.e3.l_.e0, I r_2.2.queues_.e3.l_.e1, I r_2.2.queues_.e3.l_.e2, I r_2.2.queues_.e3.l_.e3]]]])]))] [] fun st0 h0 => ⟨rfl, z1r h0 ?_⟩
      obtain ⟨val, h4, hf2⟩ := zp hf2
      replace h4 := zn h4
      refine yJ ((zbd z3j 36 (ZX yS (eI .i64) at_3)).or X0) hC y3 [1,1,1,2,1,0,0,1,2,0,1,2,1,0,1,0,1] [J1, J2, J3, J4] [1,2,3,4,5,6,7,8,9,10,12,30] (fun z : List za × (List (za × Int)) × Int => xh x44 l_1 x31 z.1 z.2.1 z.2.2 = some lr2) (fun z => Zy x_ steps1 i_ r_2 x44 l_1 x31 z.1 z.2.1 z.2.2) [(1, .own (.box (xi x_))), (2, .own (.box (eOs 24 true yS []))), (3, .own (.box (eOs 1 true X8 []))), (4, .own (.box (I x44))), (5, .own (.box (eOs 24 false yS list4))), (6, .own (.box (.opq (Yr (ZX yS (eI .i64) at_3))))), (7, .own (eOs 1 false wo steps1)), (8, .d (I i_)), (9, .own (.box (eOs 5 false uR l_1))), (10, .own (.box (ve x31))), (11, .own (.box (yS x32))), (12, .d (I val)), (13, .d (B ((QY at_3 x32).isSome))), (30, .d (.fn 63 [.sptr (.agg [I r_2.1.Messages, I r_2.1.Labels, eSl 1 false (eI .i64) r_2.1.Channels, eSl 3 false wN r_2.1.Parts]), .sptr (.agg [.agg [I r_2.2.states_.e0, I r_2.2.states_.e1, I r_2.2.states_.e2, I r_2.2.states_.e3], .agg [.agg [I r_2.2.queues_.e0.many_, .agg [I r_2.2.queues_.e0.l_.e0, I r_2.2.queues_.e0.l_.e1, I r_2.2.queues_.e0.l_.e2, I r_2.2.queues_.e0.l_.e3]], .agg [I r_2.2.queues_.e1.many_, .agg [I r_2.2.queues_.e1.l_.e0, I r_2.2.queues_.e1.l_.e1, I r_2.2.queues_.e1.l_.e2, I r_2.2.queues_.e1.l_.e3]], .agg [I r_2.2.queues_.e2.many_, .agg [I r_2.2.queues_.e2.l_.e0, I r_2.2.queues_.e2.l_.e1, I r_2.2.queues_.e2.l_.e2, I r_2.2.queues_.e2.l_.e3]], .agg [I r_2.2.queues_.e3.many_, .agg [I r_2.2.queues_.e3.l_.e0, I r_2.2.queues_.e3.l_.e1, I r_2.2.queues_.e3.l_.e2, I r_2.2.queues_.e3.l_.e3]]]])]))] [Hn (⟨rfl, rfl, z3P (fun _ => rfl) at_3⟩ : A.opq (Yr (ZX yS (eI .i64) at_3)) = A.opq (Yr (ZX yS (eI .i64) at_3)) ∧ (Qx [.i64, .i64, .i64, .i64, .i64, .i64, .i64, .i64, .i64, .i64, .i64, .i64, .i64, .i64, .i64, .i64, .i64, .i64, .i64, .i64, .i64, .i64, .i64, .i64]) (yS x32) = true ∧ ∀ p ∈ ZX yS (eI .i64) at_3, (Qx [.i64, .i64, .i64, .i64, .i64, .i64, .i64, .i64, .i64, .i64, .i64, .i64, .i64, .i64, .i64, .i64, .i64, .i64, .i64, .i64, .i64, .i64, .i64, .i64]) p.1 = true), Hx (.a (.tup [I val, B ((QY at_3 x32).isSome)])) ((zeI (f := yS) (g := (eI .i64)) (z0 := 0) (z := .atom (.int .i64 0)) rfl x32 at_3).trans (congrArg (fun x => A.tup [(eI .i64) x, .atom (.bool (QY at_3 x32).isSome)]) h4)), Hh (.cut 0)] ?_ fun J6 hJ6 => ?_
      ·rintro ⟨list5, at_4, n_⟩ hf2
       unfold xh at hf2
       obtain ⟨g1, hf2⟩ := gdE hf2
       obtain rfl := zn hf2
       exact yF X0 hC .normal (xX x_ steps1 i_ r_2 x44 list5 at_4 (l_1 ++ ([(z6.mk x31 n_)] : List z6))) [Hq (dM uR ([(z6.mk x31 n_)] : List z6)), Hn (dM uR ([(z6.mk x31 n_)] : List z6)), Hn (aL uR uR g1), Hl (aM uR l_1 ([(z6.mk x31 n_)] : List z6))] fun st0 h0 => ⟨rfl, _, h0, LeL.refl _⟩
      ·rcases yb hf2 with ⟨c1, hf2⟩ | ⟨c1, hf2⟩
       ·let Z1 : List HO := [Hq c1, Ha (lnM yS list4)]
        rcases yb hf2 with ⟨c2, hf2⟩ | ⟨c2, hf2⟩
        ·obtain rfl := zn hf2
         exact yF X0 hC .ret (xX x_ steps1 i_ r_2 3 list4 at_3 l_1) (Z1 ++ [Hq c2]) fun st0 h0 => ⟨rfl, _, h0, LeL.refl _⟩
        ·obtain ⟨g2, hf2⟩ := gdE hf2
         exact yB ((zba z3j 45 (ZX yS (eI .i64) at_3) (ZX yS (eI .i64) (QX at_3 x32 ((list4.length : Nat) : Int)))).or X0) hC hJ6 ((list4 ++ ([x32] : List za)), (QX at_3 x32 ((list4.length : Nat) : Int)), ((list4.length : Nat) : Int)) hf2 (Z1 ++ [Hq c2, Hq (dM yS ([x32] : List za)), Hn (dM yS ([x32] : List za)), Hn (aL yS yS g2), Hl (aM yS list4 ([x32] : List za)), Hn (⟨rfl, ⟨rfl, rfl⟩, rfl, rfl, z3P (fun _ => rfl) at_3⟩ : T.own (.box (.opq (Yr (ZX yS (eI .i64) at_3)))) = T.own (.box (.opq (Yr (ZX yS (eI .i64) at_3)))) ∧ (0 = 0 ∧ 0 = 0) ∧ (Qx [.i64, .i64, .i64, .i64, .i64, .i64, .i64, .i64, .i64, .i64, .i64, .i64, .i64, .i64, .i64, .i64, .i64, .i64, .i64, .i64, .i64, .i64, .i64, .i64]) (yS x32) = true ∧ ((eI .i64) ((list4.length : Nat) : Int)).isD = true ∧ ∀ p ∈ ZX yS (eI .i64) at_3, (Qx [.i64, .i64, .i64, .i64, .i64, .i64, .i64, .i64, .i64, .i64, .i64, .i64, .i64, .i64, .i64, .i64, .i64, .i64, .i64, .i64, .i64, .i64, .i64, .i64]) p.1 = true), Hn (z31 (f := yS) (g := (eI .i64)) x32 ((list4.length : Nat) : Int) at_3)])
       ·exact yB X0 hC hJ6 (list4, at_3, val) hf2 [Hq c1]
     ·rcases t5 with ⟨x44, list4, at_3, l_1⟩ | z
      ·dsimp only at hf1
       exact WX (by kernel_rfl) (hJ4 _ [(1, .own (.box (xi x_))), (2, .own (.box (eOs 24 true yS []))), (3, .own (.box (eOs 1 true X8 []))), (4, .own (.box (I x44))), (5, .own (.box (eOs 24 false yS list4))), (6, .own (.box (.opq (Yr (ZX yS (eI .i64) at_3))))), (7, .own (eOs 1 false wo steps1)), (8, .d (I i_)), (9, .own (.box (eOs 5 false uR l_1)))] (x44, list4, at_3, l_1) hf1 (show Own.canon [1,2,3,4,5,6,7,8,9] _ = ofL _ by kernel_rfl) inferInstance)
      ·obtain ⟨x44, list4, at_3, l_1⟩ := z
       dsimp only at hf1
       show AWP _ _ (Code.ret) _ _
       obtain rfl := zn hf1
       obtain rfl := hl1
       obtain rfl := zn hf0
       exact yEx X0 hC hE [Hm (shM yS yS []), Hm (shM X8 X8 [])] (.tup [eSl 24 true yS [], eSl 1 true wo [], I x44]) (show LeV (.tup [eSl 24 true yS [], eSl 1 true wo [], I x44]) (.tup [eSl 24 false yS ([] : List za), eSl 1 true wo ([] : List (List z6)), I x44]) from inferInstance)
  ·obtain rfl := zn hf1
   obtain rfl := hl1
   exact yB X0 hC hJ1 (x41, list1, steps1) hf0 (Z0 ++ [Hq c0])
def YF : Code := (Tryd.f48.body).getD .skip
def u0 : x5 := spF (α := List Int) (ρ := List Int) 48 (fun x => [F2_ x]) (fun r => F3_ r) (fun x => xU x) [] (Us)
theorem YT {ctr : Ctr} (hC : zW Tryd.prog ctr) : u0.Ok Tryd.prog := by
 refine yd ?_
 rintro s_ r0 hf0
 try unfold xU at hf0
 refine yO true [(2, none)] YF 8 Tryd.func48 fun E hE => ?_
 refine z8e rfl 0 (sz := 1) (t := false) (es := s_.map (eI .i64)) (by kernel_rfl) fun pv0 hv0 hn => ?_
 rcases hn with ⟨hn0, he0⟩ | hn0
 ·obtain ⟨_, hf0⟩ := gdE hf0
  rw [show s_ = [] from List.map_eq_nil_iff.1 he0] at hf0
  obtain rfl := zn hf0
  exact yEx ((zcQ zY 4 26 (by kernel_rfl) hn0).or ((xMv Tryd.prog 3 0 pv0 hv0).or X0)) hC hE [Hn (rfl : some pv0 = some pv0), Hn (⟨rfl, rfl⟩ : T.d (.atom pv0) = T.d (.atom pv0) ∧ T.d (.atom (.slice none 0 0)) = T.d (.atom (.slice none 0 0))), qT] (eOs 1 true (eI .i64) []) (show LeV (eOs 1 true (eI .i64) []) (eOs 1 false (eI .i64) ([] : List Int)) from inferInstance)
 ·obtain ⟨g0, hf0⟩ := gdE hf0
  obtain rfl := zn hf0
  exact yE ((zcQ zY 4 26 (by kernel_rfl) hn0).or ((xMv Tryd.prog 3 0 pv0 hv0).or X0)) hC hE [Hn (rfl : some pv0 = some pv0), Hn (⟨rfl, rfl⟩ : T.d (.atom pv0) = T.d (.atom pv0) ∧ T.d (.atom (.slice none 0 0)) = T.d (.atom (.slice none 0 0))), qF, Hn (dM (eI .i64) s_), Hn (aL (eI .i64) (eI .i64) g0), Hl (aM0 (eI .i64) s_)]
def YW : Code := (Tryd.f47.body).getD .skip
def uv : x5 := spF (α := List Int) (ρ := List Int) 47 (fun x => [F2_ x]) (fun r => F1_ r) (fun x => w7 x) [] (Us)
theorem Xc {ctr : Ctr} (hC : zW Tryd.prog ctr) : uv.Ok Tryd.prog := by
 refine yd ?_
 rintro s_ r0 hf0
 try unfold w7 at hf0
 refine yO true [(2, none)] YW 9 Tryd.func47 fun E hE => ?_
 obtain ⟨g0, hf0⟩ := gdE hf0
 obtain rfl := zn hf0
 exact yE X0 hC hE [Ha (lnM (eI .i64) s_), Ha (lnM (eI .i64) s_), Hn (slB g0), Hn (slC g0), Hn (z2l (eI .i64) g0), Ha (z8m 1 (eI .i64) s_ 0 ((s_.length : Nat) : Int).toNat)]
def vG : Code := (Tryd.f21.body).getD .skip
def wq : x5 := spF (α := z8 × za) (ρ := z7) 21 (fun x => [xi x.1, yS x.2]) (fun r => KA r) (fun x => x7 x.1 x.2) [] (UT)
abbrev Zp (r_1 : List Int) (c_Queues : List (List Int)) : List (Nat × T) := [(4, .own (.box (.agg [eOs 1 true (eI .i64) [], eOs 1 true F2_ []]))), (5, .own (.box (.agg [eSl 1 true (eI .i64) r_1, eOs 1 true F1_ c_Queues])))]
abbrev Zo (x_ : z8) (s_ : za) (r_1 : List Int) (c_Queues1 : List (List Int)) (x23 : Int) : List (Nat × T) := [(3, .d (.sptr (yS s_))), (4, .own (.box (.agg [eOs 1 true (eI .i64) [], eOs 1 true F2_ []]))), (5, .own (.box (.agg [eSl 1 true (eI .i64) r_1, eOs 1 true F1_ c_Queues1]))), (22, .d (I (((List.replicate ((x_.Channels.length : Nat) : Int).toNat ([] : List Int)).length : Nat) : Int))), (23, .d (I x23))]
theorem Yc {ctr : Ctr} (hC : zW Tryd.prog ctr) (h0p : ctr.Has u0) (h0d : ctr.Has uv) : wq.Ok Tryd.prog := by
 refine yd ?_
 rintro ⟨x_, s_⟩ r0 hf0
 try unfold x7 at hf0
 refine yO false [(4, some 53)] vG 42 Tryd.func21 fun E hE => ?_
 obtain ⟨g0, hf0⟩ := gdE hf0
 obtain ⟨r_, h0, hf0⟩ := zp hf0
 obtain ⟨r_1, h1, hf0⟩ := zp hf0
 obtain ⟨g1, hf0⟩ := gdE hf0
 refine yJ ((xMs zY 18 26).or ((xAh zY 12).or X0)) hC vG [1,1] [] [4,5] (fun z : List (List Int) => vw r_1 z = some r0) (fun z => Zp r_1 z) [(3, .d (.sptr (yS s_))), (4, .own (.box (.agg [eOs 1 true (eI .i64) [], eOs 1 true F2_ []]))), (5, .own (.box (.agg [eSl 1 true (eI .i64) r_1, eOs 1 true F1_ (List.replicate ((x_.Channels.length : Nat) : Int).toNat ([] : List Int))])))] [Hh (.n 2 [3]), Ha (lnM wN x_.Parts), Hn g0.1, Hn (cuB (eI .i64) g0), Hl (cuM (eI .i64) [s_.states_.e0, s_.states_.e1, s_.states_.e2, s_.states_.e3] ((x_.Parts.length : Nat) : Int)), Hc h0p (x := ([s_.states_.e0, s_.states_.e1, s_.states_.e2, s_.states_.e3].take ((x_.Parts.length : Nat) : Int).toNat)) h0 (loC F2_ ([s_.states_.e0, s_.states_.e1, s_.states_.e2, s_.states_.e3].take ((x_.Parts.length : Nat) : Int).toNat) <| loN), Hg (z0Q h0d), Hm (shM (eI .i64) (eI .i64) r_), Hs (z0R h0d (x := r_) h1 (loC F2_ r_ <| loN)), Hm (shM (eI .i64) (eI .i64) r_), Ha (lnM (eI .i64) x_.Channels), Hn (rL g1), Ha (rM 1 F1_ ((x_.Channels.length : Nat) : Int) ([] : List Int)), Hh (.cut 0)] ?_ fun J1 hJ1 => ?_
 ·rintro c_Queues hf0
  unfold vw at hf0
  obtain rfl := zn hf0
  exact yE X0 hC hE [Hm (shM F1_ F1_ c_Queues)]
 ·obtain ⟨t2, ht2, hf0⟩ := zp hf0
  refine yL X0 hC vG [1,1,2,1,0] [J1] (fun s => yZ x_ s_ s.1 s.2) (fun x => Zo x_ s_ r_1 x.1 x.2) ((List.replicate ((x_.Channels.length : Nat) : Int).toNat ([] : List Int)), 0) ht2  [Ha (lnM F1_ (List.replicate ((x_.Channels.length : Nat) : Int).toNat ([] : List Int)))] ?_
  rintro ⟨c_Queues1, x23⟩ m2 lr1 hf1 hl1 J2 hJ2
  try unfold yZ at hf1
  rcases yb hf1 with ⟨c0, hf1⟩ | ⟨c0, hf1⟩
  ·obtain ⟨cell, h2, hf1⟩ := zp hf1
   obtain ⟨g2, hf1⟩ := gdE hf1
   obtain ⟨r_2, h3, hf1⟩ := zp hf1
   obtain ⟨r_3, h4, hf1⟩ := zp hf1
   obtain ⟨c_Queue_e, h5, hf1⟩ := zp hf1
   obtain rfl := zn hf1
   exact yB ((xAh zY 36).or X0) hC hJ2 ((c_Queues1.set x23.toNat r_3), w64 (x23 + 1)) hl1 [Hq c0, Hs (iM F9_ h2), Hn (arJ (by kernel_rfl) (i0 h2) : Yb xO 88 ((y5.toL s_.queues_).map F9_) x23 = true), Hh (.n 0 [7]), Hn g2.1, Hn (cuB (eI .i64) g2), Hl (cuM (eI .i64) [cell.l_.e0, cell.l_.e1, cell.l_.e2, cell.l_.e3] cell.many_), Hc h0p (x := ([cell.l_.e0, cell.l_.e1, cell.l_.e2, cell.l_.e3].take cell.many_.toNat)) h3 (loC F2_ ([cell.l_.e0, cell.l_.e1, cell.l_.e2, cell.l_.e3].take cell.many_.toNat) <| loN), Hg (z0Q h0d), Hm (shM (eI .i64) (eI .i64) r_2), Hs (z0R h0d (x := r_2) h4 (loC F2_ r_2 <| loN)), Hm (shM (eI .i64) (eI .i64) r_2), Hn (iL F1_ h5), Hs (iM F1_ h5), Hs (iM F1_ h5), Hl (sM F1_ c_Queues1 x23 r_3)]
  ·obtain rfl := zn hf1
   obtain rfl := hl1
   exact yB X0 hC hJ1 c_Queues1 hf0 [Hq c0]
def vN : Code := (Tryd.f22.body).getD .skip
def yM : x5 := spF (α := List z7) (ρ := List z7) 22 (fun x => [z4h x]) (fun r => z1v r) (fun x => zX x) [] (Us)
theorem vP {ctr : Ctr} (hC : zW Tryd.prog ctr) : yM.Ok Tryd.prog := by
 refine yd ?_
 rintro s_ r0 hf0
 try unfold zX at hf0
 refine yO true [(2, none)] vN 9 Tryd.func22 fun E hE => ?_
 obtain ⟨g0, hf0⟩ := gdE hf0
 obtain rfl := zn hf0
 exact yE X0 hC hE [Ha (lnM wd s_), Ha (lnM wd s_), Hn (slB g0), Hn (slC g0), Hn (z2l wd g0), Ha (z8m 2 wd s_ 0 ((s_.length : Nat) : Int).toNat)]
def kA : Code := (Tryd.f7.body).getD .skip
def qJ : x5 := spF (α := z8) (ρ := List z7 × List (List z6) × Int) 7 (fun x => [xi x]) (fun r => .tup [z1v r.1, Kz r.2.1, (eI .i64) r.2.2]) (fun x => vT x) [] (Us)
abbrev Wq (r_1 : List za × List (List z6) × Int) (out : List z7) : List (Nat × T) := [(7, .d (eSl 1 true wo r_1.2.1)), (9, .own (eOs 2 false KA out))]
abbrev Wp (x_ : z8) (r_1 : List za × List (List z6) × Int) (out1 : List z7) (x28 : Int) : List (Nat × T) := [(1, .own (.box (xi x_))), (7, .d (eSl 1 true wo r_1.2.1)), (9, .own (eOs 2 false KA out1)), (26, .d (eSl 24 false yS r_1.1)), (27, .d (I ((r_1.1.length : Nat) : Int))), (28, .d (I x28))]
theorem Q1 {ctr : Ctr} (hC : zW Tryd.prog ctr) (h09 : ctr.Has uf) (h0a : ctr.Has xR) (h0k : ctr.Has wq) (h0q : ctr.Has yM) : qJ.Ok Tryd.prog := by
 refine yd ?_
 rintro x_ r0 hf0
 try unfold vT at hf0
 refine yO false [(2, none), (3, none), (4, none)] kA 42 Tryd.func7 fun E hE => ?_
 obtain ⟨r_, h0, hf0⟩ := zp hf0
 let Z0 : List HO := [Hc h09 (x := x_) h0 (loC xi x_ <| loN)]
 rcases yb hf0 with ⟨c0, hf0⟩ | ⟨c0, hf0⟩
 ·obtain rfl := zn hf0
  exact yEx X0 hC hE (Z0 ++ [Hq c0, Hm (shM wd wd []), Hm (shM X8 X8 [])]) (.tup [eSl 2 true wd [], eSl 1 true wo [], I r_]) (show LeV (.tup [eSl 2 true wd [], eSl 1 true wo [], I r_]) (.tup [eSl 2 true wd ([] : List z7), eSl 1 true wo ([] : List (List z6)), I r_]) from inferInstance)
 ·obtain ⟨r_1, h1, hf0⟩ := zp hf0
  let Z1 : List HO := (Z0 ++ [Hq c0, Hc h0a (x := x_) h1 (loC xi x_ <| loN)])
  rcases yb hf0 with ⟨c1, hf0⟩ | ⟨c1, hf0⟩
  ·obtain rfl := zn hf0
   exact yEx X0 hC hE (Z1 ++ [Hq c1, Hm (shM wd wd []), Hm (shM X8 X8 [])]) (.tup [eSl 2 true wd [], eSl 1 true wo [], I r_1.2.2]) (show LeV (.tup [eSl 2 true wd [], eSl 1 true wo [], I r_1.2.2]) (.tup [eSl 2 true wd ([] : List z7), eSl 1 true wo ([] : List (List z6)), I r_1.2.2]) from inferInstance)
  ·refine yJ X0 hC kA [1,1,1,1,1] [] [7,9] (fun z : List z7 => qH r_1 z = some r0) (fun z => Wq r_1 z) [(1, .own (.box (xi x_))), (6, .d (eSl 24 false yS r_1.1)), (7, .d (eSl 1 true wo r_1.2.1)), (9, .own (eOs 2 true wd []))] (Z1 ++ [Hq c1, Hh (.cut 1)]) ?_ fun J1 hJ1 => ?_
   ·rintro out hf0
    unfold qH at hf0
    obtain ⟨r_2, h2, hf0⟩ := zp hf0
    obtain rfl := zn hf0
    exact yE X0 hC hE [Hg (z0Q h0q), Hm (shM KA KA out), Hs (z0R h0q (x := out) h2 (loC (eSl 2 false KA) out <| loN)), Hm (shM KA KA out)]
   ·obtain ⟨t2, ht2, hf0⟩ := zp hf0
    refine yLx X0 hC kA [1,1,1,1,1,2,1,0] [J1] (fun s => wM x_ r_1 s.1 s.2) (fun x => Wp x_ r_1 x.1 x.2) (([] : List z7), 0) ht2 [(1, .own (.box (xi x_))), (7, .d (eSl 1 true wo r_1.2.1)), (9, .own (eOs 2 true KA [])), (26, .d (eSl 24 false yS r_1.1)), (27, .d (I ((r_1.1.length : Nat) : Int))), (28, .d (I 0))] inferInstance [Ha (lnM yS r_1.1)] ?_
    rintro ⟨out1, x28⟩ m2 lr1 hf1 hl1 J2 hJ2
    try unfold wM at hf1
    rcases yb hf1 with ⟨c2, hf1⟩ | ⟨c2, hf1⟩
    ·obtain ⟨u_, h3, hf1⟩ := zp hf1
     obtain ⟨r_3, h4, hf1⟩ := zp hf1
     obtain ⟨g0, hf1⟩ := gdE hf1
     obtain rfl := zn hf1
     exact yB X0 hC hJ2 ((out1 ++ ([r_3] : List z7)), w64 (x28 + 1)) hl1 [Hq c2, Hi yS h3, Hc h0k (x := (x_, u_)) h4 (loC xi x_ <| loC yS u_ <| loN), Hq (dM KA ([r_3] : List z7)), Hn (dM KA ([r_3] : List z7)), Hn (aL KA KA g0), Hl (aM KA out1 ([r_3] : List z7))]
    ·obtain rfl := zn hf1
     obtain rfl := hl1
     exact yB X0 hC hJ1 out1 hf0 [Hq c2]
def QS : Code := (Tryd.f13.body).getD .skip
def kV : x5 := spF (α := Int × Int × List Int) (ρ := z7) 13 (fun x => [(eI .i64) x.1, (eI .i64) x.2.1, F2_ x.2.2]) (fun r => z6y r) (fun x => wW x.1 x.2.1 x.2.2) [] (zaZ)
theorem Jb {ctr : Ctr} (hC : zW Tryd.prog ctr) : kV.Ok Tryd.prog := by
 refine yd ?_
 rintro ⟨a_, b_, queue⟩ r0 hf0
 try unfold wW at hf0
 refine yO false [(6, some 53)] QS 13 Tryd.func13 fun E hE => ?_
 obtain rfl := zn hf0
 exact yE X0 hC hE [Hm (shM (eI .i64) (eI .i64) ([a_, b_])), Hm (shM F2_ F2_ ([queue]))]
def Kt : Code := (Tryd.f14.body).getD .skip
def Yi : x5 := spF (α := Int × Int) (ρ := zc) 14 (fun x => [(eI .i64) x.1, (eI .i64) x.2]) (fun r => ve r) (fun x => ut x.1 x.2) [] (UT)
theorem KJ {ctr : Ctr} (hC : zW Tryd.prog ctr) : Yi.Ok Tryd.prog := by
 refine yd ?_
 rintro ⟨part, arc⟩ r0 hf0
 try unfold ut at hf0
 refine yO false [(4, some 60)] Kt 8 Tryd.func14 fun E hE => ?_
 obtain rfl := zn hf0
 exact yE X0 hC hE []
end Go.Own
end
