/- -/
import Derived.Test.YthnpknbgpmlbhaaGreatPartE
noncomputable section
set_option linter.unusedVariables false
set_option linter.unusedSimpArgs false
namespace Go.Own
open Go.Proofs
set_option maxRecDepth 100000
set_option maxHeartbeats 8000000
def X0 : XH Tryz.prog := xB zp
theorem WX : Tryz.prog.follows .mixedOrders = true := by kernel_rfl
section
variable {ctr : Ctr} {n : Fr} {Q : Exit → St → Prop} {c : Code} {fs : List Fm} {st : St}
theorem yE (X : XH Tryz.prog) (hC : zA Tryz.prog ctr) {E : St → Prop} {r : A} {keep : Bool} {rs : List (Nat × Option Nat)} (hE : ∀ st x R U, z7y x6 keep rs st = some (x, R, U) → LeV x r → E st) (L : List HO) (e : zdf X x6 ctr n keep rs 4000 c fs st (hoH L) = some (r, hoO L) := by kernel_rfl) : AWP Tryz.prog n c st (Qf Tryz.prog n fs (z6P E)) := yE6 X zp hC WX hE L e
theorem yEx (X : XH Tryz.prog) (hC : zA Tryz.prog ctr) {E : St → Prop} {r : A} {keep : Bool} {rs : List (Nat × Option Nat)} (hE : ∀ st x R U, z7y x6 keep rs st = some (x, R, U) → LeV x r → E st) (L : List HO) (x : A) (hle : LeV x r) (e : zdf X x6 ctr n keep rs 4000 c fs st (hoH L) = some (x, hoO L) := by kernel_rfl) : AWP Tryz.prog n c st (Qf Tryz.prog n fs (z6P E)) := zj9 X zp hC WX hE L x hle e
theorem yB (X : XH Tryz.prog) (hC : zA Tryz.prog ctr) {τ : Type} {J : St → Prop} {live : List Nat} {S : τ → List (Nat × T)} {Inv : τ → Prop} (hJ : ∀ st' l' z, Inv z → Own.canon live st' = ofL l' → LeL l' (S z) → J st') (z : τ) (hz : Inv z) (L : List HO) (e : z1o X x6 ctr n live 4000 c fs st (hoH L) = some (.back J, ofL (S z), hoO L) := by kernel_rfl) : AWP Tryz.prog n c st (Qf Tryz.prog n fs Q) := yB6 X zp hC WX hJ z hz L e
theorem yBx (X : XH Tryz.prog) (hC : zA Tryz.prog ctr) {τ : Type} {J : St → Prop} {live : List Nat} {S : τ → List (Nat × T)} {Inv : τ → Prop} (hJ : ∀ st' l' z, Inv z → Own.canon live st' = ofL l' → LeL l' (S z) → J st') (z : τ) (hz : Inv z) (l : List (Nat × T)) (hl : LeL l (S z)) (L : List HO) (e : z1o X x6 ctr n live 4000 c fs st (hoH L) = some (.back J, ofL l, hoO L) := by kernel_rfl) : AWP Tryz.prog n c st (Qf Tryz.prog n fs Q) := zja X zp hC WX hJ z hz l hl L e
theorem yA (X : XH Tryz.prog) (hC : zA Tryz.prog ctr) (bd : Code) (path : List Nat) (Js : List (St → Prop)) (l : List (Nat × T)) (L : List HO) (h : AWP Tryz.prog n (sub path bd) (ofL l) (Qf Tryz.prog n (frs path Js bd []) Q)) (e : z1o X x6 ctr n (VV l) 4000 c fs st (hoH L) = some (.at (sub path bd) (frs path Js bd []), ofL l, hoO L) := by kernel_rfl) : AWP Tryz.prog n c st (Qf Tryz.prog n fs Q) := yA6 X zp hC WX bd path Js l L e h
theorem yAt (X : XH Tryz.prog) (hC : zA Tryz.prog ctr) (c' : Code) (fs' : List Fm) (l : List (Nat × T)) (L : List HO) (h : ∀ st0, Own.canon (VV l) st0 = ofL l → AWP Tryz.prog n c' st0 (Qf Tryz.prog n fs' Q)) (e : z1o X x6 ctr n (VV l) 4000 c fs st (hoH L) = some (.at c' fs', ofL l, hoO L) := by kernel_rfl) : AWP Tryz.prog n c st (Qf Tryz.prog n fs Q) := zjb X zp hC WX c' fs' l L e h
theorem yLx (X : XH Tryz.prog) (hC : zA Tryz.prog ctr) (bd : Code) (path : List Nat) (Js : List (St → Prop)) {σ τ : Type} (f : σ → Option (LR σ τ)) (S : σ → List (Nat × T)) (x0 : σ) {t : τ} (ht : loop f x0 = some t) (l : List (Nat × T)) (hl : LeL l (S x0)) (L : List HO) (round : ∀ x m lr, f x = some lr → zgO f m t lr → ∀ J : St → Prop, (∀ st' l' x', Wt f m x' = some t → Own.canon (VV l) st' = ofL l' → LeL l' (S x') → J st') → AWP Tryz.prog n (sub (path ++ [0]) bd) (ofL (S x)) (Qf Tryz.prog n (.pre J :: frs path Js bd []) Q)) (e : z1o X x6 ctr n (VV l) 4000 c fs st (hoH L) = some (.at (sub path bd) (frs path Js bd []), ofL l, hoO L) := by kernel_rfl) (e2 : sub path bd = .loop (sub (path ++ [0]) bd) := by kernel_rfl) (hk : ∀ x, VV (S x) = VV l := by exact fun _ => rfl) : AWP Tryz.prog n c st (Qf Tryz.prog n fs Q) := yL6 X zp hC WX bd path Js f S x0 ht l hl L hk e e2 round
theorem yL (X : XH Tryz.prog) (hC : zA Tryz.prog ctr) (bd : Code) (path : List Nat) (Js : List (St → Prop)) {σ τ : Type} (f : σ → Option (LR σ τ)) (S : σ → List (Nat × T)) (x0 : σ) {t : τ} (ht : loop f x0 = some t) (L : List HO) (round : ∀ x m lr, f x = some lr → zgO f m t lr → ∀ J : St → Prop, (∀ st' l' x', Wt f m x' = some t → Own.canon (VV (S x0)) st' = ofL l' → LeL l' (S x') → J st') → AWP Tryz.prog n (sub (path ++ [0]) bd) (ofL (S x)) (Qf Tryz.prog n (.pre J :: frs path Js bd []) Q)) (e : z1o X x6 ctr n (VV (S x0)) 4000 c fs st (hoH L) = some (.at (sub path bd) (frs path Js bd []), ofL (S x0), hoO L) := by kernel_rfl) (e2 : sub path bd = .loop (sub (path ++ [0]) bd) := by kernel_rfl) (hk : ∀ x, VV (S x) = VV (S x0) := by exact fun _ => rfl) : AWP Tryz.prog n c st (Qf Tryz.prog n fs Q) := yL6 X zp hC WX bd path Js f S x0 ht _ (LeL.refl _) L hk e e2 round
theorem yJ (X : XH Tryz.prog) (hC : zA Tryz.prog ctr) (bd : Code) (path : List Nat) (Js : List (St → Prop)) {σ : Type} (live : List Nat) (Inv : σ → Prop) (S : σ → List (Nat × T)) (l : List (Nat × T)) (L : List HO) (h1 : ∀ z, Inv z → AWP Tryz.prog n (sub (path ++ [1]) bd) (ofL (S z)) (Qf Tryz.prog n (frs path Js bd []) Q)) (h2 : ∀ J : St → Prop, (∀ st' l' z, Inv z → Own.canon live st' = ofL l' → LeL l' (S z) → J st') → AWP Tryz.prog n (sub (path ++ [2]) bd) (ofL l) (Qf Tryz.prog n (.pre J :: frs path Js bd []) Q)) (e : z1o X x6 ctr n (VV l) 4000 c fs st (hoH L) = some (.at (sub path bd) (frs path Js bd []), ofL l, hoO L) := by kernel_rfl) (e2 : sub path bd = .seq (sub (path ++ [2]) bd) (sub (path ++ [1]) bd) := by kernel_rfl) : AWP Tryz.prog n c st (Qf Tryz.prog n fs Q) := yJ6 X zp hC WX bd path Js live Inv S l L e e2 h1 h2
theorem yF (X : XH Tryz.prog) (hC : zA Tryz.prog ctr) (ex : Exit) (l : List (Nat × T)) (L : List HO) (h : ∀ st0, Own.canon (VV l) st0 = ofL l → Q ex st0) (e : z1o X x6 ctr n (VV l) 4000 c fs st (hoH L) = some (.fin ex, ofL l, hoO L) := by kernel_rfl) : AWP Tryz.prog n c st (Qf Tryz.prog n fs Q) := yF6 X zp hC WX ex l L e h
theorem yO {k : Nat} {fn : Func} {r : A} {ls : List A} (keep : Bool) (rs : List (Nat × Option Nat)) (body : Code) (nt : Nat) (hf : Tryz.prog.funcs[k]? = some fn) (h : ∀ E : St → Prop, (∀ st x R U, z7y x6 keep rs st = some (x, R, U) → LeV x r → E st) → AWP Tryz.prog ⟨nt, []⟩ body (ofL (z6S 0 ls)) (Qf Tryz.prog ⟨nt, []⟩ [] (z6P E))) (hb : fn.body = some body := by kernel_rfl) (hn : nt = fn.ntmps := by exact rfl) (hr : fn.results = (rs.map z3j).toArray := by exact rfl) (hnm : (fn.name == "runtime.NumGoroutine") = false := by exact rfl) (ha : Nat.ble ls.length nt = true := by kernel_rfl) : Wn Tryz.prog k ls r := yO6 zp keep rs body nt hf hb hn hr hnm ha h
end
theorem zcc : zgM Tryz.prog 60 9 := zbX (e := 5) Tryz.underlying60 Tryz.underlying5 Tryz.underlying9
theorem z7V : zda Tryz.prog 109 9 4 z2o (.atom (.bool false)) := za7 Tryz.underlying109 Tryz.underlying9 ⟨.bool false, fun w => z9b (f := Tryz.t4) (by kernel_rfl) rfl w, fun S => um.2 ⟨rfl, rfl⟩⟩ rfl
theorem zcL : z4m Tryz.prog 48 0 45 0 := z4a Tryz.underlying48 _ rfl rfl rfl
theorem zcK : z4m Tryz.prog 48 1 46 1 := z4a Tryz.underlying48 _ rfl rfl rfl
theorem ze0 : zd9 Tryz.prog 104 1 false := z9J zp (t := 77) Tryz.so104 rfl rfl (by kernel_rfl) (by decide)
def z0x : Code := (Tryz.f60.body).getD .skip
def Yc : zU := spF (α := List Int × Int) (ρ := Int) 60 (fun x => [F3_ x.1, (eI .i64) x.2]) (fun r => (eI .i64) r) (fun x => jj x.1 x.2) [] (Wu)
theorem z11 {ctr : Ctr} (hC : zA Tryz.prog ctr) : Yc.Ok Tryz.prog := by
 refine zC ?_
 rintro ⟨l_, k_⟩ r0 hf0
 try unfold jj at hf0
 refine yO true [(4, none)] z0x 14 Tryz.func60 fun E hE => ?_
 rcases zP hf0 with ⟨c0, hf0⟩ | ⟨c0, hf0⟩
 ·obtain ⟨l__e, h0, hf0⟩ := zg hf0
  obtain rfl := zf hf0
  exact yE X0 hC hE [Ha (lnM (eI .u16) l_), Hq c0, Hi (eI .u16) h0]
 ·obtain rfl := zf hf0
  exact yE X0 hC hE [Ha (lnM (eI .u16) l_), Hq c0]
def zW : Code := (Tryz.f30.body).getD .skip
def XL : zU := spF (α := zD) (ρ := z7) 30 (fun x => [Vz x]) (fun r => uf r) (fun x => Y2 x) [] (VX)
abbrev K4 (x_ : zD) (m_Rows2 : List (List za)) : List (Nat × T) := [(2, .own (.box (.agg [I 0, I 0, eOs 1 true vB []]))), (4, .own (.box (.agg [I (w64 (1 + (w64 (Int.tmod x_.Inputs 3)))), I (w64 (1 + (w64 (Int.tmod x_.Outputs 3)))), eOs 1 false jT m_Rows2])))]
abbrev K3 (x_ : zD) (s_ : Int) (m_Rows4 : List (List za)) : List (Nat × T) := [(1, .own (.box (Vz x_))), (2, .own (.box (.agg [I 0, I 0, eOs 1 true vB []]))), (3, .d (I (w64 (1 + (w64 (Int.tmod x_.States 6)))))), (4, .own (.box (.agg [I (w64 (1 + (w64 (Int.tmod x_.Inputs 3)))), I (w64 (1 + (w64 (Int.tmod x_.Outputs 3)))), eOs 1 false jT m_Rows4]))), (13, .d (I s_))]
abbrev K2 (x_ : zD) (s_ : Int) (i_ : Int) (m_Rows6 : List (List za)) : List (Nat × T) := [(1, .own (.box (Vz x_))), (2, .own (.box (.agg [I 0, I 0, eOs 1 true vB []]))), (3, .d (I (w64 (1 + (w64 (Int.tmod x_.States 6)))))), (4, .own (.box (.agg [I (w64 (1 + (w64 (Int.tmod x_.Inputs 3)))), I (w64 (1 + (w64 (Int.tmod x_.Outputs 3)))), eOs 1 false jT m_Rows6]))), (13, .d (I s_)), (14, .d (I i_))]
abbrev JZ (x_ : zD) (s_ : Int) (m_Rows5 : List (List za)) (i_ : Int) : List (Nat × T) := [(1, .own (.box (Vz x_))), (2, .own (.box (.agg [I 0, I 0, eOs 1 true vB []]))), (3, .d (I (w64 (1 + (w64 (Int.tmod x_.States 6)))))), (4, .own (.box (.agg [I (w64 (1 + (w64 (Int.tmod x_.Inputs 3)))), I (w64 (1 + (w64 (Int.tmod x_.Outputs 3)))), eOs 1 false jT m_Rows5]))), (13, .d (I s_)), (14, .d (I i_))]
abbrev K0 (x_ : zD) (m_Rows3 : List (List za)) (s_ : Int) : List (Nat × T) := [(1, .own (.box (Vz x_))), (2, .own (.box (.agg [I 0, I 0, eOs 1 true vB []]))), (3, .d (I (w64 (1 + (w64 (Int.tmod x_.States 6)))))), (4, .own (.box (.agg [I (w64 (1 + (w64 (Int.tmod x_.Inputs 3)))), I (w64 (1 + (w64 (Int.tmod x_.Outputs 3)))), eOs 1 false jT m_Rows3]))), (13, .d (I s_))]
abbrev K5 (x_ : zD) (m_Rows1 : List (List za)) : List (Nat × T) := [(1, .own (.box (Vz x_))), (2, .own (.box (.agg [I 0, I 0, eOs 1 true vB []]))), (3, .d (I (w64 (1 + (w64 (Int.tmod x_.States 6)))))), (4, .own (.box (.agg [I (w64 (1 + (w64 (Int.tmod x_.Inputs 3)))), I (w64 (1 + (w64 (Int.tmod x_.Outputs 3)))), eOs 1 false jT m_Rows1])))]
abbrev K1 (x_ : zD) (s_1 : Int) (m_Rows8 : List (List za)) : List (Nat × T) := [(1, .own (.box (Vz x_))), (2, .own (.box (.agg [I 0, I 0, eOs 1 true vB []]))), (3, .d (I (w64 (1 + (w64 (Int.tmod x_.States 6)))))), (4, .own (.box (.agg [I (w64 (1 + (w64 (Int.tmod x_.Inputs 3)))), I (w64 (1 + (w64 (Int.tmod x_.Outputs 3)))), eOs 1 false jT m_Rows8]))), (9, .d (I s_1))]
abbrev J0 (x_ : zD) (m_Rows7 : List (List za)) (s_1 : Int) (k_ : Int) : List (Nat × T) := [(1, .own (.box (Vz x_))), (2, .own (.box (.agg [I 0, I 0, eOs 1 true vB []]))), (3, .d (I (w64 (1 + (w64 (Int.tmod x_.States 6)))))), (4, .own (.box (.agg [I (w64 (1 + (w64 (Int.tmod x_.Inputs 3)))), I (w64 (1 + (w64 (Int.tmod x_.Outputs 3)))), eOs 1 false jT m_Rows7]))), (9, .d (I s_1)), (12, .d (I k_))]
abbrev Ja (x_ : zD) (m_Rows7 : List (List za)) (s_1 : Int) (free : List Int) : List (Nat × T) := [(1, .own (.box (Vz x_))), (2, .own (.box (.agg [I 0, I 0, eOs 1 true vB []]))), (3, .d (I (w64 (1 + (w64 (Int.tmod x_.States 6)))))), (4, .own (.box (.agg [I (w64 (1 + (w64 (Int.tmod x_.Inputs 3)))), I (w64 (1 + (w64 (Int.tmod x_.Outputs 3)))), eOs 1 false jT m_Rows7]))), (9, .d (I s_1)), (10, .own (eOs 1 false (eI .i64) free))]
abbrev QZ (x_ : zD) (m_Rows7 : List (List za)) (s_1 : Int) (k_1 : Int) (free2 : List Int) : List (Nat × T) := [(1, .own (.box (Vz x_))), (2, .own (.box (.agg [I 0, I 0, eOs 1 true vB []]))), (3, .d (I (w64 (1 + (w64 (Int.tmod x_.States 6)))))), (4, .own (.box (.agg [I (w64 (1 + (w64 (Int.tmod x_.Inputs 3)))), I (w64 (1 + (w64 (Int.tmod x_.Outputs 3)))), eOs 1 false jT m_Rows7]))), (9, .d (I s_1)), (10, .own (eOs 1 false (eI .i64) free2)), (11, .d (I k_1))]
abbrev QV (x_ : zD) (m_Rows7 : List (List za)) (s_1 : Int) (free1 : List Int) (k_1 : Int) : List (Nat × T) := [(1, .own (.box (Vz x_))), (2, .own (.box (.agg [I 0, I 0, eOs 1 true vB []]))), (3, .d (I (w64 (1 + (w64 (Int.tmod x_.States 6)))))), (4, .own (.box (.agg [I (w64 (1 + (w64 (Int.tmod x_.Inputs 3)))), I (w64 (1 + (w64 (Int.tmod x_.Outputs 3)))), eOs 1 false jT m_Rows7]))), (9, .d (I s_1)), (10, .own (eOs 1 false (eI .i64) free1)), (11, .d (I k_1))]
abbrev JY (x_ : zD) (m_Rows7 : List (List za)) (s_1 : Int) : List (Nat × T) := [(1, .own (.box (Vz x_))), (2, .own (.box (.agg [I 0, I 0, eOs 1 true vB []]))), (3, .d (I (w64 (1 + (w64 (Int.tmod x_.States 6)))))), (4, .own (.box (.agg [I (w64 (1 + (w64 (Int.tmod x_.Inputs 3)))), I (w64 (1 + (w64 (Int.tmod x_.Outputs 3)))), eOs 1 false jT m_Rows7]))), (9, .d (I s_1))]
abbrev K6 (x_ : zD) (m_Rows : List (List za)) : List (Nat × T) := [(1, .own (.box (Vz x_))), (2, .own (.box (.agg [I 0, I 0, eOs 1 true vB []]))), (3, .d (I (w64 (1 + (w64 (Int.tmod x_.States 6)))))), (4, .own (.box (.agg [I (w64 (1 + (w64 (Int.tmod x_.Inputs 3)))), I (w64 (1 + (w64 (Int.tmod x_.Outputs 3)))), eOs 1 false jT m_Rows])))]
abbrev QY (x_ : zD) (s_2 : Int) (m_Rows10 : List (List za)) : List (Nat × T) := [(1, .own (.box (Vz x_))), (2, .own (.box (.agg [I 0, I 0, eOs 1 true vB []]))), (3, .d (I (w64 (1 + (w64 (Int.tmod x_.States 6)))))), (4, .own (.box (.agg [I (w64 (1 + (w64 (Int.tmod x_.Inputs 3)))), I (w64 (1 + (w64 (Int.tmod x_.Outputs 3)))), eOs 1 false jT m_Rows10]))), (5, .d (I s_2))]
abbrev QX (x_ : zD) (m_Rows9 : List (List za)) (s_2 : Int) (row : List za) : List (Nat × T) := [(1, .own (.box (Vz x_))), (2, .own (.box (.agg [I 0, I 0, eOs 1 true vB []]))), (3, .d (I (w64 (1 + (w64 (Int.tmod x_.States 6)))))), (4, .own (.box (.agg [I (w64 (1 + (w64 (Int.tmod x_.Inputs 3)))), I (w64 (1 + (w64 (Int.tmod x_.Outputs 3)))), eOs 1 false jT m_Rows9]))), (5, .d (I s_2)), (6, .own (eOs 2 false F9_ row))]
abbrev QT (x_ : zD) (m_Rows9 : List (List za)) (s_2 : Int) (row1 : List za) (i_1 : Int) : List (Nat × T) := [(1, .own (.box (Vz x_))), (2, .own (.box (.agg [I 0, I 0, eOs 1 true vB []]))), (3, .d (I (w64 (1 + (w64 (Int.tmod x_.States 6)))))), (4, .own (.box (.agg [I (w64 (1 + (w64 (Int.tmod x_.Inputs 3)))), I (w64 (1 + (w64 (Int.tmod x_.Outputs 3)))), eOs 1 false jT m_Rows9]))), (5, .d (I s_2)), (6, .own (eOs 2 false F9_ row1)), (7, .d (I i_1))]
abbrev QU (x_ : zD) (m_Rows9 : List (List za)) (s_2 : Int) : List (Nat × T) := [(1, .own (.box (Vz x_))), (2, .own (.box (.agg [I 0, I 0, eOs 1 true vB []]))), (3, .d (I (w64 (1 + (w64 (Int.tmod x_.States 6)))))), (4, .own (.box (.agg [I (w64 (1 + (w64 (Int.tmod x_.Inputs 3)))), I (w64 (1 + (w64 (Int.tmod x_.Outputs 3)))), eOs 1 false jT m_Rows9]))), (5, .d (I s_2))]
theorem z3g {ctr : Ctr} (hC : zA Tryz.prog ctr) (h0t : ctr.Has Yc) : XL.Ok Tryz.prog := by
 refine zC ?_
 rintro x_ r0 hf0
 try unfold Y2 at hf0
 refine yO false [(2, some 27)] zW 178 Tryz.func30 fun E hE => ?_
 obtain ⟨g0, hf0⟩ := gdE hf0
 obtain ⟨g1, hf0⟩ := gdE hf0
 obtain ⟨g2, hf0⟩ := gdE hf0
 refine yJ X0 hC zW [1,1,1] [] [1,2,3,4] (fun z : List (List za) => ZO x_ z = some r0) (fun z => K6 x_ z) [(1, .own (.box (Vz x_))), (2, .own (.box (.agg [I 0, I 0, eOs 1 true vB []]))), (3, .d (I (w64 (1 + (w64 (Int.tmod x_.States 6)))))), (4, .own (.box (.agg [I (w64 (1 + (w64 (Int.tmod x_.Inputs 3)))), I (w64 (1 + (w64 (Int.tmod x_.Outputs 3)))), eOs 1 true vB []])))] [Hn g0, Hn g1, Hn g2, Hh (.cut 3)] ?_ fun J1 hJ1 => ?_
 ·rintro m_Rows hf0
  unfold ZO at hf0
  refine yJ X0 hC zW [1,1,1,1] [] [1,2,3,4] (fun z : List (List za) => ZN x_ z = some r0) (fun z => K5 x_ z) [(1, .own (.box (Vz x_))), (2, .own (.box (.agg [I 0, I 0, eOs 1 true vB []]))), (3, .d (I (w64 (1 + (w64 (Int.tmod x_.States 6)))))), (4, .own (.box (.agg [I (w64 (1 + (w64 (Int.tmod x_.Inputs 3)))), I (w64 (1 + (w64 (Int.tmod x_.Outputs 3)))), eOs 1 false jT m_Rows])))] [Hh (.cut 0)] ?_ fun J2 hJ2 => ?_
  ·rintro m_Rows1 hf0
   unfold ZN at hf0
   refine yJ X0 hC zW [1,1,1,1,1] [] [2,4] (fun z : List (List za) => ZM x_ z = some r0) (fun z => K4 x_ z) [(1, .own (.box (Vz x_))), (2, .own (.box (.agg [I 0, I 0, eOs 1 true vB []]))), (3, .d (I (w64 (1 + (w64 (Int.tmod x_.States 6)))))), (4, .own (.box (.agg [I (w64 (1 + (w64 (Int.tmod x_.Inputs 3)))), I (w64 (1 + (w64 (Int.tmod x_.Outputs 3)))), eOs 1 false jT m_Rows1])))] [Hh (.cut 0)] ?_ fun J3 hJ3 => ?_
   ·rintro m_Rows2 hf0
    unfold ZM at hf0
    obtain rfl := zf hf0
    exact yE X0 hC hE [Hm (shM jT vB m_Rows2)]
   ·obtain ⟨t4, ht4, hf0⟩ := zg hf0
    refine yL X0 hC zW [1,1,1,1,1,2,1,0] [J3] (fun s => qw x_ s.1 s.2) (fun x => K0 x_ x.1 x.2) (m_Rows1,0) ht4  [] ?_
    rintro ⟨m_Rows3, s_⟩ m4 lr1 hf1 hl1 J4 hJ4
    try unfold qw at hf1
    rcases zP hf1 with ⟨c0, hf1⟩ | ⟨c0, hf1⟩
    ·refine yJ X0 hC zW [1,1,1,1,1,2,1,0,0,1] [J3, J4] [1,2,3,4,13] (fun z : List (List za) => ZL s_ z = some lr1) (fun z => K3 x_ s_ z) [(1, .own (.box (Vz x_))), (2, .own (.box (.agg [I 0, I 0, eOs 1 true vB []]))), (3, .d (I (w64 (1 + (w64 (Int.tmod x_.States 6)))))), (4, .own (.box (.agg [I (w64 (1 + (w64 (Int.tmod x_.Inputs 3)))), I (w64 (1 + (w64 (Int.tmod x_.Outputs 3)))), eOs 1 false jT m_Rows3]))), (13, .d (I s_))] [Hq c0, Hh (.cut 0)] ?_ fun J5 hJ5 => ?_
     ·rintro m_Rows4 hf1
      unfold ZL at hf1
      obtain rfl := zf hf1
      exact yB X0 hC hJ4 (m_Rows4, w64 (s_ + 1)) hl1 []
     ·obtain ⟨t6, ht6, hf1⟩ := zg hf1
      refine yL X0 hC zW [1,1,1,1,1,2,1,0,0,1,2,0,1,0] [J3, J4, J5] (fun s => qu x_ s_ s.1 s.2) (fun x => JZ x_ s_ x.1 x.2) (m_Rows3,0) ht6  [] ?_
      rintro ⟨m_Rows5, i_⟩ m6 lr2 hf2 hl2 J6 hJ6
      try unfold qu at hf2
      rcases zP hf2 with ⟨c1, hf2⟩ | ⟨c1, hf2⟩
      ·refine yJ X0 hC zW [1,1,1,1,1,2,1,0,0,1,2,0,1,0,0,1] [J3, J4, J5, J6] [1,2,3,4,13,14] (fun z : List (List za) => jC i_ z = some lr2) (fun z => K2 x_ s_ i_ z) [(1, .own (.box (Vz x_))), (2, .own (.box (.agg [I 0, I 0, eOs 1 true vB []]))), (3, .d (I (w64 (1 + (w64 (Int.tmod x_.States 6)))))), (4, .own (.box (.agg [I (w64 (1 + (w64 (Int.tmod x_.Inputs 3)))), I (w64 (1 + (w64 (Int.tmod x_.Outputs 3)))), eOs 1 false jT m_Rows5]))), (13, .d (I s_)), (14, .d (I i_))] [Hq c1, Hh (.cut 0)] ?_ fun J7 hJ7 => ?_
       ·rintro m_Rows6 hf2
        unfold jC at hf2
        obtain rfl := zf hf2
        exact yB X0 hC hJ6 (m_Rows6, w64 (i_ + 1)) hl2 []
       ·obtain ⟨m_Row_e, h0, hf2⟩ := zg hf2
        obtain ⟨m_Row_e_e, h1, hf2⟩ := zg hf2
        let Z0 : List HO := [Hn (iL jT h0), Hs (iM jT h0), Hs (iM jT h0), Hn (iL F9_ h1), Hs (iM jT h0), Hs (iM F9_ h1), Hs (iM jT h0), Hs (iM F9_ h1)]
        rcases zP hf2 with ⟨c2, hf2⟩ | ⟨c2, hf2⟩
        ·obtain ⟨m_Row_e1, h2, hf2⟩ := zg hf2
         obtain ⟨r_, h3, hf2⟩ := zg hf2
         obtain ⟨g3, hf2⟩ := gdE hf2
         obtain ⟨m_Row_e_e1, h4, hf2⟩ := zg hf2
         exact yB X0 hC hJ7 (m_Rows5.set s_.toNat (m_Row_e1.set i_.toNat (za.mk (Int.tmod r_ (w64 (1 + (w64 (Int.tmod x_.States 6))))) m_Row_e_e1.Out))) hf2 (Z0 ++ [Hq c2, Hn (iL jT h2), Hs (iM jT h2), Hc h0t (x := (x_.Edges, w64 ((w64 (s_ * (w64 (1 + (w64 (Int.tmod x_.Inputs 3)))))) + i_))) h3 (loC F3_ x_.Edges <| loC (eI .i64) (w64 ((w64 (s_ * (w64 (1 + (w64 (Int.tmod x_.Inputs 3)))))) + i_)) <| loN), Hn g3, Hs (iM jT h2), Hn (iL F9_ h4), Hs (iM jT h2), Hs (iM F9_ h4), Hs (iM jT h2), Hs (iM F9_ h4), Hs (iM jT h2), Hs (iM F9_ h4), Hl (sM F9_ m_Row_e1 i_ (za.mk (Int.tmod r_ (w64 (1 + (w64 (Int.tmod x_.States 6))))) m_Row_e_e1.Out)), Hl (sM jT m_Rows5 s_ (m_Row_e1.set i_.toNat (za.mk (Int.tmod r_ (w64 (1 + (w64 (Int.tmod x_.States 6))))) m_Row_e_e1.Out)))])
        ·exact yB X0 hC hJ7 m_Rows5 hf2 (Z0 ++ [Hq c2])
      ·obtain rfl := zf hf2
       obtain rfl := hl2
       exact yB X0 hC hJ5 m_Rows5 hf1 [Hq c1]
    ·obtain rfl := zf hf1
     obtain rfl := hl1
     exact yB X0 hC hJ3 m_Rows3 hf0 [Hq c0]
  ·obtain ⟨t8, ht8, hf0⟩ := zg hf0
   refine yL X0 hC zW [1,1,1,1,2,1,0] [J2] (fun s => qt x_ s.1 s.2) (fun x => JY x_ x.1 x.2) (m_Rows, 1) ht8  [] ?_
   rintro ⟨m_Rows7, s_1⟩ m8 lr1 hf1 hl1 J8 hJ8
   try unfold qt at hf1
   rcases zP hf1 with ⟨c3, hf1⟩ | ⟨c3, hf1⟩
   ·refine yJ X0 hC zW [1,1,1,1,2,1,0,0,1] [J2, J8] [1,2,3,4,9] (fun z : List (List za) => ZK s_1 z = some lr1) (fun z => K1 x_ s_1 z) [(1, .own (.box (Vz x_))), (2, .own (.box (.agg [I 0, I 0, eOs 1 true vB []]))), (3, .d (I (w64 (1 + (w64 (Int.tmod x_.States 6)))))), (4, .own (.box (.agg [I (w64 (1 + (w64 (Int.tmod x_.Inputs 3)))), I (w64 (1 + (w64 (Int.tmod x_.Outputs 3)))), eOs 1 false jT m_Rows7]))), (9, .d (I s_1))] [Hq c3, Hh (.cut 0)] ?_ fun J9 hJ9 => ?_
    ·rintro m_Rows8 hf1
     unfold ZK at hf1
     obtain rfl := zf hf1
     exact yB X0 hC hJ8 (m_Rows8, w64 (s_1 + 1)) hl1 []
    ·refine yJ X0 hC zW [1,1,1,1,2,1,0,0,1,2,0,1] [J2, J8, J9] [1,2,3,4,9,10] (fun z : List Int => kP x_ m_Rows7 s_1 z = some lr1) (fun z => Ja x_ m_Rows7 s_1 z) [(1, .own (.box (Vz x_))), (2, .own (.box (.agg [I 0, I 0, eOs 1 true vB []]))), (3, .d (I (w64 (1 + (w64 (Int.tmod x_.States 6)))))), (4, .own (.box (.agg [I (w64 (1 + (w64 (Int.tmod x_.Inputs 3)))), I (w64 (1 + (w64 (Int.tmod x_.Outputs 3)))), eOs 1 false jT m_Rows7]))), (9, .d (I s_1)), (10, .own (eOs 1 true (eI .i64) []))] [Hh (.cut 1)] ?_ fun J10 hJ10 => ?_
     ·rintro free hf1
      unfold kP at hf1
      obtain ⟨free_e, h5, hf1⟩ := zg hf1
      refine yJ X0 hC zW [1,1,1,1,2,1,0,0,1,2,0,1,1,1] [J2, J8, J9] [1,2,3,4,9,12] (fun z : Int => vp x_ m_Rows7 s_1 z = some lr1) (fun z => J0 x_ m_Rows7 s_1 z) [(1, .own (.box (Vz x_))), (2, .own (.box (.agg [I 0, I 0, eOs 1 true vB []]))), (3, .d (I (w64 (1 + (w64 (Int.tmod x_.States 6)))))), (4, .own (.box (.agg [I (w64 (1 + (w64 (Int.tmod x_.Inputs 3)))), I (w64 (1 + (w64 (Int.tmod x_.Outputs 3)))), eOs 1 false jT m_Rows7]))), (9, .d (I s_1)), (10, .own (eOs 1 false (eI .i64) free)), (12, .d (I free_e))] [Hn (iL (eI .i64) h5), Hs (iM (eI .i64) h5), Hh (.cut 0)] ?_ fun J11 hJ11 => ?_
      ·rintro k_ hf1
       unfold vp at hf1
       obtain ⟨g4, hf1⟩ := gdE hf1
       obtain ⟨m_Row_e2, h6, hf1⟩ := zg hf1
       obtain ⟨g5, hf1⟩ := gdE hf1
       obtain ⟨m_Row_e_e2, h7, hf1⟩ := zg hf1
       exact yB X0 hC hJ9 (m_Rows7.set (w64 (Int.tdiv k_ (w64 (1 + (w64 (Int.tmod x_.Inputs 3)))))).toNat (m_Row_e2.set (Int.tmod k_ (w64 (1 + (w64 (Int.tmod x_.Inputs 3))))).toNat (za.mk s_1 m_Row_e_e2.Out))) hf1 [Hn g4, Hn (iL jT h6), Hs (iM jT h6), Hn g5, Hs (iM jT h6), Hn (iL F9_ h7), Hs (iM jT h6), Hs (iM F9_ h7), Hs (iM jT h6), Hs (iM F9_ h7), Hs (iM jT h6), Hs (iM F9_ h7), Hl (sM F9_ m_Row_e2 (Int.tmod k_ (w64 (1 + (w64 (Int.tmod x_.Inputs 3))))) (za.mk s_1 m_Row_e_e2.Out)), Hl (sM jT m_Rows7 (w64 (Int.tdiv k_ (w64 (1 + (w64 (Int.tmod x_.Inputs 3)))))) (m_Row_e2.set (Int.tmod k_ (w64 (1 + (w64 (Int.tmod x_.Inputs 3))))).toNat (za.mk s_1 m_Row_e_e2.Out)))]
      ·let Z1 : List HO := [Ha (lnM (eI .u8) x_.Tree)]
       rcases zP hf1 with ⟨c4, hf1⟩ | ⟨c4, hf1⟩
       ·obtain ⟨Tree_e, h8, hf1⟩ := zg hf1
        obtain ⟨g6, hf1⟩ := gdE hf1
        obtain ⟨free_e1, h9, hf1⟩ := zg hf1
        exact yB X0 hC hJ11 free_e1 hf1 (Z1 ++ [Hq c4, Hi (eI .u8) h8, Ha (lnM (eI .i64) free), Hn g6, Hn (iL (eI .i64) h9), Hs (iM (eI .i64) h9)])
       ·exact yB X0 hC hJ11 free_e hf1 (Z1 ++ [Hq c4])
     ·obtain ⟨t12, ht12, hf1⟩ := zg hf1
      refine yLx X0 hC zW [1,1,1,1,2,1,0,0,1,2,0,1,2,1,0] [J2, J8, J9, J10] (fun s => uz x_ m_Rows7 s_1 s.1 s.2) (fun x => QV x_ m_Rows7 s_1 x.1 x.2) (([] : List Int), 0) ht12 [(1, .own (.box (Vz x_))), (2, .own (.box (.agg [I 0, I 0, eOs 1 true vB []]))), (3, .d (I (w64 (1 + (w64 (Int.tmod x_.States 6)))))), (4, .own (.box (.agg [I (w64 (1 + (w64 (Int.tmod x_.Inputs 3)))), I (w64 (1 + (w64 (Int.tmod x_.Outputs 3)))), eOs 1 false jT m_Rows7]))), (9, .d (I s_1)), (10, .own (eOs 1 true (eI .i64) [])), (11, .d (I 0))] inferInstance [] ?_
      rintro ⟨free1, k_1⟩ m12 lr2 hf2 hl2 J12 hJ12
      try unfold uz at hf2
      rcases zP hf2 with ⟨c5, hf2⟩ | ⟨c5, hf2⟩
      ·refine yJ X0 hC zW [1,1,1,1,2,1,0,0,1,2,0,1,2,1,0,0,1] [J2, J8, J9, J10, J12] [1,2,3,4,9,10,11] (fun z : List Int => qQ k_1 z = some lr2) (fun z => QZ x_ m_Rows7 s_1 k_1 z) [(1, .own (.box (Vz x_))), (2, .own (.box (.agg [I 0, I 0, eOs 1 true vB []]))), (3, .d (I (w64 (1 + (w64 (Int.tmod x_.States 6)))))), (4, .own (.box (.agg [I (w64 (1 + (w64 (Int.tmod x_.Inputs 3)))), I (w64 (1 + (w64 (Int.tmod x_.Outputs 3)))), eOs 1 false jT m_Rows7]))), (9, .d (I s_1)), (10, .own (eOs 1 false (eI .i64) free1)), (11, .d (I k_1))] [Hq c5, Hh (.cut 0)] ?_ fun J13 hJ13 => ?_
       ·rintro free2 hf2
        unfold qQ at hf2
        obtain rfl := zf hf2
        exact yB X0 hC hJ12 (free2, w64 (k_1 + 1)) hl2 []
       ·obtain ⟨g7, hf2⟩ := gdE hf2
        obtain ⟨m_Row_e3, h10, hf2⟩ := zg hf2
        obtain ⟨g8, hf2⟩ := gdE hf2
        obtain ⟨m_Row_e_e3, h11, hf2⟩ := zg hf2
        let Z2 : List HO := [Hn g7, Hn (iL jT h10), Hs (iM jT h10), Hn g8, Hs (iM jT h10), Hn (iL F9_ h11), Hs (iM jT h10), Hs (iM F9_ h11), Hs (iM jT h10), Hs (iM F9_ h11)]
        rcases zP hf2 with ⟨c6, hf2⟩ | ⟨c6, hf2⟩
        ·obtain ⟨g9, hf2⟩ := gdE hf2
         exact yB X0 hC hJ13 (free1 ++ ([k_1] : List Int)) hf2 (Z2 ++ [Hq c6, Hq (dM (eI .i64) ([k_1] : List Int)), Hn (dM (eI .i64) ([k_1] : List Int)), Hn (aL (eI .i64) (eI .i64) g9), Hl (aM (eI .i64) free1 ([k_1] : List Int))])
        ·exact yB X0 hC hJ13 free1 hf2 (Z2 ++ [Hq c6])
      ·obtain rfl := zf hf2
       obtain rfl := hl2
       exact yB X0 hC hJ10 free1 hf1 [Hq c5]
   ·obtain rfl := zf hf1
    obtain rfl := hl1
    exact yB X0 hC hJ2 m_Rows7 hf0 [Hq c3]
 ·obtain ⟨t14, ht14, hf0⟩ := zg hf0
  refine yLx X0 hC zW [1,1,1,2,1,0] [J1] (fun s => uy x_ s.1 s.2) (fun x => QU x_ x.1 x.2) (([] : List (List za)), 0) ht14 [(1, .own (.box (Vz x_))), (2, .own (.box (.agg [I 0, I 0, eOs 1 true vB []]))), (3, .d (I (w64 (1 + (w64 (Int.tmod x_.States 6)))))), (4, .own (.box (.agg [I (w64 (1 + (w64 (Int.tmod x_.Inputs 3)))), I (w64 (1 + (w64 (Int.tmod x_.Outputs 3)))), eOs 1 true jT []]))), (5, .d (I 0))] inferInstance [] ?_
  rintro ⟨m_Rows9, s_2⟩ m14 lr1 hf1 hl1 J14 hJ14
  try unfold uy at hf1
  rcases zP hf1 with ⟨c7, hf1⟩ | ⟨c7, hf1⟩
  ·refine yJ X0 hC zW [1,1,1,2,1,0,0,1] [J1, J14] [1,2,3,4,5] (fun z : List (List za) => kO s_2 z = some lr1) (fun z => QY x_ s_2 z) [(1, .own (.box (Vz x_))), (2, .own (.box (.agg [I 0, I 0, eOs 1 true vB []]))), (3, .d (I (w64 (1 + (w64 (Int.tmod x_.States 6)))))), (4, .own (.box (.agg [I (w64 (1 + (w64 (Int.tmod x_.Inputs 3)))), I (w64 (1 + (w64 (Int.tmod x_.Outputs 3)))), eOs 1 false jT m_Rows9]))), (5, .d (I s_2))] [Hq c7, Hh (.cut 0)] ?_ fun J15 hJ15 => ?_
   ·rintro m_Rows10 hf1
    unfold kO at hf1
    obtain rfl := zf hf1
    exact yB X0 hC hJ14 (m_Rows10, w64 (s_2 + 1)) hl1 []
   ·refine yJ X0 hC zW [1,1,1,2,1,0,0,1,2,0,1] [J1, J14, J15] [1,2,3,4,5,6] (fun z : List za => kN m_Rows9 s_2 z = some lr1) (fun z => QX x_ m_Rows9 s_2 z) [(1, .own (.box (Vz x_))), (2, .own (.box (.agg [I 0, I 0, eOs 1 true vB []]))), (3, .d (I (w64 (1 + (w64 (Int.tmod x_.States 6)))))), (4, .own (.box (.agg [I (w64 (1 + (w64 (Int.tmod x_.Inputs 3)))), I (w64 (1 + (w64 (Int.tmod x_.Outputs 3)))), eOs 1 false jT m_Rows9]))), (5, .d (I s_2)), (6, .own (eOs 2 true F9_ []))] [Hh (.cut 1)] ?_ fun J16 hJ16 => ?_
    ·rintro row hf1
     unfold kN at hf1
     obtain ⟨g10, hf1⟩ := gdE hf1
     exact yB X0 hC hJ15 (m_Rows9 ++ ([row] : List (List za))) hf1 [Hq (oC jT row []), Hn (aL jT jT g10), Hl (aM jT m_Rows9 ([row] : List (List za)))]
    ·obtain ⟨t17, ht17, hf1⟩ := zg hf1
     refine yLx X0 hC zW [1,1,1,2,1,0,0,1,2,0,1,2,1,0] [J1, J14, J15, J16] (fun s => ux x_ s_2 s.1 s.2) (fun x => QT x_ m_Rows9 s_2 x.1 x.2) (([] : List za), 0) ht17 [(1, .own (.box (Vz x_))), (2, .own (.box (.agg [I 0, I 0, eOs 1 true vB []]))), (3, .d (I (w64 (1 + (w64 (Int.tmod x_.States 6)))))), (4, .own (.box (.agg [I (w64 (1 + (w64 (Int.tmod x_.Inputs 3)))), I (w64 (1 + (w64 (Int.tmod x_.Outputs 3)))), eOs 1 false jT m_Rows9]))), (5, .d (I s_2)), (6, .own (eOs 2 true F9_ [])), (7, .d (I 0))] inferInstance [] ?_
     rintro ⟨row1, i_1⟩ m17 lr2 hf2 hl2 J17 hJ17
     try unfold ux at hf2
     rcases zP hf2 with ⟨c8, hf2⟩ | ⟨c8, hf2⟩
     ·obtain ⟨r_1, h12, hf2⟩ := zg hf2
      obtain ⟨g11, hf2⟩ := gdE hf2
      obtain ⟨g12, hf2⟩ := gdE hf2
      obtain ⟨g13, hf2⟩ := gdE hf2
      obtain rfl := zf hf2
      exact yB X0 hC hJ17 ((row1 ++ ([(za.mk (-1) (Int.tmod (w64 (Int.tdiv r_1 (w64 (1 + (w64 (Int.tmod x_.States 6)))))) (w64 (1 + (w64 (Int.tmod x_.Outputs 3))))))] : List za)), w64 (i_1 + 1)) hl2 [Hq c8, Hc h0t (x := (x_.Edges, w64 ((w64 (s_2 * (w64 (1 + (w64 (Int.tmod x_.Inputs 3)))))) + i_1))) h12 (loC F3_ x_.Edges <| loC (eI .i64) (w64 ((w64 (s_2 * (w64 (1 + (w64 (Int.tmod x_.Inputs 3)))))) + i_1)) <| loN), Hn g11, Hn g12, Hq (dM F9_ ([(za.mk (-1) (Int.tmod (w64 (Int.tdiv r_1 (w64 (1 + (w64 (Int.tmod x_.States 6)))))) (w64 (1 + (w64 (Int.tmod x_.Outputs 3))))))] : List za)), Hn (dM F9_ ([(za.mk (-1) (Int.tmod (w64 (Int.tdiv r_1 (w64 (1 + (w64 (Int.tmod x_.States 6)))))) (w64 (1 + (w64 (Int.tmod x_.Outputs 3))))))] : List za)), Hn (aL F9_ F9_ g13), Hl (aM F9_ row1 ([(za.mk (-1) (Int.tmod (w64 (Int.tdiv r_1 (w64 (1 + (w64 (Int.tmod x_.States 6)))))) (w64 (1 + (w64 (Int.tmod x_.Outputs 3))))))] : List za))]
     ·obtain rfl := zf hf2
      obtain rfl := hl2
      exact yB X0 hC hJ16 row1 hf1 [Hq c8]
  ·obtain rfl := zf hf1
   obtain rfl := hl1
   exact yB X0 hC hJ1 m_Rows9 hf0 [Hq c7]
def JG : Code := (Tryz.f115.body).getD .skip
def Zl : zU := spF (α := Unit) (ρ := za) 115 (fun x => []) (fun r => F9_ r) (fun x => ZJ) [] (fun _ _ _ => rfl)
theorem Ks {ctr : Ctr} (hC : zA Tryz.prog ctr) : Zl.Ok Tryz.prog := by
 refine zC ?_
 rintro ⟨⟩ r0 hf0
 try unfold ZJ at hf0
 refine yO false [(0, some 68)] JG 2 Tryz.func115 fun E hE => ?_
 obtain rfl := zf hf0
 exact yE X0 hC hE []
def JH : Code := (Tryz.f99.body).getD .skip
def Zm : zU := spF (α := z7 × za) (ρ := Bool) 99 (fun x => [uf x.1, F9_ x.2]) (fun r => eB r) (fun x => jy x.1 x.2) [] (Wu)
theorem Kt {ctr : Ctr} (hC : zA Tryz.prog ctr) (h0B : ctr.Has Zl) : Zm.Ok Tryz.prog := by
 refine zC ?_
 rintro ⟨m_, x_⟩ r0 hf0
 try unfold jy at hf0
 refine yO true [(4, none)] JH 33 Tryz.func99 fun E hE => ?_
 obtain ⟨r_, h0, hf0⟩ := zg hf0
 let Z0 : List HO := [Hc h0B (x := ()) h0 (loN)]
 rcases zP hf0 with ⟨c0, hf0⟩ | ⟨c0, hf0⟩
 ·obtain rfl := zf hf0
  exact yE X0 hC hE (Z0 ++ (rpN 10 (Hq c0) []))
 ·let Z1 : List HO := (Z0 ++ (rpN 4 (Hq c0) []))
  rcases zP hf0 with ⟨c1, hf0⟩ | ⟨c1, hf0⟩
  ·let Z2 : List HO := (Z1 ++ (rpN 5 (Hq c1) [Ha (lnM vB m_.Rows), Hq c1, Hq c0, Hq c1, Hq c0]))
   rcases zP hf0 with ⟨c2, hf0⟩ | ⟨c2, hf0⟩
   ·let Z3 : List HO := (Z2 ++ [Hq c2, Hq c2, Hq c2, Hq c0, Hq c2, Hq c0])
    rcases zP hf0 with ⟨c3, hf0⟩ | ⟨c3, hf0⟩
    ·obtain rfl := zf hf0
     exact yE X0 hC hE (Z3 ++ (rpN 5 (Hq c3) [Hq c0, Hq c3, Hq c0]))
    ·obtain rfl := zf hf0
     exact yE X0 hC hE (Z3 ++ (rpN 5 (Hq c3) [Hq c0, Hq c3, Hq c0]))
   ·obtain rfl := zf hf0
    exact yE X0 hC hE (Z2 ++ (Hq c2 :: Hq c2 :: Hq c2 :: Hq c0 :: Hq c2 :: Hq c0 :: (rpN 5 qF [Hq c0, qF, Hq c0])))
  ·obtain rfl := zf hf0
   exact yE X0 hC hE (Z1 ++ (rpN 6 (Hq c1) (Hq c0 :: Hq c1 :: Hq c0 :: qF :: qF :: qF :: Hq c0 :: qF :: Hq c0 :: (rpN 5 qF [Hq c0, qF, Hq c0]))))
def Ub : Code := (Tryz.f98.body).getD .skip
def qZ : zU := spF (α := za × z7) (ρ := Bool) 98 (fun x => [F9_ x.1, zaU x.2]) (fun r => eB r) (fun x => qV x.1 x.2) [] (Wu)
theorem Um {ctr : Ctr} (hC : zA Tryz.prog ctr) (h0C : ctr.Has Zm) : qZ.Ok Tryz.prog := by
 refine zC ?_
 rintro ⟨x_, x1⟩ r0 hf0
 try unfold qV at hf0
 refine yO true [(3, none)] Ub 8 Tryz.func98 fun E hE => ?_
 obtain ⟨r_, h0, hf0⟩ := zg hf0
 obtain rfl := zf hf0
 exact yE X0 hC hE [Hc h0C (x := (x1, x_)) h0 (loC uf x1 <| loC F9_ x_ <| loN)]
def yS : Code := (Tryz.f114.body).getD .skip
def yQ : zU := spF (α := List za × z7) (ρ := Int) 114 (fun x => [vB x.1, (WF 98 zaU) x.2]) (fun r => (eI .i64) r) (fun x => yn x.1 x.2) [] (by
 rintro ⟨a0, a1⟩ ⟨b0, b1⟩ h
 have e0 := uI.inj (f := vB) _ _ (List.cons.inj h).1
 replace h := (List.cons.inj h).2
 have e1 := uI.inj (f := (WF 98 zaU)) _ _ (List.cons.inj h).1
 subst e0 e1
 rfl)
abbrev uP : List (Nat × T) := []
abbrev uO (s_ : List za) (f_ : z7) (x8 : Int) : List (Nat × T) := [(0, .d (eSl 2 false F9_ s_)), (1, .d (.fn 98 [.sptr (.agg [I f_.Inputs, I f_.Outputs, eSl 1 false vB f_.Rows])])), (7, .d (I ((s_.length : Nat) : Int))), (8, .d (I x8))]
theorem qI {ctr : Ctr} (hC : zA Tryz.prog ctr) (h0D : ctr.Has qZ) : yQ.Ok Tryz.prog := by
 refine zC ?_
 rintro ⟨s_, f_⟩ r0 hf0
 try unfold yn at hf0
 refine yO true [(4, none)] yS 19 Tryz.func114 fun E hE => ?_
 refine yJ X0 hC yS [1] [] [] (fun z : Unit => yR = some r0) (fun z => uP) [(0, .d (eSl 2 false F9_ s_)), (1, .d (.fn 98 [.sptr (.agg [I f_.Inputs, I f_.Outputs, eSl 1 false vB f_.Rows])]))] [Hh (.cut 1)] ?_ fun J1 hJ1 => ?_
 ·rintro ⟨⟩ hf0
  unfold yR at hf0
  obtain rfl := zf hf0
  exact yE X0 hC hE []
 ·obtain ⟨t2, ht2, hf0⟩ := zg hf0
  refine yL X0 hC yS [1,2,1,0] [J1] (fun s => zI s_ f_ s) (fun x => uO s_ f_ x) 0 ht2  [Ha (lnM F9_ s_)] ?_
  rintro x8 m2 lr1 hf1 hl1 J2 hJ2
  try unfold zI at hf1
  rcases zP hf1 with ⟨c0, hf1⟩ | ⟨c0, hf1⟩
  ·obtain ⟨s__e, h0, hf1⟩ := zg hf1
   obtain ⟨r_, h1, hf1⟩ := zg hf1
   let Z0 : List HO := [Hq c0, Hi F9_ h0, Hc h0D (x := (s__e, f_)) h1 (loC F9_ s__e <| loC zaU f_ <| loN)]
   rcases zP hf1 with ⟨c1, hf1⟩ | ⟨c1, hf1⟩
   ·obtain rfl := zf hf1
    obtain rfl := hl1
    obtain rfl := zf hf0
    exact yE X0 hC hE (Z0 ++ [Hq c1])
   ·obtain rfl := zf hf1
    exact yB X0 hC hJ2 (w64 (x8 + 1)) hl1 (Z0 ++ [Hq c1])
  ·obtain rfl := zf hf1
   obtain rfl := hl1
   exact yB X0 hC hJ1 () hf0 [Hq c0]
def uN : Code := (Tryz.f97.body).getD .skip
def yw : zU := spF (α := List za × z7) (ρ := Bool) 97 (fun x => [vB x.1, (WF 98 zaU) x.2]) (fun r => eB r) (fun x => zQ x.1 x.2) [] (by
 rintro ⟨a0, a1⟩ ⟨b0, b1⟩ h
 have e0 := uI.inj (f := vB) _ _ (List.cons.inj h).1
 replace h := (List.cons.inj h).2
 have e1 := uI.inj (f := (WF 98 zaU)) _ _ (List.cons.inj h).1
 subst e0 e1
 rfl)
theorem uS {ctr : Ctr} (hC : zA Tryz.prog ctr) (h0E : ctr.Has yQ) : yw.Ok Tryz.prog := by
 refine zC ?_
 rintro ⟨s_, f_⟩ r0 hf0
 try unfold zQ at hf0
 refine yO true [(4, none)] uN 9 Tryz.func97 fun E hE => ?_
 obtain ⟨r_, h0, hf0⟩ := zg hf0
 obtain rfl := zf hf0
 exact yE X0 hC hE [Hc h0E (x := (s_, f_)) h0 (loC vB s_ <| loC (WF 98 zaU) f_ <| loN)]
def kB : Code := (Tryz.f67.body).getD .skip
def vK : zU := spF (α := z7) (ρ := Int) 67 (fun x => [uf x]) (fun r => (eI .i64) r) (fun x => vo x) [] (VX)
abbrev Vw : List (Nat × T) := []
abbrev Vv (m_ : z7) (x36 : Int) : List (Nat × T) := [(1, .d (.sptr (uf m_))), (34, .d (eSl 1 false vB m_.Rows)), (35, .d (I ((m_.Rows.length : Nat) : Int))), (36, .d (I x36))]
theorem Jz {ctr : Ctr} (hC : zA Tryz.prog ctr) (h0F : ctr.Has yw) : vK.Ok Tryz.prog := by
 refine zC ?_
 rintro m_ r0 hf0
 try unfold vo at hf0
 refine yO true [(2, none)] kB 51 Tryz.func67 fun E hE => ?_
 rcases zP hf0 with ⟨c0, hf0⟩ | ⟨c0, hf0⟩
 ·obtain rfl := zf hf0
  exact yE X0 hC hE (rpN 4 (Hq c0) (rpN 6 qT []))
 ·let Z0 : List HO := (rpN 4 (Hq c0) [])
  rcases zP hf0 with ⟨c1, hf0⟩ | ⟨c1, hf0⟩
  ·obtain rfl := zf hf0
   exact yE X0 hC hE (Z0 ++ (rpN 5 (Hq c1) [qT]))
  ·let Z1 : List HO := (Z0 ++ [Hq c1, Hq c1, Hq c1, Ha (lnM vB m_.Rows), Hq c1, Hq c1])
   rcases zP hf0 with ⟨c2, hf0⟩ | ⟨c2, hf0⟩
   ·obtain rfl := zf hf0
    exact yE X0 hC hE (Z1 ++ [Hq c2])
   ·rcases zP hf0 with ⟨c3, hf0⟩ | ⟨c3, hf0⟩
    ·obtain rfl := zf hf0
     exact yE X0 hC hE (Z1 ++ (Hq c2 :: (rpN 4 (Hq c3) (rpN 6 qT []))))
    ·let Z2 : List HO := (Z1 ++ (Hq c2 :: (rpN 4 (Hq c3) [])))
     rcases zP hf0 with ⟨c4, hf0⟩ | ⟨c4, hf0⟩
     ·obtain rfl := zf hf0
      exact yE X0 hC hE (Z2 ++ (rpN 5 (Hq c4) [qT]))
     ·let Z3 : List HO := (Z2 ++ [Hq c4, Hq c4, Hq c4, Ha (lnM vB m_.Rows), Hq c4, Hq c4])
      rcases zP hf0 with ⟨c5, hf0⟩ | ⟨c5, hf0⟩
      ·obtain rfl := zf hf0
       exact yE X0 hC hE (Z3 ++ [Hq c5])
      ·refine yJ X0 hC kB [1,1,1] [] [] (fun z : Unit => kr = some r0) (fun z => Vw) [(1, .own (.box (uf m_)))] (Z3 ++ [Hq c5, Hh (.cut 0)]) ?_ fun J1 hJ1 => ?_
       ·rintro ⟨⟩ hf0
        unfold kr at hf0
        obtain rfl := zf hf0
        exact yE X0 hC hE []
       ·obtain ⟨t2, ht2, hf0⟩ := zg hf0
        refine yL X0 hC kB [1,1,1,2,1,0] [J1] (fun s => wy m_ s) (fun x => Vv m_ x) 0 ht2  [Ha (lnM vB m_.Rows), Hh (.n 1 [1])] ?_
        rintro x36 m2 lr1 hf1 hl1 J2 hJ2
        try unfold wy at hf1
        rcases zP hf1 with ⟨c6, hf1⟩ | ⟨c6, hf1⟩
        ·obtain ⟨Row_e, h0, hf1⟩ := zg hf1
         let Z4 : List HO := [Hq c6, Hi vB h0, Ha (lnM F9_ Row_e)]
         rcases zP hf1 with ⟨c7, hf1⟩ | ⟨c7, hf1⟩
         ·obtain rfl := zf hf1
          obtain rfl := hl1
          obtain rfl := zf hf0
          exact yE X0 hC hE (Z4 ++ (rpN 4 (Hq c7) [qT]))
         ·obtain ⟨r_, h1, hf1⟩ := zg hf1
          let Z5 : List HO := (Z4 ++ [Hq c7, Hq c7, Hq c7, Hc h0F (x := (Row_e, m_)) h1 (loC vB Row_e <| loC (WF 98 zaU) m_ <| loN), Hq c7])
          rcases zP hf1 with ⟨c8, hf1⟩ | ⟨c8, hf1⟩
          ·obtain rfl := zf hf1
           obtain rfl := hl1
           obtain rfl := zf hf0
           exact yE X0 hC hE (Z5 ++ [Hq c8])
          ·obtain rfl := zf hf1
           exact yB X0 hC hJ2 (w64 (x36 + 1)) hl1 (Z5 ++ [Hq c8])
        ·obtain rfl := zf hf1
         obtain rfl := hl1
         exact yB X0 hC hJ1 () hf0 [Hq c6]
def jI : Code := (Tryz.f68.body).getD .skip
abbrev YE (cv0 : Value) (cv1 : Value) (cv2 : Value) (Row_e : List za) (x1 : List Bool) (x2_Inputs : Int) (x2_Outputs : Int) (x2_Rows : List (List za)) (x24 : Int) : List (Nat × T) := [(1, .own (.box (eOs 1 true eB x1))), (2, .own (.box (.agg [I x2_Inputs, I x2_Outputs, eSl 1 false vB x2_Rows]))), (3, .own (.box (.fn 68 [.atom cv0, .atom cv1, .atom cv2]))), (22, .d (eSl 2 false F9_ Row_e)), (23, .d (I ((Row_e.length : Nat) : Int))), (24, .d (I x24))]
theorem Wp {ctr : Ctr} (hC : zA Tryz.prog ctr) (cv0 : Value) (cv1 : Value) (cv2 : Value) : ∀ (fu : Nat) (s_ : Int) (y0 : List Bool) (y1 : z7) (r0 : List Bool × z7), yb fu s_ y0 y1 = some r0 → vZ Tryz.prog (.fn 68 [.atom cv0, .atom cv1, .atom cv2]) [I s_] ([cv0, cv1, cv2].zip [.box (eOs 1 true eB y0), .box (.agg [I y1.Inputs, I y1.Outputs, eSl 1 false vB y1.Rows]), .box (.fn 68 [.atom cv0, .atom cv1, .atom cv2])]) (.tup []) [.box (eOs 1 true eB r0.1), .box (.agg [I r0.2.Inputs, I r0.2.Outputs, eSl 1 false vB r0.2.Rows]), .box (.fn 68 [.atom cv0, .atom cv1, .atom cv2])] := by
 intro fu
 induction fu with
 | zero => intro s_ y0 y1 r0 hf0; exact nomatch (show none = some r0 from hf0)
 | succ fu ih =>
  intro s_ y0 y1 r0 hf0
  replace hf0 : xH (yb fu) s_ y0 y1 = some r0 := hf0
  generalize yb fu = rc_ at ih hf0
  refine UF (tt := x6) (nt := 33) (body := jI) [1,2,3] zp Tryz.func68 rfl (by kernel_rfl) rfl rfl (by show (4 : Nat) ≤ 33; decide) (by decide) rfl rfl (fun E hE => ?_) rfl
  unfold xH at hf0
  rcases zP hf0 with ⟨c0, hf0⟩ | ⟨c0, hf0⟩
  ·obtain rfl := zf hf0
   exact yF X0 hC .ret [(1, .own (.box (eOs 1 true eB y0))), (2, .own (.box (.agg [I y1.Inputs, I y1.Outputs, eSl 1 false vB y1.Rows]))), (3, .own (.box (.fn 68 [.atom cv0, .atom cv1, .atom cv2])))] (rpN 5 (Hq c0) [qT]) fun st0 h0 => hE _ st0 (.inr rfl) (jx h0 ⟨⟨rfl, rfl⟩, ⟨⟨rfl, rfl⟩, ⟨⟨rfl, rfl⟩, trivial⟩⟩⟩)
  ·obtain ⟨y_e, h0, hf0⟩ := zg hf0
   let Z0 : List HO := [Hq c0, Hq c0, Hq c0, Hn (iL eB h0), Hq c0, Hs (iM eB h0), Hq c0]
   rcases zP hf0 with ⟨c1, hf0⟩ | ⟨c1, hf0⟩
   ·obtain rfl := zf hf0
    exact yF X0 hC .ret [(1, .own (.box (eOs 1 true eB y0))), (2, .own (.box (.agg [I y1.Inputs, I y1.Outputs, eSl 1 false vB y1.Rows]))), (3, .own (.box (.fn 68 [.atom cv0, .atom cv1, .atom cv2])))] (Z0 ++ [Hq c1]) fun st0 h0 => hE _ st0 (.inr rfl) (jx h0 ⟨⟨rfl, rfl⟩, ⟨⟨rfl, rfl⟩, ⟨⟨rfl, rfl⟩, trivial⟩⟩⟩)
   ·obtain ⟨y_e1, h1, hf0⟩ := zg hf0
    obtain ⟨Row_e, h2, hf0⟩ := zg hf0
    obtain ⟨t1, ht1, hf0⟩ := zg hf0
    refine yL X0 hC jI [1,1,1,0] [] (fun s => yM rc_ Row_e s.1 s.2.1 s.2.2.1 s.2.2.2.1 s.2.2.2.2) (fun x => YE cv0 cv1 cv2 Row_e x.1 x.2.1 x.2.2.1 x.2.2.2.1 x.2.2.2.2) ((y0.set s_.toNat true), y1.Inputs, y1.Outputs, y1.Rows, 0) ht1  (Z0 ++ [Hq c1, Hn (iL eB h1), Hs (iM eB h1), Hs (iM eB h1), Hl (sM eB y0 s_ true), Hi vB h2, Ha (lnM F9_ Row_e)]) ?_
    rintro ⟨x1, x2_Inputs, x2_Outputs, x2_Rows, x24⟩ m1 lr1 hf1 hl1 J1 hJ1
    try unfold yM at hf1
    rcases zP hf1 with ⟨c2, hf1⟩ | ⟨c2, hf1⟩
    ·obtain ⟨Row_e_e, h3, hf1⟩ := zg hf1
     obtain ⟨r_, h4, hf1⟩ := zg hf1
     obtain rfl := zf hf1
     exact yB ((wV (P := Tryz.prog) x6 [1,2,3] (ih _ _ _ _ h4) 31).or X0) hC hJ1 (r_.1, r_.2.Inputs, r_.2.Outputs, r_.2.Rows, w64 (x24 + 1)) hl1 [Hq c2, Hi F9_ h3, Hn (jt (f := .fn 68 [.atom cv0, .atom cv1, .atom cv2]) (xs := [(eI .i64) Row_e_e.To]) (ls := [(cv0, .box (eOs 1 true eB x1)), (cv1, .box (.agg [I x2_Inputs, I x2_Outputs, eSl 1 false vB x2_Rows])), (cv2, .box (.fn 68 [.atom cv0, .atom cv1, .atom cv2]))]) (r := .tup []) (ys := [.box (eOs 1 true eB r_.1), .box (.agg [I r_.2.Inputs, I r_.2.Outputs, eSl 1 false vB r_.2.Rows]), .box (.fn 68 [.atom cv0, .atom cv1, .atom cv2])]) [(eI .i64) Row_e_e.To] (show Kn [(eI .i64) Row_e_e.To] [(eI .i64) Row_e_e.To] from inferInstance))]
    ·obtain rfl := zf hf1
     obtain rfl := hl1
     obtain rfl := zf hf0
     exact yF X0 hC .normal [(1, .own (.box (eOs 1 true eB x1))), (2, .own (.box (.agg [I x2_Inputs, I x2_Outputs, eSl 1 false vB x2_Rows]))), (3, .own (.box (.fn 68 [.atom cv0, .atom cv1, .atom cv2])))] [Hq c2] fun st0 h0 => hE _ st0 (.inl rfl) (jx h0 ⟨⟨rfl, rfl⟩, ⟨⟨rfl, rfl⟩, ⟨⟨rfl, rfl⟩, trivial⟩⟩⟩)
def vu : Code := (Tryz.f100.body).getD .skip
def vj : zU := spF (α := List Bool × Bool) (ρ := Int) 100 (fun x => [(eSl 1 false eB) x.1, eB x.2]) (fun r => (eI .i64) r) (fun x => wP x.1 x.2) [] (Wu)
abbrev ZV : List (Nat × T) := []
abbrev ZU (s_ : List Bool) (v_ : Bool) (x8 : Int) : List (Nat × T) := [(0, .d (eSl 1 false eB s_)), (1, .d (B v_)), (7, .d (I ((s_.length : Nat) : Int))), (8, .d (I x8))]
theorem Xf {ctr : Ctr} (hC : zA Tryz.prog ctr) : vj.Ok Tryz.prog := by
 refine zC ?_
 rintro ⟨s_, v_⟩ r0 hf0
 try unfold wP at hf0
 refine yO true [(4, none)] vu 19 Tryz.func100 fun E hE => ?_
 refine yJ X0 hC vu [1] [] [] (fun z : Unit => vn = some r0) (fun z => ZV) [(0, .d (eSl 1 false eB s_)), (1, .d (B v_))] [Hh (.cut 1)] ?_ fun J1 hJ1 => ?_
 ·rintro ⟨⟩ hf0
  unfold vn at hf0
  obtain rfl := zf hf0
  exact yE X0 hC hE []
 ·obtain ⟨t2, ht2, hf0⟩ := zg hf0
  refine yL X0 hC vu [1,2,1,0] [J1] (fun s => yo s_ v_ s) (fun x => ZU s_ v_ x) 0 ht2  [Ha (lnM eB s_)] ?_
  rintro x8 m2 lr1 hf1 hl1 J2 hJ2
  try unfold yo at hf1
  rcases zP hf1 with ⟨c0, hf1⟩ | ⟨c0, hf1⟩
  ·obtain ⟨s__e, h0, hf1⟩ := zg hf1
   rcases zP hf1 with ⟨c1, hf1⟩ | ⟨c1, hf1⟩
   ·obtain rfl := zf hf1
    obtain rfl := hl1
    obtain rfl := zf hf0
    exact yE X0 hC hE [Hq c0, Hi eB h0, Hq c1]
   ·obtain rfl := zf hf1
    exact yB X0 hC hJ2 (w64 (x8 + 1)) hl1 [Hq c0, Hi eB h0, Hq c1]
  ·obtain rfl := zf hf1
   obtain rfl := hl1
   exact yB X0 hC hJ1 () hf0 [Hq c0]
def ZT : Code := (Tryz.f69.body).getD .skip
def wq : zU := spF (α := List Bool × Bool) (ρ := Bool) 69 (fun x => [(eSl 1 false eB) x.1, eB x.2]) (fun r => eB r) (fun x => yZ x.1 x.2) [] (Wu)
theorem Y4 {ctr : Ctr} (hC : zA Tryz.prog ctr) (h0G : ctr.Has vj) : wq.Ok Tryz.prog := by
 refine zC ?_
 rintro ⟨s_, v_⟩ r0 hf0
 try unfold yZ at hf0
 refine yO true [(4, none)] ZT 9 Tryz.func69 fun E hE => ?_
 obtain ⟨r_, h0, hf0⟩ := zg hf0
 obtain rfl := zf hf0
 exact yE X0 hC hE [Hc h0G (x := (s_, v_)) h0 (loC (eSl 1 false eB) s_ <| loC eB v_ <| loN)]
def Za : Code := (Tryz.f33.body).getD .skip
def uZ : zU := spF (α := z7) (ρ := Bool × Int) 33 (fun x => [uf x]) (fun r => .tup [eB r.1, (eI .i64) r.2]) (fun x => vb x) [] (VX)
theorem Vp {ctr : Ctr} (hC : zA Tryz.prog ctr) (h09 : ctr.Has vK) (h0u : ctr.Has wq) : uZ.Ok Tryz.prog := by
 refine zC ?_
 rintro m_ r0 hf0
 try unfold vb at hf0
 refine yO false [(2, none), (3, none)] Za 22 Tryz.func33 fun E hE => ?_
 obtain ⟨r_, h0, hf0⟩ := zg hf0
 let Z0 : List HO := [Hc h09 (x := m_) h0 (loC uf m_ <| loN)]
 rcases zP hf0 with ⟨c0, hf0⟩ | ⟨c0, hf0⟩
 ·obtain rfl := zf hf0
  exact yE X0 hC hE (Z0 ++ [Hq c0])
 ·obtain ⟨g0, hf0⟩ := gdE hf0
  refine yA X0 hC Za [1,1,1,1] [] [(1, .own (.box (uf m_))), (5, .own (.box (eOs 1 true eB (List.replicate ((m_.Rows.length : Nat) : Int).toNat false)))), (6, .own (.box (.atom .nilFunc)))] (Z0 ++ [Hq c0, Ha (lnM vB m_.Rows), Hn (rL g0), Ha (rM 1 eB ((m_.Rows.length : Nat) : Int) false), Hh (.cut 1)]) ?_
  refine z6f (by kernel_rfl) 5 fun pv5 => ?_
  refine z6f (by kernel_rfl) 1 fun pv1 => ?_
  refine z6f (by kernel_rfl) 6 fun pv6 => ?_
  obtain ⟨r_1, h1, hf0⟩ := zg hf0
  obtain ⟨r_2, h2, hf0⟩ := zg hf0
  obtain rfl := zf hf0
  exact yE ((wV (P := Tryz.prog) x6 [5,1,6] (Wp hC pv5 pv1 pv6 Xq _ _ _ _ h1) 18).or ((xMk Tryz.prog x6).or X0)) hC hE [Hn (jt (f := .fn 68 [.atom pv5, .atom pv1, .atom pv6]) (xs := [(eI .i64) 0]) (ls := [(pv5, .box (eOs 1 true eB (List.replicate ((m_.Rows.length : Nat) : Int).toNat false))), (pv1, .box (.agg [I m_.Inputs, I m_.Outputs, eSl 1 false vB m_.Rows])), (pv6, .box (.fn 68 [.atom pv5, .atom pv1, .atom pv6]))]) (r := .tup []) (ys := [.box (eOs 1 true eB r_1.1), .box (.agg [I r_1.2.Inputs, I r_1.2.Outputs, eSl 1 false vB r_1.2.Rows]), .box (.fn 68 [.atom pv5, .atom pv1, .atom pv6])]) [(eI .i64) 0] (show Kn [(eI .i64) 0] [(eI .i64) 0] from inferInstance)), Hg (z0i h0u), Hm (shM eB eB r_1.1), Hs (z0j h0u (x := (r_1.1, false)) h2 (loC (eSl 1 true eB) r_1.1 <| loC eB false <| loN))]
def QE : Code := (Tryz.f101.body).getD .skip
def kj : zU := spF (α := z7 × Int) (ρ := z7 × Int) 101 (fun x => [uf x.1, (eI .i64) x.2]) (fun r => (zjG 116 zaU (eSp (eI .i64))) r) (fun x => kG x.1 x.2) [] (Wu)
theorem Jw {ctr : Ctr} (hC : zA Tryz.prog ctr) : kj.Ok Tryz.prog := by
 refine zC ?_
 rintro ⟨m_, from_⟩ r0 hf0
 try unfold kG at hf0
 refine yO true [(4, none)] QE 6 Tryz.func101 fun E hE => ?_
 obtain rfl := zf hf0
 exact yEx X0 hC hE [] (.fn 116 [.sptr (.agg [I m_.Inputs, I m_.Outputs, eSl 1 false vB m_.Rows]), .sptr (I from_)]) (show LeV (.fn 116 [.sptr (.agg [I m_.Inputs, I m_.Outputs, eSl 1 false vB m_.Rows]), .sptr (I from_)]) (.fn 116 [.sptr (.agg [I (((m_, from_).1).Inputs), I (((m_, from_).1).Outputs), eSl 1 false vB (((m_, from_).1).Rows)]), .sptr (I ((m_, from_).2))]) from inferInstance)
def x9 : Code := (Tryz.f116.body).getD .skip
abbrev WD {σ : Type} (x0 : z7) (YY : σ → Qh) (queue_e : zi) (yr : σ × Bool) (Row_e : List za) (x38 : Int) (seen2 : List Bool) (queue2 : List zi) : List (Nat × T) := [(0, .own (.opq (YY yr.1).q)), (1, .d (.sptr (uf x0))), (4, .own (eOs 1 true eB seen2)), (5, .own (eDq 3 jn queue2)), (6, .own (.box (jn queue_e))), (36, .d (eSl 2 false F9_ Row_e)), (37, .d (I ((Row_e.length : Nat) : Int))), (38, .d (I x38))]
abbrev WB {σ : Type} (x0 : z7) (YY : σ → Qh) (queue_e : zi) (yr : σ × Bool) (Row_e : List za) (seen1 : List Bool) (queue1 : List zi) (x38 : Int) : List (Nat × T) := [(0, .own (.opq (YY yr.1).q)), (1, .d (.sptr (uf x0))), (4, .own (eOs 1 true eB seen1)), (5, .own (eDq 3 jn queue1)), (6, .own (.box (jn queue_e))), (36, .d (eSl 2 false F9_ Row_e)), (37, .d (I ((Row_e.length : Nat) : Int))), (38, .d (I x38))]
abbrev WC {σ : Type} (x0 : z7) (YY : σ → Qh) (sg1 : σ) (seen : List Bool) (queue : List zi) : List (Nat × T) := [(0, .own (.opq (YY sg1).q)), (1, .d (.sptr (uf x0))), (4, .own (eOs 1 true eB seen)), (5, .own (eDq 3 jn queue))]
theorem Uj {ctr : Ctr} (hC : zA Tryz.prog ctr) (x0 : z7) (x1 : Int) : z90 Tryz.prog (.fn 116 [.sptr (.agg [I x0.Inputs, I x0.Outputs, eSl 1 false vB x0.Rows]), .sptr (I x1)]) (fun (x : zi) (_ : Bool) (_ : Value) => [jn x]) (@ug x0 x1) := by
 refine z8a (tt := x6) (nt := 68) (body := x9) zp Tryz.func116 rfl (by kernel_rfl) rfl rfl (by show (3 : Nat) ≤ 68; decide) ?_
 intro σ yv YY yy hy sg r0 hf0 E hE
 unfold ug at hf0
 obtain ⟨g0, hf0⟩ := gdE hf0
 obtain ⟨u_e, h0, hf0⟩ := zg hf0
 obtain ⟨t1, ht1, hf0⟩ := zg hf0
 refine yLx X0 hC x9 [1,1,1,0] [] (fun s => wC x0 yy s.1 s.2.1 s.2.2) (fun x => WC x0 YY x.1 x.2.1 x.2.2) (sg, ((List.replicate ((x0.Rows.length : Nat) : Int).toNat false).set x1.toNat true), ([(zi.mk x1 (-1) (-1))] : List zi)) ht1 [(0, .own (.opq (YY sg).q)), (1, .d (.sptr (uf x0))), (4, .own (eOs 1 true eB ((List.replicate ((x0.Rows.length : Nat) : Int).toNat false).set x1.toNat true))), (5, .own (eOs 3 true jn ([(zi.mk x1 (-1) (-1))])))] inferInstance [Ha (lnM vB x0.Rows), Hn (rL g0), Ha (rM 1 eB ((x0.Rows.length : Nat) : Int) false), Hn (iL eB h0), Hs (iM eB h0), Hs (iM eB h0), Hl (sM eB (List.replicate ((x0.Rows.length : Nat) : Int).toNat false) x1 true)] ?_
 rintro ⟨sg1, seen, queue⟩ m1 lr1 hf1 hl1 J1 hJ1
 try unfold wC at hf1
 let Z0 : List HO := [Hn (rfl : eDq 3 jn queue = A.opq (KT 3 (queue.map jn)).q), Ha (lnM jn queue)]
 rcases zP hf1 with ⟨c0, hf1⟩ | ⟨c0, hf1⟩
 ·refine yA ((xQl zp 20 149 3 (queue.map jn) (by kernel_rfl)).or X0) hC x9 [1,1,1,0,0,1,0] [J1] [(0, .own (.opq (YY sg1).q)), (1, .d (.sptr (uf x0))), (4, .own (eOs 1 true eB seen)), (5, .own (eDq 3 jn queue))] (Z0 ++ [Hq c0, Hh (.cut 0)]) ?_
  obtain ⟨queue_e, h1, hf1⟩ := zg hf1
  refine z4i (by kernel_rfl) (x := (sub [1,1,1,0,0,1,0,0] x9)) (y := (sub [1,1,1,0,0,1,0,1] x9)) 5 (fun st1 => Own.canon [0,1,4,5,6] st1 = ofL [(0, .own (.opq (YY sg1).q)), (1, .d (.sptr (uf x0))), (4, .own (eOs 1 true eB seen)), (5, .own (eDq 3 jn queue)), (6, .own (.box (jn queue_e)))]) (fun pv5 => yF ((xQd zp 24 3 5 pv5 (0 : Int) (queue.map jn) (jn queue_e)).or ((xQi zp 23 3 5 pv5 (queue.map jn)).or X0)) hC .normal [(0, .own (.opq (YY sg1).q)), (1, .d (.sptr (uf x0))), (4, .own (eOs 1 true eB seen)), (5, .own (eDq 3 jn queue)), (6, .own (.box (jn queue_e)))] [Hn (⟨rfl, rfl, rfl, rfl, i0 h1, (iL jn h1).2⟩ : T.als 5 [] 0 0 = T.als 5 [] 0 0 ∧ some pv5 = some pv5 ∧ T.own (eDq 3 jn queue) = T.own (eDq 3 jn queue) ∧ some 3 = some 3 ∧ (0 : Int) ≤ 0 ∧ (0 : Int).toNat < (queue.map jn).length), Hn (⟨rfl, rfl, rfl, iM jn h1, rfl, z2X.isD queue_e⟩ : T.d (.atom (z6x 3 pv5 (0 : Int))) = T.d (.atom (z6x 3 pv5 (0 : Int))) ∧ some pv5 = some pv5 ∧ T.own (eDq 3 jn queue) = T.own (eDq 3 jn queue) ∧ (queue.map jn)[(0 : Int).toNat]? = some (jn queue_e) ∧ true = true ∧ (jn queue_e).isD = true)] fun st0 h0 => ⟨rfl, h0⟩) fun st1 h1 => z6J h1 ?_
  obtain ⟨g1, hf1⟩ := gdE hf1
  obtain ⟨yr, h2, hf1⟩ := zg hf1
  let Z1 : List HO := [Hn (rfl : eDq 3 jn queue = A.opq (KT 3 (queue.map jn)).q), Hn (⟨g1.1, cuB jn g1⟩ : (0 : Int) ≤ 1 ∧ (1 : Int).toNat ≤ (queue.map jn).length), Hn (drM jn queue (1 : Int).toNat), Hn (z74 (yv := yv) (Y := YY) (enc := (fun (x : zi) (_ : Bool) (_ : Value) => [jn x])) (s := sg1) (x := queue_e) (s' := yr.1) (b := yr.2) (v := .nilFunc) [jn queue_e] (show Kn [jn queue_e] [jn queue_e] from inferInstance))]
  rcases zP hf1 with ⟨c1, hf1⟩ | ⟨c1, hf1⟩
  ·obtain rfl := zf hf1
   obtain rfl := hl1
   obtain rfl := zf hf0
   exact yF ((z5g (P := Tryz.prog) x6 hy 29 (s := sg1) (x := queue_e) (s' := yr.1) (b := yr.2) .nilFunc h2).or ((xQs zp 26 3 (queue.map jn) ((queue.drop (1 : Int).toNat).map jn)).or X0)) hC .ret [(0, .own (.opq (YY yr.1).q))] (Z1 ++ [Hq c1]) fun st0 h0 => hE _ st0 (.inr rfl) h0
  ·obtain ⟨Row_e, h3, hf1⟩ := zg hf1
   obtain ⟨t2, ht2, hf1⟩ := zg hf1
   refine yL ((z5g (P := Tryz.prog) x6 hy 29 (s := sg1) (x := queue_e) (s' := yr.1) (b := yr.2) .nilFunc h2).or ((xQs zp 26 3 (queue.map jn) ((queue.drop (1 : Int).toNat).map jn)).or X0)) hC x9 [1,1,1,0,0,1,0,1,1,1,1,0] [J1] (fun s => xK queue_e yr Row_e s.1 s.2.1 s.2.2) (fun x => WB x0 YY queue_e yr Row_e x.1 x.2.1 x.2.2) (seen, (queue.drop (1 : Int).toNat), 0) ht2  (Z1 ++ [Hq c1, Hi vB h3, Ha (lnM F9_ Row_e)]) ?_
   rintro ⟨seen1, queue1, x38⟩ m2 lr2 hf2 hl2 J2 hJ2
   try unfold xK at hf2
   rcases zP hf2 with ⟨c2, hf2⟩ | ⟨c2, hf2⟩
   ·refine yJ X0 hC x9 [1,1,1,0,0,1,0,1,1,1,1,0,0,1,1] [J1, J2] [0,1,4,5,6,36,37,38] (fun z : List Bool × List zi => yC x38 z.1 z.2 = some lr2) (fun z => WD x0 YY queue_e yr Row_e x38 z.1 z.2) [(0, .own (.opq (YY yr.1).q)), (1, .d (.sptr (uf x0))), (4, .own (eOs 1 true eB seen1)), (5, .own (eDq 3 jn queue1)), (6, .own (.box (jn queue_e))), (36, .d (eSl 2 false F9_ Row_e)), (37, .d (I ((Row_e.length : Nat) : Int))), (38, .d (I x38))] [Hq c2, Hh (.cut 0)] ?_ fun J3 hJ3 => ?_
    ·rintro ⟨seen2, queue2⟩ hf2
     unfold yC at hf2
     obtain rfl := zf hf2
     exact yB X0 hC hJ2 (seen2, queue2, w64 (x38 + 1)) hl2 []
    ·obtain ⟨Row_e_e, h4, hf2⟩ := zg hf2
     let Z2 : List HO := [Hi F9_ h4]
     rcases zP hf2 with ⟨c3, hf2⟩ | ⟨c3, hf2⟩
     ·obtain ⟨seen_e, h5, hf2⟩ := zg hf2
      let Z3 : List HO := (Z2 ++ (rpN 4 (Hq c3) [Hn (iL eB h5), Hq c3, Hs (iM eB h5), Hq c3, Hq c3]))
      rcases zP hf2 with ⟨c4, hf2⟩ | ⟨c4, hf2⟩
      ·obtain ⟨seen_e1, h6, hf2⟩ := zg hf2
       obtain ⟨g2, hf2⟩ := gdE hf2
       exact yB ((xQa zp 66 3 (queue1.map jn) ((queue1 ++ ([(zi.mk Row_e_e.To queue_e.state_ x38)] : List zi)).map jn)).or X0) hC hJ3 ((seen1.set Row_e_e.To.toNat true), (queue1 ++ ([(zi.mk Row_e_e.To queue_e.state_ x38)] : List zi))) hf2 (Z3 ++ [Hq c4, Hn (iL eB h6), Hs (iM eB h6), Hs (iM eB h6), Hl (sM eB seen1 Row_e_e.To true), Hn (⟨rfl, dM jn ([(zi.mk Row_e_e.To queue_e.state_ x38)] : List zi), rfl⟩ : 3 = 3 ∧ A.areD (([(zi.mk Row_e_e.To queue_e.state_ x38)] : List zi).map jn) = true ∧ true = true), Hn (⟨rfl, aL jn jn g2, dM jn queue1⟩ : eDq 3 jn queue1 = A.opq (KT 3 (queue1.map jn)).q ∧ (queue1.map jn).length + (([(zi.mk Row_e_e.To queue_e.state_ x38)] : List zi).map jn).length ≤ lim ∧ A.areD (queue1.map jn) = true), Hn (aM jn queue1 ([(zi.mk Row_e_e.To queue_e.state_ x38)] : List zi))])
      ·exact yB X0 hC hJ3 (seen1, queue1) hf2 (Z3 ++ [Hq c4])
     ·exact yB X0 hC hJ3 (seen1, queue1) hf2 (Z2 ++ (rpN 7 (Hq c3) [qF]))
   ·obtain rfl := zf hf2
    obtain rfl := hl2
    obtain rfl := zf hf1
    exact yB X0 hC hJ1 (yr.1, seen1, queue1) hl1 [Hq c2]
 ·obtain rfl := zf hf1
  obtain rfl := hl1
  obtain rfl := zf hf0
  exact yF ((xQl zp 20 149 3 (queue.map jn) (by kernel_rfl)).or X0) hC .normal [(0, .own (.opq (YY sg1).q))] (Z0 ++ [Hq c0]) fun st0 h0 => hE _ st0 (.inl rfl) h0
def W7 : Code := (Tryz.f92.body).getD .skip
def yk : zU := spF (α := List Int) (ρ := List Int) 92 (fun x => [F4_ x]) (fun r => F5_ r) (fun x => zR x) [] (VX)
theorem Wo {ctr : Ctr} (hC : zA Tryz.prog ctr) : yk.Ok Tryz.prog := by
 refine zC ?_
 rintro s_ r0 hf0
 try unfold zR at hf0
 refine yO true [(2, none)] W7 8 Tryz.func92 fun E hE => ?_
 refine z8K rfl 0 (sz := 1) (t := false) (es := s_.map (eI .i64)) (by kernel_rfl) fun pv0 hv0 hn => ?_
 rcases hn with ⟨hn0, he0⟩ | hn0
 ·obtain ⟨_, hf0⟩ := gdE hf0
  rw [show s_ = [] from List.map_eq_nil_iff.1 he0] at hf0
  obtain rfl := zf hf0
  exact yEx ((zgz zp 4 77 (by kernel_rfl) hn0).or ((xMv Tryz.prog 3 0 pv0 hv0).or X0)) hC hE [Hn (rfl : some pv0 = some pv0), Hn (⟨rfl, rfl⟩ : T.d (.atom pv0) = T.d (.atom pv0) ∧ T.d (.atom (.slice none 0 0)) = T.d (.atom (.slice none 0 0))), qT] (eOs 1 true (eI .i64) []) (show LeV (eOs 1 true (eI .i64) []) (eOs 1 false (eI .i64) ([] : List Int)) from inferInstance)
 ·obtain ⟨g0, hf0⟩ := gdE hf0
  obtain rfl := zf hf0
  exact yE ((zgz zp 4 77 (by kernel_rfl) hn0).or ((xMv Tryz.prog 3 0 pv0 hv0).or X0)) hC hE [Hn (rfl : some pv0 = some pv0), Hn (⟨rfl, rfl⟩ : T.d (.atom pv0) = T.d (.atom pv0) ∧ T.d (.atom (.slice none 0 0)) = T.d (.atom (.slice none 0 0))), qF, Hn (dM (eI .i64) s_), Hn (aL (eI .i64) (eI .i64) g0), Hl (aM0 (eI .i64) s_)]
def Wy : Code := (Tryz.f75.body).getD .skip
def zO : zU := spF (α := List Int) (ρ := List Int) 75 (fun x => [F4_ x]) (fun r => F1_ r) (fun x => zV x) [] (VX)
theorem WG {ctr : Ctr} (hC : zA Tryz.prog ctr) : zO.Ok Tryz.prog := by
 refine zC ?_
 rintro s_ r0 hf0
 try unfold zV at hf0
 refine yO true [(2, none)] Wy 9 Tryz.func75 fun E hE => ?_
 obtain ⟨g0, hf0⟩ := gdE hf0
 obtain rfl := zf hf0
 exact yE X0 hC hE [Ha (lnM (eI .i64) s_), Ha (lnM (eI .i64) s_), Hn (slB g0), Hn (slC g0), Hn (ze1 (eI .i64) g0), Ha (ziC 1 (eI .i64) s_ 0 ((s_.length : Nat) : Int).toNat)]
def uB : Code := (Tryz.f70.body).getD .skip
def YS : zU := spF (α := z7 × Int) (ρ := List (List Int) × List Bool) 70 (fun x => [uf x.1, (eI .i64) x.2]) (fun r => .tup [Zd r.1, (eSl 1 true eB) r.2]) (fun x => Y3 x.1 x.2) [] (Wu)
abbrev QH (l_ : List (List Int)) (is : List Bool) : List (Nat × T) := [(6, .own (.box (eOs 1 true F1_ l_))), (7, .own (.box (eOs 1 true eB is)))]
abbrev kE (r_ : z7 × Int) (l_1 : List (List Int)) (is1 : List Bool) : List (Nat × T) := [(6, .own (.box (eOs 1 true F1_ l_1))), (7, .own (.box (eOs 1 true eB is1))), (19, .d (.fn 116 [.sptr (.agg [I r_.1.Inputs, I r_.1.Outputs, eSl 1 false vB r_.1.Rows]), .sptr (I r_.2)]))]
theorem z1T {ctr : Ctr} (hC : zA Tryz.prog ctr) (h0H : ctr.Has kj) (h04 : ctr.Has yk) (h01 : ctr.Has zO) : YS.Ok Tryz.prog := by
 refine zC ?_
 rintro ⟨m_, from_⟩ r0 hf0
 try unfold Y3 at hf0
 refine yO false [(4, none), (5, none)] uB 45 Tryz.func70 fun E hE => ?_
 obtain ⟨g0, hf0⟩ := gdE hf0
 obtain ⟨g1, hf0⟩ := gdE hf0
 refine yJ ((xMs zp 12 77).or X0) hC uB [1,1] [] [6,7] (fun z : List (List Int) × List Bool => kF z.1 z.2 = some r0) (fun z => QH z.1 z.2) [(1, .d (I from_)), (2, .own (.box (uf m_))), (6, .own (.box (eOs 1 true F1_ (List.replicate ((m_.Rows.length : Nat) : Int).toNat ([] : List Int))))), (7, .own (.box (eOs 1 true eB (List.replicate ((m_.Rows.length : Nat) : Int).toNat false))))] [Ha (lnM vB m_.Rows), Hn (rL g0), Ha (rM 1 F1_ ((m_.Rows.length : Nat) : Int) ([] : List Int)), Ha (lnM vB m_.Rows), Hn (rL g1), Ha (rM 1 eB ((m_.Rows.length : Nat) : Int) false), Hh (.cut 0)] ?_ fun J1 hJ1 => ?_
 ·rintro ⟨l_, is⟩ hf0
  unfold kF at hf0
  obtain rfl := zf hf0
  exact yE X0 hC hE [Hm (shM F1_ F1_ l_), Hm (shM eB eB is)]
 ·obtain ⟨r_, h0, hf0⟩ := zg hf0
  obtain ⟨t2, ht2, hf0⟩ := zg hf0
  refine yAt X0 hC (sub [1,1,2,1,0] uB) (frs [1,1,2,1,0] [J1] uB []) [(6, .own (.box (eOs 1 true F1_ (List.replicate ((m_.Rows.length : Nat) : Int).toNat ([] : List Int))))), (7, .own (.box (eOs 1 true eB (List.replicate ((m_.Rows.length : Nat) : Int).toNat false)))), (19, .d (.fn 116 [.sptr (.agg [I r_.1.Inputs, I r_.1.Outputs, eSl 1 false vB r_.1.Rows]), .sptr (I r_.2)]))] [Hc h0H (x := (m_, from_)) h0 (loC uf m_ <| loC (eI .i64) from_ <| loN)] fun st0 h0 => ?_
  refine z5b (g := .tmp 19) (ps := [20]) (assign := (sub [1,1,2,1,0,0] uB)) (body := (sub [1,1,2,1,0,1] uB)) (K := 116) (caps := [.sptr (.agg [I r_.1.Inputs, I r_.1.Outputs, eSl 1 false vB r_.1.Rows]), .sptr (I r_.2)]) (by kernel_rfl) [6,7,19] (fun s => kE r_ s.1 s.2) (fun z => nomatch z) (fun z => nomatch z) ((fun (x : zi) (_ : Bool) (_ : Value) => [jn x])) (F := @ug r_.1 r_.2) (fun s x => xM s.1 s.2 x) ((List.replicate ((m_.Rows.length : Nat) : Int).toNat ([] : List Int)), (List.replicate ((m_.Rows.length : Nat) : Int).toNat false)) t2 _ h0 inferInstance (by kernel_rfl) (by decide) (fun _ => rfl) (by rintro ⟨⟩) (by kernel_rfl) (fun _ _ _ => rfl) (Uj hC r_.1 r_.2) ht2 ?_ ?_
  ·rintro tv2 ⟨l_1, is1⟩ x20 vr lr1 hf1
   replace hf1 : xM l_1 is1 x20 = some lr1 := hf1
   unfold xM at hf1
   refine yF X0 hC .normal [(6, .own (.box (eOs 1 true F1_ l_1))), (7, .own (.box (eOs 1 true eB is1))), (8, .own (.box (jn x20))), (19, .d (.fn 116 [.sptr (.agg [I r_.1.Inputs, I r_.1.Outputs, eSl 1 false vB r_.1.Rows]), .sptr (I r_.2)]))] [] fun st0 h0 => ⟨rfl, z6J h0 ?_⟩
   obtain ⟨is_e, h1, hf1⟩ := zg hf1
   let Z0 : List HO := [Hn (iL eB h1), Hs (iM eB h1), Hs (iM eB h1), Hl (sM eB is1 x20.state_ true)]
   rcases zP hf1 with ⟨c0, hf1⟩ | ⟨c0, hf1⟩
   ·obtain ⟨l__e, h2, hf1⟩ := zg hf1
    obtain ⟨r_1, h3, hf1⟩ := zg hf1
    obtain ⟨g2, hf1⟩ := gdE hf1
    obtain ⟨r_2, h4, hf1⟩ := zg hf1
    obtain ⟨l__e1, h5, hf1⟩ := zg hf1
    obtain rfl := zf hf1
    exact yF X0 hC .normal (kE r_ (l_1.set x20.state_.toNat r_2) (is1.set x20.state_.toNat true)) (Z0 ++ [Hq c0, Hn (iL F1_ h2), Hs (iM F1_ h2), Hc h04 (x := l__e) h3 (loC F1_ l__e <| loN), Hq (dM (eI .i64) ([x20.input_] : List Int)), Hn (dM (eI .i64) ([x20.input_] : List Int)), Hn (aL (eI .i64) (eI .i64) g2), Hl (aM (eI .i64) r_1 ([x20.input_] : List Int)), Hg (z0i h01), Hm (shM (eI .i64) (eI .i64) (r_1 ++ ([x20.input_] : List Int))), Hs (z0j h01 (x := (r_1 ++ ([x20.input_] : List Int))) h4 (loC F4_ (r_1 ++ ([x20.input_] : List Int)) <| loN)), Hm (shM (eI .i64) (eI .i64) (r_1 ++ ([x20.input_] : List Int))), Hn (iL F1_ h5), Hs (iM F1_ h5), Hs (iM F1_ h5), Hl (sM F1_ l_1 x20.state_ r_2)]) fun st0 h0 => ⟨rfl, _, h0, LeL.refl _⟩
   ·obtain rfl := zf hf1
    exact yF X0 hC .normal (kE r_ l_1 (is1.set x20.state_.toNat true)) (Z0 ++ [Hq c0]) fun st0 h0 => ⟨rfl, _, h0, LeL.refl _⟩
  ·rcases t2 with ⟨l_1, is1⟩ | z
   ·dsimp only at hf0
    exact UQ (by kernel_rfl) (hJ1 _ [(6, .own (.box (eOs 1 true F1_ l_1))), (7, .own (.box (eOs 1 true eB is1)))] (l_1, is1) hf0 (show Own.canon [6,7] _ = ofL _ by kernel_rfl) inferInstance)
   ·cases z
def z0u : Code := (Tryz.f34.body).getD .skip
def Y8 : zU := spF (α := z7) (ρ := List (List Int) × List Bool × Int) 34 (fun x => [uf x]) (fun r => .tup [Zd r.1, (eSl 1 true eB) r.2.1, (eI .i64) r.2.2]) (fun x => kR x) [] (VX)
theorem z0V {ctr : Ctr} (hC : zA Tryz.prog ctr) (h09 : ctr.Has vK) (h0I : ctr.Has YS) : Y8.Ok Tryz.prog := by
 refine zC ?_
 rintro m_ r0 hf0
 try unfold kR at hf0
 refine yO false [(2, none), (3, none), (4, none)] z0u 20 Tryz.func34 fun E hE => ?_
 obtain ⟨r_, h0, hf0⟩ := zg hf0
 let Z0 : List HO := [Hc h09 (x := m_) h0 (loC uf m_ <| loN)]
 rcases zP hf0 with ⟨c0, hf0⟩ | ⟨c0, hf0⟩
 ·obtain rfl := zf hf0
  exact yEx X0 hC hE (Z0 ++ [Hq c0, Hm (shM F4_ F4_ []), Hm (shM eB eB [])]) (.tup [eSl 1 true F1_ [], eSl 1 true eB [], I r_]) (show LeV (.tup [eSl 1 true F1_ [], eSl 1 true eB [], I r_]) (.tup [eSl 1 true F1_ ([] : List (List Int)), eSl 1 true eB ([] : List Bool), I r_]) from inferInstance)
 ·obtain ⟨r_1, h1, hf0⟩ := zg hf0
  obtain rfl := zf hf0
  exact yE X0 hC hE (Z0 ++ [Hq c0, Hc h0I (x := (m_, 0)) h1 (loC uf m_ <| loC (eI .i64) 0 <| loN)])
def JF : Code := (Tryz.f117.body).getD .skip
def Zj : zU := spF (α := Int × Int) (ρ := Bool) 117 (fun x => [(eI .i64) x.1, (eSp (eI .i64)) x.2]) (fun r => eB r) (fun x => Zy x.1 x.2) [] (Wu)
theorem Kp {ctr : Ctr} (hC : zA Tryz.prog ctr) : Zj.Ok Tryz.prog := by
 refine zC ?_
 rintro ⟨c_, x1⟩ r0 hf0
 try unfold Zy at hf0
 refine yO true [(3, none)] JF 11 Tryz.func117 fun E hE => ?_
 rcases zP hf0 with ⟨c0, hf0⟩ | ⟨c0, hf0⟩
 ·obtain rfl := zf hf0
  exact yE X0 hC hE (rpN 4 (Hq c0) [])
 ·obtain rfl := zf hf0
  exact yE X0 hC hE (rpN 4 (Hq c0) [])
def wM : Code := (Tryz.f113.body).getD .skip
def wF : zU := spF (α := List Int × Int) (ρ := Int) 113 (fun x => [F4_ x.1, (WF 117 (eSp (eI .i64))) x.2]) (fun r => (eI .i64) r) (fun x => w7 x.1 x.2) [] (by
 rintro ⟨a0, a1⟩ ⟨b0, b1⟩ h
 have e0 := uI.inj (f := F4_) _ _ (List.cons.inj h).1
 replace h := (List.cons.inj h).2
 have e1 := uI.inj (f := (WF 117 (eSp (eI .i64)))) _ _ (List.cons.inj h).1
 subst e0 e1
 rfl)
abbrev Zc : List (Nat × T) := []
abbrev Zb (s_ : List Int) (f_ : Int) (x8 : Int) : List (Nat × T) := [(0, .d (eSl 1 false (eI .i64) s_)), (1, .d (.fn 117 [.sptr (I f_)])), (7, .d (I ((s_.length : Nat) : Int))), (8, .d (I x8))]
theorem Yu {ctr : Ctr} (hC : zA Tryz.prog ctr) (h0J : ctr.Has Zj) : wF.Ok Tryz.prog := by
 refine zC ?_
 rintro ⟨s_, f_⟩ r0 hf0
 try unfold w7 at hf0
 refine yO true [(4, none)] wM 19 Tryz.func113 fun E hE => ?_
 refine yJ X0 hC wM [1] [] [] (fun z : Unit => wH = some r0) (fun z => Zc) [(0, .d (eSl 1 false (eI .i64) s_)), (1, .d (.fn 117 [.sptr (I f_)]))] [Hh (.cut 1)] ?_ fun J1 hJ1 => ?_
 ·rintro ⟨⟩ hf0
  unfold wH at hf0
  obtain rfl := zf hf0
  exact yE X0 hC hE []
 ·obtain ⟨t2, ht2, hf0⟩ := zg hf0
  refine yL X0 hC wM [1,2,1,0] [J1] (fun s => yd s_ f_ s) (fun x => Zb s_ f_ x) 0 ht2  [Ha (lnM (eI .i64) s_)] ?_
  rintro x8 m2 lr1 hf1 hl1 J2 hJ2
  try unfold yd at hf1
  rcases zP hf1 with ⟨c0, hf1⟩ | ⟨c0, hf1⟩
  ·obtain ⟨s__e, h0, hf1⟩ := zg hf1
   obtain ⟨r_, h1, hf1⟩ := zg hf1
   let Z0 : List HO := [Hq c0, Hi (eI .i64) h0, Hc h0J (x := (s__e, f_)) h1 (loC (eI .i64) s__e <| loC (eSp (eI .i64)) f_ <| loN)]
   rcases zP hf1 with ⟨c1, hf1⟩ | ⟨c1, hf1⟩
   ·obtain rfl := zf hf1
    obtain rfl := hl1
    obtain rfl := zf hf0
    exact yE X0 hC hE (Z0 ++ [Hq c1])
   ·obtain rfl := zf hf1
    exact yB X0 hC hJ2 (w64 (x8 + 1)) hl1 (Z0 ++ [Hq c1])
  ·obtain rfl := zf hf1
   obtain rfl := hl1
   exact yB X0 hC hJ1 () hf0 [Hq c0]
def kZ : Code := (Tryz.f95.body).getD .skip
def xR : zU := spF (α := List Int × Int) (ρ := Bool) 95 (fun x => [F4_ x.1, (WF 117 (eSp (eI .i64))) x.2]) (fun r => eB r) (fun x => xk x.1 x.2) [] (by
 rintro ⟨a0, a1⟩ ⟨b0, b1⟩ h
 have e0 := uI.inj (f := F4_) _ _ (List.cons.inj h).1
 replace h := (List.cons.inj h).2
 have e1 := uI.inj (f := (WF 117 (eSp (eI .i64)))) _ _ (List.cons.inj h).1
 subst e0 e1
 rfl)
theorem Zh {ctr : Ctr} (hC : zA Tryz.prog ctr) (h0K : ctr.Has wF) : xR.Ok Tryz.prog := by
 refine zC ?_
 rintro ⟨s_, f_⟩ r0 hf0
 try unfold xk at hf0
 refine yO true [(4, none)] kZ 9 Tryz.func95 fun E hE => ?_
 obtain ⟨r_, h0, hf0⟩ := zg hf0
 obtain rfl := zf hf0
 exact yE X0 hC hE [Hc h0K (x := (s_, f_)) h0 (loC F4_ s_ <| loC (WF 117 (eSp (eI .i64))) f_ <| loN)]
def z19 : Code := (Tryz.f102.body).getD .skip
def YR : zU := spF (α := List Int × Int) (ρ := Int) 102 (fun x => [F4_ x.1, (eI .i64) x.2]) (fun r => (eI .i64) r) (fun x => ke x.1 x.2) [] (Wu)
theorem z1S {ctr : Ctr} (hC : zA Tryz.prog ctr) (h0L : ctr.Has xR) : YR.Ok Tryz.prog := by
 refine zC ?_
 rintro ⟨w_, inputs⟩ r0 hf0
 try unfold ke at hf0
 refine yO true [(4, none)] z19 19 Tryz.func102 fun E hE => ?_
 rcases zP hf0 with ⟨c0, hf0⟩ | ⟨c0, hf0⟩
 ·obtain rfl := zf hf0
  exact yE X0 hC hE (rpN 4 (Hq c0) [qT])
 ·let Z0 : List HO := [Hq c0, Hq c0, Ha (lnM (eI .i64) w_), Hq c0, Hq c0]
  rcases zP hf0 with ⟨c1, hf0⟩ | ⟨c1, hf0⟩
  ·obtain rfl := zf hf0
   exact yE X0 hC hE (Z0 ++ [Hq c1])
  ·rcases zP hf0 with ⟨c2, hf0⟩ | ⟨c2, hf0⟩
   ·obtain rfl := zf hf0
    exact yE X0 hC hE (Z0 ++ (Hq c1 :: (rpN 4 (Hq c2) [qT])))
   ·obtain ⟨r_, h0, hf0⟩ := zg hf0
    let Z1 : List HO := (Z0 ++ [Hq c1, Hq c2, Hq c2, Hq c2, Hc h0L (x := (w_, inputs)) h0 (loC F4_ w_ <| loC (WF 117 (eSp (eI .i64))) inputs <| loN), Hq c2])
    rcases zP hf0 with ⟨c3, hf0⟩ | ⟨c3, hf0⟩
    ·obtain rfl := zf hf0
     exact yE X0 hC hE (Z1 ++ [Hq c3])
    ·obtain rfl := zf hf0
     exact yE X0 hC hE (Z1 ++ [Hq c3])
def X5 : Code := (Tryz.f71.body).getD .skip
def kJ : zU := spF (α := List (List Int) × Int) (ρ := Int) 71 (fun x => [uH x.1, (eI .i64) x.2]) (fun r => (eI .i64) r) (fun x => ki x.1 x.2) [] (Wu)
abbrev QL : List (Nat × T) := []
abbrev QK (l_ : List (List Int)) (inputs : Int) (x19 : Int) : List (Nat × T) := [(1, .d (I inputs)), (17, .d (eSl 1 false F4_ l_)), (18, .d (I ((l_.length : Nat) : Int))), (19, .d (I x19))]
theorem z1W {ctr : Ctr} (hC : zA Tryz.prog ctr) (h0M : ctr.Has YR) : kJ.Ok Tryz.prog := by
 refine zC ?_
 rintro ⟨l_, inputs⟩ r0 hf0
 try unfold ki at hf0
 refine yO true [(4, none)] X5 30 Tryz.func71 fun E hE => ?_
 rcases zP hf0 with ⟨c0, hf0⟩ | ⟨c0, hf0⟩
 ·obtain rfl := zf hf0
  exact yE X0 hC hE (rpN 4 (Hq c0) [qT])
 ·let Z0 : List HO := [Hq c0, Hq c0, Ha (lnM F4_ l_), Hq c0, Hq c0]
  rcases zP hf0 with ⟨c1, hf0⟩ | ⟨c1, hf0⟩
  ·obtain rfl := zf hf0
   exact yE X0 hC hE (Z0 ++ [Hq c1])
  ·rcases zP hf0 with ⟨c2, hf0⟩ | ⟨c2, hf0⟩
   ·obtain rfl := zf hf0
    exact yE X0 hC hE (Z0 ++ [Hq c1, Hq c2])
   ·refine yJ X0 hC X5 [1,1,1] [] [] (fun z : Unit => YP = some r0) (fun z => QL) [(0, .d (eSl 1 false F4_ l_)), (1, .d (I inputs))] (Z0 ++ [Hq c1, Hq c2, Hh (.cut 0)]) ?_ fun J1 hJ1 => ?_
    ·rintro ⟨⟩ hf0
     unfold YP at hf0
     obtain rfl := zf hf0
     exact yE X0 hC hE []
    ·obtain ⟨t2, ht2, hf0⟩ := zg hf0
     refine yL X0 hC X5 [1,1,1,2,1,0] [J1] (fun s => ur l_ inputs s) (fun x => QK l_ inputs x) 0 ht2  [Ha (lnM F4_ l_)] ?_
     rintro x19 m2 lr1 hf1 hl1 J2 hJ2
     try unfold ur at hf1
     rcases zP hf1 with ⟨c3, hf1⟩ | ⟨c3, hf1⟩
     ·obtain ⟨l__e, h0, hf1⟩ := zg hf1
      obtain ⟨r_, h1, hf1⟩ := zg hf1
      let Z1 : List HO := [Hq c3, Hi F4_ h0, Hc h0M (x := (l__e, inputs)) h1 (loC F4_ l__e <| loC (eI .i64) inputs <| loN)]
      rcases zP hf1 with ⟨c4, hf1⟩ | ⟨c4, hf1⟩
      ·obtain rfl := zf hf1
       obtain rfl := hl1
       obtain rfl := zf hf0
       exact yE X0 hC hE (Z1 ++ [Hq c4])
      ·obtain rfl := zf hf1
       exact yB X0 hC hJ2 (w64 (x19 + 1)) hl1 (Z1 ++ [Hq c4])
     ·obtain rfl := zf hf1
      obtain rfl := hl1
      exact yB X0 hC hJ1 () hf0 [Hq c3]
def Xs : Code := (Tryz.f103.body).getD .skip
def vJ : zU := spF (α := List (List Int)) (ρ := List (List Int)) 103 (fun x => [uH x]) (fun r => z6M r) (fun x => v8 x) [] (VX)
theorem Xx {ctr : Ctr} (hC : zA Tryz.prog ctr) : vJ.Ok Tryz.prog := by
 refine zC ?_
 rintro s_ r0 hf0
 try unfold v8 at hf0
 refine yO true [(2, none)] Xs 8 Tryz.func103 fun E hE => ?_
 refine z8K rfl 0 (sz := 1) (t := false) (es := s_.map F4_) (by kernel_rfl) fun pv0 hv0 hn => ?_
 rcases hn with ⟨hn0, he0⟩ | hn0
 ·obtain ⟨_, hf0⟩ := gdE hf0
  rw [show s_ = [] from List.map_eq_nil_iff.1 he0] at hf0
  obtain rfl := zf hf0
  exact yEx ((zgz zp 4 29 (by kernel_rfl) hn0).or ((xMv Tryz.prog 3 0 pv0 hv0).or X0)) hC hE [Hn (rfl : some pv0 = some pv0), Hn (⟨rfl, rfl⟩ : T.d (.atom pv0) = T.d (.atom pv0) ∧ T.d (.atom (.slice none 0 0)) = T.d (.atom (.slice none 0 0))), qT] (eOs 1 true F4_ []) (show LeV (eOs 1 true F4_ []) (eOs 1 false F4_ ([] : List (List Int))) from inferInstance)
 ·obtain ⟨g0, hf0⟩ := gdE hf0
  obtain rfl := zf hf0
  exact yE ((zgz zp 4 29 (by kernel_rfl) hn0).or ((xMv Tryz.prog 3 0 pv0 hv0).or X0)) hC hE [Hn (rfl : some pv0 = some pv0), Hn (⟨rfl, rfl⟩ : T.d (.atom pv0) = T.d (.atom pv0) ∧ T.d (.atom (.slice none 0 0)) = T.d (.atom (.slice none 0 0))), qF, Hn (dM F4_ s_), Hn (aL F4_ F4_ g0), Hl (aM0 F4_ s_)]
def JL : Code := (Tryz.f133.body).getD .skip
def Zo : zU := spF (α := Int) (ρ := Bool) 133 (fun x => [(eI .i64) x]) (fun r => eB r) (fun x => jF x) [] (VX)
theorem Kx {ctr : Ctr} (hC : zA Tryz.prog ctr) : Zo.Ok Tryz.prog := by
 refine zC ?_
 rintro x_ r0 hf0
 try unfold jF at hf0
 refine yO true [(2, none)] JL 6 Tryz.func133 fun E hE => ?_
 obtain rfl := zf hf0
 exact yE X0 hC hE []
def UP : Code := (Tryz.f121.body).getD .skip
def uK : zU := spF (α := Int × Int) (ρ := Int) 121 (fun x => [(eI .i64) x.1, (eI .i64) x.2]) (fun r => (eI .i64) r) (fun x => vQ x.1 x.2) [] (Wu)
theorem Qk {ctr : Ctr} (hC : zA Tryz.prog ctr) (h0v : ctr.Has Zo) : uK.Ok Tryz.prog := by
 refine zC ?_
 rintro ⟨x_, y_⟩ r0 hf0
 try unfold vQ at hf0
 refine yO true [(4, none)] UP 20 Tryz.func121 fun E hE => ?_
 obtain ⟨r_, h0, hf0⟩ := zg hf0
 obtain ⟨r_1, h1, hf0⟩ := zg hf0
 let Z0 : List HO := [Hc h0v (x := x_) h0 (loC (eI .i64) x_ <| loN), Hc h0v (x := y_) h1 (loC (eI .i64) y_ <| loN)]
 rcases zP hf0 with ⟨c0, hf0⟩ | ⟨c0, hf0⟩
 ·rcases zP hf0 with ⟨c1, hf0⟩ | ⟨c1, hf0⟩
  ·obtain rfl := zf hf0
   exact yE X0 hC hE (Z0 ++ [Hq c0, Hq c1])
  ·obtain rfl := zf hf0
   exact yE X0 hC hE (Z0 ++ [Hq c0, Hq c1])
 ·rcases zP hf0 with ⟨c2, hf0⟩ | ⟨c2, hf0⟩
  ·obtain rfl := zf hf0
   exact yE X0 hC hE (Z0 ++ [Hq c0, Hq c2])
  ·rcases zP hf0 with ⟨c3, hf0⟩ | ⟨c3, hf0⟩
   ·obtain rfl := zf hf0
    exact yE X0 hC hE (Z0 ++ [Hq c0, Hq c2, Hq c3])
   ·rcases zP hf0 with ⟨c4, hf0⟩ | ⟨c4, hf0⟩
    ·obtain rfl := zf hf0
     exact yE X0 hC hE (Z0 ++ [Hq c0, Hq c2, Hq c3, Hq c4])
    ·obtain rfl := zf hf0
     exact yE X0 hC hE (Z0 ++ [Hq c0, Hq c2, Hq c3, Hq c4])
def vw : Code := (Tryz.f122.body).getD .skip
def vm : zU := spF (α := List Int × List Int) (ρ := Int) 122 (fun x => [F4_ x.1, F4_ x.2]) (fun r => (eI .i64) r) (fun x => xG x.1 x.2) [] (Wu)
abbrev ZX (s1 : List Int) (s2 : List Int) : List (Nat × T) := [(0, .d (eSl 1 false (eI .i64) s1)), (1, .d (eSl 1 false (eI .i64) s2))]
abbrev ZW (s1 : List Int) (s2 : List Int) (x11 : Int) : List (Nat × T) := [(0, .d (eSl 1 false (eI .i64) s1)), (1, .d (eSl 1 false (eI .i64) s2)), (9, .d (eSl 1 false (eI .i64) s1)), (10, .d (I ((s1.length : Nat) : Int))), (11, .d (I x11))]
theorem Xg {ctr : Ctr} (hC : zA Tryz.prog ctr) (h0l : ctr.Has uK) : vm.Ok Tryz.prog := by
 refine zC ?_
 rintro ⟨s1, s2⟩ r0 hf0
 try unfold xG at hf0
 refine yO true [(4, none)] vw 36 Tryz.func122 fun E hE => ?_
 refine yJ X0 hC vw [1] [] [0,1] (fun z : Unit => xN s1 s2 = some r0) (fun z => ZX s1 s2) [(0, .d (eSl 1 false (eI .i64) s1)), (1, .d (eSl 1 false (eI .i64) s2))] [Hh (.cut 1)] ?_ fun J1 hJ1 => ?_
 ·rintro ⟨⟩ hf0
  unfold xN at hf0
  let Z0 : List HO := [Ha (lnM (eI .i64) s1), Ha (lnM (eI .i64) s2)]
  rcases zP hf0 with ⟨c0, hf0⟩ | ⟨c0, hf0⟩
  ·obtain rfl := zf hf0
   exact yE X0 hC hE (Z0 ++ [Hq c0])
  ·obtain rfl := zf hf0
   exact yE X0 hC hE (Z0 ++ [Hq c0])
 ·obtain ⟨t2, ht2, hf0⟩ := zg hf0
  refine yL X0 hC vw [1,2,1,0] [J1] (fun s => yp s1 s2 s) (fun x => ZW s1 s2 x) 0 ht2  [Ha (lnM (eI .i64) s1)] ?_
  rintro x11 m2 lr1 hf1 hl1 J2 hJ2
  try unfold yp at hf1
  rcases zP hf1 with ⟨c1, hf1⟩ | ⟨c1, hf1⟩
  ·obtain ⟨s_e, h0, hf1⟩ := zg hf1
   let Z1 : List HO := [Hq c1, Hi (eI .i64) h0, Ha (lnM (eI .i64) s2)]
   rcases zP hf1 with ⟨c2, hf1⟩ | ⟨c2, hf1⟩
   ·obtain rfl := zf hf1
    obtain rfl := hl1
    obtain rfl := zf hf0
    exact yE X0 hC hE (Z1 ++ [Hq c2])
   ·obtain ⟨s_e1, h1, hf1⟩ := zg hf1
    obtain ⟨r_, h2, hf1⟩ := zg hf1
    let Z2 : List HO := (Z1 ++ [Hq c2, Hi (eI .i64) h1, Hc h0l (x := (s_e, s_e1)) h2 (loC (eI .i64) s_e <| loC (eI .i64) s_e1 <| loN)])
    rcases zP hf1 with ⟨c3, hf1⟩ | ⟨c3, hf1⟩
    ·obtain rfl := zf hf1
     obtain rfl := hl1
     obtain rfl := zf hf0
     exact yE X0 hC hE (Z2 ++ [Hq c3])
    ·obtain rfl := zf hf1
     exact yB X0 hC hJ2 (w64 (x11 + 1)) hl1 (Z2 ++ [Hq c3])
  ·obtain rfl := zf hf1
   obtain rfl := hl1
   exact yB X0 hC hJ1 () hf0 [Hq c1]
def Wc : Code := (Tryz.f120.body).getD .skip
def XM : zU := spF (α := List Int) (ρ := Int) 120 (fun x => [F4_ x]) (fun r => (eI .i64) r) (fun x => Xr x) [] (VX)
abbrev K8 : List (Nat × T) := [(3, .d (I 0))]
abbrev K7 (vals : List Int) (x8 : Int) : List (Nat × T) := [(3, .d (I 0)), (6, .d (eSl 1 false (eI .i64) vals)), (7, .d (I ((vals.length : Nat) : Int))), (8, .d (I x8))]
theorem z3h {ctr : Ctr} (hC : zA Tryz.prog ctr) : XM.Ok Tryz.prog := by
 refine zC ?_
 rintro vals r0 hf0
 try unfold Xr at hf0
 refine yO true [(2, none)] Wc 18 Tryz.func120 fun E hE => ?_
 refine yJ X0 hC Wc [1,1] [] [3] (fun z : Unit => ZQ = some r0) (fun z => K8) [(0, .d (eSl 1 false (eI .i64) vals)), (3, .d (I 0))] [Hh (.cut 2)] ?_ fun J1 hJ1 => ?_
 ·rintro ⟨⟩ hf0
  unfold ZQ at hf0
  obtain rfl := zf hf0
  exact yE X0 hC hE []
 ·obtain ⟨t2, ht2, hf0⟩ := zg hf0
  refine yL X0 hC Wc [1,1,2,1,0] [J1] (fun s => qA vals s) (fun x => K7 vals x) 0 ht2  [Ha (lnM (eI .i64) vals)] ?_
  rintro x8 m2 lr1 hf1 hl1 J2 hJ2
  try unfold qA at hf1
  rcases zP hf1 with ⟨c0, hf1⟩ | ⟨c0, hf1⟩
  ·obtain ⟨val_e, h0, hf1⟩ := zg hf1
   rcases zP hf1 with ⟨c1, hf1⟩ | ⟨c1, hf1⟩
   ·obtain rfl := zf hf1
    obtain rfl := hl1
    obtain rfl := zf hf0
    exact yE X0 hC hE [Hq c0, Hi (eI .i64) h0, Hq c1]
   ·obtain rfl := zf hf1
    exact yB X0 hC hJ2 (w64 (x8 + 1)) hl1 [Hq c0, Hi (eI .i64) h0, Hq c1]
  ·obtain rfl := zf hf1
   obtain rfl := hl1
   exact yB X0 hC hJ1 () hf0 [Hq c0]
def JE : Code := (Tryz.f105.body).getD .skip
def uj : zU := spF (α := List Int × List Int) (ρ := Int) 105 (fun x => [F4_ x.1, F4_ x.2]) (fun r => (eI .i64) r) (fun x => x3 x.1 x.2) [] (Wu)
theorem Ko {ctr : Ctr} (hC : zA Tryz.prog ctr) (h0l : ctr.Has uK) (h0N : ctr.Has vm) (h0w : ctr.Has XM) : uj.Ok Tryz.prog := by
 refine zC ?_
 rintro ⟨a_, b_⟩ r0 hf0
 try unfold x3 at hf0
 refine yO true [(4, none)] JE 15 Tryz.func105 fun E hE => ?_
 obtain ⟨r_, h0, hf0⟩ := zg hf0
 obtain ⟨r_1, h1, hf0⟩ := zg hf0
 obtain ⟨r_2, h2, hf0⟩ := zg hf0
 obtain rfl := zf hf0
 exact yE X0 hC hE [Ha (lnM (eI .i64) a_), Ha (lnM (eI .i64) b_), Hc h0l (x := (((a_.length : Nat) : Int), ((b_.length : Nat) : Int))) h0 (loC (eI .i64) ((a_.length : Nat) : Int) <| loC (eI .i64) ((b_.length : Nat) : Int) <| loN), Hc h0N (x := (a_, b_)) h1 (loC F4_ a_ <| loC F4_ b_ <| loN), Hg (z0i h0w), Hm (shM (eI .i64) (eI .i64) ([r_, r_1])), Hs (z0j h0w (x := [r_, r_1]) h2 (loC F1_ ([r_, r_1] : List Int) <| loN))]
def QF : Code := (Tryz.f107.body).getD .skip
def km : zU := spF (α := List Int × List Int) (ρ := Bool) 107 (fun x => [F4_ x.1, F4_ x.2]) (fun r => eB r) (fun x => uq x.1 x.2) [] (Wu)
theorem Jx {ctr : Ctr} (hC : zA Tryz.prog ctr) (h0a : ctr.Has uj) : km.Ok Tryz.prog := by
 refine zC ?_
 rintro ⟨a_, b_⟩ r0 hf0
 try unfold uq at hf0
 refine yO true [(4, none)] QF 9 Tryz.func107 fun E hE => ?_
 obtain ⟨r_, h0, hf0⟩ := zg hf0
 obtain rfl := zf hf0
 exact yE X0 hC hE [Hc h0a (x := (a_, b_)) h0 (loC F4_ a_ <| loC F4_ b_ <| loN)]
def zL : Code := (Tryz.f106.body).getD .skip
def xS : zU := spF (α := List (List Int) × Unit) (ρ := List (List Int)) 106 (fun x => [z6M x.1, (Zr 107) x.2]) (fun r => z6M r) (fun x => yD x.1 x.2) [true, false] (by
 rintro ⟨a0, a1⟩ ⟨b0, b1⟩ h
 have e0 := uI.inj (f := z6M) _ _ (List.cons.inj h).1
 replace h := (List.cons.inj h).2
 have e1 := uI.inj (f := (Zr 107)) _ _ (List.cons.inj h).1
 subst e0 e1
 rfl)
abbrev jS (s_ : List (List Int)) : List (Nat × T) := [(0, .own (eOs 1 false F4_ s_))]
abbrev jR (s_ : List (List Int)) (k_ : Int) : List (Nat × T) := [(0, .own (eOs 1 false F4_ s_)), (1, .d (.fn 107 [])), (5, .d (I k_))]
abbrev jQ (s_1 : List (List Int)) (k_1 : Int) : List (Nat × T) := [(0, .own (eOs 1 false F4_ s_1)), (5, .d (I k_1))]
abbrev jP (pv0 : Value) (k_ : Int) (k2 : Int) (s_3 : List (List Int)) (k_3 : Int) : List (Nat × T) := [(0, .own (eOs 1 false F4_ s_3)), (1, .d (.fn 107 [])), (5, .d (I k_3)), (6, .d (.atom (X2 1 pv0 k_))), (7, .d (I k2))]
abbrev jN (pv0 : Value) (k_ : Int) (s_2 : List (List Int)) (k_2 : Int) (k2 : Int) : List (Nat × T) := [(0, .own (eOs 1 false F4_ s_2)), (1, .d (.fn 107 [])), (5, .d (I k_2)), (6, .d (.atom (X2 1 pv0 k_))), (7, .d (I k2))]
abbrev jO (s_ : List (List Int)) (k_ : Int) : List (Nat × T) := [(0, .own (eOs 1 false F4_ s_)), (1, .d (.fn 107 [])), (5, .d (I k_))]
def zm : XH Tryz.prog := ((zje zp 64).or X0)
theorem Zi {ctr : Ctr} (hC : zA Tryz.prog ctr) (h0x : ctr.Has km) : xS.Ok Tryz.prog := by
 refine zC ?_
 rintro ⟨s_, eq⟩ r0 hf0
 try unfold yD at hf0
 refine yO true [(4, none)] zL 66 Tryz.func106 fun E hE => ?_
 refine z2P (y := eOs 1 false F4_ s_) rfl 0 (by kernel_rfl) (by kernel_rfl) fun pv0 hv0 => ?_
 let Z0 : List HO := [Ha (lnM F4_ s_)]
 rcases zP hf0 with ⟨c0, hf0⟩ | ⟨c0, hf0⟩
 ·obtain rfl := zf hf0
  exact yE zm hC hE (Z0 ++ [Hq c0])
 ·refine yJ zm hC zL [1,1] [] [0] (fun z : Unit => xV s_ = some r0) (fun z => jS s_) [(0, .own (eOs 1 false F4_ s_)), (1, .d (.fn 107 []))] (Z0 ++ [Hq c0, Hh (.cut 0)]) ?_ fun J1 hJ1 => ?_
  ·rintro ⟨⟩ hf0
   unfold xV at hf0
   obtain rfl := zf hf0
   exact yE zm hC hE []
  ·obtain ⟨t2, ht2, hf0⟩ := zg hf0
   refine yL zm hC zL [1,1,2,1,0] [J1] (fun s => yj s_ s) (fun x => jO s_ x) 1 ht2  [] ?_
   rintro k_ m2 lr1 hf1 hl1 J2 hJ2
   try unfold yj at hf1
   let Z1 : List HO := [Ha (lnM F4_ s_)]
   rcases zP hf1 with ⟨c1, hf1⟩ | ⟨c1, hf1⟩
   ·refine yJ zm hC zL [1,1,2,1,0,0,1] [J1, J2] [0,1,5] (fun z : Unit => yV k_ = some lr1) (fun z => jR s_ k_) [(0, .own (eOs 1 false F4_ s_)), (1, .d (.fn 107 [])), (5, .d (I k_))] (Z1 ++ [Hq c1, Hh (.cut 0)]) ?_ fun J3 hJ3 => ?_
    ·rintro ⟨⟩ hf1
     unfold yV at hf1
     obtain rfl := zf hf1
     exact yB zm hC hJ2 (w64 (k_ + 1)) hl1 []
    ·obtain ⟨s__e, h0, hf1⟩ := zg hf1
     obtain ⟨s__e1, h1, hf1⟩ := zg hf1
     obtain ⟨r_, h2, hf1⟩ := zg hf1
     let Z2 : List HO := [Hn (iL F4_ h0), Hs (iM F4_ h0), Hn (iL F4_ h1), Hs (iM F4_ h1), Hc h0x (x := (s__e, s__e1)) h2 (loC F4_ s__e <| loC F4_ s__e1 <| loN)]
     rcases zP hf1 with ⟨c2, hf1⟩ | ⟨c2, hf1⟩
     ·obtain ⟨g0, hf1⟩ := gdE hf1
      refine yJ ((xAs Tryz.prog 6 (X2 1 pv0 k_)).or ((xVw zp 31 0 pv0).or zm)) hC zL [1,1,2,1,0,0,1,2,0,1,0,1] [J1, J2, J3] [0,5] (fun z : List (List Int) × Int => y5 z.1 z.2 = some lr1) (fun z => jQ z.1 z.2) [(0, .own (eOs 1 false F4_ s_)), (1, .d (.fn 107 [])), (5, .d (I k_)), (6, .d (.atom (X2 1 pv0 k_)))] (Z2 ++ [Hq c2, Hn (⟨.inl rfl, rfl⟩ : (T.als 0 [] 0 0 = T.als 0 [] 0 0 ∨ T.als 0 [] 0 0 = T.d (.atom pv0)) ∧ some pv0 = some pv0), Hn (⟨g0.1, cuB F4_ g0⟩ : (0 : Int) ≤ k_ ∧ k_.toNat ≤ (s_.map F4_).length), Hn (rfl : T.d (.atom (X2 1 pv0 k_)) = T.d (.atom (X2 1 pv0 k_))), Hh (.cut 1)]) ?_ fun J4 hJ4 => ?_
      ·rintro ⟨s_1, k_1⟩ hf1
       unfold y5 at hf1
       obtain ⟨g1, hf1⟩ := gdE hf1
       obtain ⟨g2, hf1⟩ := gdE hf1
       obtain ⟨g3, hf1⟩ := gdE hf1
       obtain rfl := zf hf1
       obtain rfl := hl1
       obtain rfl := zf hf0
       exact yE ((xVc zp 61 1 0 pv0 k_1).or ((xVw zp 61 0 pv0).or zm)) hC hE [Hn (⟨.inl rfl, rfl⟩ : (T.als 0 [] 0 0 = T.als 0 [] 0 0 ∨ T.als 0 [] 0 0 = T.d (.atom pv0)) ∧ some pv0 = some pv0), Hn (⟨g1.1, cuB F4_ g1⟩ : (0 : Int) ≤ k_1 ∧ k_1.toNat ≤ (s_1.map F4_).length), Hn (⟨rfl, rfl⟩ : T.d (.atom (X2 1 pv0 k_1)) = T.d (.atom (X2 1 pv0 k_1)) ∧ some pv0 = some pv0), Hn (⟨g2.1, cuB F4_ g2, dM F4_ s_1⟩ : (0 : Int) ≤ k_1 ∧ k_1.toNat ≤ (s_1.map F4_).length ∧ A.areD (s_1.map F4_) = true), Hx (.l ((s_1.take k_1.toNat ++ List.replicate (s_1.length - k_1.toNat) []).map F4_)) (vcM F4_ s_1 k_1.toNat ([] : List Int)), Hn g3.1, Hn (cuB F4_ g3), Hl (cuM F4_ (s_1.take k_1.toNat ++ List.replicate (s_1.length - k_1.toNat) []) k_1)]
      ·obtain ⟨t5, ht5, hf1⟩ := zg hf1
       refine yL zm hC zL [1,1,2,1,0,0,1,2,0,1,0,1,2,1,0] [J1, J2, J3, J4] (fun s => zZ k_ s.1 s.2.1 s.2.2) (fun x => jN pv0 k_ x.1 x.2.1 x.2.2) (s_, k_, 1) ht5  [] ?_
       rintro ⟨s_2, k_2, k2⟩ m5 lr2 hf2 hl2 J5 hJ5
       try unfold zZ at hf2
       let Z3 : List HO := [Hn (⟨rfl, rfl⟩ : T.d (.atom (X2 1 pv0 k_)) = T.d (.atom (X2 1 pv0 k_)) ∧ some pv0 = some pv0), Hx (.a (.atom (.int .i64 ((s_2.length - k_.toNat : Nat) : Int)))) (vlM F4_ s_2 k_.toNat)]
       rcases zP hf2 with ⟨c3, hf2⟩ | ⟨c3, hf2⟩
       ·refine yJ ((xVl zp 34 29 1 0 pv0 k_ (by kernel_rfl)).or zm) hC zL [1,1,2,1,0,0,1,2,0,1,0,1,2,1,0,0,1] [J1, J2, J3, J4, J5] [0,1,5,6,7] (fun z : List (List Int) × Int => y4 k2 z.1 z.2 = some lr2) (fun z => jP pv0 k_ k2 z.1 z.2) [(0, .own (eOs 1 false F4_ s_2)), (1, .d (.fn 107 [])), (5, .d (I k_2)), (6, .d (.atom (X2 1 pv0 k_))), (7, .d (I k2))] (Z3 ++ [Hq c3, Hh (.cut 0)]) ?_ fun J6 hJ6 => ?_
        ·rintro ⟨s_3, k_3⟩ hf2
         unfold y4 at hf2
         obtain rfl := zf hf2
         exact yB zm hC hJ5 (s_3, k_3, w64 (k2 + 1)) hl2 []
        ·obtain ⟨g4, hf2⟩ := gdE hf2
         obtain ⟨s__e2, h3, hf2⟩ := zg hf2
         obtain ⟨g5, hf2⟩ := gdE hf2
         obtain ⟨s__e3, h4, hf2⟩ := zg hf2
         obtain ⟨r_1, h5, hf2⟩ := zg hf2
         let Z4 : List HO := [Hn (⟨rfl, rfl⟩ : T.d (.atom (X2 1 pv0 k_)) = T.d (.atom (X2 1 pv0 k_)) ∧ some pv0 = some pv0), Hn (⟨g4.1, g4.2, (iL F4_ h3).2⟩ : (0 : Int) ≤ k_ ∧ (0 : Int) ≤ k2 ∧ (k_ + k2).toNat < (s_2.map F4_).length), Hs (iM F4_ h3), Hn (⟨rfl, rfl⟩ : T.d (.atom (X2 1 pv0 k_)) = T.d (.atom (X2 1 pv0 k_)) ∧ some pv0 = some pv0), Hn (⟨g5.1, g5.2, (iL F4_ h4).2⟩ : (0 : Int) ≤ k_ ∧ (0 : Int) ≤ w64 (k2 - 1) ∧ (k_ + (w64 (k2 - 1))).toNat < (s_2.map F4_).length), Hs (iM F4_ h4), Hc h0x (x := (s__e2, s__e3)) h5 (loC F4_ s__e2 <| loC F4_ s__e3 <| loN)]
         rcases zP hf2 with ⟨c4, hf2⟩ | ⟨c4, hf2⟩
         ·obtain ⟨g6, hf2⟩ := gdE hf2
          obtain ⟨s__e4, h6, hf2⟩ := zg hf2
          obtain ⟨s__e5, h7, hf2⟩ := zg hf2
          exact yB ((xVi zp 54 1 0 pv0 k_).or ((xVi zp 46 1 0 pv0 k_).or ((xVi zp 41 1 0 pv0 k_).or zm))) hC hJ6 ((s_2.set k_2.toNat s__e4), w64 (k_2 + 1)) hf2 (Z4 ++ [Hq c4, Hn (⟨rfl, rfl⟩ : T.d (.atom (X2 1 pv0 k_)) = T.d (.atom (X2 1 pv0 k_)) ∧ some pv0 = some pv0), Hn (⟨g6.1, g6.2, (iL F4_ h6).2⟩ : (0 : Int) ≤ k_ ∧ (0 : Int) ≤ k2 ∧ (k_ + k2).toNat < (s_2.map F4_).length), Hs (iM F4_ h6), Hn (iL F4_ h7), Hs (iM F4_ h7), Hs (iM F4_ h7), Hl (sM F4_ s_2 k_2 s__e4)])
         ·exact yB ((xVi zp 46 1 0 pv0 k_).or ((xVi zp 41 1 0 pv0 k_).or zm)) hC hJ6 (s_2, k_2) hf2 (Z4 ++ [Hq c4])
       ·obtain rfl := zf hf2
        obtain rfl := hl2
        exact yB ((xVl zp 34 29 1 0 pv0 k_ (by kernel_rfl)).or zm) hC hJ4 (s_2, k_2) hf1 (Z3 ++ [Hq c3])
     ·exact yB zm hC hJ3 () hf1 (Z2 ++ [Hq c2])
   ·obtain rfl := zf hf1
    obtain rfl := hl1
    exact yB zm hC hJ1 () hf0 (Z1 ++ [Hq c1])
def YC : Code := (Tryz.f93.body).getD .skip
def yP : zU := spR (α := List (List Int)) (ρ := List (List Int)) 93 (fun x => [z6M x]) (fun r => (eOs 1 true F4_) r) (fun x => xl x) [true] (VX)
theorem Yz : ∀ x r, (fun x => xl x) x = some r → (VH.add yP).run 93 ((VH.add yP).norm 93 ((fun x => [z6M x]) x)) = some ((fun r => (eOs 1 true F4_) r) r) := fun x r h => ziX h rfl
theorem YA : (VH.add yP).lend 93 = none ∧ (VH.add yP).gives 93 = [true] := zeD
theorem vh {ctr : Ctr} (hC : zA Tryz.prog ctr) : yP.Ok Tryz.prog := by
 refine zaW ?_
 rintro s_ r0 hf0
 try unfold xl at hf0
 refine yO true [(2, none)] YC 9 Tryz.func93 fun E hE => ?_
 obtain rfl := zf hf0
 exact yE ((xCl zp 8).or X0) hC hE [Ha (lnM F4_ s_), Ha (lnM F4_ s_), Hn (Int.natCast_nonneg _ : (0 : Int) ≤ ((s_.length : Nat) : Int)), Hn (Int.natCast_nonneg _ : (0 : Int) ≤ ((s_.length : Nat) : Int)), Hn (clB F4_ s_), Ha (clE 1 F4_ s_)]
def X4 : Code := (Tryz.f90.body).getD .skip
def qL : zU := spF (α := List (List Int)) (ρ := Int) 90 (fun x => [uH x]) (fun r => (eI .i64) r) (fun x => qX x) [] (VX)
abbrev QJ (n_ : Int) : List (Nat × T) := [(2, .d (I n_))]
abbrev QI (l_ : List (List Int)) (n_1 : Int) (x7 : Int) : List (Nat × T) := [(2, .d (I n_1)), (5, .d (eSl 1 false F4_ l_)), (6, .d (I ((l_.length : Nat) : Int))), (7, .d (I x7))]
theorem z1V {ctr : Ctr} (hC : zA Tryz.prog ctr) : qL.Ok Tryz.prog := by
 refine zC ?_
 rintro l_ r0 hf0
 try unfold qX at hf0
 refine yO true [(2, none)] X4 17 Tryz.func90 fun E hE => ?_
 refine yJ X0 hC X4 [1] [] [2] (fun z : Int => YO z = some r0) (fun z => QJ z) [(0, .d (eSl 1 false F4_ l_)), (2, .d (I 0))] [Hh (.cut 1)] ?_ fun J1 hJ1 => ?_
 ·rintro n_ hf0
  unfold YO at hf0
  obtain rfl := zf hf0
  exact yE X0 hC hE []
 ·obtain ⟨t2, ht2, hf0⟩ := zg hf0
  refine yL X0 hC X4 [1,2,1,0] [J1] (fun s => up l_ s.1 s.2) (fun x => QI l_ x.1 x.2) (0,0) ht2  [Ha (lnM F4_ l_)] ?_
  rintro ⟨n_1, x7⟩ m2 lr1 hf1 hl1 J2 hJ2
  try unfold up at hf1
  rcases zP hf1 with ⟨c0, hf1⟩ | ⟨c0, hf1⟩
  ·obtain ⟨l__e, h0, hf1⟩ := zg hf1
   obtain rfl := zf hf1
   exact yB X0 hC hJ2 (w64 (n_1 + ((l__e.length : Nat) : Int)), w64 (x7 + 1)) hl1 [Hq c0, Hi F4_ h0, Ha (lnM (eI .i64) l__e)]
  ·obtain rfl := zf hf1
   obtain rfl := hl1
   exact yB X0 hC hJ1 n_1 hf0 [Hq c0]
def wL : Code := (Tryz.f72.body).getD .skip
def uX : zU := spF (α := List (List Int)) (ρ := List (List Int) × Int) 72 (fun x => [uH x]) (fun r => .tup [Zd r.1, (eI .i64) r.2]) (fun x => xx x) [] (VX)
abbrev Q1 (out : List (List Int × Bool)) : List (Nat × T) := [(4, .own (eOs 1 true (eFl 1 (eI .i64)) out))]
abbrev Q0 (pv4 : Value) (r_2 : List (List Int)) (out2 : List (List Int × Bool)) (x24 : Int) : List (Nat × T) := [(4, .own (eOs 1 true (eFl 1 (eI .i64)) out2)), (22, .d (.atom (X2 1 pv4 (0 : Int)))), (23, .d (I ((r_2.length - (0 : Int).toNat : Nat) : Int))), (24, .d (I x24))]
theorem z0W {ctr : Ctr} (hC : zA Tryz.prog ctr) (h0O : ctr.Has vJ) (h0a : ctr.Has uj) (h0P : ctr.Has xS) (h07 : ctr.Has qL) (h04 : ctr.Has yk) (h01 : ctr.Has zO) : uX.Ok Tryz.prog := by
 refine zC ?_
 rintro l_ r0 hf0
 try unfold xx at hf0
 refine yO false [(2, none), (3, none)] wL 37 Tryz.func72 fun E hE => ?_
 obtain ⟨r_, h0, hf0⟩ := zg hf0
 refine yA X0 hC wL [1,1] [] [(4, .own (eOs 1 false F4_ r_))] [Hc h0O (x := l_) h0 (loC uH l_ <| loN), Hh (.cut 0)] ?_
 obtain ⟨sorted, h1, hf0⟩ := zg hf0
 refine z4i (by kernel_rfl) (x := (sub [1,1,0] wL)) (y := (sub [1,1,1] wL)) 4 (fun st1 => Own.canon [4] st1 = ofL [(4, .own (eOs 1 false F4_ sorted))]) (fun pv4 => yF ((wV (P := Tryz.prog) x6 [4] (z7f ze0 (f := F4_) (t := false) (v := pv4) (fun _ => rfl) (fun _ => rfl) (fun x y c h => yG hC h0a (x := (x, y)) h) h1) 10).or X0) hC .normal [(4, .own (eOs 1 false F4_ sorted))] [Hn (jt (f := .fn 104 []) (xs := [.atom pv4, .fn 105 []]) (ls := [(pv4, eOs 1 false F4_ r_)]) (r := .tup []) (ys := [eOs 1 false F4_ sorted]) [.atom pv4, .fn 105 []] (show Kn [.atom pv4, .fn 105 []] [.atom pv4, .fn 105 []] from inferInstance))] fun st0 h0 => ⟨rfl, h0⟩) fun st1 h1 => z6J h1 ?_
 obtain ⟨r_1, h2, hf0⟩ := zg hf0
 obtain ⟨r_2, h3, hf0⟩ := zg hf0
 let Z0 : List HO := [Hc h0P (x := (sorted, ())) h2 (loC z6M sorted <| loC (Zr 107) () <| loN), Hh (.g [true]), Hn YA, Hx (.a ((eOs 1 true F4_) r_2)) (Yz r_1 _ h3), Ha (lnM F4_ r_2)]
 rcases zP hf0 with ⟨c0, hf0⟩ | ⟨c0, hf0⟩
 ·obtain rfl := zf hf0
  exact yEx ((Qi zp (vh hC) 13).or X0) hC hE (Z0 ++ (rpN 4 (Hq c0) [qT, Hm (shM F4_ F4_ [])])) (.tup [eSl 1 true F1_ [], I 3]) (show LeV (.tup [eSl 1 true F1_ [], I 3]) (.tup [eSl 1 true F1_ ([] : List (List Int)), I 3]) from inferInstance)
 ·obtain ⟨r_3, h4, hf0⟩ := zg hf0
  let Z1 : List HO := (Z0 ++ [Hq c0, Hq c0, Hg (z0i h07), Hm (shM F4_ F4_ r_2), Hs (z0j h07 (x := r_2) h4 (loC (eSl 1 true F4_) r_2 <| loN)), Hq c0, Hq c0])
  rcases zP hf0 with ⟨c1, hf0⟩ | ⟨c1, hf0⟩
  ·obtain rfl := zf hf0
   exact yEx ((Qi zp (vh hC) 13).or X0) hC hE (Z1 ++ [Hq c1, Hm (shM F4_ F4_ [])]) (.tup [eSl 1 true F1_ [], I 3]) (show LeV (.tup [eSl 1 true F1_ [], I 3]) (.tup [eSl 1 true F1_ ([] : List (List Int)), I 3]) from inferInstance)
  ·refine yA ((Qi zp (vh hC) 13).or X0) hC wL [1,1,1,1,1] [] [(4, .own (eOs 1 true F4_ r_2))] (Z1 ++ [Hq c1, Hh (.cut 0)]) ?_
   refine z2P (y := eOs 1 true F4_ r_2) (by kernel_rfl) 4 (by kernel_rfl) (by kernel_rfl) fun pv4 hv4 => ?_
   refine yJ X0 hC wL [1,1,1,1,1] [] [4] (fun z : List (List Int × Bool) => jr z = some r0) (fun z => Q1 z) [(4, .own (eOs 1 true F4_ r_2))] [Hh (.cut 0)] ?_ fun J1 hJ1 => ?_
   ·rintro out hf0
    unfold jr at hf0
    obtain ⟨hfl0, hf0⟩ := gdE hf0
    obtain rfl := zf hf0
    exact yEx X0 hC hE [Hm (shM (eFl 1 (eI .i64)) (eFl 1 (eI .i64)) out)] (.tup [eSl 1 true (eFl 1 (eI .i64)) out, I 0]) (haveI := flA (s := 1) (t := 1) (b := true) (f := (eI .i64)) hfl0; show LeV (.tup [eSl 1 true (eFl 1 (eI .i64)) out, I 0]) (.tup [eSl 1 true F1_ (out.map (·.1)), I 0]) from inferInstance)
   ·obtain ⟨t2, ht2, hf0⟩ := zg hf0
    refine yLx ((xVl zp 23 29 1 4 pv4 (0 : Int) (by kernel_rfl)).or ((xMw Tryz.prog 22 4 1 pv4).or X0)) hC wL [1,1,1,1,1,2,1,0] [J1] (fun s => xP r_2 s.1 s.2) (fun x => Q0 pv4 r_2 x.1 x.2) ((r_2.map fun q => (q, false)), 0) ht2 [(4, .own (eOs 1 true F4_ r_2)), (22, .d (.atom (X2 1 pv4 (0 : Int)))), (23, .d (I ((r_2.length - (0 : Int).toNat : Nat) : Int))), (24, .d (I 0))] inferInstance [Hn (rfl : some pv4 = some pv4), Hn (⟨rfl, rfl⟩ : T.d (.atom (X2 1 pv4 (0 : Int))) = T.d (.atom (X2 1 pv4 (0 : Int))) ∧ some pv4 = some pv4), Hx (.a (.atom (.int .i64 ((r_2.length - (0 : Int).toNat : Nat) : Int)))) (vlM F4_ r_2 (0 : Int).toNat)] ?_
    rintro ⟨out2, x24⟩ m2 lr1 hf1 hl1 J2 hJ2
    try unfold xP at hf1
    rcases zP hf1 with ⟨c2, hf1⟩ | ⟨c2, hf1⟩
    ·obtain ⟨g0, hf1⟩ := gdE hf1
     obtain ⟨out_e, h5, hf1⟩ := zg hf1
     obtain ⟨r_4, h6, hf1⟩ := zg hf1
     obtain ⟨r_5, h7, hf1⟩ := zg hf1
     obtain ⟨out_e1, h8, hf1⟩ := zg hf1
     obtain rfl := zf hf1
     exact yB ((xVi zp 27 1 4 pv4 (0 : Int)).or X0) hC hJ2 ((out2.set x24.toNat (r_5, true)), w64 (x24 + 1)) hl1 [Hq c2, Hn (⟨rfl, rfl⟩ : T.d (.atom (X2 1 pv4 (0 : Int))) = T.d (.atom (X2 1 pv4 (0 : Int))) ∧ some pv4 = some pv4), Hn (⟨g0.1, g0.2, (iL (eFl 1 (eI .i64)) h5).2⟩ : (0 : Int) ≤ 0 ∧ (0 : Int) ≤ x24 ∧ (0 + x24).toNat < (out2.map (eFl 1 (eI .i64))).length), Hs (iM (eFl 1 (eI .i64)) h5), Hc h04 (x := out_e.1) h6 (loC (eSl 1 out_e.2 (eI .i64)) out_e.1 <| loN), Hg (z0i h01), Hm (shM (eI .i64) (eI .i64) r_4), Hs (z0j h01 (x := r_4) h7 (loC F4_ r_4 <| loN)), Hm (shM (eI .i64) (eI .i64) r_4), Hn (iL (eFl 1 (eI .i64)) h8), Hs (iM (eFl 1 (eI .i64)) h8), Hs (iM (eFl 1 (eI .i64)) h8), Hl (sM (eFl 1 (eI .i64)) out2 x24 (r_5, true))]
    ·obtain rfl := zf hf1
     obtain rfl := hl1
     exact yB X0 hC hJ1 out2 hf0 [Hq c2]
def z2L : Code := (Tryz.f35.body).getD .skip
def XF : zU := spF (α := List (List Int) × Int) (ρ := List (List Int) × Int) 35 (fun x => [uH x.1, (eI .i64) x.2]) (fun r => .tup [Zd r.1, (eI .i64) r.2]) (fun x => Va x.1 x.2) [] (Wu)
theorem z38 {ctr : Ctr} (hC : zA Tryz.prog ctr) (h0m : ctr.Has kJ) (h05 : ctr.Has uX) : XF.Ok Tryz.prog := by
 refine zC ?_
 rintro ⟨l_, inputs⟩ r0 hf0
 try unfold Va at hf0
 refine yO false [(4, none), (5, none)] z2L 17 Tryz.func35 fun E hE => ?_
 obtain ⟨r_, h0, hf0⟩ := zg hf0
 let Z0 : List HO := [Hc h0m (x := (l_, inputs)) h0 (loC uH l_ <| loC (eI .i64) inputs <| loN)]
 rcases zP hf0 with ⟨c0, hf0⟩ | ⟨c0, hf0⟩
 ·obtain rfl := zf hf0
  exact yEx X0 hC hE (Z0 ++ [Hq c0, Hm (shM F4_ F4_ [])]) (.tup [eSl 1 true F1_ [], I r_]) (show LeV (.tup [eSl 1 true F1_ [], I r_]) (.tup [eSl 1 true F1_ ([] : List (List Int)), I r_]) from inferInstance)
 ·obtain ⟨r_1, h1, hf0⟩ := zg hf0
  obtain rfl := zf hf0
  exact yE X0 hC hE (Z0 ++ [Hq c0, Hc h05 (x := l_) h1 (loC uH l_ <| loN)])
def JK : Code := (Tryz.f8.body).getD .skip
def uk : zU := spF (α := z7) (ρ := List (List Int) × Int) 8 (fun x => [uf x]) (fun r => .tup [Zd r.1, (eI .i64) r.2]) (fun x => ud x) [] (VX)
theorem Kw {ctr : Ctr} (hC : zA Tryz.prog ctr) (h0Q : ctr.Has uZ) (h0R : ctr.Has Y8) (h0S : ctr.Has XF) : uk.Ok Tryz.prog := by
 refine zC ?_
 rintro m_ r0 hf0
 try unfold ud at hf0
 refine yO false [(2, none), (3, none)] JK 33 Tryz.func8 fun E hE => ?_
 obtain ⟨r_, h0, hf0⟩ := zg hf0
 let Z0 : List HO := [Hc h0Q (x := m_) h0 (loC uf m_ <| loN)]
 rcases zP hf0 with ⟨c0, hf0⟩ | ⟨c0, hf0⟩
 ·obtain rfl := zf hf0
  exact yEx X0 hC hE (Z0 ++ [Hq c0, Hm (shM F4_ F4_ [])]) (.tup [eSl 1 true F1_ [], I r_.2]) (show LeV (.tup [eSl 1 true F1_ [], I r_.2]) (.tup [eSl 1 true F1_ ([] : List (List Int)), I r_.2]) from inferInstance)
 ·rcases zP hf0 with ⟨c1, hf0⟩ | ⟨c1, hf0⟩
  ·obtain rfl := zf hf0
   exact yEx X0 hC hE (Z0 ++ [Hq c0, Hq c1, Hm (shM F4_ F4_ [])]) (.tup [eSl 1 true F1_ [], I 11]) (show LeV (.tup [eSl 1 true F1_ [], I 11]) (.tup [eSl 1 true F1_ ([] : List (List Int)), I 11]) from inferInstance)
  ·obtain ⟨r_1, h1, hf0⟩ := zg hf0
   let Z1 : List HO := (Z0 ++ [Hq c0, Hq c1, Hc h0R (x := m_) h1 (loC uf m_ <| loN)])
   rcases zP hf0 with ⟨c2, hf0⟩ | ⟨c2, hf0⟩
   ·obtain rfl := zf hf0
    exact yEx X0 hC hE (Z1 ++ [Hq c2, Hm (shM F4_ F4_ [])]) (.tup [eSl 1 true F1_ [], I r_1.2.2]) (show LeV (.tup [eSl 1 true F1_ [], I r_1.2.2]) (.tup [eSl 1 true F1_ ([] : List (List Int)), I r_1.2.2]) from inferInstance)
   ·obtain ⟨r_2, h2, hf0⟩ := zg hf0
    obtain rfl := zf hf0
    exact yE X0 hC hE (Z1 ++ [Hq c2, Hc h0S (x := (r_1.1, m_.Inputs)) h2 (loC Zd r_1.1 <| loC (eI .i64) m_.Inputs <| loN)])
def vg : Code := (Tryz.f73.body).getD .skip
def WP : zU := spF (α := Int × Int × Int) (ρ := List (List Int) × Int) 73 (fun x => [(eI .i64) x.1, (eI .i64) x.2.1, (eI .i64) x.2.2]) (fun r => .tup [Zd r.1, (eI .i64) r.2]) (fun x => Xj x.1 x.2.1 x.2.2) [] (ziV)
abbrev z0K (inputs : Int) (from_ : Int) (to : Int) (k_ : Int) (out1 : List (List Int)) (level1 : List (List Int)) (n_1 : Int) (x45 : Int) (x46 : Bool) (x58 : Bool) : List (Nat × T) := [(0, .d (I inputs)), (1, .d (I from_)), (2, .d (I to)), (8, .own (eOs 1 false F4_ out1)), (9, .own (eOs 1 false F4_ level1)), (10, .d (I n_1)), (11, .d (I k_)), (45, .d (I x45)), (46, .d (B x46)), (49, .d (I k_)), (50, .d (I to)), (51, .d (B (decide (k_ < to)))), (52, .d (B (decide (k_ < to)))), (58, .d (B x58))]
abbrev z0H (inputs : Int) (from_ : Int) (to : Int) (k_ : Int) (out2 : List (List Int)) (n_2 : Int) (x581 : Bool) (next : List (List Int)) : List (Nat × T) := [(0, .d (I inputs)), (1, .d (I from_)), (2, .d (I to)), (8, .own (eOs 1 false F4_ out2)), (10, .d (I n_2)), (11, .d (I k_)), (12, .own (eOs 1 false F4_ next)), (45, .d (I n_2)), (46, .d (B (decide (n_2 > 65536)))), (49, .d (I k_)), (50, .d (I to)), (51, .d (B (decide (k_ < to)))), (52, .d (B (decide (k_ < to)))), (58, .d (B x581))]
abbrev z0G (inputs : Int) (from_ : Int) (to : Int) (level : List (List Int)) (k_ : Int) (out2 : List (List Int)) (n_2 : Int) (x581 : Bool) (x69 : Int) (next2 : List (List Int)) : List (Nat × T) := [(0, .d (I inputs)), (1, .d (I from_)), (2, .d (I to)), (8, .own (eOs 1 false F4_ out2)), (9, .own (eOs 1 false F4_ level)), (10, .d (I n_2)), (11, .d (I k_)), (12, .own (eOs 1 false F4_ next2)), (45, .d (I n_2)), (46, .d (B (decide (n_2 > 65536)))), (49, .d (I k_)), (50, .d (I to)), (51, .d (B (decide (k_ < to)))), (52, .d (B (decide (k_ < to)))), (58, .d (B x581)), (67, .als 9 [] 0 0), (68, .d (I ((level.length : Nat) : Int))), (69, .d (I x69))]
abbrev z0D (inputs : Int) (from_ : Int) (to : Int) (level : List (List Int)) (k_ : Int) (out2 : List (List Int)) (n_2 : Int) (x581 : Bool) (x69 : Int) (level_e : List Int) (next3 : List (List Int)) (x74 : Int) : List (Nat × T) := [(0, .d (I inputs)), (1, .d (I from_)), (2, .d (I to)), (8, .own (eOs 1 false F4_ out2)), (9, .own (eOs 1 false F4_ level)), (10, .d (I n_2)), (11, .d (I k_)), (12, .own (eOs 1 false F4_ next3)), (14, .d (eSl 1 false (eI .i64) level_e)), (45, .d (I n_2)), (46, .d (B (decide (n_2 > 65536)))), (49, .d (I k_)), (50, .d (I to)), (51, .d (B (decide (k_ < to)))), (52, .d (B (decide (k_ < to)))), (58, .d (B x581)), (67, .als 9 [] 0 0), (68, .d (I ((level.length : Nat) : Int))), (69, .d (I x69)), (73, .d (I inputs)), (74, .d (I x74))]
abbrev z0E (inputs : Int) (from_ : Int) (to : Int) (level : List (List Int)) (k_ : Int) (out2 : List (List Int)) (n_2 : Int) (x581 : Bool) (next1 : List (List Int)) (x69 : Int) : List (Nat × T) := [(0, .d (I inputs)), (1, .d (I from_)), (2, .d (I to)), (8, .own (eOs 1 false F4_ out2)), (9, .own (eOs 1 false F4_ level)), (10, .d (I n_2)), (11, .d (I k_)), (12, .own (eOs 1 false F4_ next1)), (45, .d (I n_2)), (46, .d (B (decide (n_2 > 65536)))), (49, .d (I k_)), (50, .d (I to)), (51, .d (B (decide (k_ < to)))), (52, .d (B (decide (k_ < to)))), (58, .d (B x581)), (67, .als 9 [] 0 0), (68, .d (I ((level.length : Nat) : Int))), (69, .d (I x69))]
abbrev z0I (inputs : Int) (from_ : Int) (to : Int) (level : List (List Int)) (k_ : Int) (out2 : List (List Int)) (n_2 : Int) (x581 : Bool) : List (Nat × T) := [(0, .d (I inputs)), (1, .d (I from_)), (2, .d (I to)), (8, .own (eOs 1 false F4_ out2)), (9, .own (eOs 1 false F4_ level)), (10, .d (I n_2)), (11, .d (I k_)), (45, .d (I n_2)), (46, .d (B (decide (n_2 > 65536)))), (49, .d (I k_)), (50, .d (I to)), (51, .d (B (decide (k_ < to)))), (52, .d (B (decide (k_ < to)))), (58, .d (B x581))]
abbrev z0J (inputs : Int) (from_ : Int) (to : Int) (level : List (List Int)) (k_ : Int) (out2 : List (List Int)) (n_2 : Int) : List (Nat × T) := [(0, .d (I inputs)), (1, .d (I from_)), (2, .d (I to)), (8, .own (eOs 1 false F4_ out2)), (9, .own (eOs 1 false F4_ level)), (10, .d (I n_2)), (11, .d (I k_))]
abbrev z0F (inputs : Int) (from_ : Int) (to : Int) (out : List (List Int)) (level : List (List Int)) (n_ : Int) (k_ : Int) : List (Nat × T) := [(0, .d (I inputs)), (1, .d (I from_)), (2, .d (I to)), (8, .own (eOs 1 false F4_ out)), (9, .own (eOs 1 false F4_ level)), (10, .d (I n_)), (11, .d (I k_))]
def zM : XH Tryz.prog := ((u0 zp (.inl 83) [82]).or X0)
theorem z4u {ctr : Ctr} (hC : zA Tryz.prog ctr) (h05 : ctr.Has uX) (h01 : ctr.Has zO) : WP.Ok Tryz.prog := by
 refine zC ?_
 rintro ⟨inputs, from_, to⟩ r0 hf0
 try unfold Xj at hf0
 refine yO false [(6, none), (7, none)] vg 88 Tryz.func73 fun E hE => ?_
 rcases zP hf0 with ⟨c0, hf0⟩ | ⟨c0, hf0⟩
 ·obtain rfl := zf hf0
  exact yEx zM hC hE [Hq c0, Hm (shM F4_ F4_ [])] (.tup [eSl 1 true F1_ [], I 3]) (show LeV (.tup [eSl 1 true F1_ [], I 3]) (.tup [eSl 1 true F1_ ([] : List (List Int)), I 3]) from inferInstance)
 ·rcases zP hf0 with ⟨c1, hf0⟩ | ⟨c1, hf0⟩
  ·obtain rfl := zf hf0
   exact yEx zM hC hE [Hq c0, Hq c1, Hq c1, Hq c1, qT, Hm (shM F4_ F4_ [])] (.tup [eSl 1 true F1_ [], I 1]) (show LeV (.tup [eSl 1 true F1_ [], I 1]) (.tup [eSl 1 true F1_ ([] : List (List Int)), I 1]) from inferInstance)
  ·let Z0 : List HO := [Hq c0, Hq c1, Hq c1, Hq c1]
   rcases zP hf0 with ⟨c2, hf0⟩ | ⟨c2, hf0⟩
   ·obtain rfl := zf hf0
    exact yEx zM hC hE (Z0 ++ [Hq c2, Hm (shM F4_ F4_ [])]) (.tup [eSl 1 true F1_ [], I 1]) (show LeV (.tup [eSl 1 true F1_ [], I 1]) (.tup [eSl 1 true F1_ ([] : List (List Int)), I 1]) from inferInstance)
   ·rcases zP hf0 with ⟨c3, hf0⟩ | ⟨c3, hf0⟩
    ·obtain rfl := zf hf0
     exact yEx zM hC hE (Z0 ++ [Hq c2, Hq c3, Hm (shM F4_ F4_ [])]) (.tup [eSl 1 true F1_ [], I 3]) (show LeV (.tup [eSl 1 true F1_ [], I 3]) (.tup [eSl 1 true F1_ ([] : List (List Int)), I 3]) from inferInstance)
    ·obtain ⟨t1, ht1, hf0⟩ := zg hf0
     refine yLx zM hC vg [1,1,1,1,1,1,1,1,0] [] (fun s => vX inputs from_ to s.1 s.2.1 s.2.2.1 s.2.2.2) (fun x => z0F inputs from_ to x.1 x.2.1 x.2.2.1 x.2.2.2) (([] : List (List Int)), ([[]] : List (List Int)), 0,0) ht1 [(0, .d (I inputs)), (1, .d (I from_)), (2, .d (I to)), (8, .own (eOs 1 true F4_ [])), (9, .own (eOs 1 true F1_ ([[]]))), (10, .d (I 0)), (11, .d (I 0))] inferInstance (Z0 ++ [Hq c2, Hq c3, Hh (.v 5 [9]), Hm (shM F2_ F1_ ([[]] : List (List Int)))]) ?_
     rintro ⟨out, level, n_, k_⟩ m1 lr1 hf1 hl1 J1 hJ1
     try unfold vX at hf1
     refine yJ zM hC vg [1,1,1,1,1,1,1,1,0,0] [J1] [0,1,2,8,9,10,11,45,46,49,50,51,52,58] (fun z : List (List Int) × List (List Int) × Int × Int × Bool × Bool => YI k_ z.1 z.2.1 z.2.2.1 z.2.2.2.1 z.2.2.2.2.1 z.2.2.2.2.2 = some lr1) (fun z => z0K inputs from_ to k_ z.1 z.2.1 z.2.2.1 z.2.2.2.1 z.2.2.2.2.1 z.2.2.2.2.2) [(0, .d (I inputs)), (1, .d (I from_)), (2, .d (I to)), (8, .own (eOs 1 false F4_ out)), (9, .own (eOs 1 false F4_ level)), (10, .d (I n_)), (11, .d (I k_))] [Hh (.cut 0)] ?_ fun J2 hJ2 => ?_
     ·rintro ⟨out1, level1, n_1, x45, x46, x58⟩ hf1
      unfold YI at hf1
      obtain rfl := zf hf1
      exact yB zM hC hJ1 (out1, level1, n_1, w64 (k_ + 1)) hl1 []
     ·refine yJ zM hC vg [1,1,1,1,1,1,1,1,0,0,2,0] [J1, J2] [0,1,2,8,9,10,11] (fun z : List (List Int) × Int => je inputs to level k_ z.1 z.2 = some lr1) (fun z => z0J inputs from_ to level k_ z.1 z.2) [(0, .d (I inputs)), (1, .d (I from_)), (2, .d (I to)), (8, .own (eOs 1 false F4_ out)), (9, .own (eOs 1 false F4_ level)), (10, .d (I n_)), (11, .d (I k_))] [Hh (.cut 0)] ?_ fun J3 hJ3 => ?_
      ·rintro ⟨out2, n_2⟩ hf1
       unfold je at hf1
       refine yJ zM hC vg [1,1,1,1,1,1,1,1,0,0,2,0,1] [J1, J2] [0,1,2,8,9,10,11,45,46,49,50,51,52,58] (fun z : Bool => jd inputs to level k_ out2 n_2 z = some lr1) (fun z => z0I inputs from_ to level k_ out2 n_2 z) [(0, .d (I inputs)), (1, .d (I from_)), (2, .d (I to)), (8, .own (eOs 1 false F4_ out2)), (9, .own (eOs 1 false F4_ level)), (10, .d (I n_2)), (11, .d (I k_))] [Hh (.cut 0)] ?_ fun J4 hJ4 => ?_
       ·rintro x581 hf1
        unfold jd at hf1
        rcases zP hf1 with ⟨c4, hf1⟩ | ⟨c4, hf1⟩
        ·obtain ⟨r_, h0, hf1⟩ := zg hf1
         obtain rfl := zf hf1
         obtain rfl := hl1
         obtain rfl := zf hf0
         exact yE zM hC hE [Hq c4, Hg (z0i h05), Hm (shM F4_ F4_ out2), Hs (z0j h05 (x := out2) h0 (loC uH out2 <| loN)), Hm (shM F4_ F4_ out2)]
        ·refine yJ zM hC vg [1,1,1,1,1,1,1,1,0,0,2,0,1,1,1,1] [J1, J2] [0,1,2,8,10,11,12,45,46,49,50,51,52,58] (fun z : List (List Int) => YH k_ out2 n_2 x581 z = some lr1) (fun z => z0H inputs from_ to k_ out2 n_2 x581 z) [(0, .d (I inputs)), (1, .d (I from_)), (2, .d (I to)), (8, .own (eOs 1 false F4_ out2)), (9, .own (eOs 1 false F4_ level)), (10, .d (I n_2)), (11, .d (I k_)), (12, .own (eOs 1 true F4_ [])), (45, .d (I n_2)), (46, .d (B (decide (n_2 > 65536)))), (49, .d (I k_)), (50, .d (I to)), (51, .d (B (decide (k_ < to)))), (52, .d (B (decide (k_ < to)))), (58, .d (B x581))] [Hq c4, Hh (.cut 1)] ?_ fun J5 hJ5 => ?_
         ·rintro next hf1
          unfold YH at hf1
          exact yB zM hC hJ2 (out2, next, n_2, n_2, decide (n_2 > 65536), x581) hf1 []
         ·obtain ⟨t6, ht6, hf1⟩ := zg hf1
          refine yLx zM hC vg [1,1,1,1,1,1,1,1,0,0,2,0,1,1,1,1,2,1,0] [J1, J2, J5] (fun s => wZ inputs level s.1 s.2) (fun x => z0E inputs from_ to level k_ out2 n_2 x581 x.1 x.2) (([] : List (List Int)), 0) ht6 [(0, .d (I inputs)), (1, .d (I from_)), (2, .d (I to)), (8, .own (eOs 1 false F4_ out2)), (9, .own (eOs 1 false F4_ level)), (10, .d (I n_2)), (11, .d (I k_)), (12, .own (eOs 1 true F4_ [])), (45, .d (I n_2)), (46, .d (B (decide (n_2 > 65536)))), (49, .d (I k_)), (50, .d (I to)), (51, .d (B (decide (k_ < to)))), (52, .d (B (decide (k_ < to)))), (58, .d (B x581)), (67, .als 9 [] 0 0), (68, .d (I ((level.length : Nat) : Int))), (69, .d (I 0))] inferInstance [Ha (lnM F4_ level)] ?_
          rintro ⟨next1, x69⟩ m6 lr2 hf2 hl2 J6 hJ6
          try unfold wZ at hf2
          rcases zP hf2 with ⟨c5, hf2⟩ | ⟨c5, hf2⟩
          ·refine yJ zM hC vg [1,1,1,1,1,1,1,1,0,0,2,0,1,1,1,1,2,1,0,0,1,1] [J1, J2, J5, J6] [0,1,2,8,9,10,11,12,45,46,49,50,51,52,58,67,68,69] (fun z : List (List Int) => YG x69 z = some lr2) (fun z => z0G inputs from_ to level k_ out2 n_2 x581 x69 z) [(0, .d (I inputs)), (1, .d (I from_)), (2, .d (I to)), (8, .own (eOs 1 false F4_ out2)), (9, .own (eOs 1 false F4_ level)), (10, .d (I n_2)), (11, .d (I k_)), (12, .own (eOs 1 false F4_ next1)), (45, .d (I n_2)), (46, .d (B (decide (n_2 > 65536)))), (49, .d (I k_)), (50, .d (I to)), (51, .d (B (decide (k_ < to)))), (52, .d (B (decide (k_ < to)))), (58, .d (B x581)), (67, .als 9 [] 0 0), (68, .d (I ((level.length : Nat) : Int))), (69, .d (I x69))] [Hq c5, Hh (.cut 0)] ?_ fun J7 hJ7 => ?_
           ·rintro next2 hf2
            unfold YG at hf2
            obtain rfl := zf hf2
            exact yB zM hC hJ6 (next2, w64 (x69 + 1)) hl2 []
           ·obtain ⟨level_e, h1, hf2⟩ := zg hf2
            obtain ⟨t8, ht8, hf2⟩ := zg hf2
            refine yL zM hC vg [1,1,1,1,1,1,1,1,0,0,2,0,1,1,1,1,2,1,0,0,1,1,2,0,1,1,0] [J1, J2, J5, J6, J7] (fun s => wY inputs level_e s.1 s.2) (fun x => z0D inputs from_ to level k_ out2 n_2 x581 x69 level_e x.1 x.2) (next1,0) ht8  [Hn (iL F4_ h1), Hs (iM F4_ h1)] ?_
            rintro ⟨next3, x74⟩ m8 lr3 hf3 hl3 J8 hJ8
            try unfold wY at hf3
            rcases zP hf3 with ⟨c6, hf3⟩ | ⟨c6, hf3⟩
            ·obtain ⟨r_1, h2, hf3⟩ := zg hf3
             obtain ⟨g0, hf3⟩ := gdE hf3
             obtain ⟨g1, hf3⟩ := gdE hf3
             obtain rfl := zf hf3
             exact yB zM hC hJ8 ((next3 ++ ([(r_1 ++ ([x74] : List Int))] : List (List Int))), w64 (x74 + 1)) hl3 [Hq c6, Hc h01 (x := level_e) h2 (loC F4_ level_e <| loN), Hq (dM (eI .i64) ([x74] : List Int)), Hn (dM (eI .i64) ([x74] : List Int)), Hn (aN (eI .i64) (eI .i64) g0 (by simp)), Hl (aM (eI .i64) r_1 ([x74] : List Int)), Hm (shM (eI .i64) (eI .i64) (r_1 ++ ([x74] : List Int))), Hq (dM F4_ ([(r_1 ++ ([x74] : List Int))] : List (List Int))), Hn (dM F4_ ([(r_1 ++ ([x74] : List Int))] : List (List Int))), Hn (aL F4_ F4_ g1), Hl (aM F4_ next3 ([(r_1 ++ ([x74] : List Int))] : List (List Int)))]
            ·obtain rfl := zf hf3
             obtain rfl := hl3
             exact yB zM hC hJ7 next3 hf2 [Hq c6]
          ·obtain rfl := zf hf2
           obtain rfl := hl2
           exact yB zM hC hJ5 next1 hf1 [Hq c5]
       ·let Z1 : List HO := [Ha (lnM F4_ out2)]
        rcases zP hf1 with ⟨c7, hf1⟩ | ⟨c7, hf1⟩
        ·obtain rfl := zf hf1
         obtain rfl := hl1
         obtain rfl := zf hf0
         exact yEx zM hC hE (Z1 ++ (Hq c7 :: Hq c7 :: Hq c7 :: (rpN 7 qT [Hm (shM F4_ F4_ [])]))) (.tup [eSl 1 true F1_ [], I 3]) (show LeV (.tup [eSl 1 true F1_ [], I 3]) (.tup [eSl 1 true F1_ ([] : List (List Int)), I 3]) from inferInstance)
        ·rcases zP hf1 with ⟨c8, hf1⟩ | ⟨c8, hf1⟩
         ·obtain rfl := zf hf1
          obtain rfl := hl1
          obtain rfl := zf hf0
          exact yEx zM hC hE (Z1 ++ (Hq c7 :: Hq c7 :: Hq c7 :: (rpN 6 (Hq c8) [qT, Hm (shM F4_ F4_ [])]))) (.tup [eSl 1 true F1_ [], I 3]) (show LeV (.tup [eSl 1 true F1_ [], I 3]) (.tup [eSl 1 true F1_ ([] : List (List Int)), I 3]) from inferInstance)
         ·let Z2 : List HO := (Z1 ++ (Hq c7 :: Hq c7 :: Hq c7 :: (rpN 4 (Hq c8) [])))
          rcases zP hf1 with ⟨c9, hf1⟩ | ⟨c9, hf1⟩
          ·let Z3 : List HO := (Z2 ++ [Hq c9, Hq c9, Ha (lnM F4_ level), Hq c9, Hq c9, Hq c9, Hq c8, Hq c9, Hq c8])
           rcases zP hf1 with ⟨c10, hf1⟩ | ⟨c10, hf1⟩
           ·obtain rfl := zf hf1
            obtain rfl := hl1
            obtain rfl := zf hf0
            exact yEx zM hC hE (Z3 ++ [Hq c10, Hm (shM F4_ F4_ [])]) (.tup [eSl 1 true F1_ [], I 3]) (show LeV (.tup [eSl 1 true F1_ [], I 3]) (.tup [eSl 1 true F1_ ([] : List (List Int)), I 3]) from inferInstance)
           ·exact yB zM hC hJ4 (decide ((w64 (((level.length : Nat) : Int) * inputs)) > 4096)) hf1 (Z3 ++ [Hq c10])
          ·exact yB zM hC hJ4 false hf1 (Z2 ++ (rpN 5 (Hq c9) [Hq c8, Hq c9, Hq c8, qF]))
      ·rcases zP hf1 with ⟨c11, hf1⟩ | ⟨c11, hf1⟩
       ·obtain ⟨g2, hf1⟩ := gdE hf1
        exact yB zM hC hJ3 ((out ++ level), w64 (n_ + (w64 (k_ * ((level.length : Nat) : Int))))) hf1 [Hq c11, Hq (dM F4_ level), Hn (dM F4_ level), Hn (aL F4_ F4_ g2), Hl (aM F4_ out level), Ha (lnM F4_ level)]
       ·exact yB zM hC hJ3 (out, n_) hf1 [Hq c11]
def z2K : Code := (Tryz.f36.body).getD .skip
def XE : zU := spF (α := Int × Int) (ρ := List (List Int) × Int) 36 (fun x => [(eI .i64) x.1, (eI .i64) x.2]) (fun r => .tup [Zd r.1, (eI .i64) r.2]) (fun x => Xk x.1 x.2) [] (Wu)
theorem z37 {ctr : Ctr} (hC : zA Tryz.prog ctr) (h0T : ctr.Has WP) : XE.Ok Tryz.prog := by
 refine zC ?_
 rintro ⟨inputs, k_⟩ r0 hf0
 try unfold Xk at hf0
 refine yO false [(4, none), (5, none)] z2K 11 Tryz.func36 fun E hE => ?_
 obtain ⟨r_, h0, hf0⟩ := zg hf0
 obtain rfl := zf hf0
 exact yE X0 hC hE [Hc h0T (x := (inputs, 0, k_)) h0 (loC (eI .i64) inputs <| loC (eI .i64) 0 <| loC (eI .i64) k_ <| loN)]
def X6 : Code := (Tryz.f89.body).getD .skip
def YU : zU := spF (α := List (List Int)) (ρ := Bool) 89 (fun x => [uH x]) (fun r => eB r) (fun x => Y7 x) [] (VX)
abbrev QN : List (Nat × T) := []
abbrev QM (l_ : List (List Int)) (i_ : Int) : List (Nat × T) := [(0, .d (eSl 1 false F4_ l_)), (3, .d (I i_))]
theorem z1X {ctr : Ctr} (hC : zA Tryz.prog ctr) (h0a : ctr.Has uj) : YU.Ok Tryz.prog := by
 refine zC ?_
 rintro l_ r0 hf0
 try unfold Y7 at hf0
 refine yO true [(2, none)] X6 21 Tryz.func89 fun E hE => ?_
 refine yJ X0 hC X6 [1] [] [] (fun z : Unit => kI = some r0) (fun z => QN) [(0, .d (eSl 1 false F4_ l_))] [Hh (.cut 1)] ?_ fun J1 hJ1 => ?_
 ·rintro ⟨⟩ hf0
  unfold kI at hf0
  obtain rfl := zf hf0
  exact yE X0 hC hE []
 ·obtain ⟨t2, ht2, hf0⟩ := zg hf0
  refine yL X0 hC X6 [1,2,1,0] [J1] (fun s => ut l_ s) (fun x => QM l_ x) 1 ht2  [] ?_
  rintro i_ m2 lr1 hf1 hl1 J2 hJ2
  try unfold ut at hf1
  let Z0 : List HO := [Ha (lnM F4_ l_)]
  rcases zP hf1 with ⟨c0, hf1⟩ | ⟨c0, hf1⟩
  ·obtain ⟨l__e, h0, hf1⟩ := zg hf1
   obtain ⟨l__e1, h1, hf1⟩ := zg hf1
   obtain ⟨r_, h2, hf1⟩ := zg hf1
   let Z1 : List HO := (Z0 ++ [Hq c0, Hi F4_ h0, Hi F4_ h1, Hc h0a (x := (l__e, l__e1)) h2 (loC F4_ l__e <| loC F4_ l__e1 <| loN)])
   rcases zP hf1 with ⟨c1, hf1⟩ | ⟨c1, hf1⟩
   ·obtain rfl := zf hf1
    obtain rfl := hl1
    obtain rfl := zf hf0
    exact yE X0 hC hE (Z1 ++ [Hq c1])
   ·obtain rfl := zf hf1
    exact yB X0 hC hJ2 (w64 (i_ + 1)) hl1 (Z1 ++ [Hq c1])
  ·obtain rfl := zf hf1
   obtain rfl := hl1
   exact yB X0 hC hJ1 () hf0 (Z0 ++ [Hq c0])
def z1b : Code := (Tryz.f61.body).getD .skip
def uu : zU := spF (α := List (List Int) × Int) (ρ := Int) 61 (fun x => [uH x.1, (eI .i64) x.2]) (fun r => (eI .i64) r) (fun x => uW x.1 x.2) [] (Wu)
theorem z1Y {ctr : Ctr} (hC : zA Tryz.prog ctr) (h0m : ctr.Has kJ) (h0U : ctr.Has YU) (h07 : ctr.Has qL) : uu.Ok Tryz.prog := by
 refine zC ?_
 rintro ⟨l_, inputs⟩ r0 hf0
 try unfold uW at hf0
 refine yO true [(4, none)] z1b 18 Tryz.func61 fun E hE => ?_
 obtain ⟨r_, h0, hf0⟩ := zg hf0
 let Z0 : List HO := [Hc h0m (x := (l_, inputs)) h0 (loC uH l_ <| loC (eI .i64) inputs <| loN)]
 rcases zP hf0 with ⟨c0, hf0⟩ | ⟨c0, hf0⟩
 ·obtain rfl := zf hf0
  exact yE X0 hC hE (Z0 ++ [Hq c0])
 ·obtain ⟨r_1, h1, hf0⟩ := zg hf0
  let Z1 : List HO := (Z0 ++ [Hq c0, Hc h0U (x := l_) h1 (loC uH l_ <| loN)])
  rcases zP hf0 with ⟨c1, hf0⟩ | ⟨c1, hf0⟩
  ·obtain rfl := zf hf0
   exact yE X0 hC hE (Z1 ++ [Hq c1])
  ·obtain ⟨r_2, h2, hf0⟩ := zg hf0
   let Z2 : List HO := (Z1 ++ [Hq c1, Hc h07 (x := l_) h2 (loC uH l_ <| loN)])
   rcases zP hf0 with ⟨c2, hf0⟩ | ⟨c2, hf0⟩
   ·obtain rfl := zf hf0
    exact yE X0 hC hE (Z2 ++ [Hq c2])
   ·obtain rfl := zf hf0
    exact yE X0 hC hE (Z2 ++ [Hq c2])
def W6 : Code := (Tryz.f74.body).getD .skip
def XD : zU := spF (α := Int × List (List (List Int))) (ρ := Int) 74 (fun x => [(eI .i64) x.1, (eSl 1 false uH) x.2]) (fun r => (eI .i64) r) (fun x => Xi x.1 x.2) [] (Wu)
abbrev JN : List (Nat × T) := []
abbrev JM (inputs : Int) (l_ : List (List (List Int))) (x10 : Int) : List (Nat × T) := [(0, .d (I inputs)), (8, .d (eSl 1 false uH l_)), (9, .d (I ((l_.length : Nat) : Int))), (10, .d (I x10))]
theorem z36 {ctr : Ctr} (hC : zA Tryz.prog ctr) (h06 : ctr.Has uu) : XD.Ok Tryz.prog := by
 refine zC ?_
 rintro ⟨inputs, l_⟩ r0 hf0
 try unfold Xi at hf0
 refine yO true [(4, none)] W6 21 Tryz.func74 fun E hE => ?_
 refine yJ X0 hC W6 [1] [] [] (fun z : Unit => ZB = some r0) (fun z => JN) [(0, .d (I inputs)), (1, .d (eSl 1 false uH l_))] [Hh (.cut 1)] ?_ fun J1 hJ1 => ?_
 ·rintro ⟨⟩ hf0
  unfold ZB at hf0
  obtain rfl := zf hf0
  exact yE X0 hC hE []
 ·obtain ⟨t2, ht2, hf0⟩ := zg hf0
  refine yL X0 hC W6 [1,2,1,0] [J1] (fun s => qg inputs l_ s) (fun x => JM inputs l_ x) 0 ht2  [Ha (lnM uH l_)] ?_
  rintro x10 m2 lr1 hf1 hl1 J2 hJ2
  try unfold qg at hf1
  rcases zP hf1 with ⟨c0, hf1⟩ | ⟨c0, hf1⟩
  ·obtain ⟨l__e, h0, hf1⟩ := zg hf1
   obtain ⟨r_, h1, hf1⟩ := zg hf1
   let Z0 : List HO := [Hq c0, Hi uH h0, Hc h06 (x := (l__e, inputs)) h1 (loC uH l__e <| loC (eI .i64) inputs <| loN)]
   rcases zP hf1 with ⟨c1, hf1⟩ | ⟨c1, hf1⟩
   ·obtain rfl := zf hf1
    obtain rfl := hl1
    obtain rfl := zf hf0
    exact yE X0 hC hE (Z0 ++ [Hq c1])
   ·obtain rfl := zf hf1
    exact yB X0 hC hJ2 (w64 (x10 + 1)) hl1 (Z0 ++ [Hq c1])
  ·obtain rfl := zf hf1
   obtain rfl := hl1
   exact yB X0 hC hJ1 () hf0 [Hq c0]
def V6 : Code := (Tryz.f76.body).getD .skip
def WO : zU := spF (α := List Int) (ρ := List UInt8) 76 (fun x => [F4_ x]) (fun r => VG r) (fun x => WL x) [] (VX)
abbrev z0C (b_ : List Int) : List (Nat × T) := [(3, .own (eOs 1 true (eI .u8) b_))]
abbrev z0B (w_ : List Int) (b_1 : List Int) (x11 : Int) : List (Nat × T) := [(3, .own (eOs 1 true (eI .u8) b_1)), (9, .d (eSl 1 false (eI .i64) w_)), (10, .d (I ((w_.length : Nat) : Int))), (11, .d (I x11))]
theorem z4t {ctr : Ctr} (hC : zA Tryz.prog ctr) : WO.Ok Tryz.prog := by
 refine zC ?_
 rintro w_ r0 hf0
 try unfold WL at hf0
 refine yO true [(2, none)] V6 24 Tryz.func76 fun E hE => ?_
 obtain ⟨g0, hf0⟩ := gdE hf0
 refine yJ X0 hC V6 [1,1] [] [3] (fun z : List Int => WK z = some r0) (fun z => z0C z) [(0, .d (eSl 1 false (eI .i64) w_)), (3, .own (eOs 1 true (eI .u8) (List.replicate ((w_.length : Nat) : Int).toNat (0 : Int))))] [Ha (lnM (eI .i64) w_), Hn (rL g0), Ha (rM 1 (eI .u8) ((w_.length : Nat) : Int) (0 : Int)), Hh (.cut 0)] ?_ fun J1 hJ1 => ?_
 ·rintro b_ hf0
  unfold WK at hf0
  obtain rfl := zf hf0
  exact yE ((zjd Tryz.prog zcc).or X0) hC hE [Hx (.a (VG (u8s b_))) (stM b_)]
 ·obtain ⟨t2, ht2, hf0⟩ := zg hf0
  refine yL X0 hC V6 [1,1,2,1,0] [J1] (fun s => vW w_ s.1 s.2) (fun x => z0B w_ x.1 x.2) ((List.replicate ((w_.length : Nat) : Int).toNat (0 : Int)), 0) ht2  [Ha (lnM (eI .i64) w_)] ?_
  rintro ⟨b_1, x11⟩ m2 lr1 hf1 hl1 J2 hJ2
  try unfold vW at hf1
  rcases zP hf1 with ⟨c0, hf1⟩ | ⟨c0, hf1⟩
  ·obtain ⟨w__e, h0, hf1⟩ := zg hf1
   obtain ⟨b__e, h1, hf1⟩ := zg hf1
   obtain rfl := zf hf1
   exact yB X0 hC hJ2 ((b_1.set x11.toNat (IntKind.u8.wrap (w__e))), w64 (x11 + 1)) hl1 [Hq c0, Hi (eI .i64) h0, Hn (iL (eI .u8) h1), Hs (iM (eI .u8) h1), Hs (iM (eI .u8) h1), Hl (sM (eI .u8) b_1 x11 (IntKind.u8.wrap (w__e)))]
  ·obtain rfl := zf hf1
   obtain rfl := hl1
   exact yB X0 hC hJ1 b_1 hf0 [Hq c0]
def vR : Code := (Tryz.f37.body).getD .skip
def Ya : zU := spF (α := List (List Int) × List (List Int) × Int) (ρ := List (List Int) × Int) 37 (fun x => [uH x.1, uH x.2.1, (eI .i64) x.2.2]) (fun r => .tup [Zd r.1, (eI .i64) r.2]) (fun x => jg x.1 x.2.1 x.2.2) [] (ziV)
abbrev Q6 (out : List (List Int)) : List (Nat × T) := [(11, .own (eOs 1 false F4_ out))]
abbrev Q5 (a_ : List (List Int)) (b_ : List (List Int)) (x29 : Int) (seen1 : List ((List UInt8) × Bool)) (n_1 : Int) (out2 : List (List Int)) : List (Nat × T) := [(1, .d (eSl 1 false F4_ b_)), (9, .own (.opq (Ke (Vl VG eB seen1)))), (10, .d (I n_1)), (11, .own (eOs 1 false F4_ out2)), (27, .d (eSl 1 false F4_ a_)), (28, .d (I ((a_.length : Nat) : Int))), (29, .d (I x29))]
abbrev Q4 (a_ : List (List Int)) (b_ : List (List Int)) (x29 : Int) (a__e : List Int) (x35 : Int) (seen3 : List ((List UInt8) × Bool)) (n_3 : Int) (out4 : List (List Int)) : List (Nat × T) := [(1, .d (eSl 1 false F4_ b_)), (9, .own (.opq (Ke (Vl VG eB seen3)))), (10, .d (I n_3)), (11, .own (eOs 1 false F4_ out4)), (13, .d (eSl 1 false (eI .i64) a__e)), (27, .d (eSl 1 false F4_ a_)), (28, .d (I ((a_.length : Nat) : Int))), (29, .d (I x29)), (33, .d (eSl 1 false F4_ b_)), (34, .d (I ((b_.length : Nat) : Int))), (35, .d (I x35))]
abbrev Q2 (a_ : List (List Int)) (b_ : List (List Int)) (x29 : Int) (a__e : List Int) (seen2 : List ((List UInt8) × Bool)) (n_2 : Int) (out3 : List (List Int)) (x35 : Int) : List (Nat × T) := [(1, .d (eSl 1 false F4_ b_)), (9, .own (.opq (Ke (Vl VG eB seen2)))), (10, .d (I n_2)), (11, .own (eOs 1 false F4_ out3)), (13, .d (eSl 1 false (eI .i64) a__e)), (27, .d (eSl 1 false F4_ a_)), (28, .d (I ((a_.length : Nat) : Int))), (29, .d (I x29)), (33, .d (eSl 1 false F4_ b_)), (34, .d (I ((b_.length : Nat) : Int))), (35, .d (I x35))]
abbrev Q3 (a_ : List (List Int)) (b_ : List (List Int)) (seen : List ((List UInt8) × Bool)) (n_ : Int) (out1 : List (List Int)) (x29 : Int) : List (Nat × T) := [(1, .d (eSl 1 false F4_ b_)), (9, .own (.opq (Ke (Vl VG eB seen)))), (10, .d (I n_)), (11, .own (eOs 1 false F4_ out1)), (27, .d (eSl 1 false F4_ a_)), (28, .d (I ((a_.length : Nat) : Int))), (29, .d (I x29))]
theorem z0Z {ctr : Ctr} (hC : zA Tryz.prog ctr) (h0y : ctr.Has XD) (h01 : ctr.Has zO) (h0V : ctr.Has WO) (h05 : ctr.Has uX) : Ya.Ok Tryz.prog := by
 refine zC ?_
 rintro ⟨a_, b_, inputs⟩ r0 hf0
 try unfold jg at hf0
 refine yO false [(6, none), (7, none)] vR 75 Tryz.func37 fun E hE => ?_
 obtain ⟨r_, h0, hf0⟩ := zg hf0
 let Z0 : List HO := [Hg (z0i h0y), Hm (shM uH uH ([a_, b_])), Hs (z0j h0y (x := (inputs, [a_, b_])) h0 (loC (eI .i64) inputs <| loC (eSl 1 true uH) ([a_, b_] : List (List (List Int))) <| loN))]
 rcases zP hf0 with ⟨c0, hf0⟩ | ⟨c0, hf0⟩
 ·obtain rfl := zf hf0
  exact yEx X0 hC hE (Z0 ++ [Hq c0, Hm (shM F4_ F4_ [])]) (.tup [eSl 1 true F1_ [], I r_]) (show LeV (.tup [eSl 1 true F1_ [], I r_]) (.tup [eSl 1 true F1_ ([] : List (List Int)), I r_]) from inferInstance)
 ·refine yJ ((zgR Tryz.prog 26).or X0) hC vR [1,1,1,1,1] [] [11] (fun z : List (List Int) => uV z = some r0) (fun z => Q6 z) [(0, .d (eSl 1 false F4_ a_)), (1, .d (eSl 1 false F4_ b_)), (9, .own (.opq (Ke (Vl VG eB ([] : List ((List UInt8) × Bool)))))), (10, .d (I 0)), (11, .own (eOs 1 true F4_ []))] (Z0 ++ [Hq c0, Hh (.cut 3)]) ?_ fun J1 hJ1 => ?_
  ·rintro out hf0
   unfold uV at hf0
   obtain ⟨r_1, h1, hf0⟩ := zg hf0
   obtain rfl := zf hf0
   exact yE X0 hC hE [Hg (z0i h05), Hm (shM F4_ F4_ out), Hs (z0j h05 (x := out) h1 (loC uH out <| loN)), Hm (shM F4_ F4_ out)]
  ·obtain ⟨t2, ht2, hf0⟩ := zg hf0
   refine yLx X0 hC vR [1,1,1,1,1,2,1,0] [J1] (fun s => uT a_ b_ s.1 s.2.1 s.2.2.1 s.2.2.2) (fun x => Q3 a_ b_ x.1 x.2.1 x.2.2.1 x.2.2.2) (([] : List ((List UInt8) × Bool)), 0, ([] : List (List Int)), 0) ht2 [(1, .d (eSl 1 false F4_ b_)), (9, .own (.opq (Ke (Vl VG eB ([] : List ((List UInt8) × Bool)))))), (10, .d (I 0)), (11, .own (eOs 1 true F4_ [])), (27, .d (eSl 1 false F4_ a_)), (28, .d (I ((a_.length : Nat) : Int))), (29, .d (I 0))] inferInstance [Ha (lnM F4_ a_)] ?_
   rintro ⟨seen, n_, out1, x29⟩ m2 lr1 hf1 hl1 J2 hJ2
   try unfold uT at hf1
   rcases zP hf1 with ⟨c1, hf1⟩ | ⟨c1, hf1⟩
   ·refine yJ X0 hC vR [1,1,1,1,1,2,1,0,0,1,1] [J1, J2] [1,9,10,11,27,28,29] (fun z : (List ((List UInt8) × Bool)) × Int × List (List Int) => uU x29 z.1 z.2.1 z.2.2 = some lr1) (fun z => Q5 a_ b_ x29 z.1 z.2.1 z.2.2) [(1, .d (eSl 1 false F4_ b_)), (9, .own (.opq (Ke (Vl VG eB seen)))), (10, .d (I n_)), (11, .own (eOs 1 false F4_ out1)), (27, .d (eSl 1 false F4_ a_)), (28, .d (I ((a_.length : Nat) : Int))), (29, .d (I x29))] [Hq c1, Hh (.cut 0)] ?_ fun J3 hJ3 => ?_
    ·rintro ⟨seen1, n_1, out2⟩ hf1
     unfold uU at hf1
     obtain rfl := zf hf1
     exact yB X0 hC hJ2 (seen1, n_1, out2, w64 (x29 + 1)) hl1 []
    ·obtain ⟨a__e, h2, hf1⟩ := zg hf1
     obtain ⟨t4, ht4, hf1⟩ := zg hf1
     refine yL X0 hC vR [1,1,1,1,1,2,1,0,0,1,1,2,0,1,1,0] [J1, J2, J3] (fun s => vH b_ a__e s.1 s.2.1 s.2.2.1 s.2.2.2) (fun x => Q2 a_ b_ x29 a__e x.1 x.2.1 x.2.2.1 x.2.2.2) (seen, n_, out1,0) ht4  [Hi F4_ h2, Ha (lnM F4_ b_)] ?_
     rintro ⟨seen2, n_2, out3, x35⟩ m4 lr2 hf2 hl2 J4 hJ4
     try unfold vH at hf2
     rcases zP hf2 with ⟨c2, hf2⟩ | ⟨c2, hf2⟩
     ·obtain ⟨b__e, h3, hf2⟩ := zg hf2
      obtain ⟨r_2, h4, hf2⟩ := zg hf2
      obtain ⟨g0, hf2⟩ := gdE hf2
      let Z1 : List HO := [Hq c2, Hi F4_ h3, Hc h01 (x := a__e) h4 (loC F4_ a__e <| loN), Hn (apM (eI .i64) g0), Hl (aM (eI .i64) r_2 b__e), Ha (lnM (eI .i64) (r_2 ++ b__e))]
      rcases zP hf2 with ⟨c3, hf2⟩ | ⟨c3, hf2⟩
      ·obtain rfl := zf hf2
       obtain rfl := hl2
       obtain rfl := zf hf1
       obtain rfl := hl1
       obtain rfl := zf hf0
       exact yEx ((xAp zp 42).or X0) hC hE (Z1 ++ [Hq c3, Hm (shM F4_ F4_ [])]) (.tup [eSl 1 true F1_ [], I 3]) (show LeV (.tup [eSl 1 true F1_ [], I 3]) (.tup [eSl 1 true F1_ ([] : List (List Int)), I 3]) from inferInstance)
      ·refine yJ ((xAp zp 42).or X0) hC vR [1,1,1,1,1,2,1,0,0,1,1,2,0,1,1,0,0,1,1,0,0,1,1,1] [J1, J2, J3, J4] [1,9,10,11,13,27,28,29,33,34,35] (fun z : (List ((List UInt8) × Bool)) × Int × List (List Int) => vI x35 z.1 z.2.1 z.2.2 = some lr2) (fun z => Q4 a_ b_ x29 a__e x35 z.1 z.2.1 z.2.2) [(1, .d (eSl 1 false F4_ b_)), (9, .own (.opq (Ke (Vl VG eB seen2)))), (10, .d (I n_2)), (11, .own (eOs 1 false F4_ out3)), (13, .d (eSl 1 false (eI .i64) a__e)), (16, .d (eSl 1 false (eI .i64) (r_2 ++ b__e))), (27, .d (eSl 1 false F4_ a_)), (28, .d (I ((a_.length : Nat) : Int))), (29, .d (I x29)), (33, .d (eSl 1 false F4_ b_)), (34, .d (I ((b_.length : Nat) : Int))), (35, .d (I x35))] (Z1 ++ [Hq c3, Hh (.cut 0)]) ?_ fun J5 hJ5 => ?_
       ·rintro ⟨seen3, n_3, out4⟩ hf2
        unfold vI at hf2
        let Z2 : List HO := [Ha (lnM F4_ out4)]
        rcases zP hf2 with ⟨c4, hf2⟩ | ⟨c4, hf2⟩
        ·obtain rfl := zf hf2
         obtain rfl := hl2
         obtain rfl := zf hf1
         obtain rfl := hl1
         obtain rfl := zf hf0
         exact yEx X0 hC hE (Z2 ++ [Hq c4, Hq c4, Hq c4, qT, Hm (shM F4_ F4_ [])]) (.tup [eSl 1 true F1_ [], I 3]) (show LeV (.tup [eSl 1 true F1_ [], I 3]) (.tup [eSl 1 true F1_ ([] : List (List Int)), I 3]) from inferInstance)
        ·rcases zP hf2 with ⟨c5, hf2⟩ | ⟨c5, hf2⟩
         ·obtain rfl := zf hf2
          obtain rfl := hl2
          obtain rfl := zf hf1
          obtain rfl := hl1
          obtain rfl := zf hf0
          exact yEx X0 hC hE (Z2 ++ [Hq c4, Hq c4, Hq c4, Hq c5, Hm (shM F4_ F4_ [])]) (.tup [eSl 1 true F1_ [], I 3]) (show LeV (.tup [eSl 1 true F1_ [], I 3]) (.tup [eSl 1 true F1_ ([] : List (List Int)), I 3]) from inferInstance)
         ·obtain rfl := zf hf2
          exact yB X0 hC hJ4 (seen3, n_3, out4, w64 (x35 + 1)) hl2 (Z2 ++ [Hq c4, Hq c4, Hq c4, Hq c5])
       ·obtain ⟨r_3, h5, hf2⟩ := zg hf2
        obtain ⟨val, h6, hf2⟩ := zg hf2
        replace h6 := zf h6
        let Z3 : List HO := [Hc h0V (x := (r_2 ++ b__e)) h5 (loC F4_ (r_2 ++ b__e) <| loN), Hn (⟨rfl, rfl, zbi (fun _ => rfl) seen2⟩ : A.opq (Ke (Vl VG eB seen2)) = A.opq (Ke (Vl VG eB seen2)) ∧ z2o (VG r_3) = true ∧ ∀ p ∈ Vl VG eB seen2, z2o p.1 = true), Hx (.a (eB val)) ((zjF (f := VG) (g := eB) (z0 := false) (z := .atom (.bool false)) rfl r_3 seen2).trans (congrArg eB h6))]
        rcases zP hf2 with ⟨c6, hf2⟩ | ⟨c6, hf2⟩
        ·obtain ⟨g1, hf2⟩ := gdE hf2
         exact yB ((zjc z7V 52 (Vl VG eB seen2) (Vl VG eB (z5L seen2 r_3 true))).or ((zdq z7V 50 (Vl VG eB seen2)).or X0)) hC hJ5 ((z5L seen2 r_3 true), w64 (n_2 + (((r_2 ++ b__e).length : Nat) : Int)), (out3 ++ ([(r_2 ++ b__e)] : List (List Int)))) hf2 (Z3 ++ [Hq c6, Hn (⟨rfl, rfl, rfl, rfl, zbi (fun _ => rfl) seen2⟩ : T.own (.opq (Ke (Vl VG eB seen2))) = T.own (.opq (Ke (Vl VG eB seen2))) ∧ 0 = 0 ∧ z2o (VG r_3) = true ∧ (eB true).isD = true ∧ ∀ p ∈ Vl VG eB seen2, z2o p.1 = true), Hn (zcl (f := VG) (g := eB) r_3 true seen2), Hq (dM F4_ ([(r_2 ++ b__e)] : List (List Int))), Hn (dM F4_ ([(r_2 ++ b__e)] : List (List Int))), Hn (aL F4_ F4_ g1), Hl (aM F4_ out3 ([(r_2 ++ b__e)] : List (List Int))), Ha (lnM (eI .i64) (r_2 ++ b__e))])
        ·exact yB ((zdq z7V 50 (Vl VG eB seen2)).or X0) hC hJ5 (seen2, n_2, out3) hf2 (Z3 ++ [Hq c6])
     ·obtain rfl := zf hf2
      obtain rfl := hl2
      exact yB X0 hC hJ3 (seen2, n_2, out3) hf1 [Hq c2]
   ·obtain rfl := zf hf1
    obtain rfl := hl1
    exact yB X0 hC hJ1 out1 hf0 [Hq c1]
def UO : Code := (Tryz.f10.body).getD .skip
def uJ : zU := spF (α := z7 × Int) (ρ := List (List Int) × Int) 10 (fun x => [uf x.1, (eI .i64) x.2]) (fun r => .tup [Zd r.1, (eI .i64) r.2]) (fun x => wK x.1 x.2) [] (Wu)
theorem Qj {ctr : Ctr} (hC : zA Tryz.prog ctr) (h0b : ctr.Has uk) (h0W : ctr.Has XE) (h0X : ctr.Has Ya) : uJ.Ok Tryz.prog := by
 refine zC ?_
 rintro ⟨m_, k_⟩ r0 hf0
 try unfold wK at hf0
 refine yO false [(4, none), (5, none)] UO 36 Tryz.func10 fun E hE => ?_
 obtain ⟨r_, h0, hf0⟩ := zg hf0
 let Z0 : List HO := [Hc h0b (x := m_) h0 (loC uf m_ <| loN)]
 rcases zP hf0 with ⟨c0, hf0⟩ | ⟨c0, hf0⟩
 ·obtain rfl := zf hf0
  exact yEx X0 hC hE (Z0 ++ [Hq c0, Hm (shM F4_ F4_ [])]) (.tup [eSl 1 true F1_ [], I r_.2]) (show LeV (.tup [eSl 1 true F1_ [], I r_.2]) (.tup [eSl 1 true F1_ ([] : List (List Int)), I r_.2]) from inferInstance)
 ·rcases zP hf0 with ⟨c1, hf0⟩ | ⟨c1, hf0⟩
  ·obtain rfl := zf hf0
   exact yEx X0 hC hE (Z0 ++ [Hq c0, Hq c1, Hm (shM F4_ F4_ [])]) (.tup [eSl 1 true F1_ [], I 1]) (show LeV (.tup [eSl 1 true F1_ [], I 1]) (.tup [eSl 1 true F1_ ([] : List (List Int)), I 1]) from inferInstance)
  ·obtain ⟨r_1, h1, hf0⟩ := zg hf0
   let Z1 : List HO := (Z0 ++ [Hq c0, Hq c1, Hc h0W (x := (m_.Inputs, k_)) h1 (loC (eI .i64) m_.Inputs <| loC (eI .i64) k_ <| loN)])
   rcases zP hf0 with ⟨c2, hf0⟩ | ⟨c2, hf0⟩
   ·obtain rfl := zf hf0
    exact yEx X0 hC hE (Z1 ++ [Hq c2, Hm (shM F4_ F4_ [])]) (.tup [eSl 1 true F1_ [], I r_1.2]) (show LeV (.tup [eSl 1 true F1_ [], I r_1.2]) (.tup [eSl 1 true F1_ ([] : List (List Int)), I r_1.2]) from inferInstance)
   ·obtain ⟨r_2, h2, hf0⟩ := zg hf0
    obtain rfl := zf hf0
    exact yE X0 hC hE (Z1 ++ [Hq c2, Hc h0X (x := (r_.1, r_1.1, m_.Inputs)) h2 (loC Zd r_.1 <| loC Zd r_1.1 <| loC (eI .i64) m_.Inputs <| loN)])
def V8 : Code := (Tryz.f9.body).getD .skip
def v7 : zU := spF (α := z7) (ρ := List (List Int) × Int) 9 (fun x => [uf x]) (fun r => .tup [Zd r.1, (eI .i64) r.2]) (fun x => w9 x) [] (VX)
theorem Vr {ctr : Ctr} (hC : zA Tryz.prog ctr) (h0h : ctr.Has uJ) : v7.Ok Tryz.prog := by
 refine zC ?_
 rintro m_ r0 hf0
 try unfold w9 at hf0
 refine yO false [(2, none), (3, none)] V8 8 Tryz.func9 fun E hE => ?_
 obtain ⟨r_, h0, hf0⟩ := zg hf0
 obtain rfl := zf hf0
 exact yE X0 hC hE [Hc h0h (x := (m_, 1)) h0 (loC uf m_ <| loC (eI .i64) 1 <| loN)]
def z0y : Code := (Tryz.f46.body).getD .skip
def q9 : zU := spF (α := z7 × List (List Int)) (ρ := Int) 46 (fun x => [uf x.1, uH x.2]) (fun r => (eI .i64) r) (fun x => xy x.1 x.2) [] (Wu)
theorem z12 {ctr : Ctr} (hC : zA Tryz.prog ctr) (h09 : ctr.Has vK) (h06 : ctr.Has uu) : q9.Ok Tryz.prog := by
 refine zC ?_
 rintro ⟨m_, l_⟩ r0 hf0
 try unfold xy at hf0
 refine yO true [(4, none)] z0y 15 Tryz.func46 fun E hE => ?_
 obtain ⟨r_, h0, hf0⟩ := zg hf0
 let Z0 : List HO := [Hc h09 (x := m_) h0 (loC uf m_ <| loN)]
 rcases zP hf0 with ⟨c0, hf0⟩ | ⟨c0, hf0⟩
 ·obtain rfl := zf hf0
  exact yE X0 hC hE (Z0 ++ [Hq c0])
 ·obtain ⟨r_1, h1, hf0⟩ := zg hf0
  obtain rfl := zf hf0
  exact yE X0 hC hE (Z0 ++ [Hq c0, Hc h06 (x := (l_, m_.Inputs)) h1 (loC uH l_ <| loC (eI .i64) m_.Inputs <| loN)])
def Yq : Code := (Tryz.f47.body).getD .skip
def jw : zU := spF (α := z7) (ρ := z8) 47 (fun x => [uf x]) (fun r => zgw r) (fun x => jk x) [] (VX)
abbrev Qd (m_ : z7) (c_Edges : List (List Bool)) : List (Nat × T) := [(2, .own (.box (.agg [eOs 1 true eB [], eOs 1 true (eSl 1 false eB) []]))), (3, .own (.box (.agg [eOs 1 true eB (List.replicate ((m_.Rows.length : Nat) : Int).toNat false), eOs 1 true (eOs 1 true eB) c_Edges])))]
abbrev Qc (m_ : z7) (c_Edges1 : List (List Bool)) (x17 : Int) : List (Nat × T) := [(1, .own (.box (uf m_))), (2, .own (.box (.agg [eOs 1 true eB [], eOs 1 true (eSl 1 false eB) []]))), (3, .own (.box (.agg [eOs 1 true eB (List.replicate ((m_.Rows.length : Nat) : Int).toNat false), eOs 1 true (eOs 1 true eB) c_Edges1]))), (16, .d (I ((m_.Rows.length : Nat) : Int))), (17, .d (I x17))]
theorem z13 {ctr : Ctr} (hC : zA Tryz.prog ctr) : jw.Ok Tryz.prog := by
 refine zC ?_
 rintro m_ r0 hf0
 try unfold jk at hf0
 refine zaE (tt := x6) (rs := [(true, 2, some 48)]) (n := ⟨29, []⟩) (body := Yq) zp Tryz.func47 rfl (by kernel_rfl) rfl rfl (by show (1 : Nat) ≤ 29; decide) fun E hE => ?_
 obtain ⟨g0, hf0⟩ := gdE hf0
 obtain ⟨g1, hf0⟩ := gdE hf0
 refine yJ X0 hC Yq [1,1] [] [2,3] (fun z : List (List Bool) => Yn m_ z = some r0) (fun z => Qd m_ z) [(1, .own (.box (uf m_))), (2, .own (.box (.agg [eOs 1 true eB [], eOs 1 true (eSl 1 false eB) []]))), (3, .own (.box (.agg [eOs 1 true eB (List.replicate ((m_.Rows.length : Nat) : Int).toNat false), eOs 1 true (eOs 1 true eB) (List.replicate ((m_.Rows.length : Nat) : Int).toNat ([] : List Bool))])))] [Ha (lnM vB m_.Rows), Hn (rL g0), Ha (rM 1 eB ((m_.Rows.length : Nat) : Int) false), Ha (lnM vB m_.Rows), Hn (rL g1), Ha (rM 1 (eOs 1 true eB) ((m_.Rows.length : Nat) : Int) ([] : List Bool)), Hh (.cut 0)] ?_ fun J1 hJ1 => ?_
 ·rintro c_Edges hf0
  unfold Yn at hf0
  obtain rfl := zf hf0
  let ZE : List HO := []
  exact zd4 X0 zp hC WX hE 4000 (hs := hoH ZE) (x := (.agg [eOs 1 true eB (List.replicate ((m_.Rows.length : Nat) : Int).toNat false), eOs 1 true (eOs 1 true eB) c_Edges])) (hoB ZE) (by kernel_rfl) (LeV.refl _)
 ·obtain ⟨t2, ht2, hf0⟩ := zg hf0
  refine yL X0 hC Yq [1,1,2,1,0] [J1] (fun s => wJ m_ s.1 s.2) (fun x => Qc m_ x.1 x.2) ((List.replicate ((m_.Rows.length : Nat) : Int).toNat ([] : List Bool)), 0) ht2  [Ha (lnM vB m_.Rows)] ?_
  rintro ⟨c_Edges1, x17⟩ m2 lr1 hf1 hl1 J2 hJ2
  try unfold wJ at hf1
  rcases zP hf1 with ⟨c0, hf1⟩ | ⟨c0, hf1⟩
  ·obtain ⟨g2, hf1⟩ := gdE hf1
   obtain ⟨c_Edge_e, h0, hf1⟩ := zg hf1
   obtain rfl := zf hf1
   exact yB X0 hC hJ2 ((c_Edges1.set x17.toNat (List.replicate m_.Inputs.toNat false)), w64 (x17 + 1)) hl1 [Hq c0, Hn (rL g2), Ha (rM 1 eB m_.Inputs false), Hn (iL (eOs 1 true eB) h0), Hs (iM (eOs 1 true eB) h0), Hs (iM (eOs 1 true eB) h0), Hl (sM (eOs 1 true eB) c_Edges1 x17 (List.replicate m_.Inputs.toNat false))]
  ·obtain rfl := zf hf1
   obtain rfl := hl1
   exact yB X0 hC hJ1 c_Edges1 hf0 [Hq c0]
def VJ : Code := (Tryz.f48.body).getD .skip
abbrev Jb {σ : Type} (YY : σ → Qh) (m_ : z7) (w_ : List Int) (sg2 : σ) (s_ : Int) (x14 : Int) : List (Nat × T) := [(2, .own (.opq (YY sg2).q)), (3, .own (.box (uf m_))), (6, .d (I s_)), (12, .d (eSl 1 false (eI .i64) w_)), (13, .d (I ((w_.length : Nat) : Int))), (14, .d (I x14))]
theorem Uo {ctr : Ctr} (hC : zA Tryz.prog ctr) (σ : Type) (cv0 : Value) (YY : σ → Qh) (yy : σ → (Int × Int) → Option σ) (hy : zhu Tryz.prog cv0 YY (fun x : Int × Int => [(eI .i64) x.1, (eI .i64) x.2]) yy) (m_ : z7) (w_ : List Int) (sg r0 : σ) (hf0 : vt m_ w_ yy sg = some r0) : vZ Tryz.prog (.fn 48 []) [.agg [I m_.Inputs, I m_.Outputs, eSl 1 false vB m_.Rows], eSl 1 false (eI .i64) w_, .atom cv0] [(cv0, .opq (YY sg).q)] (.tup []) [.opq (YY r0).q] := by
 refine UF (tt := x6) (nt := 36) (body := VJ) [2] (args := [.agg [I m_.Inputs, I m_.Outputs, eSl 1 false vB m_.Rows], eSl 1 false (eI .i64) w_, .atom cv0]) (caps := []) (xs := [.opq (YY sg).q]) (vals := [cv0]) zp Tryz.func48 rfl (by kernel_rfl) rfl rfl (by show (3 : Nat) ≤ 36; decide) (by decide) rfl rfl (fun E hE => ?_) rfl
 unfold vt at hf0
 obtain ⟨sg1, h0, hf0⟩ := zg hf0
 obtain ⟨t1, ht1, hf0⟩ := zg hf0
 refine yL ((wV (P := Tryz.prog) x6 [2] (hy sg (0,0) sg1 h0) 11).or X0) hC VJ [1,1,1,1,0] [] (fun s => vq yy m_ w_ s.1 s.2.1 s.2.2) (fun x => Jb YY m_ w_ x.1 x.2.1 x.2.2) (sg1,0,0) ht1  [Hn (jt (f := .atom cv0) (xs := [(eI .i64) 0, (eI .i64) 0]) (ls := [(cv0, .opq (YY sg).q)]) (r := .tup []) (ys := [.opq (YY sg1).q]) [(eI .i64) 0, (eI .i64) 0] (show Kn [(eI .i64) 0, (eI .i64) 0] [(eI .i64) 0, (eI .i64) 0] from inferInstance)), Ha (lnM (eI .i64) w_)] ?_
 rintro ⟨sg2, s_, x14⟩ m1 lr1 hf1 hl1 J1 hJ1
 try unfold vq at hf1
 rcases zP hf1 with ⟨c0, hf1⟩ | ⟨c0, hf1⟩
 ·obtain ⟨w__e, h1, hf1⟩ := zg hf1
  obtain ⟨Row_e, h2, hf1⟩ := zg hf1
  obtain ⟨Row_e_e, h3, hf1⟩ := zg hf1
  let Z0 : List HO := [Hq c0, Hi (eI .i64) h1, Hi vB h2, Hi F9_ h3]
  rcases zP hf1 with ⟨c1, hf1⟩ | ⟨c1, hf1⟩
  ·obtain rfl := zf hf1
   obtain rfl := hl1
   obtain rfl := zf hf0
   exact yF X0 hC .ret [(2, .own (.opq (YY sg2).q))] (Z0 ++ [Hq c1]) fun st0 h0 => hE _ st0 (.inr rfl) (jx h0 ⟨⟨rfl, rfl⟩, trivial⟩)
  ·obtain ⟨sg3, h4, hf1⟩ := zg hf1
   obtain rfl := zf hf1
   exact yB ((wV (P := Tryz.prog) x6 [2] (hy sg2 (Row_e_e.To, w64 (x14 + 1)) sg3 h4) 34).or X0) hC hJ1 (sg3, Row_e_e.To, w64 (x14 + 1)) hl1 (Z0 ++ [Hq c1, Hn (jt (f := .atom cv0) (xs := [(eI .i64) Row_e_e.To, (eI .i64) (w64 (x14 + 1))]) (ls := [(cv0, .opq (YY sg2).q)]) (r := .tup []) (ys := [.opq (YY sg3).q]) [(eI .i64) Row_e_e.To, (eI .i64) (w64 (x14 + 1))] (show Kn [(eI .i64) Row_e_e.To, (eI .i64) (w64 (x14 + 1))] [(eI .i64) Row_e_e.To, (eI .i64) (w64 (x14 + 1))] from inferInstance))])
 ·obtain rfl := zf hf1
  obtain rfl := hl1
  obtain rfl := zf hf0
  exact yF X0 hC .normal [(2, .own (.opq (YY sg2).q))] [Hq c0] fun st0 h0 => hE _ st0 (.inl rfl) (jx h0 ⟨⟨rfl, rfl⟩, trivial⟩)
def JJ : Code := (Tryz.f83.body).getD .skip
theorem Kv {ctr : Ctr} (hC : zA Tryz.prog ctr) (cv1 : Value) (x0 : List Int) : ∀ (s_ : Int) (k_ : Int) (y1 : z8) (r0 : z8), qz x0 s_ k_ y1 = some r0 → vZ Tryz.prog (.fn 83 [.sptr (eSl 1 false (eI .i64) x0), .atom cv1]) [I s_, I k_] ([cv1].zip [.box (.agg [eOs 1 true eB y1.States, eOs 1 true (eOs 1 true eB) y1.Edges])]) (.tup []) [.box (.agg [eOs 1 true eB r0.States, eOs 1 true (eOs 1 true eB) r0.Edges])] := by
 intro s_ k_ y1 r0 hf0
 refine UF (tt := x6) (nt := 30) (body := JJ) [3] zp Tryz.func83 rfl (by kernel_rfl) rfl rfl (by show (4 : Nat) ≤ 30; decide) (by decide) rfl rfl (fun E hE => ?_) rfl
 unfold qz at hf0
 rcases zP hf0 with ⟨c0, hf0⟩ | ⟨c0, hf0⟩
 ·obtain ⟨State_e, h0, hf0⟩ := zg hf0
  obtain rfl := zf hf0
  exact yF X0 hC .normal [(3, .own (.box (.agg [eOs 1 true eB (y1.States.set s_.toNat true), eOs 1 true (eOs 1 true eB) y1.Edges])))] [Ha (lnM (eI .i64) x0), Hq c0, Hn (iL eB h0), Hs (iM eB h0), Hs (iM eB h0), Hl (sM eB y1.States s_ true)] fun st0 h0 => hE _ st0 (.inl rfl) (jx h0 ⟨⟨rfl, rfl⟩, trivial⟩)
 ·let Z0 : List HO := [Ha (lnM (eI .i64) x0), Hq c0, Ha (lnM (eI .i64) x0)]
  rcases zP hf0 with ⟨c1, hf0⟩ | ⟨c1, hf0⟩
  ·obtain ⟨Edge_e, h1, hf0⟩ := zg hf0
   obtain ⟨x_e, h2, hf0⟩ := zg hf0
   obtain ⟨Edge_e_e, h3, hf0⟩ := zg hf0
   obtain rfl := zf hf0
   exact yF X0 hC .normal [(3, .own (.box (.agg [eOs 1 true eB y1.States, eOs 1 true (eOs 1 true eB) (y1.Edges.set s_.toNat (Edge_e.set x_e.toNat true))])))] (Z0 ++ [Hq c1, Hn (iL (eOs 1 true eB) h1), Hs (iM (eOs 1 true eB) h1), Hi (eI .i64) h2, Hs (iM (eOs 1 true eB) h1), Hn (iL eB h3), Hs (iM (eOs 1 true eB) h1), Hs (iM eB h3), Hs (iM (eOs 1 true eB) h1), Hs (iM eB h3), Hl (sM eB Edge_e x_e true), Hl (sM (eOs 1 true eB) y1.Edges s_ (Edge_e.set x_e.toNat true))]) fun st0 h0 => hE _ st0 (.inl rfl) (jx h0 ⟨⟨rfl, rfl⟩, trivial⟩)
  ·obtain rfl := zf hf0
   exact yF X0 hC .normal [(3, .own (.box (.agg [eOs 1 true eB y1.States, eOs 1 true (eOs 1 true eB) y1.Edges])))] (Z0 ++ [Hq c1]) fun st0 h0 => hE _ st0 (.inl rfl) (jx h0 ⟨⟨rfl, rfl⟩, trivial⟩)
def kQ : Code := (Tryz.f51.body).getD .skip
def kK : zU := spF (α := z7 × List (List Int)) (ρ := z8) 51 (fun x => [uf x.1, uH x.2]) (fun r => z6l r) (fun x => kz x.1 x.2) [] (Wu)
abbrev Jd (c_States : List Bool) (c_Edges : List (List Bool)) : List (Nat × T) := [(4, .own (.box (.agg [eOs 1 true eB [], eOs 1 true (eSl 1 false eB) []]))), (5, .own (.box (.agg [eOs 1 true eB c_States, eOs 1 true (eOs 1 true eB) c_Edges])))]
abbrev Jc (m_ : z7) (l_ : List (List Int)) (c_States1 : List Bool) (c_Edges1 : List (List Bool)) (x12 : Int) : List (Nat × T) := [(2, .own (.box (uf m_))), (4, .own (.box (.agg [eOs 1 true eB [], eOs 1 true (eSl 1 false eB) []]))), (5, .own (.box (.agg [eOs 1 true eB c_States1, eOs 1 true (eOs 1 true eB) c_Edges1]))), (10, .d (eSl 1 false F4_ l_)), (11, .d (I ((l_.length : Nat) : Int))), (12, .d (I x12))]
theorem z21 {ctr : Ctr} (hC : zA Tryz.prog ctr) (h0n : ctr.Has jw) : kK.Ok Tryz.prog := by
 refine zC ?_
 rintro ⟨m_, l_⟩ r0 hf0
 try unfold kz at hf0
 refine yO false [(4, some 48)] kQ 22 Tryz.func51 fun E hE => ?_
 obtain ⟨r_, h0, hf0⟩ := zg hf0
 refine yA X0 hC kQ [1,1] [] [(1, .d (eSl 1 false F4_ l_)), (2, .own (.box (uf m_))), (4, .own (.box (.agg [eOs 1 true eB [], eOs 1 true (eSl 1 false eB) []]))), (5, .own (.box (zgw r_)))] [Hc h0n (x := m_) h0 (loC uf m_ <| loN), Hh (.cut 0)] ?_
 refine z2P (y := .box (.agg [eOs 1 true eB r_.States, eOs 1 true (eOs 1 true eB) r_.Edges])) (by kernel_rfl) 5 (by kernel_rfl) (by kernel_rfl) fun pv5 hv5 => ?_
 refine yJ X0 hC kQ [1,1] [] [4,5] (fun z : List Bool × List (List Bool) => X3 z.1 z.2 = some r0) (fun z => Jd z.1 z.2) [(1, .d (eSl 1 false F4_ l_)), (2, .own (.box (uf m_))), (4, .own (.box (.agg [eOs 1 true eB [], eOs 1 true (eSl 1 false eB) []]))), (5, .own (.box (zgw r_)))] [Hh (.cut 0)] ?_ fun J1 hJ1 => ?_
 ·rintro ⟨c_States, c_Edges⟩ hf0
  unfold X3 at hf0
  obtain rfl := zf hf0
  exact yE X0 hC hE [Hm (shM eB eB c_States), Hm (shM (eOs 1 true eB) (eSl 1 true eB) c_Edges)]
 ·obtain ⟨t2, ht2, hf0⟩ := zg hf0
  refine yL X0 hC kQ [1,1,2,1,0] [J1] (fun s => uA m_ l_ s.1 s.2.1 s.2.2) (fun x => Jc m_ l_ x.1 x.2.1 x.2.2) (r_.States, r_.Edges, 0) ht2  [Ha (lnM F4_ l_)] ?_
  rintro ⟨c_States1, c_Edges1, x12⟩ m2 lr1 hf1 hl1 J2 hJ2
  try unfold uA at hf1
  rcases zP hf1 with ⟨c0, hf1⟩ | ⟨c0, hf1⟩
  ·obtain ⟨l__e, h1, hf1⟩ := zg hf1
   obtain ⟨r_1, h2, hf1⟩ := zg hf1
   obtain rfl := zf hf1
   exact yB ((wV (P := Tryz.prog) x6 [5] (z8d (pre := [uf m_, F4_ l__e]) (enc := (fun x : Int × Int => [(eI .i64) x.1, (eI .i64) x.2])) (ls := (fun s : z8 => [(pv5, .box (.agg [eOs 1 true eB s.States, eOs 1 true (eOs 1 true eB) s.Edges]))])) (F := fun yy s => vt m_ l__e yy s) (fun yv Y hy s s' h => Uo hC _ yv Y _ hy m_ l__e s s' h) (fun s x s' h => Kv hC pv5 l__e _ _ _ _ h) (fun _ _ => rfl) h2) 19).or ((xMk Tryz.prog x6).or X0)) hC hJ2 (r_1.States, r_1.Edges, w64 (x12 + 1)) hl1 [Hq c0, Hi F4_ h1, Hn (jt (f := .fn 48 []) (xs := [uf m_, F4_ l__e, .fn 83 [.sptr (eSl 1 false (eI .i64) l__e), .atom pv5]]) (ls := [(pv5, .box (.agg [eOs 1 true eB c_States1, eOs 1 true (eOs 1 true eB) c_Edges1]))]) (r := .tup []) (ys := [.box (.agg [eOs 1 true eB r_1.States, eOs 1 true (eOs 1 true eB) r_1.Edges])]) [uf m_, F4_ l__e, .fn 83 [.sptr (eSl 1 false (eI .i64) l__e), .atom pv5]] (show Kn [uf m_, F4_ l__e, .fn 83 [.sptr (eSl 1 false (eI .i64) l__e), .atom pv5]] [uf m_, F4_ l__e, .fn 83 [.sptr (eSl 1 false (eI .i64) l__e), .atom pv5]] from inferInstance))]
  ·obtain rfl := zf hf1
   obtain rfl := hl1
   exact yB X0 hC hJ1 (c_States1, c_Edges1) hf0 [Hq c0]
def Xt : Code := (Tryz.f52.body).getD .skip
def vL : zU := spF (α := Bool) (ρ := Bool) 52 (fun x => [eB x]) (fun r => eB r) (fun x => ve x) [] (VX)
theorem Xy {ctr : Ctr} (hC : zA Tryz.prog ctr) : vL.Ok Tryz.prog := by
 refine zC ?_
 rintro is r0 hf0
 try unfold ve at hf0
 refine yO true [(2, none)] Xt 4 Tryz.func52 fun E hE => ?_
 obtain rfl := zf hf0
 exact yE X0 hC hE []
def Wz : Code := (Tryz.f82.body).getD .skip
def uE : zU := spF (α := Bool × Unit) (ρ := Bool) 82 (fun x => [eB x.1, (eSp (Zr 52)) x.2]) (fun r => eB r) (fun x => uc x.1 x.2) [] (Wu)
theorem WI {ctr : Ctr} (hC : zA Tryz.prog ctr) (h0Y : ctr.Has vL) : uE.Ok Tryz.prog := by
 refine zC ?_
 rintro ⟨x_, x1⟩ r0 hf0
 try unfold uc at hf0
 refine yO true [(3, none)] Wz 8 Tryz.func82 fun E hE => ?_
 obtain ⟨r_, h0, hf0⟩ := zg hf0
 obtain rfl := zf hf0
 exact yE X0 hC hE [Hc h0Y (x := x_) h0 (loC eB x_ <| loN)]
def wk : Code := (Tryz.f109.body).getD .skip
def wc : zU := spF (α := List Bool × Unit) (ρ := Int) 109 (fun x => [(eSl 1 false eB) x.1, (WF 82 (eSp (Zr 52))) x.2]) (fun r => (eI .i64) r) (fun x => xD x.1 x.2) [] (by
 rintro ⟨a0, a1⟩ ⟨b0, b1⟩ h
 have e0 := uI.inj (f := (eSl 1 false eB)) _ _ (List.cons.inj h).1
 replace h := (List.cons.inj h).2
 have e1 := uI.inj (f := (WF 82 (eSp (Zr 52)))) _ _ (List.cons.inj h).1
 subst e0 e1
 rfl)
abbrev k9 : List (Nat × T) := []
abbrev jZ (s_ : List Bool) (x8 : Int) : List (Nat × T) := [(0, .d (eSl 1 false eB s_)), (1, .d (.fn 82 [.sptr (.fn 52 [])])), (7, .d (I ((s_.length : Nat) : Int))), (8, .d (I x8))]
theorem Zz {ctr : Ctr} (hC : zA Tryz.prog ctr) (h0Z : ctr.Has uE) : wc.Ok Tryz.prog := by
 refine zC ?_
 rintro ⟨s_, f_⟩ r0 hf0
 try unfold xD at hf0
 refine yO true [(4, none)] wk 19 Tryz.func109 fun E hE => ?_
 refine yJ X0 hC wk [1] [] [] (fun z : Unit => wg = some r0) (fun z => k9) [(0, .d (eSl 1 false eB s_)), (1, .d (.fn 82 [.sptr (.fn 52 [])]))] [Hh (.cut 1)] ?_ fun J1 hJ1 => ?_
 ·rintro ⟨⟩ hf0
  unfold wg at hf0
  obtain rfl := zf hf0
  exact yE X0 hC hE []
 ·obtain ⟨t2, ht2, hf0⟩ := zg hf0
  refine yL X0 hC wk [1,2,1,0] [J1] (fun s => y8 s_ s) (fun x => jZ s_ x) 0 ht2  [Ha (lnM eB s_)] ?_
  rintro x8 m2 lr1 hf1 hl1 J2 hJ2
  try unfold y8 at hf1
  rcases zP hf1 with ⟨c0, hf1⟩ | ⟨c0, hf1⟩
  ·obtain ⟨s__e, h0, hf1⟩ := zg hf1
   obtain ⟨r_, h1, hf1⟩ := zg hf1
   let Z0 : List HO := [Hq c0, Hi eB h0, Hc h0Z (x := (s__e, ())) h1 (loC eB s__e <| loC (eSp (Zr 52)) () <| loN)]
   rcases zP hf1 with ⟨c1, hf1⟩ | ⟨c1, hf1⟩
   ·obtain rfl := zf hf1
    obtain rfl := hl1
    obtain rfl := zf hf0
    exact yE X0 hC hE (Z0 ++ [Hq c1])
   ·obtain rfl := zf hf1
    exact yB X0 hC hJ2 (w64 (x8 + 1)) hl1 (Z0 ++ [Hq c1])
  ·obtain rfl := zf hf1
   obtain rfl := hl1
   exact yB X0 hC hJ1 () hf0 [Hq c0]
def jY : Code := (Tryz.f81.body).getD .skip
def xz : zU := spF (α := List Bool × Unit) (ρ := Bool) 81 (fun x => [(eSl 1 false eB) x.1, (WF 82 (eSp (Zr 52))) x.2]) (fun r => eB r) (fun x => x5 x.1 x.2) [] (by
 rintro ⟨a0, a1⟩ ⟨b0, b1⟩ h
 have e0 := uI.inj (f := (eSl 1 false eB)) _ _ (List.cons.inj h).1
 replace h := (List.cons.inj h).2
 have e1 := uI.inj (f := (WF 82 (eSp (Zr 52)))) _ _ (List.cons.inj h).1
 subst e0 e1
 rfl)
theorem kh {ctr : Ctr} (hC : zA Tryz.prog ctr) (h1a : ctr.Has wc) : xz.Ok Tryz.prog := by
 refine zC ?_
 rintro ⟨s_, f_⟩ r0 hf0
 try unfold x5 at hf0
 refine yO true [(4, none)] jY 9 Tryz.func81 fun E hE => ?_
 obtain ⟨r_, h0, hf0⟩ := zg hf0
 obtain rfl := zf hf0
 exact yE X0 hC hE [Hc h1a (x := (s_, ())) h0 (loC (eSl 1 false eB) s_ <| loC (WF 82 (eSp (Zr 52))) () <| loN)]
def Vt : Code := (Tryz.f50.body).getD .skip
def qH : zU := spF (α := List Bool × Unit) (ρ := Bool) 50 (fun x => [(eSl 1 false eB) x.1, (Zr 52) x.2]) (fun r => eB r) (fun x => vP x.1 x.2) [] (by
 rintro ⟨a0, a1⟩ ⟨b0, b1⟩ h
 have e0 := uI.inj (f := (eSl 1 false eB)) _ _ (List.cons.inj h).1
 replace h := (List.cons.inj h).2
 have e1 := uI.inj (f := (Zr 52)) _ _ (List.cons.inj h).1
 subst e0 e1
 rfl)
theorem VN {ctr : Ctr} (hC : zA Tryz.prog ctr) (h1b : ctr.Has xz) : qH.Ok Tryz.prog := by
 refine zC ?_
 rintro ⟨l_, is⟩ r0 hf0
 try unfold vP at hf0
 refine yO true [(4, none)] Vt 9 Tryz.func50 fun E hE => ?_
 obtain ⟨r_, h0, hf0⟩ := zg hf0
 obtain rfl := zf hf0
 exact yE X0 hC hE [Hc h1b (x := (l_, ())) h0 (loC (eSl 1 false eB) l_ <| loC (WF 82 (eSp (Zr 52))) () <| loN)]
def WA : Code := (Tryz.f20.body).getD .skip
def wO : zU := spF (α := z7 × List (List Int)) (ρ := Bool × Int) 20 (fun x => [uf x.1, uH x.2]) (fun r => .tup [eB r.1, (eI .i64) r.2]) (fun x => yH x.1 x.2) [] (Wu)
theorem WJ {ctr : Ctr} (hC : zA Tryz.prog ctr) (h0c : ctr.Has q9) (h0o : ctr.Has kK) (h1d : ctr.Has qH) : wO.Ok Tryz.prog := by
 refine zC ?_
 rintro ⟨m_, l_⟩ r0 hf0
 try unfold yH at hf0
 refine yO false [(4, none), (5, none)] WA 18 Tryz.func20 fun E hE => ?_
 obtain ⟨r_, h0, hf0⟩ := zg hf0
 let Z0 : List HO := [Hc h0c (x := (m_, l_)) h0 (loC uf m_ <| loC uH l_ <| loN)]
 rcases zP hf0 with ⟨c0, hf0⟩ | ⟨c0, hf0⟩
 ·obtain rfl := zf hf0
  exact yE X0 hC hE (Z0 ++ [Hq c0])
 ·obtain ⟨r_1, h1, hf0⟩ := zg hf0
  obtain ⟨r_2, h2, hf0⟩ := zg hf0
  obtain rfl := zf hf0
  exact yE ((zi8 zp zcL).or X0) hC hE (Z0 ++ [Hq c0, Hc h0o (x := (m_, l_)) h1 (loC uf m_ <| loC uH l_ <| loN), Hc h1d (x := (r_1.States, ())) h2 (loC (eSl 1 true eB) r_1.States <| loC (Zr 52) () <| loN)])
def kC : Code := (Tryz.f54.body).getD .skip
def zK : zU := spF (α := Bool) (ρ := Bool) 54 (fun x => [eB x]) (fun r => eB r) (fun x => xa x) [] (VX)
theorem kS {ctr : Ctr} (hC : zA Tryz.prog ctr) : zK.Ok Tryz.prog := by
 refine zC ?_
 rintro is r0 hf0
 try unfold xa at hf0
 refine yO true [(2, none)] kC 4 Tryz.func54 fun E hE => ?_
 obtain rfl := zf hf0
 exact yE X0 hC hE []
def X7 : Code := (Tryz.f82.body).getD .skip
def qM : zU := spF (α := Bool × Unit) (ρ := Bool) 82 (fun x => [eB x.1, (eSp (Zr 54)) x.2]) (fun r => eB r) (fun x => wR x.1 x.2) [] (Wu)
theorem jb {ctr : Ctr} (hC : zA Tryz.prog ctr) (h02 : ctr.Has zK) : qM.Ok Tryz.prog := by
 refine zC ?_
 rintro ⟨x_, x1⟩ r0 hf0
 try unfold wR at hf0
 refine yO true [(3, none)] X7 8 Tryz.func82 fun E hE => ?_
 obtain ⟨r_, h0, hf0⟩ := zg hf0
 obtain rfl := zf hf0
 exact yE X0 hC hE [Hc h02 (x := x_) h0 (loC eB x_ <| loN)]
def xC : Code := (Tryz.f109.body).getD .skip
def vz : zU := spF (α := List Bool × Unit) (ρ := Int) 109 (fun x => [(eSl 1 false eB) x.1, (WF 82 (eSp (Zr 54))) x.2]) (fun r => (eI .i64) r) (fun x => x4 x.1 x.2) [] (by
 rintro ⟨a0, a1⟩ ⟨b0, b1⟩ h
 have e0 := uI.inj (f := (eSl 1 false eB)) _ _ (List.cons.inj h).1
 replace h := (List.cons.inj h).2
 have e1 := uI.inj (f := (WF 82 (eSp (Zr 54)))) _ _ (List.cons.inj h).1
 subst e0 e1
 rfl)
abbrev ja : List (Nat × T) := []
abbrev j9 (s_ : List Bool) (x8 : Int) : List (Nat × T) := [(0, .d (eSl 1 false eB s_)), (1, .d (.fn 82 [.sptr (.fn 54 [])])), (7, .d (I ((s_.length : Nat) : Int))), (8, .d (I x8))]
theorem kg {ctr : Ctr} (hC : zA Tryz.prog ctr) (h02 : ctr.Has zK) : vz.Ok Tryz.prog := by
 refine zC ?_
 rintro ⟨s_, f_⟩ r0 hf0
 try unfold x4 at hf0
 refine yO true [(4, none)] xC 19 Tryz.func109 fun E hE => ?_
 refine yJ X0 hC xC [1] [] [] (fun z : Unit => xA = some r0) (fun z => ja) [(0, .d (eSl 1 false eB s_)), (1, .d (.fn 82 [.sptr (.fn 54 [])]))] [Hh (.cut 1)] ?_ fun J1 hJ1 => ?_
 ·rintro ⟨⟩ hf0
  unfold xA at hf0
  obtain rfl := zf hf0
  exact yE X0 hC hE []
 ·obtain ⟨t2, ht2, hf0⟩ := zg hf0
  refine yL X0 hC xC [1,2,1,0] [J1] (fun s => zS s_ s) (fun x => j9 s_ x) 0 ht2  [Ha (lnM eB s_)] ?_
  rintro x8 m2 lr1 hf1 hl1 J2 hJ2
  try unfold zS at hf1
  rcases zP hf1 with ⟨c0, hf1⟩ | ⟨c0, hf1⟩
  ·obtain ⟨s__e, h0, hf1⟩ := zg hf1
   obtain ⟨r_, h1, hf1⟩ := zg hf1
   let Z0 : List HO := [Hq c0, Hi eB h0, Hc (Ctr.add_has VH qM) (x := (s__e, ())) h1 (loC eB s__e <| loC (eSp (Zr 54)) () <| loN)]
   rcases zP hf1 with ⟨c1, hf1⟩ | ⟨c1, hf1⟩
   ·obtain rfl := zf hf1
    obtain rfl := hl1
    obtain rfl := zf hf0
    exact yE ((Qi zp (jb hC h02) 16).or X0) hC hE (Z0 ++ [Hq c1])
   ·obtain rfl := zf hf1
    exact yB ((Qi zp (jb hC h02) 16).or X0) hC hJ2 (w64 (x8 + 1)) hl1 (Z0 ++ [Hq c1])
  ·obtain rfl := zf hf1
   obtain rfl := hl1
   exact yB X0 hC hJ1 () hf0 [Hq c0]
def j7 : Code := (Tryz.f81.body).getD .skip
def wG : zU := spF (α := List Bool × Unit) (ρ := Bool) 81 (fun x => [(eSl 1 false eB) x.1, (WF 82 (eSp (Zr 54))) x.2]) (fun r => eB r) (fun x => yz x.1 x.2) [] (by
 rintro ⟨a0, a1⟩ ⟨b0, b1⟩ h
 have e0 := uI.inj (f := (eSl 1 false eB)) _ _ (List.cons.inj h).1
 replace h := (List.cons.inj h).2
 have e1 := uI.inj (f := (WF 82 (eSp (Zr 54)))) _ _ (List.cons.inj h).1
 subst e0 e1
 rfl)
theorem jm {ctr : Ctr} (hC : zA Tryz.prog ctr) (h02 : ctr.Has zK) : wG.Ok Tryz.prog := by
 refine zC ?_
 rintro ⟨s_, f_⟩ r0 hf0
 try unfold yz at hf0
 refine yO true [(4, none)] j7 9 Tryz.func81 fun E hE => ?_
 obtain ⟨r_, h0, hf0⟩ := zg hf0
 obtain rfl := zf hf0
 exact yE ((Qi zp (kg hC h02) 7).or X0) hC hE [Hc (Ctr.add_has VH vz) (x := (s_, ())) h0 (loC (eSl 1 false eB) s_ <| loC (WF 82 (eSp (Zr 54))) () <| loN)]
def Wa : Code := (Tryz.f50.body).getD .skip
def jv : zU := spF (α := List Bool × Unit) (ρ := Bool) 50 (fun x => [(eSl 1 false eB) x.1, (Zr 54) x.2]) (fun r => eB r) (fun x => wo x.1 x.2) [] (by
 rintro ⟨a0, a1⟩ ⟨b0, b1⟩ h
 have e0 := uI.inj (f := (eSl 1 false eB)) _ _ (List.cons.inj h).1
 replace h := (List.cons.inj h).2
 have e1 := uI.inj (f := (Zr 54)) _ _ (List.cons.inj h).1
 subst e0 e1
 rfl)
theorem Wr {ctr : Ctr} (hC : zA Tryz.prog ctr) (h02 : ctr.Has zK) : jv.Ok Tryz.prog := by
 refine zC ?_
 rintro ⟨l_, is⟩ r0 hf0
 try unfold wo at hf0
 refine yO true [(4, none)] Wa 9 Tryz.func50 fun E hE => ?_
 obtain ⟨r_, h0, hf0⟩ := zg hf0
 obtain rfl := zf hf0
 exact yE ((Qi zp (jm hC h02) 7).or X0) hC hE [Hc (Ctr.add_has VH wG) (x := (l_, ())) h0 (loC (eSl 1 false eB) l_ <| loC (WF 82 (eSp (Zr 54))) () <| loN)]
def Zt : Code := (Tryz.f53.body).getD .skip
def we : zU := spF (α := List Bool) (ρ := Bool) 53 (fun x => [(eSl 1 false eB) x]) (fun r => eB r) (fun x => xE x) [] (VX)
theorem ZA {ctr : Ctr} (hC : zA Tryz.prog ctr) (h02 : ctr.Has zK) : we.Ok Tryz.prog := by
 refine zC ?_
 rintro r_ r0 hf0
 try unfold xE at hf0
 refine yO true [(2, none)] Zt 5 Tryz.func53 fun E hE => ?_
 obtain ⟨r_1, h0, hf0⟩ := zg hf0
 obtain rfl := zf hf0
 exact yE ((Qi zp (Wr hC h02) 4).or X0) hC hE [Hc (Ctr.add_has VH jv) (x := (r_, ())) h0 (loC (eSl 1 false eB) r_ <| loC (Zr 54) () <| loN)]
def Wb : Code := (Tryz.f85.body).getD .skip
def u7 : zU := spF (α := List Bool × Unit) (ρ := Bool) 85 (fun x => [(eSl 1 false eB) x.1, (eSp (Zr 53)) x.2]) (fun r => eB r) (fun x => vA x.1 x.2) [] (Wu)
theorem Ws {ctr : Ctr} (hC : zA Tryz.prog ctr) (h1e : ctr.Has we) : u7.Ok Tryz.prog := by
 refine zC ?_
 rintro ⟨x_, x1⟩ r0 hf0
 try unfold vA at hf0
 refine yO true [(3, none)] Wb 8 Tryz.func85 fun E hE => ?_
 obtain ⟨r_, h0, hf0⟩ := zg hf0
 obtain rfl := zf hf0
 exact yE X0 hC hE [Hc h1e (x := x_) h0 (loC (eSl 1 false eB) x_ <| loN)]
def xZ : Code := (Tryz.f110.body).getD .skip
def xQ : zU := spF (α := List (List Bool) × Unit) (ρ := Int) 110 (fun x => [F8_ x.1, (WF 85 (eSp (Zr 53))) x.2]) (fun r => (eI .i64) r) (fun x => xj x.1 x.2) [] (by
 rintro ⟨a0, a1⟩ ⟨b0, b1⟩ h
 have e0 := uI.inj (f := F8_) _ _ (List.cons.inj h).1
 replace h := (List.cons.inj h).2
 have e1 := uI.inj (f := (WF 85 (eSp (Zr 53)))) _ _ (List.cons.inj h).1
 subst e0 e1
 rfl)
abbrev jM : List (Nat × T) := []
abbrev jL (s_ : List (List Bool)) (x8 : Int) : List (Nat × T) := [(0, .d (eSl 1 false (eSl 1 false eB) s_)), (1, .d (.fn 85 [.sptr (.fn 53 [])])), (7, .d (I ((s_.length : Nat) : Int))), (8, .d (I x8))]
theorem Zg {ctr : Ctr} (hC : zA Tryz.prog ctr) (h1f : ctr.Has u7) : xQ.Ok Tryz.prog := by
 refine zC ?_
 rintro ⟨s_, f_⟩ r0 hf0
 try unfold xj at hf0
 refine yO true [(4, none)] xZ 19 Tryz.func110 fun E hE => ?_
 refine yJ X0 hC xZ [1] [] [] (fun z : Unit => xU = some r0) (fun z => jM) [(0, .d (eSl 1 false (eSl 1 false eB) s_)), (1, .d (.fn 85 [.sptr (.fn 53 [])]))] [Hh (.cut 1)] ?_ fun J1 hJ1 => ?_
 ·rintro ⟨⟩ hf0
  unfold xU at hf0
  obtain rfl := zf hf0
  exact yE X0 hC hE []
 ·obtain ⟨t2, ht2, hf0⟩ := zg hf0
  refine yL X0 hC xZ [1,2,1,0] [J1] (fun s => zY s_ s) (fun x => jL s_ x) 0 ht2  [Ha (lnM (eSl 1 false eB) s_)] ?_
  rintro x8 m2 lr1 hf1 hl1 J2 hJ2
  try unfold zY at hf1
  rcases zP hf1 with ⟨c0, hf1⟩ | ⟨c0, hf1⟩
  ·obtain ⟨s__e, h0, hf1⟩ := zg hf1
   obtain ⟨r_, h1, hf1⟩ := zg hf1
   let Z0 : List HO := [Hq c0, Hi (eSl 1 false eB) h0, Hc h1f (x := (s__e, ())) h1 (loC (eSl 1 false eB) s__e <| loC (eSp (Zr 53)) () <| loN)]
   rcases zP hf1 with ⟨c1, hf1⟩ | ⟨c1, hf1⟩
   ·obtain rfl := zf hf1
    obtain rfl := hl1
    obtain rfl := zf hf0
    exact yE X0 hC hE (Z0 ++ [Hq c1])
   ·obtain rfl := zf hf1
    exact yB X0 hC hJ2 (w64 (x8 + 1)) hl1 (Z0 ++ [Hq c1])
  ·obtain rfl := zf hf1
   obtain rfl := hl1
   exact yB X0 hC hJ1 () hf0 [Hq c0]
def jH : Code := (Tryz.f84.body).getD .skip
def xg : zU := spF (α := List (List Bool) × Unit) (ρ := Bool) 84 (fun x => [F8_ x.1, (WF 85 (eSp (Zr 53))) x.2]) (fun r => eB r) (fun x => yU x.1 x.2) [] (by
 rintro ⟨a0, a1⟩ ⟨b0, b1⟩ h
 have e0 := uI.inj (f := F8_) _ _ (List.cons.inj h).1
 replace h := (List.cons.inj h).2
 have e1 := uI.inj (f := (WF 85 (eSp (Zr 53)))) _ _ (List.cons.inj h).1
 subst e0 e1
 rfl)
theorem jW {ctr : Ctr} (hC : zA Tryz.prog ctr) (h1g : ctr.Has xQ) : xg.Ok Tryz.prog := by
 refine zC ?_
 rintro ⟨s_, f_⟩ r0 hf0
 try unfold yU at hf0
 refine yO true [(4, none)] jH 9 Tryz.func84 fun E hE => ?_
 obtain ⟨r_, h0, hf0⟩ := zg hf0
 obtain rfl := zf hf0
 exact yE X0 hC hE [Hc h1g (x := (s_, ())) h0 (loC F8_ s_ <| loC (WF 85 (eSp (Zr 53))) () <| loN)]
def V7 : Code := (Tryz.f55.body).getD .skip
def qa : zU := spF (α := List (List Bool) × Unit) (ρ := Bool) 55 (fun x => [F8_ x.1, (Zr 53) x.2]) (fun r => eB r) (fun x => vd x.1 x.2) [] (by
 rintro ⟨a0, a1⟩ ⟨b0, b1⟩ h
 have e0 := uI.inj (f := F8_) _ _ (List.cons.inj h).1
 replace h := (List.cons.inj h).2
 have e1 := uI.inj (f := (Zr 53)) _ _ (List.cons.inj h).1
 subst e0 e1
 rfl)
theorem Vq {ctr : Ctr} (hC : zA Tryz.prog ctr) (h1h : ctr.Has xg) : qa.Ok Tryz.prog := by
 refine zC ?_
 rintro ⟨l_, is⟩ r0 hf0
 try unfold vd at hf0
 refine yO true [(4, none)] V7 9 Tryz.func55 fun E hE => ?_
 obtain ⟨r_, h0, hf0⟩ := zg hf0
 obtain rfl := zf hf0
 exact yE X0 hC hE [Hc h1h (x := (l_, ())) h0 (loC F8_ l_ <| loC (WF 85 (eSp (Zr 53))) () <| loN)]
def Yr : Code := (Tryz.f21.body).getD .skip
def xh : zU := spF (α := z7 × List (List Int)) (ρ := Bool × Int) 21 (fun x => [uf x.1, uH x.2]) (fun r => .tup [eB r.1, (eI .i64) r.2]) (fun x => y6 x.1 x.2) [] (Wu)
theorem Yv {ctr : Ctr} (hC : zA Tryz.prog ctr) (h0c : ctr.Has q9) (h0o : ctr.Has kK) (h1i : ctr.Has qa) : xh.Ok Tryz.prog := by
 refine zC ?_
 rintro ⟨m_, l_⟩ r0 hf0
 try unfold y6 at hf0
 refine yO false [(4, none), (5, none)] Yr 20 Tryz.func21 fun E hE => ?_
 obtain ⟨r_, h0, hf0⟩ := zg hf0
 let Z0 : List HO := [Hc h0c (x := (m_, l_)) h0 (loC uf m_ <| loC uH l_ <| loN)]
 rcases zP hf0 with ⟨c0, hf0⟩ | ⟨c0, hf0⟩
 ·obtain rfl := zf hf0
  exact yE X0 hC hE (Z0 ++ [Hq c0])
 ·obtain ⟨r_1, h1, hf0⟩ := zg hf0
  obtain ⟨r_2, h2, hf0⟩ := zg hf0
  obtain rfl := zf hf0
  exact yE ((zi8 zp zcK).or X0) hC hE (Z0 ++ [Hq c0, Hc h0o (x := (m_, l_)) h1 (loC uf m_ <| loC uH l_ <| loN), Hc h1i (x := (r_1.Edges, ())) h2 (loC F7_ r_1.Edges <| loC (Zr 53) () <| loN)])
def qe : Code := (Tryz.f112.body).getD .skip
abbrev Xv (b_ : zu) (n_Next : List Int) : List (Nat × T) := [(0, .own (.box (zgv b_))), (3, .own (.box (.agg [eOs 1 true (eI .i64) n_Next, B false])))]
abbrev Xu (b_ : zu) (n_Next1 : List Int) (x14 : Int) : List (Nat × T) := [(0, .own (.box (zgv b_))), (3, .own (.box (.agg [eOs 1 true (eI .i64) n_Next1, B false]))), (13, .d (I (((List.replicate b_.inputs_.toNat (0 : Int)).length : Nat) : Int))), (14, .d (I x14))]
theorem Zv {ctr : Ctr} (hC : zA Tryz.prog ctr) (cv0 : Value) : ∀ (b_ : zu) (r0 : Int × zu), w6 b_ = some r0 → vZ Tryz.prog (.fn 112 []) [.atom cv0] ([cv0].zip [.box (.agg [I b_.inputs_, eOs 2 false kc b_.nodes_])]) (I r0.1) [.box (.agg [I r0.2.inputs_, eOs 2 false kc r0.2.nodes_])] := by
 intro b_ r0 hf0
 refine zaf (tt := x6) (nt := 38) (body := qe) [0] zp Tryz.func112 rfl (by kernel_rfl) rfl rfl (by show (1 : Nat) ≤ 38; decide) (by decide) rfl rfl rfl rfl (fun E hE => ?_) rfl
 unfold w6 at hf0
 refine zeR 0 (v := cv0) (y := .box (.agg [I b_.inputs_, eOs 2 false kc b_.nodes_])) (by kernel_rfl) (by kernel_rfl) (by kernel_rfl) fun hv0 => ?_
 obtain ⟨g0, hf0⟩ := gdE hf0
 refine yJ X0 hC qe [1,1] [] [0,3] (fun z : List Int => wX b_ z = some r0) (fun z => Xv b_ z) [(0, .own (.box (zgv b_))), (3, .own (.box (.agg [eOs 1 true (eI .i64) (List.replicate b_.inputs_.toNat (0 : Int)), B false])))] [Hn (rL g0), Ha (rM 1 (eI .i64) b_.inputs_ (0 : Int)), Hh (.cut 0)] ?_ fun J1 hJ1 => ?_
 ·rintro n_Next hf0
  unfold wX at hf0
  obtain ⟨g1, hf0⟩ := gdE hf0
  obtain rfl := zf hf0
  exact yF ((xNc Tryz.prog 30 0 cv0).or ((xMv Tryz.prog 22 0 cv0 hv0).or X0)) hC .ret [(0, .own (.box (.agg [I b_.inputs_, eOs 2 false kc (b_.nodes_ ++ ([(zb.mk n_Next false)] : List zb))]))), (2, .d (I (w64 ((((b_.nodes_ ++ ([(zb.mk n_Next false)] : List zb)).length : Nat) : Int) - 1))))] [Hn (rfl : some cv0 = some cv0), Hq (oC kc (zb.mk n_Next false) []), Hn (aL kc kc g1), Hl (aM kc b_.nodes_ ([(zb.mk n_Next false)] : List zb)), Hn (⟨rfl, rfl⟩ : T.d (.atom cv0) = T.d (.atom cv0) ∧ some cv0 = some cv0), Ha (lnM kc (b_.nodes_ ++ ([(zb.mk n_Next false)] : List zb)))] fun st0 h0 => hE _ st0 (.inr rfl) (jx h0 ⟨⟨rfl, rfl⟩, trivial⟩) (zjH h0 rfl rfl)
 ·obtain ⟨t2, ht2, hf0⟩ := zg hf0
  refine yL X0 hC qe [1,1,2,1,0] [J1] (fun s => yi b_ s.1 s.2) (fun x => Xu b_ x.1 x.2) ((List.replicate b_.inputs_.toNat (0 : Int)), 0) ht2  [Ha (lnM (eI .i64) (List.replicate b_.inputs_.toNat (0 : Int)))] ?_
  rintro ⟨n_Next1, x14⟩ m2 lr1 hf1 hl1 J2 hJ2
  try unfold yi at hf1
  rcases zP hf1 with ⟨c0, hf1⟩ | ⟨c0, hf1⟩
  ·obtain ⟨n_Next_e, h0, hf1⟩ := zg hf1
   obtain rfl := zf hf1
   exact yB X0 hC hJ2 ((n_Next1.set x14.toNat (-1)), w64 (x14 + 1)) hl1 [Hq c0, Hn (iL (eI .i64) h0), Hs (iM (eI .i64) h0), Hs (iM (eI .i64) h0), Hl (sM (eI .i64) n_Next1 x14 (-1))]
  ·obtain rfl := zf hf1
   obtain rfl := hl1
   exact yB X0 hC hJ1 n_Next1 hf0 [Hq c0]
def wp : Code := (Tryz.f94.body).getD .skip
abbrev Wh (b_inputs1 : Int) (b_nodes1 : List zb) (at_ : Int) : List (Nat × T) := [(0, .own (.box (.agg [I b_inputs1, eOs 2 false kc b_nodes1]))), (4, .d (I at_))]
abbrev Wg (w_ : List Int) (at_1 : Int) (x18 : Int) (w__e : Int) (b_inputs3 : Int) (b_nodes3 : List zb) : List (Nat × T) := [(0, .own (.box (.agg [I b_inputs3, eOs 2 false kc b_nodes3]))), (4, .d (I at_1)), (6, .d (I w__e)), (16, .d (eSl 1 false (eI .i64) w_)), (17, .d (I ((w_.length : Nat) : Int))), (18, .d (I x18))]
abbrev Wf (w_ : List Int) (b_inputs2 : Int) (b_nodes2 : List zb) (at_1 : Int) (x18 : Int) : List (Nat × T) := [(0, .own (.box (.agg [I b_inputs2, eOs 2 false kc b_nodes2]))), (4, .d (I at_1)), (16, .d (eSl 1 false (eI .i64) w_)), (17, .d (I ((w_.length : Nat) : Int))), (18, .d (I x18))]
abbrev Wi (w_ : List Int) (b_inputs : Int) (b_nodes : List zb) : List (Nat × T) := [(0, .own (.box (.agg [I b_inputs, eOs 2 false kc b_nodes]))), (1, .d (eSl 1 false (eI .i64) w_)), (4, .d (I 0))]
theorem VL {ctr : Ctr} (hC : zA Tryz.prog ctr) (cv0 : Value) : ∀ (w_ : List Int) (b_ : zu) (r0 : zu), vG w_ b_ = some r0 → vZ Tryz.prog (.fn 94 []) [.atom cv0, eSl 1 false (eI .i64) w_] ([cv0].zip [.box (.agg [I b_.inputs_, eOs 2 false kc b_.nodes_])]) (.tup []) [.box (.agg [I r0.inputs_, eOs 2 false kc r0.nodes_])] := by
 intro w_ b_ r0 hf0
 refine UF (tt := x6) (nt := 66) (body := wp) [0] zp Tryz.func94 rfl (by kernel_rfl) rfl rfl (by show (2 : Nat) ≤ 66; decide) (by decide) rfl rfl (fun E hE => ?_) rfl
 unfold vG at hf0
 refine yJ X0 hC wp [1] [] [0,1,4] (fun z : Int × List zb => xw w_ z.1 z.2 = some r0) (fun z => Wi w_ z.1 z.2) [(0, .own (.box (zgv b_))), (1, .d (eSl 1 false (eI .i64) w_)), (4, .d (I 0))] [Hh (.cut 1)] ?_ fun J1 hJ1 => ?_
 ·rintro ⟨b_inputs, b_nodes⟩ hf0
  unfold xw at hf0
  refine yJ X0 hC wp [1,1] [] [0,4] (fun z : Int × List zb × Int => wn z.1 z.2.1 z.2.2 = some r0) (fun z => Wh z.1 z.2.1 z.2.2) [(0, .own (.box (.agg [I b_inputs, eOs 2 false kc b_nodes]))), (1, .d (eSl 1 false (eI .i64) w_)), (4, .d (I 0))] [Hh (.cut 0)] ?_ fun J2 hJ2 => ?_
  ·rintro ⟨b_inputs1, b_nodes1, at_⟩ hf0
   unfold wn at hf0
   obtain ⟨b_node_e, h0, hf0⟩ := zg hf0
   obtain rfl := zf hf0
   exact yF X0 hC .normal [(0, .own (.box (.agg [I b_inputs1, eOs 2 false kc (b_nodes1.set at_.toNat (zb.mk b_node_e.Next true))])))] [Hn (iL kc h0), Hs (iM kc h0), Hs (iM kc h0), Hs (iM kc h0), Hl (sM kc b_nodes1 at_ (zb.mk b_node_e.Next true))] fun st0 h0 => hE _ st0 (.inl rfl) (jx h0 ⟨⟨rfl, rfl⟩, trivial⟩)
  ·obtain ⟨t3, ht3, hf0⟩ := zg hf0
   refine yL X0 hC wp [1,1,2,1,0] [J2] (fun s => wm w_ s.1 s.2.1 s.2.2.1 s.2.2.2) (fun x => Wf w_ x.1 x.2.1 x.2.2.1 x.2.2.2) (b_inputs, b_nodes, 0,0) ht3  [Ha (lnM (eI .i64) w_)] ?_
   rintro ⟨b_inputs2, b_nodes2, at_1, x18⟩ m3 lr1 hf1 hl1 J3 hJ3
   try unfold wm at hf1
   rcases zP hf1 with ⟨c0, hf1⟩ | ⟨c0, hf1⟩
   ·obtain ⟨w__e, h1, hf1⟩ := zg hf1
    refine yJ X0 hC wp [1,1,2,1,0,0,1,1,0,0,1] [J2, J3] [0,4,6,16,17,18] (fun z : Int × List zb => xv at_1 x18 w__e z.1 z.2 = some lr1) (fun z => Wg w_ at_1 x18 w__e z.1 z.2) [(0, .own (.box (.agg [I b_inputs2, eOs 2 false kc b_nodes2]))), (4, .d (I at_1)), (6, .d (I w__e)), (16, .d (eSl 1 false (eI .i64) w_)), (17, .d (I ((w_.length : Nat) : Int))), (18, .d (I x18))] [Hq c0, Hi (eI .i64) h1, Hh (.cut 0)] ?_ fun J4 hJ4 => ?_
    ·rintro ⟨b_inputs3, b_nodes3⟩ hf1
     unfold xv at hf1
     obtain ⟨b_node_e1, h2, hf1⟩ := zg hf1
     obtain ⟨Next_e, h3, hf1⟩ := zg hf1
     obtain rfl := zf hf1
     exact yB X0 hC hJ3 (b_inputs3, b_nodes3, Next_e, w64 (x18 + 1)) hl1 [Hn (iL kc h2), Hs (iM kc h2), Hs (iM kc h2), Hs (iM kc h2), Hn (iL (eI .i64) h3), Hs (iM kc h2), Hs (iM (eI .i64) h3)]
    ·obtain ⟨b_node_e2, h4, hf1⟩ := zg hf1
     obtain ⟨Next_e1, h5, hf1⟩ := zg hf1
     let Z0 : List HO := [Hn (iL kc h4), Hs (iM kc h4), Hs (iM kc h4), Hs (iM kc h4), Hn (iL (eI .i64) h5), Hs (iM kc h4), Hs (iM (eI .i64) h5)]
     rcases zP hf1 with ⟨c1, hf1⟩ | ⟨c1, hf1⟩
     ·obtain ⟨r_, h6, hf1⟩ := zg hf1
      obtain ⟨nodes__e, h7, hf1⟩ := zg hf1
      obtain ⟨Next_e2, h8, hf1⟩ := zg hf1
      exact yB ((wV (P := Tryz.prog) x6 [0] (Zv hC cv0 _ _ h6) 35).or X0) hC hJ4 (r_.2.inputs_, (r_.2.nodes_.set at_1.toNat (zb.mk (nodes__e.Next.set w__e.toNat r_.1) nodes__e.End))) hf1 (Z0 ++ [Hq c1, Hn (jt (f := .fn 112 []) (xs := [.atom cv0]) (ls := [(cv0, .box (.agg [I b_inputs2, eOs 2 false kc b_nodes2]))]) (r := I r_.1) (ys := [.box (.agg [I r_.2.inputs_, eOs 2 false kc r_.2.nodes_])]) [.atom cv0] (show Kn [.atom cv0] [.atom cv0] from inferInstance)), Hn (iL kc h7), Hs (iM kc h7), Hs (iM kc h7), Hs (iM kc h7), Hn (iL (eI .i64) h8), Hs (iM kc h7), Hs (iM (eI .i64) h8), Hs (iM kc h7), Hs (iM (eI .i64) h8), Hl (sM (eI .i64) nodes__e.Next w__e r_.1), Hl (sM kc r_.2.nodes_ at_1 (zb.mk (nodes__e.Next.set w__e.toNat r_.1) nodes__e.End))])
     ·exact yB X0 hC hJ4 (b_inputs2, b_nodes2) hf1 (Z0 ++ [Hq c1])
   ·obtain rfl := zf hf1
    obtain rfl := hl1
    exact yB X0 hC hJ2 (b_inputs2, b_nodes2, at_1) hf0 [Hq c0]
 ·let Z1 : List HO := [Ha (lnM kc b_.nodes_)]
  rcases zP hf0 with ⟨c2, hf0⟩ | ⟨c2, hf0⟩
  ·obtain ⟨r_1, h9, hf0⟩ := zg hf0
   exact yB ((wV (P := Tryz.prog) x6 [0] (Zv hC cv0 _ _ h9) 15).or X0) hC hJ1 (r_1.2.inputs_, r_1.2.nodes_) hf0 (Z1 ++ [Hq c2, Hn (jt (f := .fn 112 []) (xs := [.atom cv0]) (ls := [(cv0, .box (.agg [I b_.inputs_, eOs 2 false kc b_.nodes_]))]) (r := I r_1.1) (ys := [.box (.agg [I r_1.2.inputs_, eOs 2 false kc r_1.2.nodes_])]) [.atom cv0] (show Kn [.atom cv0] [.atom cv0] from inferInstance))])
  ·exact yB X0 hC hJ1 (b_.inputs_, b_.nodes_) hf0 (Z1 ++ [Hq c2])
def W5 : Code := (Tryz.f63.body).getD .skip
def XB : zU := spF (α := List (List Int) × Int) (ρ := zu) 63 (fun x => [uH x.1, (eI .i64) x.2]) (fun r => (eBx zgv) r) (fun x => V9 x.1 x.2) [] (Wu)
abbrev z1d (b_inputs : Int) (b_nodes : List zb) : List (Nat × T) := [(5, .own (.box (.agg [I b_inputs, eOs 2 false kc b_nodes])))]
abbrev z1c (l_ : List (List Int)) (b_inputs1 : Int) (b_nodes1 : List zb) (x13 : Int) : List (Nat × T) := [(5, .own (.box (.agg [I b_inputs1, eOs 2 false kc b_nodes1]))), (11, .d (eSl 1 false F4_ l_)), (12, .d (I ((l_.length : Nat) : Int))), (13, .d (I x13))]
theorem z6o {ctr : Ctr} (hC : zA Tryz.prog ctr) : XB.Ok Tryz.prog := by
 refine zC ?_
 rintro ⟨l_, inputs⟩ r0 hf0
 try unfold V9 at hf0
 refine yO true [(4, none)] W5 22 Tryz.func63 fun E hE => ?_
 refine yA X0 hC W5 [1,1] [] [(0, .d (eSl 1 false F4_ l_)), (5, .own (.box (.agg [I inputs, eOs 2 true Xd []])))] [Hh (.cut 2)] ?_
 refine z6f (by kernel_rfl) 5 fun pv5 => ?_
 refine yJ X0 hC W5 [1,1] [] [5] (fun z : Int × List zb => Y6 z.1 z.2 = some r0) (fun z => z1d z.1 z.2) [(0, .d (eSl 1 false F4_ l_)), (5, .own (.box (.agg [I inputs, eOs 2 true Xd []])))] [Hh (.cut 0)] ?_ fun J1 hJ1 => ?_
 ·rintro ⟨b_inputs, b_nodes⟩ hf0
  unfold Y6 at hf0
  obtain rfl := zf hf0
  exact yE X0 hC hE []
 ·obtain ⟨t2, ht2, hf0⟩ := zg hf0
  refine yLx X0 hC W5 [1,1,2,1,0] [J1] (fun s => Y5 l_ s.1 s.2.1 s.2.2) (fun x => z1c l_ x.1 x.2.1 x.2.2) (inputs, ([] : List zb), 0) ht2 [(5, .own (.box (.agg [I inputs, eOs 2 true kc []]))), (11, .d (eSl 1 false F4_ l_)), (12, .d (I ((l_.length : Nat) : Int))), (13, .d (I 0))] inferInstance [Ha (lnM F4_ l_)] ?_
  rintro ⟨b_inputs1, b_nodes1, x13⟩ m2 lr1 hf1 hl1 J2 hJ2
  try unfold Y5 at hf1
  rcases zP hf1 with ⟨c0, hf1⟩ | ⟨c0, hf1⟩
  ·obtain ⟨l__e, h0, hf1⟩ := zg hf1
   obtain ⟨r_, h1, hf1⟩ := zg hf1
   obtain rfl := zf hf1
   exact yB ((wV (P := Tryz.prog) x6 [5] (VL hC pv5 _ _ _ h1) 19).or X0) hC hJ2 (r_.inputs_, r_.nodes_, w64 (x13 + 1)) hl1 [Hq c0, Hi F4_ h0, Hn (jt (f := .fn 94 []) (xs := [.atom pv5, F4_ l__e]) (ls := [(pv5, .box (.agg [I b_inputs1, eOs 2 false kc b_nodes1]))]) (r := .tup []) (ys := [.box (.agg [I r_.inputs_, eOs 2 false kc r_.nodes_])]) [.atom pv5, F4_ l__e] (show Kn [.atom pv5, F4_ l__e] [.atom pv5, F4_ l__e] from inferInstance))]
  ·obtain rfl := zf hf1
   obtain rfl := hl1
   exact yB X0 hC hJ1 (b_inputs1, b_nodes1) hf0 [Hq c0]
def z2I : Code := (Tryz.f91.body).getD .skip
def ju : zU := spF (α := List zb) (ρ := List zb) 91 (fun x => [zbl x]) (fun r => (WF 111 (eSp zbl)) r) (fun x => ZZ x) [] (VX)
theorem z34 {ctr : Ctr} (hC : zA Tryz.prog ctr) : ju.Ok Tryz.prog := by
 refine zC ?_
 rintro nodes r0 hf0
 try unfold ZZ at hf0
 refine yO true [(2, none)] z2I 4 Tryz.func91 fun E hE => ?_
 obtain rfl := zf hf0
 exact yE X0 hC hE []
def xX : Code := (Tryz.f111.body).getD .skip
abbrev UY {σ : Type} (x0 : List zb) (YY : σ → Qh) (sg2 : σ) (next : List zc) : List (Nat × T) := [(0, .own (.opq (YY sg2).q)), (1, .d (.sptr (eSl 2 false Xd x0))), (4, .own (eOs 2 false Xw next))]
abbrev UX {σ : Type} (x0 : List zb) (YY : σ → Qh) (level1 : List zc) (x19 : Int) (sg4 : σ) (next2 : List zc) : List (Nat × T) := [(0, .own (.opq (YY sg4).q)), (1, .d (.sptr (eSl 2 false Xd x0))), (3, .own (eOs 2 false Xw level1)), (4, .own (eOs 2 false Xw next2)), (17, .als 3 [] 0 0), (18, .d (I ((level1.length : Nat) : Int))), (19, .d (I x19))]
abbrev UW {σ : Type} (x0 : List zb) (YY : σ → Qh) (level1 : List zc) (x19 : Int) (level_e : zc) (yr : σ × Bool) (x_e : zb) (x34 : Int) (next4 : List zc) : List (Nat × T) := [(0, .own (.opq (YY yr.1).q)), (1, .d (.sptr (eSl 2 false Xd x0))), (3, .own (eOs 2 false Xw level1)), (4, .own (eOs 2 false Xw next4)), (6, .own (.box (Xw level_e))), (17, .als 3 [] 0 0), (18, .d (I ((level1.length : Nat) : Int))), (19, .d (I x19)), (32, .d (eSl 1 false (eI .i64) x_e.Next)), (33, .d (I ((x_e.Next.length : Nat) : Int))), (34, .d (I x34))]
abbrev UT {σ : Type} (x0 : List zb) (YY : σ → Qh) (level1 : List zc) (x19 : Int) (level_e : zc) (yr : σ × Bool) (x_e : zb) (next3 : List zc) (x34 : Int) : List (Nat × T) := [(0, .own (.opq (YY yr.1).q)), (1, .d (.sptr (eSl 2 false Xd x0))), (3, .own (eOs 2 false Xw level1)), (4, .own (eOs 2 false Xw next3)), (6, .own (.box (Xw level_e))), (17, .als 3 [] 0 0), (18, .d (I ((level1.length : Nat) : Int))), (19, .d (I x19)), (32, .d (eSl 1 false (eI .i64) x_e.Next)), (33, .d (I ((x_e.Next.length : Nat) : Int))), (34, .d (I x34))]
abbrev UU {σ : Type} (x0 : List zb) (YY : σ → Qh) (level1 : List zc) (sg3 : σ) (next1 : List zc) (x19 : Int) : List (Nat × T) := [(0, .own (.opq (YY sg3).q)), (1, .d (.sptr (eSl 2 false Xd x0))), (3, .own (eOs 2 false Xw level1)), (4, .own (eOs 2 false Xw next1)), (17, .als 3 [] 0 0), (18, .d (I ((level1.length : Nat) : Int))), (19, .d (I x19))]
abbrev UV {σ : Type} (x0 : List zb) (YY : σ → Qh) (sg1 : σ) (level1 : List zc) : List (Nat × T) := [(0, .own (.opq (YY sg1).q)), (1, .d (.sptr (eSl 2 false Xd x0))), (3, .own (eOs 2 false Xw level1))]
abbrev UZ {σ : Type} (x0 : List zb) (YY : σ → Qh) (sg : σ) (level : List zc) : List (Nat × T) := [(0, .own (.opq (YY sg).q)), (1, .d (.sptr (eSl 2 false Xd x0))), (3, .own (eOs 2 true zgP level))]
theorem VA {ctr : Ctr} (hC : zA Tryz.prog ctr) (h01 : ctr.Has zO) (x0 : List zb) : z90 Tryz.prog (.fn 111 [.sptr (eSl 2 false Xd x0)]) (fun (x : zc) (_ : Bool) (_ : Value) => [Xw x]) (@vV x0) := by
 refine z8a (tt := x6) (nt := 55) (body := xX) zp Tryz.func111 rfl (by kernel_rfl) rfl rfl (by show (2 : Nat) ≤ 55; decide) ?_
 intro σ yv YY yy hy sg r0 hf0 E hE
 unfold vV at hf0
 refine yJ ((u0 zp (.inl 49) [48]).or ((u0 zp (.inl 13) [12]).or X0)) hC xX [1] [] [0,1,3] (fun z : List zc => vF x0 yy sg z = some r0) (fun z => UZ x0 YY sg z) [(0, .own (.opq (YY sg).q)), (1, .d (.sptr (eSl 2 false Xd x0))), (3, .own (eOs 2 true Xw []))] [Hh (.cut 1)] ?_ fun J1 hJ1 => ?_
 ·rintro level hf0
  unfold vF at hf0
  obtain ⟨t2, ht2, hf0⟩ := zg hf0
  refine yLx ((u0 zp (.inl 49) [48]).or ((u0 zp (.inl 13) [12]).or X0)) hC xX [1,1,0] [] (fun s => vD x0 yy s.1 s.2) (fun x => UV x0 YY x.1 x.2) (sg, level) ht2 [(0, .own (.opq (YY sg).q)), (1, .d (.sptr (eSl 2 false Xd x0))), (3, .own (eOs 2 true zgP level))] inferInstance [] ?_
  rintro ⟨sg1, level1⟩ m2 lr1 hf1 hl1 J2 hJ2
  try unfold vD at hf1
  let Z0 : List HO := [Ha (lnM Xw level1)]
  rcases zP hf1 with ⟨c0, hf1⟩ | ⟨c0, hf1⟩
  ·refine yJ ((u0 zp (.inl 49) [48]).or ((u0 zp (.inl 13) [12]).or X0)) hC xX [1,1,0,0,1,0,1] [J2] [0,1,4] (fun z : σ × List zc => jq z.1 z.2 = some lr1) (fun z => UY x0 YY z.1 z.2) [(0, .own (.opq (YY sg1).q)), (1, .d (.sptr (eSl 2 false Xd x0))), (3, .own (eOs 2 false Xw level1)), (4, .own (eOs 2 true Xw []))] (Z0 ++ [Hq c0, Hh (.cut 1)]) ?_ fun J3 hJ3 => ?_
   ·rintro ⟨sg2, next⟩ hf1
    unfold jq at hf1
    obtain rfl := zf hf1
    exact yB ((u0 zp (.inl 49) [48]).or ((u0 zp (.inl 13) [12]).or X0)) hC hJ2 (sg2, next) hl1 []
   ·obtain ⟨t4, ht4, hf1⟩ := zg hf1
    refine yLx ((u0 zp (.inl 49) [48]).or ((u0 zp (.inl 13) [12]).or X0)) hC xX [1,1,0,0,1,0,1,2,1,0] [J2, J3] (fun s => vC x0 yy level1 s.1 s.2.1 s.2.2) (fun x => UU x0 YY level1 x.1 x.2.1 x.2.2) (sg1, ([] : List zc), 0) ht4 [(0, .own (.opq (YY sg1).q)), (1, .d (.sptr (eSl 2 false Xd x0))), (3, .own (eOs 2 false Xw level1)), (4, .own (eOs 2 true Xw [])), (17, .als 3 [] 0 0), (18, .d (I ((level1.length : Nat) : Int))), (19, .d (I 0))] inferInstance [Ha (lnM Xw level1)] ?_
    rintro ⟨sg3, next1, x19⟩ m4 lr2 hf2 hl2 J4 hJ4
    try unfold vC at hf2
    rcases zP hf2 with ⟨c1, hf2⟩ | ⟨c1, hf2⟩
    ·refine yJ ((u0 zp (.inl 49) [48]).or ((u0 zp (.inl 13) [12]).or X0)) hC xX [1,1,0,0,1,0,1,2,1,0,0,1,1] [J2, J3, J4] [0,1,3,4,17,18,19] (fun z : σ × List zc => jp x19 z.1 z.2 = some lr2) (fun z => UX x0 YY level1 x19 z.1 z.2) [(0, .own (.opq (YY sg3).q)), (1, .d (.sptr (eSl 2 false Xd x0))), (3, .own (eOs 2 false Xw level1)), (4, .own (eOs 2 false Xw next1)), (17, .als 3 [] 0 0), (18, .d (I ((level1.length : Nat) : Int))), (19, .d (I x19))] [Hq c1, Hh (.cut 0)] ?_ fun J5 hJ5 => ?_
     ·rintro ⟨sg4, next2⟩ hf2
      unfold jp at hf2
      obtain rfl := zf hf2
      exact yB ((u0 zp (.inl 49) [48]).or ((u0 zp (.inl 13) [12]).or X0)) hC hJ4 (sg4, next2, w64 (x19 + 1)) hl2 []
     ·obtain ⟨level_e, h0, hf2⟩ := zg hf2
      obtain ⟨yr, h1, hf2⟩ := zg hf2
      let Z1 : List HO := [Hn (iL Xw h0), Hs (iM Xw h0), Hn (z74 (yv := yv) (Y := YY) (enc := (fun (x : zc) (_ : Bool) (_ : Value) => [Xw x])) (s := sg3) (x := level_e) (s' := yr.1) (b := yr.2) (v := .nilFunc) [Xw level_e] (show Kn [Xw level_e] [Xw level_e] from inferInstance))]
      rcases zP hf2 with ⟨c2, hf2⟩ | ⟨c2, hf2⟩
      ·obtain rfl := zf hf2
       obtain rfl := hl2
       obtain rfl := zf hf1
       obtain rfl := hl1
       obtain rfl := zf hf0
       exact yF ((z5g (P := Tryz.prog) x6 hy 25 (s := sg3) (x := level_e) (s' := yr.1) (b := yr.2) .nilFunc h1).or ((u0 zp (.inl 49) [48]).or ((u0 zp (.inl 13) [12]).or X0))) hC .ret [(0, .own (.opq (YY yr.1).q))] (Z1 ++ [Hq c2]) fun st0 h0 => hE _ st0 (.inr rfl) h0
      ·obtain ⟨x_e, h2, hf2⟩ := zg hf2
       obtain ⟨t6, ht6, hf2⟩ := zg hf2
       refine yL ((z5g (P := Tryz.prog) x6 hy 25 (s := sg3) (x := level_e) (s' := yr.1) (b := yr.2) .nilFunc h1).or ((u0 zp (.inl 49) [48]).or ((u0 zp (.inl 13) [12]).or X0))) hC xX [1,1,0,0,1,0,1,2,1,0,0,1,1,2,0,1,1,1,0] [J2, J3, J4, J5] (fun s => xe level_e yr x_e s.1 s.2) (fun x => UT x0 YY level1 x19 level_e yr x_e x.1 x.2) (next1,0) ht6  (Z1 ++ [Hq c2, Hi Xd h2, Ha (lnM (eI .i64) x_e.Next)]) ?_
       rintro ⟨next3, x34⟩ m6 lr3 hf3 hl3 J6 hJ6
       try unfold xe at hf3
       rcases zP hf3 with ⟨c3, hf3⟩ | ⟨c3, hf3⟩
       ·refine yJ ((u0 zp (.inl 49) [48]).or ((u0 zp (.inl 13) [12]).or X0)) hC xX [1,1,0,0,1,0,1,2,1,0,0,1,1,2,0,1,1,1,0,0,1,1] [J2, J3, J4, J5, J6] [0,1,3,4,6,17,18,19,32,33,34] (fun z : List zc => vE x34 z = some lr3) (fun z => UW x0 YY level1 x19 level_e yr x_e x34 z) [(0, .own (.opq (YY yr.1).q)), (1, .d (.sptr (eSl 2 false Xd x0))), (3, .own (eOs 2 false Xw level1)), (4, .own (eOs 2 false Xw next3)), (6, .own (.box (Xw level_e))), (17, .als 3 [] 0 0), (18, .d (I ((level1.length : Nat) : Int))), (19, .d (I x19)), (32, .d (eSl 1 false (eI .i64) x_e.Next)), (33, .d (I ((x_e.Next.length : Nat) : Int))), (34, .d (I x34))] [Hq c3, Hh (.cut 0)] ?_ fun J7 hJ7 => ?_
        ·rintro next4 hf3
         unfold vE at hf3
         obtain rfl := zf hf3
         exact yB ((u0 zp (.inl 49) [48]).or ((u0 zp (.inl 13) [12]).or X0)) hC hJ6 (next4, w64 (x34 + 1)) hl3 []
        ·obtain ⟨Next_e, h3, hf3⟩ := zg hf3
         rcases zP hf3 with ⟨c4, hf3⟩ | ⟨c4, hf3⟩
         ·obtain ⟨r_, h4, hf3⟩ := zg hf3
          obtain ⟨g0, hf3⟩ := gdE hf3
          obtain ⟨g1, hf3⟩ := gdE hf3
          exact yB ((u0 zp (.inl 49) [48]).or ((u0 zp (.inl 13) [12]).or X0)) hC hJ7 (next3 ++ ([(zc.mk Next_e (r_ ++ ([x34] : List Int)))] : List zc)) hf3 [Hi (eI .i64) h3, Hq c4, Hc h01 (x := level_e.w_) h4 (loC F4_ level_e.w_ <| loN), Hq (dM (eI .i64) ([x34] : List Int)), Hn (dM (eI .i64) ([x34] : List Int)), Hn (aN (eI .i64) (eI .i64) g0 (by simp)), Hl (aM (eI .i64) r_ ([x34] : List Int)), Hm (shM (eI .i64) (eI .i64) (r_ ++ ([x34] : List Int))), Hq (dM Xw ([(zc.mk Next_e (r_ ++ ([x34] : List Int)))] : List zc)), Hn (dM Xw ([(zc.mk Next_e (r_ ++ ([x34] : List Int)))] : List zc)), Hn (aL Xw Xw g1), Hl (aM Xw next3 ([(zc.mk Next_e (r_ ++ ([x34] : List Int)))] : List zc))]
         ·exact yB ((u0 zp (.inl 49) [48]).or ((u0 zp (.inl 13) [12]).or X0)) hC hJ7 next3 hf3 [Hi (eI .i64) h3, Hq c4]
       ·obtain rfl := zf hf3
        obtain rfl := hl3
        exact yB ((u0 zp (.inl 49) [48]).or ((u0 zp (.inl 13) [12]).or X0)) hC hJ5 (yr.1, next3) hf2 [Hq c3]
    ·obtain rfl := zf hf2
     obtain rfl := hl2
     exact yB ((u0 zp (.inl 49) [48]).or ((u0 zp (.inl 13) [12]).or X0)) hC hJ3 (sg3, next1) hf1 [Hq c1]
  ·obtain rfl := zf hf1
   obtain rfl := hl1
   obtain rfl := zf hf0
   exact yF ((u0 zp (.inl 49) [48]).or ((u0 zp (.inl 13) [12]).or X0)) hC .normal [(0, .own (.opq (YY sg1).q))] (Z0 ++ [Hq c0]) fun st0 h0 => hE _ st0 (.inl rfl) h0
 ·let Z2 : List HO := [Ha (lnM Xd x0)]
  rcases zP hf0 with ⟨c5, hf0⟩ | ⟨c5, hf0⟩
  ·exact yBx ((u0 zp (.inl 49) [48]).or ((u0 zp (.inl 13) [12]).or X0)) hC hJ1 ([(zc.mk 0 [])] : List zc) hf0 [(0, .own (.opq (YY sg).q)), (1, .d (.sptr (eSl 2 false Xd x0))), (3, .own (eOs 2 true zgP ([(zc.mk 0 [])])))] inferInstance (Z2 ++ [Hq c5, Hm (shM (eI .i64) (eI .i64) [])])
  ·exact yBx ((u0 zp (.inl 49) [48]).or ((u0 zp (.inl 13) [12]).or X0)) hC hJ1 ([] : List zc) hf0 [(0, .own (.opq (YY sg).q)), (1, .d (.sptr (eSl 2 false Xd x0))), (3, .own (eOs 2 true zgP []))] inferInstance (Z2 ++ [Hq c5])
def z0v : Code := (Tryz.f96.body).getD .skip
def uY : zU := spF (α := Int) (ρ := Bool) 96 (fun x => [(eI .i64) x]) (fun r => eB r) (fun x => YF x) [] (VX)
theorem z0X {ctr : Ctr} (hC : zA Tryz.prog ctr) : uY.Ok Tryz.prog := by
 refine zC ?_
 rintro k_ r0 hf0
 try unfold YF at hf0
 refine yO true [(2, none)] z0v 5 Tryz.func96 fun E hE => ?_
 obtain rfl := zf hf0
 exact yE X0 hC hE []
def xY : Code := (Tryz.f113.body).getD .skip
def vY : zU := spF (α := List Int × Unit) (ρ := Int) 113 (fun x => [F4_ x.1, (Zr 96) x.2]) (fun r => (eI .i64) r) (fun x => xi x.1 x.2) [] (by
 rintro ⟨a0, a1⟩ ⟨b0, b1⟩ h
 have e0 := uI.inj (f := F4_) _ _ (List.cons.inj h).1
 replace h := (List.cons.inj h).2
 have e1 := uI.inj (f := (Zr 96)) _ _ (List.cons.inj h).1
 subst e0 e1
 rfl)
abbrev jK : List (Nat × T) := []
abbrev jJ (s_ : List Int) (x8 : Int) : List (Nat × T) := [(0, .d (eSl 1 false (eI .i64) s_)), (1, .d (.fn 96 [])), (7, .d (I ((s_.length : Nat) : Int))), (8, .d (I x8))]
theorem Zf {ctr : Ctr} (hC : zA Tryz.prog ctr) (h0d : ctr.Has uY) : vY.Ok Tryz.prog := by
 refine zC ?_
 rintro ⟨s_, f_⟩ r0 hf0
 try unfold xi at hf0
 refine yO true [(4, none)] xY 19 Tryz.func113 fun E hE => ?_
 refine yJ X0 hC xY [1] [] [] (fun z : Unit => xT = some r0) (fun z => jK) [(0, .d (eSl 1 false (eI .i64) s_)), (1, .d (.fn 96 []))] [Hh (.cut 1)] ?_ fun J1 hJ1 => ?_
 ·rintro ⟨⟩ hf0
  unfold xT at hf0
  obtain rfl := zf hf0
  exact yE X0 hC hE []
 ·obtain ⟨t2, ht2, hf0⟩ := zg hf0
  refine yL X0 hC xY [1,2,1,0] [J1] (fun s => zX s_ s) (fun x => jJ s_ x) 0 ht2  [Ha (lnM (eI .i64) s_)] ?_
  rintro x8 m2 lr1 hf1 hl1 J2 hJ2
  try unfold zX at hf1
  rcases zP hf1 with ⟨c0, hf1⟩ | ⟨c0, hf1⟩
  ·obtain ⟨s__e, h0, hf1⟩ := zg hf1
   obtain ⟨r_, h1, hf1⟩ := zg hf1
   let Z0 : List HO := [Hq c0, Hi (eI .i64) h0, Hc h0d (x := s__e) h1 (loC (eI .i64) s__e <| loN)]
   rcases zP hf1 with ⟨c1, hf1⟩ | ⟨c1, hf1⟩
   ·obtain rfl := zf hf1
    obtain rfl := hl1
    obtain rfl := zf hf0
    exact yE X0 hC hE (Z0 ++ [Hq c1])
   ·obtain rfl := zf hf1
    exact yB X0 hC hJ2 (w64 (x8 + 1)) hl1 (Z0 ++ [Hq c1])
  ·obtain rfl := zf hf1
   obtain rfl := hl1
   exact yB X0 hC hJ1 () hf0 [Hq c0]
def jG : Code := (Tryz.f95.body).getD .skip
def v6 : zU := spF (α := List Int × Unit) (ρ := Bool) 95 (fun x => [F4_ x.1, (Zr 96) x.2]) (fun r => eB r) (fun x => yT x.1 x.2) [] (by
 rintro ⟨a0, a1⟩ ⟨b0, b1⟩ h
 have e0 := uI.inj (f := F4_) _ _ (List.cons.inj h).1
 replace h := (List.cons.inj h).2
 have e1 := uI.inj (f := (Zr 96)) _ _ (List.cons.inj h).1
 subst e0 e1
 rfl)
theorem jV {ctr : Ctr} (hC : zA Tryz.prog ctr) (h0d : ctr.Has uY) : v6.Ok Tryz.prog := by
 refine zC ?_
 rintro ⟨s_, f_⟩ r0 hf0
 try unfold yT at hf0
 refine yO true [(4, none)] jG 9 Tryz.func95 fun E hE => ?_
 obtain ⟨r_, h0, hf0⟩ := zg hf0
 obtain rfl := zf hf0
 exact yE ((Qi zp (Zf hC h0d) 7).or X0) hC hE [Hc (Ctr.add_has VH vY) (x := (s_, ())) h0 (loC F4_ s_ <| loC (Zr 96) () <| loN)]
def z2J : Code := (Tryz.f64.body).getD .skip
def XC : zU := spF (α := zb) (ρ := Bool) 64 (fun x => [Xd x]) (fun r => eB r) (fun x => Xh x) [] (VX)
theorem z35 {ctr : Ctr} (hC : zA Tryz.prog ctr) (h0d : ctr.Has uY) : XC.Ok Tryz.prog := by
 refine zC ?_
 rintro n_ r0 hf0
 try unfold Xh at hf0
 refine yO true [(2, none)] z2J 7 Tryz.func64 fun E hE => ?_
 obtain ⟨r_, h0, hf0⟩ := zg hf0
 obtain rfl := zf hf0
 exact yE ((Qi zp (jV hC h0d) 5).or X0) hC hE [Hc (Ctr.add_has VH v6) (x := (n_.Next, ())) h0 (loC F4_ n_.Next <| loC (Zr 96) () <| loN)]
def YB : Code := (Tryz.f93.body).getD .skip
def yN : zU := spR (α := List (List Int)) (ρ := List (List Int)) 93 (fun x => [(eSl 1 false F1_) x]) (fun r => Zd r) (fun x => yl x) [] (VX)
theorem qE : ∀ x r, (fun x => yl x) x = some r → (VH.add yN).run 93 ((VH.add yN).norm 93 ((fun x => [(eSl 1 false F1_) x]) x)) = some ((fun r => Zd r) r) := fun x r h => ziX h rfl
theorem qG : (VH.add yN).lend 93 = none ∧ (VH.add yN).gives 93 = [] := zeD
theorem qJ {ctr : Ctr} (hC : zA Tryz.prog ctr) : yN.Ok Tryz.prog := by
 refine zaW ?_
 rintro s_ r0 hf0
 try unfold yl at hf0
 refine yO true [(2, none)] YB 9 Tryz.func93 fun E hE => ?_
 obtain ⟨g0, hf0⟩ := gdE hf0
 obtain rfl := zf hf0
 exact yE X0 hC hE [Ha (lnM F1_ s_), Ha (lnM F1_ s_), Hn (slB g0), Hn (slC g0), Hn (ze1 F1_ g0), Ha (ziC 1 F1_ s_ 0 ((s_.length : Nat) : Int).toNat)]
def wU : Code := (Tryz.f62.body).getD .skip
def Zk : zU := spF (α := List zb × Unit) (ρ := List (List Int)) 62 (fun x => [zbl x.1, (Zr 64) x.2]) (fun r => Zd r) (fun x => js x.1 x.2) [] (by
 rintro ⟨a0, a1⟩ ⟨b0, b1⟩ h
 have e0 := uI.inj (f := zbl) _ _ (List.cons.inj h).1
 replace h := (List.cons.inj h).2
 have e1 := uI.inj (f := (Zr 64)) _ _ (List.cons.inj h).1
 subst e0 e1
 rfl)
abbrev Ug (out : List (List Int)) : List (Nat × T) := [(4, .own (.box (eOs 1 false F1_ out)))]
abbrev j8 (nodes : List zb) (r_1 : List zb) (out1 : List (List Int)) : List (Nat × T) := [(2, .own (.box (eSl 2 false Xd nodes))), (3, .own (.box (.fn 64 []))), (4, .own (.box (eOs 1 false F1_ out1))), (7, .d (.fn 111 [.sptr (eSl 2 false Xd r_1)]))]
theorem Kq {ctr : Ctr} (hC : zA Tryz.prog ctr) (h0e : ctr.Has ju) (h01 : ctr.Has zO) (h1j : ctr.Has XC) (h04 : ctr.Has yk) : Zk.Ok Tryz.prog := by
 refine zC ?_
 rintro ⟨nodes, is⟩ r0 hf0
 try unfold js at hf0
 refine yO false [(4, some 29)] wU 25 Tryz.func62 fun E hE => ?_
 refine yJ X0 hC wU [1] [] [4] (fun z : List (List Int) => qR z = some r0) (fun z => Ug z) [(2, .own (.box (eSl 2 false Xd nodes))), (3, .own (.box (.fn 64 []))), (4, .own (.box (eOs 1 true F4_ [])))] [Hh (.cut 1)] ?_ fun J1 hJ1 => ?_
 ·rintro out hf0
  unfold qR at hf0
  obtain ⟨r_, h0, hf0⟩ := zg hf0
  obtain rfl := zf hf0
  exact yE ((Qi zp (qJ hC) 24).or X0) hC hE [Hh (.g []), Hn qG, Hm (shM F1_ F1_ out), Hx (.a (Zd r_)) (qE out _ h0), Hm (shM F1_ F1_ out)]
 ·obtain ⟨r_1, h1, hf0⟩ := zg hf0
  obtain ⟨t2, ht2, hf0⟩ := zg hf0
  refine yAt X0 hC (sub [1,2,1,0] wU) (frs [1,2,1,0] [J1] wU []) [(2, .own (.box (eSl 2 false Xd nodes))), (3, .own (.box (.fn 64 []))), (4, .own (.box (eOs 1 true F1_ []))), (7, .d (.fn 111 [.sptr (eSl 2 false Xd r_1)]))] [Hc h0e (x := nodes) h1 (loC zbl nodes <| loN)] fun st0 h0 => ?_
  refine z5b (g := .tmp 7) (ps := [8]) (assign := (sub [1,2,1,0,0] wU)) (body := (sub [1,2,1,0,1] wU)) (K := 111) (caps := [.sptr (eSl 2 false Xd r_1)]) (by kernel_rfl) [2,3,4,7] (fun s => j8 nodes r_1 s) (fun z => nomatch z) (fun z => nomatch z) ((fun (x : zc) (_ : Bool) (_ : Value) => [Xw x])) (F := @vV r_1) (fun s x => ui nodes s x) ([] : List (List Int)) t2 _ h0 inferInstance (by kernel_rfl) (by decide) (fun _ => rfl) (by rintro ⟨⟩) (by kernel_rfl) (fun _ _ _ => rfl) (VA hC h01 r_1) ht2 ?_ ?_
  ·rintro tv2 out1 x8 vr lr1 hf1
   replace hf1 : ui nodes out1 x8 = some lr1 := hf1
   unfold ui at hf1
   refine yF X0 hC .normal [(2, .own (.box (eSl 2 false Xd nodes))), (3, .own (.box (.fn 64 []))), (4, .own (.box (eOs 1 false F1_ out1))), (5, .own (.box (Xw x8))), (7, .d (.fn 111 [.sptr (eSl 2 false Xd r_1)]))] [] fun st0 h0 => ⟨rfl, z6J h0 ?_⟩
   obtain ⟨node_e, h2, hf1⟩ := zg hf1
   obtain ⟨r_2, h3, hf1⟩ := zg hf1
   let Z0 : List HO := [Hi Xd h2, Hc h1j (x := node_e) h3 (loC Xd node_e <| loN)]
   rcases zP hf1 with ⟨c0, hf1⟩ | ⟨c0, hf1⟩
   ·obtain ⟨r_3, h4, hf1⟩ := zg hf1
    obtain ⟨r_4, h5, hf1⟩ := zg hf1
    obtain ⟨g0, hf1⟩ := gdE hf1
    obtain rfl := zf hf1
    exact yF X0 hC .normal (j8 nodes r_1 (out1 ++ ([r_4] : List (List Int)))) (Z0 ++ [Hq c0, Hc h04 (x := x8.w_) h4 (loC F4_ x8.w_ <| loN), Hg (z0i h01), Hm (shM (eI .i64) (eI .i64) r_3), Hs (z0j h01 (x := r_3) h5 (loC F4_ r_3 <| loN)), Hm (shM (eI .i64) (eI .i64) r_3), Hq (dM F1_ ([r_4] : List (List Int))), Hn (dM F1_ ([r_4] : List (List Int))), Hn (aL F1_ F1_ g0), Hl (aM F1_ out1 ([r_4] : List (List Int)))]) fun st0 h0 => ⟨rfl, _, h0, LeL.refl _⟩
   ·obtain rfl := zf hf1
    exact yF X0 hC .normal (j8 nodes r_1 out1) (Z0 ++ [Hq c0]) fun st0 h0 => ⟨rfl, _, h0, LeL.refl _⟩
  ·rcases t2 with out1 | z
   ·dsimp only at hf0
    exact UQ (by kernel_rfl) (hJ1 _ [(4, .own (.box (eOs 1 false F1_ out1)))] out1 hf0 (show Own.canon [4] _ = ofL _ by kernel_rfl) inferInstance)
   ·cases z
def z0w : Code := (Tryz.f31.body).getD .skip
def Y9 : zU := spF (α := List (List Int) × Int) (ρ := List (List Int) × Int) 31 (fun x => [uH x.1, (eI .i64) x.2]) (fun r => .tup [Zd r.1, (eI .i64) r.2]) (fun x => jf x.1 x.2) [] (Wu)
theorem z0Y {ctr : Ctr} (hC : zA Tryz.prog ctr) (h06 : ctr.Has uu) (h0p : ctr.Has XB) (h0z : ctr.Has Zk) : Y9.Ok Tryz.prog := by
 refine zC ?_
 rintro ⟨l_, inputs⟩ r0 hf0
 try unfold jf at hf0
 refine yO false [(4, none), (5, none)] z0w 20 Tryz.func31 fun E hE => ?_
 obtain ⟨r_, h0, hf0⟩ := zg hf0
 let Z0 : List HO := [Hc h06 (x := (l_, inputs)) h0 (loC uH l_ <| loC (eI .i64) inputs <| loN)]
 rcases zP hf0 with ⟨c0, hf0⟩ | ⟨c0, hf0⟩
 ·obtain rfl := zf hf0
  exact yEx X0 hC hE (Z0 ++ [Hq c0, Hm (shM F4_ F4_ [])]) (.tup [eSl 1 true F1_ [], I r_]) (show LeV (.tup [eSl 1 true F1_ [], I r_]) (.tup [eSl 1 true F1_ ([] : List (List Int)), I r_]) from inferInstance)
 ·obtain ⟨r_1, h1, hf0⟩ := zg hf0
  obtain ⟨r_2, h2, hf0⟩ := zg hf0
  obtain rfl := zf hf0
  exact yE X0 hC hE (Z0 ++ [Hq c0, Hc h0p (x := (l_, inputs)) h1 (loC uH l_ <| loC (eI .i64) inputs <| loN), Hg (z0i h0z), Hm (shM kc zdn r_1.nodes_), Hs (z0j h0z (x := (r_1.nodes_, ())) h2 (loC (eSl 2 false zdn) r_1.nodes_ <| loC (Zr 64) () <| loN)), Hm (shM kc zdn r_1.nodes_)])
def Ud : Code := (Tryz.f49.body).getD .skip
theorem Up {ctr : Ctr} (hC : zA Tryz.prog ctr) (cv0 : Value) (x1 : List Int) (x2 : z7) : ∀ (s_ : Int) (k_ : Int) (y0 : z8) (r0 : z8), wj x1 x2 s_ k_ y0 = some r0 → vZ Tryz.prog (.fn 49 [.atom cv0, .sptr (eSl 1 false (eI .i64) x1), .sptr (.agg [I x2.Inputs, I x2.Outputs, eSl 1 false vB x2.Rows])]) [I s_, I k_] ([cv0].zip [.box (.agg [eOs 1 true eB y0.States, eOs 1 true (eOs 1 true eB) y0.Edges])]) (.tup []) [.box (.agg [eOs 1 true eB r0.States, eOs 1 true (eOs 1 true eB) r0.Edges])] := by
 intro s_ k_ y0 r0 hf0
 refine UF (tt := x6) (nt := 40) (body := Ud) [2] zp Tryz.func49 rfl (by kernel_rfl) rfl rfl (by show (5 : Nat) ≤ 40; decide) (by decide) rfl rfl (fun E hE => ?_) rfl
 unfold wj at hf0
 obtain ⟨State_e, h0, hf0⟩ := zg hf0
 let Z0 : List HO := [Hn (iL eB h0), Hs (iM eB h0), Hs (iM eB h0), Hl (sM eB y0.States s_ true), Ha (lnM (eI .i64) x1)]
 rcases zP hf0 with ⟨c0, hf0⟩ | ⟨c0, hf0⟩
 ·obtain ⟨Row_e, h1, hf0⟩ := zg hf0
  obtain ⟨x_e, h2, hf0⟩ := zg hf0
  obtain ⟨Row_e_e, h3, hf0⟩ := zg hf0
  let Z1 : List HO := (Z0 ++ (rpN 4 (Hq c0) (Hi vB h1 :: (rpN 4 (Hq c0) (Hi (eI .i64) h2 :: Hq c0 :: Hq c0 :: Hi F9_ h3 :: (rpN 4 (Hq c0) []))))))
  rcases zP hf0 with ⟨c1, hf0⟩ | ⟨c1, hf0⟩
  ·obtain ⟨Edge_e, h4, hf0⟩ := zg hf0
   obtain ⟨x_e1, h5, hf0⟩ := zg hf0
   obtain ⟨Edge_e_e, h6, hf0⟩ := zg hf0
   obtain rfl := zf hf0
   exact yF X0 hC .normal [(2, .own (.box (.agg [eOs 1 true eB (y0.States.set s_.toNat true), eOs 1 true (eOs 1 true eB) (y0.Edges.set s_.toNat (Edge_e.set x_e1.toNat true))])))] (Z1 ++ [Hq c1, Hn (iL (eOs 1 true eB) h4), Hs (iM (eOs 1 true eB) h4), Hi (eI .i64) h5, Hs (iM (eOs 1 true eB) h4), Hn (iL eB h6), Hs (iM (eOs 1 true eB) h4), Hs (iM eB h6), Hs (iM (eOs 1 true eB) h4), Hs (iM eB h6), Hl (sM eB Edge_e x_e1 true), Hl (sM (eOs 1 true eB) y0.Edges s_ (Edge_e.set x_e1.toNat true))]) fun st0 h0 => hE _ st0 (.inl rfl) (jx h0 ⟨⟨rfl, rfl⟩, trivial⟩)
  ·obtain rfl := zf hf0
   exact yF X0 hC .normal [(2, .own (.box (.agg [eOs 1 true eB (y0.States.set s_.toNat true), eOs 1 true (eOs 1 true eB) y0.Edges])))] (Z1 ++ [Hq c1]) fun st0 h0 => hE _ st0 (.inl rfl) (jx h0 ⟨⟨rfl, rfl⟩, trivial⟩)
 ·obtain rfl := zf hf0
  exact yF X0 hC .normal [(2, .own (.box (.agg [eOs 1 true eB (y0.States.set s_.toNat true), eOs 1 true (eOs 1 true eB) y0.Edges])))] (Z0 ++ (rpN 14 (Hq c0) [qF])) fun st0 h0 => hE _ st0 (.inl rfl) (jx h0 ⟨⟨rfl, rfl⟩, trivial⟩)
def qC : Code := (Tryz.f19.body).getD .skip
def qh : zU := spF (α := z7 × List (List Int)) (ρ := z8 × Int) 19 (fun x => [uf x.1, uH x.2]) (fun r => .tup [z6l r.1, (eI .i64) r.2]) (fun x => xc x.1 x.2) [] (Wu)
abbrev Vy (c_States : List Bool) (c_Edges : List (List Bool)) : List (Nat × T) := [(4, .own (.box (.agg [eOs 1 true eB [], eOs 1 true (eSl 1 false eB) []]))), (7, .own (.box (.agg [eOs 1 true eB c_States, eOs 1 true (eOs 1 true eB) c_Edges])))]
abbrev Vx (m_ : z7) (l_ : List (List Int)) (c_States1 : List Bool) (c_Edges1 : List (List Bool)) (x21 : Int) : List (Nat × T) := [(2, .d (.sptr (uf m_))), (4, .own (.box (.agg [eOs 1 true eB [], eOs 1 true (eSl 1 false eB) []]))), (7, .own (.box (.agg [eOs 1 true eB c_States1, eOs 1 true (eOs 1 true eB) c_Edges1]))), (19, .d (eSl 1 false F4_ l_)), (20, .d (I ((l_.length : Nat) : Int))), (21, .d (I x21))]
theorem JA {ctr : Ctr} (hC : zA Tryz.prog ctr) (h0c : ctr.Has q9) (h0n : ctr.Has jw) : qh.Ok Tryz.prog := by
 refine zC ?_
 rintro ⟨m_, l_⟩ r0 hf0
 try unfold xc at hf0
 refine yO false [(4, some 48), (5, none)] qC 31 Tryz.func19 fun E hE => ?_
 obtain ⟨r_, h0, hf0⟩ := zg hf0
 let Z0 : List HO := [Hc h0c (x := (m_, l_)) h0 (loC uf m_ <| loC uH l_ <| loN)]
 rcases zP hf0 with ⟨c0, hf0⟩ | ⟨c0, hf0⟩
 ·obtain rfl := zf hf0
  exact yE X0 hC hE (Z0 ++ [Hq c0, Hm (shM eB eB []), Hm (shM (eSl 1 false eB) (eSl 1 false eB) [])])
 ·obtain ⟨r_1, h1, hf0⟩ := zg hf0
  refine yA X0 hC qC [1,1,1] [] [(1, .d (eSl 1 false F4_ l_)), (2, .own (.box (uf m_))), (4, .own (.box (.agg [eOs 1 true eB [], eOs 1 true (eSl 1 false eB) []]))), (7, .own (.box (zgw r_1)))] (Z0 ++ [Hq c0, Hc h0n (x := m_) h1 (loC uf m_ <| loN), Hh (.cut 0)]) ?_
  refine z2P (y := .box (.agg [eOs 1 true eB r_1.States, eOs 1 true (eOs 1 true eB) r_1.Edges])) (by kernel_rfl) 7 (by kernel_rfl) (by kernel_rfl) fun pv7 hv7 => ?_
  refine yJ X0 hC qC [1,1,1] [] [4,7] (fun z : List Bool × List (List Bool) => kA z.1 z.2 = some r0) (fun z => Vy z.1 z.2) [(1, .d (eSl 1 false F4_ l_)), (2, .own (.box (uf m_))), (4, .own (.box (.agg [eOs 1 true eB [], eOs 1 true (eSl 1 false eB) []]))), (7, .own (.box (zgw r_1)))] [Hh (.cut 0)] ?_ fun J1 hJ1 => ?_
  ·rintro ⟨c_States, c_Edges⟩ hf0
   unfold kA at hf0
   obtain rfl := zf hf0
   exact yE X0 hC hE [Hm (shM eB eB c_States), Hm (shM (eOs 1 true eB) (eSl 1 true eB) c_Edges)]
  ·obtain ⟨t2, ht2, hf0⟩ := zg hf0
   refine yL X0 hC qC [1,1,1,2,1,0] [J1] (fun s => wz m_ l_ s.1 s.2.1 s.2.2) (fun x => Vx m_ l_ x.1 x.2.1 x.2.2) (r_1.States, r_1.Edges, 0) ht2  [Ha (lnM F4_ l_), Hh (.n 1 [2])] ?_
   rintro ⟨c_States1, c_Edges1, x21⟩ m2 lr1 hf1 hl1 J2 hJ2
   try unfold wz at hf1
   rcases zP hf1 with ⟨c1, hf1⟩ | ⟨c1, hf1⟩
   ·obtain ⟨l__e, h2, hf1⟩ := zg hf1
    obtain ⟨r_2, h3, hf1⟩ := zg hf1
    obtain rfl := zf hf1
    exact yB ((wV (P := Tryz.prog) x6 [7] (z8d (pre := [uf m_, F4_ l__e]) (enc := (fun x : Int × Int => [(eI .i64) x.1, (eI .i64) x.2])) (ls := (fun s : z8 => [(pv7, .box (.agg [eOs 1 true eB s.States, eOs 1 true (eOs 1 true eB) s.Edges]))])) (F := fun yy s => vt m_ l__e yy s) (fun yv Y hy s s' h => Uo hC _ yv Y _ hy m_ l__e s s' h) (fun s x s' h => Up hC pv7 l__e m_ _ _ _ _ h) (fun _ _ => rfl) h3) 28).or ((xMk Tryz.prog x6).or X0)) hC hJ2 (r_2.States, r_2.Edges, w64 (x21 + 1)) hl1 [Hq c1, Hi F4_ h2, Hn (jt (f := .fn 48 []) (xs := [uf m_, F4_ l__e, .fn 49 [.atom pv7, .sptr (eSl 1 false (eI .i64) l__e), .sptr (.agg [I m_.Inputs, I m_.Outputs, eSl 1 false vB m_.Rows])]]) (ls := [(pv7, .box (.agg [eOs 1 true eB c_States1, eOs 1 true (eOs 1 true eB) c_Edges1]))]) (r := .tup []) (ys := [.box (.agg [eOs 1 true eB r_2.States, eOs 1 true (eOs 1 true eB) r_2.Edges])]) [uf m_, F4_ l__e, .fn 49 [.atom pv7, .sptr (eSl 1 false (eI .i64) l__e), .sptr (.agg [I m_.Inputs, I m_.Outputs, eSl 1 false vB m_.Rows])]] (show Kn [uf m_, F4_ l__e, .fn 49 [.atom pv7, .sptr (eSl 1 false (eI .i64) l__e), .sptr (.agg [I m_.Inputs, I m_.Outputs, eSl 1 false vB m_.Rows])]] [uf m_, F4_ l__e, .fn 49 [.atom pv7, .sptr (eSl 1 false (eI .i64) l__e), .sptr (.agg [I m_.Inputs, I m_.Outputs, eSl 1 false vB m_.Rows])]] from inferInstance))]
   ·obtain rfl := zf hf1
    obtain rfl := hl1
    exact yB X0 hC hJ1 (c_States1, c_Edges1) hf0 [Hq c1]
def Uc : Code := (Tryz.f80.body).getD .skip
def j4 : zU := spF (α := yf) (ρ := Int) 80 (fun x => [z0S x]) (fun r => (eI .i64) r) (fun x => wi x) [] (VX)
theorem Un {ctr : Ctr} (hC : zA Tryz.prog ctr) : j4.Ok Tryz.prog := by
 refine zC ?_
 rintro x_ r0 hf0
 try unfold wi at hf0
 refine yO true [(2, none)] Uc 8 Tryz.func80 fun E hE => ?_
 obtain ⟨g0, hf0⟩ := gdE hf0
 obtain rfl := zf hf0
 exact yE X0 hC hE [Hn g0]
def uC : Code := (Tryz.f45.body).getD .skip
def YW : zU := spF (α := yf) (ρ := List (List Int)) 45 (fun x => [z0S x]) (fun r => (eOs 1 false F5_) r) (fun x => Yk x) [] (VX)
abbrev QS (out : List (List Int)) : List (Nat × T) := [(3, .own (eOs 1 false F5_ out))]
abbrev QR (x_ : yf) (i_ : Int) (out2 : List (List Int)) : List (Nat × T) := [(1, .own (.box (z0S x_))), (3, .own (eOs 1 false F5_ out2)), (4, .d (I i_)), (13, .d (I i_)), (14, .d (B (decide (i_ < 40))))]
abbrev QQ (x_ : yf) (out1 : List (List Int)) (i_ : Int) (w_ : List Int) : List (Nat × T) := [(1, .own (.box (z0S x_))), (3, .own (eOs 1 false F5_ out1)), (4, .d (I i_)), (5, .own (eOs 1 false (eI .i64) w_)), (13, .d (I i_)), (14, .d (B (decide (i_ < 40))))]
abbrev QO (x_ : yf) (out1 : List (List Int)) (i_ : Int) (w_1 : List Int) (k_ : Int) : List (Nat × T) := [(1, .own (.box (z0S x_))), (3, .own (eOs 1 false F5_ out1)), (4, .d (I i_)), (5, .own (eOs 1 false (eI .i64) w_1)), (6, .d (I k_)), (13, .d (I i_)), (14, .d (B (decide (i_ < 40))))]
abbrev QP (x_ : yf) (out1 : List (List Int)) (i_ : Int) : List (Nat × T) := [(1, .own (.box (z0S x_))), (3, .own (eOs 1 false F5_ out1)), (4, .d (I i_))]
theorem z20 {ctr : Ctr} (hC : zA Tryz.prog ctr) (h1k : ctr.Has j4) : YW.Ok Tryz.prog := by
 refine zC ?_
 rintro x_ r0 hf0
 try unfold Yk at hf0
 refine yO true [(2, none)] uC 53 Tryz.func45 fun E hE => ?_
 refine yJ X0 hC uC [1,1] [] [3] (fun z : List (List Int) => X1 z = some r0) (fun z => QS z) [(1, .own (.box (z0S x_))), (3, .own (eOs 1 true F4_ []))] [Hh (.cut 2)] ?_ fun J1 hJ1 => ?_
 ·rintro out hf0
  unfold X1 at hf0
  obtain rfl := zf hf0
  exact yE X0 hC hE []
 ·obtain ⟨t2, ht2, hf0⟩ := zg hf0
  refine yLx X0 hC uC [1,1,2,1,0] [J1] (fun s => qP x_ s.1 s.2) (fun x => QP x_ x.1 x.2) (([] : List (List Int)), 0) ht2 [(1, .own (.box (z0S x_))), (3, .own (eOs 1 true F5_ [])), (4, .d (I 0))] inferInstance [] ?_
  rintro ⟨out1, i_⟩ m2 lr1 hf1 hl1 J2 hJ2
  try unfold qP at hf1
  let Z0 : List HO := [Ha (lnM F0_ x_.Words)]
  rcases zP hf1 with ⟨c0, hf1⟩ | ⟨c0, hf1⟩
  ·rcases zP hf1 with ⟨c1, hf1⟩ | ⟨c1, hf1⟩
   ·refine yJ X0 hC uC [1,1,2,1,0,0,1] [J1, J2] [1,3,4,13,14] (fun z : List (List Int) => kM i_ z = some lr1) (fun z => QR x_ i_ z) [(1, .own (.box (z0S x_))), (3, .own (eOs 1 false F5_ out1)), (4, .d (I i_)), (13, .d (I i_)), (14, .d (B (decide (i_ < 40))))] (Z0 ++ [Hq c0, Hq c0, Hq c0, Hq c1, Hh (.cut 0)]) ?_ fun J3 hJ3 => ?_
    ·rintro out2 hf1
     unfold kM at hf1
     obtain rfl := zf hf1
     exact yB X0 hC hJ2 (out2, w64 (i_ + 1)) hl1 []
    ·refine yJ X0 hC uC [1,1,2,1,0,0,1,2,0,1] [J1, J2, J3] [1,3,4,5,13,14] (fun z : List Int => kL out1 i_ z = some lr1) (fun z => QQ x_ out1 i_ z) [(1, .own (.box (z0S x_))), (3, .own (eOs 1 false F5_ out1)), (4, .d (I i_)), (5, .own (eOs 1 true (eI .i64) [])), (13, .d (I i_)), (14, .d (B (decide (i_ < 40))))] [Hh (.cut 1)] ?_ fun J4 hJ4 => ?_
     ·rintro w_ hf1
      unfold kL at hf1
      obtain ⟨g0, hf1⟩ := gdE hf1
      exact yB X0 hC hJ3 (out1 ++ ([w_] : List (List Int))) hf1 [Hq (oC F5_ w_ []), Hn (aL F5_ F5_ g0), Hl (aM F5_ out1 ([w_] : List (List Int)))]
     ·obtain ⟨t5, ht5, hf1⟩ := zg hf1
      refine yLx X0 hC uC [1,1,2,1,0,0,1,2,0,1,2,1,0] [J1, J2, J3, J4] (fun s => uw x_ i_ s.1 s.2) (fun x => QO x_ out1 i_ x.1 x.2) (([] : List Int), 0) ht5 [(1, .own (.box (z0S x_))), (3, .own (eOs 1 false F5_ out1)), (4, .d (I i_)), (5, .own (eOs 1 true (eI .i64) [])), (6, .d (I 0)), (13, .d (I i_)), (14, .d (B (decide (i_ < 40))))] inferInstance [] ?_
      rintro ⟨w_1, k_⟩ m5 lr2 hf2 hl2 J5 hJ5
      try unfold uw at hf2
      obtain ⟨Word_e, h0, hf2⟩ := zg hf2
      let Z1 : List HO := [Hi F0_ h0, Ha (lnM (eI .u8) Word_e)]
      rcases zP hf2 with ⟨c2, hf2⟩ | ⟨c2, hf2⟩
      ·rcases zP hf2 with ⟨c3, hf2⟩ | ⟨c3, hf2⟩
       ·obtain ⟨Word_e1, h1, hf2⟩ := zg hf2
        obtain ⟨Word_e_e, h2, hf2⟩ := zg hf2
        obtain ⟨r_, h3, hf2⟩ := zg hf2
        obtain ⟨g1, hf2⟩ := gdE hf2
        obtain ⟨g2, hf2⟩ := gdE hf2
        obtain rfl := zf hf2
        exact yB X0 hC hJ5 ((w_1 ++ ([Int.tmod (w64 (Word_e_e)) r_] : List Int)), w64 (k_ + 1)) hl2 (Z1 ++ [Hq c2, Hq c2, Hq c2, Hq c3, Hi F0_ h1, Hi (eI .u8) h2, Hc h1k (x := x_) h3 (loC z0S x_ <| loN), Hn g1, Hq (dM (eI .i64) ([Int.tmod (w64 (Word_e_e)) r_] : List Int)), Hn (dM (eI .i64) ([Int.tmod (w64 (Word_e_e)) r_] : List Int)), Hn (aL (eI .i64) (eI .i64) g2), Hl (aM (eI .i64) w_1 ([Int.tmod (w64 (Word_e_e)) r_] : List Int))])
       ·obtain rfl := zf hf2
        obtain rfl := hl2
        exact yB X0 hC hJ4 w_1 hf1 (Z1 ++ [Hq c2, Hq c2, Hq c2, Hq c3])
      ·obtain rfl := zf hf2
       obtain rfl := hl2
       exact yB X0 hC hJ4 w_1 hf1 (Z1 ++ [Hq c2, Hq c2, Hq c2, qF])
   ·obtain rfl := zf hf1
    obtain rfl := hl1
    exact yB X0 hC hJ1 out1 hf0 (Z0 ++ [Hq c0, Hq c0, Hq c0, Hq c1])
  ·obtain rfl := zf hf1
   obtain rfl := hl1
   exact yB X0 hC hJ1 out1 hf0 (Z0 ++ [Hq c0, Hq c0, Hq c0, qF])
def Zs : Code := (Tryz.f59.body).getD .skip
def qU : zU := spF (α := List Int × List Int) (ρ := Int) 59 (fun x => [F4_ x.1, F4_ x.2]) (fun r => (eI .i64) r) (fun x => u9 x.1 x.2) [] (Wu)
abbrev Ui : List (Nat × T) := []
abbrev Uh (a_ : List Int) (b_ : List Int) (i_ : Int) : List (Nat × T) := [(0, .d (eSl 1 false (eI .i64) a_)), (1, .d (eSl 1 false (eI .i64) b_)), (5, .d (I i_))]
theorem Kr {ctr : Ctr} (hC : zA Tryz.prog ctr) : qU.Ok Tryz.prog := by
 refine zC ?_
 rintro ⟨a_, b_⟩ r0 hf0
 try unfold u9 at hf0
 refine yO true [(4, none)] Zs 40 Tryz.func59 fun E hE => ?_
 let Z0 : List HO := [Ha (lnM (eI .i64) a_), Ha (lnM (eI .i64) b_)]
 rcases zP hf0 with ⟨c0, hf0⟩ | ⟨c0, hf0⟩
 ·let Z1 : List HO := (Z0 ++ [Hq c0, Ha (lnM (eI .i64) a_), Ha (lnM (eI .i64) b_)])
  rcases zP hf0 with ⟨c1, hf0⟩ | ⟨c1, hf0⟩
  ·obtain rfl := zf hf0
   exact yE X0 hC hE (Z1 ++ [Hq c1])
  ·obtain rfl := zf hf0
   exact yE X0 hC hE (Z1 ++ [Hq c1])
 ·refine yJ X0 hC Zs [1,1] [] [] (fun z : Unit => Zp = some r0) (fun z => Ui) [(0, .d (eSl 1 false (eI .i64) a_)), (1, .d (eSl 1 false (eI .i64) b_))] (Z0 ++ [Hq c0, Hh (.cut 0)]) ?_ fun J1 hJ1 => ?_
  ·rintro ⟨⟩ hf0
   unfold Zp at hf0
   obtain rfl := zf hf0
   exact yE X0 hC hE []
  ·obtain ⟨t2, ht2, hf0⟩ := zg hf0
   refine yL X0 hC Zs [1,1,2,1,0] [J1] (fun s => uo a_ b_ s) (fun x => Uh a_ b_ x) 0 ht2  [] ?_
   rintro i_ m2 lr1 hf1 hl1 J2 hJ2
   try unfold uo at hf1
   rcases zP hf1 with ⟨c2, hf1⟩ | ⟨c2, hf1⟩
   ·obtain ⟨a__e, h0, hf1⟩ := zg hf1
    obtain ⟨b__e, h1, hf1⟩ := zg hf1
    let Z2 : List HO := [Ha (lnM (eI .i64) a_), Hq c2, Hi (eI .i64) h0, Hi (eI .i64) h1]
    rcases zP hf1 with ⟨c3, hf1⟩ | ⟨c3, hf1⟩
    ·obtain rfl := zf hf1
     obtain rfl := hl1
     obtain rfl := zf hf0
     exact yE X0 hC hE (Z2 ++ [Hq c3])
    ·obtain ⟨a__e1, h2, hf1⟩ := zg hf1
     obtain ⟨b__e1, h3, hf1⟩ := zg hf1
     let Z3 : List HO := (Z2 ++ [Hq c3, Hi (eI .i64) h2, Hi (eI .i64) h3])
     rcases zP hf1 with ⟨c4, hf1⟩ | ⟨c4, hf1⟩
     ·obtain rfl := zf hf1
      obtain rfl := hl1
      obtain rfl := zf hf0
      exact yE X0 hC hE (Z3 ++ [Hq c4])
     ·obtain rfl := zf hf1
      exact yB X0 hC hJ2 (w64 (i_ + 1)) hl1 (Z3 ++ [Hq c4])
   ·obtain rfl := zf hf1
    obtain rfl := hl1
    exact yB X0 hC hJ1 () hf0 [Ha (lnM (eI .i64) a_), Hq c2]
end Go.Own
end
