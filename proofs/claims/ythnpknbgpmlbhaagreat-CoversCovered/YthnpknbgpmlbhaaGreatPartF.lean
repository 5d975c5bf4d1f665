/- -/
import Derived.Test.YthnpknbgpmlbhaaGreatPartE
set_option linter.unusedVariables false
set_option linter.unusedSimpArgs false
namespace Go.Own
open Go.Proofs
set_option maxRecDepth 100000
set_option maxHeartbeats 8000000
def X0 : XH Tryz.prog := xB zz
theorem XY : Tryz.prog.follows .mixedOrders = true := by kernel_rfl
section
variable {ctr : Ctr} {n : Fr} {Q : Exit → St → Prop} {c : Code} {fs : List Fm} {st : St}
theorem yE (X : XH Tryz.prog) (hC : zu Tryz.prog ctr) {E : St → Prop} {r : A} {keep : Bool} {rs : List (Nat × Option Nat)} (hE : ∀ st x R U, z42 xr keep rs st = some (x, R, U) → LeV x r → E st) (L : List HO) (e : z9j X xr ctr n keep rs 4000 c fs st (hoH L) = some (r, hoO L) := by kernel_rfl) : AWP Tryz.prog n c st (Qf Tryz.prog n fs (z3w E)) := yE6 X zz hC XY hE L e
theorem yEx (X : XH Tryz.prog) (hC : zu Tryz.prog ctr) {E : St → Prop} {r : A} {keep : Bool} {rs : List (Nat × Option Nat)} (hE : ∀ st x R U, z42 xr keep rs st = some (x, R, U) → LeV x r → E st) (L : List HO) (x : A) (hle : LeV x r) (e : z9j X xr ctr n keep rs 4000 c fs st (hoH L) = some (x, hoO L) := by kernel_rfl) : AWP Tryz.prog n c st (Qf Tryz.prog n fs (z3w E)) := zer X zz hC XY hE L x hle e
theorem yB (X : XH Tryz.prog) (hC : zu Tryz.prog ctr) {τ : Type} {J : St → Prop} {live : List Nat} {S : τ → List (Nat × T)} {Inv : τ → Prop} (hJ : ∀ st' l' z, Inv z → Own.canon live st' = ofL l' → LeL l' (S z) → J st') (z : τ) (hz : Inv z) (L : List HO) (e : z0e X xr ctr n live 4000 c fs st (hoH L) = some (.back J, ofL (S z), hoO L) := by kernel_rfl) : AWP Tryz.prog n c st (Qf Tryz.prog n fs Q) := yB6 X zz hC XY hJ z hz L e
theorem yA (X : XH Tryz.prog) (hC : zu Tryz.prog ctr) (bd : Code) (path : List Nat) (Js : List (St → Prop)) (l : List (Nat × T)) (L : List HO) (h : AWP Tryz.prog n (sub path bd) (ofL l) (Qf Tryz.prog n (frs path Js bd []) Q)) (e : z0e X xr ctr n (Wj l) 4000 c fs st (hoH L) = some (.at (sub path bd) (frs path Js bd []), ofL l, hoO L) := by kernel_rfl) : AWP Tryz.prog n c st (Qf Tryz.prog n fs Q) := yA6 X zz hC XY bd path Js l L e h
theorem yAt (X : XH Tryz.prog) (hC : zu Tryz.prog ctr) (c' : Code) (fs' : List Fm) (l : List (Nat × T)) (L : List HO) (h : ∀ st0, Own.canon (Wj l) st0 = ofL l → AWP Tryz.prog n c' st0 (Qf Tryz.prog n fs' Q)) (e : z0e X xr ctr n (Wj l) 4000 c fs st (hoH L) = some (.at c' fs', ofL l, hoO L) := by kernel_rfl) : AWP Tryz.prog n c st (Qf Tryz.prog n fs Q) := zes X zz hC XY c' fs' l L e h
theorem yLx (X : XH Tryz.prog) (hC : zu Tryz.prog ctr) (bd : Code) (path : List Nat) (Js : List (St → Prop)) {σ τ : Type} (f : σ → Option (LR σ τ)) (S : σ → List (Nat × T)) (x0 : σ) {t : τ} (ht : loop f x0 = some t) (l : List (Nat × T)) (hl : LeL l (S x0)) (L : List HO) (round : ∀ x m lr, f x = some lr → zch f m t lr → ∀ J : St → Prop, (∀ st' l' x', Wi f m x' = some t → Own.canon (Wj l) st' = ofL l' → LeL l' (S x') → J st') → AWP Tryz.prog n (sub (path ++ [0]) bd) (ofL (S x)) (Qf Tryz.prog n (.pre J :: frs path Js bd []) Q)) (e : z0e X xr ctr n (Wj l) 4000 c fs st (hoH L) = some (.at (sub path bd) (frs path Js bd []), ofL l, hoO L) := by kernel_rfl) (e2 : sub path bd = .loop (sub (path ++ [0]) bd) := by kernel_rfl) (hk : ∀ x, Wj (S x) = Wj l := by exact fun _ => rfl) : AWP Tryz.prog n c st (Qf Tryz.prog n fs Q) := yL6 X zz hC XY bd path Js f S x0 ht l hl L hk e e2 round
theorem yL (X : XH Tryz.prog) (hC : zu Tryz.prog ctr) (bd : Code) (path : List Nat) (Js : List (St → Prop)) {σ τ : Type} (f : σ → Option (LR σ τ)) (S : σ → List (Nat × T)) (x0 : σ) {t : τ} (ht : loop f x0 = some t) (L : List HO) (round : ∀ x m lr, f x = some lr → zch f m t lr → ∀ J : St → Prop, (∀ st' l' x', Wi f m x' = some t → Own.canon (Wj (S x0)) st' = ofL l' → LeL l' (S x') → J st') → AWP Tryz.prog n (sub (path ++ [0]) bd) (ofL (S x)) (Qf Tryz.prog n (.pre J :: frs path Js bd []) Q)) (e : z0e X xr ctr n (Wj (S x0)) 4000 c fs st (hoH L) = some (.at (sub path bd) (frs path Js bd []), ofL (S x0), hoO L) := by kernel_rfl) (e2 : sub path bd = .loop (sub (path ++ [0]) bd) := by kernel_rfl) (hk : ∀ x, Wj (S x) = Wj (S x0) := by exact fun _ => rfl) : AWP Tryz.prog n c st (Qf Tryz.prog n fs Q) := yL6 X zz hC XY bd path Js f S x0 ht _ (LeL.refl _) L hk e e2 round
theorem yJ (X : XH Tryz.prog) (hC : zu Tryz.prog ctr) (bd : Code) (path : List Nat) (Js : List (St → Prop)) {σ : Type} (live : List Nat) (Inv : σ → Prop) (S : σ → List (Nat × T)) (l : List (Nat × T)) (L : List HO) (h1 : ∀ z, Inv z → AWP Tryz.prog n (sub (path ++ [1]) bd) (ofL (S z)) (Qf Tryz.prog n (frs path Js bd []) Q)) (h2 : ∀ J : St → Prop, (∀ st' l' z, Inv z → Own.canon live st' = ofL l' → LeL l' (S z) → J st') → AWP Tryz.prog n (sub (path ++ [2]) bd) (ofL l) (Qf Tryz.prog n (.pre J :: frs path Js bd []) Q)) (e : z0e X xr ctr n (Wj l) 4000 c fs st (hoH L) = some (.at (sub path bd) (frs path Js bd []), ofL l, hoO L) := by kernel_rfl) (e2 : sub path bd = .seq (sub (path ++ [2]) bd) (sub (path ++ [1]) bd) := by kernel_rfl) : AWP Tryz.prog n c st (Qf Tryz.prog n fs Q) := yJ6 X zz hC XY bd path Js live Inv S l L e e2 h1 h2
theorem yF (X : XH Tryz.prog) (hC : zu Tryz.prog ctr) (ex : Exit) (l : List (Nat × T)) (L : List HO) (h : ∀ st0, Own.canon (Wj l) st0 = ofL l → Q ex st0) (e : z0e X xr ctr n (Wj l) 4000 c fs st (hoH L) = some (.fin ex, ofL l, hoO L) := by kernel_rfl) : AWP Tryz.prog n c st (Qf Tryz.prog n fs Q) := yF6 X zz hC XY ex l L e h
theorem yO {k : Nat} {fn : Func} {r : A} {ls : List A} (keep : Bool) (rs : List (Nat × Option Nat)) (body : Code) (nt : Nat) (hf : Tryz.prog.funcs[k]? = some fn) (h : ∀ E : St → Prop, (∀ st x R U, z42 xr keep rs st = some (x, R, U) → LeV x r → E st) → AWP Tryz.prog ⟨nt, []⟩ body (ofL (z4C 0 ls)) (Qf Tryz.prog ⟨nt, []⟩ [] (z3w E))) (hb : fn.body = some body := by kernel_rfl) (hn : nt = fn.ntmps := by exact rfl) (hr : fn.results = (rs.map z0v).toArray := by exact rfl) (hnm : (fn.name == "runtime.NumGoroutine") = false := by exact rfl) (ha : Nat.ble ls.length nt = true := by kernel_rfl) : Y6 Tryz.prog k ls r := yO6 zz keep rs body nt hf hb hn hr hnm ha h
end
theorem z8k : zcg Tryz.prog 60 9 := z85 (e := 5) Tryz.underlying60 Tryz.underlying5 Tryz.underlying9
theorem z4p : z9e Tryz.prog 109 9 4 KO (.atom (.bool false)) := z6i Tryz.underlying109 Tryz.underlying9 ⟨.bool false, fun w => z5x (f := Tryz.t4) (by kernel_rfl) rfl w, fun S => vh.2 ⟨rfl, rfl⟩⟩ rfl
theorem z8S : Kn Tryz.prog 48 0 45 0 := J0 Tryz.underlying48 _ rfl rfl rfl
theorem z8R : Kn Tryz.prog 48 1 46 1 := J0 Tryz.underlying48 _ rfl rfl rfl
theorem z8Q : Kn Tryz.prog 68 0 3 0 := J0 Tryz.underlying68 _ rfl rfl rfl
theorem z9R : z9d Tryz.prog 104 1 false := z5V zz (t := 77) Tryz.so104 rfl rfl (by kernel_rfl) (by decide)
noncomputable def wq : Code := (Tryz.f7.body).getD .skip
noncomputable def Yk : zR := spF (α := zY) (ρ := z6) 7 (fun x => [z1o x]) (fun r => x4 r) (fun x => kx x) [] (Ux)
abbrev UY (x_ : zY) (m_Rows : List (List za)) : List (Nat × T) := [(2, .own (.box (.agg [I 0, I 0, eOs 1 true vN []]))), (4, .own (.box (.agg [I (w64 (1 + (w64 (Int.tmod x_.Inputs 3)))), I (w64 (1 + (w64 (Int.tmod x_.Outputs 3)))), eOs 1 false z0h m_Rows])))]
abbrev UX (x_ : zY) (s_ : Int) (m_Rows2 : List (List za)) : List (Nat × T) := [(1, .own (.box (z1o x_))), (2, .own (.box (.agg [I 0, I 0, eOs 1 true vN []]))), (3, .d (I (w64 (1 + (w64 (Int.tmod x_.States 6)))))), (4, .own (.box (.agg [I (w64 (1 + (w64 (Int.tmod x_.Inputs 3)))), I (w64 (1 + (w64 (Int.tmod x_.Outputs 3)))), eOs 1 false z0h m_Rows2]))), (5, .d (I s_))]
abbrev UW (x_ : zY) (m_Rows1 : List (List za)) (s_ : Int) (row : List za) : List (Nat × T) := [(1, .own (.box (z1o x_))), (2, .own (.box (.agg [I 0, I 0, eOs 1 true vN []]))), (3, .d (I (w64 (1 + (w64 (Int.tmod x_.States 6)))))), (4, .own (.box (.agg [I (w64 (1 + (w64 (Int.tmod x_.Inputs 3)))), I (w64 (1 + (w64 (Int.tmod x_.Outputs 3)))), eOs 1 false z0h m_Rows1]))), (5, .d (I s_)), (6, .own (eOs 2 false F9_ row))]
abbrev UV (x_ : zY) (m_Rows1 : List (List za)) (s_ : Int) (i_ : Int) (row2 : List za) : List (Nat × T) := [(1, .own (.box (z1o x_))), (2, .own (.box (.agg [I 0, I 0, eOs 1 true vN []]))), (3, .d (I (w64 (1 + (w64 (Int.tmod x_.States 6)))))), (4, .own (.box (.agg [I (w64 (1 + (w64 (Int.tmod x_.Inputs 3)))), I (w64 (1 + (w64 (Int.tmod x_.Outputs 3)))), eOs 1 false z0h m_Rows1]))), (5, .d (I s_)), (6, .own (eOs 2 false F9_ row2)), (7, .d (I i_))]
abbrev UU (x_ : zY) (m_Rows1 : List (List za)) (s_ : Int) (row1 : List za) (i_ : Int) (v_ : Int) : List (Nat × T) := [(1, .own (.box (z1o x_))), (2, .own (.box (.agg [I 0, I 0, eOs 1 true vN []]))), (3, .d (I (w64 (1 + (w64 (Int.tmod x_.States 6)))))), (4, .own (.box (.agg [I (w64 (1 + (w64 (Int.tmod x_.Inputs 3)))), I (w64 (1 + (w64 (Int.tmod x_.Outputs 3)))), eOs 1 false z0h m_Rows1]))), (5, .d (I s_)), (6, .own (eOs 2 false F9_ row1)), (7, .d (I i_)), (8, .d (I v_))]
abbrev US (x_ : zY) (m_Rows1 : List (List za)) (s_ : Int) (row1 : List za) (i_ : Int) : List (Nat × T) := [(1, .own (.box (z1o x_))), (2, .own (.box (.agg [I 0, I 0, eOs 1 true vN []]))), (3, .d (I (w64 (1 + (w64 (Int.tmod x_.States 6)))))), (4, .own (.box (.agg [I (w64 (1 + (w64 (Int.tmod x_.Inputs 3)))), I (w64 (1 + (w64 (Int.tmod x_.Outputs 3)))), eOs 1 false z0h m_Rows1]))), (5, .d (I s_)), (6, .own (eOs 2 false F9_ row1)), (7, .d (I i_))]
abbrev UT (x_ : zY) (m_Rows1 : List (List za)) (s_ : Int) : List (Nat × T) := [(1, .own (.box (z1o x_))), (2, .own (.box (.agg [I 0, I 0, eOs 1 true vN []]))), (3, .d (I (w64 (1 + (w64 (Int.tmod x_.States 6)))))), (4, .own (.box (.agg [I (w64 (1 + (w64 (Int.tmod x_.Inputs 3)))), I (w64 (1 + (w64 (Int.tmod x_.Outputs 3)))), eOs 1 false z0h m_Rows1]))), (5, .d (I s_))]
theorem z0t {ctr : Ctr} (hC : zu Tryz.prog ctr) : Yk.Ok Tryz.prog := by
 refine zy ?_
 rintro x_ r0 hf0
 try unfold kx at hf0
 refine yO false [(2, some 27)] wq 87 Tryz.func7 fun E hE => ?_
 obtain ⟨g0, hf0⟩ := gdE hf0
 obtain ⟨g1, hf0⟩ := gdE hf0
 obtain ⟨g2, hf0⟩ := gdE hf0
 refine yJ X0 hC wq [1,1,1] [] [2,4] (fun z : List (List za) => kh x_ z = some r0) (fun z => UY x_ z) [(1, .own (.box (z1o x_))), (2, .own (.box (.agg [I 0, I 0, eOs 1 true vN []]))), (3, .d (I (w64 (1 + (w64 (Int.tmod x_.States 6)))))), (4, .own (.box (.agg [I (w64 (1 + (w64 (Int.tmod x_.Inputs 3)))), I (w64 (1 + (w64 (Int.tmod x_.Outputs 3)))), eOs 1 true vN []])))] [Hn g0, Hn g1, Hn g2, Hh (.cut 3)] ?_ fun J1 hJ1 => ?_
 ·rintro m_Rows hf0
  unfold kh at hf0
  obtain rfl := zc hf0
  exact yE X0 hC hE [Hm (shM z0h vN m_Rows)]
 ·obtain ⟨t2, ht2, hf0⟩ := zf hf0
  refine yLx X0 hC wq [1,1,1,2,1,0] [J1] (fun s => kc x_ s.1 s.2) (fun x => UT x_ x.1 x.2) (([] : List (List za)), 0) ht2 [(1, .own (.box (z1o x_))), (2, .own (.box (.agg [I 0, I 0, eOs 1 true vN []]))), (3, .d (I (w64 (1 + (w64 (Int.tmod x_.States 6)))))), (4, .own (.box (.agg [I (w64 (1 + (w64 (Int.tmod x_.Inputs 3)))), I (w64 (1 + (w64 (Int.tmod x_.Outputs 3)))), eOs 1 true z0h []]))), (5, .d (I 0))] inferInstance [] ?_
  rintro ⟨m_Rows1, s_⟩ m2 lr1 hf1 hl1 J2 hJ2
  try unfold kc at hf1
  rcases zO hf1 with ⟨c0, hf1⟩ | ⟨c0, hf1⟩
  ·refine yJ X0 hC wq [1,1,1,2,1,0,0,1] [J1, J2] [1,2,3,4,5] (fun z : List (List za) => kg s_ z = some lr1) (fun z => UX x_ s_ z) [(1, .own (.box (z1o x_))), (2, .own (.box (.agg [I 0, I 0, eOs 1 true vN []]))), (3, .d (I (w64 (1 + (w64 (Int.tmod x_.States 6)))))), (4, .own (.box (.agg [I (w64 (1 + (w64 (Int.tmod x_.Inputs 3)))), I (w64 (1 + (w64 (Int.tmod x_.Outputs 3)))), eOs 1 false z0h m_Rows1]))), (5, .d (I s_))] [Hq c0, Hh (.cut 0)] ?_ fun J3 hJ3 => ?_
   ·rintro m_Rows2 hf1
    unfold kg at hf1
    obtain rfl := zc hf1
    exact yB X0 hC hJ2 (m_Rows2, w64 (s_ + 1)) hl1 []
   ·refine yJ X0 hC wq [1,1,1,2,1,0,0,1,2,0,1] [J1, J2, J3] [1,2,3,4,5,6] (fun z : List za => ke m_Rows1 s_ z = some lr1) (fun z => UW x_ m_Rows1 s_ z) [(1, .own (.box (z1o x_))), (2, .own (.box (.agg [I 0, I 0, eOs 1 true vN []]))), (3, .d (I (w64 (1 + (w64 (Int.tmod x_.States 6)))))), (4, .own (.box (.agg [I (w64 (1 + (w64 (Int.tmod x_.Inputs 3)))), I (w64 (1 + (w64 (Int.tmod x_.Outputs 3)))), eOs 1 false z0h m_Rows1]))), (5, .d (I s_)), (6, .own (eOs 2 true F9_ []))] [Hh (.cut 1)] ?_ fun J4 hJ4 => ?_
    ·rintro row hf1
     unfold ke at hf1
     obtain ⟨g3, hf1⟩ := gdE hf1
     exact yB X0 hC hJ3 (m_Rows1 ++ ([row] : List (List za))) hf1 [Hq (oC z0h row []), Hn (aL z0h z0h g3), Hl (aM z0h m_Rows1 ([row] : List (List za)))]
    ·obtain ⟨t5, ht5, hf1⟩ := zf hf1
     refine yLx X0 hC wq [1,1,1,2,1,0,0,1,2,0,1,2,1,0] [J1, J2, J3, J4] (fun s => uZ x_ s_ s.1 s.2) (fun x => US x_ m_Rows1 s_ x.1 x.2) (([] : List za), 0) ht5 [(1, .own (.box (z1o x_))), (2, .own (.box (.agg [I 0, I 0, eOs 1 true vN []]))), (3, .d (I (w64 (1 + (w64 (Int.tmod x_.States 6)))))), (4, .own (.box (.agg [I (w64 (1 + (w64 (Int.tmod x_.Inputs 3)))), I (w64 (1 + (w64 (Int.tmod x_.Outputs 3)))), eOs 1 false z0h m_Rows1]))), (5, .d (I s_)), (6, .own (eOs 2 true F9_ [])), (7, .d (I 0))] inferInstance [] ?_
     rintro ⟨row1, i_⟩ m5 lr2 hf2 hl2 J5 hJ5
     try unfold uZ at hf2
     rcases zO hf2 with ⟨c1, hf2⟩ | ⟨c1, hf2⟩
     ·refine yJ X0 hC wq [1,1,1,2,1,0,0,1,2,0,1,2,1,0,0,1] [J1, J2, J3, J4, J5] [1,2,3,4,5,6,7] (fun z : List za => q9 i_ z = some lr2) (fun z => UV x_ m_Rows1 s_ i_ z) [(1, .own (.box (z1o x_))), (2, .own (.box (.agg [I 0, I 0, eOs 1 true vN []]))), (3, .d (I (w64 (1 + (w64 (Int.tmod x_.States 6)))))), (4, .own (.box (.agg [I (w64 (1 + (w64 (Int.tmod x_.Inputs 3)))), I (w64 (1 + (w64 (Int.tmod x_.Outputs 3)))), eOs 1 false z0h m_Rows1]))), (5, .d (I s_)), (6, .own (eOs 2 false F9_ row1)), (7, .d (I i_))] [Hq c1, Hh (.cut 0)] ?_ fun J6 hJ6 => ?_
      ·rintro row2 hf2
       unfold q9 at hf2
       obtain rfl := zc hf2
       exact yB X0 hC hJ5 (row2, w64 (i_ + 1)) hl2 []
      ·refine yJ X0 hC wq [1,1,1,2,1,0,0,1,2,0,1,2,1,0,0,1,2,0,1] [J1, J2, J3, J4, J5, J6] [1,2,3,4,5,6,7,8] (fun z : Int => v8 x_ row1 i_ z = some lr2) (fun z => UU x_ m_Rows1 s_ row1 i_ z) [(1, .own (.box (z1o x_))), (2, .own (.box (.agg [I 0, I 0, eOs 1 true vN []]))), (3, .d (I (w64 (1 + (w64 (Int.tmod x_.States 6)))))), (4, .own (.box (.agg [I (w64 (1 + (w64 (Int.tmod x_.Inputs 3)))), I (w64 (1 + (w64 (Int.tmod x_.Outputs 3)))), eOs 1 false z0h m_Rows1]))), (5, .d (I s_)), (6, .own (eOs 2 false F9_ row1)), (7, .d (I i_)), (8, .d (I 0))] [Hh (.cut 1)] ?_ fun J7 hJ7 => ?_
       ·rintro v_ hf2
        unfold v8 at hf2
        rcases zO hf2 with ⟨c2, hf2⟩ | ⟨c2, hf2⟩
        ·obtain ⟨g4, hf2⟩ := gdE hf2
         let Z0 : List HO := [Hq c2, Hq c2, Hn g4, Hq c2, Hq c2]
         rcases zO hf2 with ⟨c3, hf2⟩ | ⟨c3, hf2⟩
         ·obtain ⟨g5, hf2⟩ := gdE hf2
          exact yB X0 hC hJ6 (row1 ++ ([(za.mk (-1) (-1))] : List za)) hf2 (Z0 ++ [Hq c3, Hq (dM F9_ ([(za.mk (-1) (-1))] : List za)), Hn (dM F9_ ([(za.mk (-1) (-1))] : List za)), Hn (aL F9_ F9_ g5), Hl (aM F9_ row1 ([(za.mk (-1) (-1))] : List za))])
         ·obtain ⟨g6, hf2⟩ := gdE hf2
          obtain ⟨g7, hf2⟩ := gdE hf2
          obtain ⟨g8, hf2⟩ := gdE hf2
          obtain ⟨g9, hf2⟩ := gdE hf2
          obtain ⟨g10, hf2⟩ := gdE hf2
          obtain ⟨g11, hf2⟩ := gdE hf2
          exact yB X0 hC hJ6 (row1 ++ ([(za.mk (Int.tmod (w64 (Int.tdiv v_ 4)) (w64 (1 + (w64 (Int.tmod x_.States 6))))) (Int.tmod (w64 (Int.tdiv (w64 (Int.tdiv v_ 4)) (w64 (1 + (w64 (Int.tmod x_.States 6)))))) (w64 (1 + (w64 (Int.tmod x_.Outputs 3))))))] : List za)) hf2 (Z0 ++ [Hq c3, Hn g6, Hn g7, Hn g8, Hn g9, Hn g10, Hq (dM F9_ ([(za.mk (Int.tmod (w64 (Int.tdiv v_ 4)) (w64 (1 + (w64 (Int.tmod x_.States 6))))) (Int.tmod (w64 (Int.tdiv (w64 (Int.tdiv v_ 4)) (w64 (1 + (w64 (Int.tmod x_.States 6)))))) (w64 (1 + (w64 (Int.tmod x_.Outputs 3))))))] : List za)), Hn (dM F9_ ([(za.mk (Int.tmod (w64 (Int.tdiv v_ 4)) (w64 (1 + (w64 (Int.tmod x_.States 6))))) (Int.tmod (w64 (Int.tdiv (w64 (Int.tdiv v_ 4)) (w64 (1 + (w64 (Int.tmod x_.States 6)))))) (w64 (1 + (w64 (Int.tmod x_.Outputs 3))))))] : List za)), Hn (aL F9_ F9_ g11), Hl (aM F9_ row1 ([(za.mk (Int.tmod (w64 (Int.tdiv v_ 4)) (w64 (1 + (w64 (Int.tmod x_.States 6))))) (Int.tmod (w64 (Int.tdiv (w64 (Int.tdiv v_ 4)) (w64 (1 + (w64 (Int.tmod x_.States 6)))))) (w64 (1 + (w64 (Int.tmod x_.Outputs 3))))))] : List za))])
        ·obtain ⟨g12, hf2⟩ := gdE hf2
         obtain ⟨g13, hf2⟩ := gdE hf2
         obtain ⟨g14, hf2⟩ := gdE hf2
         obtain ⟨g15, hf2⟩ := gdE hf2
         obtain ⟨g16, hf2⟩ := gdE hf2
         obtain ⟨g17, hf2⟩ := gdE hf2
         exact yB X0 hC hJ6 (row1 ++ ([(za.mk (Int.tmod (w64 (Int.tdiv v_ 4)) (w64 (1 + (w64 (Int.tmod x_.States 6))))) (Int.tmod (w64 (Int.tdiv (w64 (Int.tdiv v_ 4)) (w64 (1 + (w64 (Int.tmod x_.States 6)))))) (w64 (1 + (w64 (Int.tmod x_.Outputs 3))))))] : List za)) hf2 (rpN 4 (Hq c2) [qF, Hn g12, Hn g13, Hn g14, Hn g15, Hn g16, Hq (dM F9_ ([(za.mk (Int.tmod (w64 (Int.tdiv v_ 4)) (w64 (1 + (w64 (Int.tmod x_.States 6))))) (Int.tmod (w64 (Int.tdiv (w64 (Int.tdiv v_ 4)) (w64 (1 + (w64 (Int.tmod x_.States 6)))))) (w64 (1 + (w64 (Int.tmod x_.Outputs 3))))))] : List za)), Hn (dM F9_ ([(za.mk (Int.tmod (w64 (Int.tdiv v_ 4)) (w64 (1 + (w64 (Int.tmod x_.States 6))))) (Int.tmod (w64 (Int.tdiv (w64 (Int.tdiv v_ 4)) (w64 (1 + (w64 (Int.tmod x_.States 6)))))) (w64 (1 + (w64 (Int.tmod x_.Outputs 3))))))] : List za)), Hn (aL F9_ F9_ g17), Hl (aM F9_ row1 ([(za.mk (Int.tmod (w64 (Int.tdiv v_ 4)) (w64 (1 + (w64 (Int.tmod x_.States 6))))) (Int.tmod (w64 (Int.tdiv (w64 (Int.tdiv v_ 4)) (w64 (1 + (w64 (Int.tmod x_.States 6)))))) (w64 (1 + (w64 (Int.tmod x_.Outputs 3))))))] : List za))])
       ·let Z1 : List HO := [Ha (lnM (eI .u16) x_.Edges)]
        rcases zO hf2 with ⟨c4, hf2⟩ | ⟨c4, hf2⟩
        ·obtain ⟨Edge_e, h0, hf2⟩ := zf hf2
         exact yB X0 hC hJ7 (w64 (Edge_e)) hf2 (Z1 ++ [Hq c4, Hi (eI .u16) h0])
        ·exact yB X0 hC hJ7 0 hf2 (Z1 ++ [Hq c4])
     ·obtain rfl := zc hf2
      obtain rfl := hl2
      exact yB X0 hC hJ4 row1 hf1 [Hq c1]
  ·obtain rfl := zc hf1
   obtain rfl := hl1
   exact yB X0 hC hJ1 m_Rows1 hf0 [Hq c0]
noncomputable def Wm : Code := (Tryz.f80.body).getD .skip
noncomputable def uA : zR := spF (α := ye) (ρ := Int) 80 (fun x => [z1p x]) (fun r => (eI .i64) r) (fun x => xE x) [] (Ux)
theorem WD {ctr : Ctr} (hC : zu Tryz.prog ctr) : uA.Ok Tryz.prog := by
 refine zy ?_
 rintro x_ r0 hf0
 try unfold xE at hf0
 refine yO true [(2, none)] Wm 8 Tryz.func80 fun E hE => ?_
 obtain ⟨g0, hf0⟩ := gdE hf0
 obtain rfl := zc hf0
 exact yE X0 hC hE [Hn g0]
noncomputable def vz : Code := (Tryz.f45.body).getD .skip
noncomputable def ZC : zR := spF (α := ye) (ρ := List (List Int)) 45 (fun x => [z1p x]) (fun r => (eOs 1 false F4_) r) (fun x => kQ x) [] (Ux)
abbrev VU (out : List (List Int)) : List (Nat × T) := [(3, .own (eOs 1 false F4_ out))]
abbrev VT (x_ : ye) (i_ : Int) (out2 : List (List Int)) : List (Nat × T) := [(1, .own (.box (z1p x_))), (3, .own (eOs 1 false F4_ out2)), (4, .d (I i_)), (13, .d (I i_)), (14, .d (B (decide (i_ < 40))))]
abbrev VS (x_ : ye) (out1 : List (List Int)) (i_ : Int) (w_ : List Int) : List (Nat × T) := [(1, .own (.box (z1p x_))), (3, .own (eOs 1 false F4_ out1)), (4, .d (I i_)), (5, .own (eOs 1 false (eI .i64) w_)), (13, .d (I i_)), (14, .d (B (decide (i_ < 40))))]
abbrev VQ (x_ : ye) (out1 : List (List Int)) (i_ : Int) (w_1 : List Int) (k_ : Int) : List (Nat × T) := [(1, .own (.box (z1p x_))), (3, .own (eOs 1 false F4_ out1)), (4, .d (I i_)), (5, .own (eOs 1 false (eI .i64) w_1)), (6, .d (I k_)), (13, .d (I i_)), (14, .d (B (decide (i_ < 40))))]
abbrev VR (x_ : ye) (out1 : List (List Int)) (i_ : Int) : List (Nat × T) := [(1, .own (.box (z1p x_))), (3, .own (eOs 1 false F4_ out1)), (4, .d (I i_))]
theorem Kx {ctr : Ctr} (hC : zu Tryz.prog ctr) (h_law12_L_Alphabet : ctr.Has uA) : ZC.Ok Tryz.prog := by
 refine zy ?_
 rintro x_ r0 hf0
 try unfold kQ at hf0
 refine yO true [(2, none)] vz 53 Tryz.func45 fun E hE => ?_
 refine yJ X0 hC vz [1,1] [] [3] (fun z : List (List Int) => ZF z = some r0) (fun z => VU z) [(1, .own (.box (z1p x_))), (3, .own (eOs 1 true F5_ []))] [Hh (.cut 2)] ?_ fun J1 hJ1 => ?_
 ·rintro out hf0
  unfold ZF at hf0
  obtain rfl := zc hf0
  exact yE X0 hC hE []
 ·obtain ⟨t2, ht2, hf0⟩ := zf hf0
  refine yLx X0 hC vz [1,1,2,1,0] [J1] (fun s => un x_ s.1 s.2) (fun x => VR x_ x.1 x.2) (([] : List (List Int)), 0) ht2 [(1, .own (.box (z1p x_))), (3, .own (eOs 1 true F4_ [])), (4, .d (I 0))] inferInstance [] ?_
  rintro ⟨out1, i_⟩ m2 lr1 hf1 hl1 J2 hJ2
  try unfold un at hf1
  let Z0 : List HO := [Ha (lnM F0_ x_.Words)]
  rcases zO hf1 with ⟨c0, hf1⟩ | ⟨c0, hf1⟩
  ·rcases zO hf1 with ⟨c1, hf1⟩ | ⟨c1, hf1⟩
   ·refine yJ X0 hC vz [1,1,2,1,0,0,1] [J1, J2] [1,3,4,13,14] (fun z : List (List Int) => je i_ z = some lr1) (fun z => VT x_ i_ z) [(1, .own (.box (z1p x_))), (3, .own (eOs 1 false F4_ out1)), (4, .d (I i_)), (13, .d (I i_)), (14, .d (B (decide (i_ < 40))))] (Z0 ++ [Hq c0, Hq c0, Hq c0, Hq c1, Hh (.cut 0)]) ?_ fun J3 hJ3 => ?_
    ·rintro out2 hf1
     unfold je at hf1
     obtain rfl := zc hf1
     exact yB X0 hC hJ2 (out2, w64 (i_ + 1)) hl1 []
    ·refine yJ X0 hC vz [1,1,2,1,0,0,1,2,0,1] [J1, J2, J3] [1,3,4,5,13,14] (fun z : List Int => jd out1 i_ z = some lr1) (fun z => VS x_ out1 i_ z) [(1, .own (.box (z1p x_))), (3, .own (eOs 1 false F4_ out1)), (4, .d (I i_)), (5, .own (eOs 1 true (eI .i64) [])), (13, .d (I i_)), (14, .d (B (decide (i_ < 40))))] [Hh (.cut 1)] ?_ fun J4 hJ4 => ?_
     ·rintro w_ hf1
      unfold jd at hf1
      obtain ⟨g0, hf1⟩ := gdE hf1
      exact yB X0 hC hJ3 (out1 ++ ([w_] : List (List Int))) hf1 [Hq (oC F4_ w_ []), Hn (aL F4_ F4_ g0), Hl (aM F4_ out1 ([w_] : List (List Int)))]
     ·obtain ⟨t5, ht5, hf1⟩ := zf hf1
      refine yLx X0 hC vz [1,1,2,1,0,0,1,2,0,1,2,1,0] [J1, J2, J3, J4] (fun s => vq x_ i_ s.1 s.2) (fun x => VQ x_ out1 i_ x.1 x.2) (([] : List Int), 0) ht5 [(1, .own (.box (z1p x_))), (3, .own (eOs 1 false F4_ out1)), (4, .d (I i_)), (5, .own (eOs 1 true (eI .i64) [])), (6, .d (I 0)), (13, .d (I i_)), (14, .d (B (decide (i_ < 40))))] inferInstance [] ?_
      rintro ⟨w_1, k_⟩ m5 lr2 hf2 hl2 J5 hJ5
      try unfold vq at hf2
      obtain ⟨Word_e, h0, hf2⟩ := zf hf2
      let Z1 : List HO := [Hi F0_ h0, Ha (lnM (eI .u8) Word_e)]
      rcases zO hf2 with ⟨c2, hf2⟩ | ⟨c2, hf2⟩
      ·rcases zO hf2 with ⟨c3, hf2⟩ | ⟨c3, hf2⟩
       ·obtain ⟨Word_e1, h1, hf2⟩ := zf hf2
        obtain ⟨Word_e_e, h2, hf2⟩ := zf hf2
        obtain ⟨r_, h3, hf2⟩ := zf hf2
        obtain ⟨g1, hf2⟩ := gdE hf2
        obtain ⟨g2, hf2⟩ := gdE hf2
        obtain rfl := zc hf2
        exact yB X0 hC hJ5 ((w_1 ++ ([Int.tmod (w64 (Word_e_e)) r_] : List Int)), w64 (k_ + 1)) hl2 (Z1 ++ [Hq c2, Hq c2, Hq c2, Hq c3, Hi F0_ h1, Hi (eI .u8) h2, Hc h_law12_L_Alphabet (x := x_) h3 (loC z1p x_ <| loN), Hn g1, Hq (dM (eI .i64) ([Int.tmod (w64 (Word_e_e)) r_] : List Int)), Hn (dM (eI .i64) ([Int.tmod (w64 (Word_e_e)) r_] : List Int)), Hn (aL (eI .i64) (eI .i64) g2), Hl (aM (eI .i64) w_1 ([Int.tmod (w64 (Word_e_e)) r_] : List Int))])
       ·obtain rfl := zc hf2
        obtain rfl := hl2
        exact yB X0 hC hJ4 w_1 hf1 (Z1 ++ [Hq c2, Hq c2, Hq c2, Hq c3])
      ·obtain rfl := zc hf2
       obtain rfl := hl2
       exact yB X0 hC hJ4 w_1 hf1 (Z1 ++ [Hq c2, Hq c2, Hq c2, qF])
   ·obtain rfl := zc hf1
    obtain rfl := hl1
    exact yB X0 hC hJ1 out1 hf0 (Z0 ++ [Hq c0, Hq c0, Hq c0, Hq c1])
  ·obtain rfl := zc hf1
   obtain rfl := hl1
   exact yB X0 hC hJ1 out1 hf0 (Z0 ++ [Hq c0, Hq c0, Hq c0, qF])
noncomputable def jH : Code := (Tryz.f59.body).getD .skip
noncomputable def up : zR := spF (α := List Int × List Int) (ρ := Int) 59 (fun x => [F5_ x.1, F5_ x.2]) (fun r => (eI .i64) r) (fun x => wZ x.1 x.2) [] (X3)
abbrev Wz : List (Nat × T) := []
abbrev Wy (a_ : List Int) (b_ : List Int) (i_ : Int) : List (Nat × T) := [(0, .d (eSl 1 false (eI .i64) a_)), (1, .d (eSl 1 false (eI .i64) b_)), (5, .d (I i_))]
theorem Qe {ctr : Ctr} (hC : zu Tryz.prog ctr) : up.Ok Tryz.prog := by
 refine zy ?_
 rintro ⟨a_, b_⟩ r0 hf0
 try unfold wZ at hf0
 refine yO true [(4, none)] jH 40 Tryz.func59 fun E hE => ?_
 let Z0 : List HO := [Ha (lnM (eI .i64) a_), Ha (lnM (eI .i64) b_)]
 rcases zO hf0 with ⟨c0, hf0⟩ | ⟨c0, hf0⟩
 ·let Z1 : List HO := (Z0 ++ [Hq c0, Ha (lnM (eI .i64) a_), Ha (lnM (eI .i64) b_)])
  rcases zO hf0 with ⟨c1, hf0⟩ | ⟨c1, hf0⟩
  ·obtain rfl := zc hf0
   exact yE X0 hC hE (Z1 ++ [Hq c1])
  ·obtain rfl := zc hf0
   exact yE X0 hC hE (Z1 ++ [Hq c1])
 ·refine yJ X0 hC jH [1,1] [] [] (fun z : Unit => jF = some r0) (fun z => Wz) [(0, .d (eSl 1 false (eI .i64) a_)), (1, .d (eSl 1 false (eI .i64) b_))] (Z0 ++ [Hq c0, Hh (.cut 0)]) ?_ fun J1 hJ1 => ?_
  ·rintro ⟨⟩ hf0
   unfold jF at hf0
   obtain rfl := zc hf0
   exact yE X0 hC hE []
  ·obtain ⟨t2, ht2, hf0⟩ := zf hf0
   refine yL X0 hC jH [1,1,2,1,0] [J1] (fun s => vj a_ b_ s) (fun x => Wy a_ b_ x) 0 ht2  [] ?_
   rintro i_ m2 lr1 hf1 hl1 J2 hJ2
   try unfold vj at hf1
   rcases zO hf1 with ⟨c2, hf1⟩ | ⟨c2, hf1⟩
   ·obtain ⟨a__e, h0, hf1⟩ := zf hf1
    obtain ⟨b__e, h1, hf1⟩ := zf hf1
    let Z2 : List HO := [Ha (lnM (eI .i64) a_), Hq c2, Hi (eI .i64) h0, Hi (eI .i64) h1]
    rcases zO hf1 with ⟨c3, hf1⟩ | ⟨c3, hf1⟩
    ·obtain rfl := zc hf1
     obtain rfl := hl1
     obtain rfl := zc hf0
     exact yE X0 hC hE (Z2 ++ [Hq c3])
    ·obtain ⟨a__e1, h2, hf1⟩ := zf hf1
     obtain ⟨b__e1, h3, hf1⟩ := zf hf1
     let Z3 : List HO := (Z2 ++ [Hq c3, Hi (eI .i64) h2, Hi (eI .i64) h3])
     rcases zO hf1 with ⟨c4, hf1⟩ | ⟨c4, hf1⟩
     ·obtain rfl := zc hf1
      obtain rfl := hl1
      obtain rfl := zc hf0
      exact yE X0 hC hE (Z3 ++ [Hq c4])
     ·obtain rfl := zc hf1
      exact yB X0 hC hJ2 (w64 (i_ + 1)) hl1 (Z3 ++ [Hq c4])
   ·obtain rfl := zc hf1
    obtain rfl := hl1
    exact yB X0 hC hJ1 () hf0 [Ha (lnM (eI .i64) a_), Hq c2]
noncomputable def uK : Code := (Tryz.f78.body).getD .skip
noncomputable def Xk : zR := spF (α := List (List Int) × List Int) (ρ := List (List Int)) 78 (fun x => [z3t x.1, F5_ x.2]) (fun r => z3t r) (fun x => Xo x.1 x.2) [true, false] (X3)
abbrev Jx (w_ : List Int) (low : Int) (l_1 : List (List Int)) : List (Nat × T) := [(0, .own (eOs 1 false F5_ l_1)), (1, .d (eSl 1 false (eI .i64) w_)), (5, .d (I low))]
abbrev Jw (w_ : List Int) (low : Int) (l_2 : List (List Int)) (i_ : Int) : List (Nat × T) := [(0, .own (eOs 1 false F5_ l_2)), (1, .d (eSl 1 false (eI .i64) w_)), (5, .d (I low)), (8, .d (I i_))]
abbrev Jy (l_ : List (List Int)) (w_ : List Int) (low : Int) : List (Nat × T) := [(0, .own (eOs 1 false F5_ l_)), (1, .d (eSl 1 false (eI .i64) w_)), (5, .d (I low))]
abbrev Jz (l_ : List (List Int)) (w_ : List Int) (low : Int) : List (Nat × T) := [(0, .own (eOs 1 false F5_ l_)), (1, .d (eSl 1 false (eI .i64) w_)), (5, .d (I low))]
abbrev Jv (l_ : List (List Int)) (w_ : List Int) (low1 : Int) (high : Int) : List (Nat × T) := [(0, .own (eOs 1 false F5_ l_)), (1, .d (eSl 1 false (eI .i64) w_)), (5, .d (I low1)), (6, .d (I high))]
noncomputable def yP : XH Tryz.prog := ((z7y zz (.inr 66) [65]).or ((z7y zz (.inl 44) [43]).or X0))
theorem z1v {ctr : Ctr} (hC : zu Tryz.prog ctr) (h_ref12_compare : ctr.Has up) : Xk.Ok Tryz.prog := by
 refine zy ?_
 rintro ⟨l_, w_⟩ r0 hf0
 try unfold Xo at hf0
 refine yO true [(4, none)] uK 68 Tryz.func78 fun E hE => ?_
 refine yJ yP hC uK [1,1,1] [] [0,1,5] (fun z : Int => Zp l_ w_ z = some r0) (fun z => Jz l_ w_ z) [(0, .own (eOs 1 false F5_ l_)), (1, .d (eSl 1 false (eI .i64) w_)), (5, .d (I 0)), (6, .d (I ((l_.length : Nat) : Int)))] [Ha (lnM F5_ l_), Hh (.cut 0)] ?_ fun J1 hJ1 => ?_
 ·rintro low hf0
  unfold Zp at hf0
  refine yJ yP hC uK [1,1,1,1] [] [0,1,5] (fun z : Unit => uI l_ w_ low = some r0) (fun z => Jy l_ w_ low) [(0, .own (eOs 1 false F5_ l_)), (1, .d (eSl 1 false (eI .i64) w_)), (5, .d (I low))] [Hh (.cut 0)] ?_ fun J2 hJ2 => ?_
  ·rintro ⟨⟩ hf0
   unfold uI at hf0
   obtain ⟨g0, hf0⟩ := gdE hf0
   refine yJ ((xNb zz 43).or yP) hC uK [1,1,1,1,1,1] [] [0,1,5] (fun z : List (List Int) => Zo w_ low z = some r0) (fun z => Jx w_ low z) [(0, .own (eOs 1 false F5_ (l_ ++ ([[]] : List (List Int))))), (1, .d (eSl 1 false (eI .i64) w_)), (5, .d (I low))] [Hm (shM F4_ F5_ ([[]])), Hn (dM F5_ ([[]] : List (List Int))), Hn (aL F5_ F5_ g0), Hl (aM F5_ l_ ([[]] : List (List Int))), Hh (.cut 0)] ?_ fun J3 hJ3 => ?_
   ·rintro l_1 hf0
    unfold Zo at hf0
    obtain ⟨g1, hf0⟩ := gdE hf0
    obtain ⟨l__e, h0, hf0⟩ := zf hf0
    obtain rfl := zc hf0
    exact yE yP hC hE [Hn (dM (eI .i64) w_), Hn (aL (eI .i64) (eI .i64) g1), Hl (aM0 (eI .i64) w_), Hn (iL F5_ h0), Hm (shM (eI .i64) (eI .i64) w_), Hs (iM F5_ h0), Hs (iM F5_ h0), Hl (sM F5_ l_1 low w_)]
   ·obtain ⟨t4, ht4, hf0⟩ := zf hf0
    refine yL yP hC uK [1,1,1,1,1,1,2,1,0] [J3] (fun s => jj low s.1 s.2) (fun x => Jw w_ low x.1 x.2) ((l_ ++ ([[]] : List (List Int))), w64 ((((l_ ++ ([[]] : List (List Int))).length : Nat) : Int) - 1)) ht4  [Ha (lnM F5_ (l_ ++ ([[]] : List (List Int))))] ?_
    rintro ⟨l_2, i_⟩ m4 lr1 hf1 hl1 J4 hJ4
    try unfold jj at hf1
    rcases zO hf1 with ⟨c0, hf1⟩ | ⟨c0, hf1⟩
    ·obtain ⟨l__e1, h1, hf1⟩ := zf hf1
     obtain ⟨l__e2, h2, hf1⟩ := zf hf1
     obtain rfl := zc hf1
     exact yB yP hC hJ4 ((l_2.set i_.toNat l__e1), w64 (i_ - 1)) hl1 [Hq c0, Hn (iL F5_ h1), Hs (iM F5_ h1), Hn (iL F5_ h2), Hs (iM F5_ h2), Hs (iM F5_ h2), Hl (sM F5_ l_2 i_ l__e1)]
    ·obtain rfl := zc hf1
     obtain rfl := hl1
     exact yB yP hC hJ3 l_2 hf0 [Hq c0]
  ·let Z0 : List HO := [Ha (lnM F5_ l_)]
   rcases zO hf0 with ⟨c1, hf0⟩ | ⟨c1, hf0⟩
   ·obtain ⟨l__e3, h3, hf0⟩ := zf hf0
    obtain ⟨r_, h4, hf0⟩ := zf hf0
    let Z1 : List HO := (Z0 ++ [Hq c1, Hq c1, Hq c1, Hn (iL F5_ h3), Hq c1, Hs (iM F5_ h3), Hq c1, Hq c1, Hc h_ref12_compare (x := (l__e3, w_)) h4 (loC F5_ l__e3 <| loC F5_ w_ <| loN), Hq c1, Hq c1])
    rcases zO hf0 with ⟨c2, hf0⟩ | ⟨c2, hf0⟩
    ·obtain rfl := zc hf0
     exact yE yP hC hE (Z1 ++ [Hq c2])
    ·exact yB yP hC hJ2 () hf0 (Z1 ++ [Hq c2])
   ·exact yB yP hC hJ2 () hf0 (Z0 ++ (rpN 8 (Hq c1) [qF]))
 ·obtain ⟨t5, ht5, hf0⟩ := zf hf0
  refine yL yP hC uK [1,1,1,2,0] [J1] (fun s => ji l_ w_ s.1 s.2) (fun x => Jv l_ w_ x.1 x.2) (0, ((l_.length : Nat) : Int)) ht5  [] ?_
  rintro ⟨low1, high⟩ m5 lr1 hf1 hl1 J5 hJ5
  try unfold ji at hf1
  rcases zO hf1 with ⟨c3, hf1⟩ | ⟨c3, hf1⟩
  ·obtain ⟨g2, hf1⟩ := gdE hf1
   obtain ⟨l__e4, h5, hf1⟩ := zf hf1
   obtain ⟨r_1, h6, hf1⟩ := zf hf1
   let Z2 : List HO := [Hq c3, Hn g2, Hn (iL F5_ h5), Hs (iM F5_ h5), Hc h_ref12_compare (x := (l__e4, w_)) h6 (loC F5_ l__e4 <| loC F5_ w_ <| loN)]
   rcases zO hf1 with ⟨c4, hf1⟩ | ⟨c4, hf1⟩
   ·obtain rfl := zc hf1
    exact yB yP hC hJ5 (w64 ((w64 (Int.tdiv (w64 (low1 + high)) 2)) + 1), high) hl1 (Z2 ++ [Hq c4])
   ·obtain rfl := zc hf1
    exact yB yP hC hJ5 (low1, w64 (Int.tdiv (w64 (low1 + high)) 2)) hl1 (Z2 ++ [Hq c4])
  ·obtain rfl := zc hf1
   obtain rfl := hl1
   exact yB yP hC hJ1 low1 hf0 [Hq c3]
noncomputable def YG : Code := (Tryz.f42.body).getD .skip
noncomputable def jY : zR := spF (α := List (List Int)) (ρ := List (List Int)) 42 (fun x => [vJ x]) (fun r => z3t r) (fun x => ku x) [] (Ux)
abbrev UP (out : List (List Int)) : List (Nat × T) := [(3, .own (eOs 1 false F5_ out))]
abbrev UO (l_ : List (List Int)) (out1 : List (List Int)) (i_ : Int) : List (Nat × T) := [(0, .d (eSl 1 false F5_ l_)), (3, .own (eOs 1 false F5_ out1)), (4, .d (I i_))]
theorem z0n {ctr : Ctr} (hC : zu Tryz.prog ctr) (h_ref12_put : ctr.Has Xk) : jY.Ok Tryz.prog := by
 refine zy ?_
 rintro l_ r0 hf0
 try unfold ku at hf0
 refine yO true [(2, none)] YG 18 Tryz.func42 fun E hE => ?_
 refine yJ X0 hC YG [1,1] [] [3] (fun z : List (List Int) => Yr z = some r0) (fun z => UP z) [(0, .d (eSl 1 false F5_ l_)), (3, .own (eOs 1 true F5_ []))] [Hh (.cut 2)] ?_ fun J1 hJ1 => ?_
 ·rintro out hf0
  unfold Yr at hf0
  obtain rfl := zc hf0
  exact yE X0 hC hE []
 ·obtain ⟨t2, ht2, hf0⟩ := zf hf0
  refine yLx X0 hC YG [1,1,2,1,0] [J1] (fun s => wm l_ s.1 s.2) (fun x => UO l_ x.1 x.2) (([] : List (List Int)), 0) ht2 [(0, .d (eSl 1 false F5_ l_)), (3, .own (eOs 1 true F5_ [])), (4, .d (I 0))] inferInstance [] ?_
  rintro ⟨out1, i_⟩ m2 lr1 hf1 hl1 J2 hJ2
  try unfold wm at hf1
  let Z0 : List HO := [Ha (lnM F5_ l_)]
  rcases zO hf1 with ⟨c0, hf1⟩ | ⟨c0, hf1⟩
  ·obtain ⟨l__e, h0, hf1⟩ := zf hf1
   obtain ⟨r_, h1, hf1⟩ := zf hf1
   obtain rfl := zc hf1
   exact yB X0 hC hJ2 (r_, w64 (i_ + 1)) hl1 (Z0 ++ [Hq c0, Hi F5_ h0, Hc h_ref12_put (x := (out1, l__e)) h1 (loC z3t out1 <| loC F5_ l__e <| loN)])
  ·obtain rfl := zc hf1
   obtain rfl := hl1
   exact yB X0 hC hJ1 out1 hf0 (Z0 ++ [Hq c0])
noncomputable def z06 : Code := (Tryz.f18.body).getD .skip
noncomputable def Yj : zR := spF (α := ye) (ρ := List (List Int)) 18 (fun x => [z1p x]) (fun r => z3t r) (fun x => ZV x) [] (Ux)
theorem z0s {ctr : Ctr} (hC : zu Tryz.prog ctr) (h_law12_L_Raw : ctr.Has ZC) (h_ref12_Sort : ctr.Has jY) : Yj.Ok Tryz.prog := by
 refine zy ?_
 rintro x_ r0 hf0
 try unfold ZV at hf0
 refine yO true [(2, none)] z06 6 Tryz.func18 fun E hE => ?_
 obtain ⟨r_, h0, hf0⟩ := zf hf0
 obtain ⟨r_1, h1, hf0⟩ := zf hf0
 obtain rfl := zc hf0
 exact yE X0 hC hE [Hc h_law12_L_Raw (x := x_) h0 (loC z1p x_ <| loN), Hg (KT h_ref12_Sort), Hm (shM F4_ F5_ r_), Hs (KU h_ref12_Sort (x := r_) h1 (loC vJ r_ <| loN)), Hm (shM F4_ F5_ r_)]
noncomputable def wT : Code := (Tryz.f17.body).getD .skip
noncomputable def kJ : zR := spF (α := List (List Int) × Int) (ρ := List (List Int)) 17 (fun x => [vJ x.1, (eI .i64) x.2]) (fun r => z3t r) (fun x => jl x.1 x.2) [] (X3)
abbrev Vc (out : List (List Int)) : List (Nat × T) := [(5, .own (eOs 1 false F4_ out))]
abbrev Vb (l_ : List (List Int)) (inputs : Int) (i_ : Int) (out2 : List (List Int)) : List (Nat × T) := [(0, .d (eSl 1 false F5_ l_)), (1, .d (I inputs)), (5, .own (eOs 1 false F4_ out2)), (6, .d (I i_))]
abbrev Va (l_ : List (List Int)) (inputs : Int) (out1 : List (List Int)) (i_ : Int) (w_ : List Int) : List (Nat × T) := [(0, .d (eSl 1 false F5_ l_)), (1, .d (I inputs)), (5, .own (eOs 1 false F4_ out1)), (6, .d (I i_)), (7, .own (eOs 1 false (eI .i64) w_))]
abbrev V8 (l_ : List (List Int)) (inputs : Int) (out1 : List (List Int)) (i_ : Int) (w_1 : List Int) (k_ : Int) : List (Nat × T) := [(0, .d (eSl 1 false F5_ l_)), (1, .d (I inputs)), (5, .own (eOs 1 false F4_ out1)), (6, .d (I i_)), (7, .own (eOs 1 false (eI .i64) w_1)), (8, .d (I k_))]
abbrev V9 (l_ : List (List Int)) (inputs : Int) (out1 : List (List Int)) (i_ : Int) : List (Nat × T) := [(0, .d (eSl 1 false F5_ l_)), (1, .d (I inputs)), (5, .own (eOs 1 false F4_ out1)), (6, .d (I i_))]
theorem JH {ctr : Ctr} (hC : zu Tryz.prog ctr) (h_ref12_Sort : ctr.Has jY) : kJ.Ok Tryz.prog := by
 refine zy ?_
 rintro ⟨l_, inputs⟩ r0 hf0
 try unfold jl at hf0
 refine yO true [(4, none)] wT 42 Tryz.func17 fun E hE => ?_
 refine yJ X0 hC wT [1,1] [] [5] (fun z : List (List Int) => uY z = some r0) (fun z => Vc z) [(0, .d (eSl 1 false F5_ l_)), (1, .d (I inputs)), (5, .own (eOs 1 true F5_ []))] [Hh (.cut 2)] ?_ fun J1 hJ1 => ?_
 ·rintro out hf0
  unfold uY at hf0
  obtain ⟨r_, h0, hf0⟩ := zf hf0
  obtain rfl := zc hf0
  exact yE X0 hC hE [Hg (KT h_ref12_Sort), Hm (shM F4_ F5_ out), Hs (KU h_ref12_Sort (x := out) h0 (loC vJ out <| loN)), Hm (shM F4_ F5_ out)]
 ·obtain ⟨t2, ht2, hf0⟩ := zf hf0
  refine yLx X0 hC wT [1,1,2,1,0] [J1] (fun s => wO l_ inputs s.1 s.2) (fun x => V9 l_ inputs x.1 x.2) (([] : List (List Int)), 0) ht2 [(0, .d (eSl 1 false F5_ l_)), (1, .d (I inputs)), (5, .own (eOs 1 true F4_ [])), (6, .d (I 0))] inferInstance [] ?_
  rintro ⟨out1, i_⟩ m2 lr1 hf1 hl1 J2 hJ2
  try unfold wO at hf1
  let Z0 : List HO := [Ha (lnM F5_ l_)]
  rcases zO hf1 with ⟨c0, hf1⟩ | ⟨c0, hf1⟩
  ·refine yJ X0 hC wT [1,1,2,1,0,0,1] [J1, J2] [0,1,5,6] (fun z : List (List Int) => uX i_ z = some lr1) (fun z => Vb l_ inputs i_ z) [(0, .d (eSl 1 false F5_ l_)), (1, .d (I inputs)), (5, .own (eOs 1 false F4_ out1)), (6, .d (I i_))] (Z0 ++ [Hq c0, Hh (.cut 0)]) ?_ fun J3 hJ3 => ?_
   ·rintro out2 hf1
    unfold uX at hf1
    obtain rfl := zc hf1
    exact yB X0 hC hJ2 (out2, w64 (i_ + 1)) hl1 []
   ·refine yJ X0 hC wT [1,1,2,1,0,0,1,2,0,1] [J1, J2, J3] [0,1,5,6,7] (fun z : List Int => uW out1 i_ z = some lr1) (fun z => Va l_ inputs out1 i_ z) [(0, .d (eSl 1 false F5_ l_)), (1, .d (I inputs)), (5, .own (eOs 1 false F4_ out1)), (6, .d (I i_)), (7, .own (eOs 1 true (eI .i64) []))] [Hh (.cut 1)] ?_ fun J4 hJ4 => ?_
    ·rintro w_ hf1
     unfold uW at hf1
     obtain ⟨g0, hf1⟩ := gdE hf1
     exact yB X0 hC hJ3 (out1 ++ ([w_] : List (List Int))) hf1 [Hq (oC F4_ w_ []), Hn (aL F4_ F4_ g0), Hl (aM F4_ out1 ([w_] : List (List Int)))]
    ·obtain ⟨t5, ht5, hf1⟩ := zf hf1
     refine yLx X0 hC wT [1,1,2,1,0,0,1,2,0,1,2,1,0] [J1, J2, J3, J4] (fun s => wN l_ inputs i_ s.1 s.2) (fun x => V8 l_ inputs out1 i_ x.1 x.2) (([] : List Int), 0) ht5 [(0, .d (eSl 1 false F5_ l_)), (1, .d (I inputs)), (5, .own (eOs 1 false F4_ out1)), (6, .d (I i_)), (7, .own (eOs 1 true (eI .i64) [])), (8, .d (I 0))] inferInstance [] ?_
     rintro ⟨w_1, k_⟩ m5 lr2 hf2 hl2 J5 hJ5
     try unfold wN at hf2
     obtain ⟨l__e, h1, hf2⟩ := zf hf2
     let Z1 : List HO := [Hi F5_ h1, Ha (lnM (eI .i64) l__e)]
     rcases zO hf2 with ⟨c1, hf2⟩ | ⟨c1, hf2⟩
     ·obtain ⟨l__e1, h2, hf2⟩ := zf hf2
      obtain ⟨l__e_e, h3, hf2⟩ := zf hf2
      obtain ⟨g1, hf2⟩ := gdE hf2
      obtain ⟨g2, hf2⟩ := gdE hf2
      obtain rfl := zc hf2
      exact yB X0 hC hJ5 ((w_1 ++ ([Int.tmod l__e_e inputs] : List Int)), w64 (k_ + 1)) hl2 (Z1 ++ [Hq c1, Hi F5_ h2, Hi (eI .i64) h3, Hn g1, Hq (dM (eI .i64) ([Int.tmod l__e_e inputs] : List Int)), Hn (dM (eI .i64) ([Int.tmod l__e_e inputs] : List Int)), Hn (aL (eI .i64) (eI .i64) g2), Hl (aM (eI .i64) w_1 ([Int.tmod l__e_e inputs] : List Int))])
     ·obtain rfl := zc hf2
      obtain rfl := hl2
      exact yB X0 hC hJ4 w_1 hf1 (Z1 ++ [Hq c1])
  ·obtain rfl := zc hf1
   obtain rfl := hl1
   exact yB X0 hC hJ1 out1 hf0 (Z0 ++ [Hq c0])
noncomputable def UA : Code := (Tryz.f115.body).getD .skip
noncomputable def jA : zR := spF (α := Unit) (ρ := za) 115 (fun x => []) (fun r => F9_ r) (fun x => kb) [] (fun _ _ _ => rfl)
theorem Qh {ctr : Ctr} (hC : zu Tryz.prog ctr) : jA.Ok Tryz.prog := by
 refine zy ?_
 rintro ⟨⟩ r0 hf0
 try unfold kb at hf0
 refine yO false [(0, some 68)] UA 2 Tryz.func115 fun E hE => ?_
 obtain rfl := zc hf0
 exact yE X0 hC hE []
noncomputable def UB : Code := (Tryz.f99.body).getD .skip
noncomputable def jB : zR := spF (α := z6 × za) (ρ := Bool) 99 (fun x => [x4 x.1, F9_ x.2]) (fun r => eB r) (fun x => uU x.1 x.2) [] (X3)
theorem Qi {ctr : Ctr} (hC : zu Tryz.prog ctr) (h_machines_none : ctr.Has jA) : jB.Ok Tryz.prog := by
 refine zy ?_
 rintro ⟨m_, x_⟩ r0 hf0
 try unfold uU at hf0
 refine yO true [(4, none)] UB 33 Tryz.func99 fun E hE => ?_
 obtain ⟨r_, h0, hf0⟩ := zf hf0
 let Z0 : List HO := [Hc h_machines_none (x := ()) h0 (loN)]
 rcases zO hf0 with ⟨c0, hf0⟩ | ⟨c0, hf0⟩
 ·obtain rfl := zc hf0
  exact yE X0 hC hE (Z0 ++ (rpN 10 (Hq c0) []))
 ·let Z1 : List HO := (Z0 ++ (rpN 4 (Hq c0) []))
  rcases zO hf0 with ⟨c1, hf0⟩ | ⟨c1, hf0⟩
  ·let Z2 : List HO := (Z1 ++ (rpN 5 (Hq c1) [Ha (lnM vN m_.Rows), Hq c1, Hq c0, Hq c1, Hq c0]))
   rcases zO hf0 with ⟨c2, hf0⟩ | ⟨c2, hf0⟩
   ·let Z3 : List HO := (Z2 ++ [Hq c2, Hq c2, Hq c2, Hq c0, Hq c2, Hq c0])
    rcases zO hf0 with ⟨c3, hf0⟩ | ⟨c3, hf0⟩
    ·obtain rfl := zc hf0
     exact yE X0 hC hE (Z3 ++ (rpN 5 (Hq c3) [Hq c0, Hq c3, Hq c0]))
    ·obtain rfl := zc hf0
     exact yE X0 hC hE (Z3 ++ (rpN 5 (Hq c3) [Hq c0, Hq c3, Hq c0]))
   ·obtain rfl := zc hf0
    exact yE X0 hC hE (Z2 ++ (Hq c2 :: Hq c2 :: Hq c2 :: Hq c0 :: Hq c2 :: Hq c0 :: (rpN 5 qF [Hq c0, qF, Hq c0])))
  ·obtain rfl := zc hf0
   exact yE X0 hC hE (Z1 ++ (rpN 6 (Hq c1) (Hq c0 :: Hq c1 :: Hq c0 :: qF :: qF :: qF :: Hq c0 :: qF :: Hq c0 :: (rpN 5 qF [Hq c0, qF, Hq c0]))))
noncomputable def Wl : Code := (Tryz.f98.body).getD .skip
noncomputable def uz : zR := spF (α := za × z6) (ρ := Bool) 98 (fun x => [F9_ x.1, z75 x.2]) (fun r => eB r) (fun x => uu x.1 x.2) [] (X3)
theorem WC {ctr : Ctr} (hC : zu Tryz.prog ctr) (h_machines_fits : ctr.Has jB) : uz.Ok Tryz.prog := by
 refine zy ?_
 rintro ⟨x_, x1⟩ r0 hf0
 try unfold uu at hf0
 refine yO true [(3, none)] Wl 8 Tryz.func98 fun E hE => ?_
 obtain ⟨r_, h0, hf0⟩ := zf hf0
 obtain rfl := zc hf0
 exact yE X0 hC hE [Hc h_machines_fits (x := (x1, x_)) h0 (loC x4 x1 <| loC F9_ x_ <| loN)]
noncomputable def yh : Code := (Tryz.f114.body).getD .skip
noncomputable def yf : zR := spF (α := List za × z6) (ρ := Int) 114 (fun x => [vN x.1, (Xw 98 z75) x.2]) (fun r => (eI .i64) r) (fun x => y7 x.1 x.2) [] (by
 rintro ⟨a0, a1⟩ ⟨b0, b1⟩ h
 have e0 := uw.inj (f := vN) _ _ (List.cons.inj h).1
 replace h := (List.cons.inj h).2
 have e1 := uw.inj (f := (Xw 98 z75)) _ _ (List.cons.inj h).1
 subst e0 e1
 rfl)
abbrev vM : List (Nat × T) := []
abbrev vL (s_ : List za) (f_ : z6) (x8 : Int) : List (Nat × T) := [(0, .d (eSl 2 false F9_ s_)), (1, .d (.fn 98 [.sptr (.agg [I f_.Inputs, I f_.Outputs, eSl 1 false vN f_.Rows])])), (7, .d (I ((s_.length : Nat) : Int))), (8, .d (I x8))]
theorem uj {ctr : Ctr} (hC : zu Tryz.prog ctr) (h_machines_Check_1 : ctr.Has uz) : yf.Ok Tryz.prog := by
 refine zy ?_
 rintro ⟨s_, f_⟩ r0 hf0
 try unfold y7 at hf0
 refine yO true [(4, none)] yh 19 Tryz.func114 fun E hE => ?_
 refine yJ X0 hC yh [1] [] [] (fun z : Unit => yg = some r0) (fun z => vM) [(0, .d (eSl 2 false F9_ s_)), (1, .d (.fn 98 [.sptr (.agg [I f_.Inputs, I f_.Outputs, eSl 1 false vN f_.Rows])]))] [Hh (.cut 1)] ?_ fun J1 hJ1 => ?_
 ·rintro ⟨⟩ hf0
  unfold yg at hf0
  obtain rfl := zc hf0
  exact yE X0 hC hE []
 ·obtain ⟨t2, ht2, hf0⟩ := zf hf0
  refine yL X0 hC yh [1,2,1,0] [J1] (fun s => zB s_ f_ s) (fun x => vL s_ f_ x) 0 ht2  [Ha (lnM F9_ s_)] ?_
  rintro x8 m2 lr1 hf1 hl1 J2 hJ2
  try unfold zB at hf1
  rcases zO hf1 with ⟨c0, hf1⟩ | ⟨c0, hf1⟩
  ·obtain ⟨s__e, h0, hf1⟩ := zf hf1
   obtain ⟨r_, h1, hf1⟩ := zf hf1
   let Z0 : List HO := [Hq c0, Hi F9_ h0, Hc h_machines_Check_1 (x := (s__e, f_)) h1 (loC F9_ s__e <| loC z75 f_ <| loN)]
   rcases zO hf1 with ⟨c1, hf1⟩ | ⟨c1, hf1⟩
   ·obtain rfl := zc hf1
    obtain rfl := hl1
    obtain rfl := zc hf0
    exact yE X0 hC hE (Z0 ++ [Hq c1])
   ·obtain rfl := zc hf1
    exact yB X0 hC hJ2 (w64 (x8 + 1)) hl1 (Z0 ++ [Hq c1])
  ·obtain rfl := zc hf1
   obtain rfl := hl1
   exact yB X0 hC hJ1 () hf0 [Hq c0]
noncomputable def vK : Code := (Tryz.f97.body).getD .skip
noncomputable def ya : zR := spF (α := List za × z6) (ρ := Bool) 97 (fun x => [vN x.1, (Xw 98 z75) x.2]) (fun r => eB r) (fun x => zK x.1 x.2) [] (by
 rintro ⟨a0, a1⟩ ⟨b0, b1⟩ h
 have e0 := uw.inj (f := vN) _ _ (List.cons.inj h).1
 replace h := (List.cons.inj h).2
 have e1 := uw.inj (f := (Xw 98 z75)) _ _ (List.cons.inj h).1
 subst e0 e1
 rfl)
theorem vP {ctr : Ctr} (hC : zu Tryz.prog ctr) (h_slices_IndexFunc_api_Edge_api_Edge : ctr.Has yf) : ya.Ok Tryz.prog := by
 refine zy ?_
 rintro ⟨s_, f_⟩ r0 hf0
 try unfold zK at hf0
 refine yO true [(4, none)] vK 9 Tryz.func97 fun E hE => ?_
 obtain ⟨r_, h0, hf0⟩ := zf hf0
 obtain rfl := zc hf0
 exact yE X0 hC hE [Hc h_slices_IndexFunc_api_Edge_api_Edge (x := (s_, f_)) h0 (loC vN s_ <| loC (Xw 98 z75) f_ <| loN)]
noncomputable def qV : Code := (Tryz.f67.body).getD .skip
noncomputable def wL : zR := spF (α := z6) (ρ := Int) 67 (fun x => [x4 x]) (fun r => (eI .i64) r) (fun x => wy x) [] (Ux)
abbrev XT : List (Nat × T) := []
abbrev XS (m_ : z6) (x36 : Int) : List (Nat × T) := [(1, .d (.sptr (x4 m_))), (34, .d (eSl 1 false vN m_.Rows)), (35, .d (I ((m_.Rows.length : Nat) : Int))), (36, .d (I x36))]
theorem Us {ctr : Ctr} (hC : zu Tryz.prog ctr) (h_slices_ContainsFunc_api_Edge_api_Edge : ctr.Has ya) : wL.Ok Tryz.prog := by
 refine zy ?_
 rintro m_ r0 hf0
 try unfold wy at hf0
 refine yO true [(2, none)] qV 51 Tryz.func67 fun E hE => ?_
 rcases zO hf0 with ⟨c0, hf0⟩ | ⟨c0, hf0⟩
 ·obtain rfl := zc hf0
  exact yE X0 hC hE (rpN 4 (Hq c0) (rpN 6 qT []))
 ·let Z0 : List HO := (rpN 4 (Hq c0) [])
  rcases zO hf0 with ⟨c1, hf0⟩ | ⟨c1, hf0⟩
  ·obtain rfl := zc hf0
   exact yE X0 hC hE (Z0 ++ (rpN 5 (Hq c1) [qT]))
  ·let Z1 : List HO := (Z0 ++ [Hq c1, Hq c1, Hq c1, Ha (lnM vN m_.Rows), Hq c1, Hq c1])
   rcases zO hf0 with ⟨c2, hf0⟩ | ⟨c2, hf0⟩
   ·obtain rfl := zc hf0
    exact yE X0 hC hE (Z1 ++ [Hq c2])
   ·rcases zO hf0 with ⟨c3, hf0⟩ | ⟨c3, hf0⟩
    ·obtain rfl := zc hf0
     exact yE X0 hC hE (Z1 ++ (Hq c2 :: (rpN 4 (Hq c3) (rpN 6 qT []))))
    ·let Z2 : List HO := (Z1 ++ (Hq c2 :: (rpN 4 (Hq c3) [])))
     rcases zO hf0 with ⟨c4, hf0⟩ | ⟨c4, hf0⟩
     ·obtain rfl := zc hf0
      exact yE X0 hC hE (Z2 ++ (rpN 5 (Hq c4) [qT]))
     ·let Z3 : List HO := (Z2 ++ [Hq c4, Hq c4, Hq c4, Ha (lnM vN m_.Rows), Hq c4, Hq c4])
      rcases zO hf0 with ⟨c5, hf0⟩ | ⟨c5, hf0⟩
      ·obtain rfl := zc hf0
       exact yE X0 hC hE (Z3 ++ [Hq c5])
      ·refine yJ X0 hC qV [1,1,1] [] [] (fun z : Unit => qO = some r0) (fun z => XT) [(1, .own (.box (x4 m_)))] (Z3 ++ [Hq c5, Hh (.cut 0)]) ?_ fun J1 hJ1 => ?_
       ·rintro ⟨⟩ hf0
        unfold qO at hf0
        obtain rfl := zc hf0
        exact yE X0 hC hE []
       ·obtain ⟨t2, ht2, hf0⟩ := zf hf0
        refine yL X0 hC qV [1,1,1,2,1,0] [J1] (fun s => xO m_ s) (fun x => XS m_ x) 0 ht2  [Ha (lnM vN m_.Rows), Hh (.n 1 [1])] ?_
        rintro x36 m2 lr1 hf1 hl1 J2 hJ2
        try unfold xO at hf1
        rcases zO hf1 with ⟨c6, hf1⟩ | ⟨c6, hf1⟩
        ·obtain ⟨Row_e, h0, hf1⟩ := zf hf1
         let Z4 : List HO := [Hq c6, Hi vN h0, Ha (lnM F9_ Row_e)]
         rcases zO hf1 with ⟨c7, hf1⟩ | ⟨c7, hf1⟩
         ·obtain rfl := zc hf1
          obtain rfl := hl1
          obtain rfl := zc hf0
          exact yE X0 hC hE (Z4 ++ (rpN 4 (Hq c7) [qT]))
         ·obtain ⟨r_, h1, hf1⟩ := zf hf1
          let Z5 : List HO := (Z4 ++ [Hq c7, Hq c7, Hq c7, Hc h_slices_ContainsFunc_api_Edge_api_Edge (x := (Row_e, m_)) h1 (loC vN Row_e <| loC (Xw 98 z75) m_ <| loN), Hq c7])
          rcases zO hf1 with ⟨c8, hf1⟩ | ⟨c8, hf1⟩
          ·obtain rfl := zc hf1
           obtain rfl := hl1
           obtain rfl := zc hf0
           exact yE X0 hC hE (Z5 ++ [Hq c8])
          ·obtain rfl := zc hf1
           exact yB X0 hC hJ2 (w64 (x36 + 1)) hl1 (Z5 ++ [Hq c8])
        ·obtain rfl := zc hf1
         obtain rfl := hl1
         exact yB X0 hC hJ1 () hf0 [Hq c6]
noncomputable def Uz : Code := (Tryz.f117.body).getD .skip
noncomputable def jx : zR := spF (α := Int × Int) (ρ := Bool) 117 (fun x => [(eI .i64) x.1, (eSp (eI .i64)) x.2]) (fun r => eB r) (fun x => jU x.1 x.2) [] (X3)
theorem Qc {ctr : Ctr} (hC : zu Tryz.prog ctr) : jx.Ok Tryz.prog := by
 refine zy ?_
 rintro ⟨c_, x1⟩ r0 hf0
 try unfold jU at hf0
 refine yO true [(3, none)] Uz 11 Tryz.func117 fun E hE => ?_
 rcases zO hf0 with ⟨c0, hf0⟩ | ⟨c0, hf0⟩
 ·obtain rfl := zc hf0
  exact yE X0 hC hE (rpN 4 (Hq c0) [])
 ·obtain rfl := zc hf0
  exact yE X0 hC hE (rpN 4 (Hq c0) [])
noncomputable def xZ : Code := (Tryz.f113.body).getD .skip
noncomputable def xT : zR := spF (α := List Int × Int) (ρ := Int) 113 (fun x => [F5_ x.1, (Xw 117 (eSp (eI .i64))) x.2]) (fun r => (eI .i64) r) (fun x => xv x.1 x.2) [] (by
 rintro ⟨a0, a1⟩ ⟨b0, b1⟩ h
 have e0 := uw.inj (f := F5_) _ _ (List.cons.inj h).1
 replace h := (List.cons.inj h).2
 have e1 := uw.inj (f := (Xw 117 (eSp (eI .i64)))) _ _ (List.cons.inj h).1
 subst e0 e1
 rfl)
abbrev js : List (Nat × T) := []
abbrev jr (s_ : List Int) (f_ : Int) (x8 : Int) : List (Nat × T) := [(0, .d (eSl 1 false (eI .i64) s_)), (1, .d (.fn 117 [.sptr (I f_)])), (7, .d (I ((s_.length : Nat) : Int))), (8, .d (I x8))]
theorem Zd {ctr : Ctr} (hC : zu Tryz.prog ctr) (h_words_Check_1 : ctr.Has jx) : xT.Ok Tryz.prog := by
 refine zy ?_
 rintro ⟨s_, f_⟩ r0 hf0
 try unfold xv at hf0
 refine yO true [(4, none)] xZ 19 Tryz.func113 fun E hE => ?_
 refine yJ X0 hC xZ [1] [] [] (fun z : Unit => xV = some r0) (fun z => js) [(0, .d (eSl 1 false (eI .i64) s_)), (1, .d (.fn 117 [.sptr (I f_)]))] [Hh (.cut 1)] ?_ fun J1 hJ1 => ?_
 ·rintro ⟨⟩ hf0
  unfold xV at hf0
  obtain rfl := zc hf0
  exact yE X0 hC hE []
 ·obtain ⟨t2, ht2, hf0⟩ := zf hf0
  refine yL X0 hC xZ [1,2,1,0] [J1] (fun s => zV s_ f_ s) (fun x => jr s_ f_ x) 0 ht2  [Ha (lnM (eI .i64) s_)] ?_
  rintro x8 m2 lr1 hf1 hl1 J2 hJ2
  try unfold zV at hf1
  rcases zO hf1 with ⟨c0, hf1⟩ | ⟨c0, hf1⟩
  ·obtain ⟨s__e, h0, hf1⟩ := zf hf1
   obtain ⟨r_, h1, hf1⟩ := zf hf1
   let Z0 : List HO := [Hq c0, Hi (eI .i64) h0, Hc h_words_Check_1 (x := (s__e, f_)) h1 (loC (eI .i64) s__e <| loC (eSp (eI .i64)) f_ <| loN)]
   rcases zO hf1 with ⟨c1, hf1⟩ | ⟨c1, hf1⟩
   ·obtain rfl := zc hf1
    obtain rfl := hl1
    obtain rfl := zc hf0
    exact yE X0 hC hE (Z0 ++ [Hq c1])
   ·obtain rfl := zc hf1
    exact yB X0 hC hJ2 (w64 (x8 + 1)) hl1 (Z0 ++ [Hq c1])
  ·obtain rfl := zc hf1
   obtain rfl := hl1
   exact yB X0 hC hJ1 () hf0 [Hq c0]
noncomputable def jp : Code := (Tryz.f95.body).getD .skip
noncomputable def xa : zR := spF (α := List Int × Int) (ρ := Bool) 95 (fun x => [F5_ x.1, (Xw 117 (eSp (eI .i64))) x.2]) (fun r => eB r) (fun x => yI x.1 x.2) [] (by
 rintro ⟨a0, a1⟩ ⟨b0, b1⟩ h
 have e0 := uw.inj (f := F5_) _ _ (List.cons.inj h).1
 replace h := (List.cons.inj h).2
 have e1 := uw.inj (f := (Xw 117 (eSp (eI .i64)))) _ _ (List.cons.inj h).1
 subst e0 e1
 rfl)
theorem jv {ctr : Ctr} (hC : zu Tryz.prog ctr) (h_slices_IndexFunc_int_int : ctr.Has xT) : xa.Ok Tryz.prog := by
 refine zy ?_
 rintro ⟨s_, f_⟩ r0 hf0
 try unfold yI at hf0
 refine yO true [(4, none)] jp 9 Tryz.func95 fun E hE => ?_
 obtain ⟨r_, h0, hf0⟩ := zf hf0
 obtain rfl := zc hf0
 exact yE X0 hC hE [Hc h_slices_IndexFunc_int_int (x := (s_, f_)) h0 (loC F5_ s_ <| loC (Xw 117 (eSp (eI .i64))) f_ <| loN)]
noncomputable def JN : Code := (Tryz.f102.body).getD .skip
noncomputable def Zy : zR := spF (α := List Int × Int) (ρ := Int) 102 (fun x => [F5_ x.1, (eI .i64) x.2]) (fun r => (eI .i64) r) (fun x => qD x.1 x.2) [] (X3)
theorem Kp {ctr : Ctr} (hC : zu Tryz.prog ctr) (h_slices_ContainsFunc_int_int : ctr.Has xa) : Zy.Ok Tryz.prog := by
 refine zy ?_
 rintro ⟨w_, inputs⟩ r0 hf0
 try unfold qD at hf0
 refine yO true [(4, none)] JN 19 Tryz.func102 fun E hE => ?_
 rcases zO hf0 with ⟨c0, hf0⟩ | ⟨c0, hf0⟩
 ·obtain rfl := zc hf0
  exact yE X0 hC hE (rpN 4 (Hq c0) [qT])
 ·let Z0 : List HO := [Hq c0, Hq c0, Ha (lnM (eI .i64) w_), Hq c0, Hq c0]
  rcases zO hf0 with ⟨c1, hf0⟩ | ⟨c1, hf0⟩
  ·obtain rfl := zc hf0
   exact yE X0 hC hE (Z0 ++ [Hq c1])
  ·rcases zO hf0 with ⟨c2, hf0⟩ | ⟨c2, hf0⟩
   ·obtain rfl := zc hf0
    exact yE X0 hC hE (Z0 ++ (Hq c1 :: (rpN 4 (Hq c2) [qT])))
   ·obtain ⟨r_, h0, hf0⟩ := zf hf0
    let Z1 : List HO := (Z0 ++ [Hq c1, Hq c2, Hq c2, Hq c2, Hc h_slices_ContainsFunc_int_int (x := (w_, inputs)) h0 (loC F5_ w_ <| loC (Xw 117 (eSp (eI .i64))) inputs <| loN), Hq c2])
    rcases zO hf0 with ⟨c3, hf0⟩ | ⟨c3, hf0⟩
    ·obtain rfl := zc hf0
     exact yE X0 hC hE (Z1 ++ [Hq c3])
    ·obtain rfl := zc hf0
     exact yE X0 hC hE (Z1 ++ [Hq c3])
noncomputable def ZJ : Code := (Tryz.f71.body).getD .skip
noncomputable def j7 : zR := spF (α := List (List Int) × Int) (ρ := Int) 71 (fun x => [vJ x.1, (eI .i64) x.2]) (fun r => (eI .i64) r) (fun x => qI x.1 x.2) [] (X3)
abbrev VN : List (Nat × T) := []
abbrev VL (l_ : List (List Int)) (inputs : Int) (x19 : Int) : List (Nat × T) := [(1, .d (I inputs)), (17, .d (eSl 1 false F5_ l_)), (18, .d (I ((l_.length : Nat) : Int))), (19, .d (I x19))]
theorem Ks {ctr : Ctr} (hC : zu Tryz.prog ctr) (h_words_Check : ctr.Has Zy) : j7.Ok Tryz.prog := by
 refine zy ?_
 rintro ⟨l_, inputs⟩ r0 hf0
 try unfold qI at hf0
 refine yO true [(4, none)] ZJ 30 Tryz.func71 fun E hE => ?_
 rcases zO hf0 with ⟨c0, hf0⟩ | ⟨c0, hf0⟩
 ·obtain rfl := zc hf0
  exact yE X0 hC hE (rpN 4 (Hq c0) [qT])
 ·let Z0 : List HO := [Hq c0, Hq c0, Ha (lnM F5_ l_), Hq c0, Hq c0]
  rcases zO hf0 with ⟨c1, hf0⟩ | ⟨c1, hf0⟩
  ·obtain rfl := zc hf0
   exact yE X0 hC hE (Z0 ++ [Hq c1])
  ·rcases zO hf0 with ⟨c2, hf0⟩ | ⟨c2, hf0⟩
   ·obtain rfl := zc hf0
    exact yE X0 hC hE (Z0 ++ [Hq c1, Hq c2])
   ·refine yJ X0 hC ZJ [1,1,1] [] [] (fun z : Unit => Zw = some r0) (fun z => VN) [(0, .d (eSl 1 false F5_ l_)), (1, .d (I inputs))] (Z0 ++ [Hq c1, Hq c2, Hh (.cut 0)]) ?_ fun J1 hJ1 => ?_
    ·rintro ⟨⟩ hf0
     unfold Zw at hf0
     obtain rfl := zc hf0
     exact yE X0 hC hE []
    ·obtain ⟨t2, ht2, hf0⟩ := zf hf0
     refine yL X0 hC ZJ [1,1,1,2,1,0] [J1] (fun s => vn l_ inputs s) (fun x => VL l_ inputs x) 0 ht2  [Ha (lnM F5_ l_)] ?_
     rintro x19 m2 lr1 hf1 hl1 J2 hJ2
     try unfold vn at hf1
     rcases zO hf1 with ⟨c3, hf1⟩ | ⟨c3, hf1⟩
     ·obtain ⟨l__e, h0, hf1⟩ := zf hf1
      obtain ⟨r_, h1, hf1⟩ := zf hf1
      let Z1 : List HO := [Hq c3, Hi F5_ h0, Hc h_words_Check (x := (l__e, inputs)) h1 (loC F5_ l__e <| loC (eI .i64) inputs <| loN)]
      rcases zO hf1 with ⟨c4, hf1⟩ | ⟨c4, hf1⟩
      ·obtain rfl := zc hf1
       obtain rfl := hl1
       obtain rfl := zc hf0
       exact yE X0 hC hE (Z1 ++ [Hq c4])
      ·obtain rfl := zc hf1
       exact yB X0 hC hJ2 (w64 (x19 + 1)) hl1 (Z1 ++ [Hq c4])
     ·obtain rfl := zc hf1
      obtain rfl := hl1
      exact yB X0 hC hJ1 () hf0 [Hq c3]
noncomputable def UF : Code := (Tryz.f133.body).getD .skip
noncomputable def jD : zR := spF (α := Int) (ρ := Bool) 133 (fun x => [(eI .i64) x]) (fun r => eB r) (fun x => qb x) [] (Ux)
theorem Qm {ctr : Ctr} (hC : zu Tryz.prog ctr) : jD.Ok Tryz.prog := by
 refine zy ?_
 rintro x_ r0 hf0
 try unfold qb at hf0
 refine yO true [(2, none)] UF 6 Tryz.func133 fun E hE => ?_
 obtain rfl := zc hf0
 exact yE X0 hC hE []
noncomputable def WZ : Code := (Tryz.f121.body).getD .skip
noncomputable def vG : zR := spF (α := Int × Int) (ρ := Int) 121 (fun x => [(eI .i64) x.1, (eI .i64) x.2]) (fun r => (eI .i64) r) (fun x => wR x.1 x.2) [] (X3)
theorem Vh {ctr : Ctr} (hC : zu Tryz.prog ctr) (h_cmp_isNaN_int : ctr.Has jD) : vG.Ok Tryz.prog := by
 refine zy ?_
 rintro ⟨x_, y_⟩ r0 hf0
 try unfold wR at hf0
 refine yO true [(4, none)] WZ 20 Tryz.func121 fun E hE => ?_
 obtain ⟨r_, h0, hf0⟩ := zf hf0
 obtain ⟨r_1, h1, hf0⟩ := zf hf0
 let Z0 : List HO := [Hc h_cmp_isNaN_int (x := x_) h0 (loC (eI .i64) x_ <| loN), Hc h_cmp_isNaN_int (x := y_) h1 (loC (eI .i64) y_ <| loN)]
 rcases zO hf0 with ⟨c0, hf0⟩ | ⟨c0, hf0⟩
 ·rcases zO hf0 with ⟨c1, hf0⟩ | ⟨c1, hf0⟩
  ·obtain rfl := zc hf0
   exact yE X0 hC hE (Z0 ++ [Hq c0, Hq c1])
  ·obtain rfl := zc hf0
   exact yE X0 hC hE (Z0 ++ [Hq c0, Hq c1])
 ·rcases zO hf0 with ⟨c2, hf0⟩ | ⟨c2, hf0⟩
  ·obtain rfl := zc hf0
   exact yE X0 hC hE (Z0 ++ [Hq c0, Hq c2])
  ·rcases zO hf0 with ⟨c3, hf0⟩ | ⟨c3, hf0⟩
   ·obtain rfl := zc hf0
    exact yE X0 hC hE (Z0 ++ [Hq c0, Hq c2, Hq c3])
   ·rcases zO hf0 with ⟨c4, hf0⟩ | ⟨c4, hf0⟩
    ·obtain rfl := zc hf0
     exact yE X0 hC hE (Z0 ++ [Hq c0, Hq c2, Hq c3, Hq c4])
    ·obtain rfl := zc hf0
     exact yE X0 hC hE (Z0 ++ [Hq c0, Hq c2, Hq c3, Hq c4])
noncomputable def wD : Code := (Tryz.f122.body).getD .skip
noncomputable def wu : zR := spF (α := List Int × List Int) (ρ := Int) 122 (fun x => [F5_ x.1, F5_ x.2]) (fun r => (eI .i64) r) (fun x => x3 x.1 x.2) [] (X3)
abbrev kp (s1 : List Int) (s2 : List Int) : List (Nat × T) := [(0, .d (eSl 1 false (eI .i64) s1)), (1, .d (eSl 1 false (eI .i64) s2))]
abbrev ko (s1 : List Int) (s2 : List Int) (x11 : Int) : List (Nat × T) := [(0, .d (eSl 1 false (eI .i64) s1)), (1, .d (eSl 1 false (eI .i64) s2)), (9, .d (eSl 1 false (eI .i64) s1)), (10, .d (I ((s1.length : Nat) : Int))), (11, .d (I x11))]
theorem ZP {ctr : Ctr} (hC : zu Tryz.prog ctr) (h_cmp_Compare_int : ctr.Has vG) : wu.Ok Tryz.prog := by
 refine zy ?_
 rintro ⟨s1, s2⟩ r0 hf0
 try unfold x3 at hf0
 refine yO true [(4, none)] wD 36 Tryz.func122 fun E hE => ?_
 refine yJ X0 hC wD [1] [] [0,1] (fun z : Unit => x6 s1 s2 = some r0) (fun z => kp s1 s2) [(0, .d (eSl 1 false (eI .i64) s1)), (1, .d (eSl 1 false (eI .i64) s2))] [Hh (.cut 1)] ?_ fun J1 hJ1 => ?_
 ·rintro ⟨⟩ hf0
  unfold x6 at hf0
  let Z0 : List HO := [Ha (lnM (eI .i64) s1), Ha (lnM (eI .i64) s2)]
  rcases zO hf0 with ⟨c0, hf0⟩ | ⟨c0, hf0⟩
  ·obtain rfl := zc hf0
   exact yE X0 hC hE (Z0 ++ [Hq c0])
  ·obtain rfl := zc hf0
   exact yE X0 hC hE (Z0 ++ [Hq c0])
 ·obtain ⟨t2, ht2, hf0⟩ := zf hf0
  refine yL X0 hC wD [1,2,1,0] [J1] (fun s => y8 s1 s2 s) (fun x => ko s1 s2 x) 0 ht2  [Ha (lnM (eI .i64) s1)] ?_
  rintro x11 m2 lr1 hf1 hl1 J2 hJ2
  try unfold y8 at hf1
  rcases zO hf1 with ⟨c1, hf1⟩ | ⟨c1, hf1⟩
  ·obtain ⟨s_e, h0, hf1⟩ := zf hf1
   let Z1 : List HO := [Hq c1, Hi (eI .i64) h0, Ha (lnM (eI .i64) s2)]
   rcases zO hf1 with ⟨c2, hf1⟩ | ⟨c2, hf1⟩
   ·obtain rfl := zc hf1
    obtain rfl := hl1
    obtain rfl := zc hf0
    exact yE X0 hC hE (Z1 ++ [Hq c2])
   ·obtain ⟨s_e1, h1, hf1⟩ := zf hf1
    obtain ⟨r_, h2, hf1⟩ := zf hf1
    let Z2 : List HO := (Z1 ++ [Hq c2, Hi (eI .i64) h1, Hc h_cmp_Compare_int (x := (s_e, s_e1)) h2 (loC (eI .i64) s_e <| loC (eI .i64) s_e1 <| loN)])
    rcases zO hf1 with ⟨c3, hf1⟩ | ⟨c3, hf1⟩
    ·obtain rfl := zc hf1
     obtain rfl := hl1
     obtain rfl := zc hf0
     exact yE X0 hC hE (Z2 ++ [Hq c3])
    ·obtain rfl := zc hf1
     exact yB X0 hC hJ2 (w64 (x11 + 1)) hl1 (Z2 ++ [Hq c3])
  ·obtain rfl := zc hf1
   obtain rfl := hl1
   exact yB X0 hC hJ1 () hf0 [Hq c1]
noncomputable def YK : Code := (Tryz.f120.body).getD .skip
noncomputable def Yl : zR := spF (α := List Int) (ρ := Int) 120 (fun x => [F5_ x]) (fun r => (eI .i64) r) (fun x => ZY x) [] (Ux)
abbrev Q0 : List (Nat × T) := [(3, .d (I 0))]
abbrev UZ (vals : List Int) (x8 : Int) : List (Nat × T) := [(3, .d (I 0)), (6, .d (eSl 1 false (eI .i64) vals)), (7, .d (I ((vals.length : Nat) : Int))), (8, .d (I x8))]
theorem z0u {ctr : Ctr} (hC : zu Tryz.prog ctr) : Yl.Ok Tryz.prog := by
 refine zy ?_
 rintro vals r0 hf0
 try unfold ZY at hf0
 refine yO true [(2, none)] YK 18 Tryz.func120 fun E hE => ?_
 refine yJ X0 hC YK [1,1] [] [3] (fun z : Unit => kj = some r0) (fun z => Q0) [(0, .d (eSl 1 false (eI .i64) vals)), (3, .d (I 0))] [Hh (.cut 2)] ?_ fun J1 hJ1 => ?_
 ·rintro ⟨⟩ hf0
  unfold kj at hf0
  obtain rfl := zc hf0
  exact yE X0 hC hE []
 ·obtain ⟨t2, ht2, hf0⟩ := zf hf0
  refine yL X0 hC YK [1,1,2,1,0] [J1] (fun s => ue vals s) (fun x => UZ vals x) 0 ht2  [Ha (lnM (eI .i64) vals)] ?_
  rintro x8 m2 lr1 hf1 hl1 J2 hJ2
  try unfold ue at hf1
  rcases zO hf1 with ⟨c0, hf1⟩ | ⟨c0, hf1⟩
  ·obtain ⟨val_e, h0, hf1⟩ := zf hf1
   rcases zO hf1 with ⟨c1, hf1⟩ | ⟨c1, hf1⟩
   ·obtain rfl := zc hf1
    obtain rfl := hl1
    obtain rfl := zc hf0
    exact yE X0 hC hE [Hq c0, Hi (eI .i64) h0, Hq c1]
   ·obtain rfl := zc hf1
    exact yB X0 hC hJ2 (w64 (x8 + 1)) hl1 [Hq c0, Hi (eI .i64) h0, Hq c1]
  ·obtain rfl := zc hf1
   obtain rfl := hl1
   exact yB X0 hC hJ1 () hf0 [Hq c0]
noncomputable def Uy : Code := (Tryz.f105.body).getD .skip
noncomputable def ve : zR := spF (α := List Int × List Int) (ρ := Int) 105 (fun x => [F5_ x.1, F5_ x.2]) (fun r => (eI .i64) r) (fun x => wX x.1 x.2) [] (X3)
theorem Qb {ctr : Ctr} (hC : zu Tryz.prog ctr) (h_cmp_Compare_int : ctr.Has vG) (h_slices_Compare_int_int : ctr.Has wu) (h_cmp_Or_int : ctr.Has Yl) : ve.Ok Tryz.prog := by
 refine zy ?_
 rintro ⟨a_, b_⟩ r0 hf0
 try unfold wX at hf0
 refine yO true [(4, none)] Uy 15 Tryz.func105 fun E hE => ?_
 obtain ⟨r_, h0, hf0⟩ := zf hf0
 obtain ⟨r_1, h1, hf0⟩ := zf hf0
 obtain ⟨r_2, h2, hf0⟩ := zf hf0
 obtain rfl := zc hf0
 exact yE X0 hC hE [Ha (lnM (eI .i64) a_), Ha (lnM (eI .i64) b_), Hc h_cmp_Compare_int (x := (((a_.length : Nat) : Int), ((b_.length : Nat) : Int))) h0 (loC (eI .i64) ((a_.length : Nat) : Int) <| loC (eI .i64) ((b_.length : Nat) : Int) <| loN), Hc h_slices_Compare_int_int (x := (a_, b_)) h1 (loC F5_ a_ <| loC F5_ b_ <| loN), Hg (KT h_cmp_Or_int), Hm (shM (eI .i64) (eI .i64) ([r_, r_1])), Hs (KU h_cmp_Or_int (x := [r_, r_1]) h2 (loC F1_ ([r_, r_1] : List Int) <| loN))]
noncomputable def ZK : Code := (Tryz.f89.body).getD .skip
noncomputable def ZA : zR := spF (α := List (List Int)) (ρ := Bool) 89 (fun x => [vJ x]) (fun r => eB r) (fun x => kC x) [] (Ux)
abbrev VP : List (Nat × T) := []
abbrev VO (l_ : List (List Int)) (i_ : Int) : List (Nat × T) := [(0, .d (eSl 1 false F5_ l_)), (3, .d (I i_))]
theorem Kt {ctr : Ctr} (hC : zu Tryz.prog ctr) (h_words_Compare : ctr.Has ve) : ZA.Ok Tryz.prog := by
 refine zy ?_
 rintro l_ r0 hf0
 try unfold kC at hf0
 refine yO true [(2, none)] ZK 21 Tryz.func89 fun E hE => ?_
 refine yJ X0 hC ZK [1] [] [] (fun z : Unit => j5 = some r0) (fun z => VP) [(0, .d (eSl 1 false F5_ l_))] [Hh (.cut 1)] ?_ fun J1 hJ1 => ?_
 ·rintro ⟨⟩ hf0
  unfold j5 at hf0
  obtain rfl := zc hf0
  exact yE X0 hC hE []
 ·obtain ⟨t2, ht2, hf0⟩ := zf hf0
  refine yL X0 hC ZK [1,2,1,0] [J1] (fun s => vo l_ s) (fun x => VO l_ x) 1 ht2  [] ?_
  rintro i_ m2 lr1 hf1 hl1 J2 hJ2
  try unfold vo at hf1
  let Z0 : List HO := [Ha (lnM F5_ l_)]
  rcases zO hf1 with ⟨c0, hf1⟩ | ⟨c0, hf1⟩
  ·obtain ⟨l__e, h0, hf1⟩ := zf hf1
   obtain ⟨l__e1, h1, hf1⟩ := zf hf1
   obtain ⟨r_, h2, hf1⟩ := zf hf1
   let Z1 : List HO := (Z0 ++ [Hq c0, Hi F5_ h0, Hi F5_ h1, Hc h_words_Compare (x := (l__e, l__e1)) h2 (loC F5_ l__e <| loC F5_ l__e1 <| loN)])
   rcases zO hf1 with ⟨c1, hf1⟩ | ⟨c1, hf1⟩
   ·obtain rfl := zc hf1
    obtain rfl := hl1
    obtain rfl := zc hf0
    exact yE X0 hC hE (Z1 ++ [Hq c1])
   ·obtain rfl := zc hf1
    exact yB X0 hC hJ2 (w64 (i_ + 1)) hl1 (Z1 ++ [Hq c1])
  ·obtain rfl := zc hf1
   obtain rfl := hl1
   exact yB X0 hC hJ1 () hf0 (Z0 ++ [Hq c0])
noncomputable def ZI : Code := (Tryz.f90.body).getD .skip
noncomputable def j6 : zR := spF (α := List (List Int)) (ρ := Int) 90 (fun x => [vJ x]) (fun r => (eI .i64) r) (fun x => qH x) [] (Ux)
abbrev VK (n_ : Int) : List (Nat × T) := [(2, .d (I n_))]
abbrev VJ (l_ : List (List Int)) (n_1 : Int) (x7 : Int) : List (Nat × T) := [(2, .d (I n_1)), (5, .d (eSl 1 false F5_ l_)), (6, .d (I ((l_.length : Nat) : Int))), (7, .d (I x7))]
theorem Kr {ctr : Ctr} (hC : zu Tryz.prog ctr) : j6.Ok Tryz.prog := by
 refine zy ?_
 rintro l_ r0 hf0
 try unfold qH at hf0
 refine yO true [(2, none)] ZI 17 Tryz.func90 fun E hE => ?_
 refine yJ X0 hC ZI [1] [] [2] (fun z : Int => Zv z = some r0) (fun z => VK z) [(0, .d (eSl 1 false F5_ l_)), (2, .d (I 0))] [Hh (.cut 1)] ?_ fun J1 hJ1 => ?_
 ·rintro n_ hf0
  unfold Zv at hf0
  obtain rfl := zc hf0
  exact yE X0 hC hE []
 ·obtain ⟨t2, ht2, hf0⟩ := zf hf0
  refine yL X0 hC ZI [1,2,1,0] [J1] (fun s => vm l_ s.1 s.2) (fun x => VJ l_ x.1 x.2) (0,0) ht2  [Ha (lnM F5_ l_)] ?_
  rintro ⟨n_1, x7⟩ m2 lr1 hf1 hl1 J2 hJ2
  try unfold vm at hf1
  rcases zO hf1 with ⟨c0, hf1⟩ | ⟨c0, hf1⟩
  ·obtain ⟨l__e, h0, hf1⟩ := zf hf1
   obtain rfl := zc hf1
   exact yB X0 hC hJ2 (w64 (n_1 + ((l__e.length : Nat) : Int)), w64 (x7 + 1)) hl1 [Hq c0, Hi F5_ h0, Ha (lnM (eI .i64) l__e)]
  ·obtain rfl := zc hf1
   obtain rfl := hl1
   exact yB X0 hC hJ1 n_1 hf0 [Hq c0]
noncomputable def JO : Code := (Tryz.f61.body).getD .skip
noncomputable def j8 : zR := spF (α := List (List Int) × Int) (ρ := Int) 61 (fun x => [vJ x.1, (eI .i64) x.2]) (fun r => (eI .i64) r) (fun x => qJ x.1 x.2) [] (X3)
theorem Ku {ctr : Ctr} (hC : zu Tryz.prog ctr) (h_tries_loose : ctr.Has j7) (h_tries_ahead : ctr.Has ZA) (h_tries_steps : ctr.Has j6) : j8.Ok Tryz.prog := by
 refine zy ?_
 rintro ⟨l_, inputs⟩ r0 hf0
 try unfold qJ at hf0
 refine yO true [(4, none)] JO 18 Tryz.func61 fun E hE => ?_
 obtain ⟨r_, h0, hf0⟩ := zf hf0
 let Z0 : List HO := [Hc h_tries_loose (x := (l_, inputs)) h0 (loC vJ l_ <| loC (eI .i64) inputs <| loN)]
 rcases zO hf0 with ⟨c0, hf0⟩ | ⟨c0, hf0⟩
 ·obtain rfl := zc hf0
  exact yE X0 hC hE (Z0 ++ [Hq c0])
 ·obtain ⟨r_1, h1, hf0⟩ := zf hf0
  let Z1 : List HO := (Z0 ++ [Hq c0, Hc h_tries_ahead (x := l_) h1 (loC vJ l_ <| loN)])
  rcases zO hf0 with ⟨c1, hf0⟩ | ⟨c1, hf0⟩
  ·obtain rfl := zc hf0
   exact yE X0 hC hE (Z1 ++ [Hq c1])
  ·obtain ⟨r_2, h2, hf0⟩ := zf hf0
   let Z2 : List HO := (Z1 ++ [Hq c1, Hc h_tries_steps (x := l_) h2 (loC vJ l_ <| loN)])
   rcases zO hf0 with ⟨c2, hf0⟩ | ⟨c2, hf0⟩
   ·obtain rfl := zc hf0
    exact yE X0 hC hE (Z2 ++ [Hq c2])
   ·obtain rfl := zc hf0
    exact yE X0 hC hE (Z2 ++ [Hq c2])
noncomputable def Jh : Code := (Tryz.f46.body).getD .skip
noncomputable def vT : zR := spF (α := z6 × List (List Int)) (ρ := Int) 46 (fun x => [x4 x.1, vJ x.2]) (fun r => (eI .i64) r) (fun x => xm x.1 x.2) [] (X3)
theorem JI {ctr : Ctr} (hC : zu Tryz.prog ctr) (h_machines_Check : ctr.Has wL) (h_tries_Check : ctr.Has j8) : vT.Ok Tryz.prog := by
 refine zy ?_
 rintro ⟨m_, l_⟩ r0 hf0
 try unfold xm at hf0
 refine yO true [(4, none)] Jh 15 Tryz.func46 fun E hE => ?_
 obtain ⟨r_, h0, hf0⟩ := zf hf0
 let Z0 : List HO := [Hc h_machines_Check (x := m_) h0 (loC x4 m_ <| loN)]
 rcases zO hf0 with ⟨c0, hf0⟩ | ⟨c0, hf0⟩
 ·obtain rfl := zc hf0
  exact yE X0 hC hE (Z0 ++ [Hq c0])
 ·obtain ⟨r_1, h1, hf0⟩ := zf hf0
  obtain rfl := zc hf0
  exact yE X0 hC hE (Z0 ++ [Hq c0, Hc h_tries_Check (x := (l_, m_.Inputs)) h1 (loC vJ l_ <| loC (eI .i64) m_.Inputs <| loN)])
noncomputable def kX : Code := (Tryz.f47.body).getD .skip
noncomputable def uQ : zR := spF (α := z6) (ρ := z8) 47 (fun x => [x4 x]) (fun r => zc2 r) (fun x => uJ x) [] (Ux)
abbrev Ve (m_ : z6) (c_Edges : List (List Bool)) : List (Nat × T) := [(2, .own (.box (.agg [eOs 1 true eB [], eOs 1 true (eSl 1 false eB) []]))), (3, .own (.box (.agg [eOs 1 true eB (List.replicate ((m_.Rows.length : Nat) : Int).toNat false), eOs 1 true (eOs 1 true eB) c_Edges])))]
abbrev Vd (m_ : z6) (c_Edges1 : List (List Bool)) (x17 : Int) : List (Nat × T) := [(1, .own (.box (x4 m_))), (2, .own (.box (.agg [eOs 1 true eB [], eOs 1 true (eSl 1 false eB) []]))), (3, .own (.box (.agg [eOs 1 true eB (List.replicate ((m_.Rows.length : Nat) : Int).toNat false), eOs 1 true (eOs 1 true eB) c_Edges1]))), (16, .d (I ((m_.Rows.length : Nat) : Int))), (17, .d (I x17))]
theorem JJ {ctr : Ctr} (hC : zu Tryz.prog ctr) : uQ.Ok Tryz.prog := by
 refine zy ?_
 rintro m_ r0 hf0
 try unfold uJ at hf0
 refine z6O (tt := xr) (rs := [(true, 2, some 48)]) (n := ⟨29, []⟩) (body := kX) zz Tryz.func47 rfl (by kernel_rfl) rfl rfl (by show (1 : Nat) ≤ 29; decide) fun E hE => ?_
 obtain ⟨g0, hf0⟩ := gdE hf0
 obtain ⟨g1, hf0⟩ := gdE hf0
 refine yJ X0 hC kX [1,1] [] [2,3] (fun z : List (List Bool) => kU m_ z = some r0) (fun z => Ve m_ z) [(1, .own (.box (x4 m_))), (2, .own (.box (.agg [eOs 1 true eB [], eOs 1 true (eSl 1 false eB) []]))), (3, .own (.box (.agg [eOs 1 true eB (List.replicate ((m_.Rows.length : Nat) : Int).toNat false), eOs 1 true (eOs 1 true eB) (List.replicate ((m_.Rows.length : Nat) : Int).toNat ([] : List Bool))])))] [Ha (lnM vN m_.Rows), Hn (rL g0), Ha (rM 1 eB ((m_.Rows.length : Nat) : Int) false), Ha (lnM vN m_.Rows), Hn (rL g1), Ha (rM 1 (eOs 1 true eB) ((m_.Rows.length : Nat) : Int) ([] : List Bool)), Hh (.cut 0)] ?_ fun J1 hJ1 => ?_
 ·rintro c_Edges hf0
  unfold kU at hf0
  obtain rfl := zc hf0
  let ZE : List HO := []
  exact z99 X0 zz hC XY hE 4000 (hs := hoH ZE) (x := (.agg [eOs 1 true eB (List.replicate ((m_.Rows.length : Nat) : Int).toNat false), eOs 1 true (eOs 1 true eB) c_Edges])) (hoB ZE) (by kernel_rfl) (LeV.refl _)
 ·obtain ⟨t2, ht2, hf0⟩ := zf hf0
  refine yL X0 hC kX [1,1,2,1,0] [J1] (fun s => xX m_ s.1 s.2) (fun x => Vd m_ x.1 x.2) ((List.replicate ((m_.Rows.length : Nat) : Int).toNat ([] : List Bool)), 0) ht2  [Ha (lnM vN m_.Rows)] ?_
  rintro ⟨c_Edges1, x17⟩ m2 lr1 hf1 hl1 J2 hJ2
  try unfold xX at hf1
  rcases zO hf1 with ⟨c0, hf1⟩ | ⟨c0, hf1⟩
  ·obtain ⟨g2, hf1⟩ := gdE hf1
   obtain ⟨c_Edge_e, h0, hf1⟩ := zf hf1
   obtain rfl := zc hf1
   exact yB X0 hC hJ2 ((c_Edges1.set x17.toNat (List.replicate m_.Inputs.toNat false)), w64 (x17 + 1)) hl1 [Hq c0, Hn (rL g2), Ha (rM 1 eB m_.Inputs false), Hn (iL (eOs 1 true eB) h0), Hs (iM (eOs 1 true eB) h0), Hs (iM (eOs 1 true eB) h0), Hl (sM (eOs 1 true eB) c_Edges1 x17 (List.replicate m_.Inputs.toNat false))]
  ·obtain rfl := zc hf1
   obtain rfl := hl1
   exact yB X0 hC hJ1 c_Edges1 hf0 [Hq c0]
noncomputable def W4 : Code := (Tryz.f48.body).getD .skip
abbrev VV {σ : Type} (YY : σ → JQ) (m_ : z6) (w_ : List Int) (sg2 : σ) (s_ : Int) (x14 : Int) : List (Nat × T) := [(2, .own (.opq (YY sg2).q)), (3, .own (.box (x4 m_))), (6, .d (I s_)), (12, .d (eSl 1 false (eI .i64) w_)), (13, .d (I ((w_.length : Nat) : Int))), (14, .d (I x14))]
theorem WE {ctr : Ctr} (hC : zu Tryz.prog ctr) (σ : Type) (cv0 : Value) (YY : σ → JQ) (yy : σ → (Int × Int) → Option σ) (hy : zd0 Tryz.prog cv0 YY (fun x : Int × Int => [(eI .i64) x.1, (eI .i64) x.2]) yy) (m_ : z6) (w_ : List Int) (sg r0 : σ) (hf0 : wB m_ w_ yy sg = some r0) : u3 Tryz.prog (.fn 48 []) [.agg [I m_.Inputs, I m_.Outputs, eSl 1 false vN m_.Rows], eSl 1 false (eI .i64) w_, .atom cv0] [(cv0, .opq (YY sg).q)] (.tup []) [.opq (YY r0).q] := by
 refine Q6 (tt := xr) (nt := 36) (body := W4) [2] (args := [.agg [I m_.Inputs, I m_.Outputs, eSl 1 false vN m_.Rows], eSl 1 false (eI .i64) w_, .atom cv0]) (caps := []) (xs := [.opq (YY sg).q]) (vals := [cv0]) zz Tryz.func48 rfl (by kernel_rfl) rfl rfl (by show (3 : Nat) ≤ 36; decide) (by decide) rfl rfl (fun E hE => ?_) rfl
 unfold wB at hf0
 obtain ⟨sg1, h0, hf0⟩ := zf hf0
 obtain ⟨t1, ht1, hf0⟩ := zf hf0
 refine yL ((wV (P := Tryz.prog) xr [2] (hy sg (0,0) sg1 h0) 11).or X0) hC W4 [1,1,1,1,0] [] (fun s => wz yy m_ w_ s.1 s.2.1 s.2.2) (fun x => VV YY m_ w_ x.1 x.2.1 x.2.2) (sg1,0,0) ht1  [Hn (Zx (f := .atom cv0) (xs := [(eI .i64) 0, (eI .i64) 0]) (ls := [(cv0, .opq (YY sg).q)]) (r := .tup []) (ys := [.opq (YY sg1).q]) [(eI .i64) 0, (eI .i64) 0] (show z0c [(eI .i64) 0, (eI .i64) 0] [(eI .i64) 0, (eI .i64) 0] from inferInstance)), Ha (lnM (eI .i64) w_)] ?_
 rintro ⟨sg2, s_, x14⟩ m1 lr1 hf1 hl1 J1 hJ1
 try unfold wz at hf1
 rcases zO hf1 with ⟨c0, hf1⟩ | ⟨c0, hf1⟩
 ·obtain ⟨w__e, h1, hf1⟩ := zf hf1
  obtain ⟨Row_e, h2, hf1⟩ := zf hf1
  obtain ⟨Row_e_e, h3, hf1⟩ := zf hf1
  let Z0 : List HO := [Hq c0, Hi (eI .i64) h1, Hi vN h2, Hi F9_ h3]
  rcases zO hf1 with ⟨c1, hf1⟩ | ⟨c1, hf1⟩
  ·obtain rfl := zc hf1
   obtain rfl := hl1
   obtain rfl := zc hf0
   exact yF X0 hC .ret [(2, .own (.opq (YY sg2).q))] (Z0 ++ [Hq c1]) fun st0 h0 => hE _ st0 (.inr rfl) (jG h0 ⟨⟨rfl, rfl⟩, trivial⟩)
  ·obtain ⟨sg3, h4, hf1⟩ := zf hf1
   obtain rfl := zc hf1
   exact yB ((wV (P := Tryz.prog) xr [2] (hy sg2 (Row_e_e.To, w64 (x14 + 1)) sg3 h4) 34).or X0) hC hJ1 (sg3, Row_e_e.To, w64 (x14 + 1)) hl1 (Z0 ++ [Hq c1, Hn (Zx (f := .atom cv0) (xs := [(eI .i64) Row_e_e.To, (eI .i64) (w64 (x14 + 1))]) (ls := [(cv0, .opq (YY sg2).q)]) (r := .tup []) (ys := [.opq (YY sg3).q]) [(eI .i64) Row_e_e.To, (eI .i64) (w64 (x14 + 1))] (show z0c [(eI .i64) Row_e_e.To, (eI .i64) (w64 (x14 + 1))] [(eI .i64) Row_e_e.To, (eI .i64) (w64 (x14 + 1))] from inferInstance))])
 ·obtain rfl := zc hf1
  obtain rfl := hl1
  obtain rfl := zc hf0
  exact yF X0 hC .normal [(2, .own (.opq (YY sg2).q))] [Hq c0] fun st0 h0 => hE _ st0 (.inl rfl) (jG h0 ⟨⟨rfl, rfl⟩, trivial⟩)
noncomputable def Wn : Code := (Tryz.f49.body).getD .skip
theorem WF {ctr : Ctr} (hC : zu Tryz.prog ctr) (cv0 : Value) (x1 : List Int) (x2 : z6) : ∀ (s_ : Int) (k_ : Int) (y0 : z8) (r0 : z8), xF x1 x2 s_ k_ y0 = some r0 → u3 Tryz.prog (.fn 49 [.atom cv0, .sptr (eSl 1 false (eI .i64) x1), .sptr (.agg [I x2.Inputs, I x2.Outputs, eSl 1 false vN x2.Rows])]) [I s_, I k_] ([cv0].zip [.box (.agg [eOs 1 true eB y0.States, eOs 1 true (eOs 1 true eB) y0.Edges])]) (.tup []) [.box (.agg [eOs 1 true eB r0.States, eOs 1 true (eOs 1 true eB) r0.Edges])] := by
 intro s_ k_ y0 r0 hf0
 refine Q6 (tt := xr) (nt := 40) (body := Wn) [2] zz Tryz.func49 rfl (by kernel_rfl) rfl rfl (by show (5 : Nat) ≤ 40; decide) (by decide) rfl rfl (fun E hE => ?_) rfl
 unfold xF at hf0
 obtain ⟨State_e, h0, hf0⟩ := zf hf0
 let Z0 : List HO := [Hn (iL eB h0), Hs (iM eB h0), Hs (iM eB h0), Hl (sM eB y0.States s_ true), Ha (lnM (eI .i64) x1)]
 rcases zO hf0 with ⟨c0, hf0⟩ | ⟨c0, hf0⟩
 ·obtain ⟨Row_e, h1, hf0⟩ := zf hf0
  obtain ⟨x_e, h2, hf0⟩ := zf hf0
  obtain ⟨Row_e_e, h3, hf0⟩ := zf hf0
  let Z1 : List HO := (Z0 ++ (rpN 4 (Hq c0) (Hi vN h1 :: (rpN 4 (Hq c0) (Hi (eI .i64) h2 :: Hq c0 :: Hq c0 :: Hi F9_ h3 :: (rpN 4 (Hq c0) []))))))
  rcases zO hf0 with ⟨c1, hf0⟩ | ⟨c1, hf0⟩
  ·obtain ⟨Edge_e, h4, hf0⟩ := zf hf0
   obtain ⟨x_e1, h5, hf0⟩ := zf hf0
   obtain ⟨Edge_e_e, h6, hf0⟩ := zf hf0
   obtain rfl := zc hf0
   exact yF X0 hC .normal [(2, .own (.box (.agg [eOs 1 true eB (y0.States.set s_.toNat true), eOs 1 true (eOs 1 true eB) (y0.Edges.set s_.toNat (Edge_e.set x_e1.toNat true))])))] (Z1 ++ [Hq c1, Hn (iL (eOs 1 true eB) h4), Hs (iM (eOs 1 true eB) h4), Hi (eI .i64) h5, Hs (iM (eOs 1 true eB) h4), Hn (iL eB h6), Hs (iM (eOs 1 true eB) h4), Hs (iM eB h6), Hs (iM (eOs 1 true eB) h4), Hs (iM eB h6), Hl (sM eB Edge_e x_e1 true), Hl (sM (eOs 1 true eB) y0.Edges s_ (Edge_e.set x_e1.toNat true))]) fun st0 h0 => hE _ st0 (.inl rfl) (jG h0 ⟨⟨rfl, rfl⟩, trivial⟩)
  ·obtain rfl := zc hf0
   exact yF X0 hC .normal [(2, .own (.box (.agg [eOs 1 true eB (y0.States.set s_.toNat true), eOs 1 true (eOs 1 true eB) y0.Edges])))] (Z1 ++ [Hq c1]) fun st0 h0 => hE _ st0 (.inl rfl) (jG h0 ⟨⟨rfl, rfl⟩, trivial⟩)
 ·obtain rfl := zc hf0
  exact yF X0 hC .normal [(2, .own (.box (.agg [eOs 1 true eB (y0.States.set s_.toNat true), eOs 1 true (eOs 1 true eB) y0.Edges])))] (Z0 ++ (rpN 14 (Hq c0) [qF])) fun st0 h0 => hE _ st0 (.inl rfl) (jG h0 ⟨⟨rfl, rfl⟩, trivial⟩)
noncomputable def uf : Code := (Tryz.f19.body).getD .skip
noncomputable def u4 : zR := spF (α := z6 × List (List Int)) (ρ := z8 × Int) 19 (fun x => [x4 x.1, vJ x.2]) (fun r => .tup [z9p r.1, (eI .i64) r.2]) (fun x => vu x.1 x.2) [] (X3)
abbrev XV (c_States : List Bool) (c_Edges : List (List Bool)) : List (Nat × T) := [(4, .own (.box (.agg [eOs 1 true eB [], eOs 1 true (eSl 1 false eB) []]))), (7, .own (.box (.agg [eOs 1 true eB c_States, eOs 1 true (eOs 1 true eB) c_Edges])))]
abbrev XU (m_ : z6) (l_ : List (List Int)) (c_States1 : List Bool) (c_Edges1 : List (List Bool)) (x21 : Int) : List (Nat × T) := [(2, .d (.sptr (x4 m_))), (4, .own (.box (.agg [eOs 1 true eB [], eOs 1 true (eSl 1 false eB) []]))), (7, .own (.box (.agg [eOs 1 true eB c_States1, eOs 1 true (eOs 1 true eB) c_Edges1]))), (19, .d (eSl 1 false F5_ l_)), (20, .d (I ((l_.length : Nat) : Int))), (21, .d (I x21))]
theorem Ut {ctr : Ctr} (hC : zu Tryz.prog ctr) (h_covers_ready : ctr.Has vT) (h_covers_empty : ctr.Has uQ) : u4.Ok Tryz.prog := by
 refine zy ?_
 rintro ⟨m_, l_⟩ r0 hf0
 try unfold vu at hf0
 refine yO false [(4, some 48), (5, none)] uf 31 Tryz.func19 fun E hE => ?_
 obtain ⟨r_, h0, hf0⟩ := zf hf0
 let Z0 : List HO := [Hc h_covers_ready (x := (m_, l_)) h0 (loC x4 m_ <| loC vJ l_ <| loN)]
 rcases zO hf0 with ⟨c0, hf0⟩ | ⟨c0, hf0⟩
 ·obtain rfl := zc hf0
  exact yE X0 hC hE (Z0 ++ [Hq c0, Hm (shM eB eB []), Hm (shM (eSl 1 false eB) (eSl 1 false eB) [])])
 ·obtain ⟨r_1, h1, hf0⟩ := zf hf0
  refine yA X0 hC uf [1,1,1] [] [(1, .d (eSl 1 false F5_ l_)), (2, .own (.box (x4 m_))), (4, .own (.box (.agg [eOs 1 true eB [], eOs 1 true (eSl 1 false eB) []]))), (7, .own (.box (zc2 r_1)))] (Z0 ++ [Hq c0, Hc h_covers_empty (x := m_) h1 (loC x4 m_ <| loN), Hh (.cut 0)]) ?_
  refine z07 (y := .box (.agg [eOs 1 true eB r_1.States, eOs 1 true (eOs 1 true eB) r_1.Edges])) (by kernel_rfl) 7 (by kernel_rfl) (by kernel_rfl) fun pv7 hv7 => ?_
  refine yJ X0 hC uf [1,1,1] [] [4,7] (fun z : List Bool × List (List Bool) => qU z.1 z.2 = some r0) (fun z => XV z.1 z.2) [(1, .d (eSl 1 false F5_ l_)), (2, .own (.box (x4 m_))), (4, .own (.box (.agg [eOs 1 true eB [], eOs 1 true (eSl 1 false eB) []]))), (7, .own (.box (zc2 r_1)))] [Hh (.cut 0)] ?_ fun J1 hJ1 => ?_
  ·rintro ⟨c_States, c_Edges⟩ hf0
   unfold qU at hf0
   obtain rfl := zc hf0
   exact yE X0 hC hE [Hm (shM eB eB c_States), Hm (shM (eOs 1 true eB) (eSl 1 true eB) c_Edges)]
  ·obtain ⟨t2, ht2, hf0⟩ := zf hf0
   refine yL X0 hC uf [1,1,1,2,1,0] [J1] (fun s => xP m_ l_ s.1 s.2.1 s.2.2) (fun x => XU m_ l_ x.1 x.2.1 x.2.2) (r_1.States, r_1.Edges, 0) ht2  [Ha (lnM F5_ l_), Hh (.n 1 [2])] ?_
   rintro ⟨c_States1, c_Edges1, x21⟩ m2 lr1 hf1 hl1 J2 hJ2
   try unfold xP at hf1
   rcases zO hf1 with ⟨c1, hf1⟩ | ⟨c1, hf1⟩
   ·obtain ⟨l__e, h2, hf1⟩ := zf hf1
    obtain ⟨r_2, h3, hf1⟩ := zf hf1
    obtain rfl := zc hf1
    exact yB ((wV (P := Tryz.prog) xr [7] (z4E (pre := [x4 m_, F5_ l__e]) (enc := (fun x : Int × Int => [(eI .i64) x.1, (eI .i64) x.2])) (ls := (fun s : z8 => [(pv7, .box (.agg [eOs 1 true eB s.States, eOs 1 true (eOs 1 true eB) s.Edges]))])) (F := fun yy s => wB m_ l__e yy s) (fun yv Y hy s s' h => WE hC _ yv Y _ hy m_ l__e s s' h) (fun s x s' h => WF hC pv7 l__e m_ _ _ _ _ h) (fun _ _ => rfl) h3) 28).or ((xMk Tryz.prog xr).or X0)) hC hJ2 (r_2.States, r_2.Edges, w64 (x21 + 1)) hl1 [Hq c1, Hi F5_ h2, Hn (Zx (f := .fn 48 []) (xs := [x4 m_, F5_ l__e, .fn 49 [.atom pv7, .sptr (eSl 1 false (eI .i64) l__e), .sptr (.agg [I m_.Inputs, I m_.Outputs, eSl 1 false vN m_.Rows])]]) (ls := [(pv7, .box (.agg [eOs 1 true eB c_States1, eOs 1 true (eOs 1 true eB) c_Edges1]))]) (r := .tup []) (ys := [.box (.agg [eOs 1 true eB r_2.States, eOs 1 true (eOs 1 true eB) r_2.Edges])]) [x4 m_, F5_ l__e, .fn 49 [.atom pv7, .sptr (eSl 1 false (eI .i64) l__e), .sptr (.agg [I m_.Inputs, I m_.Outputs, eSl 1 false vN m_.Rows])]] (show z0c [x4 m_, F5_ l__e, .fn 49 [.atom pv7, .sptr (eSl 1 false (eI .i64) l__e), .sptr (.agg [I m_.Inputs, I m_.Outputs, eSl 1 false vN m_.Rows])]] [x4 m_, F5_ l__e, .fn 49 [.atom pv7, .sptr (eSl 1 false (eI .i64) l__e), .sptr (.agg [I m_.Inputs, I m_.Outputs, eSl 1 false vN m_.Rows])]] from inferInstance))]
   ·obtain rfl := zc hf1
    obtain rfl := hl1
    exact yB X0 hC hJ1 (c_States1, c_Edges1) hf0 [Hq c1]
noncomputable def UD : Code := (Tryz.f83.body).getD .skip
theorem Qk {ctr : Ctr} (hC : zu Tryz.prog ctr) (cv1 : Value) (x0 : List Int) : ∀ (s_ : Int) (k_ : Int) (y1 : z8) (r0 : z8), ud x0 s_ k_ y1 = some r0 → u3 Tryz.prog (.fn 83 [.sptr (eSl 1 false (eI .i64) x0), .atom cv1]) [I s_, I k_] ([cv1].zip [.box (.agg [eOs 1 true eB y1.States, eOs 1 true (eOs 1 true eB) y1.Edges])]) (.tup []) [.box (.agg [eOs 1 true eB r0.States, eOs 1 true (eOs 1 true eB) r0.Edges])] := by
 intro s_ k_ y1 r0 hf0
 refine Q6 (tt := xr) (nt := 30) (body := UD) [3] zz Tryz.func83 rfl (by kernel_rfl) rfl rfl (by show (4 : Nat) ≤ 30; decide) (by decide) rfl rfl (fun E hE => ?_) rfl
 unfold ud at hf0
 rcases zO hf0 with ⟨c0, hf0⟩ | ⟨c0, hf0⟩
 ·obtain ⟨State_e, h0, hf0⟩ := zf hf0
  obtain rfl := zc hf0
  exact yF X0 hC .normal [(3, .own (.box (.agg [eOs 1 true eB (y1.States.set s_.toNat true), eOs 1 true (eOs 1 true eB) y1.Edges])))] [Ha (lnM (eI .i64) x0), Hq c0, Hn (iL eB h0), Hs (iM eB h0), Hs (iM eB h0), Hl (sM eB y1.States s_ true)] fun st0 h0 => hE _ st0 (.inl rfl) (jG h0 ⟨⟨rfl, rfl⟩, trivial⟩)
 ·let Z0 : List HO := [Ha (lnM (eI .i64) x0), Hq c0, Ha (lnM (eI .i64) x0)]
  rcases zO hf0 with ⟨c1, hf0⟩ | ⟨c1, hf0⟩
  ·obtain ⟨Edge_e, h1, hf0⟩ := zf hf0
   obtain ⟨x_e, h2, hf0⟩ := zf hf0
   obtain ⟨Edge_e_e, h3, hf0⟩ := zf hf0
   obtain rfl := zc hf0
   exact yF X0 hC .normal [(3, .own (.box (.agg [eOs 1 true eB y1.States, eOs 1 true (eOs 1 true eB) (y1.Edges.set s_.toNat (Edge_e.set x_e.toNat true))])))] (Z0 ++ [Hq c1, Hn (iL (eOs 1 true eB) h1), Hs (iM (eOs 1 true eB) h1), Hi (eI .i64) h2, Hs (iM (eOs 1 true eB) h1), Hn (iL eB h3), Hs (iM (eOs 1 true eB) h1), Hs (iM eB h3), Hs (iM (eOs 1 true eB) h1), Hs (iM eB h3), Hl (sM eB Edge_e x_e true), Hl (sM (eOs 1 true eB) y1.Edges s_ (Edge_e.set x_e.toNat true))]) fun st0 h0 => hE _ st0 (.inl rfl) (jG h0 ⟨⟨rfl, rfl⟩, trivial⟩)
  ·obtain rfl := zc hf0
   exact yF X0 hC .normal [(3, .own (.box (.agg [eOs 1 true eB y1.States, eOs 1 true (eOs 1 true eB) y1.Edges])))] (Z0 ++ [Hq c1]) fun st0 h0 => hE _ st0 (.inl rfl) (jG h0 ⟨⟨rfl, rfl⟩, trivial⟩)
noncomputable def jf : Code := (Tryz.f51.body).getD .skip
noncomputable def j9 : zR := spF (α := z6 × List (List Int)) (ρ := z8) 51 (fun x => [x4 x.1, vJ x.2]) (fun r => z9p r) (fun x => qS x.1 x.2) [] (X3)
abbrev VX (c_States : List Bool) (c_Edges : List (List Bool)) : List (Nat × T) := [(4, .own (.box (.agg [eOs 1 true eB [], eOs 1 true (eSl 1 false eB) []]))), (5, .own (.box (.agg [eOs 1 true eB c_States, eOs 1 true (eOs 1 true eB) c_Edges])))]
abbrev VW (m_ : z6) (l_ : List (List Int)) (c_States1 : List Bool) (c_Edges1 : List (List Bool)) (x12 : Int) : List (Nat × T) := [(2, .own (.box (x4 m_))), (4, .own (.box (.agg [eOs 1 true eB [], eOs 1 true (eSl 1 false eB) []]))), (5, .own (.box (.agg [eOs 1 true eB c_States1, eOs 1 true (eOs 1 true eB) c_Edges1]))), (10, .d (eSl 1 false F5_ l_)), (11, .d (I ((l_.length : Nat) : Int))), (12, .d (I x12))]
theorem Ky {ctr : Ctr} (hC : zu Tryz.prog ctr) (h_covers_empty : ctr.Has uQ) : j9.Ok Tryz.prog := by
 refine zy ?_
 rintro ⟨m_, l_⟩ r0 hf0
 try unfold qS at hf0
 refine yO false [(4, some 48)] jf 22 Tryz.func51 fun E hE => ?_
 obtain ⟨r_, h0, hf0⟩ := zf hf0
 refine yA X0 hC jf [1,1] [] [(1, .d (eSl 1 false F5_ l_)), (2, .own (.box (x4 m_))), (4, .own (.box (.agg [eOs 1 true eB [], eOs 1 true (eSl 1 false eB) []]))), (5, .own (.box (zc2 r_)))] [Hc h_covers_empty (x := m_) h0 (loC x4 m_ <| loN), Hh (.cut 0)] ?_
 refine z07 (y := .box (.agg [eOs 1 true eB r_.States, eOs 1 true (eOs 1 true eB) r_.Edges])) (by kernel_rfl) 5 (by kernel_rfl) (by kernel_rfl) fun pv5 hv5 => ?_
 refine yJ X0 hC jf [1,1] [] [4,5] (fun z : List Bool × List (List Bool) => ZH z.1 z.2 = some r0) (fun z => VX z.1 z.2) [(1, .d (eSl 1 false F5_ l_)), (2, .own (.box (x4 m_))), (4, .own (.box (.agg [eOs 1 true eB [], eOs 1 true (eSl 1 false eB) []]))), (5, .own (.box (zc2 r_)))] [Hh (.cut 0)] ?_ fun J1 hJ1 => ?_
 ·rintro ⟨c_States, c_Edges⟩ hf0
  unfold ZH at hf0
  obtain rfl := zc hf0
  exact yE X0 hC hE [Hm (shM eB eB c_States), Hm (shM (eOs 1 true eB) (eSl 1 true eB) c_Edges)]
 ·obtain ⟨t2, ht2, hf0⟩ := zf hf0
  refine yL X0 hC jf [1,1,2,1,0] [J1] (fun s => vt m_ l_ s.1 s.2.1 s.2.2) (fun x => VW m_ l_ x.1 x.2.1 x.2.2) (r_.States, r_.Edges, 0) ht2  [Ha (lnM F5_ l_)] ?_
  rintro ⟨c_States1, c_Edges1, x12⟩ m2 lr1 hf1 hl1 J2 hJ2
  try unfold vt at hf1
  rcases zO hf1 with ⟨c0, hf1⟩ | ⟨c0, hf1⟩
  ·obtain ⟨l__e, h1, hf1⟩ := zf hf1
   obtain ⟨r_1, h2, hf1⟩ := zf hf1
   obtain rfl := zc hf1
   exact yB ((wV (P := Tryz.prog) xr [5] (z4E (pre := [x4 m_, F5_ l__e]) (enc := (fun x : Int × Int => [(eI .i64) x.1, (eI .i64) x.2])) (ls := (fun s : z8 => [(pv5, .box (.agg [eOs 1 true eB s.States, eOs 1 true (eOs 1 true eB) s.Edges]))])) (F := fun yy s => wB m_ l__e yy s) (fun yv Y hy s s' h => WE hC _ yv Y _ hy m_ l__e s s' h) (fun s x s' h => Qk hC pv5 l__e _ _ _ _ h) (fun _ _ => rfl) h2) 19).or ((xMk Tryz.prog xr).or X0)) hC hJ2 (r_1.States, r_1.Edges, w64 (x12 + 1)) hl1 [Hq c0, Hi F5_ h1, Hn (Zx (f := .fn 48 []) (xs := [x4 m_, F5_ l__e, .fn 83 [.sptr (eSl 1 false (eI .i64) l__e), .atom pv5]]) (ls := [(pv5, .box (.agg [eOs 1 true eB c_States1, eOs 1 true (eOs 1 true eB) c_Edges1]))]) (r := .tup []) (ys := [.box (.agg [eOs 1 true eB r_1.States, eOs 1 true (eOs 1 true eB) r_1.Edges])]) [x4 m_, F5_ l__e, .fn 83 [.sptr (eSl 1 false (eI .i64) l__e), .atom pv5]] (show z0c [x4 m_, F5_ l__e, .fn 83 [.sptr (eSl 1 false (eI .i64) l__e), .atom pv5]] [x4 m_, F5_ l__e, .fn 83 [.sptr (eSl 1 false (eI .i64) l__e), .atom pv5]] from inferInstance))]
  ·obtain rfl := zc hf1
   obtain rfl := hl1
   exact yB X0 hC hJ1 (c_States1, c_Edges1) hf0 [Hq c0]
noncomputable def Y0 : Code := (Tryz.f52.body).getD .skip
noncomputable def wM : zR := spF (α := Bool) (ρ := Bool) 52 (fun x => [eB x]) (fun r => eB r) (fun x => wo x) [] (Ux)
theorem Y9 {ctr : Ctr} (hC : zu Tryz.prog ctr) : wM.Ok Tryz.prog := by
 refine zy ?_
 rintro is r0 hf0
 try unfold wo at hf0
 refine yO true [(2, none)] Y0 4 Tryz.func52 fun E hE => ?_
 obtain rfl := zc hf0
 exact yE X0 hC hE []
noncomputable def YW : Code := (Tryz.f82.body).getD .skip
noncomputable def vB : zR := spF (α := Bool × Unit) (ρ := Bool) 82 (fun x => [eB x.1, (eSp (YA 52)) x.2]) (fun r => eB r) (fun x => vb x.1 x.2) [] (X3)
theorem X7 {ctr : Ctr} (hC : zu Tryz.prog ctr) (h_covers_IsStateCover_1 : ctr.Has wM) : vB.Ok Tryz.prog := by
 refine zy ?_
 rintro ⟨x_, x1⟩ r0 hf0
 try unfold vb at hf0
 refine yO true [(3, none)] YW 8 Tryz.func82 fun E hE => ?_
 obtain ⟨r_, h0, hf0⟩ := zf hf0
 obtain rfl := zc hf0
 exact yE X0 hC hE [Hc h_covers_IsStateCover_1 (x := x_) h0 (loC eB x_ <| loN)]
noncomputable def xG : Code := (Tryz.f109.body).getD .skip
noncomputable def xx : zR := spF (α := List Bool × Unit) (ρ := Int) 109 (fun x => [(eSl 1 false eB) x.1, (Xw 82 (eSp (YA 52))) x.2]) (fun r => (eI .i64) r) (fun x => yV x.1 x.2) [] (by
 rintro ⟨a0, a1⟩ ⟨b0, b1⟩ h
 have e0 := uw.inj (f := (eSl 1 false eB)) _ _ (List.cons.inj h).1
 replace h := (List.cons.inj h).2
 have e1 := uw.inj (f := (Xw 82 (eSp (YA 52)))) _ _ (List.cons.inj h).1
 subst e0 e1
 rfl)
abbrev qz : List (Nat × T) := []
abbrev qw (s_ : List Bool) (x8 : Int) : List (Nat × T) := [(0, .d (eSl 1 false eB s_)), (1, .d (.fn 82 [.sptr (.fn 52 [])])), (7, .d (I ((s_.length : Nat) : Int))), (8, .d (I x8))]
theorem jV {ctr : Ctr} (hC : zu Tryz.prog ctr) (h_covers_every_bool_1 : ctr.Has vB) : xx.Ok Tryz.prog := by
 refine zy ?_
 rintro ⟨s_, f_⟩ r0 hf0
 try unfold yV at hf0
 refine yO true [(4, none)] xG 19 Tryz.func109 fun E hE => ?_
 refine yJ X0 hC xG [1] [] [] (fun z : Unit => xz = some r0) (fun z => qz) [(0, .d (eSl 1 false eB s_)), (1, .d (.fn 82 [.sptr (.fn 52 [])]))] [Hh (.cut 1)] ?_ fun J1 hJ1 => ?_
 ·rintro ⟨⟩ hf0
  unfold xz at hf0
  obtain rfl := zc hf0
  exact yE X0 hC hE []
 ·obtain ⟨t2, ht2, hf0⟩ := zf hf0
  refine yL X0 hC xG [1,2,1,0] [J1] (fun s => zQ s_ s) (fun x => qw s_ x) 0 ht2  [Ha (lnM eB s_)] ?_
  rintro x8 m2 lr1 hf1 hl1 J2 hJ2
  try unfold zQ at hf1
  rcases zO hf1 with ⟨c0, hf1⟩ | ⟨c0, hf1⟩
  ·obtain ⟨s__e, h0, hf1⟩ := zf hf1
   obtain ⟨r_, h1, hf1⟩ := zf hf1
   let Z0 : List HO := [Hq c0, Hi eB h0, Hc h_covers_every_bool_1 (x := (s__e, ())) h1 (loC eB s__e <| loC (eSp (YA 52)) () <| loN)]
   rcases zO hf1 with ⟨c1, hf1⟩ | ⟨c1, hf1⟩
   ·obtain rfl := zc hf1
    obtain rfl := hl1
    obtain rfl := zc hf0
    exact yE X0 hC hE (Z0 ++ [Hq c1])
   ·obtain rfl := zc hf1
    exact yB X0 hC hJ2 (w64 (x8 + 1)) hl1 (Z0 ++ [Hq c1])
  ·obtain rfl := zc hf1
   obtain rfl := hl1
   exact yB X0 hC hJ1 () hf0 [Hq c0]
noncomputable def qu : Code := (Tryz.f81.body).getD .skip
noncomputable def yR : zR := spF (α := List Bool × Unit) (ρ := Bool) 81 (fun x => [(eSl 1 false eB) x.1, (Xw 82 (eSp (YA 52))) x.2]) (fun r => eB r) (fun x => yn x.1 x.2) [] (by
 rintro ⟨a0, a1⟩ ⟨b0, b1⟩ h
 have e0 := uw.inj (f := (eSl 1 false eB)) _ _ (List.cons.inj h).1
 replace h := (List.cons.inj h).2
 have e1 := uw.inj (f := (Xw 82 (eSp (YA 52)))) _ _ (List.cons.inj h).1
 subst e0 e1
 rfl)
theorem qG {ctr : Ctr} (hC : zu Tryz.prog ctr) (h_slices_IndexFunc_bool_bool : ctr.Has xx) : yR.Ok Tryz.prog := by
 refine zy ?_
 rintro ⟨s_, f_⟩ r0 hf0
 try unfold yn at hf0
 refine yO true [(4, none)] qu 9 Tryz.func81 fun E hE => ?_
 obtain ⟨r_, h0, hf0⟩ := zf hf0
 obtain rfl := zc hf0
 exact yE X0 hC hE [Hc h_slices_IndexFunc_bool_bool (x := (s_, ())) h0 (loC (eSl 1 false eB) s_ <| loC (Xw 82 (eSp (YA 52))) () <| loN)]
noncomputable def XR : Code := (Tryz.f50.body).getD .skip
noncomputable def uh : zR := spF (α := List Bool × Unit) (ρ := Bool) 50 (fun x => [(eSl 1 false eB) x.1, (YA 52) x.2]) (fun r => eB r) (fun x => wQ x.1 x.2) [] (by
 rintro ⟨a0, a1⟩ ⟨b0, b1⟩ h
 have e0 := uw.inj (f := (eSl 1 false eB)) _ _ (List.cons.inj h).1
 replace h := (List.cons.inj h).2
 have e1 := uw.inj (f := (YA 52)) _ _ (List.cons.inj h).1
 subst e0 e1
 rfl)
theorem W8 {ctr : Ctr} (hC : zu Tryz.prog ctr) (h_slices_ContainsFunc_bool_bool : ctr.Has yR) : uh.Ok Tryz.prog := by
 refine zy ?_
 rintro ⟨l_, is⟩ r0 hf0
 try unfold wQ at hf0
 refine yO true [(4, none)] XR 9 Tryz.func50 fun E hE => ?_
 obtain ⟨r_, h0, hf0⟩ := zf hf0
 obtain rfl := zc hf0
 exact yE X0 hC hE [Hc h_slices_ContainsFunc_bool_bool (x := (l_, ())) h0 (loC (eSl 1 false eB) l_ <| loC (Xw 82 (eSp (YA 52))) () <| loN)]
noncomputable def YX : Code := (Tryz.f20.body).getD .skip
noncomputable def w7 : zR := spF (α := z6 × List (List Int)) (ρ := Bool × Int) 20 (fun x => [x4 x.1, vJ x.2]) (fun r => .tup [eB r.1, (eI .i64) r.2]) (fun x => yp x.1 x.2) [] (X3)
theorem X8 {ctr : Ctr} (hC : zu Tryz.prog ctr) (h_covers_ready : ctr.Has vT) (h_covers_ends : ctr.Has j9) (h_covers_every_bool : ctr.Has uh) : w7.Ok Tryz.prog := by
 refine zy ?_
 rintro ⟨m_, l_⟩ r0 hf0
 try unfold yp at hf0
 refine yO false [(4, none), (5, none)] YX 18 Tryz.func20 fun E hE => ?_
 obtain ⟨r_, h0, hf0⟩ := zf hf0
 let Z0 : List HO := [Hc h_covers_ready (x := (m_, l_)) h0 (loC x4 m_ <| loC vJ l_ <| loN)]
 rcases zO hf0 with ⟨c0, hf0⟩ | ⟨c0, hf0⟩
 ·obtain rfl := zc hf0
  exact yE X0 hC hE (Z0 ++ [Hq c0])
 ·obtain ⟨r_1, h1, hf0⟩ := zf hf0
  obtain ⟨r_2, h2, hf0⟩ := zf hf0
  obtain rfl := zc hf0
  exact yE ((zck zz z8S).or X0) hC hE (Z0 ++ [Hq c0, Hc h_covers_ends (x := (m_, l_)) h1 (loC x4 m_ <| loC vJ l_ <| loN), Hc h_covers_every_bool (x := (r_1.States, ())) h2 (loC (eSl 1 true eB) r_1.States <| loC (YA 52) () <| loN)])
noncomputable def qW : Code := (Tryz.f54.body).getD .skip
noncomputable def zD : zR := spF (α := Bool) (ρ := Bool) 54 (fun x => [eB x]) (fun r => eB r) (fun x => yz x) [] (Ux)
theorem jg {ctr : Ctr} (hC : zu Tryz.prog ctr) : zD.Ok Tryz.prog := by
 refine zy ?_
 rintro is r0 hf0
 try unfold yz at hf0
 refine yO true [(2, none)] qW 4 Tryz.func54 fun E hE => ?_
 obtain rfl := zc hf0
 exact yE X0 hC hE []
noncomputable def ZL : Code := (Tryz.f82.body).getD .skip
noncomputable def ul : zR := spF (α := Bool × Unit) (ρ := Bool) 82 (fun x => [eB x.1, (eSp (YA 54)) x.2]) (fun r => eB r) (fun x => w8 x.1 x.2) [] (X3)
theorem uG {ctr : Ctr} (hC : zu Tryz.prog ctr) (h_covers_IsTransitionCover_1_1 : ctr.Has zD) : ul.Ok Tryz.prog := by
 refine zy ?_
 rintro ⟨x_, x1⟩ r0 hf0
 try unfold w8 at hf0
 refine yO true [(3, none)] ZL 8 Tryz.func82 fun E hE => ?_
 obtain ⟨r_, h0, hf0⟩ := zf hf0
 obtain rfl := zc hf0
 exact yE X0 hC hE [Hc h_covers_IsTransitionCover_1_1 (x := x_) h0 (loC eB x_ <| loN)]
noncomputable def yT : Code := (Tryz.f109.body).getD .skip
noncomputable def wF : zR := spF (α := List Bool × Unit) (ρ := Int) 109 (fun x => [(eSl 1 false eB) x.1, (Xw 82 (eSp (YA 54))) x.2]) (fun r => (eI .i64) r) (fun x => ym x.1 x.2) [] (by
 rintro ⟨a0, a1⟩ ⟨b0, b1⟩ h
 have e0 := uw.inj (f := (eSl 1 false eB)) _ _ (List.cons.inj h).1
 replace h := (List.cons.inj h).2
 have e1 := uw.inj (f := (Xw 82 (eSp (YA 54)))) _ _ (List.cons.inj h).1
 subst e0 e1
 rfl)
abbrev uF : List (Nat × T) := []
abbrev uE (s_ : List Bool) (x8 : Int) : List (Nat × T) := [(0, .d (eSl 1 false eB s_)), (1, .d (.fn 82 [.sptr (.fn 54 [])])), (7, .d (I ((s_.length : Nat) : Int))), (8, .d (I x8))]
theorem qE {ctr : Ctr} (hC : zu Tryz.prog ctr) (h_covers_IsTransitionCover_1_1 : ctr.Has zD) : wF.Ok Tryz.prog := by
 refine zy ?_
 rintro ⟨s_, f_⟩ r0 hf0
 try unfold ym at hf0
 refine yO true [(4, none)] yT 19 Tryz.func109 fun E hE => ?_
 refine yJ X0 hC yT [1] [] [] (fun z : Unit => yS = some r0) (fun z => uF) [(0, .d (eSl 1 false eB s_)), (1, .d (.fn 82 [.sptr (.fn 54 [])]))] [Hh (.cut 1)] ?_ fun J1 hJ1 => ?_
 ·rintro ⟨⟩ hf0
  unfold yS at hf0
  obtain rfl := zc hf0
  exact yE X0 hC hE []
 ·obtain ⟨t2, ht2, hf0⟩ := zf hf0
  refine yL X0 hC yT [1,2,1,0] [J1] (fun s => zL s_ s) (fun x => uE s_ x) 0 ht2  [Ha (lnM eB s_)] ?_
  rintro x8 m2 lr1 hf1 hl1 J2 hJ2
  try unfold zL at hf1
  rcases zO hf1 with ⟨c0, hf1⟩ | ⟨c0, hf1⟩
  ·obtain ⟨s__e, h0, hf1⟩ := zf hf1
   obtain ⟨r_, h1, hf1⟩ := zf hf1
   let Z0 : List HO := [Hq c0, Hi eB h0, Hc (Ctr.add_has Q8 ul) (x := (s__e, ())) h1 (loC eB s__e <| loC (eSp (YA 54)) () <| loN)]
   rcases zO hf1 with ⟨c1, hf1⟩ | ⟨c1, hf1⟩
   ·obtain rfl := zc hf1
    obtain rfl := hl1
    obtain rfl := zc hf0
    exact yE ((z0i zz (uG hC h_covers_IsTransitionCover_1_1) 16).or X0) hC hE (Z0 ++ [Hq c1])
   ·obtain rfl := zc hf1
    exact yB ((z0i zz (uG hC h_covers_IsTransitionCover_1_1) 16).or X0) hC hJ2 (w64 (x8 + 1)) hl1 (Z0 ++ [Hq c1])
  ·obtain rfl := zc hf1
   obtain rfl := hl1
   exact yB X0 hC hJ1 () hf0 [Hq c0]
noncomputable def uD : Code := (Tryz.f81.body).getD .skip
noncomputable def xU : zR := spF (α := List Bool × Unit) (ρ := Bool) 81 (fun x => [(eSl 1 false eB) x.1, (Xw 82 (eSp (YA 54))) x.2]) (fun r => eB r) (fun x => yb x.1 x.2) [] (by
 rintro ⟨a0, a1⟩ ⟨b0, b1⟩ h
 have e0 := uw.inj (f := (eSl 1 false eB)) _ _ (List.cons.inj h).1
 replace h := (List.cons.inj h).2
 have e1 := uw.inj (f := (Xw 82 (eSp (YA 54)))) _ _ (List.cons.inj h).1
 subst e0 e1
 rfl)
theorem uL {ctr : Ctr} (hC : zu Tryz.prog ctr) (h_covers_IsTransitionCover_1_1 : ctr.Has zD) : xU.Ok Tryz.prog := by
 refine zy ?_
 rintro ⟨s_, f_⟩ r0 hf0
 try unfold yb at hf0
 refine yO true [(4, none)] uD 9 Tryz.func81 fun E hE => ?_
 obtain ⟨r_, h0, hf0⟩ := zf hf0
 obtain rfl := zc hf0
 exact yE ((z0i zz (qE hC h_covers_IsTransitionCover_1_1) 7).or X0) hC hE [Hc (Ctr.add_has Q8 wF) (x := (s_, ())) h0 (loC (eSl 1 false eB) s_ <| loC (Xw 82 (eSp (YA 54))) () <| loN)]
noncomputable def YI : Code := (Tryz.f50.body).getD .skip
noncomputable def uP : zR := spF (α := List Bool × Unit) (ρ := Bool) 50 (fun x => [(eSl 1 false eB) x.1, (YA 54) x.2]) (fun r => eB r) (fun x => xJ x.1 x.2) [] (by
 rintro ⟨a0, a1⟩ ⟨b0, b1⟩ h
 have e0 := uw.inj (f := (eSl 1 false eB)) _ _ (List.cons.inj h).1
 replace h := (List.cons.inj h).2
 have e1 := uw.inj (f := (YA 54)) _ _ (List.cons.inj h).1
 subst e0 e1
 rfl)
theorem YR {ctr : Ctr} (hC : zu Tryz.prog ctr) (h_covers_IsTransitionCover_1_1 : ctr.Has zD) : uP.Ok Tryz.prog := by
 refine zy ?_
 rintro ⟨l_, is⟩ r0 hf0
 try unfold xJ at hf0
 refine yO true [(4, none)] YI 9 Tryz.func50 fun E hE => ?_
 obtain ⟨r_, h0, hf0⟩ := zf hf0
 obtain rfl := zc hf0
 exact yE ((z0i zz (uL hC h_covers_IsTransitionCover_1_1) 7).or X0) hC hE [Hc (Ctr.add_has Q8 xU) (x := (l_, ())) h0 (loC (eSl 1 false eB) l_ <| loC (Xw 82 (eSp (YA 54))) () <| loN)]
noncomputable def jI : Code := (Tryz.f53.body).getD .skip
noncomputable def xy : zR := spF (α := List Bool) (ρ := Bool) 53 (fun x => [(eSl 1 false eB) x]) (fun r => eB r) (fun x => yZ x) [] (Ux)
theorem jW {ctr : Ctr} (hC : zu Tryz.prog ctr) (h_covers_IsTransitionCover_1_1 : ctr.Has zD) : xy.Ok Tryz.prog := by
 refine zy ?_
 rintro r_ r0 hf0
 try unfold yZ at hf0
 refine yO true [(2, none)] jI 5 Tryz.func53 fun E hE => ?_
 obtain ⟨r_1, h0, hf0⟩ := zf hf0
 obtain rfl := zc hf0
 exact yE ((z0i zz (YR hC h_covers_IsTransitionCover_1_1) 4).or X0) hC hE [Hc (Ctr.add_has Q8 uP) (x := (r_, ())) h0 (loC (eSl 1 false eB) r_ <| loC (YA 54) () <| loN)]
noncomputable def YJ : Code := (Tryz.f85.body).getD .skip
noncomputable def wY : zR := spF (α := List Bool × Unit) (ρ := Bool) 85 (fun x => [(eSl 1 false eB) x.1, (eSp (YA 53)) x.2]) (fun r => eB r) (fun x => wI x.1 x.2) [] (X3)
theorem YS {ctr : Ctr} (hC : zu Tryz.prog ctr) (h_covers_IsTransitionCover_1 : ctr.Has xy) : wY.Ok Tryz.prog := by
 refine zy ?_
 rintro ⟨x_, x1⟩ r0 hf0
 try unfold wI at hf0
 refine yO true [(3, none)] YJ 8 Tryz.func85 fun E hE => ?_
 obtain ⟨r_, h0, hf0⟩ := zf hf0
 obtain rfl := zc hf0
 exact yE X0 hC hE [Hc h_covers_IsTransitionCover_1 (x := x_) h0 (loC (eSl 1 false eB) x_ <| loN)]
noncomputable def xq : Code := (Tryz.f110.body).getD .skip
noncomputable def x9 : zR := spF (α := List (List Bool) × Unit) (ρ := Int) 110 (fun x => [F8_ x.1, (Xw 85 (eSp (YA 53))) x.2]) (fun r => (eI .i64) r) (fun x => yH x.1 x.2) [] (by
 rintro ⟨a0, a1⟩ ⟨b0, b1⟩ h
 have e0 := uw.inj (f := F8_) _ _ (List.cons.inj h).1
 replace h := (List.cons.inj h).2
 have e1 := uw.inj (f := (Xw 85 (eSp (YA 53)))) _ _ (List.cons.inj h).1
 subst e0 e1
 rfl)
abbrev qh : List (Nat × T) := []
abbrev qg (s_ : List (List Bool)) (x8 : Int) : List (Nat × T) := [(0, .d (eSl 1 false (eSl 1 false eB) s_)), (1, .d (.fn 85 [.sptr (.fn 53 [])])), (7, .d (I ((s_.length : Nat) : Int))), (8, .d (I x8))]
theorem ju {ctr : Ctr} (hC : zu Tryz.prog ctr) (h_covers_everyL_bool_1 : ctr.Has wY) : x9.Ok Tryz.prog := by
 refine zy ?_
 rintro ⟨s_, f_⟩ r0 hf0
 try unfold yH at hf0
 refine yO true [(4, none)] xq 19 Tryz.func110 fun E hE => ?_
 refine yJ X0 hC xq [1] [] [] (fun z : Unit => xe = some r0) (fun z => qh) [(0, .d (eSl 1 false (eSl 1 false eB) s_)), (1, .d (.fn 85 [.sptr (.fn 53 [])]))] [Hh (.cut 1)] ?_ fun J1 hJ1 => ?_
 ·rintro ⟨⟩ hf0
  unfold xe at hf0
  obtain rfl := zc hf0
  exact yE X0 hC hE []
 ·obtain ⟨t2, ht2, hf0⟩ := zf hf0
  refine yL X0 hC xq [1,2,1,0] [J1] (fun s => zN s_ s) (fun x => qg s_ x) 0 ht2  [Ha (lnM (eSl 1 false eB) s_)] ?_
  rintro x8 m2 lr1 hf1 hl1 J2 hJ2
  try unfold zN at hf1
  rcases zO hf1 with ⟨c0, hf1⟩ | ⟨c0, hf1⟩
  ·obtain ⟨s__e, h0, hf1⟩ := zf hf1
   obtain ⟨r_, h1, hf1⟩ := zf hf1
   let Z0 : List HO := [Hq c0, Hi (eSl 1 false eB) h0, Hc h_covers_everyL_bool_1 (x := (s__e, ())) h1 (loC (eSl 1 false eB) s__e <| loC (eSp (YA 53)) () <| loN)]
   rcases zO hf1 with ⟨c1, hf1⟩ | ⟨c1, hf1⟩
   ·obtain rfl := zc hf1
    obtain rfl := hl1
    obtain rfl := zc hf0
    exact yE X0 hC hE (Z0 ++ [Hq c1])
   ·obtain rfl := zc hf1
    exact yB X0 hC hJ2 (w64 (x8 + 1)) hl1 (Z0 ++ [Hq c1])
  ·obtain rfl := zc hf1
   obtain rfl := hl1
   exact yB X0 hC hJ1 () hf0 [Hq c0]
noncomputable def qd : Code := (Tryz.f84.body).getD .skip
noncomputable def yD : zR := spF (α := List (List Bool) × Unit) (ρ := Bool) 84 (fun x => [F8_ x.1, (Xw 85 (eSp (YA 53))) x.2]) (fun r => eB r) (fun x => yi x.1 x.2) [] (by
 rintro ⟨a0, a1⟩ ⟨b0, b1⟩ h
 have e0 := uw.inj (f := F8_) _ _ (List.cons.inj h).1
 replace h := (List.cons.inj h).2
 have e1 := uw.inj (f := (Xw 85 (eSp (YA 53)))) _ _ (List.cons.inj h).1
 subst e0 e1
 rfl)
theorem qr {ctr : Ctr} (hC : zu Tryz.prog ctr) (h_slices_IndexFuncW_bool_bool : ctr.Has x9) : yD.Ok Tryz.prog := by
 refine zy ?_
 rintro ⟨s_, f_⟩ r0 hf0
 try unfold yi at hf0
 refine yO true [(4, none)] qd 9 Tryz.func84 fun E hE => ?_
 obtain ⟨r_, h0, hf0⟩ := zf hf0
 obtain rfl := zc hf0
 exact yE X0 hC hE [Hc h_slices_IndexFuncW_bool_bool (x := (s_, ())) h0 (loC F8_ s_ <| loC (Xw 85 (eSp (YA 53))) () <| loN)]
noncomputable def Xz : Code := (Tryz.f55.body).getD .skip
noncomputable def vU : zR := spF (α := List (List Bool) × Unit) (ρ := Bool) 55 (fun x => [F8_ x.1, (YA 53) x.2]) (fun r => eB r) (fun x => wn x.1 x.2) [] (by
 rintro ⟨a0, a1⟩ ⟨b0, b1⟩ h
 have e0 := uw.inj (f := F8_) _ _ (List.cons.inj h).1
 replace h := (List.cons.inj h).2
 have e1 := uw.inj (f := (YA 53)) _ _ (List.cons.inj h).1
 subst e0 e1
 rfl)
theorem XO {ctr : Ctr} (hC : zu Tryz.prog ctr) (h_slices_ContainsFuncW_bool_bool : ctr.Has yD) : vU.Ok Tryz.prog := by
 refine zy ?_
 rintro ⟨l_, is⟩ r0 hf0
 try unfold wn at hf0
 refine yO true [(4, none)] Xz 9 Tryz.func55 fun E hE => ?_
 obtain ⟨r_, h0, hf0⟩ := zf hf0
 obtain rfl := zc hf0
 exact yE X0 hC hE [Hc h_slices_ContainsFuncW_bool_bool (x := (l_, ())) h0 (loC F8_ l_ <| loC (Xw 85 (eSp (YA 53))) () <| loN)]
noncomputable def kY : Code := (Tryz.f21.body).getD .skip
noncomputable def yG : zR := spF (α := z6 × List (List Int)) (ρ := Bool × Int) 21 (fun x => [x4 x.1, vJ x.2]) (fun r => .tup [eB r.1, (eI .i64) r.2]) (fun x => zX x.1 x.2) [] (X3)
theorem Ze {ctr : Ctr} (hC : zu Tryz.prog ctr) (h_covers_ready : ctr.Has vT) (h_covers_ends : ctr.Has j9) (h_covers_everyL_bool : ctr.Has vU) : yG.Ok Tryz.prog := by
 refine zy ?_
 rintro ⟨m_, l_⟩ r0 hf0
 try unfold zX at hf0
 refine yO false [(4, none), (5, none)] kY 20 Tryz.func21 fun E hE => ?_
 obtain ⟨r_, h0, hf0⟩ := zf hf0
 let Z0 : List HO := [Hc h_covers_ready (x := (m_, l_)) h0 (loC x4 m_ <| loC vJ l_ <| loN)]
 rcases zO hf0 with ⟨c0, hf0⟩ | ⟨c0, hf0⟩
 ·obtain rfl := zc hf0
  exact yE X0 hC hE (Z0 ++ [Hq c0])
 ·obtain ⟨r_1, h1, hf0⟩ := zf hf0
  obtain ⟨r_2, h2, hf0⟩ := zf hf0
  obtain rfl := zc hf0
  exact yE ((zck zz z8R).or X0) hC hE (Z0 ++ [Hq c0, Hc h_covers_ends (x := (m_, l_)) h1 (loC x4 m_ <| loC vJ l_ <| loN), Hc h_covers_everyL_bool (x := (r_1.Edges, ())) h2 (loC F7_ r_1.Edges <| loC (YA 53) () <| loN)])
noncomputable def z03 : Code := (Tryz.f86.body).getD .skip
noncomputable def jZ : zR := spF (α := z6 × Int × Int) (ρ := za) 86 (fun x => [x4 x.1, (eI .i64) x.2.1, (eI .i64) x.2.2]) (fun r => F9_ r) (fun x => ZQ x.1 x.2.1 x.2.2) [] (zap)
theorem z0p {ctr : Ctr} (hC : zu Tryz.prog ctr) : jZ.Ok Tryz.prog := by
 refine zy ?_
 rintro ⟨m_, s_, i_⟩ r0 hf0
 try unfold ZQ at hf0
 refine yO false [(6, some 68)] z03 18 Tryz.func86 fun E hE => ?_
 rcases zO hf0 with ⟨c0, hf0⟩ | ⟨c0, hf0⟩
 ·obtain rfl := zc hf0
  exact yE X0 hC hE [Hq c0]
 ·obtain ⟨Row_e, h0, hf0⟩ := zf hf0
  obtain ⟨Row_e_e, h1, hf0⟩ := zf hf0
  obtain rfl := zc hf0
  exact yE X0 hC hE [Hq c0, Hi vN h0, Hi F9_ h1]
noncomputable def JP : Code := (Tryz.f56.body).getD .skip
noncomputable def uk : zR := spF (α := z6 × Int × List Int) (ρ := Int) 56 (fun x => [x4 x.1, (eI .i64) x.2.1, F5_ x.2.2]) (fun r => (eI .i64) r) (fun x => uB x.1 x.2.1 x.2.2) [] (zap)
theorem WI : ∀ (x y : z6 × Int × List Int), (fun x => [x4 x.1, (eI .i64) x.2.1, F5_ x.2.2]) x = (fun x => [x4 x.1, (eI .i64) x.2.1, F5_ x.2.2]) y → x = y := zap
noncomputable def jz (rc_ : z6 → Int → (List Int) → Option Int) : zR := spF (α := z6 × Int × List Int) (ρ := Int) 56 (fun x => [x4 x.1, (eI .i64) x.2.1, F5_ x.2.2]) (fun r => (eI .i64) r) (fun x => rc_ x.1 x.2.1 x.2.2) [] (by
 intro x y h
 exact (congrArg (fun (p : z6 × Int × List Int) => p) (show x = y from WI x y h)))
theorem Qg {ctr : Ctr} (hC : zu Tryz.prog ctr) (h_ref04_Next : ctr.Has jZ) (rc_ : z6 → Int → (List Int) → Option Int) (h_rc_ : ctr.Has (jz rc_)) : (jz (ub rc_)).Ok Tryz.prog := by
 refine zy ?_
 rintro ⟨m_, s_, w_⟩ r0 hf0
 try unfold ub at hf0
 refine yO true [(6, none)] JP 22 Tryz.func56 fun E hE => ?_
 rcases zO hf0 with ⟨c0, hf0⟩ | ⟨c0, hf0⟩
 ·obtain rfl := zc hf0
  exact yE X0 hC hE [Ha (lnM (eI .i64) w_), Hq c0]
 ·obtain ⟨w__e, h0, hf0⟩ := zf hf0
  obtain ⟨r_, h1, hf0⟩ := zf hf0
  obtain ⟨g0, hf0⟩ := gdE hf0
  obtain ⟨r_1, h2, hf0⟩ := zf hf0
  obtain rfl := zc hf0
  exact yE ((zck zz z8Q).or X0) hC hE [Ha (lnM (eI .i64) w_), Hq c0, Hi (eI .i64) h0, Hc h_ref04_Next (x := (m_, s_, w__e)) h1 (loC x4 m_ <| loC (eI .i64) s_ <| loC (eI .i64) w__e <| loN), Hn (slA g0), Hn (zct (eI .i64) g0), Ha (slE 1 false (eI .i64) w_ (1 : Int).toNat), Hc h_rc_ (x := (m_, r_.To, (w_.drop (1 : Int).toNat))) h2 (loC x4 m_ <| loC (eI .i64) r_.To <| loC F5_ (w_.drop (1 : Int).toNat) <| loN)]
theorem Kv {ctr : Ctr} (hC : zu Tryz.prog ctr) (h_ref04_Next : ctr.Has jZ) : uk.Ok Tryz.prog := by
 have H : ∀ n, (jz (uS n)).Ok Tryz.prog := by
  intro n
  induction n with
  | zero => exact zy fun _ _ h => nomatch (show none = some _ from h)
  | succ n ih => exact Qg (Ctr.add_ok hC ih) (h_ref04_Next.add (by show (86 : Nat) ≠ 56; decide)) _ (Ctr.add_has _ _)
 exact zy fun x r h => z3M (H _) h
noncomputable def yQ : Code := (Tryz.f23.body).getD .skip
noncomputable def jy : zR := spF (α := z6 × List (List Int)) (ρ := z8) 23 (fun x => [x4 x.1, vJ x.2]) (fun r => (yC (eSl 1 true eB) (eSl 1 false (eSl 1 true eB))) r) (fun x => uR x.1 x.2) [] (X3)
abbrev Ww (c_States : List Bool) (c_Edges1 : List (List Bool)) : List (Nat × T) := [(4, .own (.box (.agg [eOs 1 true eB [], eOs 1 true (eSl 1 false eB) []]))), (5, .own (.box (.agg [eOs 1 true eB c_States, eOs 1 false (eOs 1 true eB) c_Edges1])))]
abbrev Wv (m_ : z6) (l_ : List (List Int)) (i_ : Int) (c_States2 : List Bool) (c_Edges3 : List (List Bool)) : List (Nat × T) := [(1, .d (eSl 1 false F5_ l_)), (2, .own (.box (x4 m_))), (4, .own (.box (.agg [eOs 1 true eB [], eOs 1 true (eSl 1 false eB) []]))), (5, .own (.box (.agg [eOs 1 true eB c_States2, eOs 1 false (eOs 1 true eB) c_Edges3]))), (7, .d (I i_))]
abbrev Wu (m_ : z6) (l_ : List (List Int)) (i_ : Int) (k_ : Int) (c_States4 : List Bool) (c_Edges5 : List (List Bool)) : List (Nat × T) := [(1, .d (eSl 1 false F5_ l_)), (2, .own (.box (x4 m_))), (4, .own (.box (.agg [eOs 1 true eB [], eOs 1 true (eSl 1 false eB) []]))), (5, .own (.box (.agg [eOs 1 true eB c_States4, eOs 1 false (eOs 1 true eB) c_Edges5]))), (7, .d (I i_)), (8, .d (I k_))]
abbrev Ws (m_ : z6) (l_ : List (List Int)) (i_ : Int) (c_States3 : List Bool) (c_Edges4 : List (List Bool)) (k_ : Int) : List (Nat × T) := [(1, .d (eSl 1 false F5_ l_)), (2, .own (.box (x4 m_))), (4, .own (.box (.agg [eOs 1 true eB [], eOs 1 true (eSl 1 false eB) []]))), (5, .own (.box (.agg [eOs 1 true eB c_States3, eOs 1 false (eOs 1 true eB) c_Edges4]))), (7, .d (I i_)), (8, .d (I k_))]
abbrev Wt (m_ : z6) (l_ : List (List Int)) (c_States1 : List Bool) (c_Edges2 : List (List Bool)) (i_ : Int) : List (Nat × T) := [(1, .d (eSl 1 false F5_ l_)), (2, .own (.box (x4 m_))), (4, .own (.box (.agg [eOs 1 true eB [], eOs 1 true (eSl 1 false eB) []]))), (5, .own (.box (.agg [eOs 1 true eB c_States1, eOs 1 false (eOs 1 true eB) c_Edges2]))), (7, .d (I i_))]
abbrev Wx (m_ : z6) (l_ : List (List Int)) (c_Edges : List (List Bool)) : List (Nat × T) := [(1, .d (eSl 1 false F5_ l_)), (2, .own (.box (x4 m_))), (4, .own (.box (.agg [eOs 1 true eB [], eOs 1 true (eSl 1 false eB) []]))), (5, .own (.box (.agg [eOs 1 true eB (List.replicate ((m_.Rows.length : Nat) : Int).toNat false), eOs 1 false (eOs 1 true eB) c_Edges])))]
abbrev Wr (m_ : z6) (l_ : List (List Int)) (c_Edges6 : List (List Bool)) (s_ : Int) : List (Nat × T) := [(1, .d (eSl 1 false F5_ l_)), (2, .own (.box (x4 m_))), (4, .own (.box (.agg [eOs 1 true eB [], eOs 1 true (eSl 1 false eB) []]))), (5, .own (.box (.agg [eOs 1 true eB (List.replicate ((m_.Rows.length : Nat) : Int).toNat false), eOs 1 false (eOs 1 true eB) c_Edges6]))), (6, .d (I s_))]
theorem Qd {ctr : Ctr} (hC : zu Tryz.prog ctr) (h_ref04_After : ctr.Has uk) : jy.Ok Tryz.prog := by
 refine zy ?_
 rintro ⟨m_, l_⟩ r0 hf0
 try unfold uR at hf0
 refine yO false [(4, some 48)] yQ 98 Tryz.func23 fun E hE => ?_
 obtain ⟨g0, hf0⟩ := gdE hf0
 refine yJ X0 hC yQ [1,1] [] [1,2,4,5] (fun z : List (List Bool) => ut m_ l_ z = some r0) (fun z => Wx m_ l_ z) [(1, .d (eSl 1 false F5_ l_)), (2, .own (.box (x4 m_))), (4, .own (.box (.agg [eOs 1 true eB [], eOs 1 true (eSl 1 false eB) []]))), (5, .own (.box (.agg [eOs 1 true eB (List.replicate ((m_.Rows.length : Nat) : Int).toNat false), eOs 1 true (eSl 1 false eB) []])))] [Ha (lnM vN m_.Rows), Hn (rL g0), Ha (rM 1 eB ((m_.Rows.length : Nat) : Int) false), Hh (.cut 0)] ?_ fun J1 hJ1 => ?_
 ·rintro c_Edges hf0
  unfold ut at hf0
  refine yJ X0 hC yQ [1,1,1] [] [4,5] (fun z : List Bool × List (List Bool) => jE z.1 z.2 = some r0) (fun z => Ww z.1 z.2) [(1, .d (eSl 1 false F5_ l_)), (2, .own (.box (x4 m_))), (4, .own (.box (.agg [eOs 1 true eB [], eOs 1 true (eSl 1 false eB) []]))), (5, .own (.box (.agg [eOs 1 true eB (List.replicate ((m_.Rows.length : Nat) : Int).toNat false), eOs 1 false (eOs 1 true eB) c_Edges])))] [Hh (.cut 0)] ?_ fun J2 hJ2 => ?_
  ·rintro ⟨c_States, c_Edges1⟩ hf0
   unfold jE at hf0
   obtain rfl := zc hf0
   exact yE X0 hC hE [Hm (shM eB eB c_States), Hm (shM (eOs 1 true eB) (eSl 1 true eB) c_Edges1)]
  ·obtain ⟨t3, ht3, hf0⟩ := zf hf0
   refine yL X0 hC yQ [1,1,1,2,1,0] [J2] (fun s => we m_ l_ s.1 s.2.1 s.2.2) (fun x => Wt m_ l_ x.1 x.2.1 x.2.2) ((List.replicate ((m_.Rows.length : Nat) : Int).toNat false), c_Edges, 0) ht3  [] ?_
   rintro ⟨c_States1, c_Edges2, i_⟩ m3 lr1 hf1 hl1 J3 hJ3
   try unfold we at hf1
   let Z0 : List HO := [Ha (lnM F5_ l_)]
   rcases zO hf1 with ⟨c0, hf1⟩ | ⟨c0, hf1⟩
   ·refine yJ X0 hC yQ [1,1,1,2,1,0,0,1] [J2, J3] [1,2,4,5,7] (fun z : List Bool × List (List Bool) => ur i_ z.1 z.2 = some lr1) (fun z => Wv m_ l_ i_ z.1 z.2) [(1, .d (eSl 1 false F5_ l_)), (2, .own (.box (x4 m_))), (4, .own (.box (.agg [eOs 1 true eB [], eOs 1 true (eSl 1 false eB) []]))), (5, .own (.box (.agg [eOs 1 true eB c_States1, eOs 1 false (eOs 1 true eB) c_Edges2]))), (7, .d (I i_))] (Z0 ++ [Hq c0, Hh (.cut 0)]) ?_ fun J4 hJ4 => ?_
    ·rintro ⟨c_States2, c_Edges3⟩ hf1
     unfold ur at hf1
     obtain rfl := zc hf1
     exact yB X0 hC hJ3 (c_States2, c_Edges3, w64 (i_ + 1)) hl1 []
    ·obtain ⟨t5, ht5, hf1⟩ := zf hf1
     refine yL X0 hC yQ [1,1,1,2,1,0,0,1,2,0,1,0] [J2, J3, J4] (fun s => wd m_ l_ i_ s.1 s.2.1 s.2.2) (fun x => Ws m_ l_ i_ x.1 x.2.1 x.2.2) (c_States1, c_Edges2,0) ht5  [] ?_
     rintro ⟨c_States3, c_Edges4, k_⟩ m5 lr2 hf2 hl2 J5 hJ5
     try unfold wd at hf2
     obtain ⟨l__e, h0, hf2⟩ := zf hf2
     let Z1 : List HO := [Hi F5_ h0, Ha (lnM (eI .i64) l__e)]
     rcases zO hf2 with ⟨c1, hf2⟩ | ⟨c1, hf2⟩
     ·refine yJ X0 hC yQ [1,1,1,2,1,0,0,1,2,0,1,0,0,1] [J2, J3, J4, J5] [1,2,4,5,7,8] (fun z : List Bool × List (List Bool) => xD k_ z.1 z.2 = some lr2) (fun z => Wu m_ l_ i_ k_ z.1 z.2) [(1, .d (eSl 1 false F5_ l_)), (2, .own (.box (x4 m_))), (4, .own (.box (.agg [eOs 1 true eB [], eOs 1 true (eSl 1 false eB) []]))), (5, .own (.box (.agg [eOs 1 true eB c_States3, eOs 1 false (eOs 1 true eB) c_Edges4]))), (7, .d (I i_)), (8, .d (I k_))] (Z1 ++ [Hq c1, Hh (.cut 0)]) ?_ fun J6 hJ6 => ?_
      ·rintro ⟨c_States4, c_Edges5⟩ hf2
       unfold xD at hf2
       obtain rfl := zc hf2
       exact yB X0 hC hJ5 (c_States4, c_Edges5, w64 (k_ + 1)) hl2 []
      ·obtain ⟨l__e1, h1, hf2⟩ := zf hf2
       obtain ⟨g1, hf2⟩ := gdE hf2
       obtain ⟨r_, h2, hf2⟩ := zf hf2
       let Z2 : List HO := [Hi F5_ h1, Hn (slB g1), Hn (z9S (eI .i64) g1), Ha (slM 1 false (eI .i64) l__e1 0 k_.toNat), Hc h_ref04_After (x := (m_, 0, ((l__e1.drop 0).take (k_.toNat - 0)))) h2 (loC x4 m_ <| loC (eI .i64) 0 <| loC F5_ ((l__e1.drop 0).take (k_.toNat - 0)) <| loN)]
       rcases zO hf2 with ⟨c2, hf2⟩ | ⟨c2, hf2⟩
       ·exact yB X0 hC hJ6 (c_States3, c_Edges4) hf2 (Z2 ++ [Hq c2])
       ·obtain ⟨c_State_e, h3, hf2⟩ := zf hf2
        obtain ⟨l__e2, h4, hf2⟩ := zf hf2
        let Z3 : List HO := (Z2 ++ [Hq c2, Hn (iL eB h3), Hs (iM eB h3), Hs (iM eB h3), Hl (sM eB c_States3 r_ true), Hi F5_ h4, Ha (lnM (eI .i64) l__e2)])
        rcases zO hf2 with ⟨c3, hf2⟩ | ⟨c3, hf2⟩
        ·obtain ⟨Row_e, h5, hf2⟩ := zf hf2
         obtain ⟨l__e3, h6, hf2⟩ := zf hf2
         obtain ⟨l__e_e, h7, hf2⟩ := zf hf2
         obtain ⟨Row_e_e, h8, hf2⟩ := zf hf2
         let Z4 : List HO := (Z3 ++ (rpN 4 (Hq c3) (Hi vN h5 :: (rpN 4 (Hq c3) (Hi F5_ h6 :: Hq c3 :: Hq c3 :: Hq c3 :: Hi (eI .i64) h7 :: Hq c3 :: Hq c3 :: Hi F9_ h8 :: (rpN 4 (Hq c3) []))))))
         rcases zO hf2 with ⟨c4, hf2⟩ | ⟨c4, hf2⟩
         ·obtain ⟨c_Edge_e, h9, hf2⟩ := zf hf2
          obtain ⟨l__e4, h10, hf2⟩ := zf hf2
          obtain ⟨l__e_e1, h11, hf2⟩ := zf hf2
          obtain ⟨c_Edge_e_e, h12, hf2⟩ := zf hf2
          exact yB X0 hC hJ6 ((c_States3.set r_.toNat true), (c_Edges4.set r_.toNat (c_Edge_e.set l__e_e1.toNat true))) hf2 (Z4 ++ [Hq c4, Hn (iL (eOs 1 true eB) h9), Hs (iM (eOs 1 true eB) h9), Hi F5_ h10, Hi (eI .i64) h11, Hs (iM (eOs 1 true eB) h9), Hn (iL eB h12), Hs (iM (eOs 1 true eB) h9), Hs (iM eB h12), Hs (iM (eOs 1 true eB) h9), Hs (iM eB h12), Hl (sM eB c_Edge_e l__e_e1 true), Hl (sM (eOs 1 true eB) c_Edges4 r_ (c_Edge_e.set l__e_e1.toNat true))])
         ·exact yB X0 hC hJ6 ((c_States3.set r_.toNat true), c_Edges4) hf2 (Z4 ++ [Hq c4])
        ·exact yB X0 hC hJ6 ((c_States3.set r_.toNat true), c_Edges4) hf2 (Z3 ++ (rpN 17 (Hq c3) [qF]))
     ·obtain rfl := zc hf2
      obtain rfl := hl2
      exact yB X0 hC hJ4 (c_States3, c_Edges4) hf1 (Z1 ++ [Hq c1])
   ·obtain rfl := zc hf1
    obtain rfl := hl1
    exact yB X0 hC hJ2 (c_States1, c_Edges2) hf0 (Z0 ++ [Hq c0])
 ·obtain ⟨t7, ht7, hf0⟩ := zf hf0
  refine yLx X0 hC yQ [1,1,2,1,0] [J1] (fun s => xC m_ s.1 s.2) (fun x => Wr m_ l_ x.1 x.2) (([] : List (List Bool)), 0) ht7 [(1, .d (eSl 1 false F5_ l_)), (2, .own (.box (x4 m_))), (4, .own (.box (.agg [eOs 1 true eB [], eOs 1 true (eSl 1 false eB) []]))), (5, .own (.box (.agg [eOs 1 true eB (List.replicate ((m_.Rows.length : Nat) : Int).toNat false), eOs 1 true (eOs 1 true eB) []]))), (6, .d (I 0))] inferInstance [] ?_
  rintro ⟨c_Edges6, s_⟩ m7 lr1 hf1 hl1 J7 hJ7
  try unfold xC at hf1
  let Z5 : List HO := [Ha (lnM vN m_.Rows)]
  rcases zO hf1 with ⟨c5, hf1⟩ | ⟨c5, hf1⟩
  ·obtain ⟨g2, hf1⟩ := gdE hf1
   obtain ⟨g3, hf1⟩ := gdE hf1
   obtain rfl := zc hf1
   exact yB X0 hC hJ7 ((c_Edges6 ++ ([(List.replicate m_.Inputs.toNat false)] : List (List Bool))), w64 (s_ + 1)) hl1 (Z5 ++ [Hq c5, Hn (rL g2), Ha (rM 1 eB m_.Inputs false), Hq (oC (eOs 1 true eB) (List.replicate m_.Inputs.toNat false) []), Hn (aL (eOs 1 true eB) (eOs 1 true eB) g3), Hl (aM (eOs 1 true eB) c_Edges6 ([(List.replicate m_.Inputs.toNat false)] : List (List Bool)))])
  ·obtain rfl := zc hf1
   obtain rfl := hl1
   exact yB X0 hC hJ1 c_Edges6 hf0 (Z5 ++ [Hq c5])
noncomputable def vd : Code := (Tryz.f22.body).getD .skip
noncomputable def jX : zR := spF (α := z8 × z8) (ρ := Bool) 22 (fun x => [z0g x.1, z0g x.2]) (fun r => eB r) (fun x => kr x.1 x.2) [] (X3)
abbrev UM : List (Nat × T) := []
abbrev UL (a_ : z8) (b_ : z8) (s_ : Int) : List (Nat × T) := [(2, .own (.box (z0g a_))), (3, .own (.box (z0g b_))), (6, .d (I s_))]
abbrev UJ (a_ : z8) (b_ : z8) (s_ : Int) (i_ : Int) : List (Nat × T) := [(2, .own (.box (z0g a_))), (3, .own (.box (z0g b_))), (6, .d (I s_)), (7, .d (I i_))]
abbrev UK (a_ : z8) (b_ : z8) (s_ : Int) : List (Nat × T) := [(2, .own (.box (z0g a_))), (3, .own (.box (z0g b_))), (6, .d (I s_))]
abbrev UN (a_ : z8) (b_ : z8) : List (Nat × T) := [(2, .own (.box (z0g a_))), (3, .own (.box (z0g b_)))]
abbrev UI (a_ : z8) (b_ : z8) (s_1 : Int) : List (Nat × T) := [(2, .own (.box (z0g a_))), (3, .own (.box (z0g b_))), (5, .d (I s_1))]
theorem z0m {ctr : Ctr} (hC : zu Tryz.prog ctr) : jX.Ok Tryz.prog := by
 refine zy ?_
 rintro ⟨a_, b_⟩ r0 hf0
 try unfold kr at hf0
 refine yO true [(4, none)] vd 89 Tryz.func22 fun E hE => ?_
 let Z0 : List HO := [Ha (lnM eB a_.States), Ha (lnM eB b_.States)]
 rcases zO hf0 with ⟨c0, hf0⟩ | ⟨c0, hf0⟩
 ·obtain rfl := zc hf0
  exact yE X0 hC hE (Z0 ++ (rpN 8 (Hq c0) [qT]))
 ·let Z1 : List HO := (Z0 ++ [Hq c0, Hq c0, Hq c0, Ha (lnM (eSl 1 false eB) a_.Edges), Hq c0, Hq c0, Hq c0, Ha (lnM (eSl 1 false eB) b_.Edges), Hq c0, Hq c0])
  rcases zO hf0 with ⟨c1, hf0⟩ | ⟨c1, hf0⟩
  ·obtain rfl := zc hf0
   exact yE X0 hC hE (Z1 ++ [Hq c1])
  ·refine yJ X0 hC vd [1,1] [] [2,3] (fun z : Unit => k9 a_ b_ = some r0) (fun z => UN a_ b_) [(2, .own (.box (z0g a_))), (3, .own (.box (z0g b_)))] (Z1 ++ [Hq c1, Hh (.cut 0)]) ?_ fun J1 hJ1 => ?_
   ·rintro ⟨⟩ hf0
    unfold k9 at hf0
    refine yJ X0 hC vd [1,1,1] [] [] (fun z : Unit => Yq = some r0) (fun z => UM) [(2, .own (.box (z0g a_))), (3, .own (.box (z0g b_)))] [Hh (.cut 0)] ?_ fun J2 hJ2 => ?_
    ·rintro ⟨⟩ hf0
     unfold Yq at hf0
     obtain rfl := zc hf0
     exact yE X0 hC hE []
    ·obtain ⟨t3, ht3, hf0⟩ := zf hf0
     refine yL X0 hC vd [1,1,1,2,1,0] [J2] (fun s => ua a_ b_ s) (fun x => UK a_ b_ x) 0 ht3  [] ?_
     rintro s_ m3 lr1 hf1 hl1 J3 hJ3
     try unfold ua at hf1
     let Z2 : List HO := [Ha (lnM (eSl 1 false eB) a_.Edges)]
     rcases zO hf1 with ⟨c2, hf1⟩ | ⟨c2, hf1⟩
     ·refine yJ X0 hC vd [1,1,1,2,1,0,0,1] [J2, J3] [2,3,6] (fun z : Unit => Yp s_ = some lr1) (fun z => UL a_ b_ s_) [(2, .own (.box (z0g a_))), (3, .own (.box (z0g b_))), (6, .d (I s_))] (Z2 ++ [Hq c2, Hh (.cut 0)]) ?_ fun J4 hJ4 => ?_
      ·rintro ⟨⟩ hf1
       unfold Yp at hf1
       obtain rfl := zc hf1
       exact yB X0 hC hJ3 (w64 (s_ + 1)) hl1 []
      ·obtain ⟨Edge_e, h0, hf1⟩ := zf hf1
       obtain ⟨Edge_e1, h1, hf1⟩ := zf hf1
       let Z3 : List HO := [Hi (eSl 1 false eB) h0, Ha (lnM eB Edge_e), Hi (eSl 1 false eB) h1, Ha (lnM eB Edge_e1)]
       rcases zO hf1 with ⟨c3, hf1⟩ | ⟨c3, hf1⟩
       ·obtain rfl := zc hf1
        obtain rfl := hl1
        obtain rfl := zc hf0
        exact yE X0 hC hE (Z3 ++ [Hq c3])
       ·obtain ⟨t5, ht5, hf1⟩ := zf hf1
        refine yL X0 hC vd [1,1,1,2,1,0,0,1,2,0,1,1,0] [J2, J3, J4] (fun s => u9 a_ b_ s_ s) (fun x => UJ a_ b_ s_ x) 0 ht5  (Z3 ++ [Hq c3]) ?_
        rintro i_ m5 lr2 hf2 hl2 J5 hJ5
        try unfold u9 at hf2
        obtain ⟨Edge_e2, h2, hf2⟩ := zf hf2
        let Z4 : List HO := [Hi (eSl 1 false eB) h2, Ha (lnM eB Edge_e2)]
        rcases zO hf2 with ⟨c4, hf2⟩ | ⟨c4, hf2⟩
        ·obtain ⟨Edge_e3, h3, hf2⟩ := zf hf2
         obtain ⟨Edge_e_e, h4, hf2⟩ := zf hf2
         obtain ⟨Edge_e4, h5, hf2⟩ := zf hf2
         obtain ⟨Edge_e_e1, h6, hf2⟩ := zf hf2
         let Z5 : List HO := (Z4 ++ [Hq c4, Hi (eSl 1 false eB) h3, Hi eB h4, Hi (eSl 1 false eB) h5, Hi eB h6])
         rcases zO hf2 with ⟨c5, hf2⟩ | ⟨c5, hf2⟩
         ·obtain rfl := zc hf2
          obtain rfl := hl2
          obtain rfl := zc hf1
          obtain rfl := hl1
          obtain rfl := zc hf0
          exact yE X0 hC hE (Z5 ++ [Hq c5])
         ·obtain rfl := zc hf2
          exact yB X0 hC hJ5 (w64 (i_ + 1)) hl2 (Z5 ++ [Hq c5])
        ·obtain rfl := zc hf2
         obtain rfl := hl2
         exact yB X0 hC hJ4 () hf1 (Z4 ++ [Hq c4])
     ·obtain rfl := zc hf1
      obtain rfl := hl1
      exact yB X0 hC hJ2 () hf0 (Z2 ++ [Hq c2])
   ·obtain ⟨t6, ht6, hf0⟩ := zf hf0
    refine yL X0 hC vd [1,1,2,1,0] [J1] (fun s => u7 a_ b_ s) (fun x => UI a_ b_ x) 0 ht6  [] ?_
    rintro s_1 m6 lr1 hf1 hl1 J6 hJ6
    try unfold u7 at hf1
    rcases zO hf1 with ⟨c6, hf1⟩ | ⟨c6, hf1⟩
    ·obtain ⟨State_e, h7, hf1⟩ := zf hf1
     obtain ⟨State_e1, h8, hf1⟩ := zf hf1
     let Z6 : List HO := [Ha (lnM eB a_.States), Hq c6, Hi eB h7, Hi eB h8]
     rcases zO hf1 with ⟨c7, hf1⟩ | ⟨c7, hf1⟩
     ·obtain rfl := zc hf1
      obtain rfl := hl1
      obtain rfl := zc hf0
      exact yE X0 hC hE (Z6 ++ [Hq c7])
     ·obtain rfl := zc hf1
      exact yB X0 hC hJ6 (w64 (s_1 + 1)) hl1 (Z6 ++ [Hq c7])
    ·obtain rfl := zc hf1
     obtain rfl := hl1
     exact yB X0 hC hJ1 () hf0 [Ha (lnM eB a_.States), Hq c6]
noncomputable def yx : Code := (Tryz.f24.body).getD .skip
noncomputable def vR : zR := spF (α := z6 × List (List Int)) (ρ := Bool) 24 (fun x => [x4 x.1, vJ x.2]) (fun r => eB r) (fun x => wk x.1 x.2) [] (X3)
abbrev Y5 : List (Nat × T) := []
abbrev Y4 (m_ : z6) (l_ : List (List Int)) (s_ : Int) : List (Nat × T) := [(1, .d (eSl 1 false F5_ l_)), (2, .own (.box (x4 m_))), (5, .d (I s_))]
abbrev Y3 (m_ : z6) (l_ : List (List Int)) (s_ : Int) (is : Bool) : List (Nat × T) := [(1, .d (eSl 1 false F5_ l_)), (2, .own (.box (x4 m_))), (5, .d (I s_)), (6, .d (B is))]
abbrev Y1 (m_ : z6) (l_ : List (List Int)) (s_ : Int) (is1 : Bool) (i_ : Int) : List (Nat × T) := [(1, .d (eSl 1 false F5_ l_)), (2, .own (.box (x4 m_))), (5, .d (I s_)), (6, .d (B is1)), (7, .d (I i_))]
abbrev Y2 (m_ : z6) (l_ : List (List Int)) (s_ : Int) : List (Nat × T) := [(1, .d (eSl 1 false F5_ l_)), (2, .own (.box (x4 m_))), (5, .d (I s_))]
theorem XM {ctr : Ctr} (hC : zu Tryz.prog ctr) (h_ref04_After : ctr.Has uk) : vR.Ok Tryz.prog := by
 refine zy ?_
 rintro ⟨m_, l_⟩ r0 hf0
 try unfold wk at hf0
 refine yO true [(4, none)] yx 34 Tryz.func24 fun E hE => ?_
 refine yJ X0 hC yx [1] [] [] (fun z : Unit => vZ = some r0) (fun z => Y5) [(1, .d (eSl 1 false F5_ l_)), (2, .own (.box (x4 m_)))] [Hh (.cut 1)] ?_ fun J1 hJ1 => ?_
 ·rintro ⟨⟩ hf0
  unfold vZ at hf0
  obtain rfl := zc hf0
  exact yE X0 hC hE []
 ·obtain ⟨t2, ht2, hf0⟩ := zf hf0
  refine yL X0 hC yx [1,2,1,0] [J1] (fun s => yw m_ l_ s) (fun x => Y2 m_ l_ x) 0 ht2  [] ?_
  rintro s_ m2 lr1 hf1 hl1 J2 hJ2
  try unfold yw at hf1
  let Z0 : List HO := [Ha (lnM vN m_.Rows)]
  rcases zO hf1 with ⟨c0, hf1⟩ | ⟨c0, hf1⟩
  ·refine yJ X0 hC yx [1,2,1,0,0,1] [J1, J2] [1,2,5] (fun z : Unit => wj s_ = some lr1) (fun z => Y4 m_ l_ s_) [(1, .d (eSl 1 false F5_ l_)), (2, .own (.box (x4 m_))), (5, .d (I s_))] (Z0 ++ [Hq c0, Hh (.cut 0)]) ?_ fun J3 hJ3 => ?_
   ·rintro ⟨⟩ hf1
    unfold wj at hf1
    obtain rfl := zc hf1
    exact yB X0 hC hJ2 (w64 (s_ + 1)) hl1 []
   ·refine yJ X0 hC yx [1,2,1,0,0,1,2,0,1] [J1, J2, J3] [1,2,5,6] (fun z : Bool => wi s_ z = some lr1) (fun z => Y3 m_ l_ s_ z) [(1, .d (eSl 1 false F5_ l_)), (2, .own (.box (x4 m_))), (5, .d (I s_)), (6, .d (B false))] [Hh (.cut 1)] ?_ fun J4 hJ4 => ?_
    ·rintro is hf1
     unfold wi at hf1
     rcases zO hf1 with ⟨c1, hf1⟩ | ⟨c1, hf1⟩
     ·obtain rfl := zc hf1
      obtain rfl := hl1
      obtain rfl := zc hf0
      exact yE X0 hC hE [Hq c1]
     ·exact yB X0 hC hJ3 () hf1 [Hq c1]
    ·obtain ⟨t5, ht5, hf1⟩ := zf hf1
     refine yL X0 hC yx [1,2,1,0,0,1,2,0,1,2,1,0] [J1, J2, J3, J4] (fun s => yu m_ l_ s_ s.1 s.2) (fun x => Y1 m_ l_ s_ x.1 x.2) (false, 0) ht5  [] ?_
     rintro ⟨is1, i_⟩ m5 lr2 hf2 hl2 J5 hJ5
     try unfold yu at hf2
     let Z1 : List HO := [Ha (lnM F5_ l_)]
     rcases zO hf2 with ⟨c2, hf2⟩ | ⟨c2, hf2⟩
     ·rcases zO hf2 with ⟨c3, hf2⟩ | ⟨c3, hf2⟩
      ·obtain rfl := zc hf2
       exact yB X0 hC hJ5 (true, w64 (i_ + 1)) hl2 (Z1 ++ (Hq c2 :: (rpN 9 (Hq c3) [])))
      ·obtain ⟨l__e, h0, hf2⟩ := zf hf2
       obtain ⟨r_, h1, hf2⟩ := zf hf2
       obtain rfl := zc hf2
       exact yB X0 hC hJ5 (r_ == s_, w64 (i_ + 1)) hl2 (Z1 ++ (Hq c2 :: (rpN 4 (Hq c3) [Hi F5_ h0, Hq c3, Hq c3, Hc h_ref04_After (x := (m_, 0, l__e)) h1 (loC x4 m_ <| loC (eI .i64) 0 <| loC F5_ l__e <| loN), Hq c3, Hq c3, Hq c3])))
     ·obtain rfl := zc hf2
      obtain rfl := hl2
      exact yB X0 hC hJ4 is1 hf1 (Z1 ++ [Hq c2])
  ·obtain rfl := zc hf1
   obtain rfl := hl1
   exact yB X0 hC hJ1 () hf0 (Z0 ++ [Hq c0])
noncomputable def zJ : Code := (Tryz.f25.body).getD .skip
noncomputable def wa : zR := spF (α := z6 × List (List Int)) (ρ := Bool) 25 (fun x => [x4 x.1, vJ x.2]) (fun r => eB r) (fun x => yK x.1 x.2) [] (X3)
abbrev jQ : List (Nat × T) := []
abbrev jP (m_ : z6) (l_ : List (List Int)) (s_ : Int) : List (Nat × T) := [(1, .d (eSl 1 false F5_ l_)), (2, .own (.box (x4 m_))), (5, .d (I s_))]
abbrev jO (m_ : z6) (l_ : List (List Int)) (s_ : Int) (a_ : Int) : List (Nat × T) := [(1, .d (eSl 1 false F5_ l_)), (2, .own (.box (x4 m_))), (5, .d (I s_)), (6, .d (I a_))]
abbrev jN (m_ : z6) (l_ : List (List Int)) (s_ : Int) (a_ : Int) (is : Bool) : List (Nat × T) := [(1, .d (eSl 1 false F5_ l_)), (2, .own (.box (x4 m_))), (5, .d (I s_)), (6, .d (I a_)), (7, .d (B is))]
abbrev jK (m_ : z6) (l_ : List (List Int)) (s_ : Int) (a_ : Int) (is1 : Bool) (i_ : Int) : List (Nat × T) := [(1, .d (eSl 1 false F5_ l_)), (2, .own (.box (x4 m_))), (5, .d (I s_)), (6, .d (I a_)), (7, .d (B is1)), (8, .d (I i_))]
abbrev jL (m_ : z6) (l_ : List (List Int)) (s_ : Int) (a_ : Int) : List (Nat × T) := [(1, .d (eSl 1 false F5_ l_)), (2, .own (.box (x4 m_))), (5, .d (I s_)), (6, .d (I a_))]
abbrev jM (m_ : z6) (l_ : List (List Int)) (s_ : Int) : List (Nat × T) := [(1, .d (eSl 1 false F5_ l_)), (2, .own (.box (x4 m_))), (5, .d (I s_))]
theorem Zu {ctr : Ctr} (hC : zu Tryz.prog ctr) (h_ref04_After : ctr.Has uk) : wa.Ok Tryz.prog := by
 refine zy ?_
 rintro ⟨m_, l_⟩ r0 hf0
 try unfold yK at hf0
 refine yO true [(4, none)] zJ 65 Tryz.func25 fun E hE => ?_
 refine yJ X0 hC zJ [1] [] [] (fun z : Unit => wb = some r0) (fun z => jQ) [(1, .d (eSl 1 false F5_ l_)), (2, .own (.box (x4 m_)))] [Hh (.cut 1)] ?_ fun J1 hJ1 => ?_
 ·rintro ⟨⟩ hf0
  unfold wb at hf0
  obtain rfl := zc hf0
  exact yE X0 hC hE []
 ·obtain ⟨t2, ht2, hf0⟩ := zf hf0
  refine yL X0 hC zJ [1,2,1,0] [J1] (fun s => y3 m_ l_ s) (fun x => jM m_ l_ x) 0 ht2  [] ?_
  rintro s_ m2 lr1 hf1 hl1 J2 hJ2
  try unfold y3 at hf1
  let Z0 : List HO := [Ha (lnM vN m_.Rows)]
  rcases zO hf1 with ⟨c0, hf1⟩ | ⟨c0, hf1⟩
  ·refine yJ X0 hC zJ [1,2,1,0,0,1] [J1, J2] [1,2,5] (fun z : Unit => yY s_ = some lr1) (fun z => jP m_ l_ s_) [(1, .d (eSl 1 false F5_ l_)), (2, .own (.box (x4 m_))), (5, .d (I s_))] (Z0 ++ [Hq c0, Hh (.cut 0)]) ?_ fun J3 hJ3 => ?_
   ·rintro ⟨⟩ hf1
    unfold yY at hf1
    obtain rfl := zc hf1
    exact yB X0 hC hJ2 (w64 (s_ + 1)) hl1 []
   ·obtain ⟨t4, ht4, hf1⟩ := zf hf1
    refine yL X0 hC zJ [1,2,1,0,0,1,2,0,1,0] [J1, J2, J3] (fun s => zP m_ l_ s_ s) (fun x => jL m_ l_ s_ x) 0 ht4  [] ?_
    rintro a_ m4 lr2 hf2 hl2 J4 hJ4
    try unfold zP at hf2
    rcases zO hf2 with ⟨c1, hf2⟩ | ⟨c1, hf2⟩
    ·refine yJ X0 hC zJ [1,2,1,0,0,1,2,0,1,0,0,1] [J1, J2, J3, J4] [1,2,5,6] (fun z : Unit => yX a_ = some lr2) (fun z => jO m_ l_ s_ a_) [(1, .d (eSl 1 false F5_ l_)), (2, .own (.box (x4 m_))), (5, .d (I s_)), (6, .d (I a_))] [Hq c1, Hh (.cut 0)] ?_ fun J5 hJ5 => ?_
     ·rintro ⟨⟩ hf2
      unfold yX at hf2
      obtain rfl := zc hf2
      exact yB X0 hC hJ4 (w64 (a_ + 1)) hl2 []
     ·refine yJ X0 hC zJ [1,2,1,0,0,1,2,0,1,0,0,1,2,0,1] [J1, J2, J3, J4, J5] [1,2,5,6,7] (fun z : Bool => yW a_ z = some lr2) (fun z => jN m_ l_ s_ a_ z) [(1, .d (eSl 1 false F5_ l_)), (2, .own (.box (x4 m_))), (5, .d (I s_)), (6, .d (I a_)), (7, .d (B false))] [Hh (.cut 1)] ?_ fun J6 hJ6 => ?_
      ·rintro is hf2
       unfold yW at hf2
       rcases zO hf2 with ⟨c2, hf2⟩ | ⟨c2, hf2⟩
       ·obtain rfl := zc hf2
        obtain rfl := hl2
        obtain rfl := zc hf1
        obtain rfl := hl1
        obtain rfl := zc hf0
        exact yE X0 hC hE [Hq c2]
       ·exact yB X0 hC hJ5 () hf2 [Hq c2]
      ·obtain ⟨t7, ht7, hf2⟩ := zf hf2
       refine yL X0 hC zJ [1,2,1,0,0,1,2,0,1,0,0,1,2,0,1,2,1,0] [J1, J2, J3, J4, J5, J6] (fun s => zZ m_ l_ s_ a_ s.1 s.2) (fun x => jK m_ l_ s_ a_ x.1 x.2) (false, 0) ht7  [] ?_
       rintro ⟨is1, i_⟩ m7 lr3 hf3 hl3 J7 hJ7
       try unfold zZ at hf3
       let Z1 : List HO := [Ha (lnM F5_ l_)]
       rcases zO hf3 with ⟨c3, hf3⟩ | ⟨c3, hf3⟩
       ·obtain ⟨l__e, h0, hf3⟩ := zf hf3
        let Z2 : List HO := (Z1 ++ [Hq c3, Hi F5_ h0, Ha (lnM (eI .i64) l__e)])
        rcases zO hf3 with ⟨c4, hf3⟩ | ⟨c4, hf3⟩
        ·obtain rfl := zc hf3
         exact yB X0 hC hJ7 (true, w64 (i_ + 1)) hl3 (Z2 ++ (rpN 7 (Hq c4) []))
        ·rcases zO hf3 with ⟨c5, hf3⟩ | ⟨c5, hf3⟩
         ·obtain ⟨l__e1, h1, hf3⟩ := zf hf3
          obtain ⟨l__e_e, h2, hf3⟩ := zf hf3
          let Z3 : List HO := (Z2 ++ [Hq c4, Hq c4, Hq c4, Hq c5, Hq c5, Hq c5, Hi F5_ h1, Hq c5, Hq c5, Hq c5, Hi (eI .i64) h2, Hq c5, Hq c5, Hq c5, Hq c4, Hq c5, Hq c4])
          rcases zO hf3 with ⟨c6, hf3⟩ | ⟨c6, hf3⟩
          ·obtain ⟨l__e2, h3, hf3⟩ := zf hf3
           obtain ⟨g0, hf3⟩ := gdE hf3
           obtain ⟨r_, h4, hf3⟩ := zf hf3
           obtain rfl := zc hf3
           exact yB X0 hC hJ7 (r_ == s_, w64 (i_ + 1)) hl3 (Z3 ++ (rpN 4 (Hq c6) [Hi F5_ h3, Hq c6, Hq c6, Hq c6, Hn (slB g0), Hn (z9S (eI .i64) g0), Ha (slM 1 false (eI .i64) l__e2 0 (w64 (((l__e.length : Nat) : Int) - 1)).toNat), Hq c6, Hc h_ref04_After (x := (m_, 0, ((l__e2.drop 0).take ((w64 (((l__e.length : Nat) : Int) - 1)).toNat - 0)))) h4 (loC x4 m_ <| loC (eI .i64) 0 <| loC F5_ ((l__e2.drop 0).take ((w64 (((l__e.length : Nat) : Int) - 1)).toNat - 0)) <| loN), Hq c6, Hq c6, Hq c4, Hq c6, Hq c4]))
          ·obtain rfl := zc hf3
           exact yB X0 hC hJ7 (false, w64 (i_ + 1)) hl3 (Z3 ++ (rpN 10 (Hq c6) [Hq c4, Hq c6, Hq c4]))
         ·obtain rfl := zc hf3
          exact yB X0 hC hJ7 (false, w64 (i_ + 1)) hl3 (Z2 ++ (Hq c4 :: Hq c4 :: Hq c4 :: (rpN 9 (Hq c5) (Hq c4 :: Hq c5 :: Hq c4 :: (rpN 10 qF [Hq c4, qF, Hq c4])))))
       ·obtain rfl := zc hf3
        obtain rfl := hl3
        exact yB X0 hC hJ6 is1 hf2 (Z1 ++ [Hq c3])
    ·obtain rfl := zc hf2
     obtain rfl := hl2
     exact yB X0 hC hJ3 () hf1 [Hq c1]
  ·obtain rfl := zc hf1
   obtain rfl := hl1
   exact yB X0 hC hJ1 () hf0 (Z0 ++ [Hq c0])
noncomputable def UC : Code := (Tryz.f39.body).getD .skip
noncomputable def jC : zR := spF (α := Unit) (ρ := z6) 39 (fun x => []) (fun r => z5q r) (fun x => Yw) [] (fun _ _ _ => rfl)
theorem Qj {ctr : Ctr} (hC : zu Tryz.prog ctr) : jC.Ok Tryz.prog := by
 refine zy ?_
 rintro ⟨⟩ r0 hf0
 try unfold Yw at hf0
 refine yO false [(0, some 27)] UC 14 Tryz.func39 fun E hE => ?_
 obtain rfl := zc hf0
 exact yE X0 hC hE [Hm (shM (eOs 2 true F9_) zep ([[(za.mk 1 0), (za.mk 0 0)], [(za.mk 2 1), (za.mk (-1) (-1))], [(za.mk 0 0), (za.mk 2 1)]]))]
noncomputable def z05 : Code := (Tryz.f40.body).getD .skip
noncomputable def Yi : zR := spF (α := List (List Int)) (ρ := List (List Int)) 40 (fun x => [vJ x]) (fun r => vJ r) (fun x => qP x) [] (Ux)
theorem z0r {ctr : Ctr} (hC : zu Tryz.prog ctr) : Yi.Ok Tryz.prog := by
 refine zy ?_
 rintro l_ r0 hf0
 try unfold qP at hf0
 refine yO true [(2, none)] z05 4 Tryz.func40 fun E hE => ?_
 obtain rfl := zc hf0
 exact yE X0 hC hE []
noncomputable def qe : Code := (Tryz.f68.body).getD .skip
abbrev Zl (cv0 : Value) (cv1 : Value) (cv2 : Value) (Row_e : List za) (x1 : List Bool) (x2_Inputs : Int) (x2_Outputs : Int) (x2_Rows : List (List za)) (x24 : Int) : List (Nat × T) := [(1, .own (.box (eOs 1 true eB x1))), (2, .own (.box (.agg [I x2_Inputs, I x2_Outputs, eSl 1 false vN x2_Rows]))), (3, .own (.box (.fn 68 [.atom cv0, .atom cv1, .atom cv2]))), (22, .d (eSl 2 false F9_ Row_e)), (23, .d (I ((Row_e.length : Nat) : Int))), (24, .d (I x24))]
theorem YQ {ctr : Ctr} (hC : zu Tryz.prog ctr) (cv0 : Value) (cv1 : Value) (cv2 : Value) : ∀ (fu : Nat) (s_ : Int) (y0 : List Bool) (y1 : z6) (r0 : List Bool × z6), wH fu s_ y0 y1 = some r0 → u3 Tryz.prog (.fn 68 [.atom cv0, .atom cv1, .atom cv2]) [I s_] ([cv0, cv1, cv2].zip [.box (eOs 1 true eB y0), .box (.agg [I y1.Inputs, I y1.Outputs, eSl 1 false vN y1.Rows]), .box (.fn 68 [.atom cv0, .atom cv1, .atom cv2])]) (.tup []) [.box (eOs 1 true eB r0.1), .box (.agg [I r0.2.Inputs, I r0.2.Outputs, eSl 1 false vN r0.2.Rows]), .box (.fn 68 [.atom cv0, .atom cv1, .atom cv2])] := by
 intro fu
 induction fu with
 | zero => intro s_ y0 y1 r0 hf0; exact nomatch (show none = some r0 from hf0)
 | succ fu ih =>
  intro s_ y0 y1 r0 hf0
  replace hf0 : vD (wH fu) s_ y0 y1 = some r0 := hf0
  generalize wH fu = rc_ at ih hf0
  refine Q6 (tt := xr) (nt := 33) (body := qe) [1,2,3] zz Tryz.func68 rfl (by kernel_rfl) rfl rfl (by show (4 : Nat) ≤ 33; decide) (by decide) rfl rfl (fun E hE => ?_) rfl
  unfold vD at hf0
  rcases zO hf0 with ⟨c0, hf0⟩ | ⟨c0, hf0⟩
  ·obtain rfl := zc hf0
   exact yF X0 hC .ret [(1, .own (.box (eOs 1 true eB y0))), (2, .own (.box (.agg [I y1.Inputs, I y1.Outputs, eSl 1 false vN y1.Rows]))), (3, .own (.box (.fn 68 [.atom cv0, .atom cv1, .atom cv2])))] (rpN 5 (Hq c0) [qT]) fun st0 h0 => hE _ st0 (.inr rfl) (jG h0 ⟨⟨rfl, rfl⟩, ⟨⟨rfl, rfl⟩, ⟨⟨rfl, rfl⟩, trivial⟩⟩⟩)
  ·obtain ⟨y_e, h0, hf0⟩ := zf hf0
   let Z0 : List HO := [Hq c0, Hq c0, Hq c0, Hn (iL eB h0), Hq c0, Hs (iM eB h0), Hq c0]
   rcases zO hf0 with ⟨c1, hf0⟩ | ⟨c1, hf0⟩
   ·obtain rfl := zc hf0
    exact yF X0 hC .ret [(1, .own (.box (eOs 1 true eB y0))), (2, .own (.box (.agg [I y1.Inputs, I y1.Outputs, eSl 1 false vN y1.Rows]))), (3, .own (.box (.fn 68 [.atom cv0, .atom cv1, .atom cv2])))] (Z0 ++ [Hq c1]) fun st0 h0 => hE _ st0 (.inr rfl) (jG h0 ⟨⟨rfl, rfl⟩, ⟨⟨rfl, rfl⟩, ⟨⟨rfl, rfl⟩, trivial⟩⟩⟩)
   ·obtain ⟨y_e1, h1, hf0⟩ := zf hf0
    obtain ⟨Row_e, h2, hf0⟩ := zf hf0
    obtain ⟨t1, ht1, hf0⟩ := zf hf0
    refine yL X0 hC qe [1,1,1,0] [] (fun s => v6 rc_ Row_e s.1 s.2.1 s.2.2.1 s.2.2.2.1 s.2.2.2.2) (fun x => Zl cv0 cv1 cv2 Row_e x.1 x.2.1 x.2.2.1 x.2.2.2.1 x.2.2.2.2) ((y0.set s_.toNat true), y1.Inputs, y1.Outputs, y1.Rows, 0) ht1  (Z0 ++ [Hq c1, Hn (iL eB h1), Hs (iM eB h1), Hs (iM eB h1), Hl (sM eB y0 s_ true), Hi vN h2, Ha (lnM F9_ Row_e)]) ?_
    rintro ⟨x1, x2_Inputs, x2_Outputs, x2_Rows, x24⟩ m1 lr1 hf1 hl1 J1 hJ1
    try unfold v6 at hf1
    rcases zO hf1 with ⟨c2, hf1⟩ | ⟨c2, hf1⟩
    ·obtain ⟨Row_e_e, h3, hf1⟩ := zf hf1
     obtain ⟨r_, h4, hf1⟩ := zf hf1
     obtain rfl := zc hf1
     exact yB ((wV (P := Tryz.prog) xr [1,2,3] (ih _ _ _ _ h4) 31).or X0) hC hJ1 (r_.1, r_.2.Inputs, r_.2.Outputs, r_.2.Rows, w64 (x24 + 1)) hl1 [Hq c2, Hi F9_ h3, Hn (Zx (f := .fn 68 [.atom cv0, .atom cv1, .atom cv2]) (xs := [(eI .i64) Row_e_e.To]) (ls := [(cv0, .box (eOs 1 true eB x1)), (cv1, .box (.agg [I x2_Inputs, I x2_Outputs, eSl 1 false vN x2_Rows])), (cv2, .box (.fn 68 [.atom cv0, .atom cv1, .atom cv2]))]) (r := .tup []) (ys := [.box (eOs 1 true eB r_.1), .box (.agg [I r_.2.Inputs, I r_.2.Outputs, eSl 1 false vN r_.2.Rows]), .box (.fn 68 [.atom cv0, .atom cv1, .atom cv2])]) [(eI .i64) Row_e_e.To] (show z0c [(eI .i64) Row_e_e.To] [(eI .i64) Row_e_e.To] from inferInstance))]
    ·obtain rfl := zc hf1
     obtain rfl := hl1
     obtain rfl := zc hf0
     exact yF X0 hC .normal [(1, .own (.box (eOs 1 true eB x1))), (2, .own (.box (.agg [I x2_Inputs, I x2_Outputs, eSl 1 false vN x2_Rows]))), (3, .own (.box (.fn 68 [.atom cv0, .atom cv1, .atom cv2])))] [Hq c2] fun st0 h0 => hE _ st0 (.inl rfl) (jG h0 ⟨⟨rfl, rfl⟩, ⟨⟨rfl, rfl⟩, ⟨⟨rfl, rfl⟩, trivial⟩⟩⟩)
noncomputable def wC : Code := (Tryz.f100.body).getD .skip
noncomputable def wt : zR := spF (α := List Bool × Bool) (ρ := Int) 100 (fun x => [(eSl 1 false eB) x.1, eB x.2]) (fun r => (eI .i64) r) (fun x => vC x.1 x.2) [] (X3)
abbrev kn : List (Nat × T) := []
abbrev km (s_ : List Bool) (v_ : Bool) (x8 : Int) : List (Nat × T) := [(0, .d (eSl 1 false eB s_)), (1, .d (B v_)), (7, .d (I ((s_.length : Nat) : Int))), (8, .d (I x8))]
theorem ZO {ctr : Ctr} (hC : zu Tryz.prog ctr) : wt.Ok Tryz.prog := by
 refine zy ?_
 rintro ⟨s_, v_⟩ r0 hf0
 try unfold vC at hf0
 refine yO true [(4, none)] wC 19 Tryz.func100 fun E hE => ?_
 refine yJ X0 hC wC [1] [] [] (fun z : Unit => ww = some r0) (fun z => kn) [(0, .d (eSl 1 false eB s_)), (1, .d (B v_))] [Hh (.cut 1)] ?_ fun J1 hJ1 => ?_
 ·rintro ⟨⟩ hf0
  unfold ww at hf0
  obtain rfl := zc hf0
  exact yE X0 hC hE []
 ·obtain ⟨t2, ht2, hf0⟩ := zf hf0
  refine yL X0 hC wC [1,2,1,0] [J1] (fun s => wv s_ v_ s) (fun x => km s_ v_ x) 0 ht2  [Ha (lnM eB s_)] ?_
  rintro x8 m2 lr1 hf1 hl1 J2 hJ2
  try unfold wv at hf1
  rcases zO hf1 with ⟨c0, hf1⟩ | ⟨c0, hf1⟩
  ·obtain ⟨s__e, h0, hf1⟩ := zf hf1
   rcases zO hf1 with ⟨c1, hf1⟩ | ⟨c1, hf1⟩
   ·obtain rfl := zc hf1
    obtain rfl := hl1
    obtain rfl := zc hf0
    exact yE X0 hC hE [Hq c0, Hi eB h0, Hq c1]
   ·obtain rfl := zc hf1
    exact yB X0 hC hJ2 (w64 (x8 + 1)) hl1 [Hq c0, Hi eB h0, Hq c1]
  ·obtain rfl := zc hf1
   obtain rfl := hl1
   exact yB X0 hC hJ1 () hf0 [Hq c0]
noncomputable def kl : Code := (Tryz.f69.body).getD .skip
noncomputable def xK : zR := spF (α := List Bool × Bool) (ρ := Bool) 69 (fun x => [(eSl 1 false eB) x.1, eB x.2]) (fun r => eB r) (fun x => wx x.1 x.2) [] (X3)
theorem kz {ctr : Ctr} (hC : zu Tryz.prog ctr) (h_slices_Index_bool_bool : ctr.Has wt) : xK.Ok Tryz.prog := by
 refine zy ?_
 rintro ⟨s_, v_⟩ r0 hf0
 try unfold wx at hf0
 refine yO true [(4, none)] kl 9 Tryz.func69 fun E hE => ?_
 obtain ⟨r_, h0, hf0⟩ := zf hf0
 obtain rfl := zc hf0
 exact yE X0 hC hE [Hc h_slices_Index_bool_bool (x := (s_, v_)) h0 (loC (eSl 1 false eB) s_ <| loC eB v_ <| loN)]
noncomputable def jq : Code := (Tryz.f33.body).getD .skip
noncomputable def vS : zR := spF (α := z6) (ρ := Bool × Int) 33 (fun x => [x4 x]) (fun r => .tup [eB r.1, (eI .i64) r.2]) (fun x => uV x) [] (Ux)
theorem XN {ctr : Ctr} (hC : zu Tryz.prog ctr) (h_machines_Check : ctr.Has wL) (h_slices_Contains_bool_bool : ctr.Has xK) : vS.Ok Tryz.prog := by
 refine zy ?_
 rintro m_ r0 hf0
 try unfold uV at hf0
 refine yO false [(2, none), (3, none)] jq 22 Tryz.func33 fun E hE => ?_
 obtain ⟨r_, h0, hf0⟩ := zf hf0
 let Z0 : List HO := [Hc h_machines_Check (x := m_) h0 (loC x4 m_ <| loN)]
 rcases zO hf0 with ⟨c0, hf0⟩ | ⟨c0, hf0⟩
 ·obtain rfl := zc hf0
  exact yE X0 hC hE (Z0 ++ [Hq c0])
 ·obtain ⟨g0, hf0⟩ := gdE hf0
  refine yA X0 hC jq [1,1,1,1] [] [(1, .own (.box (x4 m_))), (5, .own (.box (eOs 1 true eB (List.replicate ((m_.Rows.length : Nat) : Int).toNat false)))), (6, .own (.box (.atom .nilFunc)))] (Z0 ++ [Hq c0, Ha (lnM vN m_.Rows), Hn (rL g0), Ha (rM 1 eB ((m_.Rows.length : Nat) : Int) false), Hh (.cut 1)]) ?_
  refine z5f (by kernel_rfl) 5 fun pv5 => ?_
  refine z5f (by kernel_rfl) 1 fun pv1 => ?_
  refine z5f (by kernel_rfl) 6 fun pv6 => ?_
  obtain ⟨r_1, h1, hf0⟩ := zf hf0
  obtain ⟨r_2, h2, hf0⟩ := zf hf0
  obtain rfl := zc hf0
  exact yE ((wV (P := Tryz.prog) xr [5,1,6] (YQ hC pv5 pv1 pv6 Y7 _ _ _ _ h1) 18).or ((xMk Tryz.prog xr).or X0)) hC hE [Hn (Zx (f := .fn 68 [.atom pv5, .atom pv1, .atom pv6]) (xs := [(eI .i64) 0]) (ls := [(pv5, .box (eOs 1 true eB (List.replicate ((m_.Rows.length : Nat) : Int).toNat false))), (pv1, .box (.agg [I m_.Inputs, I m_.Outputs, eSl 1 false vN m_.Rows])), (pv6, .box (.fn 68 [.atom pv5, .atom pv1, .atom pv6]))]) (r := .tup []) (ys := [.box (eOs 1 true eB r_1.1), .box (.agg [I r_1.2.Inputs, I r_1.2.Outputs, eSl 1 false vN r_1.2.Rows]), .box (.fn 68 [.atom pv5, .atom pv1, .atom pv6])]) [(eI .i64) 0] (show z0c [(eI .i64) 0] [(eI .i64) 0] from inferInstance)), Hg (KT h_slices_Contains_bool_bool), Hm (shM eB eB r_1.1), Hs (KU h_slices_Contains_bool_bool (x := (r_1.1, false)) h2 (loC (eSl 1 true eB) r_1.1 <| loC eB false <| loN))]
noncomputable def VG : Code := (Tryz.f101.body).getD .skip
noncomputable def qK : zR := spF (α := z6 × Int) (ρ := z6 × Int) 101 (fun x => [x4 x.1, (eI .i64) x.2]) (fun r => (zeZ 116 z75 (eSp (eI .i64))) r) (fun x => Zt x.1 x.2) [] (X3)
theorem Uq {ctr : Ctr} (hC : zu Tryz.prog ctr) : qK.Ok Tryz.prog := by
 refine zy ?_
 rintro ⟨m_, from_⟩ r0 hf0
 try unfold Zt at hf0
 refine yO true [(4, none)] VG 6 Tryz.func101 fun E hE => ?_
 obtain rfl := zc hf0
 exact yEx X0 hC hE [] (.fn 116 [.sptr (.agg [I m_.Inputs, I m_.Outputs, eSl 1 false vN m_.Rows]), .sptr (I from_)]) (show LeV (.fn 116 [.sptr (.agg [I m_.Inputs, I m_.Outputs, eSl 1 false vN m_.Rows]), .sptr (I from_)]) (.fn 116 [.sptr (.agg [I (((m_, from_).1).Inputs), I (((m_, from_).1).Outputs), eSl 1 false vN (((m_, from_).1).Rows)]), .sptr (I ((m_, from_).2))]) from inferInstance)
noncomputable def yq : Code := (Tryz.f116.body).getD .skip
abbrev X2 {σ : Type} (x0 : z6) (YY : σ → JQ) (queue_e : zg) (yr : σ × Bool) (Row_e : List za) (x38 : Int) (seen2 : List Bool) (queue2 : List zg) : List (Nat × T) := [(0, .own (.opq (YY yr.1).q)), (1, .d (.sptr (x4 x0))), (4, .own (eOs 1 true eB seen2)), (5, .own (eDq 3 uM queue2)), (6, .own (.box (uM queue_e))), (36, .d (eSl 2 false F9_ Row_e)), (37, .d (I ((Row_e.length : Nat) : Int))), (38, .d (I x38))]
abbrev YZ {σ : Type} (x0 : z6) (YY : σ → JQ) (queue_e : zg) (yr : σ × Bool) (Row_e : List za) (seen1 : List Bool) (queue1 : List zg) (x38 : Int) : List (Nat × T) := [(0, .own (.opq (YY yr.1).q)), (1, .d (.sptr (x4 x0))), (4, .own (eOs 1 true eB seen1)), (5, .own (eDq 3 uM queue1)), (6, .own (.box (uM queue_e))), (36, .d (eSl 2 false F9_ Row_e)), (37, .d (I ((Row_e.length : Nat) : Int))), (38, .d (I x38))]
abbrev X1 {σ : Type} (x0 : z6) (YY : σ → JQ) (sg1 : σ) (seen : List Bool) (queue : List zg) : List (Nat × T) := [(0, .own (.opq (YY sg1).q)), (1, .d (.sptr (x4 x0))), (4, .own (eOs 1 true eB seen)), (5, .own (eDq 3 uM queue))]
theorem WB {ctr : Ctr} (hC : zu Tryz.prog ctr) (x0 : z6) (x1 : Int) : z74 Tryz.prog (.fn 116 [.sptr (.agg [I x0.Inputs, I x0.Outputs, eSl 1 false vN x0.Rows]), .sptr (I x1)]) (fun (x : zg) (_ : Bool) (_ : Value) => [uM x]) (@uo x0 x1) := by
 refine z8K (tt := xr) (nt := 68) (body := yq) zz Tryz.func116 rfl (by kernel_rfl) rfl rfl (by show (3 : Nat) ≤ 68; decide) ?_
 intro σ yv YY yy hy sg r0 hf0 E hE
 unfold uo at hf0
 obtain ⟨g0, hf0⟩ := gdE hf0
 obtain ⟨u_e, h0, hf0⟩ := zf hf0
 obtain ⟨t1, ht1, hf0⟩ := zf hf0
 refine yLx X0 hC yq [1,1,1,0] [] (fun s => uy x0 yy s.1 s.2.1 s.2.2) (fun x => X1 x0 YY x.1 x.2.1 x.2.2) (sg, ((List.replicate ((x0.Rows.length : Nat) : Int).toNat false).set x1.toNat true), ([(zg.mk x1 (-1) (-1))] : List zg)) ht1 [(0, .own (.opq (YY sg).q)), (1, .d (.sptr (x4 x0))), (4, .own (eOs 1 true eB ((List.replicate ((x0.Rows.length : Nat) : Int).toNat false).set x1.toNat true))), (5, .own (eOs 3 true uM ([(zg.mk x1 (-1) (-1))])))] inferInstance [Ha (lnM vN x0.Rows), Hn (rL g0), Ha (rM 1 eB ((x0.Rows.length : Nat) : Int) false), Hn (iL eB h0), Hs (iM eB h0), Hs (iM eB h0), Hl (sM eB (List.replicate ((x0.Rows.length : Nat) : Int).toNat false) x1 true)] ?_
 rintro ⟨sg1, seen, queue⟩ m1 lr1 hf1 hl1 J1 hJ1
 try unfold uy at hf1
 let Z0 : List HO := [Hn (rfl : eDq 3 uM queue = A.opq (QF 3 (queue.map uM)).q), Ha (lnM uM queue)]
 rcases zO hf1 with ⟨c0, hf1⟩ | ⟨c0, hf1⟩
 ·refine yA ((xQl zz 20 149 3 (queue.map uM) (by kernel_rfl)).or X0) hC yq [1,1,1,0,0,1,0] [J1] [(0, .own (.opq (YY sg1).q)), (1, .d (.sptr (x4 x0))), (4, .own (eOs 1 true eB seen)), (5, .own (eDq 3 uM queue))] (Z0 ++ [Hq c0, Hh (.cut 0)]) ?_
  obtain ⟨queue_e, h1, hf1⟩ := zf hf1
  refine z1j (by kernel_rfl) (x := (sub [1,1,1,0,0,1,0,0] yq)) (y := (sub [1,1,1,0,0,1,0,1] yq)) 5 (fun st1 => Own.canon [0,1,4,5,6] st1 = ofL [(0, .own (.opq (YY sg1).q)), (1, .d (.sptr (x4 x0))), (4, .own (eOs 1 true eB seen)), (5, .own (eDq 3 uM queue)), (6, .own (.box (uM queue_e)))]) (fun pv5 => yF ((xQd zz 24 3 5 pv5 (0 : Int) (queue.map uM) (uM queue_e)).or ((xQi zz 23 3 5 pv5 (queue.map uM)).or X0)) hC .normal [(0, .own (.opq (YY sg1).q)), (1, .d (.sptr (x4 x0))), (4, .own (eOs 1 true eB seen)), (5, .own (eDq 3 uM queue)), (6, .own (.box (uM queue_e)))] [Hn (⟨rfl, rfl, rfl, rfl, i0 h1, (iL uM h1).2⟩ : T.als 5 [] 0 0 = T.als 5 [] 0 0 ∧ some pv5 = some pv5 ∧ T.own (eDq 3 uM queue) = T.own (eDq 3 uM queue) ∧ some 3 = some 3 ∧ (0 : Int) ≤ 0 ∧ (0 : Int).toNat < (queue.map uM).length), Hn (⟨rfl, rfl, rfl, iM uM h1, rfl, z1q.isD queue_e⟩ : T.d (.atom (z3j 3 pv5 (0 : Int))) = T.d (.atom (z3j 3 pv5 (0 : Int))) ∧ some pv5 = some pv5 ∧ T.own (eDq 3 uM queue) = T.own (eDq 3 uM queue) ∧ (queue.map uM)[(0 : Int).toNat]? = some (uM queue_e) ∧ true = true ∧ (uM queue_e).isD = true)] fun st0 h0 => ⟨rfl, h0⟩) fun st1 h1 => z6U h1 ?_
  obtain ⟨g1, hf1⟩ := gdE hf1
  obtain ⟨yr, h2, hf1⟩ := zf hf1
  let Z1 : List HO := [Hn (rfl : eDq 3 uM queue = A.opq (QF 3 (queue.map uM)).q), Hn (⟨g1.1, cuB uM g1⟩ : (0 : Int) ≤ 1 ∧ (1 : Int).toNat ≤ (queue.map uM).length), Hn (drM uM queue (1 : Int).toNat), Hn (z7Z (yv := yv) (Y := YY) (enc := (fun (x : zg) (_ : Bool) (_ : Value) => [uM x])) (s := sg1) (x := queue_e) (s' := yr.1) (b := yr.2) (v := .nilFunc) [uM queue_e] (show z0c [uM queue_e] [uM queue_e] from inferInstance))]
  rcases zO hf1 with ⟨c1, hf1⟩ | ⟨c1, hf1⟩
  ·obtain rfl := zc hf1
   obtain rfl := hl1
   obtain rfl := zc hf0
   exact yF ((z78 (P := Tryz.prog) xr hy 29 (s := sg1) (x := queue_e) (s' := yr.1) (b := yr.2) .nilFunc h2).or ((xQs zz 26 3 (queue.map uM) ((queue.drop (1 : Int).toNat).map uM)).or X0)) hC .ret [(0, .own (.opq (YY yr.1).q))] (Z1 ++ [Hq c1]) fun st0 h0 => hE _ st0 (.inr rfl) h0
  ·obtain ⟨Row_e, h3, hf1⟩ := zf hf1
   obtain ⟨t2, ht2, hf1⟩ := zf hf1
   refine yL ((z78 (P := Tryz.prog) xr hy 29 (s := sg1) (x := queue_e) (s' := yr.1) (b := yr.2) .nilFunc h2).or ((xQs zz 26 3 (queue.map uM) ((queue.drop (1 : Int).toNat).map uM)).or X0)) hC yq [1,1,1,0,0,1,0,1,1,1,1,0] [J1] (fun s => ux queue_e yr Row_e s.1 s.2.1 s.2.2) (fun x => YZ x0 YY queue_e yr Row_e x.1 x.2.1 x.2.2) (seen, (queue.drop (1 : Int).toNat), 0) ht2  (Z1 ++ [Hq c1, Hi vN h3, Ha (lnM F9_ Row_e)]) ?_
   rintro ⟨seen1, queue1, x38⟩ m2 lr2 hf2 hl2 J2 hJ2
   try unfold ux at hf2
   rcases zO hf2 with ⟨c2, hf2⟩ | ⟨c2, hf2⟩
   ·refine yJ X0 hC yq [1,1,1,0,0,1,0,1,1,1,1,0,0,1,1] [J1, J2] [0,1,4,5,6,36,37,38] (fun z : List Bool × List zg => xS x38 z.1 z.2 = some lr2) (fun z => X2 x0 YY queue_e yr Row_e x38 z.1 z.2) [(0, .own (.opq (YY yr.1).q)), (1, .d (.sptr (x4 x0))), (4, .own (eOs 1 true eB seen1)), (5, .own (eDq 3 uM queue1)), (6, .own (.box (uM queue_e))), (36, .d (eSl 2 false F9_ Row_e)), (37, .d (I ((Row_e.length : Nat) : Int))), (38, .d (I x38))] [Hq c2, Hh (.cut 0)] ?_ fun J3 hJ3 => ?_
    ·rintro ⟨seen2, queue2⟩ hf2
     unfold xS at hf2
     obtain rfl := zc hf2
     exact yB X0 hC hJ2 (seen2, queue2, w64 (x38 + 1)) hl2 []
    ·obtain ⟨Row_e_e, h4, hf2⟩ := zf hf2
     let Z2 : List HO := [Hi F9_ h4]
     rcases zO hf2 with ⟨c3, hf2⟩ | ⟨c3, hf2⟩
     ·obtain ⟨seen_e, h5, hf2⟩ := zf hf2
      let Z3 : List HO := (Z2 ++ (rpN 4 (Hq c3) [Hn (iL eB h5), Hq c3, Hs (iM eB h5), Hq c3, Hq c3]))
      rcases zO hf2 with ⟨c4, hf2⟩ | ⟨c4, hf2⟩
      ·obtain ⟨seen_e1, h6, hf2⟩ := zf hf2
       obtain ⟨g2, hf2⟩ := gdE hf2
       exact yB ((xQa zz 66 3 (queue1.map uM) ((queue1 ++ ([(zg.mk Row_e_e.To queue_e.state_ x38)] : List zg)).map uM)).or X0) hC hJ3 ((seen1.set Row_e_e.To.toNat true), (queue1 ++ ([(zg.mk Row_e_e.To queue_e.state_ x38)] : List zg))) hf2 (Z3 ++ [Hq c4, Hn (iL eB h6), Hs (iM eB h6), Hs (iM eB h6), Hl (sM eB seen1 Row_e_e.To true), Hn (⟨rfl, dM uM ([(zg.mk Row_e_e.To queue_e.state_ x38)] : List zg), rfl⟩ : 3 = 3 ∧ A.areD (([(zg.mk Row_e_e.To queue_e.state_ x38)] : List zg).map uM) = true ∧ true = true), Hn (⟨rfl, aL uM uM g2, dM uM queue1⟩ : eDq 3 uM queue1 = A.opq (QF 3 (queue1.map uM)).q ∧ (queue1.map uM).length + (([(zg.mk Row_e_e.To queue_e.state_ x38)] : List zg).map uM).length ≤ lim ∧ A.areD (queue1.map uM) = true), Hn (aM uM queue1 ([(zg.mk Row_e_e.To queue_e.state_ x38)] : List zg))])
      ·exact yB X0 hC hJ3 (seen1, queue1) hf2 (Z3 ++ [Hq c4])
     ·exact yB X0 hC hJ3 (seen1, queue1) hf2 (Z2 ++ (rpN 7 (Hq c3) [qF]))
   ·obtain rfl := zc hf2
    obtain rfl := hl2
    obtain rfl := zc hf1
    exact yB X0 hC hJ1 (yr.1, seen1, queue1) hl1 [Hq c2]
 ·obtain rfl := zc hf1
  obtain rfl := hl1
  obtain rfl := zc hf0
  exact yF ((xQl zz 20 149 3 (queue.map uM) (by kernel_rfl)).or X0) hC .normal [(0, .own (.opq (YY sg1).q))] (Z0 ++ [Hq c0]) fun st0 h0 => hE _ st0 (.inl rfl) h0
noncomputable def YF : Code := (Tryz.f92.body).getD .skip
noncomputable def xL : zR := spF (α := List Int) (ρ := List Int) 92 (fun x => [F5_ x]) (fun r => F4_ r) (fun x => wG x) [] (Ux)
theorem YP {ctr : Ctr} (hC : zu Tryz.prog ctr) : xL.Ok Tryz.prog := by
 refine zy ?_
 rintro s_ r0 hf0
 try unfold wG at hf0
 refine yO true [(2, none)] YF 8 Tryz.func92 fun E hE => ?_
 refine z5e rfl 0 (sz := 1) (t := false) (es := s_.map (eI .i64)) (by kernel_rfl) fun pv0 hv0 hn => ?_
 rcases hn with ⟨hn0, he0⟩ | hn0
 ·obtain ⟨_, hf0⟩ := gdE hf0
  rw [show s_ = [] from List.map_eq_nil_iff.1 he0] at hf0
  obtain rfl := zc hf0
  exact yEx ((zc3 zz 4 77 (by kernel_rfl) hn0).or ((xMv Tryz.prog 3 0 pv0 hv0).or X0)) hC hE [Hn (rfl : some pv0 = some pv0), Hn (⟨rfl, rfl⟩ : T.d (.atom pv0) = T.d (.atom pv0) ∧ T.d (.atom (.slice none 0 0)) = T.d (.atom (.slice none 0 0))), qT] (eOs 1 true (eI .i64) []) (show LeV (eOs 1 true (eI .i64) []) (eOs 1 false (eI .i64) ([] : List Int)) from inferInstance)
 ·obtain ⟨g0, hf0⟩ := gdE hf0
  obtain rfl := zc hf0
  exact yE ((zc3 zz 4 77 (by kernel_rfl) hn0).or ((xMv Tryz.prog 3 0 pv0 hv0).or X0)) hC hE [Hn (rfl : some pv0 = some pv0), Hn (⟨rfl, rfl⟩ : T.d (.atom pv0) = T.d (.atom pv0) ∧ T.d (.atom (.slice none 0 0)) = T.d (.atom (.slice none 0 0))), qF, Hn (dM (eI .i64) s_), Hn (aL (eI .i64) (eI .i64) g0), Hl (aM0 (eI .i64) s_)]
noncomputable def YU : Code := (Tryz.f75.body).getD .skip
noncomputable def yl : zR := spF (α := List Int) (ρ := List Int) 75 (fun x => [F5_ x]) (fun r => F1_ r) (fun x => x5 x) [] (Ux)
theorem X5 {ctr : Ctr} (hC : zu Tryz.prog ctr) : yl.Ok Tryz.prog := by
 refine zy ?_
 rintro s_ r0 hf0
 try unfold x5 at hf0
 refine yO true [(2, none)] YU 9 Tryz.func75 fun E hE => ?_
 obtain ⟨g0, hf0⟩ := gdE hf0
 obtain rfl := zc hf0
 exact yE X0 hC hE [Ha (lnM (eI .i64) s_), Ha (lnM (eI .i64) s_), Hn (slB g0), Hn (slC g0), Hn (zcu (eI .i64) g0), Ha (zey 1 (eI .i64) s_ 0 ((s_.length : Nat) : Int).toNat)]
noncomputable def vw : Code := (Tryz.f70.body).getD .skip
noncomputable def Zz : zR := spF (α := z6 × Int) (ρ := List (List Int) × List Bool) 70 (fun x => [x4 x.1, (eI .i64) x.2]) (fun r => .tup [W6 r.1, (eSl 1 true eB) r.2]) (fun x => W7 x.1 x.2) [] (X3)
abbrev VI (l_ : List (List Int)) (is : List Bool) : List (Nat × T) := [(6, .own (.box (eOs 1 true F1_ l_))), (7, .own (.box (eOs 1 true eB is)))]
abbrev qY (r_ : z6 × Int) (l_1 : List (List Int)) (is1 : List Bool) : List (Nat × T) := [(6, .own (.box (eOs 1 true F1_ l_1))), (7, .own (.box (eOs 1 true eB is1))), (19, .d (.fn 116 [.sptr (.agg [I r_.1.Inputs, I r_.1.Outputs, eSl 1 false vN r_.1.Rows]), .sptr (I r_.2)]))]
theorem Kq {ctr : Ctr} (hC : zu Tryz.prog ctr) (h_walks_arrivals : ctr.Has qK) (h_slices_Clone_int_int : ctr.Has xL) (h_slices_Clip_int_int : ctr.Has yl) : Zz.Ok Tryz.prog := by
 refine zy ?_
 rintro ⟨m_, from_⟩ r0 hf0
 try unfold W7 at hf0
 refine yO false [(4, none), (5, none)] vw 45 Tryz.func70 fun E hE => ?_
 obtain ⟨g0, hf0⟩ := gdE hf0
 obtain ⟨g1, hf0⟩ := gdE hf0
 refine yJ ((xMs zz 12 77).or X0) hC vw [1,1] [] [6,7] (fun z : List (List Int) × List Bool => Zs z.1 z.2 = some r0) (fun z => VI z.1 z.2) [(1, .d (I from_)), (2, .own (.box (x4 m_))), (6, .own (.box (eOs 1 true F1_ (List.replicate ((m_.Rows.length : Nat) : Int).toNat ([] : List Int))))), (7, .own (.box (eOs 1 true eB (List.replicate ((m_.Rows.length : Nat) : Int).toNat false))))] [Ha (lnM vN m_.Rows), Hn (rL g0), Ha (rM 1 F1_ ((m_.Rows.length : Nat) : Int) ([] : List Int)), Ha (lnM vN m_.Rows), Hn (rL g1), Ha (rM 1 eB ((m_.Rows.length : Nat) : Int) false), Hh (.cut 0)] ?_ fun J1 hJ1 => ?_
 ·rintro ⟨l_, is⟩ hf0
  unfold Zs at hf0
  obtain rfl := zc hf0
  exact yE X0 hC hE [Hm (shM F1_ F1_ l_), Hm (shM eB eB is)]
 ·obtain ⟨r_, h0, hf0⟩ := zf hf0
  obtain ⟨t2, ht2, hf0⟩ := zf hf0
  refine yAt X0 hC (sub [1,1,2,1,0] vw) (frs [1,1,2,1,0] [J1] vw []) [(6, .own (.box (eOs 1 true F1_ (List.replicate ((m_.Rows.length : Nat) : Int).toNat ([] : List Int))))), (7, .own (.box (eOs 1 true eB (List.replicate ((m_.Rows.length : Nat) : Int).toNat false)))), (19, .d (.fn 116 [.sptr (.agg [I r_.1.Inputs, I r_.1.Outputs, eSl 1 false vN r_.1.Rows]), .sptr (I r_.2)]))] [Hc h_walks_arrivals (x := (m_, from_)) h0 (loC x4 m_ <| loC (eI .i64) from_ <| loN)] fun st0 h0 => ?_
  refine z98 (g := .tmp 19) (ps := [20]) (assign := (sub [1,1,2,1,0,0] vw)) (body := (sub [1,1,2,1,0,1] vw)) (K := 116) (caps := [.sptr (.agg [I r_.1.Inputs, I r_.1.Outputs, eSl 1 false vN r_.1.Rows]), .sptr (I r_.2)]) (by kernel_rfl) [6,7,19] (fun s => qY r_ s.1 s.2) (fun z => nomatch z) (fun z => nomatch z) ((fun (x : zg) (_ : Bool) (_ : Value) => [uM x])) (F := @uo r_.1 r_.2) (fun s x => qZ s.1 s.2 x) ((List.replicate ((m_.Rows.length : Nat) : Int).toNat ([] : List Int)), (List.replicate ((m_.Rows.length : Nat) : Int).toNat false)) t2 _ h0 inferInstance (by kernel_rfl) (by decide) (fun _ => rfl) (by rintro ⟨⟩) (by kernel_rfl) (fun _ _ _ => rfl) (WB hC r_.1 r_.2) ht2 ?_ ?_
  ·rintro tv2 ⟨l_1, is1⟩ x20 vr lr1 hf1
   replace hf1 : qZ l_1 is1 x20 = some lr1 := hf1
   unfold qZ at hf1
   refine yF X0 hC .normal [(6, .own (.box (eOs 1 true F1_ l_1))), (7, .own (.box (eOs 1 true eB is1))), (8, .own (.box (uM x20))), (19, .d (.fn 116 [.sptr (.agg [I r_.1.Inputs, I r_.1.Outputs, eSl 1 false vN r_.1.Rows]), .sptr (I r_.2)]))] [] fun st0 h0 => ⟨rfl, z6U h0 ?_⟩
   obtain ⟨is_e, h1, hf1⟩ := zf hf1
   let Z0 : List HO := [Hn (iL eB h1), Hs (iM eB h1), Hs (iM eB h1), Hl (sM eB is1 x20.state_ true)]
   rcases zO hf1 with ⟨c0, hf1⟩ | ⟨c0, hf1⟩
   ·obtain ⟨l__e, h2, hf1⟩ := zf hf1
    obtain ⟨r_1, h3, hf1⟩ := zf hf1
    obtain ⟨g2, hf1⟩ := gdE hf1
    obtain ⟨r_2, h4, hf1⟩ := zf hf1
    obtain ⟨l__e1, h5, hf1⟩ := zf hf1
    obtain rfl := zc hf1
    exact yF X0 hC .normal (qY r_ (l_1.set x20.state_.toNat r_2) (is1.set x20.state_.toNat true)) (Z0 ++ [Hq c0, Hn (iL F1_ h2), Hs (iM F1_ h2), Hc h_slices_Clone_int_int (x := l__e) h3 (loC F1_ l__e <| loN), Hq (dM (eI .i64) ([x20.input_] : List Int)), Hn (dM (eI .i64) ([x20.input_] : List Int)), Hn (aL (eI .i64) (eI .i64) g2), Hl (aM (eI .i64) r_1 ([x20.input_] : List Int)), Hg (KT h_slices_Clip_int_int), Hm (shM (eI .i64) (eI .i64) (r_1 ++ ([x20.input_] : List Int))), Hs (KU h_slices_Clip_int_int (x := (r_1 ++ ([x20.input_] : List Int))) h4 (loC F5_ (r_1 ++ ([x20.input_] : List Int)) <| loN)), Hm (shM (eI .i64) (eI .i64) (r_1 ++ ([x20.input_] : List Int))), Hn (iL F1_ h5), Hs (iM F1_ h5), Hs (iM F1_ h5), Hl (sM F1_ l_1 x20.state_ r_2)]) fun st0 h0 => ⟨rfl, _, h0, LeL.refl _⟩
   ·obtain rfl := zc hf1
    exact yF X0 hC .normal (qY r_ l_1 (is1.set x20.state_.toNat true)) (Z0 ++ [Hq c0]) fun st0 h0 => ⟨rfl, _, h0, LeL.refl _⟩
  ·rcases t2 with ⟨l_1, is1⟩ | z
   ·dsimp only at hf0
    exact z1k (by kernel_rfl) (hJ1 _ [(6, .own (.box (eOs 1 true F1_ l_1))), (7, .own (.box (eOs 1 true eB is1)))] (l_1, is1) hf0 (show Own.canon [6,7] _ = ofL _ by kernel_rfl) inferInstance)
   ·cases z
noncomputable def Jg : Code := (Tryz.f34.body).getD .skip
noncomputable def kH : zR := spF (α := z6) (ρ := List (List Int) × List Bool × Int) 34 (fun x => [x4 x]) (fun r => .tup [W6 r.1, (eSl 1 true eB) r.2.1, (eI .i64) r.2.2]) (fun x => X4 x) [] (Ux)
theorem JE {ctr : Ctr} (hC : zu Tryz.prog ctr) (h_machines_Check : ctr.Has wL) (h_walks_paths : ctr.Has Zz) : kH.Ok Tryz.prog := by
 refine zy ?_
 rintro m_ r0 hf0
 try unfold X4 at hf0
 refine yO false [(2, none), (3, none), (4, none)] Jg 20 Tryz.func34 fun E hE => ?_
 obtain ⟨r_, h0, hf0⟩ := zf hf0
 let Z0 : List HO := [Hc h_machines_Check (x := m_) h0 (loC x4 m_ <| loN)]
 rcases zO hf0 with ⟨c0, hf0⟩ | ⟨c0, hf0⟩
 ·obtain rfl := zc hf0
  exact yEx X0 hC hE (Z0 ++ [Hq c0, Hm (shM F5_ F5_ []), Hm (shM eB eB [])]) (.tup [eSl 1 true F1_ [], eSl 1 true eB [], I r_]) (show LeV (.tup [eSl 1 true F1_ [], eSl 1 true eB [], I r_]) (.tup [eSl 1 true F1_ ([] : List (List Int)), eSl 1 true eB ([] : List Bool), I r_]) from inferInstance)
 ·obtain ⟨r_1, h1, hf0⟩ := zf hf0
  obtain rfl := zc hf0
  exact yE X0 hC hE (Z0 ++ [Hq c0, Hc h_walks_paths (x := (m_, 0)) h1 (loC x4 m_ <| loC (eI .i64) 0 <| loN)])
noncomputable def ZZ : Code := (Tryz.f103.body).getD .skip
noncomputable def wK : zR := spF (α := List (List Int)) (ρ := List (List Int)) 103 (fun x => [vJ x]) (fun r => z3t r) (fun x => vW x) [] (Ux)
theorem Y8 {ctr : Ctr} (hC : zu Tryz.prog ctr) : wK.Ok Tryz.prog := by
 refine zy ?_
 rintro s_ r0 hf0
 try unfold vW at hf0
 refine yO true [(2, none)] ZZ 8 Tryz.func103 fun E hE => ?_
 refine z5e rfl 0 (sz := 1) (t := false) (es := s_.map F5_) (by kernel_rfl) fun pv0 hv0 hn => ?_
 rcases hn with ⟨hn0, he0⟩ | hn0
 ·obtain ⟨_, hf0⟩ := gdE hf0
  rw [show s_ = [] from List.map_eq_nil_iff.1 he0] at hf0
  obtain rfl := zc hf0
  exact yEx ((zc3 zz 4 29 (by kernel_rfl) hn0).or ((xMv Tryz.prog 3 0 pv0 hv0).or X0)) hC hE [Hn (rfl : some pv0 = some pv0), Hn (⟨rfl, rfl⟩ : T.d (.atom pv0) = T.d (.atom pv0) ∧ T.d (.atom (.slice none 0 0)) = T.d (.atom (.slice none 0 0))), qT] (eOs 1 true F5_ []) (show LeV (eOs 1 true F5_ []) (eOs 1 false F5_ ([] : List (List Int))) from inferInstance)
 ·obtain ⟨g0, hf0⟩ := gdE hf0
  obtain rfl := zc hf0
  exact yE ((zc3 zz 4 29 (by kernel_rfl) hn0).or ((xMv Tryz.prog 3 0 pv0 hv0).or X0)) hC hE [Hn (rfl : some pv0 = some pv0), Hn (⟨rfl, rfl⟩ : T.d (.atom pv0) = T.d (.atom pv0) ∧ T.d (.atom (.slice none 0 0)) = T.d (.atom (.slice none 0 0))), qF, Hn (dM F5_ s_), Hn (aL F5_ F5_ g0), Hl (aM0 F5_ s_)]
noncomputable def VH : Code := (Tryz.f107.body).getD .skip
noncomputable def qL : zR := spF (α := List Int × List Int) (ρ := Bool) 107 (fun x => [F5_ x.1, F5_ x.2]) (fun r => eB r) (fun x => j4 x.1 x.2) [] (X3)
theorem Ur {ctr : Ctr} (hC : zu Tryz.prog ctr) (h_words_Compare : ctr.Has ve) : qL.Ok Tryz.prog := by
 refine zy ?_
 rintro ⟨a_, b_⟩ r0 hf0
 try unfold j4 at hf0
 refine yO true [(4, none)] VH 9 Tryz.func107 fun E hE => ?_
 obtain ⟨r_, h0, hf0⟩ := zf hf0
 obtain rfl := zc hf0
 exact yE X0 hC hE [Hc h_words_Compare (x := (a_, b_)) h0 (loC F5_ a_ <| loC F5_ b_ <| loN)]
noncomputable def zG : Code := (Tryz.f106.body).getD .skip
noncomputable def xc : zR := spF (α := List (List Int) × Unit) (ρ := List (List Int)) 106 (fun x => [z3t x.1, (YA 107) x.2]) (fun r => z3t r) (fun x => xW x.1 x.2) [true, false] (by
 rintro ⟨a0, a1⟩ ⟨b0, b1⟩ h
 have e0 := uw.inj (f := z3t) _ _ (List.cons.inj h).1
 replace h := (List.cons.inj h).2
 have e1 := uw.inj (f := (YA 107)) _ _ (List.cons.inj h).1
 subst e0 e1
 rfl)
abbrev qq (s_ : List (List Int)) : List (Nat × T) := [(0, .own (eOs 1 false F5_ s_))]
abbrev qp (s_ : List (List Int)) (k_ : Int) : List (Nat × T) := [(0, .own (eOs 1 false F5_ s_)), (1, .d (.fn 107 [])), (5, .d (I k_))]
abbrev qo (s_1 : List (List Int)) (k_1 : Int) : List (Nat × T) := [(0, .own (eOs 1 false F5_ s_1)), (5, .d (I k_1))]
abbrev qn (pv0 : Value) (k_ : Int) (k2 : Int) (s_3 : List (List Int)) (k_3 : Int) : List (Nat × T) := [(0, .own (eOs 1 false F5_ s_3)), (1, .d (.fn 107 [])), (5, .d (I k_3)), (6, .d (.atom (ZG 1 pv0 k_))), (7, .d (I k2))]
abbrev qj (pv0 : Value) (k_ : Int) (s_2 : List (List Int)) (k_2 : Int) (k2 : Int) : List (Nat × T) := [(0, .own (eOs 1 false F5_ s_2)), (1, .d (.fn 107 [])), (5, .d (I k_2)), (6, .d (.atom (ZG 1 pv0 k_))), (7, .d (I k2))]
abbrev qm (s_ : List (List Int)) (k_ : Int) : List (Nat × T) := [(0, .own (eOs 1 false F5_ s_)), (1, .d (.fn 107 [])), (5, .d (I k_))]
noncomputable def zj : XH Tryz.prog := ((zev zz 64).or X0)
theorem jw {ctr : Ctr} (hC : zu Tryz.prog ctr) (h_tries_sorted_1 : ctr.Has qL) : xc.Ok Tryz.prog := by
 refine zy ?_
 rintro ⟨s_, eq⟩ r0 hf0
 try unfold xW at hf0
 refine yO true [(4, none)] zG 66 Tryz.func106 fun E hE => ?_
 refine z07 (y := eOs 1 false F5_ s_) rfl 0 (by kernel_rfl) (by kernel_rfl) fun pv0 hv0 => ?_
 let Z0 : List HO := [Ha (lnM F5_ s_)]
 rcases zO hf0 with ⟨c0, hf0⟩ | ⟨c0, hf0⟩
 ·obtain rfl := zc hf0
  exact yE zj hC hE (Z0 ++ [Hq c0])
 ·refine yJ zj hC zG [1,1] [] [0] (fun z : Unit => xk s_ = some r0) (fun z => qq s_) [(0, .own (eOs 1 false F5_ s_)), (1, .d (.fn 107 []))] (Z0 ++ [Hq c0, Hh (.cut 0)]) ?_ fun J1 hJ1 => ?_
  ·rintro ⟨⟩ hf0
   unfold xk at hf0
   obtain rfl := zc hf0
   exact yE zj hC hE []
  ·obtain ⟨t2, ht2, hf0⟩ := zf hf0
   refine yL zj hC zG [1,1,2,1,0] [J1] (fun s => xh s_ s) (fun x => qm s_ x) 1 ht2  [] ?_
   rintro k_ m2 lr1 hf1 hl1 J2 hJ2
   try unfold xh at hf1
   let Z1 : List HO := [Ha (lnM F5_ s_)]
   rcases zO hf1 with ⟨c1, hf1⟩ | ⟨c1, hf1⟩
   ·refine yJ zj hC zG [1,1,2,1,0,0,1] [J1, J2] [0,1,5] (fun z : Unit => xj k_ = some lr1) (fun z => qp s_ k_) [(0, .own (eOs 1 false F5_ s_)), (1, .d (.fn 107 [])), (5, .d (I k_))] (Z1 ++ [Hq c1, Hh (.cut 0)]) ?_ fun J3 hJ3 => ?_
    ·rintro ⟨⟩ hf1
     unfold xj at hf1
     obtain rfl := zc hf1
     exact yB zj hC hJ2 (w64 (k_ + 1)) hl1 []
    ·obtain ⟨s__e, h0, hf1⟩ := zf hf1
     obtain ⟨s__e1, h1, hf1⟩ := zf hf1
     obtain ⟨r_, h2, hf1⟩ := zf hf1
     let Z2 : List HO := [Hn (iL F5_ h0), Hs (iM F5_ h0), Hn (iL F5_ h1), Hs (iM F5_ h1), Hc h_tries_sorted_1 (x := (s__e, s__e1)) h2 (loC F5_ s__e <| loC F5_ s__e1 <| loN)]
     rcases zO hf1 with ⟨c2, hf1⟩ | ⟨c2, hf1⟩
     ·obtain ⟨g0, hf1⟩ := gdE hf1
      refine yJ ((xAs Tryz.prog 6 (ZG 1 pv0 k_)).or ((xVw zz 31 0 pv0).or zj)) hC zG [1,1,2,1,0,0,1,2,0,1,0,1] [J1, J2, J3] [0,5] (fun z : List (List Int) × Int => xi z.1 z.2 = some lr1) (fun z => qo z.1 z.2) [(0, .own (eOs 1 false F5_ s_)), (1, .d (.fn 107 [])), (5, .d (I k_)), (6, .d (.atom (ZG 1 pv0 k_)))] (Z2 ++ [Hq c2, Hn (⟨.inl rfl, rfl⟩ : (T.als 0 [] 0 0 = T.als 0 [] 0 0 ∨ T.als 0 [] 0 0 = T.d (.atom pv0)) ∧ some pv0 = some pv0), Hn (⟨g0.1, cuB F5_ g0⟩ : (0 : Int) ≤ k_ ∧ k_.toNat ≤ (s_.map F5_).length), Hn (rfl : T.d (.atom (ZG 1 pv0 k_)) = T.d (.atom (ZG 1 pv0 k_))), Hh (.cut 1)]) ?_ fun J4 hJ4 => ?_
      ·rintro ⟨s_1, k_1⟩ hf1
       unfold xi at hf1
       obtain ⟨g1, hf1⟩ := gdE hf1
       obtain ⟨g2, hf1⟩ := gdE hf1
       obtain ⟨g3, hf1⟩ := gdE hf1
       obtain rfl := zc hf1
       obtain rfl := hl1
       obtain rfl := zc hf0
       exact yE ((xVc zz 61 1 0 pv0 k_1).or ((xVw zz 61 0 pv0).or zj)) hC hE [Hn (⟨.inl rfl, rfl⟩ : (T.als 0 [] 0 0 = T.als 0 [] 0 0 ∨ T.als 0 [] 0 0 = T.d (.atom pv0)) ∧ some pv0 = some pv0), Hn (⟨g1.1, cuB F5_ g1⟩ : (0 : Int) ≤ k_1 ∧ k_1.toNat ≤ (s_1.map F5_).length), Hn (⟨rfl, rfl⟩ : T.d (.atom (ZG 1 pv0 k_1)) = T.d (.atom (ZG 1 pv0 k_1)) ∧ some pv0 = some pv0), Hn (⟨g2.1, cuB F5_ g2, dM F5_ s_1⟩ : (0 : Int) ≤ k_1 ∧ k_1.toNat ≤ (s_1.map F5_).length ∧ A.areD (s_1.map F5_) = true), Hx (.l ((s_1.take k_1.toNat ++ List.replicate (s_1.length - k_1.toNat) []).map F5_)) (vcM F5_ s_1 k_1.toNat ([] : List Int)), Hn g3.1, Hn (cuB F5_ g3), Hl (cuM F5_ (s_1.take k_1.toNat ++ List.replicate (s_1.length - k_1.toNat) []) k_1)]
      ·obtain ⟨t5, ht5, hf1⟩ := zf hf1
       refine yL zj hC zG [1,1,2,1,0,0,1,2,0,1,0,1,2,1,0] [J1, J2, J3, J4] (fun s => xg k_ s.1 s.2.1 s.2.2) (fun x => qj pv0 k_ x.1 x.2.1 x.2.2) (s_, k_, 1) ht5  [] ?_
       rintro ⟨s_2, k_2, k2⟩ m5 lr2 hf2 hl2 J5 hJ5
       try unfold xg at hf2
       let Z3 : List HO := [Hn (⟨rfl, rfl⟩ : T.d (.atom (ZG 1 pv0 k_)) = T.d (.atom (ZG 1 pv0 k_)) ∧ some pv0 = some pv0), Hx (.a (.atom (.int .i64 ((s_2.length - k_.toNat : Nat) : Int)))) (vlM F5_ s_2 k_.toNat)]
       rcases zO hf2 with ⟨c3, hf2⟩ | ⟨c3, hf2⟩
       ·refine yJ ((xVl zz 34 29 1 0 pv0 k_ (by kernel_rfl)).or zj) hC zG [1,1,2,1,0,0,1,2,0,1,0,1,2,1,0,0,1] [J1, J2, J3, J4, J5] [0,1,5,6,7] (fun z : List (List Int) × Int => yj k2 z.1 z.2 = some lr2) (fun z => qn pv0 k_ k2 z.1 z.2) [(0, .own (eOs 1 false F5_ s_2)), (1, .d (.fn 107 [])), (5, .d (I k_2)), (6, .d (.atom (ZG 1 pv0 k_))), (7, .d (I k2))] (Z3 ++ [Hq c3, Hh (.cut 0)]) ?_ fun J6 hJ6 => ?_
        ·rintro ⟨s_3, k_3⟩ hf2
         unfold yj at hf2
         obtain rfl := zc hf2
         exact yB zj hC hJ5 (s_3, k_3, w64 (k2 + 1)) hl2 []
        ·obtain ⟨g4, hf2⟩ := gdE hf2
         obtain ⟨s__e2, h3, hf2⟩ := zf hf2
         obtain ⟨g5, hf2⟩ := gdE hf2
         obtain ⟨s__e3, h4, hf2⟩ := zf hf2
         obtain ⟨r_1, h5, hf2⟩ := zf hf2
         let Z4 : List HO := [Hn (⟨rfl, rfl⟩ : T.d (.atom (ZG 1 pv0 k_)) = T.d (.atom (ZG 1 pv0 k_)) ∧ some pv0 = some pv0), Hn (⟨g4.1, g4.2, (iL F5_ h3).2⟩ : (0 : Int) ≤ k_ ∧ (0 : Int) ≤ k2 ∧ (k_ + k2).toNat < (s_2.map F5_).length), Hs (iM F5_ h3), Hn (⟨rfl, rfl⟩ : T.d (.atom (ZG 1 pv0 k_)) = T.d (.atom (ZG 1 pv0 k_)) ∧ some pv0 = some pv0), Hn (⟨g5.1, g5.2, (iL F5_ h4).2⟩ : (0 : Int) ≤ k_ ∧ (0 : Int) ≤ w64 (k2 - 1) ∧ (k_ + (w64 (k2 - 1))).toNat < (s_2.map F5_).length), Hs (iM F5_ h4), Hc h_tries_sorted_1 (x := (s__e2, s__e3)) h5 (loC F5_ s__e2 <| loC F5_ s__e3 <| loN)]
         rcases zO hf2 with ⟨c4, hf2⟩ | ⟨c4, hf2⟩
         ·obtain ⟨g6, hf2⟩ := gdE hf2
          obtain ⟨s__e4, h6, hf2⟩ := zf hf2
          obtain ⟨s__e5, h7, hf2⟩ := zf hf2
          exact yB ((xVi zz 54 1 0 pv0 k_).or ((xVi zz 46 1 0 pv0 k_).or ((xVi zz 41 1 0 pv0 k_).or zj))) hC hJ6 ((s_2.set k_2.toNat s__e4), w64 (k_2 + 1)) hf2 (Z4 ++ [Hq c4, Hn (⟨rfl, rfl⟩ : T.d (.atom (ZG 1 pv0 k_)) = T.d (.atom (ZG 1 pv0 k_)) ∧ some pv0 = some pv0), Hn (⟨g6.1, g6.2, (iL F5_ h6).2⟩ : (0 : Int) ≤ k_ ∧ (0 : Int) ≤ k2 ∧ (k_ + k2).toNat < (s_2.map F5_).length), Hs (iM F5_ h6), Hn (iL F5_ h7), Hs (iM F5_ h7), Hs (iM F5_ h7), Hl (sM F5_ s_2 k_2 s__e4)])
         ·exact yB ((xVi zz 46 1 0 pv0 k_).or ((xVi zz 41 1 0 pv0 k_).or zj)) hC hJ6 (s_2, k_2) hf2 (Z4 ++ [Hq c4])
       ·obtain rfl := zc hf2
        obtain rfl := hl2
        exact yB ((xVl zz 34 29 1 0 pv0 k_ (by kernel_rfl)).or zj) hC hJ4 (s_2, k_2) hf1 (Z3 ++ [Hq c3])
     ·exact yB zj hC hJ3 () hf1 (Z2 ++ [Hq c2])
   ·obtain rfl := zc hf1
    obtain rfl := hl1
    exact yB zj hC hJ1 () hf0 (Z1 ++ [Hq c1])
noncomputable def Zj : Code := (Tryz.f93.body).getD .skip
noncomputable def yd : zR := spR (α := List (List Int)) (ρ := List (List Int)) 93 (fun x => [z3t x]) (fun r => (eOs 1 true F5_) r) (fun x => xM x) [true] (Ux)
theorem Zh : ∀ x r, (fun x => xM x) x = some r → (Q8.add yd).run 93 ((Q8.add yd).norm 93 ((fun x => [z3t x]) x)) = some ((fun r => (eOs 1 true F5_) r) r) := fun x r h => zeX h rfl
theorem Zi : (Q8.add yd).lend 93 = none ∧ (Q8.add yd).gives 93 = [true] := zcR
theorem wr {ctr : Ctr} (hC : zu Tryz.prog ctr) : yd.Ok Tryz.prog := by
 refine z9Q ?_
 rintro s_ r0 hf0
 try unfold xM at hf0
 refine yO true [(2, none)] Zj 9 Tryz.func93 fun E hE => ?_
 obtain rfl := zc hf0
 exact yE ((xCl zz 8).or X0) hC hE [Ha (lnM F5_ s_), Ha (lnM F5_ s_), Hn (Int.natCast_nonneg _ : (0 : Int) ≤ ((s_.length : Nat) : Int)), Hn (Int.natCast_nonneg _ : (0 : Int) ≤ ((s_.length : Nat) : Int)), Hn (clB F5_ s_), Ha (clE 1 F5_ s_)]
noncomputable def xY : Code := (Tryz.f72.body).getD .skip
noncomputable def vQ : zR := spF (α := List (List Int)) (ρ := List (List Int) × Int) 72 (fun x => [vJ x]) (fun r => .tup [W6 r.1, (eI .i64) r.2]) (fun x => jh x) [] (Ux)
abbrev V2 (out : List (List Int × Bool)) : List (Nat × T) := [(4, .own (eOs 1 true (eFl 1 (eI .i64)) out))]
abbrev V1 (pv4 : Value) (r_2 : List (List Int)) (out2 : List (List Int × Bool)) (x24 : Int) : List (Nat × T) := [(4, .own (eOs 1 true (eFl 1 (eI .i64)) out2)), (22, .d (.atom (ZG 1 pv4 (0 : Int)))), (23, .d (I ((r_2.length - (0 : Int).toNat : Nat) : Int))), (24, .d (I x24))]
theorem JF {ctr : Ctr} (hC : zu Tryz.prog ctr) (h_slices_CloneW_int_int : ctr.Has wK) (h_words_Compare : ctr.Has ve) (h_slices_CompactFuncW_int_int : ctr.Has xc) (h_tries_steps : ctr.Has j6) (h_slices_Clone_int_int : ctr.Has xL) (h_slices_Clip_int_int : ctr.Has yl) : vQ.Ok Tryz.prog := by
 refine zy ?_
 rintro l_ r0 hf0
 try unfold jh at hf0
 refine yO false [(2, none), (3, none)] xY 37 Tryz.func72 fun E hE => ?_
 obtain ⟨r_, h0, hf0⟩ := zf hf0
 refine yA X0 hC xY [1,1] [] [(4, .own (eOs 1 false F5_ r_))] [Hc h_slices_CloneW_int_int (x := l_) h0 (loC vJ l_ <| loN), Hh (.cut 0)] ?_
 obtain ⟨sorted, h1, hf0⟩ := zf hf0
 refine z1j (by kernel_rfl) (x := (sub [1,1,0] xY)) (y := (sub [1,1,1] xY)) 4 (fun st1 => Own.canon [4] st1 = ofL [(4, .own (eOs 1 false F5_ sorted))]) (fun pv4 => yF ((wV (P := Tryz.prog) xr [4] (z3N z9R (f := F5_) (t := false) (v := pv4) (fun _ => rfl) (fun _ => rfl) (fun x y c h => yc hC h_words_Compare (x := (x, y)) h) h1) 10).or X0) hC .normal [(4, .own (eOs 1 false F5_ sorted))] [Hn (Zx (f := .fn 104 []) (xs := [.atom pv4, .fn 105 []]) (ls := [(pv4, eOs 1 false F5_ r_)]) (r := .tup []) (ys := [eOs 1 false F5_ sorted]) [.atom pv4, .fn 105 []] (show z0c [.atom pv4, .fn 105 []] [.atom pv4, .fn 105 []] from inferInstance))] fun st0 h0 => ⟨rfl, h0⟩) fun st1 h1 => z6U h1 ?_
 obtain ⟨r_1, h2, hf0⟩ := zf hf0
 obtain ⟨r_2, h3, hf0⟩ := zf hf0
 let Z0 : List HO := [Hc h_slices_CompactFuncW_int_int (x := (sorted, ())) h2 (loC z3t sorted <| loC (YA 107) () <| loN), Hh (.g [true]), Hn Zi, Hx (.a ((eOs 1 true F5_) r_2)) (Zh r_1 _ h3), Ha (lnM F5_ r_2)]
 rcases zO hf0 with ⟨c0, hf0⟩ | ⟨c0, hf0⟩
 ·obtain rfl := zc hf0
  exact yEx ((z0i zz (wr hC) 13).or X0) hC hE (Z0 ++ (rpN 4 (Hq c0) [qT, Hm (shM F5_ F5_ [])])) (.tup [eSl 1 true F1_ [], I 3]) (show LeV (.tup [eSl 1 true F1_ [], I 3]) (.tup [eSl 1 true F1_ ([] : List (List Int)), I 3]) from inferInstance)
 ·obtain ⟨r_3, h4, hf0⟩ := zf hf0
  let Z1 : List HO := (Z0 ++ [Hq c0, Hq c0, Hg (KT h_tries_steps), Hm (shM F5_ F5_ r_2), Hs (KU h_tries_steps (x := r_2) h4 (loC (eSl 1 true F5_) r_2 <| loN)), Hq c0, Hq c0])
  rcases zO hf0 with ⟨c1, hf0⟩ | ⟨c1, hf0⟩
  ·obtain rfl := zc hf0
   exact yEx ((z0i zz (wr hC) 13).or X0) hC hE (Z1 ++ [Hq c1, Hm (shM F5_ F5_ [])]) (.tup [eSl 1 true F1_ [], I 3]) (show LeV (.tup [eSl 1 true F1_ [], I 3]) (.tup [eSl 1 true F1_ ([] : List (List Int)), I 3]) from inferInstance)
  ·refine yA ((z0i zz (wr hC) 13).or X0) hC xY [1,1,1,1,1] [] [(4, .own (eOs 1 true F5_ r_2))] (Z1 ++ [Hq c1, Hh (.cut 0)]) ?_
   refine z07 (y := eOs 1 true F5_ r_2) (by kernel_rfl) 4 (by kernel_rfl) (by kernel_rfl) fun pv4 hv4 => ?_
   refine yJ X0 hC xY [1,1,1,1,1] [] [4] (fun z : List (List Int × Bool) => kB z = some r0) (fun z => V2 z) [(4, .own (eOs 1 true F5_ r_2))] [Hh (.cut 0)] ?_ fun J1 hJ1 => ?_
   ·rintro out hf0
    unfold kB at hf0
    obtain ⟨hfl0, hf0⟩ := gdE hf0
    obtain rfl := zc hf0
    exact yEx X0 hC hE [Hm (shM (eFl 1 (eI .i64)) (eFl 1 (eI .i64)) out)] (.tup [eSl 1 true (eFl 1 (eI .i64)) out, I 0]) (haveI := flA (s := 1) (t := 1) (b := true) (f := (eI .i64)) hfl0; show LeV (.tup [eSl 1 true (eFl 1 (eI .i64)) out, I 0]) (.tup [eSl 1 true F1_ (out.map (·.1)), I 0]) from inferInstance)
   ·obtain ⟨t2, ht2, hf0⟩ := zf hf0
    refine yLx ((xVl zz 23 29 1 4 pv4 (0 : Int) (by kernel_rfl)).or ((xMw Tryz.prog 22 4 1 pv4).or X0)) hC xY [1,1,1,1,1,2,1,0] [J1] (fun s => kA r_2 s.1 s.2) (fun x => V1 pv4 r_2 x.1 x.2) ((r_2.map fun q => (q, false)), 0) ht2 [(4, .own (eOs 1 true F5_ r_2)), (22, .d (.atom (ZG 1 pv4 (0 : Int)))), (23, .d (I ((r_2.length - (0 : Int).toNat : Nat) : Int))), (24, .d (I 0))] inferInstance [Hn (rfl : some pv4 = some pv4), Hn (⟨rfl, rfl⟩ : T.d (.atom (ZG 1 pv4 (0 : Int))) = T.d (.atom (ZG 1 pv4 (0 : Int))) ∧ some pv4 = some pv4), Hx (.a (.atom (.int .i64 ((r_2.length - (0 : Int).toNat : Nat) : Int)))) (vlM F5_ r_2 (0 : Int).toNat)] ?_
    rintro ⟨out2, x24⟩ m2 lr1 hf1 hl1 J2 hJ2
    try unfold kA at hf1
    rcases zO hf1 with ⟨c2, hf1⟩ | ⟨c2, hf1⟩
    ·obtain ⟨g0, hf1⟩ := gdE hf1
     obtain ⟨out_e, h5, hf1⟩ := zf hf1
     obtain ⟨r_4, h6, hf1⟩ := zf hf1
     obtain ⟨r_5, h7, hf1⟩ := zf hf1
     obtain ⟨out_e1, h8, hf1⟩ := zf hf1
     obtain rfl := zc hf1
     exact yB ((xVi zz 27 1 4 pv4 (0 : Int)).or X0) hC hJ2 ((out2.set x24.toNat (r_5, true)), w64 (x24 + 1)) hl1 [Hq c2, Hn (⟨rfl, rfl⟩ : T.d (.atom (ZG 1 pv4 (0 : Int))) = T.d (.atom (ZG 1 pv4 (0 : Int))) ∧ some pv4 = some pv4), Hn (⟨g0.1, g0.2, (iL (eFl 1 (eI .i64)) h5).2⟩ : (0 : Int) ≤ 0 ∧ (0 : Int) ≤ x24 ∧ (0 + x24).toNat < (out2.map (eFl 1 (eI .i64))).length), Hs (iM (eFl 1 (eI .i64)) h5), Hc h_slices_Clone_int_int (x := out_e.1) h6 (loC (eSl 1 out_e.2 (eI .i64)) out_e.1 <| loN), Hg (KT h_slices_Clip_int_int), Hm (shM (eI .i64) (eI .i64) r_4), Hs (KU h_slices_Clip_int_int (x := r_4) h7 (loC F5_ r_4 <| loN)), Hm (shM (eI .i64) (eI .i64) r_4), Hn (iL (eFl 1 (eI .i64)) h8), Hs (iM (eFl 1 (eI .i64)) h8), Hs (iM (eFl 1 (eI .i64)) h8), Hl (sM (eFl 1 (eI .i64)) out2 x24 (r_5, true))]
    ·obtain rfl := zc hf1
     obtain rfl := hl1
     exact yB X0 hC hJ1 out2 hf0 [Hq c2]
noncomputable def z02 : Code := (Tryz.f35.body).getD .skip
noncomputable def Yf : zR := spF (α := List (List Int) × Int) (ρ := List (List Int) × Int) 35 (fun x => [vJ x.1, (eI .i64) x.2]) (fun r => .tup [W6 r.1, (eI .i64) r.2]) (fun x => Vm x.1 x.2) [] (X3)
theorem z0l {ctr : Ctr} (hC : zu Tryz.prog ctr) (h_tries_loose : ctr.Has j7) (h_tries_sorted : ctr.Has vQ) : Yf.Ok Tryz.prog := by
 refine zy ?_
 rintro ⟨l_, inputs⟩ r0 hf0
 try unfold Vm at hf0
 refine yO false [(4, none), (5, none)] z02 17 Tryz.func35 fun E hE => ?_
 obtain ⟨r_, h0, hf0⟩ := zf hf0
 let Z0 : List HO := [Hc h_tries_loose (x := (l_, inputs)) h0 (loC vJ l_ <| loC (eI .i64) inputs <| loN)]
 rcases zO hf0 with ⟨c0, hf0⟩ | ⟨c0, hf0⟩
 ·obtain rfl := zc hf0
  exact yEx X0 hC hE (Z0 ++ [Hq c0, Hm (shM F5_ F5_ [])]) (.tup [eSl 1 true F1_ [], I r_]) (show LeV (.tup [eSl 1 true F1_ [], I r_]) (.tup [eSl 1 true F1_ ([] : List (List Int)), I r_]) from inferInstance)
 ·obtain ⟨r_1, h1, hf0⟩ := zf hf0
  obtain rfl := zc hf0
  exact yE X0 hC hE (Z0 ++ [Hq c0, Hc h_tries_sorted (x := l_) h1 (loC vJ l_ <| loN)])
noncomputable def UE : Code := (Tryz.f8.body).getD .skip
noncomputable def uq : zR := spF (α := z6) (ρ := List (List Int) × Int) 8 (fun x => [x4 x]) (fun r => .tup [W6 r.1, (eI .i64) r.2]) (fun x => ki x) [] (Ux)
theorem Ql {ctr : Ctr} (hC : zu Tryz.prog ctr) (h_machines_Connected : ctr.Has vS) (h_walks_Access : ctr.Has kH) (h_tries_Sort : ctr.Has Yf) : uq.Ok Tryz.prog := by
 refine zy ?_
 rintro m_ r0 hf0
 try unfold ki at hf0
 refine yO false [(2, none), (3, none)] UE 33 Tryz.func8 fun E hE => ?_
 obtain ⟨r_, h0, hf0⟩ := zf hf0
 let Z0 : List HO := [Hc h_machines_Connected (x := m_) h0 (loC x4 m_ <| loN)]
 rcases zO hf0 with ⟨c0, hf0⟩ | ⟨c0, hf0⟩
 ·obtain rfl := zc hf0
  exact yEx X0 hC hE (Z0 ++ [Hq c0, Hm (shM F5_ F5_ [])]) (.tup [eSl 1 true F1_ [], I r_.2]) (show LeV (.tup [eSl 1 true F1_ [], I r_.2]) (.tup [eSl 1 true F1_ ([] : List (List Int)), I r_.2]) from inferInstance)
 ·rcases zO hf0 with ⟨c1, hf0⟩ | ⟨c1, hf0⟩
  ·obtain rfl := zc hf0
   exact yEx X0 hC hE (Z0 ++ [Hq c0, Hq c1, Hm (shM F5_ F5_ [])]) (.tup [eSl 1 true F1_ [], I 11]) (show LeV (.tup [eSl 1 true F1_ [], I 11]) (.tup [eSl 1 true F1_ ([] : List (List Int)), I 11]) from inferInstance)
  ·obtain ⟨r_1, h1, hf0⟩ := zf hf0
   let Z1 : List HO := (Z0 ++ [Hq c0, Hq c1, Hc h_walks_Access (x := m_) h1 (loC x4 m_ <| loN)])
   rcases zO hf0 with ⟨c2, hf0⟩ | ⟨c2, hf0⟩
   ·obtain rfl := zc hf0
    exact yEx X0 hC hE (Z1 ++ [Hq c2, Hm (shM F5_ F5_ [])]) (.tup [eSl 1 true F1_ [], I r_1.2.2]) (show LeV (.tup [eSl 1 true F1_ [], I r_1.2.2]) (.tup [eSl 1 true F1_ ([] : List (List Int)), I r_1.2.2]) from inferInstance)
   ·obtain ⟨r_2, h2, hf0⟩ := zf hf0
    obtain rfl := zc hf0
    exact yE X0 hC hE (Z1 ++ [Hq c2, Hc h_tries_Sort (x := (r_1.1, m_.Inputs)) h2 (loC W6 r_1.1 <| loC (eI .i64) m_.Inputs <| loN)])
noncomputable def wp : Code := (Tryz.f73.body).getD .skip
noncomputable def Xj : zR := spF (α := Int × Int × Int) (ρ := List (List Int) × Int) 73 (fun x => [(eI .i64) x.1, (eI .i64) x.2.1, (eI .i64) x.2.2]) (fun r => .tup [W6 r.1, (eI .i64) r.2]) (fun x => Qr x.1 x.2.1 x.2.2) [] (zap)
abbrev Ju (inputs : Int) (from_ : Int) (to : Int) (k_ : Int) (out1 : List (List Int)) (level1 : List (List Int)) (n_1 : Int) (x45 : Int) (x46 : Bool) (x58 : Bool) : List (Nat × T) := [(0, .d (I inputs)), (1, .d (I from_)), (2, .d (I to)), (8, .own (eOs 1 false F5_ out1)), (9, .own (eOs 1 false F5_ level1)), (10, .d (I n_1)), (11, .d (I k_)), (45, .d (I x45)), (46, .d (B x46)), (49, .d (I k_)), (50, .d (I to)), (51, .d (B (decide (k_ < to)))), (52, .d (B (decide (k_ < to)))), (58, .d (B x58))]
abbrev Jq (inputs : Int) (from_ : Int) (to : Int) (k_ : Int) (out2 : List (List Int)) (n_2 : Int) (x581 : Bool) (next : List (List Int)) : List (Nat × T) := [(0, .d (I inputs)), (1, .d (I from_)), (2, .d (I to)), (8, .own (eOs 1 false F5_ out2)), (10, .d (I n_2)), (11, .d (I k_)), (12, .own (eOs 1 false F5_ next)), (45, .d (I n_2)), (46, .d (B (decide (n_2 > 65536)))), (49, .d (I k_)), (50, .d (I to)), (51, .d (B (decide (k_ < to)))), (52, .d (B (decide (k_ < to)))), (58, .d (B x581))]
abbrev Jp (inputs : Int) (from_ : Int) (to : Int) (level : List (List Int)) (k_ : Int) (out2 : List (List Int)) (n_2 : Int) (x581 : Bool) (x69 : Int) (next2 : List (List Int)) : List (Nat × T) := [(0, .d (I inputs)), (1, .d (I from_)), (2, .d (I to)), (8, .own (eOs 1 false F5_ out2)), (9, .own (eOs 1 false F5_ level)), (10, .d (I n_2)), (11, .d (I k_)), (12, .own (eOs 1 false F5_ next2)), (45, .d (I n_2)), (46, .d (B (decide (n_2 > 65536)))), (49, .d (I k_)), (50, .d (I to)), (51, .d (B (decide (k_ < to)))), (52, .d (B (decide (k_ < to)))), (58, .d (B x581)), (67, .als 9 [] 0 0), (68, .d (I ((level.length : Nat) : Int))), (69, .d (I x69))]
abbrev Jm (inputs : Int) (from_ : Int) (to : Int) (level : List (List Int)) (k_ : Int) (out2 : List (List Int)) (n_2 : Int) (x581 : Bool) (x69 : Int) (level_e : List Int) (next3 : List (List Int)) (x74 : Int) : List (Nat × T) := [(0, .d (I inputs)), (1, .d (I from_)), (2, .d (I to)), (8, .own (eOs 1 false F5_ out2)), (9, .own (eOs 1 false F5_ level)), (10, .d (I n_2)), (11, .d (I k_)), (12, .own (eOs 1 false F5_ next3)), (14, .d (eSl 1 false (eI .i64) level_e)), (45, .d (I n_2)), (46, .d (B (decide (n_2 > 65536)))), (49, .d (I k_)), (50, .d (I to)), (51, .d (B (decide (k_ < to)))), (52, .d (B (decide (k_ < to)))), (58, .d (B x581)), (67, .als 9 [] 0 0), (68, .d (I ((level.length : Nat) : Int))), (69, .d (I x69)), (73, .d (I inputs)), (74, .d (I x74))]
abbrev Jn (inputs : Int) (from_ : Int) (to : Int) (level : List (List Int)) (k_ : Int) (out2 : List (List Int)) (n_2 : Int) (x581 : Bool) (next1 : List (List Int)) (x69 : Int) : List (Nat × T) := [(0, .d (I inputs)), (1, .d (I from_)), (2, .d (I to)), (8, .own (eOs 1 false F5_ out2)), (9, .own (eOs 1 false F5_ level)), (10, .d (I n_2)), (11, .d (I k_)), (12, .own (eOs 1 false F5_ next1)), (45, .d (I n_2)), (46, .d (B (decide (n_2 > 65536)))), (49, .d (I k_)), (50, .d (I to)), (51, .d (B (decide (k_ < to)))), (52, .d (B (decide (k_ < to)))), (58, .d (B x581)), (67, .als 9 [] 0 0), (68, .d (I ((level.length : Nat) : Int))), (69, .d (I x69))]
abbrev Jr (inputs : Int) (from_ : Int) (to : Int) (level : List (List Int)) (k_ : Int) (out2 : List (List Int)) (n_2 : Int) (x581 : Bool) : List (Nat × T) := [(0, .d (I inputs)), (1, .d (I from_)), (2, .d (I to)), (8, .own (eOs 1 false F5_ out2)), (9, .own (eOs 1 false F5_ level)), (10, .d (I n_2)), (11, .d (I k_)), (45, .d (I n_2)), (46, .d (B (decide (n_2 > 65536)))), (49, .d (I k_)), (50, .d (I to)), (51, .d (B (decide (k_ < to)))), (52, .d (B (decide (k_ < to)))), (58, .d (B x581))]
abbrev Jt (inputs : Int) (from_ : Int) (to : Int) (level : List (List Int)) (k_ : Int) (out2 : List (List Int)) (n_2 : Int) : List (Nat × T) := [(0, .d (I inputs)), (1, .d (I from_)), (2, .d (I to)), (8, .own (eOs 1 false F5_ out2)), (9, .own (eOs 1 false F5_ level)), (10, .d (I n_2)), (11, .d (I k_))]
abbrev Jo (inputs : Int) (from_ : Int) (to : Int) (out : List (List Int)) (level : List (List Int)) (n_ : Int) (k_ : Int) : List (Nat × T) := [(0, .d (I inputs)), (1, .d (I from_)), (2, .d (I to)), (8, .own (eOs 1 false F5_ out)), (9, .own (eOs 1 false F5_ level)), (10, .d (I n_)), (11, .d (I k_))]
noncomputable def zH : XH Tryz.prog := ((z7y zz (.inl 83) [82]).or X0)
theorem z1u {ctr : Ctr} (hC : zu Tryz.prog ctr) (h_tries_sorted : ctr.Has vQ) (h_slices_Clip_int_int : ctr.Has yl) : Xj.Ok Tryz.prog := by
 refine zy ?_
 rintro ⟨inputs, from_, to⟩ r0 hf0
 try unfold Qr at hf0
 refine yO false [(6, none), (7, none)] wp 88 Tryz.func73 fun E hE => ?_
 rcases zO hf0 with ⟨c0, hf0⟩ | ⟨c0, hf0⟩
 ·obtain rfl := zc hf0
  exact yEx zH hC hE [Hq c0, Hm (shM F5_ F5_ [])] (.tup [eSl 1 true F1_ [], I 3]) (show LeV (.tup [eSl 1 true F1_ [], I 3]) (.tup [eSl 1 true F1_ ([] : List (List Int)), I 3]) from inferInstance)
 ·rcases zO hf0 with ⟨c1, hf0⟩ | ⟨c1, hf0⟩
  ·obtain rfl := zc hf0
   exact yEx zH hC hE [Hq c0, Hq c1, Hq c1, Hq c1, qT, Hm (shM F5_ F5_ [])] (.tup [eSl 1 true F1_ [], I 1]) (show LeV (.tup [eSl 1 true F1_ [], I 1]) (.tup [eSl 1 true F1_ ([] : List (List Int)), I 1]) from inferInstance)
  ·let Z0 : List HO := [Hq c0, Hq c1, Hq c1, Hq c1]
   rcases zO hf0 with ⟨c2, hf0⟩ | ⟨c2, hf0⟩
   ·obtain rfl := zc hf0
    exact yEx zH hC hE (Z0 ++ [Hq c2, Hm (shM F5_ F5_ [])]) (.tup [eSl 1 true F1_ [], I 1]) (show LeV (.tup [eSl 1 true F1_ [], I 1]) (.tup [eSl 1 true F1_ ([] : List (List Int)), I 1]) from inferInstance)
   ·rcases zO hf0 with ⟨c3, hf0⟩ | ⟨c3, hf0⟩
    ·obtain rfl := zc hf0
     exact yEx zH hC hE (Z0 ++ [Hq c2, Hq c3, Hm (shM F5_ F5_ [])]) (.tup [eSl 1 true F1_ [], I 3]) (show LeV (.tup [eSl 1 true F1_ [], I 3]) (.tup [eSl 1 true F1_ ([] : List (List Int)), I 3]) from inferInstance)
    ·obtain ⟨t1, ht1, hf0⟩ := zf hf0
     refine yLx zH hC wp [1,1,1,1,1,1,1,1,0] [] (fun s => Xd inputs from_ to s.1 s.2.1 s.2.2.1 s.2.2.2) (fun x => Jo inputs from_ to x.1 x.2.1 x.2.2.1 x.2.2.2) (([] : List (List Int)), ([[]] : List (List Int)), 0,0) ht1 [(0, .d (I inputs)), (1, .d (I from_)), (2, .d (I to)), (8, .own (eOs 1 true F5_ [])), (9, .own (eOs 1 true F1_ ([[]]))), (10, .d (I 0)), (11, .d (I 0))] inferInstance (Z0 ++ [Hq c2, Hq c3, Hh (.v 5 [9]), Hm (shM F2_ F1_ ([[]] : List (List Int)))]) ?_
     rintro ⟨out, level, n_, k_⟩ m1 lr1 hf1 hl1 J1 hJ1
     try unfold Xd at hf1
     refine yJ zH hC wp [1,1,1,1,1,1,1,1,0,0] [J1] [0,1,2,8,9,10,11,45,46,49,50,51,52,58] (fun z : List (List Int) × List (List Int) × Int × Int × Bool × Bool => Xg k_ z.1 z.2.1 z.2.2.1 z.2.2.2.1 z.2.2.2.2.1 z.2.2.2.2.2 = some lr1) (fun z => Ju inputs from_ to k_ z.1 z.2.1 z.2.2.1 z.2.2.2.1 z.2.2.2.2.1 z.2.2.2.2.2) [(0, .d (I inputs)), (1, .d (I from_)), (2, .d (I to)), (8, .own (eOs 1 false F5_ out)), (9, .own (eOs 1 false F5_ level)), (10, .d (I n_)), (11, .d (I k_))] [Hh (.cut 0)] ?_ fun J2 hJ2 => ?_
     ·rintro ⟨out1, level1, n_1, x45, x46, x58⟩ hf1
      unfold Xg at hf1
      obtain rfl := zc hf1
      exact yB zH hC hJ1 (out1, level1, n_1, w64 (k_ + 1)) hl1 []
     ·refine yJ zH hC wp [1,1,1,1,1,1,1,1,0,0,2,0] [J1, J2] [0,1,2,8,9,10,11] (fun z : List (List Int) × Int => Zn inputs to level k_ z.1 z.2 = some lr1) (fun z => Jt inputs from_ to level k_ z.1 z.2) [(0, .d (I inputs)), (1, .d (I from_)), (2, .d (I to)), (8, .own (eOs 1 false F5_ out)), (9, .own (eOs 1 false F5_ level)), (10, .d (I n_)), (11, .d (I k_))] [Hh (.cut 0)] ?_ fun J3 hJ3 => ?_
      ·rintro ⟨out2, n_2⟩ hf1
       unfold Zn at hf1
       refine yJ zH hC wp [1,1,1,1,1,1,1,1,0,0,2,0,1] [J1, J2] [0,1,2,8,9,10,11,45,46,49,50,51,52,58] (fun z : Bool => Zm inputs to level k_ out2 n_2 z = some lr1) (fun z => Jr inputs from_ to level k_ out2 n_2 z) [(0, .d (I inputs)), (1, .d (I from_)), (2, .d (I to)), (8, .own (eOs 1 false F5_ out2)), (9, .own (eOs 1 false F5_ level)), (10, .d (I n_2)), (11, .d (I k_))] [Hh (.cut 0)] ?_ fun J4 hJ4 => ?_
       ·rintro x581 hf1
        unfold Zm at hf1
        rcases zO hf1 with ⟨c4, hf1⟩ | ⟨c4, hf1⟩
        ·obtain ⟨r_, h0, hf1⟩ := zf hf1
         obtain rfl := zc hf1
         obtain rfl := hl1
         obtain rfl := zc hf0
         exact yE zH hC hE [Hq c4, Hg (KT h_tries_sorted), Hm (shM F5_ F5_ out2), Hs (KU h_tries_sorted (x := out2) h0 (loC vJ out2 <| loN)), Hm (shM F5_ F5_ out2)]
        ·refine yJ zH hC wp [1,1,1,1,1,1,1,1,0,0,2,0,1,1,1,1] [J1, J2] [0,1,2,8,10,11,12,45,46,49,50,51,52,58] (fun z : List (List Int) => Xf k_ out2 n_2 x581 z = some lr1) (fun z => Jq inputs from_ to k_ out2 n_2 x581 z) [(0, .d (I inputs)), (1, .d (I from_)), (2, .d (I to)), (8, .own (eOs 1 false F5_ out2)), (9, .own (eOs 1 false F5_ level)), (10, .d (I n_2)), (11, .d (I k_)), (12, .own (eOs 1 true F5_ [])), (45, .d (I n_2)), (46, .d (B (decide (n_2 > 65536)))), (49, .d (I k_)), (50, .d (I to)), (51, .d (B (decide (k_ < to)))), (52, .d (B (decide (k_ < to)))), (58, .d (B x581))] [Hq c4, Hh (.cut 1)] ?_ fun J5 hJ5 => ?_
         ·rintro next hf1
          unfold Xf at hf1
          exact yB zH hC hJ2 (out2, next, n_2, n_2, decide (n_2 > 65536), x581) hf1 []
         ·obtain ⟨t6, ht6, hf1⟩ := zf hf1
          refine yLx zH hC wp [1,1,1,1,1,1,1,1,0,0,2,0,1,1,1,1,2,1,0] [J1, J2, J5] (fun s => Xc inputs level s.1 s.2) (fun x => Jn inputs from_ to level k_ out2 n_2 x581 x.1 x.2) (([] : List (List Int)), 0) ht6 [(0, .d (I inputs)), (1, .d (I from_)), (2, .d (I to)), (8, .own (eOs 1 false F5_ out2)), (9, .own (eOs 1 false F5_ level)), (10, .d (I n_2)), (11, .d (I k_)), (12, .own (eOs 1 true F5_ [])), (45, .d (I n_2)), (46, .d (B (decide (n_2 > 65536)))), (49, .d (I k_)), (50, .d (I to)), (51, .d (B (decide (k_ < to)))), (52, .d (B (decide (k_ < to)))), (58, .d (B x581)), (67, .als 9 [] 0 0), (68, .d (I ((level.length : Nat) : Int))), (69, .d (I 0))] inferInstance [Ha (lnM F5_ level)] ?_
          rintro ⟨next1, x69⟩ m6 lr2 hf2 hl2 J6 hJ6
          try unfold Xc at hf2
          rcases zO hf2 with ⟨c5, hf2⟩ | ⟨c5, hf2⟩
          ·refine yJ zH hC wp [1,1,1,1,1,1,1,1,0,0,2,0,1,1,1,1,2,1,0,0,1,1] [J1, J2, J5, J6] [0,1,2,8,9,10,11,12,45,46,49,50,51,52,58,67,68,69] (fun z : List (List Int) => Xe x69 z = some lr2) (fun z => Jp inputs from_ to level k_ out2 n_2 x581 x69 z) [(0, .d (I inputs)), (1, .d (I from_)), (2, .d (I to)), (8, .own (eOs 1 false F5_ out2)), (9, .own (eOs 1 false F5_ level)), (10, .d (I n_2)), (11, .d (I k_)), (12, .own (eOs 1 false F5_ next1)), (45, .d (I n_2)), (46, .d (B (decide (n_2 > 65536)))), (49, .d (I k_)), (50, .d (I to)), (51, .d (B (decide (k_ < to)))), (52, .d (B (decide (k_ < to)))), (58, .d (B x581)), (67, .als 9 [] 0 0), (68, .d (I ((level.length : Nat) : Int))), (69, .d (I x69))] [Hq c5, Hh (.cut 0)] ?_ fun J7 hJ7 => ?_
           ·rintro next2 hf2
            unfold Xe at hf2
            obtain rfl := zc hf2
            exact yB zH hC hJ6 (next2, w64 (x69 + 1)) hl2 []
           ·obtain ⟨level_e, h1, hf2⟩ := zf hf2
            obtain ⟨t8, ht8, hf2⟩ := zf hf2
            refine yL zH hC wp [1,1,1,1,1,1,1,1,0,0,2,0,1,1,1,1,2,1,0,0,1,1,2,0,1,1,0] [J1, J2, J5, J6, J7] (fun s => Xb inputs level_e s.1 s.2) (fun x => Jm inputs from_ to level k_ out2 n_2 x581 x69 level_e x.1 x.2) (next1,0) ht8  [Hn (iL F5_ h1), Hs (iM F5_ h1)] ?_
            rintro ⟨next3, x74⟩ m8 lr3 hf3 hl3 J8 hJ8
            try unfold Xb at hf3
            rcases zO hf3 with ⟨c6, hf3⟩ | ⟨c6, hf3⟩
            ·obtain ⟨r_1, h2, hf3⟩ := zf hf3
             obtain ⟨g0, hf3⟩ := gdE hf3
             obtain ⟨g1, hf3⟩ := gdE hf3
             obtain rfl := zc hf3
             exact yB zH hC hJ8 ((next3 ++ ([(r_1 ++ ([x74] : List Int))] : List (List Int))), w64 (x74 + 1)) hl3 [Hq c6, Hc h_slices_Clip_int_int (x := level_e) h2 (loC F5_ level_e <| loN), Hq (dM (eI .i64) ([x74] : List Int)), Hn (dM (eI .i64) ([x74] : List Int)), Hn (aN (eI .i64) (eI .i64) g0 (by simp)), Hl (aM (eI .i64) r_1 ([x74] : List Int)), Hm (shM (eI .i64) (eI .i64) (r_1 ++ ([x74] : List Int))), Hq (dM F5_ ([(r_1 ++ ([x74] : List Int))] : List (List Int))), Hn (dM F5_ ([(r_1 ++ ([x74] : List Int))] : List (List Int))), Hn (aL F5_ F5_ g1), Hl (aM F5_ next3 ([(r_1 ++ ([x74] : List Int))] : List (List Int)))]
            ·obtain rfl := zc hf3
             obtain rfl := hl3
             exact yB zH hC hJ7 next3 hf2 [Hq c6]
          ·obtain rfl := zc hf2
           obtain rfl := hl2
           exact yB zH hC hJ5 next1 hf1 [Hq c5]
       ·let Z1 : List HO := [Ha (lnM F5_ out2)]
        rcases zO hf1 with ⟨c7, hf1⟩ | ⟨c7, hf1⟩
        ·obtain rfl := zc hf1
         obtain rfl := hl1
         obtain rfl := zc hf0
         exact yEx zH hC hE (Z1 ++ (Hq c7 :: Hq c7 :: Hq c7 :: (rpN 7 qT [Hm (shM F5_ F5_ [])]))) (.tup [eSl 1 true F1_ [], I 3]) (show LeV (.tup [eSl 1 true F1_ [], I 3]) (.tup [eSl 1 true F1_ ([] : List (List Int)), I 3]) from inferInstance)
        ·rcases zO hf1 with ⟨c8, hf1⟩ | ⟨c8, hf1⟩
         ·obtain rfl := zc hf1
          obtain rfl := hl1
          obtain rfl := zc hf0
          exact yEx zH hC hE (Z1 ++ (Hq c7 :: Hq c7 :: Hq c7 :: (rpN 6 (Hq c8) [qT, Hm (shM F5_ F5_ [])]))) (.tup [eSl 1 true F1_ [], I 3]) (show LeV (.tup [eSl 1 true F1_ [], I 3]) (.tup [eSl 1 true F1_ ([] : List (List Int)), I 3]) from inferInstance)
         ·let Z2 : List HO := (Z1 ++ (Hq c7 :: Hq c7 :: Hq c7 :: (rpN 4 (Hq c8) [])))
          rcases zO hf1 with ⟨c9, hf1⟩ | ⟨c9, hf1⟩
          ·let Z3 : List HO := (Z2 ++ [Hq c9, Hq c9, Ha (lnM F5_ level), Hq c9, Hq c9, Hq c9, Hq c8, Hq c9, Hq c8])
           rcases zO hf1 with ⟨c10, hf1⟩ | ⟨c10, hf1⟩
           ·obtain rfl := zc hf1
            obtain rfl := hl1
            obtain rfl := zc hf0
            exact yEx zH hC hE (Z3 ++ [Hq c10, Hm (shM F5_ F5_ [])]) (.tup [eSl 1 true F1_ [], I 3]) (show LeV (.tup [eSl 1 true F1_ [], I 3]) (.tup [eSl 1 true F1_ ([] : List (List Int)), I 3]) from inferInstance)
           ·exact yB zH hC hJ4 (decide ((w64 (((level.length : Nat) : Int) * inputs)) > 4096)) hf1 (Z3 ++ [Hq c10])
          ·exact yB zH hC hJ4 false hf1 (Z2 ++ (rpN 5 (Hq c9) [Hq c8, Hq c9, Hq c8, qF]))
      ·rcases zO hf1 with ⟨c11, hf1⟩ | ⟨c11, hf1⟩
       ·obtain ⟨g2, hf1⟩ := gdE hf1
        exact yB zH hC hJ3 ((out ++ level), w64 (n_ + (w64 (k_ * ((level.length : Nat) : Int))))) hf1 [Hq c11, Hq (dM F5_ level), Hn (dM F5_ level), Hn (aL F5_ F5_ g2), Hl (aM F5_ out level), Ha (lnM F5_ level)]
       ·exact yB zH hC hJ3 (out, n_) hf1 [Hq c11]
noncomputable def z01 : Code := (Tryz.f36.body).getD .skip
noncomputable def Ye : zR := spF (α := Int × Int) (ρ := List (List Int) × Int) 36 (fun x => [(eI .i64) x.1, (eI .i64) x.2]) (fun r => .tup [W6 r.1, (eI .i64) r.2]) (fun x => Vl x.1 x.2) [] (X3)
theorem z0k {ctr : Ctr} (hC : zu Tryz.prog ctr) (h_tries_all : ctr.Has Xj) : Ye.Ok Tryz.prog := by
 refine zy ?_
 rintro ⟨inputs, k_⟩ r0 hf0
 try unfold Vl at hf0
 refine yO false [(4, none), (5, none)] z01 11 Tryz.func36 fun E hE => ?_
 obtain ⟨r_, h0, hf0⟩ := zf hf0
 obtain rfl := zc hf0
 exact yE X0 hC hE [Hc h_tries_all (x := (inputs, 0, k_)) h0 (loC (eI .i64) inputs <| loC (eI .i64) 0 <| loC (eI .i64) k_ <| loN)]
noncomputable def YE : Code := (Tryz.f74.body).getD .skip
noncomputable def Yd : zR := spF (α := Int × List (List (List Int))) (ρ := Int) 74 (fun x => [(eI .i64) x.1, (eSl 1 false vJ) x.2]) (fun r => (eI .i64) r) (fun x => Vk x.1 x.2) [] (X3)
abbrev UH : List (Nat × T) := []
abbrev UG (inputs : Int) (l_ : List (List (List Int))) (x10 : Int) : List (Nat × T) := [(0, .d (I inputs)), (8, .d (eSl 1 false vJ l_)), (9, .d (I ((l_.length : Nat) : Int))), (10, .d (I x10))]
theorem z0j {ctr : Ctr} (hC : zu Tryz.prog ctr) (h_tries_Check : ctr.Has j8) : Yd.Ok Tryz.prog := by
 refine zy ?_
 rintro ⟨inputs, l_⟩ r0 hf0
 try unfold Vk at hf0
 refine yO true [(4, none)] YE 21 Tryz.func74 fun E hE => ?_
 refine yJ X0 hC YE [1] [] [] (fun z : Unit => Yb = some r0) (fun z => UH) [(0, .d (I inputs)), (1, .d (eSl 1 false vJ l_))] [Hh (.cut 1)] ?_ fun J1 hJ1 => ?_
 ·rintro ⟨⟩ hf0
  unfold Yb at hf0
  obtain rfl := zc hf0
  exact yE X0 hC hE []
 ·obtain ⟨t2, ht2, hf0⟩ := zf hf0
  refine yL X0 hC YE [1,2,1,0] [J1] (fun s => Ya inputs l_ s) (fun x => UG inputs l_ x) 0 ht2  [Ha (lnM vJ l_)] ?_
  rintro x10 m2 lr1 hf1 hl1 J2 hJ2
  try unfold Ya at hf1
  rcases zO hf1 with ⟨c0, hf1⟩ | ⟨c0, hf1⟩
  ·obtain ⟨l__e, h0, hf1⟩ := zf hf1
   obtain ⟨r_, h1, hf1⟩ := zf hf1
   let Z0 : List HO := [Hq c0, Hi vJ h0, Hc h_tries_Check (x := (l__e, inputs)) h1 (loC vJ l__e <| loC (eI .i64) inputs <| loN)]
   rcases zO hf1 with ⟨c1, hf1⟩ | ⟨c1, hf1⟩
   ·obtain rfl := zc hf1
    obtain rfl := hl1
    obtain rfl := zc hf0
    exact yE X0 hC hE (Z0 ++ [Hq c1])
   ·obtain rfl := zc hf1
    exact yB X0 hC hJ2 (w64 (x10 + 1)) hl1 (Z0 ++ [Hq c1])
  ·obtain rfl := zc hf1
   obtain rfl := hl1
   exact yB X0 hC hJ1 () hf0 [Hq c0]
noncomputable def Xy : Code := (Tryz.f76.body).getD .skip
noncomputable def Xi : zR := spF (α := List Int) (ρ := List UInt8) 76 (fun x => [F5_ x]) (fun r => W1 r) (fun x => Qq x) [] (Ux)
abbrev Jl (b_ : List Int) : List (Nat × T) := [(3, .own (eOs 1 true (eI .u8) b_))]
abbrev Jk (w_ : List Int) (b_1 : List Int) (x11 : Int) : List (Nat × T) := [(3, .own (eOs 1 true (eI .u8) b_1)), (9, .d (eSl 1 false (eI .i64) w_)), (10, .d (I ((w_.length : Nat) : Int))), (11, .d (I x11))]
theorem z1t {ctr : Ctr} (hC : zu Tryz.prog ctr) : Xi.Ok Tryz.prog := by
 refine zy ?_
 rintro w_ r0 hf0
 try unfold Qq at hf0
 refine yO true [(2, none)] Xy 24 Tryz.func76 fun E hE => ?_
 obtain ⟨g0, hf0⟩ := gdE hf0
 refine yJ X0 hC Xy [1,1] [] [3] (fun z : List Int => Xa z = some r0) (fun z => Jl z) [(0, .d (eSl 1 false (eI .i64) w_)), (3, .own (eOs 1 true (eI .u8) (List.replicate ((w_.length : Nat) : Int).toNat (0 : Int))))] [Ha (lnM (eI .i64) w_), Hn (rL g0), Ha (rM 1 (eI .u8) ((w_.length : Nat) : Int) (0 : Int)), Hh (.cut 0)] ?_ fun J1 hJ1 => ?_
 ·rintro b_ hf0
  unfold Xa at hf0
  obtain rfl := zc hf0
  exact yE ((zeu Tryz.prog z8k).or X0) hC hE [Hx (.a (W1 (u8s b_))) (stM b_)]
 ·obtain ⟨t2, ht2, hf0⟩ := zf hf0
  refine yL X0 hC Xy [1,1,2,1,0] [J1] (fun s => X9 w_ s.1 s.2) (fun x => Jk w_ x.1 x.2) ((List.replicate ((w_.length : Nat) : Int).toNat (0 : Int)), 0) ht2  [Ha (lnM (eI .i64) w_)] ?_
  rintro ⟨b_1, x11⟩ m2 lr1 hf1 hl1 J2 hJ2
  try unfold X9 at hf1
  rcases zO hf1 with ⟨c0, hf1⟩ | ⟨c0, hf1⟩
  ·obtain ⟨w__e, h0, hf1⟩ := zf hf1
   obtain ⟨b__e, h1, hf1⟩ := zf hf1
   obtain rfl := zc hf1
   exact yB X0 hC hJ2 ((b_1.set x11.toNat (IntKind.u8.wrap (w__e))), w64 (x11 + 1)) hl1 [Hq c0, Hi (eI .i64) h0, Hn (iL (eI .u8) h1), Hs (iM (eI .u8) h1), Hs (iM (eI .u8) h1), Hl (sM (eI .u8) b_1 x11 (IntKind.u8.wrap (w__e)))]
  ·obtain rfl := zc hf1
   obtain rfl := hl1
   exact yB X0 hC hJ1 b_1 hf0 [Hq c0]
noncomputable def wS : Code := (Tryz.f37.body).getD .skip
noncomputable def kI : zR := spF (α := List (List Int) × List (List Int) × Int) (ρ := List (List Int) × Int) 37 (fun x => [vJ x.1, vJ x.2.1, (eI .i64) x.2.2]) (fun r => .tup [W6 r.1, (eI .i64) r.2]) (fun x => Xh x.1 x.2.1 x.2.2) [] (zap)
abbrev V7 (out : List (List Int)) : List (Nat × T) := [(11, .own (eOs 1 false F5_ out))]
abbrev V6 (a_ : List (List Int)) (b_ : List (List Int)) (x29 : Int) (seen1 : List ((List UInt8) × Bool)) (n_1 : Int) (out2 : List (List Int)) : List (Nat × T) := [(1, .d (eSl 1 false F5_ b_)), (9, .own (.opq (Q4 (XI W1 eB seen1)))), (10, .d (I n_1)), (11, .own (eOs 1 false F5_ out2)), (27, .d (eSl 1 false F5_ a_)), (28, .d (I ((a_.length : Nat) : Int))), (29, .d (I x29))]
abbrev V5 (a_ : List (List Int)) (b_ : List (List Int)) (x29 : Int) (a__e : List Int) (x35 : Int) (seen3 : List ((List UInt8) × Bool)) (n_3 : Int) (out4 : List (List Int)) : List (Nat × T) := [(1, .d (eSl 1 false F5_ b_)), (9, .own (.opq (Q4 (XI W1 eB seen3)))), (10, .d (I n_3)), (11, .own (eOs 1 false F5_ out4)), (13, .d (eSl 1 false (eI .i64) a__e)), (27, .d (eSl 1 false F5_ a_)), (28, .d (I ((a_.length : Nat) : Int))), (29, .d (I x29)), (33, .d (eSl 1 false F5_ b_)), (34, .d (I ((b_.length : Nat) : Int))), (35, .d (I x35))]
abbrev V3 (a_ : List (List Int)) (b_ : List (List Int)) (x29 : Int) (a__e : List Int) (seen2 : List ((List UInt8) × Bool)) (n_2 : Int) (out3 : List (List Int)) (x35 : Int) : List (Nat × T) := [(1, .d (eSl 1 false F5_ b_)), (9, .own (.opq (Q4 (XI W1 eB seen2)))), (10, .d (I n_2)), (11, .own (eOs 1 false F5_ out3)), (13, .d (eSl 1 false (eI .i64) a__e)), (27, .d (eSl 1 false F5_ a_)), (28, .d (I ((a_.length : Nat) : Int))), (29, .d (I x29)), (33, .d (eSl 1 false F5_ b_)), (34, .d (I ((b_.length : Nat) : Int))), (35, .d (I x35))]
abbrev V4 (a_ : List (List Int)) (b_ : List (List Int)) (seen : List ((List UInt8) × Bool)) (n_ : Int) (out1 : List (List Int)) (x29 : Int) : List (Nat × T) := [(1, .d (eSl 1 false F5_ b_)), (9, .own (.opq (Q4 (XI W1 eB seen)))), (10, .d (I n_)), (11, .own (eOs 1 false F5_ out1)), (27, .d (eSl 1 false F5_ a_)), (28, .d (I ((a_.length : Nat) : Int))), (29, .d (I x29))]
theorem JG {ctr : Ctr} (hC : zu Tryz.prog ctr) (h_tries_both : ctr.Has Yd) (h_slices_Clip_int_int : ctr.Has yl) (h_tries_key : ctr.Has Xi) (h_tries_sorted : ctr.Has vQ) : kI.Ok Tryz.prog := by
 refine zy ?_
 rintro ⟨a_, b_, inputs⟩ r0 hf0
 try unfold Xh at hf0
 refine yO false [(6, none), (7, none)] wS 75 Tryz.func37 fun E hE => ?_
 obtain ⟨r_, h0, hf0⟩ := zf hf0
 let Z0 : List HO := [Hg (KT h_tries_both), Hm (shM vJ vJ ([a_, b_])), Hs (KU h_tries_both (x := (inputs, [a_, b_])) h0 (loC (eI .i64) inputs <| loC (eSl 1 true vJ) ([a_, b_] : List (List (List Int))) <| loN))]
 rcases zO hf0 with ⟨c0, hf0⟩ | ⟨c0, hf0⟩
 ·obtain rfl := zc hf0
  exact yEx X0 hC hE (Z0 ++ [Hq c0, Hm (shM F5_ F5_ [])]) (.tup [eSl 1 true F1_ [], I r_]) (show LeV (.tup [eSl 1 true F1_ [], I r_]) (.tup [eSl 1 true F1_ ([] : List (List Int)), I r_]) from inferInstance)
 ·refine yJ ((zcj Tryz.prog 26).or X0) hC wS [1,1,1,1,1] [] [11] (fun z : List (List Int) => kG z = some r0) (fun z => V7 z) [(0, .d (eSl 1 false F5_ a_)), (1, .d (eSl 1 false F5_ b_)), (9, .own (.opq (Q4 (XI W1 eB ([] : List ((List UInt8) × Bool)))))), (10, .d (I 0)), (11, .own (eOs 1 true F5_ []))] (Z0 ++ [Hq c0, Hh (.cut 3)]) ?_ fun J1 hJ1 => ?_
  ·rintro out hf0
   unfold kG at hf0
   obtain ⟨r_1, h1, hf0⟩ := zf hf0
   obtain rfl := zc hf0
   exact yE X0 hC hE [Hg (KT h_tries_sorted), Hm (shM F5_ F5_ out), Hs (KU h_tries_sorted (x := out) h1 (loC vJ out <| loN)), Hm (shM F5_ F5_ out)]
  ·obtain ⟨t2, ht2, hf0⟩ := zf hf0
   refine yLx X0 hC wS [1,1,1,1,1,2,1,0] [J1] (fun s => kE a_ b_ s.1 s.2.1 s.2.2.1 s.2.2.2) (fun x => V4 a_ b_ x.1 x.2.1 x.2.2.1 x.2.2.2) (([] : List ((List UInt8) × Bool)), 0, ([] : List (List Int)), 0) ht2 [(1, .d (eSl 1 false F5_ b_)), (9, .own (.opq (Q4 (XI W1 eB ([] : List ((List UInt8) × Bool)))))), (10, .d (I 0)), (11, .own (eOs 1 true F5_ [])), (27, .d (eSl 1 false F5_ a_)), (28, .d (I ((a_.length : Nat) : Int))), (29, .d (I 0))] inferInstance [Ha (lnM F5_ a_)] ?_
   rintro ⟨seen, n_, out1, x29⟩ m2 lr1 hf1 hl1 J2 hJ2
   try unfold kE at hf1
   rcases zO hf1 with ⟨c1, hf1⟩ | ⟨c1, hf1⟩
   ·refine yJ X0 hC wS [1,1,1,1,1,2,1,0,0,1,1] [J1, J2] [1,9,10,11,27,28,29] (fun z : (List ((List UInt8) × Bool)) × Int × List (List Int) => kF x29 z.1 z.2.1 z.2.2 = some lr1) (fun z => V6 a_ b_ x29 z.1 z.2.1 z.2.2) [(1, .d (eSl 1 false F5_ b_)), (9, .own (.opq (Q4 (XI W1 eB seen)))), (10, .d (I n_)), (11, .own (eOs 1 false F5_ out1)), (27, .d (eSl 1 false F5_ a_)), (28, .d (I ((a_.length : Nat) : Int))), (29, .d (I x29))] [Hq c1, Hh (.cut 0)] ?_ fun J3 hJ3 => ?_
    ·rintro ⟨seen1, n_1, out2⟩ hf1
     unfold kF at hf1
     obtain rfl := zc hf1
     exact yB X0 hC hJ2 (seen1, n_1, out2, w64 (x29 + 1)) hl1 []
    ·obtain ⟨a__e, h2, hf1⟩ := zf hf1
     obtain ⟨t4, ht4, hf1⟩ := zf hf1
     refine yL X0 hC wS [1,1,1,1,1,2,1,0,0,1,1,2,0,1,1,0] [J1, J2, J3] (fun s => kD b_ a__e s.1 s.2.1 s.2.2.1 s.2.2.2) (fun x => V3 a_ b_ x29 a__e x.1 x.2.1 x.2.2.1 x.2.2.2) (seen, n_, out1,0) ht4  [Hi F5_ h2, Ha (lnM F5_ b_)] ?_
     rintro ⟨seen2, n_2, out3, x35⟩ m4 lr2 hf2 hl2 J4 hJ4
     try unfold kD at hf2
     rcases zO hf2 with ⟨c2, hf2⟩ | ⟨c2, hf2⟩
     ·obtain ⟨b__e, h3, hf2⟩ := zf hf2
      obtain ⟨r_2, h4, hf2⟩ := zf hf2
      obtain ⟨g0, hf2⟩ := gdE hf2
      let Z1 : List HO := [Hq c2, Hi F5_ h3, Hc h_slices_Clip_int_int (x := a__e) h4 (loC F5_ a__e <| loN), Hn (apM (eI .i64) g0), Hl (aM (eI .i64) r_2 b__e), Ha (lnM (eI .i64) (r_2 ++ b__e))]
      rcases zO hf2 with ⟨c3, hf2⟩ | ⟨c3, hf2⟩
      ·obtain rfl := zc hf2
       obtain rfl := hl2
       obtain rfl := zc hf1
       obtain rfl := hl1
       obtain rfl := zc hf0
       exact yEx ((xAp zz 42).or X0) hC hE (Z1 ++ [Hq c3, Hm (shM F5_ F5_ [])]) (.tup [eSl 1 true F1_ [], I 3]) (show LeV (.tup [eSl 1 true F1_ [], I 3]) (.tup [eSl 1 true F1_ ([] : List (List Int)), I 3]) from inferInstance)
      ·refine yJ ((xAp zz 42).or X0) hC wS [1,1,1,1,1,2,1,0,0,1,1,2,0,1,1,0,0,1,1,0,0,1,1,1] [J1, J2, J3, J4] [1,9,10,11,13,27,28,29,33,34,35] (fun z : (List ((List UInt8) × Bool)) × Int × List (List Int) => uO x35 z.1 z.2.1 z.2.2 = some lr2) (fun z => V5 a_ b_ x29 a__e x35 z.1 z.2.1 z.2.2) [(1, .d (eSl 1 false F5_ b_)), (9, .own (.opq (Q4 (XI W1 eB seen2)))), (10, .d (I n_2)), (11, .own (eOs 1 false F5_ out3)), (13, .d (eSl 1 false (eI .i64) a__e)), (16, .d (eSl 1 false (eI .i64) (r_2 ++ b__e))), (27, .d (eSl 1 false F5_ a_)), (28, .d (I ((a_.length : Nat) : Int))), (29, .d (I x29)), (33, .d (eSl 1 false F5_ b_)), (34, .d (I ((b_.length : Nat) : Int))), (35, .d (I x35))] (Z1 ++ [Hq c3, Hh (.cut 0)]) ?_ fun J5 hJ5 => ?_
       ·rintro ⟨seen3, n_3, out4⟩ hf2
        unfold uO at hf2
        let Z2 : List HO := [Ha (lnM F5_ out4)]
        rcases zO hf2 with ⟨c4, hf2⟩ | ⟨c4, hf2⟩
        ·obtain rfl := zc hf2
         obtain rfl := hl2
         obtain rfl := zc hf1
         obtain rfl := hl1
         obtain rfl := zc hf0
         exact yEx X0 hC hE (Z2 ++ [Hq c4, Hq c4, Hq c4, qT, Hm (shM F5_ F5_ [])]) (.tup [eSl 1 true F1_ [], I 3]) (show LeV (.tup [eSl 1 true F1_ [], I 3]) (.tup [eSl 1 true F1_ ([] : List (List Int)), I 3]) from inferInstance)
        ·rcases zO hf2 with ⟨c5, hf2⟩ | ⟨c5, hf2⟩
         ·obtain rfl := zc hf2
          obtain rfl := hl2
          obtain rfl := zc hf1
          obtain rfl := hl1
          obtain rfl := zc hf0
          exact yEx X0 hC hE (Z2 ++ [Hq c4, Hq c4, Hq c4, Hq c5, Hm (shM F5_ F5_ [])]) (.tup [eSl 1 true F1_ [], I 3]) (show LeV (.tup [eSl 1 true F1_ [], I 3]) (.tup [eSl 1 true F1_ ([] : List (List Int)), I 3]) from inferInstance)
         ·obtain rfl := zc hf2
          exact yB X0 hC hJ4 (seen3, n_3, out4, w64 (x35 + 1)) hl2 (Z2 ++ [Hq c4, Hq c4, Hq c4, Hq c5])
       ·obtain ⟨r_3, h5, hf2⟩ := zf hf2
        obtain ⟨val, h6, hf2⟩ := zf hf2
        replace h6 := zc h6
        let Z3 : List HO := [Hc h_tries_key (x := (r_2 ++ b__e)) h5 (loC F5_ (r_2 ++ b__e) <| loN), Hn (⟨rfl, rfl, z7v (fun _ => rfl) seen2⟩ : A.opq (Q4 (XI W1 eB seen2)) = A.opq (Q4 (XI W1 eB seen2)) ∧ KO (W1 r_3) = true ∧ ∀ p ∈ XI W1 eB seen2, KO p.1 = true), Hx (.a (eB val)) ((zeY (f := W1) (g := eB) (z0 := false) (z := .atom (.bool false)) rfl r_3 seen2).trans (congrArg eB h6))]
        rcases zO hf2 with ⟨c6, hf2⟩ | ⟨c6, hf2⟩
        ·obtain ⟨g1, hf2⟩ := gdE hf2
         exact yB ((zet z4p 52 (XI W1 eB seen2) (XI W1 eB (z8B seen2 r_3 true))).or ((z9s z4p 50 (XI W1 eB seen2)).or X0)) hC hJ5 ((z8B seen2 r_3 true), w64 (n_2 + (((r_2 ++ b__e).length : Nat) : Int)), (out3 ++ ([(r_2 ++ b__e)] : List (List Int)))) hf2 (Z3 ++ [Hq c6, Hn (⟨rfl, rfl, rfl, rfl, z7v (fun _ => rfl) seen2⟩ : T.own (.opq (Q4 (XI W1 eB seen2))) = T.own (.opq (Q4 (XI W1 eB seen2))) ∧ 0 = 0 ∧ KO (W1 r_3) = true ∧ (eB true).isD = true ∧ ∀ p ∈ XI W1 eB seen2, KO p.1 = true), Hn (z8u (f := W1) (g := eB) r_3 true seen2), Hq (dM F5_ ([(r_2 ++ b__e)] : List (List Int))), Hn (dM F5_ ([(r_2 ++ b__e)] : List (List Int))), Hn (aL F5_ F5_ g1), Hl (aM F5_ out3 ([(r_2 ++ b__e)] : List (List Int))), Ha (lnM (eI .i64) (r_2 ++ b__e))])
        ·exact yB ((z9s z4p 50 (XI W1 eB seen2)).or X0) hC hJ5 (seen2, n_2, out3) hf2 (Z3 ++ [Hq c6])
     ·obtain rfl := zc hf2
      obtain rfl := hl2
      exact yB X0 hC hJ3 (seen2, n_2, out3) hf1 [Hq c2]
   ·obtain rfl := zc hf1
    obtain rfl := hl1
    exact yB X0 hC hJ1 out1 hf0 [Hq c1]
noncomputable def WY : Code := (Tryz.f10.body).getD .skip
noncomputable def vF : zR := spF (α := z6 × Int) (ρ := List (List Int) × Int) 10 (fun x => [x4 x.1, (eI .i64) x.2]) (fun r => .tup [W6 r.1, (eI .i64) r.2]) (fun x => u2 x.1 x.2) [] (X3)
theorem Vg {ctr : Ctr} (hC : zu Tryz.prog ctr) (h_covers_States : ctr.Has uq) (h_tries_Upto : ctr.Has Ye) (h_tries_Concat : ctr.Has kI) : vF.Ok Tryz.prog := by
 refine zy ?_
 rintro ⟨m_, k_⟩ r0 hf0
 try unfold u2 at hf0
 refine yO false [(4, none), (5, none)] WY 36 Tryz.func10 fun E hE => ?_
 obtain ⟨r_, h0, hf0⟩ := zf hf0
 let Z0 : List HO := [Hc h_covers_States (x := m_) h0 (loC x4 m_ <| loN)]
 rcases zO hf0 with ⟨c0, hf0⟩ | ⟨c0, hf0⟩
 ·obtain rfl := zc hf0
  exact yEx X0 hC hE (Z0 ++ [Hq c0, Hm (shM F5_ F5_ [])]) (.tup [eSl 1 true F1_ [], I r_.2]) (show LeV (.tup [eSl 1 true F1_ [], I r_.2]) (.tup [eSl 1 true F1_ ([] : List (List Int)), I r_.2]) from inferInstance)
 ·rcases zO hf0 with ⟨c1, hf0⟩ | ⟨c1, hf0⟩
  ·obtain rfl := zc hf0
   exact yEx X0 hC hE (Z0 ++ [Hq c0, Hq c1, Hm (shM F5_ F5_ [])]) (.tup [eSl 1 true F1_ [], I 1]) (show LeV (.tup [eSl 1 true F1_ [], I 1]) (.tup [eSl 1 true F1_ ([] : List (List Int)), I 1]) from inferInstance)
  ·obtain ⟨r_1, h1, hf0⟩ := zf hf0
   let Z1 : List HO := (Z0 ++ [Hq c0, Hq c1, Hc h_tries_Upto (x := (m_.Inputs, k_)) h1 (loC (eI .i64) m_.Inputs <| loC (eI .i64) k_ <| loN)])
   rcases zO hf0 with ⟨c2, hf0⟩ | ⟨c2, hf0⟩
   ·obtain rfl := zc hf0
    exact yEx X0 hC hE (Z1 ++ [Hq c2, Hm (shM F5_ F5_ [])]) (.tup [eSl 1 true F1_ [], I r_1.2]) (show LeV (.tup [eSl 1 true F1_ [], I r_1.2]) (.tup [eSl 1 true F1_ ([] : List (List Int)), I r_1.2]) from inferInstance)
   ·obtain ⟨r_2, h2, hf0⟩ := zf hf0
    obtain rfl := zc hf0
    exact yE X0 hC hE (Z1 ++ [Hq c2, Hc h_tries_Concat (x := (r_.1, r_1.1, m_.Inputs)) h2 (loC W6 r_.1 <| loC W6 r_1.1 <| loC (eI .i64) m_.Inputs <| loN)])
noncomputable def XA : Code := (Tryz.f9.body).getD .skip
noncomputable def vV : zR := spF (α := z6) (ρ := List (List Int) × Int) 9 (fun x => [x4 x]) (fun r => .tup [W6 r.1, (eI .i64) r.2]) (fun x => qa x) [] (Ux)
theorem XP {ctr : Ctr} (hC : zu Tryz.prog ctr) (h_covers_Switches : ctr.Has vF) : vV.Ok Tryz.prog := by
 refine zy ?_
 rintro m_ r0 hf0
 try unfold qa at hf0
 refine yO false [(2, none), (3, none)] XA 8 Tryz.func9 fun E hE => ?_
 obtain ⟨r_, h0, hf0⟩ := zf hf0
 obtain rfl := zc hf0
 exact yE X0 hC hE [Hc h_covers_Switches (x := (m_, 1)) h0 (loC x4 m_ <| loC (eI .i64) 1 <| loN)]
noncomputable def YH : Code := (Tryz.f41.body).getD .skip
noncomputable def Yg : zR := spF (α := List (List Int) × List (List Int)) (ρ := Bool) 41 (fun x => [vJ x.1, vJ x.2]) (fun r => eB r) (fun x => Vu x.1 x.2) [] (X3)
abbrev UR : List (Nat × T) := []
abbrev UQ (a_ : List (List Int)) (b_ : List (List Int)) (i_ : Int) : List (Nat × T) := [(0, .d (eSl 1 false F5_ a_)), (1, .d (eSl 1 false F5_ b_)), (5, .d (I i_))]
theorem z0o {ctr : Ctr} (hC : zu Tryz.prog ctr) (h_ref12_compare : ctr.Has up) : Yg.Ok Tryz.prog := by
 refine zy ?_
 rintro ⟨a_, b_⟩ r0 hf0
 try unfold Vu at hf0
 refine yO true [(4, none)] YH 27 Tryz.func41 fun E hE => ?_
 let Z0 : List HO := [Ha (lnM F5_ a_), Ha (lnM F5_ b_)]
 rcases zO hf0 with ⟨c0, hf0⟩ | ⟨c0, hf0⟩
 ·obtain rfl := zc hf0
  exact yE X0 hC hE (Z0 ++ [Hq c0])
 ·refine yJ X0 hC YH [1,1] [] [] (fun z : Unit => Yt = some r0) (fun z => UR) [(0, .d (eSl 1 false F5_ a_)), (1, .d (eSl 1 false F5_ b_))] (Z0 ++ [Hq c0, Hh (.cut 0)]) ?_ fun J1 hJ1 => ?_
  ·rintro ⟨⟩ hf0
   unfold Yt at hf0
   obtain rfl := zc hf0
   exact yE X0 hC hE []
  ·obtain ⟨t2, ht2, hf0⟩ := zf hf0
   refine yL X0 hC YH [1,1,2,1,0] [J1] (fun s => Ys a_ b_ s) (fun x => UQ a_ b_ x) 0 ht2  [] ?_
   rintro i_ m2 lr1 hf1 hl1 J2 hJ2
   try unfold Ys at hf1
   let Z1 : List HO := [Ha (lnM F5_ a_)]
   rcases zO hf1 with ⟨c1, hf1⟩ | ⟨c1, hf1⟩
   ·obtain ⟨a__e, h0, hf1⟩ := zf hf1
    obtain ⟨b__e, h1, hf1⟩ := zf hf1
    obtain ⟨r_, h2, hf1⟩ := zf hf1
    let Z2 : List HO := (Z1 ++ [Hq c1, Hi F5_ h0, Hi F5_ h1, Hc h_ref12_compare (x := (a__e, b__e)) h2 (loC F5_ a__e <| loC F5_ b__e <| loN)])
    rcases zO hf1 with ⟨c2, hf1⟩ | ⟨c2, hf1⟩
    ·obtain rfl := zc hf1
     obtain rfl := hl1
     obtain rfl := zc hf0
     exact yE X0 hC hE (Z2 ++ [Hq c2])
    ·obtain rfl := zc hf1
     exact yB X0 hC hJ2 (w64 (i_ + 1)) hl1 (Z2 ++ [Hq c2])
   ·obtain rfl := zc hf1
    obtain rfl := hl1
    exact yB X0 hC hJ1 () hf0 (Z1 ++ [Hq c1])
noncomputable def z04 : Code := (Tryz.f13.body).getD .skip
noncomputable def Yh : zR := spF (α := List (List Int) × List (List Int)) (ρ := Bool) 13 (fun x => [W6 x.1, vJ x.2]) (fun r => eB r) (fun x => ZU x.1 x.2) [] (X3)
theorem z0q {ctr : Ctr} (hC : zu Tryz.prog ctr) (h_ref12_Same : ctr.Has Yg) : Yh.Ok Tryz.prog := by
 refine zy ?_
 rintro ⟨a_, b_⟩ r0 hf0
 try unfold ZU at hf0
 refine yO true [(4, none)] z04 15 Tryz.func13 fun E hE => ?_
 obtain ⟨r_, h0, hf0⟩ := zf hf0
 let Z0 : List HO := [Hc h_ref12_Same (x := (a_, b_)) h0 (loC W6 a_ <| loC vJ b_ <| loN)]
 rcases zO hf0 with ⟨c0, hf0⟩ | ⟨c0, hf0⟩
 ·obtain rfl := zc hf0
  exact yE X0 hC hE (Z0 ++ [Hq c0, Hq c0, Ha (lnM F1_ a_), Hq c0, Hq c0, Ha (lnM F1_ a_), Hq c0, Hq c0])
 ·obtain rfl := zc hf0
  exact yE X0 hC hE (Z0 ++ (rpN 6 (Hq c0) []))
end Go.Own
