/- -/
import Derived.Test.YthnpknbgpmlbhaaGreatPartE
set_option linter.unusedVariables false
set_option linter.unusedSimpArgs false
namespace Go.Own
open Go.Proofs
set_option maxRecDepth 100000
set_option maxHeartbeats 8000000
def X0 : XH Tryz.prog := xB zz
theorem W8 : Tryz.prog.follows .mixedOrders = true := by kernel_rfl
section
variable {ctr : Ctr} {n : Fr} {Q : Exit → St → Prop} {c : Code} {fs : List Fm} {st : St}
theorem yE (X : XH Tryz.prog) (hC : zu Tryz.prog ctr) {E : St → Prop} {r : A} {keep : Bool} {rs : List (Nat × Option Nat)} (hE : ∀ st x R U, z52 yw keep rs st = some (x, R, U) → LeV x r → E st) (L : List HO) (e : zab X yw ctr n keep rs 4000 c fs st (hoH L) = some (r, hoO L) := by kernel_rfl) : AWP Tryz.prog n c st (Qf Tryz.prog n fs (z4n E)) := yE6 X zz hC W8 hE L e
theorem yEx (X : XH Tryz.prog) (hC : zu Tryz.prog ctr) {E : St → Prop} {r : A} {keep : Bool} {rs : List (Nat × Option Nat)} (hE : ∀ st x R U, z52 yw keep rs st = some (x, R, U) → LeV x r → E st) (L : List HO) (x : A) (hle : LeV x r) (e : zab X yw ctr n keep rs 4000 c fs st (hoH L) = some (x, hoO L) := by kernel_rfl) : AWP Tryz.prog n c st (Qf Tryz.prog n fs (z4n E)) := zfq X zz hC W8 hE L x hle e
theorem yB (X : XH Tryz.prog) (hC : zu Tryz.prog ctr) {τ : Type} {J : St → Prop} {live : List Nat} {S : τ → List (Nat × T)} {Inv : τ → Prop} (hJ : ∀ st' l' z, Inv z → Own.canon live st' = ofL l' → LeL l' (S z) → J st') (z : τ) (hz : Inv z) (L : List HO) (e : z0N X yw ctr n live 4000 c fs st (hoH L) = some (.back J, ofL (S z), hoO L) := by kernel_rfl) : AWP Tryz.prog n c st (Qf Tryz.prog n fs Q) := yB6 X zz hC W8 hJ z hz L e
theorem yA (X : XH Tryz.prog) (hC : zu Tryz.prog ctr) (bd : Code) (path : List Nat) (Js : List (St → Prop)) (l : List (Nat × T)) (L : List HO) (h : AWP Tryz.prog n (sub path bd) (ofL l) (Qf Tryz.prog n (frs path Js bd []) Q)) (e : z0N X yw ctr n (Wo l) 4000 c fs st (hoH L) = some (.at (sub path bd) (frs path Js bd []), ofL l, hoO L) := by kernel_rfl) : AWP Tryz.prog n c st (Qf Tryz.prog n fs Q) := yA6 X zz hC W8 bd path Js l L e h
theorem yAt (X : XH Tryz.prog) (hC : zu Tryz.prog ctr) (c' : Code) (fs' : List Fm) (l : List (Nat × T)) (L : List HO) (h : ∀ st0, Own.canon (Wo l) st0 = ofL l → AWP Tryz.prog n c' st0 (Qf Tryz.prog n fs' Q)) (e : z0N X yw ctr n (Wo l) 4000 c fs st (hoH L) = some (.at c' fs', ofL l, hoO L) := by kernel_rfl) : AWP Tryz.prog n c st (Qf Tryz.prog n fs Q) := zfr X zz hC W8 c' fs' l L e h
theorem yLx (X : XH Tryz.prog) (hC : zu Tryz.prog ctr) (bd : Code) (path : List Nat) (Js : List (St → Prop)) {σ τ : Type} (f : σ → Option (LR σ τ)) (S : σ → List (Nat × T)) (x0 : σ) {t : τ} (ht : loop f x0 = some t) (l : List (Nat × T)) (hl : LeL l (S x0)) (L : List HO) (round : ∀ x m lr, f x = some lr → zdm f m t lr → ∀ J : St → Prop, (∀ st' l' x', XY f m x' = some t → Own.canon (Wo l) st' = ofL l' → LeL l' (S x') → J st') → AWP Tryz.prog n (sub (path ++ [0]) bd) (ofL (S x)) (Qf Tryz.prog n (.pre J :: frs path Js bd []) Q)) (e : z0N X yw ctr n (Wo l) 4000 c fs st (hoH L) = some (.at (sub path bd) (frs path Js bd []), ofL l, hoO L) := by kernel_rfl) (e2 : sub path bd = .loop (sub (path ++ [0]) bd) := by kernel_rfl) (hk : ∀ x, Wo (S x) = Wo l := by exact fun _ => rfl) : AWP Tryz.prog n c st (Qf Tryz.prog n fs Q) := yL6 X zz hC W8 bd path Js f S x0 ht l hl L hk e e2 round
theorem yL (X : XH Tryz.prog) (hC : zu Tryz.prog ctr) (bd : Code) (path : List Nat) (Js : List (St → Prop)) {σ τ : Type} (f : σ → Option (LR σ τ)) (S : σ → List (Nat × T)) (x0 : σ) {t : τ} (ht : loop f x0 = some t) (L : List HO) (round : ∀ x m lr, f x = some lr → zdm f m t lr → ∀ J : St → Prop, (∀ st' l' x', XY f m x' = some t → Own.canon (Wo (S x0)) st' = ofL l' → LeL l' (S x') → J st') → AWP Tryz.prog n (sub (path ++ [0]) bd) (ofL (S x)) (Qf Tryz.prog n (.pre J :: frs path Js bd []) Q)) (e : z0N X yw ctr n (Wo (S x0)) 4000 c fs st (hoH L) = some (.at (sub path bd) (frs path Js bd []), ofL (S x0), hoO L) := by kernel_rfl) (e2 : sub path bd = .loop (sub (path ++ [0]) bd) := by kernel_rfl) (hk : ∀ x, Wo (S x) = Wo (S x0) := by exact fun _ => rfl) : AWP Tryz.prog n c st (Qf Tryz.prog n fs Q) := yL6 X zz hC W8 bd path Js f S x0 ht _ (LeL.refl _) L hk e e2 round
theorem yJ (X : XH Tryz.prog) (hC : zu Tryz.prog ctr) (bd : Code) (path : List Nat) (Js : List (St → Prop)) {σ : Type} (live : List Nat) (Inv : σ → Prop) (S : σ → List (Nat × T)) (l : List (Nat × T)) (L : List HO) (h1 : ∀ z, Inv z → AWP Tryz.prog n (sub (path ++ [1]) bd) (ofL (S z)) (Qf Tryz.prog n (frs path Js bd []) Q)) (h2 : ∀ J : St → Prop, (∀ st' l' z, Inv z → Own.canon live st' = ofL l' → LeL l' (S z) → J st') → AWP Tryz.prog n (sub (path ++ [2]) bd) (ofL l) (Qf Tryz.prog n (.pre J :: frs path Js bd []) Q)) (e : z0N X yw ctr n (Wo l) 4000 c fs st (hoH L) = some (.at (sub path bd) (frs path Js bd []), ofL l, hoO L) := by kernel_rfl) (e2 : sub path bd = .seq (sub (path ++ [2]) bd) (sub (path ++ [1]) bd) := by kernel_rfl) : AWP Tryz.prog n c st (Qf Tryz.prog n fs Q) := yJ6 X zz hC W8 bd path Js live Inv S l L e e2 h1 h2
theorem yF (X : XH Tryz.prog) (hC : zu Tryz.prog ctr) (ex : Exit) (l : List (Nat × T)) (L : List HO) (h : ∀ st0, Own.canon (Wo l) st0 = ofL l → Q ex st0) (e : z0N X yw ctr n (Wo l) 4000 c fs st (hoH L) = some (.fin ex, ofL l, hoO L) := by kernel_rfl) : AWP Tryz.prog n c st (Qf Tryz.prog n fs Q) := yF6 X zz hC W8 ex l L e h
theorem yO {k : Nat} {fn : Func} {r : A} {ls : List A} (keep : Bool) (rs : List (Nat × Option Nat)) (body : Code) (nt : Nat) (hf : Tryz.prog.funcs[k]? = some fn) (h : ∀ E : St → Prop, (∀ st x R U, z52 yw keep rs st = some (x, R, U) → LeV x r → E st) → AWP Tryz.prog ⟨nt, []⟩ body (ofL (z5C 0 ls)) (Qf Tryz.prog ⟨nt, []⟩ [] (z4n E))) (hb : fn.body = some body := by kernel_rfl) (hn : nt = fn.ntmps := by exact rfl) (hr : fn.results = (rs.map z16).toArray := by exact rfl) (hnm : (fn.name == "runtime.NumGoroutine") = false := by exact rfl) (ha : Nat.ble ls.length nt = true := by kernel_rfl) : Yb Tryz.prog k ls r := yO6 zz keep rs body nt hf hb hn hr hnm ha h
end
theorem z9i : zdl Tryz.prog 60 9 := z93 (e := 5) Tryz.underlying60 Tryz.underlying5 Tryz.underlying9
theorem z5p : za6 Tryz.prog 109 9 4 z0k (.atom (.bool false)) := z7h Tryz.underlying109 Tryz.underlying9 ⟨.bool false, fun w => z6s (f := Tryz.t4) (by kernel_rfl) rfl w, fun S => vj.2 ⟨rfl, rfl⟩⟩ rfl
theorem z9L : KN Tryz.prog 48 0 45 0 := Jq Tryz.underlying48 _ rfl rfl rfl
theorem z9K : KN Tryz.prog 48 1 46 1 := Jq Tryz.underlying48 _ rfl rfl rfl
theorem z9J : KN Tryz.prog 68 0 3 0 := Jq Tryz.underlying68 _ rfl rfl rfl
theorem zaM : za5 Tryz.prog 104 1 false := z6O zz (t := 77) Tryz.so104 rfl rfl (by kernel_rfl) (by decide)
noncomputable def wv : Code := (Tryz.f7.body).getD .skip
noncomputable def Yo : zR := spF (α := zY) (ρ := z7) 7 (fun x => [z2e x]) (fun r => xO r) (fun x => kE x) [] (Ul)
abbrev Q6 (x_ : zY) (m_Rows : List (List z8)) : List (Nat × T) := [(2, .own (.box (.agg [I 0, I 0, eOs 1 true vK []]))), (4, .own (.box (.agg [I (w64 (1 + (w64 (Int.tmod x_.Inputs 3)))), I (w64 (1 + (w64 (Int.tmod x_.Outputs 3)))), eOs 1 false z0P m_Rows])))]
abbrev Q5 (x_ : zY) (s_ : Int) (m_Rows2 : List (List z8)) : List (Nat × T) := [(1, .own (.box (z2e x_))), (2, .own (.box (.agg [I 0, I 0, eOs 1 true vK []]))), (3, .d (I (w64 (1 + (w64 (Int.tmod x_.States 6)))))), (4, .own (.box (.agg [I (w64 (1 + (w64 (Int.tmod x_.Inputs 3)))), I (w64 (1 + (w64 (Int.tmod x_.Outputs 3)))), eOs 1 false z0P m_Rows2]))), (5, .d (I s_))]
abbrev Q4 (x_ : zY) (m_Rows1 : List (List z8)) (s_ : Int) (row : List z8) : List (Nat × T) := [(1, .own (.box (z2e x_))), (2, .own (.box (.agg [I 0, I 0, eOs 1 true vK []]))), (3, .d (I (w64 (1 + (w64 (Int.tmod x_.States 6)))))), (4, .own (.box (.agg [I (w64 (1 + (w64 (Int.tmod x_.Inputs 3)))), I (w64 (1 + (w64 (Int.tmod x_.Outputs 3)))), eOs 1 false z0P m_Rows1]))), (5, .d (I s_)), (6, .own (eOs 2 false F8_ row))]
abbrev Q3 (x_ : zY) (m_Rows1 : List (List z8)) (s_ : Int) (i_ : Int) (row2 : List z8) : List (Nat × T) := [(1, .own (.box (z2e x_))), (2, .own (.box (.agg [I 0, I 0, eOs 1 true vK []]))), (3, .d (I (w64 (1 + (w64 (Int.tmod x_.States 6)))))), (4, .own (.box (.agg [I (w64 (1 + (w64 (Int.tmod x_.Inputs 3)))), I (w64 (1 + (w64 (Int.tmod x_.Outputs 3)))), eOs 1 false z0P m_Rows1]))), (5, .d (I s_)), (6, .own (eOs 2 false F8_ row2)), (7, .d (I i_))]
abbrev Q2 (x_ : zY) (m_Rows1 : List (List z8)) (s_ : Int) (row1 : List z8) (i_ : Int) (v_ : Int) : List (Nat × T) := [(1, .own (.box (z2e x_))), (2, .own (.box (.agg [I 0, I 0, eOs 1 true vK []]))), (3, .d (I (w64 (1 + (w64 (Int.tmod x_.States 6)))))), (4, .own (.box (.agg [I (w64 (1 + (w64 (Int.tmod x_.Inputs 3)))), I (w64 (1 + (w64 (Int.tmod x_.Outputs 3)))), eOs 1 false z0P m_Rows1]))), (5, .d (I s_)), (6, .own (eOs 2 false F8_ row1)), (7, .d (I i_)), (8, .d (I v_))]
abbrev Q0 (x_ : zY) (m_Rows1 : List (List z8)) (s_ : Int) (row1 : List z8) (i_ : Int) : List (Nat × T) := [(1, .own (.box (z2e x_))), (2, .own (.box (.agg [I 0, I 0, eOs 1 true vK []]))), (3, .d (I (w64 (1 + (w64 (Int.tmod x_.States 6)))))), (4, .own (.box (.agg [I (w64 (1 + (w64 (Int.tmod x_.Inputs 3)))), I (w64 (1 + (w64 (Int.tmod x_.Outputs 3)))), eOs 1 false z0P m_Rows1]))), (5, .d (I s_)), (6, .own (eOs 2 false F8_ row1)), (7, .d (I i_))]
abbrev Q1 (x_ : zY) (m_Rows1 : List (List z8)) (s_ : Int) : List (Nat × T) := [(1, .own (.box (z2e x_))), (2, .own (.box (.agg [I 0, I 0, eOs 1 true vK []]))), (3, .d (I (w64 (1 + (w64 (Int.tmod x_.States 6)))))), (4, .own (.box (.agg [I (w64 (1 + (w64 (Int.tmod x_.Inputs 3)))), I (w64 (1 + (w64 (Int.tmod x_.Outputs 3)))), eOs 1 false z0P m_Rows1]))), (5, .d (I s_))]
theorem z12 {ctr : Ctr} (hC : zu Tryz.prog ctr) : Yo.Ok Tryz.prog := by
 refine zx ?_
 rintro x_ r0 hf0
 try unfold kE at hf0
 refine yO false [(2, some 27)] wv 87 Tryz.func7 fun E hE => ?_
 obtain ⟨g0, hf0⟩ := gdE hf0
 obtain ⟨g1, hf0⟩ := gdE hf0
 obtain ⟨g2, hf0⟩ := gdE hf0
 refine yJ X0 hC wv [1,1,1] [] [2,4] (fun z : List (List z8) => kn x_ z = some r0) (fun z => Q6 x_ z) [(1, .own (.box (z2e x_))), (2, .own (.box (.agg [I 0, I 0, eOs 1 true vK []]))), (3, .d (I (w64 (1 + (w64 (Int.tmod x_.States 6)))))), (4, .own (.box (.agg [I (w64 (1 + (w64 (Int.tmod x_.Inputs 3)))), I (w64 (1 + (w64 (Int.tmod x_.Outputs 3)))), eOs 1 true vK []])))] [Hn g0, Hn g1, Hn g2, Hh (.cut 3)] ?_ fun J1 hJ1 => ?_
 ·rintro m_Rows hf0
  unfold kn at hf0
  obtain rfl := zb hf0
  exact yE X0 hC hE [Hm (shM z0P vK m_Rows)]
 ·obtain ⟨t2, ht2, hf0⟩ := zg hf0
  refine yLx X0 hC wv [1,1,1,2,1,0] [J1] (fun s => kj x_ s.1 s.2) (fun x => Q1 x_ x.1 x.2) (([] : List (List z8)), 0) ht2 [(1, .own (.box (z2e x_))), (2, .own (.box (.agg [I 0, I 0, eOs 1 true vK []]))), (3, .d (I (w64 (1 + (w64 (Int.tmod x_.States 6)))))), (4, .own (.box (.agg [I (w64 (1 + (w64 (Int.tmod x_.Inputs 3)))), I (w64 (1 + (w64 (Int.tmod x_.Outputs 3)))), eOs 1 true z0P []]))), (5, .d (I 0))] inferInstance [] ?_
  rintro ⟨m_Rows1, s_⟩ m2 lr1 hf1 hl1 J2 hJ2
  try unfold kj at hf1
  rcases zQ hf1 with ⟨c0, hf1⟩ | ⟨c0, hf1⟩
  ·refine yJ X0 hC wv [1,1,1,2,1,0,0,1] [J1, J2] [1,2,3,4,5] (fun z : List (List z8) => km s_ z = some lr1) (fun z => Q5 x_ s_ z) [(1, .own (.box (z2e x_))), (2, .own (.box (.agg [I 0, I 0, eOs 1 true vK []]))), (3, .d (I (w64 (1 + (w64 (Int.tmod x_.States 6)))))), (4, .own (.box (.agg [I (w64 (1 + (w64 (Int.tmod x_.Inputs 3)))), I (w64 (1 + (w64 (Int.tmod x_.Outputs 3)))), eOs 1 false z0P m_Rows1]))), (5, .d (I s_))] [Hq c0, Hh (.cut 0)] ?_ fun J3 hJ3 => ?_
   ·rintro m_Rows2 hf1
    unfold km at hf1
    obtain rfl := zb hf1
    exact yB X0 hC hJ2 (m_Rows2, w64 (s_ + 1)) hl1 []
   ·refine yJ X0 hC wv [1,1,1,2,1,0,0,1,2,0,1] [J1, J2, J3] [1,2,3,4,5,6] (fun z : List z8 => kl m_Rows1 s_ z = some lr1) (fun z => Q4 x_ m_Rows1 s_ z) [(1, .own (.box (z2e x_))), (2, .own (.box (.agg [I 0, I 0, eOs 1 true vK []]))), (3, .d (I (w64 (1 + (w64 (Int.tmod x_.States 6)))))), (4, .own (.box (.agg [I (w64 (1 + (w64 (Int.tmod x_.Inputs 3)))), I (w64 (1 + (w64 (Int.tmod x_.Outputs 3)))), eOs 1 false z0P m_Rows1]))), (5, .d (I s_)), (6, .own (eOs 2 true F8_ []))] [Hh (.cut 1)] ?_ fun J4 hJ4 => ?_
    ·rintro row hf1
     unfold kl at hf1
     obtain ⟨g3, hf1⟩ := gdE hf1
     exact yB X0 hC hJ3 (m_Rows1 ++ ([row] : List (List z8))) hf1 [Hq (oC z0P row []), Hn (aL z0P z0P g3), Hl (aM z0P m_Rows1 ([row] : List (List z8)))]
    ·obtain ⟨t5, ht5, hf1⟩ := zg hf1
     refine yLx X0 hC wv [1,1,1,2,1,0,0,1,2,0,1,2,1,0] [J1, J2, J3, J4] (fun s => uZ x_ s_ s.1 s.2) (fun x => Q0 x_ m_Rows1 s_ x.1 x.2) (([] : List z8), 0) ht5 [(1, .own (.box (z2e x_))), (2, .own (.box (.agg [I 0, I 0, eOs 1 true vK []]))), (3, .d (I (w64 (1 + (w64 (Int.tmod x_.States 6)))))), (4, .own (.box (.agg [I (w64 (1 + (w64 (Int.tmod x_.Inputs 3)))), I (w64 (1 + (w64 (Int.tmod x_.Outputs 3)))), eOs 1 false z0P m_Rows1]))), (5, .d (I s_)), (6, .own (eOs 2 true F8_ [])), (7, .d (I 0))] inferInstance [] ?_
     rintro ⟨row1, i_⟩ m5 lr2 hf2 hl2 J5 hJ5
     try unfold uZ at hf2
     rcases zQ hf2 with ⟨c1, hf2⟩ | ⟨c1, hf2⟩
     ·refine yJ X0 hC wv [1,1,1,2,1,0,0,1,2,0,1,2,1,0,0,1] [J1, J2, J3, J4, J5] [1,2,3,4,5,6,7] (fun z : List z8 => q9 i_ z = some lr2) (fun z => Q3 x_ m_Rows1 s_ i_ z) [(1, .own (.box (z2e x_))), (2, .own (.box (.agg [I 0, I 0, eOs 1 true vK []]))), (3, .d (I (w64 (1 + (w64 (Int.tmod x_.States 6)))))), (4, .own (.box (.agg [I (w64 (1 + (w64 (Int.tmod x_.Inputs 3)))), I (w64 (1 + (w64 (Int.tmod x_.Outputs 3)))), eOs 1 false z0P m_Rows1]))), (5, .d (I s_)), (6, .own (eOs 2 false F8_ row1)), (7, .d (I i_))] [Hq c1, Hh (.cut 0)] ?_ fun J6 hJ6 => ?_
      ·rintro row2 hf2
       unfold q9 at hf2
       obtain rfl := zb hf2
       exact yB X0 hC hJ5 (row2, w64 (i_ + 1)) hl2 []
      ·refine yJ X0 hC wv [1,1,1,2,1,0,0,1,2,0,1,2,1,0,0,1,2,0,1] [J1, J2, J3, J4, J5, J6] [1,2,3,4,5,6,7,8] (fun z : Int => v6 x_ row1 i_ z = some lr2) (fun z => Q2 x_ m_Rows1 s_ row1 i_ z) [(1, .own (.box (z2e x_))), (2, .own (.box (.agg [I 0, I 0, eOs 1 true vK []]))), (3, .d (I (w64 (1 + (w64 (Int.tmod x_.States 6)))))), (4, .own (.box (.agg [I (w64 (1 + (w64 (Int.tmod x_.Inputs 3)))), I (w64 (1 + (w64 (Int.tmod x_.Outputs 3)))), eOs 1 false z0P m_Rows1]))), (5, .d (I s_)), (6, .own (eOs 2 false F8_ row1)), (7, .d (I i_)), (8, .d (I 0))] [Hh (.cut 1)] ?_ fun J7 hJ7 => ?_
       ·rintro v_ hf2
        unfold v6 at hf2
        rcases zQ hf2 with ⟨c2, hf2⟩ | ⟨c2, hf2⟩
        ·obtain ⟨g4, hf2⟩ := gdE hf2
         let Z0 : List HO := [Hq c2, Hq c2, Hn g4, Hq c2, Hq c2]
         rcases zQ hf2 with ⟨c3, hf2⟩ | ⟨c3, hf2⟩
         ·obtain ⟨g5, hf2⟩ := gdE hf2
          exact yB X0 hC hJ6 (row1 ++ ([(z8.mk (-1) (-1))] : List z8)) hf2 (Z0 ++ [Hq c3, Hq (dM F8_ ([(z8.mk (-1) (-1))] : List z8)), Hn (dM F8_ ([(z8.mk (-1) (-1))] : List z8)), Hn (aL F8_ F8_ g5), Hl (aM F8_ row1 ([(z8.mk (-1) (-1))] : List z8))])
         ·obtain ⟨g6, hf2⟩ := gdE hf2
          obtain ⟨g7, hf2⟩ := gdE hf2
          obtain ⟨g8, hf2⟩ := gdE hf2
          obtain ⟨g9, hf2⟩ := gdE hf2
          obtain ⟨g10, hf2⟩ := gdE hf2
          obtain ⟨g11, hf2⟩ := gdE hf2
          exact yB X0 hC hJ6 (row1 ++ ([(z8.mk (Int.tmod (w64 (Int.tdiv v_ 4)) (w64 (1 + (w64 (Int.tmod x_.States 6))))) (Int.tmod (w64 (Int.tdiv (w64 (Int.tdiv v_ 4)) (w64 (1 + (w64 (Int.tmod x_.States 6)))))) (w64 (1 + (w64 (Int.tmod x_.Outputs 3))))))] : List z8)) hf2 (Z0 ++ [Hq c3, Hn g6, Hn g7, Hn g8, Hn g9, Hn g10, Hq (dM F8_ ([(z8.mk (Int.tmod (w64 (Int.tdiv v_ 4)) (w64 (1 + (w64 (Int.tmod x_.States 6))))) (Int.tmod (w64 (Int.tdiv (w64 (Int.tdiv v_ 4)) (w64 (1 + (w64 (Int.tmod x_.States 6)))))) (w64 (1 + (w64 (Int.tmod x_.Outputs 3))))))] : List z8)), Hn (dM F8_ ([(z8.mk (Int.tmod (w64 (Int.tdiv v_ 4)) (w64 (1 + (w64 (Int.tmod x_.States 6))))) (Int.tmod (w64 (Int.tdiv (w64 (Int.tdiv v_ 4)) (w64 (1 + (w64 (Int.tmod x_.States 6)))))) (w64 (1 + (w64 (Int.tmod x_.Outputs 3))))))] : List z8)), Hn (aL F8_ F8_ g11), Hl (aM F8_ row1 ([(z8.mk (Int.tmod (w64 (Int.tdiv v_ 4)) (w64 (1 + (w64 (Int.tmod x_.States 6))))) (Int.tmod (w64 (Int.tdiv (w64 (Int.tdiv v_ 4)) (w64 (1 + (w64 (Int.tmod x_.States 6)))))) (w64 (1 + (w64 (Int.tmod x_.Outputs 3))))))] : List z8))])
        ·obtain ⟨g12, hf2⟩ := gdE hf2
         obtain ⟨g13, hf2⟩ := gdE hf2
         obtain ⟨g14, hf2⟩ := gdE hf2
         obtain ⟨g15, hf2⟩ := gdE hf2
         obtain ⟨g16, hf2⟩ := gdE hf2
         obtain ⟨g17, hf2⟩ := gdE hf2
         exact yB X0 hC hJ6 (row1 ++ ([(z8.mk (Int.tmod (w64 (Int.tdiv v_ 4)) (w64 (1 + (w64 (Int.tmod x_.States 6))))) (Int.tmod (w64 (Int.tdiv (w64 (Int.tdiv v_ 4)) (w64 (1 + (w64 (Int.tmod x_.States 6)))))) (w64 (1 + (w64 (Int.tmod x_.Outputs 3))))))] : List z8)) hf2 (rpN 4 (Hq c2) [qF, Hn g12, Hn g13, Hn g14, Hn g15, Hn g16, Hq (dM F8_ ([(z8.mk (Int.tmod (w64 (Int.tdiv v_ 4)) (w64 (1 + (w64 (Int.tmod x_.States 6))))) (Int.tmod (w64 (Int.tdiv (w64 (Int.tdiv v_ 4)) (w64 (1 + (w64 (Int.tmod x_.States 6)))))) (w64 (1 + (w64 (Int.tmod x_.Outputs 3))))))] : List z8)), Hn (dM F8_ ([(z8.mk (Int.tmod (w64 (Int.tdiv v_ 4)) (w64 (1 + (w64 (Int.tmod x_.States 6))))) (Int.tmod (w64 (Int.tdiv (w64 (Int.tdiv v_ 4)) (w64 (1 + (w64 (Int.tmod x_.States 6)))))) (w64 (1 + (w64 (Int.tmod x_.Outputs 3))))))] : List z8)), Hn (aL F8_ F8_ g17), Hl (aM F8_ row1 ([(z8.mk (Int.tmod (w64 (Int.tdiv v_ 4)) (w64 (1 + (w64 (Int.tmod x_.States 6))))) (Int.tmod (w64 (Int.tdiv (w64 (Int.tdiv v_ 4)) (w64 (1 + (w64 (Int.tmod x_.States 6)))))) (w64 (1 + (w64 (Int.tmod x_.Outputs 3))))))] : List z8))])
       ·let Z1 : List HO := [Ha (lnM (eI .u16) x_.Edges)]
        rcases zQ hf2 with ⟨c4, hf2⟩ | ⟨c4, hf2⟩
        ·obtain ⟨Edge_e, h0, hf2⟩ := zg hf2
         exact yB X0 hC hJ7 (w64 (Edge_e)) hf2 (Z1 ++ [Hq c4, Hi (eI .u16) h0])
        ·exact yB X0 hC hJ7 0 hf2 (Z1 ++ [Hq c4])
     ·obtain rfl := zb hf2
      obtain rfl := hl2
      exact yB X0 hC hJ4 row1 hf1 [Hq c1]
  ·obtain rfl := zb hf1
   obtain rfl := hl1
   exact yB X0 hC hJ1 m_Rows1 hf0 [Hq c0]
noncomputable def UE : Code := (Tryz.f115.body).getD .skip
noncomputable def jJ : zR := spF (α := Unit) (ρ := z8) 115 (fun x => []) (fun r => F8_ r) (fun x => ki) [] (fun _ _ _ => rfl)
theorem Qs {ctr : Ctr} (hC : zu Tryz.prog ctr) : jJ.Ok Tryz.prog := by
 refine zx ?_
 rintro ⟨⟩ r0 hf0
 try unfold ki at hf0
 refine yO false [(0, some 68)] UE 2 Tryz.func115 fun E hE => ?_
 obtain rfl := zb hf0
 exact yE X0 hC hE []
noncomputable def UF : Code := (Tryz.f99.body).getD .skip
noncomputable def jK : zR := spF (α := z7 × z8) (ρ := Bool) 99 (fun x => [xO x.1, F8_ x.2]) (fun r => eB r) (fun x => uX x.1 x.2) [] (X3)
theorem Qt {ctr : Ctr} (hC : zu Tryz.prog ctr) (h_machines_none : ctr.Has jJ) : jK.Ok Tryz.prog := by
 refine zx ?_
 rintro ⟨m_, x_⟩ r0 hf0
 try unfold uX at hf0
 refine yO true [(4, none)] UF 33 Tryz.func99 fun E hE => ?_
 obtain ⟨r_, h0, hf0⟩ := zg hf0
 let Z0 : List HO := [Hc h_machines_none (x := ()) h0 (loN)]
 rcases zQ hf0 with ⟨c0, hf0⟩ | ⟨c0, hf0⟩
 ·obtain rfl := zb hf0
  exact yE X0 hC hE (Z0 ++ (rpN 10 (Hq c0) []))
 ·let Z1 : List HO := (Z0 ++ (rpN 4 (Hq c0) []))
  rcases zQ hf0 with ⟨c1, hf0⟩ | ⟨c1, hf0⟩
  ·let Z2 : List HO := (Z1 ++ (rpN 5 (Hq c1) [Ha (lnM vK m_.Rows), Hq c1, Hq c0, Hq c1, Hq c0]))
   rcases zQ hf0 with ⟨c2, hf0⟩ | ⟨c2, hf0⟩
   ·let Z3 : List HO := (Z2 ++ [Hq c2, Hq c2, Hq c2, Hq c0, Hq c2, Hq c0])
    rcases zQ hf0 with ⟨c3, hf0⟩ | ⟨c3, hf0⟩
    ·obtain rfl := zb hf0
     exact yE X0 hC hE (Z3 ++ (rpN 5 (Hq c3) [Hq c0, Hq c3, Hq c0]))
    ·obtain rfl := zb hf0
     exact yE X0 hC hE (Z3 ++ (rpN 5 (Hq c3) [Hq c0, Hq c3, Hq c0]))
   ·obtain rfl := zb hf0
    exact yE X0 hC hE (Z2 ++ (Hq c2 :: Hq c2 :: Hq c2 :: Hq c0 :: Hq c2 :: Hq c0 :: (rpN 5 qF [Hq c0, qF, Hq c0])))
  ·obtain rfl := zb hf0
   exact yE X0 hC hE (Z1 ++ (rpN 6 (Hq c1) (Hq c0 :: Hq c1 :: Hq c0 :: qF :: qF :: qF :: Hq c0 :: qF :: Hq c0 :: (rpN 5 qF [Hq c0, qF, Hq c0]))))
noncomputable def Wt : Code := (Tryz.f98.body).getD .skip
noncomputable def ut : zR := spF (α := z8 × z7) (ρ := Bool) 98 (fun x => [F8_ x.1, z82 x.2]) (fun r => eB r) (fun x => uo x.1 x.2) [] (X3)
theorem WE {ctr : Ctr} (hC : zu Tryz.prog ctr) (h_machines_fits : ctr.Has jK) : ut.Ok Tryz.prog := by
 refine zx ?_
 rintro ⟨x_, x1⟩ r0 hf0
 try unfold uo at hf0
 refine yO true [(3, none)] Wt 8 Tryz.func98 fun E hE => ?_
 obtain ⟨r_, h0, hf0⟩ := zg hf0
 obtain rfl := zb hf0
 exact yE X0 hC hE [Hc h_machines_fits (x := (x1, x_)) h0 (loC xO x1 <| loC F8_ x_ <| loN)]
noncomputable def yk : Code := (Tryz.f114.body).getD .skip
noncomputable def yh : zR := spF (α := List z8 × z7) (ρ := Int) 114 (fun x => [vK x.1, (Xz 98 z82) x.2]) (fun r => (eI .i64) r) (fun x => y6 x.1 x.2) [] (by
 rintro ⟨a0, a1⟩ ⟨b0, b1⟩ h
 have e0 := uJ.inj (f := vK) _ _ (List.cons.inj h).1
 replace h := (List.cons.inj h).2
 have e1 := uJ.inj (f := (Xz 98 z82)) _ _ (List.cons.inj h).1
 subst e0 e1
 rfl)
abbrev vI : List (Nat × T) := []
abbrev vH (s_ : List z8) (f_ : z7) (x8 : Int) : List (Nat × T) := [(0, .d (eSl 2 false F8_ s_)), (1, .d (.fn 98 [.sptr (.agg [I f_.Inputs, I f_.Outputs, eSl 1 false vK f_.Rows])])), (7, .d (I ((s_.length : Nat) : Int))), (8, .d (I x8))]
theorem ui {ctr : Ctr} (hC : zu Tryz.prog ctr) (h_machines_Check_1 : ctr.Has ut) : yh.Ok Tryz.prog := by
 refine zx ?_
 rintro ⟨s_, f_⟩ r0 hf0
 try unfold y6 at hf0
 refine yO true [(4, none)] yk 19 Tryz.func114 fun E hE => ?_
 refine yJ X0 hC yk [1] [] [] (fun z : Unit => yi = some r0) (fun z => vI) [(0, .d (eSl 2 false F8_ s_)), (1, .d (.fn 98 [.sptr (.agg [I f_.Inputs, I f_.Outputs, eSl 1 false vK f_.Rows])]))] [Hh (.cut 1)] ?_ fun J1 hJ1 => ?_
 ·rintro ⟨⟩ hf0
  unfold yi at hf0
  obtain rfl := zb hf0
  exact yE X0 hC hE []
 ·obtain ⟨t2, ht2, hf0⟩ := zg hf0
  refine yL X0 hC yk [1,2,1,0] [J1] (fun s => zB s_ f_ s) (fun x => vH s_ f_ x) 0 ht2  [Ha (lnM F8_ s_)] ?_
  rintro x8 m2 lr1 hf1 hl1 J2 hJ2
  try unfold zB at hf1
  rcases zQ hf1 with ⟨c0, hf1⟩ | ⟨c0, hf1⟩
  ·obtain ⟨s__e, h0, hf1⟩ := zg hf1
   obtain ⟨r_, h1, hf1⟩ := zg hf1
   let Z0 : List HO := [Hq c0, Hi F8_ h0, Hc h_machines_Check_1 (x := (s__e, f_)) h1 (loC F8_ s__e <| loC z82 f_ <| loN)]
   rcases zQ hf1 with ⟨c1, hf1⟩ | ⟨c1, hf1⟩
   ·obtain rfl := zb hf1
    obtain rfl := hl1
    obtain rfl := zb hf0
    exact yE X0 hC hE (Z0 ++ [Hq c1])
   ·obtain rfl := zb hf1
    exact yB X0 hC hJ2 (w64 (x8 + 1)) hl1 (Z0 ++ [Hq c1])
  ·obtain rfl := zb hf1
   obtain rfl := hl1
   exact yB X0 hC hJ1 () hf0 [Hq c0]
noncomputable def vG : Code := (Tryz.f97.body).getD .skip
noncomputable def yb : zR := spF (α := List z8 × z7) (ρ := Bool) 97 (fun x => [vK x.1, (Xz 98 z82) x.2]) (fun r => eB r) (fun x => zL x.1 x.2) [] (by
 rintro ⟨a0, a1⟩ ⟨b0, b1⟩ h
 have e0 := uJ.inj (f := vK) _ _ (List.cons.inj h).1
 replace h := (List.cons.inj h).2
 have e1 := uJ.inj (f := (Xz 98 z82)) _ _ (List.cons.inj h).1
 subst e0 e1
 rfl)
theorem vL {ctr : Ctr} (hC : zu Tryz.prog ctr) (h_slices_IndexFunc_api_Edge_api_Edge : ctr.Has yh) : yb.Ok Tryz.prog := by
 refine zx ?_
 rintro ⟨s_, f_⟩ r0 hf0
 try unfold zL at hf0
 refine yO true [(4, none)] vG 9 Tryz.func97 fun E hE => ?_
 obtain ⟨r_, h0, hf0⟩ := zg hf0
 obtain rfl := zb hf0
 exact yE X0 hC hE [Hc h_slices_IndexFunc_api_Edge_api_Edge (x := (s_, f_)) h0 (loC vK s_ <| loC (Xz 98 z82) f_ <| loN)]
noncomputable def j7 : Code := (Tryz.f67.body).getD .skip
noncomputable def wN : zR := spF (α := z7) (ρ := Int) 67 (fun x => [xO x]) (fun r => (eI .i64) r) (fun x => wD x) [] (Ul)
abbrev W2 : List (Nat × T) := []
abbrev W1 (m_ : z7) (x36 : Int) : List (Nat × T) := [(1, .d (.sptr (xO m_))), (34, .d (eSl 1 false vK m_.Rows)), (35, .d (I ((m_.Rows.length : Nat) : Int))), (36, .d (I x36))]
theorem Uw {ctr : Ctr} (hC : zu Tryz.prog ctr) (h_slices_ContainsFunc_api_Edge_api_Edge : ctr.Has yb) : wN.Ok Tryz.prog := by
 refine zx ?_
 rintro m_ r0 hf0
 try unfold wD at hf0
 refine yO true [(2, none)] j7 51 Tryz.func67 fun E hE => ?_
 rcases zQ hf0 with ⟨c0, hf0⟩ | ⟨c0, hf0⟩
 ·obtain rfl := zb hf0
  exact yE X0 hC hE (rpN 4 (Hq c0) (rpN 6 qT []))
 ·let Z0 : List HO := (rpN 4 (Hq c0) [])
  rcases zQ hf0 with ⟨c1, hf0⟩ | ⟨c1, hf0⟩
  ·obtain rfl := zb hf0
   exact yE X0 hC hE (Z0 ++ (rpN 5 (Hq c1) [qT]))
  ·let Z1 : List HO := (Z0 ++ [Hq c1, Hq c1, Hq c1, Ha (lnM vK m_.Rows), Hq c1, Hq c1])
   rcases zQ hf0 with ⟨c2, hf0⟩ | ⟨c2, hf0⟩
   ·obtain rfl := zb hf0
    exact yE X0 hC hE (Z1 ++ [Hq c2])
   ·rcases zQ hf0 with ⟨c3, hf0⟩ | ⟨c3, hf0⟩
    ·obtain rfl := zb hf0
     exact yE X0 hC hE (Z1 ++ (Hq c2 :: (rpN 4 (Hq c3) (rpN 6 qT []))))
    ·let Z2 : List HO := (Z1 ++ (Hq c2 :: (rpN 4 (Hq c3) [])))
     rcases zQ hf0 with ⟨c4, hf0⟩ | ⟨c4, hf0⟩
     ·obtain rfl := zb hf0
      exact yE X0 hC hE (Z2 ++ (rpN 5 (Hq c4) [qT]))
     ·let Z3 : List HO := (Z2 ++ [Hq c4, Hq c4, Hq c4, Ha (lnM vK m_.Rows), Hq c4, Hq c4])
      rcases zQ hf0 with ⟨c5, hf0⟩ | ⟨c5, hf0⟩
      ·obtain rfl := zb hf0
       exact yE X0 hC hE (Z3 ++ [Hq c5])
      ·refine yJ X0 hC j7 [1,1,1] [] [] (fun z : Unit => qR = some r0) (fun z => W2) [(1, .own (.box (xO m_)))] (Z3 ++ [Hq c5, Hh (.cut 0)]) ?_ fun J1 hJ1 => ?_
       ·rintro ⟨⟩ hf0
        unfold qR at hf0
        obtain rfl := zb hf0
        exact yE X0 hC hE []
       ·obtain ⟨t2, ht2, hf0⟩ := zg hf0
        refine yL X0 hC j7 [1,1,1,2,1,0] [J1] (fun s => xM m_ s) (fun x => W1 m_ x) 0 ht2  [Ha (lnM vK m_.Rows), Hh (.n 1 [1])] ?_
        rintro x36 m2 lr1 hf1 hl1 J2 hJ2
        try unfold xM at hf1
        rcases zQ hf1 with ⟨c6, hf1⟩ | ⟨c6, hf1⟩
        ·obtain ⟨Row_e, h0, hf1⟩ := zg hf1
         let Z4 : List HO := [Hq c6, Hi vK h0, Ha (lnM F8_ Row_e)]
         rcases zQ hf1 with ⟨c7, hf1⟩ | ⟨c7, hf1⟩
         ·obtain rfl := zb hf1
          obtain rfl := hl1
          obtain rfl := zb hf0
          exact yE X0 hC hE (Z4 ++ (rpN 4 (Hq c7) [qT]))
         ·obtain ⟨r_, h1, hf1⟩ := zg hf1
          let Z5 : List HO := (Z4 ++ [Hq c7, Hq c7, Hq c7, Hc h_slices_ContainsFunc_api_Edge_api_Edge (x := (Row_e, m_)) h1 (loC vK Row_e <| loC (Xz 98 z82) m_ <| loN), Hq c7])
          rcases zQ hf1 with ⟨c8, hf1⟩ | ⟨c8, hf1⟩
          ·obtain rfl := zb hf1
           obtain rfl := hl1
           obtain rfl := zb hf0
           exact yE X0 hC hE (Z5 ++ [Hq c8])
          ·obtain rfl := zb hf1
           exact yB X0 hC hJ2 (w64 (x36 + 1)) hl1 (Z5 ++ [Hq c8])
        ·obtain rfl := zb hf1
         obtain rfl := hl1
         exact yB X0 hC hJ1 () hf0 [Hq c6]
noncomputable def qe : Code := (Tryz.f68.body).getD .skip
abbrev Zo (cv0 : Value) (cv1 : Value) (cv2 : Value) (Row_e : List z8) (x1 : List Bool) (x2_Inputs : Int) (x2_Outputs : Int) (x2_Rows : List (List z8)) (x24 : Int) : List (Nat × T) := [(1, .own (.box (eOs 1 true eB x1))), (2, .own (.box (.agg [I x2_Inputs, I x2_Outputs, eSl 1 false vK x2_Rows]))), (3, .own (.box (.fn 68 [.atom cv0, .atom cv1, .atom cv2]))), (22, .d (eSl 2 false F8_ Row_e)), (23, .d (I ((Row_e.length : Nat) : Int))), (24, .d (I x24))]
theorem X6 {ctr : Ctr} (hC : zu Tryz.prog ctr) (cv0 : Value) (cv1 : Value) (cv2 : Value) : ∀ (fu : Nat) (s_ : Int) (y0 : List Bool) (y1 : z7) (r0 : List Bool × z7), zT fu s_ y0 y1 = some r0 → vY Tryz.prog (.fn 68 [.atom cv0, .atom cv1, .atom cv2]) [I s_] ([cv0, cv1, cv2].zip [.box (eOs 1 true eB y0), .box (.agg [I y1.Inputs, I y1.Outputs, eSl 1 false vK y1.Rows]), .box (.fn 68 [.atom cv0, .atom cv1, .atom cv2])]) (.tup []) [.box (eOs 1 true eB r0.1), .box (.agg [I r0.2.Inputs, I r0.2.Outputs, eSl 1 false vK r0.2.Rows]), .box (.fn 68 [.atom cv0, .atom cv1, .atom cv2])] := by
 intro fu
 induction fu with
 | zero => intro s_ y0 y1 r0 hf0; exact nomatch (show none = some r0 from hf0)
 | succ fu ih =>
  intro s_ y0 y1 r0 hf0
  replace hf0 : yU (zT fu) s_ y0 y1 = some r0 := hf0
  generalize zT fu = rc_ at ih hf0
  refine Qi (tt := yw) (nt := 33) (body := qe) [1,2,3] zz Tryz.func68 rfl (by kernel_rfl) rfl rfl (by show (4 : Nat) ≤ 33; decide) (by decide) rfl rfl (fun E hE => ?_) rfl
  unfold yU at hf0
  rcases zQ hf0 with ⟨c0, hf0⟩ | ⟨c0, hf0⟩
  ·obtain rfl := zb hf0
   exact yF X0 hC .ret [(1, .own (.box (eOs 1 true eB y0))), (2, .own (.box (.agg [I y1.Inputs, I y1.Outputs, eSl 1 false vK y1.Rows]))), (3, .own (.box (.fn 68 [.atom cv0, .atom cv1, .atom cv2])))] (rpN 5 (Hq c0) [qT]) fun st0 h0 => hE _ st0 (.inr rfl) (jP h0 ⟨⟨rfl, rfl⟩, ⟨⟨rfl, rfl⟩, ⟨⟨rfl, rfl⟩, trivial⟩⟩⟩)
  ·obtain ⟨y_e, h0, hf0⟩ := zg hf0
   let Z0 : List HO := [Hq c0, Hq c0, Hq c0, Hn (iL eB h0), Hq c0, Hs (iM eB h0), Hq c0]
   rcases zQ hf0 with ⟨c1, hf0⟩ | ⟨c1, hf0⟩
   ·obtain rfl := zb hf0
    exact yF X0 hC .ret [(1, .own (.box (eOs 1 true eB y0))), (2, .own (.box (.agg [I y1.Inputs, I y1.Outputs, eSl 1 false vK y1.Rows]))), (3, .own (.box (.fn 68 [.atom cv0, .atom cv1, .atom cv2])))] (Z0 ++ [Hq c1]) fun st0 h0 => hE _ st0 (.inr rfl) (jP h0 ⟨⟨rfl, rfl⟩, ⟨⟨rfl, rfl⟩, ⟨⟨rfl, rfl⟩, trivial⟩⟩⟩)
   ·obtain ⟨y_e1, h1, hf0⟩ := zg hf0
    obtain ⟨Row_e, h2, hf0⟩ := zg hf0
    obtain ⟨t1, ht1, hf0⟩ := zg hf0
    refine yL X0 hC qe [1,1,1,0] [] (fun s => yf rc_ Row_e s.1 s.2.1 s.2.2.1 s.2.2.2.1 s.2.2.2.2) (fun x => Zo cv0 cv1 cv2 Row_e x.1 x.2.1 x.2.2.1 x.2.2.2.1 x.2.2.2.2) ((y0.set s_.toNat true), y1.Inputs, y1.Outputs, y1.Rows, 0) ht1  (Z0 ++ [Hq c1, Hn (iL eB h1), Hs (iM eB h1), Hs (iM eB h1), Hl (sM eB y0 s_ true), Hi vK h2, Ha (lnM F8_ Row_e)]) ?_
    rintro ⟨x1, x2_Inputs, x2_Outputs, x2_Rows, x24⟩ m1 lr1 hf1 hl1 J1 hJ1
    try unfold yf at hf1
    rcases zQ hf1 with ⟨c2, hf1⟩ | ⟨c2, hf1⟩
    ·obtain ⟨Row_e_e, h3, hf1⟩ := zg hf1
     obtain ⟨r_, h4, hf1⟩ := zg hf1
     obtain rfl := zb hf1
     exact yB ((yK (P := Tryz.prog) yw [1,2,3] (ih _ _ _ _ h4) 31).or X0) hC hJ1 (r_.1, r_.2.Inputs, r_.2.Outputs, r_.2.Rows, w64 (x24 + 1)) hl1 [Hq c2, Hi F8_ h3, Hn (qL (f := .fn 68 [.atom cv0, .atom cv1, .atom cv2]) (xs := [(eI .i64) Row_e_e.To]) (ls := [(cv0, .box (eOs 1 true eB x1)), (cv1, .box (.agg [I x2_Inputs, I x2_Outputs, eSl 1 false vK x2_Rows])), (cv2, .box (.fn 68 [.atom cv0, .atom cv1, .atom cv2]))]) (r := .tup []) (ys := [.box (eOs 1 true eB r_.1), .box (.agg [I r_.2.Inputs, I r_.2.Outputs, eSl 1 false vK r_.2.Rows]), .box (.fn 68 [.atom cv0, .atom cv1, .atom cv2])]) [(eI .i64) Row_e_e.To] (show JY [(eI .i64) Row_e_e.To] [(eI .i64) Row_e_e.To] from inferInstance))]
    ·obtain rfl := zb hf1
     obtain rfl := hl1
     obtain rfl := zb hf0
     exact yF X0 hC .normal [(1, .own (.box (eOs 1 true eB x1))), (2, .own (.box (.agg [I x2_Inputs, I x2_Outputs, eSl 1 false vK x2_Rows]))), (3, .own (.box (.fn 68 [.atom cv0, .atom cv1, .atom cv2])))] [Hq c2] fun st0 h0 => hE _ st0 (.inl rfl) (jP h0 ⟨⟨rfl, rfl⟩, ⟨⟨rfl, rfl⟩, ⟨⟨rfl, rfl⟩, trivial⟩⟩⟩)
noncomputable def wF : Code := (Tryz.f100.body).getD .skip
noncomputable def wx : zR := spF (α := List Bool × Bool) (ρ := Int) 100 (fun x => [(eSl 1 false eB) x.1, eB x.2]) (fun r => (eI .i64) r) (fun x => w6 x.1 x.2) [] (X3)
abbrev kw : List (Nat × T) := []
abbrev ku (s_ : List Bool) (v_ : Bool) (x8 : Int) : List (Nat × T) := [(0, .d (eSl 1 false eB s_)), (1, .d (B v_)), (7, .d (I ((s_.length : Nat) : Int))), (8, .d (I x8))]
theorem ZX {ctr : Ctr} (hC : zu Tryz.prog ctr) : wx.Ok Tryz.prog := by
 refine zx ?_
 rintro ⟨s_, v_⟩ r0 hf0
 try unfold w6 at hf0
 refine yO true [(4, none)] wF 19 Tryz.func100 fun E hE => ?_
 refine yJ X0 hC wF [1] [] [] (fun z : Unit => wz = some r0) (fun z => kw) [(0, .d (eSl 1 false eB s_)), (1, .d (B v_))] [Hh (.cut 1)] ?_ fun J1 hJ1 => ?_
 ·rintro ⟨⟩ hf0
  unfold wz at hf0
  obtain rfl := zb hf0
  exact yE X0 hC hE []
 ·obtain ⟨t2, ht2, hf0⟩ := zg hf0
  refine yL X0 hC wF [1,2,1,0] [J1] (fun s => y7 s_ v_ s) (fun x => ku s_ v_ x) 0 ht2  [Ha (lnM eB s_)] ?_
  rintro x8 m2 lr1 hf1 hl1 J2 hJ2
  try unfold y7 at hf1
  rcases zQ hf1 with ⟨c0, hf1⟩ | ⟨c0, hf1⟩
  ·obtain ⟨s__e, h0, hf1⟩ := zg hf1
   rcases zQ hf1 with ⟨c1, hf1⟩ | ⟨c1, hf1⟩
   ·obtain rfl := zb hf1
    obtain rfl := hl1
    obtain rfl := zb hf0
    exact yE X0 hC hE [Hq c0, Hi eB h0, Hq c1]
   ·obtain rfl := zb hf1
    exact yB X0 hC hJ2 (w64 (x8 + 1)) hl1 [Hq c0, Hi eB h0, Hq c1]
  ·obtain rfl := zb hf1
   obtain rfl := hl1
   exact yB X0 hC hJ1 () hf0 [Hq c0]
noncomputable def kr : Code := (Tryz.f69.body).getD .skip
noncomputable def xD : zR := spF (α := List Bool × Bool) (ρ := Bool) 69 (fun x => [(eSl 1 false eB) x.1, eB x.2]) (fun r => eB r) (fun x => yo x.1 x.2) [] (X3)
theorem kG {ctr : Ctr} (hC : zu Tryz.prog ctr) (h_slices_Index_bool_bool : ctr.Has wx) : xD.Ok Tryz.prog := by
 refine zx ?_
 rintro ⟨s_, v_⟩ r0 hf0
 try unfold yo at hf0
 refine yO true [(4, none)] kr 9 Tryz.func69 fun E hE => ?_
 obtain ⟨r_, h0, hf0⟩ := zg hf0
 obtain rfl := zb hf0
 exact yE X0 hC hE [Hc h_slices_Index_bool_bool (x := (s_, v_)) h0 (loC (eSl 1 false eB) s_ <| loC eB v_ <| loN)]
noncomputable def jz : Code := (Tryz.f33.body).getD .skip
noncomputable def vQ : zR := spF (α := z7) (ρ := Bool × Int) 33 (fun x => [xO x]) (fun r => .tup [eB r.1, (eI .i64) r.2]) (fun x => wt x) [] (Ul)
theorem XU {ctr : Ctr} (hC : zu Tryz.prog ctr) (h_machines_Check : ctr.Has wN) (h_slices_Contains_bool_bool : ctr.Has xD) : vQ.Ok Tryz.prog := by
 refine zx ?_
 rintro m_ r0 hf0
 try unfold wt at hf0
 refine yO false [(2, none), (3, none)] jz 22 Tryz.func33 fun E hE => ?_
 obtain ⟨r_, h0, hf0⟩ := zg hf0
 let Z0 : List HO := [Hc h_machines_Check (x := m_) h0 (loC xO m_ <| loN)]
 rcases zQ hf0 with ⟨c0, hf0⟩ | ⟨c0, hf0⟩
 ·obtain rfl := zb hf0
  exact yE X0 hC hE (Z0 ++ [Hq c0])
 ·obtain ⟨g0, hf0⟩ := gdE hf0
  refine yA X0 hC jz [1,1,1,1] [] [(1, .own (.box (xO m_))), (5, .own (.box (eOs 1 true eB (List.replicate ((m_.Rows.length : Nat) : Int).toNat false)))), (6, .own (.box (.atom .nilFunc)))] (Z0 ++ [Hq c0, Ha (lnM vK m_.Rows), Hn (rL g0), Ha (rM 1 eB ((m_.Rows.length : Nat) : Int) false), Hh (.cut 1)]) ?_
  refine z63 (by kernel_rfl) 5 fun pv5 => ?_
  refine z63 (by kernel_rfl) 1 fun pv1 => ?_
  refine z63 (by kernel_rfl) 6 fun pv6 => ?_
  obtain ⟨r_1, h1, hf0⟩ := zg hf0
  obtain ⟨r_2, h2, hf0⟩ := zg hf0
  obtain rfl := zb hf0
  exact yE ((yK (P := Tryz.prog) yw [5,1,6] (X6 hC pv5 pv1 pv6 YF _ _ _ _ h1) 18).or ((xMk Tryz.prog yw).or X0)) hC hE [Hn (qL (f := .fn 68 [.atom pv5, .atom pv1, .atom pv6]) (xs := [(eI .i64) 0]) (ls := [(pv5, .box (eOs 1 true eB (List.replicate ((m_.Rows.length : Nat) : Int).toNat false))), (pv1, .box (.agg [I m_.Inputs, I m_.Outputs, eSl 1 false vK m_.Rows])), (pv6, .box (.fn 68 [.atom pv5, .atom pv1, .atom pv6]))]) (r := .tup []) (ys := [.box (eOs 1 true eB r_1.1), .box (.agg [I r_1.2.Inputs, I r_1.2.Outputs, eSl 1 false vK r_1.2.Rows]), .box (.fn 68 [.atom pv5, .atom pv1, .atom pv6])]) [(eI .i64) 0] (show JY [(eI .i64) 0] [(eI .i64) 0] from inferInstance)), Hg (z1Q h_slices_Contains_bool_bool), Hm (shM eB eB r_1.1), Hs (z1R h_slices_Contains_bool_bool (x := (r_1.1, false)) h2 (loC (eSl 1 true eB) r_1.1 <| loC eB false <| loN))]
noncomputable def VC : Code := (Tryz.f101.body).getD .skip
noncomputable def qM : zR := spF (α := z7 × Int) (ρ := z7 × Int) 101 (fun x => [xO x.1, (eI .i64) x.2]) (fun r => (zfV 116 z82 (eSp (eI .i64))) r) (fun x => jd x.1 x.2) [] (X3)
theorem Ut {ctr : Ctr} (hC : zu Tryz.prog ctr) : qM.Ok Tryz.prog := by
 refine zx ?_
 rintro ⟨m_, from_⟩ r0 hf0
 try unfold jd at hf0
 refine yO true [(4, none)] VC 6 Tryz.func101 fun E hE => ?_
 obtain rfl := zb hf0
 exact yEx X0 hC hE [] (.fn 116 [.sptr (.agg [I m_.Inputs, I m_.Outputs, eSl 1 false vK m_.Rows]), .sptr (I from_)]) (show LeV (.fn 116 [.sptr (.agg [I m_.Inputs, I m_.Outputs, eSl 1 false vK m_.Rows]), .sptr (I from_)]) (.fn 116 [.sptr (.agg [I (((m_, from_).1).Inputs), I (((m_, from_).1).Outputs), eSl 1 false vK (((m_, from_).1).Rows)]), .sptr (I ((m_, from_).2))]) from inferInstance)
noncomputable def yu : Code := (Tryz.f116.body).getD .skip
abbrev Xg {σ : Type} (x0 : z7) (YY : σ → Kf) (queue_e : zf) (yr : σ × Bool) (Row_e : List z8) (x38 : Int) (seen2 : List Bool) (queue2 : List zf) : List (Nat × T) := [(0, .own (.opq (YY yr.1).q)), (1, .d (.sptr (xO x0))), (4, .own (eOs 1 true eB seen2)), (5, .own (eDq 3 uK queue2)), (6, .own (.box (uK queue_e))), (36, .d (eSl 2 false F8_ Row_e)), (37, .d (I ((Row_e.length : Nat) : Int))), (38, .d (I x38))]
abbrev Xe {σ : Type} (x0 : z7) (YY : σ → Kf) (queue_e : zf) (yr : σ × Bool) (Row_e : List z8) (seen1 : List Bool) (queue1 : List zf) (x38 : Int) : List (Nat × T) := [(0, .own (.opq (YY yr.1).q)), (1, .d (.sptr (xO x0))), (4, .own (eOs 1 true eB seen1)), (5, .own (eDq 3 uK queue1)), (6, .own (.box (uK queue_e))), (36, .d (eSl 2 false F8_ Row_e)), (37, .d (I ((Row_e.length : Nat) : Int))), (38, .d (I x38))]
abbrev Xf {σ : Type} (x0 : z7) (YY : σ → Kf) (sg1 : σ) (seen : List Bool) (queue : List zf) : List (Nat × T) := [(0, .own (.opq (YY sg1).q)), (1, .d (.sptr (xO x0))), (4, .own (eOs 1 true eB seen)), (5, .own (eDq 3 uK queue))]
theorem WD {ctr : Ctr} (hC : zu Tryz.prog ctr) (x0 : z7) (x1 : Int) : z81 Tryz.prog (.fn 116 [.sptr (.agg [I x0.Inputs, I x0.Outputs, eSl 1 false vK x0.Rows]), .sptr (I x1)]) (fun (x : zf) (_ : Bool) (_ : Value) => [uK x]) (@vd x0 x1) := by
 refine z9E (tt := yw) (nt := 68) (body := yu) zz Tryz.func116 rfl (by kernel_rfl) rfl rfl (by show (3 : Nat) ≤ 68; decide) ?_
 intro σ yv YY yy hy sg r0 hf0 E hE
 unfold vd at hf0
 obtain ⟨g0, hf0⟩ := gdE hf0
 obtain ⟨u_e, h0, hf0⟩ := zg hf0
 obtain ⟨t1, ht1, hf0⟩ := zg hf0
 refine yLx X0 hC yu [1,1,1,0] [] (fun s => xQ x0 yy s.1 s.2.1 s.2.2) (fun x => Xf x0 YY x.1 x.2.1 x.2.2) (sg, ((List.replicate ((x0.Rows.length : Nat) : Int).toNat false).set x1.toNat true), ([(zf.mk x1 (-1) (-1))] : List zf)) ht1 [(0, .own (.opq (YY sg).q)), (1, .d (.sptr (xO x0))), (4, .own (eOs 1 true eB ((List.replicate ((x0.Rows.length : Nat) : Int).toNat false).set x1.toNat true))), (5, .own (eOs 3 true uK ([(zf.mk x1 (-1) (-1))])))] inferInstance [Ha (lnM vK x0.Rows), Hn (rL g0), Ha (rM 1 eB ((x0.Rows.length : Nat) : Int) false), Hn (iL eB h0), Hs (iM eB h0), Hs (iM eB h0), Hl (sM eB (List.replicate ((x0.Rows.length : Nat) : Int).toNat false) x1 true)] ?_
 rintro ⟨sg1, seen, queue⟩ m1 lr1 hf1 hl1 J1 hJ1
 try unfold xQ at hf1
 let Z0 : List HO := [Hn (rfl : eDq 3 uK queue = A.opq (QV 3 (queue.map uK)).q), Ha (lnM uK queue)]
 rcases zQ hf1 with ⟨c0, hf1⟩ | ⟨c0, hf1⟩
 ·refine yA ((xQl zz 20 149 3 (queue.map uK) (by kernel_rfl)).or X0) hC yu [1,1,1,0,0,1,0] [J1] [(0, .own (.opq (YY sg1).q)), (1, .d (.sptr (xO x0))), (4, .own (eOs 1 true eB seen)), (5, .own (eDq 3 uK queue))] (Z0 ++ [Hq c0, Hh (.cut 0)]) ?_
  obtain ⟨queue_e, h1, hf1⟩ := zg hf1
  refine z23 (by kernel_rfl) (x := (sub [1,1,1,0,0,1,0,0] yu)) (y := (sub [1,1,1,0,0,1,0,1] yu)) 5 (fun st1 => Own.canon [0,1,4,5,6] st1 = ofL [(0, .own (.opq (YY sg1).q)), (1, .d (.sptr (xO x0))), (4, .own (eOs 1 true eB seen)), (5, .own (eDq 3 uK queue)), (6, .own (.box (uK queue_e)))]) (fun pv5 => yF ((xQd zz 24 3 5 pv5 (0 : Int) (queue.map uK) (uK queue_e)).or ((xQi zz 23 3 5 pv5 (queue.map uK)).or X0)) hC .normal [(0, .own (.opq (YY sg1).q)), (1, .d (.sptr (xO x0))), (4, .own (eOs 1 true eB seen)), (5, .own (eDq 3 uK queue)), (6, .own (.box (uK queue_e)))] [Hn (⟨rfl, rfl, rfl, rfl, i0 h1, (iL uK h1).2⟩ : T.als 5 [] 0 0 = T.als 5 [] 0 0 ∧ some pv5 = some pv5 ∧ T.own (eDq 3 uK queue) = T.own (eDq 3 uK queue) ∧ some 3 = some 3 ∧ (0 : Int) ≤ 0 ∧ (0 : Int).toNat < (queue.map uK).length), Hn (⟨rfl, rfl, rfl, iM uK h1, rfl, z2f.isD queue_e⟩ : T.d (.atom (z49 3 pv5 (0 : Int))) = T.d (.atom (z49 3 pv5 (0 : Int))) ∧ some pv5 = some pv5 ∧ T.own (eDq 3 uK queue) = T.own (eDq 3 uK queue) ∧ (queue.map uK)[(0 : Int).toNat]? = some (uK queue_e) ∧ true = true ∧ (uK queue_e).isD = true)] fun st0 h0 => ⟨rfl, h0⟩) fun st1 h1 => z7T h1 ?_
  obtain ⟨g1, hf1⟩ := gdE hf1
  obtain ⟨yr, h2, hf1⟩ := zg hf1
  let Z1 : List HO := [Hn (rfl : eDq 3 uK queue = A.opq (QV 3 (queue.map uK)).q), Hn (⟨g1.1, cuB uK g1⟩ : (0 : Int) ≤ 1 ∧ (1 : Int).toNat ≤ (queue.map uK).length), Hn (drM uK queue (1 : Int).toNat), Hn (z8X (yv := yv) (Y := YY) (enc := (fun (x : zf) (_ : Bool) (_ : Value) => [uK x])) (s := sg1) (x := queue_e) (s' := yr.1) (b := yr.2) (v := .nilFunc) [uK queue_e] (show JY [uK queue_e] [uK queue_e] from inferInstance))]
  rcases zQ hf1 with ⟨c1, hf1⟩ | ⟨c1, hf1⟩
  ·obtain rfl := zb hf1
   obtain rfl := hl1
   obtain rfl := zb hf0
   exact yF ((z84 (P := Tryz.prog) yw hy 29 (s := sg1) (x := queue_e) (s' := yr.1) (b := yr.2) .nilFunc h2).or ((xQs zz 26 3 (queue.map uK) ((queue.drop (1 : Int).toNat).map uK)).or X0)) hC .ret [(0, .own (.opq (YY yr.1).q))] (Z1 ++ [Hq c1]) fun st0 h0 => hE _ st0 (.inr rfl) h0
  ·obtain ⟨Row_e, h3, hf1⟩ := zg hf1
   obtain ⟨t2, ht2, hf1⟩ := zg hf1
   refine yL ((z84 (P := Tryz.prog) yw hy 29 (s := sg1) (x := queue_e) (s' := yr.1) (b := yr.2) .nilFunc h2).or ((xQs zz 26 3 (queue.map uK) ((queue.drop (1 : Int).toNat).map uK)).or X0)) hC yu [1,1,1,0,0,1,0,1,1,1,1,0] [J1] (fun s => yV queue_e yr Row_e s.1 s.2.1 s.2.2) (fun x => Xe x0 YY queue_e yr Row_e x.1 x.2.1 x.2.2) (seen, (queue.drop (1 : Int).toNat), 0) ht2  (Z1 ++ [Hq c1, Hi vK h3, Ha (lnM F8_ Row_e)]) ?_
   rintro ⟨seen1, queue1, x38⟩ m2 lr2 hf2 hl2 J2 hJ2
   try unfold yV at hf2
   rcases zQ hf2 with ⟨c2, hf2⟩ | ⟨c2, hf2⟩
   ·refine yJ X0 hC yu [1,1,1,0,0,1,0,1,1,1,1,0,0,1,1] [J1, J2] [0,1,4,5,6,36,37,38] (fun z : List Bool × List zf => yc x38 z.1 z.2 = some lr2) (fun z => Xg x0 YY queue_e yr Row_e x38 z.1 z.2) [(0, .own (.opq (YY yr.1).q)), (1, .d (.sptr (xO x0))), (4, .own (eOs 1 true eB seen1)), (5, .own (eDq 3 uK queue1)), (6, .own (.box (uK queue_e))), (36, .d (eSl 2 false F8_ Row_e)), (37, .d (I ((Row_e.length : Nat) : Int))), (38, .d (I x38))] [Hq c2, Hh (.cut 0)] ?_ fun J3 hJ3 => ?_
    ·rintro ⟨seen2, queue2⟩ hf2
     unfold yc at hf2
     obtain rfl := zb hf2
     exact yB X0 hC hJ2 (seen2, queue2, w64 (x38 + 1)) hl2 []
    ·obtain ⟨Row_e_e, h4, hf2⟩ := zg hf2
     let Z2 : List HO := [Hi F8_ h4]
     rcases zQ hf2 with ⟨c3, hf2⟩ | ⟨c3, hf2⟩
     ·obtain ⟨seen_e, h5, hf2⟩ := zg hf2
      let Z3 : List HO := (Z2 ++ (rpN 4 (Hq c3) [Hn (iL eB h5), Hq c3, Hs (iM eB h5), Hq c3, Hq c3]))
      rcases zQ hf2 with ⟨c4, hf2⟩ | ⟨c4, hf2⟩
      ·obtain ⟨seen_e1, h6, hf2⟩ := zg hf2
       obtain ⟨g2, hf2⟩ := gdE hf2
       exact yB ((xQa zz 66 3 (queue1.map uK) ((queue1 ++ ([(zf.mk Row_e_e.To queue_e.state_ x38)] : List zf)).map uK)).or X0) hC hJ3 ((seen1.set Row_e_e.To.toNat true), (queue1 ++ ([(zf.mk Row_e_e.To queue_e.state_ x38)] : List zf))) hf2 (Z3 ++ [Hq c4, Hn (iL eB h6), Hs (iM eB h6), Hs (iM eB h6), Hl (sM eB seen1 Row_e_e.To true), Hn (⟨rfl, dM uK ([(zf.mk Row_e_e.To queue_e.state_ x38)] : List zf), rfl⟩ : 3 = 3 ∧ A.areD (([(zf.mk Row_e_e.To queue_e.state_ x38)] : List zf).map uK) = true ∧ true = true), Hn (⟨rfl, aL uK uK g2, dM uK queue1⟩ : eDq 3 uK queue1 = A.opq (QV 3 (queue1.map uK)).q ∧ (queue1.map uK).length + (([(zf.mk Row_e_e.To queue_e.state_ x38)] : List zf).map uK).length ≤ lim ∧ A.areD (queue1.map uK) = true), Hn (aM uK queue1 ([(zf.mk Row_e_e.To queue_e.state_ x38)] : List zf))])
      ·exact yB X0 hC hJ3 (seen1, queue1) hf2 (Z3 ++ [Hq c4])
     ·exact yB X0 hC hJ3 (seen1, queue1) hf2 (Z2 ++ (rpN 7 (Hq c3) [qF]))
   ·obtain rfl := zb hf2
    obtain rfl := hl2
    obtain rfl := zb hf1
    exact yB X0 hC hJ1 (yr.1, seen1, queue1) hl1 [Hq c2]
 ·obtain rfl := zb hf1
  obtain rfl := hl1
  obtain rfl := zb hf0
  exact yF ((xQl zz 20 149 3 (queue.map uK) (by kernel_rfl)).or X0) hC .normal [(0, .own (.opq (YY sg1).q))] (Z0 ++ [Hq c0]) fun st0 h0 => hE _ st0 (.inl rfl) h0
noncomputable def YP : Code := (Tryz.f92.body).getD .skip
noncomputable def xE : zR := spF (α := List Int) (ρ := List Int) 92 (fun x => [F3_ x]) (fun r => F4_ r) (fun x => yj x) [] (Ul)
theorem X5 {ctr : Ctr} (hC : zu Tryz.prog ctr) : xE.Ok Tryz.prog := by
 refine zx ?_
 rintro s_ r0 hf0
 try unfold yj at hf0
 refine yO true [(2, none)] YP 8 Tryz.func92 fun E hE => ?_
 refine z62 rfl 0 (sz := 1) (t := false) (es := s_.map (eI .i64)) (by kernel_rfl) fun pv0 hv0 hn => ?_
 rcases hn with ⟨hn0, he0⟩ | hn0
 ·obtain ⟨_, hf0⟩ := gdE hf0
  rw [show s_ = [] from List.map_eq_nil_iff.1 he0] at hf0
  obtain rfl := zb hf0
  exact yEx ((zd7 zz 4 77 (by kernel_rfl) hn0).or ((xMv Tryz.prog 3 0 pv0 hv0).or X0)) hC hE [Hn (rfl : some pv0 = some pv0), Hn (⟨rfl, rfl⟩ : T.d (.atom pv0) = T.d (.atom pv0) ∧ T.d (.atom (.slice none 0 0)) = T.d (.atom (.slice none 0 0))), qT] (eOs 1 true (eI .i64) []) (show LeV (eOs 1 true (eI .i64) []) (eOs 1 false (eI .i64) ([] : List Int)) from inferInstance)
 ·obtain ⟨g0, hf0⟩ := gdE hf0
  obtain rfl := zb hf0
  exact yE ((zd7 zz 4 77 (by kernel_rfl) hn0).or ((xMv Tryz.prog 3 0 pv0 hv0).or X0)) hC hE [Hn (rfl : some pv0 = some pv0), Hn (⟨rfl, rfl⟩ : T.d (.atom pv0) = T.d (.atom pv0) ∧ T.d (.atom (.slice none 0 0)) = T.d (.atom (.slice none 0 0))), qF, Hn (dM (eI .i64) s_), Hn (aL (eI .i64) (eI .i64) g0), Hl (aM0 (eI .i64) s_)]
noncomputable def Xb : Code := (Tryz.f75.body).getD .skip
noncomputable def yn : zR := spF (α := List Int) (ρ := List Int) 75 (fun x => [F3_ x]) (fun r => F0_ r) (fun x => ye x) [] (Ul)
theorem Xh {ctr : Ctr} (hC : zu Tryz.prog ctr) : yn.Ok Tryz.prog := by
 refine zx ?_
 rintro s_ r0 hf0
 try unfold ye at hf0
 refine yO true [(2, none)] Xb 9 Tryz.func75 fun E hE => ?_
 obtain ⟨g0, hf0⟩ := gdE hf0
 obtain rfl := zb hf0
 exact yE X0 hC hE [Ha (lnM (eI .i64) s_), Ha (lnM (eI .i64) s_), Hn (slB g0), Hn (slC g0), Hn (zdA (eI .i64) g0), Ha (zfx 1 (eI .i64) s_ 0 ((s_.length : Nat) : Int).toNat)]
noncomputable def vz : Code := (Tryz.f70.body).getD .skip
noncomputable def ZB : zR := spF (α := z7 × Int) (ρ := List (List Int) × List Bool) 70 (fun x => [xO x.1, (eI .i64) x.2]) (fun r => .tup [F9_ r.1, (eSl 1 true eB) r.2]) (fun x => kF x.1 x.2) [] (X3)
abbrev VF (l_ : List (List Int)) (is : List Bool) : List (Nat × T) := [(6, .own (.box (eOs 1 true F0_ l_))), (7, .own (.box (eOs 1 true eB is)))]
abbrev ja (r_ : z7 × Int) (l_1 : List (List Int)) (is1 : List Bool) : List (Nat × T) := [(6, .own (.box (eOs 1 true F0_ l_1))), (7, .own (.box (eOs 1 true eB is1))), (19, .d (.fn 116 [.sptr (.agg [I r_.1.Inputs, I r_.1.Outputs, eSl 1 false vK r_.1.Rows]), .sptr (I r_.2)]))]
theorem KR {ctr : Ctr} (hC : zu Tryz.prog ctr) (h_walks_arrivals : ctr.Has qM) (h_slices_Clone_int_int : ctr.Has xE) (h_slices_Clip_int_int : ctr.Has yn) : ZB.Ok Tryz.prog := by
 refine zx ?_
 rintro ⟨m_, from_⟩ r0 hf0
 try unfold kF at hf0
 refine yO false [(4, none), (5, none)] vz 45 Tryz.func70 fun E hE => ?_
 obtain ⟨g0, hf0⟩ := gdE hf0
 obtain ⟨g1, hf0⟩ := gdE hf0
 refine yJ ((xMs zz 12 77).or X0) hC vz [1,1] [] [6,7] (fun z : List (List Int) × List Bool => jb z.1 z.2 = some r0) (fun z => VF z.1 z.2) [(1, .d (I from_)), (2, .own (.box (xO m_))), (6, .own (.box (eOs 1 true F0_ (List.replicate ((m_.Rows.length : Nat) : Int).toNat ([] : List Int))))), (7, .own (.box (eOs 1 true eB (List.replicate ((m_.Rows.length : Nat) : Int).toNat false))))] [Ha (lnM vK m_.Rows), Hn (rL g0), Ha (rM 1 F0_ ((m_.Rows.length : Nat) : Int) ([] : List Int)), Ha (lnM vK m_.Rows), Hn (rL g1), Ha (rM 1 eB ((m_.Rows.length : Nat) : Int) false), Hh (.cut 0)] ?_ fun J1 hJ1 => ?_
 ·rintro ⟨l_, is⟩ hf0
  unfold jb at hf0
  obtain rfl := zb hf0
  exact yE X0 hC hE [Hm (shM F0_ F0_ l_), Hm (shM eB eB is)]
 ·obtain ⟨r_, h0, hf0⟩ := zg hf0
  obtain ⟨t2, ht2, hf0⟩ := zg hf0
  refine yAt X0 hC (sub [1,1,2,1,0] vz) (frs [1,1,2,1,0] [J1] vz []) [(6, .own (.box (eOs 1 true F0_ (List.replicate ((m_.Rows.length : Nat) : Int).toNat ([] : List Int))))), (7, .own (.box (eOs 1 true eB (List.replicate ((m_.Rows.length : Nat) : Int).toNat false)))), (19, .d (.fn 116 [.sptr (.agg [I r_.1.Inputs, I r_.1.Outputs, eSl 1 false vK r_.1.Rows]), .sptr (I r_.2)]))] [Hc h_walks_arrivals (x := (m_, from_)) h0 (loC xO m_ <| loC (eI .i64) from_ <| loN)] fun st0 h0 => ?_
  refine z9Z (g := .tmp 19) (ps := [20]) (assign := (sub [1,1,2,1,0,0] vz)) (body := (sub [1,1,2,1,0,1] vz)) (K := 116) (caps := [.sptr (.agg [I r_.1.Inputs, I r_.1.Outputs, eSl 1 false vK r_.1.Rows]), .sptr (I r_.2)]) (by kernel_rfl) [6,7,19] (fun s => ja r_ s.1 s.2) (fun z => nomatch z) (fun z => nomatch z) ((fun (x : zf) (_ : Bool) (_ : Value) => [uK x])) (F := @vd r_.1 r_.2) (fun s x => yW s.1 s.2 x) ((List.replicate ((m_.Rows.length : Nat) : Int).toNat ([] : List Int)), (List.replicate ((m_.Rows.length : Nat) : Int).toNat false)) t2 _ h0 inferInstance (by kernel_rfl) (by decide) (fun _ => rfl) (by rintro ⟨⟩) (by kernel_rfl) (fun _ _ _ => rfl) (WD hC r_.1 r_.2) ht2 ?_ ?_
  ·rintro tv2 ⟨l_1, is1⟩ x20 vr lr1 hf1
   replace hf1 : yW l_1 is1 x20 = some lr1 := hf1
   unfold yW at hf1
   refine yF X0 hC .normal [(6, .own (.box (eOs 1 true F0_ l_1))), (7, .own (.box (eOs 1 true eB is1))), (8, .own (.box (uK x20))), (19, .d (.fn 116 [.sptr (.agg [I r_.1.Inputs, I r_.1.Outputs, eSl 1 false vK r_.1.Rows]), .sptr (I r_.2)]))] [] fun st0 h0 => ⟨rfl, z7T h0 ?_⟩
   obtain ⟨is_e, h1, hf1⟩ := zg hf1
   let Z0 : List HO := [Hn (iL eB h1), Hs (iM eB h1), Hs (iM eB h1), Hl (sM eB is1 x20.state_ true)]
   rcases zQ hf1 with ⟨c0, hf1⟩ | ⟨c0, hf1⟩
   ·obtain ⟨l__e, h2, hf1⟩ := zg hf1
    obtain ⟨r_1, h3, hf1⟩ := zg hf1
    obtain ⟨g2, hf1⟩ := gdE hf1
    obtain ⟨r_2, h4, hf1⟩ := zg hf1
    obtain ⟨l__e1, h5, hf1⟩ := zg hf1
    obtain rfl := zb hf1
    exact yF X0 hC .normal (ja r_ (l_1.set x20.state_.toNat r_2) (is1.set x20.state_.toNat true)) (Z0 ++ [Hq c0, Hn (iL F0_ h2), Hs (iM F0_ h2), Hc h_slices_Clone_int_int (x := l__e) h3 (loC F0_ l__e <| loN), Hq (dM (eI .i64) ([x20.input_] : List Int)), Hn (dM (eI .i64) ([x20.input_] : List Int)), Hn (aL (eI .i64) (eI .i64) g2), Hl (aM (eI .i64) r_1 ([x20.input_] : List Int)), Hg (z1Q h_slices_Clip_int_int), Hm (shM (eI .i64) (eI .i64) (r_1 ++ ([x20.input_] : List Int))), Hs (z1R h_slices_Clip_int_int (x := (r_1 ++ ([x20.input_] : List Int))) h4 (loC F3_ (r_1 ++ ([x20.input_] : List Int)) <| loN)), Hm (shM (eI .i64) (eI .i64) (r_1 ++ ([x20.input_] : List Int))), Hn (iL F0_ h5), Hs (iM F0_ h5), Hs (iM F0_ h5), Hl (sM F0_ l_1 x20.state_ r_2)]) fun st0 h0 => ⟨rfl, _, h0, LeL.refl _⟩
   ·obtain rfl := zb hf1
    exact yF X0 hC .normal (ja r_ l_1 (is1.set x20.state_.toNat true)) (Z0 ++ [Hq c0]) fun st0 h0 => ⟨rfl, _, h0, LeL.refl _⟩
  ·rcases t2 with ⟨l_1, is1⟩ | z
   ·dsimp only at hf0
    exact z26 (by kernel_rfl) (hJ1 _ [(6, .own (.box (eOs 1 true F0_ l_1))), (7, .own (.box (eOs 1 true eB is1)))] (l_1, is1) hf0 (show Own.canon [6,7] _ = ofL _ by kernel_rfl) inferInstance)
   ·cases z
noncomputable def JA : Code := (Tryz.f34.body).getD .skip
noncomputable def kI : zR := spF (α := z7) (ρ := List (List Int) × List Bool × Int) 34 (fun x => [xO x]) (fun r => .tup [F9_ r.1, (eSl 1 true eB) r.2.1, (eI .i64) r.2.2]) (fun x => jq x) [] (Ul)
theorem K1 {ctr : Ctr} (hC : zu Tryz.prog ctr) (h_machines_Check : ctr.Has wN) (h_walks_paths : ctr.Has ZB) : kI.Ok Tryz.prog := by
 refine zx ?_
 rintro m_ r0 hf0
 try unfold jq at hf0
 refine yO false [(2, none), (3, none), (4, none)] JA 20 Tryz.func34 fun E hE => ?_
 obtain ⟨r_, h0, hf0⟩ := zg hf0
 let Z0 : List HO := [Hc h_machines_Check (x := m_) h0 (loC xO m_ <| loN)]
 rcases zQ hf0 with ⟨c0, hf0⟩ | ⟨c0, hf0⟩
 ·obtain rfl := zb hf0
  exact yEx X0 hC hE (Z0 ++ [Hq c0, Hm (shM F3_ F3_ []), Hm (shM eB eB [])]) (.tup [eSl 1 true F0_ [], eSl 1 true eB [], I r_]) (show LeV (.tup [eSl 1 true F0_ [], eSl 1 true eB [], I r_]) (.tup [eSl 1 true F0_ ([] : List (List Int)), eSl 1 true eB ([] : List Bool), I r_]) from inferInstance)
 ·obtain ⟨r_1, h1, hf0⟩ := zg hf0
  obtain rfl := zb hf0
  exact yE X0 hC hE (Z0 ++ [Hq c0, Hc h_walks_paths (x := (m_, 0)) h1 (loC xO m_ <| loC (eI .i64) 0 <| loN)])
noncomputable def UD : Code := (Tryz.f117.body).getD .skip
noncomputable def jH : zR := spF (α := Int × Int) (ρ := Bool) 117 (fun x => [(eI .i64) x.1, (eSp (eI .i64)) x.2]) (fun r => eB r) (fun x => jY x.1 x.2) [] (X3)
theorem Qp {ctr : Ctr} (hC : zu Tryz.prog ctr) : jH.Ok Tryz.prog := by
 refine zx ?_
 rintro ⟨c_, x1⟩ r0 hf0
 try unfold jY at hf0
 refine yO true [(3, none)] UD 11 Tryz.func117 fun E hE => ?_
 rcases zQ hf0 with ⟨c0, hf0⟩ | ⟨c0, hf0⟩
 ·obtain rfl := zb hf0
  exact yE X0 hC hE (rpN 4 (Hq c0) [])
 ·obtain rfl := zb hf0
  exact yE X0 hC hE (rpN 4 (Hq c0) [])
noncomputable def xY : Code := (Tryz.f113.body).getD .skip
noncomputable def xR : zR := spF (α := List Int × Int) (ρ := Int) 113 (fun x => [F3_ x.1, (Xz 117 (eSp (eI .i64))) x.2]) (fun r => (eI .i64) r) (fun x => xm x.1 x.2) [] (by
 rintro ⟨a0, a1⟩ ⟨b0, b1⟩ h
 have e0 := uJ.inj (f := F3_) _ _ (List.cons.inj h).1
 replace h := (List.cons.inj h).2
 have e1 := uJ.inj (f := (Xz 117 (eSp (eI .i64)))) _ _ (List.cons.inj h).1
 subst e0 e1
 rfl)
abbrev jC : List (Nat × T) := []
abbrev jB (s_ : List Int) (f_ : Int) (x8 : Int) : List (Nat × T) := [(0, .d (eSl 1 false (eI .i64) s_)), (1, .d (.fn 117 [.sptr (I f_)])), (7, .d (I ((s_.length : Nat) : Int))), (8, .d (I x8))]
theorem Ze {ctr : Ctr} (hC : zu Tryz.prog ctr) (h_words_Check_1 : ctr.Has jH) : xR.Ok Tryz.prog := by
 refine zx ?_
 rintro ⟨s_, f_⟩ r0 hf0
 try unfold xm at hf0
 refine yO true [(4, none)] xY 19 Tryz.func113 fun E hE => ?_
 refine yJ X0 hC xY [1] [] [] (fun z : Unit => xU = some r0) (fun z => jC) [(0, .d (eSl 1 false (eI .i64) s_)), (1, .d (.fn 117 [.sptr (I f_)]))] [Hh (.cut 1)] ?_ fun J1 hJ1 => ?_
 ·rintro ⟨⟩ hf0
  unfold xU at hf0
  obtain rfl := zb hf0
  exact yE X0 hC hE []
 ·obtain ⟨t2, ht2, hf0⟩ := zg hf0
  refine yL X0 hC xY [1,2,1,0] [J1] (fun s => zW s_ f_ s) (fun x => jB s_ f_ x) 0 ht2  [Ha (lnM (eI .i64) s_)] ?_
  rintro x8 m2 lr1 hf1 hl1 J2 hJ2
  try unfold zW at hf1
  rcases zQ hf1 with ⟨c0, hf1⟩ | ⟨c0, hf1⟩
  ·obtain ⟨s__e, h0, hf1⟩ := zg hf1
   obtain ⟨r_, h1, hf1⟩ := zg hf1
   let Z0 : List HO := [Hq c0, Hi (eI .i64) h0, Hc h_words_Check_1 (x := (s__e, f_)) h1 (loC (eI .i64) s__e <| loC (eSp (eI .i64)) f_ <| loN)]
   rcases zQ hf1 with ⟨c1, hf1⟩ | ⟨c1, hf1⟩
   ·obtain rfl := zb hf1
    obtain rfl := hl1
    obtain rfl := zb hf0
    exact yE X0 hC hE (Z0 ++ [Hq c1])
   ·obtain rfl := zb hf1
    exact yB X0 hC hJ2 (w64 (x8 + 1)) hl1 (Z0 ++ [Hq c1])
  ·obtain rfl := zb hf1
   obtain rfl := hl1
   exact yB X0 hC hJ1 () hf0 [Hq c0]
noncomputable def jy : Code := (Tryz.f95.body).getD .skip
noncomputable def x5 : zR := spF (α := List Int × Int) (ρ := Bool) 95 (fun x => [F3_ x.1, (Xz 117 (eSp (eI .i64))) x.2]) (fun r => eB r) (fun x => yz x.1 x.2) [] (by
 rintro ⟨a0, a1⟩ ⟨b0, b1⟩ h
 have e0 := uJ.inj (f := F3_) _ _ (List.cons.inj h).1
 replace h := (List.cons.inj h).2
 have e1 := uJ.inj (f := (Xz 117 (eSp (eI .i64)))) _ _ (List.cons.inj h).1
 subst e0 e1
 rfl)
theorem jF {ctr : Ctr} (hC : zu Tryz.prog ctr) (h_slices_IndexFunc_int_int : ctr.Has xR) : x5.Ok Tryz.prog := by
 refine zx ?_
 rintro ⟨s_, f_⟩ r0 hf0
 try unfold yz at hf0
 refine yO true [(4, none)] jy 9 Tryz.func95 fun E hE => ?_
 obtain ⟨r_, h0, hf0⟩ := zg hf0
 obtain rfl := zb hf0
 exact yE X0 hC hE [Hc h_slices_IndexFunc_int_int (x := (s_, f_)) h0 (loC F3_ s_ <| loC (Xz 117 (eSp (eI .i64))) f_ <| loN)]
noncomputable def Kc : Code := (Tryz.f102.body).getD .skip
noncomputable def ZA : zR := spF (α := List Int × Int) (ρ := Int) 102 (fun x => [F3_ x.1, (eI .i64) x.2]) (fun r => (eI .i64) r) (fun x => qE x.1 x.2) [] (X3)
theorem KQ {ctr : Ctr} (hC : zu Tryz.prog ctr) (h_slices_ContainsFunc_int_int : ctr.Has x5) : ZA.Ok Tryz.prog := by
 refine zx ?_
 rintro ⟨w_, inputs⟩ r0 hf0
 try unfold qE at hf0
 refine yO true [(4, none)] Kc 19 Tryz.func102 fun E hE => ?_
 rcases zQ hf0 with ⟨c0, hf0⟩ | ⟨c0, hf0⟩
 ·obtain rfl := zb hf0
  exact yE X0 hC hE (rpN 4 (Hq c0) [qT])
 ·let Z0 : List HO := [Hq c0, Hq c0, Ha (lnM (eI .i64) w_), Hq c0, Hq c0]
  rcases zQ hf0 with ⟨c1, hf0⟩ | ⟨c1, hf0⟩
  ·obtain rfl := zb hf0
   exact yE X0 hC hE (Z0 ++ [Hq c1])
  ·rcases zQ hf0 with ⟨c2, hf0⟩ | ⟨c2, hf0⟩
   ·obtain rfl := zb hf0
    exact yE X0 hC hE (Z0 ++ (Hq c1 :: (rpN 4 (Hq c2) [qT])))
   ·obtain ⟨r_, h0, hf0⟩ := zg hf0
    let Z1 : List HO := (Z0 ++ [Hq c1, Hq c2, Hq c2, Hq c2, Hc h_slices_ContainsFunc_int_int (x := (w_, inputs)) h0 (loC F3_ w_ <| loC (Xz 117 (eSp (eI .i64))) inputs <| loN), Hq c2])
    rcases zQ hf0 with ⟨c3, hf0⟩ | ⟨c3, hf0⟩
    ·obtain rfl := zb hf0
     exact yE X0 hC hE (Z1 ++ [Hq c3])
    ·obtain rfl := zb hf0
     exact yE X0 hC hE (Z1 ++ [Hq c3])
noncomputable def ZS : Code := (Tryz.f71.body).getD .skip
noncomputable def jg : zR := spF (α := List (List Int) × Int) (ρ := Int) 71 (fun x => [vo x.1, (eI .i64) x.2]) (fun r => (eI .i64) r) (fun x => qJ x.1 x.2) [] (X3)
abbrev VJ : List (Nat × T) := []
abbrev VI (l_ : List (List Int)) (inputs : Int) (x19 : Int) : List (Nat × T) := [(1, .d (I inputs)), (17, .d (eSl 1 false F3_ l_)), (18, .d (I ((l_.length : Nat) : Int))), (19, .d (I x19))]
theorem KT {ctr : Ctr} (hC : zu Tryz.prog ctr) (h_words_Check : ctr.Has ZA) : jg.Ok Tryz.prog := by
 refine zx ?_
 rintro ⟨l_, inputs⟩ r0 hf0
 try unfold qJ at hf0
 refine yO true [(4, none)] ZS 30 Tryz.func71 fun E hE => ?_
 rcases zQ hf0 with ⟨c0, hf0⟩ | ⟨c0, hf0⟩
 ·obtain rfl := zb hf0
  exact yE X0 hC hE (rpN 4 (Hq c0) [qT])
 ·let Z0 : List HO := [Hq c0, Hq c0, Ha (lnM F3_ l_), Hq c0, Hq c0]
  rcases zQ hf0 with ⟨c1, hf0⟩ | ⟨c1, hf0⟩
  ·obtain rfl := zb hf0
   exact yE X0 hC hE (Z0 ++ [Hq c1])
  ·rcases zQ hf0 with ⟨c2, hf0⟩ | ⟨c2, hf0⟩
   ·obtain rfl := zb hf0
    exact yE X0 hC hE (Z0 ++ [Hq c1, Hq c2])
   ·refine yJ X0 hC ZS [1,1,1] [] [] (fun z : Unit => Zz = some r0) (fun z => VJ) [(0, .d (eSl 1 false F3_ l_)), (1, .d (I inputs))] (Z0 ++ [Hq c1, Hq c2, Hh (.cut 0)]) ?_ fun J1 hJ1 => ?_
    ·rintro ⟨⟩ hf0
     unfold Zz at hf0
     obtain rfl := zb hf0
     exact yE X0 hC hE []
    ·obtain ⟨t2, ht2, hf0⟩ := zg hf0
     refine yL X0 hC ZS [1,1,1,2,1,0] [J1] (fun s => vt l_ inputs s) (fun x => VI l_ inputs x) 0 ht2  [Ha (lnM F3_ l_)] ?_
     rintro x19 m2 lr1 hf1 hl1 J2 hJ2
     try unfold vt at hf1
     rcases zQ hf1 with ⟨c3, hf1⟩ | ⟨c3, hf1⟩
     ·obtain ⟨l__e, h0, hf1⟩ := zg hf1
      obtain ⟨r_, h1, hf1⟩ := zg hf1
      let Z1 : List HO := [Hq c3, Hi F3_ h0, Hc h_words_Check (x := (l__e, inputs)) h1 (loC F3_ l__e <| loC (eI .i64) inputs <| loN)]
      rcases zQ hf1 with ⟨c4, hf1⟩ | ⟨c4, hf1⟩
      ·obtain rfl := zb hf1
       obtain rfl := hl1
       obtain rfl := zb hf0
       exact yE X0 hC hE (Z1 ++ [Hq c4])
      ·obtain rfl := zb hf1
       exact yB X0 hC hJ2 (w64 (x19 + 1)) hl1 (Z1 ++ [Hq c4])
     ·obtain rfl := zb hf1
      obtain rfl := hl1
      exact yB X0 hC hJ1 () hf0 [Hq c3]
noncomputable def Y9 : Code := (Tryz.f103.body).getD .skip
noncomputable def wM : zR := spF (α := List (List Int)) (ρ := List (List Int)) 103 (fun x => [vo x]) (fun r => z2c r) (fun x => wo x) [] (Ul)
theorem Yc {ctr : Ctr} (hC : zu Tryz.prog ctr) : wM.Ok Tryz.prog := by
 refine zx ?_
 rintro s_ r0 hf0
 try unfold wo at hf0
 refine yO true [(2, none)] Y9 8 Tryz.func103 fun E hE => ?_
 refine z62 rfl 0 (sz := 1) (t := false) (es := s_.map F3_) (by kernel_rfl) fun pv0 hv0 hn => ?_
 rcases hn with ⟨hn0, he0⟩ | hn0
 ·obtain ⟨_, hf0⟩ := gdE hf0
  rw [show s_ = [] from List.map_eq_nil_iff.1 he0] at hf0
  obtain rfl := zb hf0
  exact yEx ((zd7 zz 4 29 (by kernel_rfl) hn0).or ((xMv Tryz.prog 3 0 pv0 hv0).or X0)) hC hE [Hn (rfl : some pv0 = some pv0), Hn (⟨rfl, rfl⟩ : T.d (.atom pv0) = T.d (.atom pv0) ∧ T.d (.atom (.slice none 0 0)) = T.d (.atom (.slice none 0 0))), qT] (eOs 1 true F3_ []) (show LeV (eOs 1 true F3_ []) (eOs 1 false F3_ ([] : List (List Int))) from inferInstance)
 ·obtain ⟨g0, hf0⟩ := gdE hf0
  obtain rfl := zb hf0
  exact yE ((zd7 zz 4 29 (by kernel_rfl) hn0).or ((xMv Tryz.prog 3 0 pv0 hv0).or X0)) hC hE [Hn (rfl : some pv0 = some pv0), Hn (⟨rfl, rfl⟩ : T.d (.atom pv0) = T.d (.atom pv0) ∧ T.d (.atom (.slice none 0 0)) = T.d (.atom (.slice none 0 0))), qF, Hn (dM F3_ s_), Hn (aL F3_ F3_ g0), Hl (aM0 F3_ s_)]
noncomputable def UJ : Code := (Tryz.f133.body).getD .skip
noncomputable def jN : zR := spF (α := Int) (ρ := Bool) 133 (fun x => [(eI .i64) x]) (fun r => eB r) (fun x => qb x) [] (Ul)
theorem Qy {ctr : Ctr} (hC : zu Tryz.prog ctr) : jN.Ok Tryz.prog := by
 refine zx ?_
 rintro x_ r0 hf0
 try unfold qb at hf0
 refine yO true [(2, none)] UJ 6 Tryz.func133 fun E hE => ?_
 obtain rfl := zb hf0
 exact yE X0 hC hE []
noncomputable def V1 : Code := (Tryz.f121.body).getD .skip
noncomputable def vD : zR := spF (α := Int × Int) (ρ := Int) 121 (fun x => [(eI .i64) x.1, (eI .i64) x.2]) (fun r => (eI .i64) r) (fun x => wS x.1 x.2) [] (X3)
theorem Vj {ctr : Ctr} (hC : zu Tryz.prog ctr) (h_cmp_isNaN_int : ctr.Has jN) : vD.Ok Tryz.prog := by
 refine zx ?_
 rintro ⟨x_, y_⟩ r0 hf0
 try unfold wS at hf0
 refine yO true [(4, none)] V1 20 Tryz.func121 fun E hE => ?_
 obtain ⟨r_, h0, hf0⟩ := zg hf0
 obtain ⟨r_1, h1, hf0⟩ := zg hf0
 let Z0 : List HO := [Hc h_cmp_isNaN_int (x := x_) h0 (loC (eI .i64) x_ <| loN), Hc h_cmp_isNaN_int (x := y_) h1 (loC (eI .i64) y_ <| loN)]
 rcases zQ hf0 with ⟨c0, hf0⟩ | ⟨c0, hf0⟩
 ·rcases zQ hf0 with ⟨c1, hf0⟩ | ⟨c1, hf0⟩
  ·obtain rfl := zb hf0
   exact yE X0 hC hE (Z0 ++ [Hq c0, Hq c1])
  ·obtain rfl := zb hf0
   exact yE X0 hC hE (Z0 ++ [Hq c0, Hq c1])
 ·rcases zQ hf0 with ⟨c2, hf0⟩ | ⟨c2, hf0⟩
  ·obtain rfl := zb hf0
   exact yE X0 hC hE (Z0 ++ [Hq c0, Hq c2])
  ·rcases zQ hf0 with ⟨c3, hf0⟩ | ⟨c3, hf0⟩
   ·obtain rfl := zb hf0
    exact yE X0 hC hE (Z0 ++ [Hq c0, Hq c2, Hq c3])
   ·rcases zQ hf0 with ⟨c4, hf0⟩ | ⟨c4, hf0⟩
    ·obtain rfl := zb hf0
     exact yE X0 hC hE (Z0 ++ [Hq c0, Hq c2, Hq c3, Hq c4])
    ·obtain rfl := zb hf0
     exact yE X0 hC hE (Z0 ++ [Hq c0, Hq c2, Hq c3, Hq c4])
noncomputable def wG : Code := (Tryz.f122.body).getD .skip
noncomputable def wy : zR := spF (α := List Int × List Int) (ρ := Int) 122 (fun x => [F3_ x.1, F3_ x.2]) (fun r => (eI .i64) r) (fun x => yT x.1 x.2) [] (X3)
abbrev ky (s1 : List Int) (s2 : List Int) : List (Nat × T) := [(0, .d (eSl 1 false (eI .i64) s1)), (1, .d (eSl 1 false (eI .i64) s2))]
abbrev kx (s1 : List Int) (s2 : List Int) (x11 : Int) : List (Nat × T) := [(0, .d (eSl 1 false (eI .i64) s1)), (1, .d (eSl 1 false (eI .i64) s2)), (9, .d (eSl 1 false (eI .i64) s1)), (10, .d (I ((s1.length : Nat) : Int))), (11, .d (I x11))]
theorem ZY {ctr : Ctr} (hC : zu Tryz.prog ctr) (h_cmp_Compare_int : ctr.Has vD) : wy.Ok Tryz.prog := by
 refine zx ?_
 rintro ⟨s1, s2⟩ r0 hf0
 try unfold yT at hf0
 refine yO true [(4, none)] wG 36 Tryz.func122 fun E hE => ?_
 refine yJ X0 hC wG [1] [] [0,1] (fun z : Unit => yX s1 s2 = some r0) (fun z => ky s1 s2) [(0, .d (eSl 1 false (eI .i64) s1)), (1, .d (eSl 1 false (eI .i64) s2))] [Hh (.cut 1)] ?_ fun J1 hJ1 => ?_
 ·rintro ⟨⟩ hf0
  unfold yX at hf0
  let Z0 : List HO := [Ha (lnM (eI .i64) s1), Ha (lnM (eI .i64) s2)]
  rcases zQ hf0 with ⟨c0, hf0⟩ | ⟨c0, hf0⟩
  ·obtain rfl := zb hf0
   exact yE X0 hC hE (Z0 ++ [Hq c0])
  ·obtain rfl := zb hf0
   exact yE X0 hC hE (Z0 ++ [Hq c0])
 ·obtain ⟨t2, ht2, hf0⟩ := zg hf0
  refine yL X0 hC wG [1,2,1,0] [J1] (fun s => y8 s1 s2 s) (fun x => kx s1 s2 x) 0 ht2  [Ha (lnM (eI .i64) s1)] ?_
  rintro x11 m2 lr1 hf1 hl1 J2 hJ2
  try unfold y8 at hf1
  rcases zQ hf1 with ⟨c1, hf1⟩ | ⟨c1, hf1⟩
  ·obtain ⟨s_e, h0, hf1⟩ := zg hf1
   let Z1 : List HO := [Hq c1, Hi (eI .i64) h0, Ha (lnM (eI .i64) s2)]
   rcases zQ hf1 with ⟨c2, hf1⟩ | ⟨c2, hf1⟩
   ·obtain rfl := zb hf1
    obtain rfl := hl1
    obtain rfl := zb hf0
    exact yE X0 hC hE (Z1 ++ [Hq c2])
   ·obtain ⟨s_e1, h1, hf1⟩ := zg hf1
    obtain ⟨r_, h2, hf1⟩ := zg hf1
    let Z2 : List HO := (Z1 ++ [Hq c2, Hi (eI .i64) h1, Hc h_cmp_Compare_int (x := (s_e, s_e1)) h2 (loC (eI .i64) s_e <| loC (eI .i64) s_e1 <| loN)])
    rcases zQ hf1 with ⟨c3, hf1⟩ | ⟨c3, hf1⟩
    ·obtain rfl := zb hf1
     obtain rfl := hl1
     obtain rfl := zb hf0
     exact yE X0 hC hE (Z2 ++ [Hq c3])
    ·obtain rfl := zb hf1
     exact yB X0 hC hJ2 (w64 (x11 + 1)) hl1 (Z2 ++ [Hq c3])
  ·obtain rfl := zb hf1
   obtain rfl := hl1
   exact yB X0 hC hJ1 () hf0 [Hq c1]
noncomputable def YX : Code := (Tryz.f120.body).getD .skip
noncomputable def Yp : zR := spF (α := List Int) (ρ := Int) 120 (fun x => [F3_ x]) (fun r => (eI .i64) r) (fun x => Y8 x) [] (Ul)
abbrev Q8 : List (Nat × T) := [(3, .d (I 0))]
abbrev Q7 (vals : List Int) (x8 : Int) : List (Nat × T) := [(3, .d (I 0)), (6, .d (eSl 1 false (eI .i64) vals)), (7, .d (I ((vals.length : Nat) : Int))), (8, .d (I x8))]
theorem z13 {ctr : Ctr} (hC : zu Tryz.prog ctr) : Yp.Ok Tryz.prog := by
 refine zx ?_
 rintro vals r0 hf0
 try unfold Y8 at hf0
 refine yO true [(2, none)] YX 18 Tryz.func120 fun E hE => ?_
 refine yJ X0 hC YX [1,1] [] [3] (fun z : Unit => kq = some r0) (fun z => Q8) [(0, .d (eSl 1 false (eI .i64) vals)), (3, .d (I 0))] [Hh (.cut 2)] ?_ fun J1 hJ1 => ?_
 ·rintro ⟨⟩ hf0
  unfold kq at hf0
  obtain rfl := zb hf0
  exact yE X0 hC hE []
 ·obtain ⟨t2, ht2, hf0⟩ := zg hf0
  refine yL X0 hC YX [1,1,2,1,0] [J1] (fun s => ua vals s) (fun x => Q7 vals x) 0 ht2  [Ha (lnM (eI .i64) vals)] ?_
  rintro x8 m2 lr1 hf1 hl1 J2 hJ2
  try unfold ua at hf1
  rcases zQ hf1 with ⟨c0, hf1⟩ | ⟨c0, hf1⟩
  ·obtain ⟨val_e, h0, hf1⟩ := zg hf1
   rcases zQ hf1 with ⟨c1, hf1⟩ | ⟨c1, hf1⟩
   ·obtain rfl := zb hf1
    obtain rfl := hl1
    obtain rfl := zb hf0
    exact yE X0 hC hE [Hq c0, Hi (eI .i64) h0, Hq c1]
   ·obtain rfl := zb hf1
    exact yB X0 hC hJ2 (w64 (x8 + 1)) hl1 [Hq c0, Hi (eI .i64) h0, Hq c1]
  ·obtain rfl := zb hf1
   obtain rfl := hl1
   exact yB X0 hC hJ1 () hf0 [Hq c0]
noncomputable def UC : Code := (Tryz.f105.body).getD .skip
noncomputable def ve : zR := spF (α := List Int × List Int) (ρ := Int) 105 (fun x => [F3_ x.1, F3_ x.2]) (fun r => (eI .i64) r) (fun x => yq x.1 x.2) [] (X3)
theorem Qo {ctr : Ctr} (hC : zu Tryz.prog ctr) (h_cmp_Compare_int : ctr.Has vD) (h_slices_Compare_int_int : ctr.Has wy) (h_cmp_Or_int : ctr.Has Yp) : ve.Ok Tryz.prog := by
 refine zx ?_
 rintro ⟨a_, b_⟩ r0 hf0
 try unfold yq at hf0
 refine yO true [(4, none)] UC 15 Tryz.func105 fun E hE => ?_
 obtain ⟨r_, h0, hf0⟩ := zg hf0
 obtain ⟨r_1, h1, hf0⟩ := zg hf0
 obtain ⟨r_2, h2, hf0⟩ := zg hf0
 obtain rfl := zb hf0
 exact yE X0 hC hE [Ha (lnM (eI .i64) a_), Ha (lnM (eI .i64) b_), Hc h_cmp_Compare_int (x := (((a_.length : Nat) : Int), ((b_.length : Nat) : Int))) h0 (loC (eI .i64) ((a_.length : Nat) : Int) <| loC (eI .i64) ((b_.length : Nat) : Int) <| loN), Hc h_slices_Compare_int_int (x := (a_, b_)) h1 (loC F3_ a_ <| loC F3_ b_ <| loN), Hg (z1Q h_cmp_Or_int), Hm (shM (eI .i64) (eI .i64) ([r_, r_1])), Hs (z1R h_cmp_Or_int (x := [r_, r_1]) h2 (loC F0_ ([r_, r_1] : List Int) <| loN))]
noncomputable def VD : Code := (Tryz.f107.body).getD .skip
noncomputable def qN : zR := spF (α := List Int × List Int) (ρ := Bool) 107 (fun x => [F3_ x.1, F3_ x.2]) (fun r => eB r) (fun x => vq x.1 x.2) [] (X3)
theorem Uu {ctr : Ctr} (hC : zu Tryz.prog ctr) (h_words_Compare : ctr.Has ve) : qN.Ok Tryz.prog := by
 refine zx ?_
 rintro ⟨a_, b_⟩ r0 hf0
 try unfold vq at hf0
 refine yO true [(4, none)] VD 9 Tryz.func107 fun E hE => ?_
 obtain ⟨r_, h0, hf0⟩ := zg hf0
 obtain rfl := zb hf0
 exact yE X0 hC hE [Hc h_words_Compare (x := (a_, b_)) h0 (loC F3_ a_ <| loC F3_ b_ <| loN)]
noncomputable def zF : Code := (Tryz.f106.body).getD .skip
noncomputable def x6 : zR := spF (α := List (List Int) × Unit) (ρ := List (List Int)) 106 (fun x => [z2c x.1, (YI 107) x.2]) (fun r => z2c r) (fun x => yd x.1 x.2) [true, false] (by
 rintro ⟨a0, a1⟩ ⟨b0, b1⟩ h
 have e0 := uJ.inj (f := z2c) _ _ (List.cons.inj h).1
 replace h := (List.cons.inj h).2
 have e1 := uJ.inj (f := (YI 107)) _ _ (List.cons.inj h).1
 subst e0 e1
 rfl)
abbrev qq (s_ : List (List Int)) : List (Nat × T) := [(0, .own (eOs 1 false F3_ s_))]
abbrev qp (s_ : List (List Int)) (k_ : Int) : List (Nat × T) := [(0, .own (eOs 1 false F3_ s_)), (1, .d (.fn 107 [])), (5, .d (I k_))]
abbrev qo (s_1 : List (List Int)) (k_1 : Int) : List (Nat × T) := [(0, .own (eOs 1 false F3_ s_1)), (5, .d (I k_1))]
abbrev qn (pv0 : Value) (k_ : Int) (k2 : Int) (s_3 : List (List Int)) (k_3 : Int) : List (Nat × T) := [(0, .own (eOs 1 false F3_ s_3)), (1, .d (.fn 107 [])), (5, .d (I k_3)), (6, .d (.atom (ZM 1 pv0 k_))), (7, .d (I k2))]
abbrev qj (pv0 : Value) (k_ : Int) (s_2 : List (List Int)) (k_2 : Int) (k2 : Int) : List (Nat × T) := [(0, .own (eOs 1 false F3_ s_2)), (1, .d (.fn 107 [])), (5, .d (I k_2)), (6, .d (.atom (ZM 1 pv0 k_))), (7, .d (I k2))]
abbrev qm (s_ : List (List Int)) (k_ : Int) : List (Nat × T) := [(0, .own (eOs 1 false F3_ s_)), (1, .d (.fn 107 [])), (5, .d (I k_))]
noncomputable def zj : XH Tryz.prog := ((zfu zz 64).or X0)
theorem jG {ctr : Ctr} (hC : zu Tryz.prog ctr) (h_tries_sorted_1 : ctr.Has qN) : x6.Ok Tryz.prog := by
 refine zx ?_
 rintro ⟨s_, eq⟩ r0 hf0
 try unfold yd at hf0
 refine yO true [(4, none)] zF 66 Tryz.func106 fun E hE => ?_
 refine z0E (y := eOs 1 false F3_ s_) rfl 0 (by kernel_rfl) (by kernel_rfl) fun pv0 hv0 => ?_
 let Z0 : List HO := [Ha (lnM F3_ s_)]
 rcases zQ hf0 with ⟨c0, hf0⟩ | ⟨c0, hf0⟩
 ·obtain rfl := zb hf0
  exact yE zj hC hE (Z0 ++ [Hq c0])
 ·refine yJ zj hC zF [1,1] [] [0] (fun z : Unit => xe s_ = some r0) (fun z => qq s_) [(0, .own (eOs 1 false F3_ s_)), (1, .d (.fn 107 []))] (Z0 ++ [Hq c0, Hh (.cut 0)]) ?_ fun J1 hJ1 => ?_
  ·rintro ⟨⟩ hf0
   unfold xe at hf0
   obtain rfl := zb hf0
   exact yE zj hC hE []
  ·obtain ⟨t2, ht2, hf0⟩ := zg hf0
   refine yL zj hC zF [1,1,2,1,0] [J1] (fun s => zZ s_ s) (fun x => qm s_ x) 1 ht2  [] ?_
   rintro k_ m2 lr1 hf1 hl1 J2 hJ2
   try unfold zZ at hf1
   let Z1 : List HO := [Ha (lnM F3_ s_)]
   rcases zQ hf1 with ⟨c1, hf1⟩ | ⟨c1, hf1⟩
   ·refine yJ zj hC zF [1,1,2,1,0,0,1] [J1, J2] [0,1,5] (fun z : Unit => yl k_ = some lr1) (fun z => qp s_ k_) [(0, .own (eOs 1 false F3_ s_)), (1, .d (.fn 107 [])), (5, .d (I k_))] (Z1 ++ [Hq c1, Hh (.cut 0)]) ?_ fun J3 hJ3 => ?_
    ·rintro ⟨⟩ hf1
     unfold yl at hf1
     obtain rfl := zb hf1
     exact yB zj hC hJ2 (w64 (k_ + 1)) hl1 []
    ·obtain ⟨s__e, h0, hf1⟩ := zg hf1
     obtain ⟨s__e1, h1, hf1⟩ := zg hf1
     obtain ⟨r_, h2, hf1⟩ := zg hf1
     let Z2 : List HO := [Hn (iL F3_ h0), Hs (iM F3_ h0), Hn (iL F3_ h1), Hs (iM F3_ h1), Hc h_tries_sorted_1 (x := (s__e, s__e1)) h2 (loC F3_ s__e <| loC F3_ s__e1 <| loN)]
     rcases zQ hf1 with ⟨c2, hf1⟩ | ⟨c2, hf1⟩
     ·obtain ⟨g0, hf1⟩ := gdE hf1
      refine yJ ((xAs Tryz.prog 6 (ZM 1 pv0 k_)).or ((xVw zz 31 0 pv0).or zj)) hC zF [1,1,2,1,0,0,1,2,0,1,0,1] [J1, J2, J3] [0,5] (fun z : List (List Int) × Int => zP z.1 z.2 = some lr1) (fun z => qo z.1 z.2) [(0, .own (eOs 1 false F3_ s_)), (1, .d (.fn 107 [])), (5, .d (I k_)), (6, .d (.atom (ZM 1 pv0 k_)))] (Z2 ++ [Hq c2, Hn (⟨.inl rfl, rfl⟩ : (T.als 0 [] 0 0 = T.als 0 [] 0 0 ∨ T.als 0 [] 0 0 = T.d (.atom pv0)) ∧ some pv0 = some pv0), Hn (⟨g0.1, cuB F3_ g0⟩ : (0 : Int) ≤ k_ ∧ k_.toNat ≤ (s_.map F3_).length), Hn (rfl : T.d (.atom (ZM 1 pv0 k_)) = T.d (.atom (ZM 1 pv0 k_))), Hh (.cut 1)]) ?_ fun J4 hJ4 => ?_
      ·rintro ⟨s_1, k_1⟩ hf1
       unfold zP at hf1
       obtain ⟨g1, hf1⟩ := gdE hf1
       obtain ⟨g2, hf1⟩ := gdE hf1
       obtain ⟨g3, hf1⟩ := gdE hf1
       obtain rfl := zb hf1
       obtain rfl := hl1
       obtain rfl := zb hf0
       exact yE ((xVc zz 61 1 0 pv0 k_1).or ((xVw zz 61 0 pv0).or zj)) hC hE [Hn (⟨.inl rfl, rfl⟩ : (T.als 0 [] 0 0 = T.als 0 [] 0 0 ∨ T.als 0 [] 0 0 = T.d (.atom pv0)) ∧ some pv0 = some pv0), Hn (⟨g1.1, cuB F3_ g1⟩ : (0 : Int) ≤ k_1 ∧ k_1.toNat ≤ (s_1.map F3_).length), Hn (⟨rfl, rfl⟩ : T.d (.atom (ZM 1 pv0 k_1)) = T.d (.atom (ZM 1 pv0 k_1)) ∧ some pv0 = some pv0), Hn (⟨g2.1, cuB F3_ g2, dM F3_ s_1⟩ : (0 : Int) ≤ k_1 ∧ k_1.toNat ≤ (s_1.map F3_).length ∧ A.areD (s_1.map F3_) = true), Hx (.l ((s_1.take k_1.toNat ++ List.replicate (s_1.length - k_1.toNat) []).map F3_)) (vcM F3_ s_1 k_1.toNat ([] : List Int)), Hn g3.1, Hn (cuB F3_ g3), Hl (cuM F3_ (s_1.take k_1.toNat ++ List.replicate (s_1.length - k_1.toNat) []) k_1)]
      ·obtain ⟨t5, ht5, hf1⟩ := zg hf1
       refine yL zj hC zF [1,1,2,1,0,0,1,2,0,1,0,1,2,1,0] [J1, J2, J3, J4] (fun s => zN k_ s.1 s.2.1 s.2.2) (fun x => qj pv0 k_ x.1 x.2.1 x.2.2) (s_, k_, 1) ht5  [] ?_
       rintro ⟨s_2, k_2, k2⟩ m5 lr2 hf2 hl2 J5 hJ5
       try unfold zN at hf2
       let Z3 : List HO := [Hn (⟨rfl, rfl⟩ : T.d (.atom (ZM 1 pv0 k_)) = T.d (.atom (ZM 1 pv0 k_)) ∧ some pv0 = some pv0), Hx (.a (.atom (.int .i64 ((s_2.length - k_.toNat : Nat) : Int)))) (vlM F3_ s_2 k_.toNat)]
       rcases zQ hf2 with ⟨c3, hf2⟩ | ⟨c3, hf2⟩
       ·refine yJ ((xVl zz 34 29 1 0 pv0 k_ (by kernel_rfl)).or zj) hC zF [1,1,2,1,0,0,1,2,0,1,0,1,2,1,0,0,1] [J1, J2, J3, J4, J5] [0,1,5,6,7] (fun z : List (List Int) × Int => zO k2 z.1 z.2 = some lr2) (fun z => qn pv0 k_ k2 z.1 z.2) [(0, .own (eOs 1 false F3_ s_2)), (1, .d (.fn 107 [])), (5, .d (I k_2)), (6, .d (.atom (ZM 1 pv0 k_))), (7, .d (I k2))] (Z3 ++ [Hq c3, Hh (.cut 0)]) ?_ fun J6 hJ6 => ?_
        ·rintro ⟨s_3, k_3⟩ hf2
         unfold zO at hf2
         obtain rfl := zb hf2
         exact yB zj hC hJ5 (s_3, k_3, w64 (k2 + 1)) hl2 []
        ·obtain ⟨g4, hf2⟩ := gdE hf2
         obtain ⟨s__e2, h3, hf2⟩ := zg hf2
         obtain ⟨g5, hf2⟩ := gdE hf2
         obtain ⟨s__e3, h4, hf2⟩ := zg hf2
         obtain ⟨r_1, h5, hf2⟩ := zg hf2
         let Z4 : List HO := [Hn (⟨rfl, rfl⟩ : T.d (.atom (ZM 1 pv0 k_)) = T.d (.atom (ZM 1 pv0 k_)) ∧ some pv0 = some pv0), Hn (⟨g4.1, g4.2, (iL F3_ h3).2⟩ : (0 : Int) ≤ k_ ∧ (0 : Int) ≤ k2 ∧ (k_ + k2).toNat < (s_2.map F3_).length), Hs (iM F3_ h3), Hn (⟨rfl, rfl⟩ : T.d (.atom (ZM 1 pv0 k_)) = T.d (.atom (ZM 1 pv0 k_)) ∧ some pv0 = some pv0), Hn (⟨g5.1, g5.2, (iL F3_ h4).2⟩ : (0 : Int) ≤ k_ ∧ (0 : Int) ≤ w64 (k2 - 1) ∧ (k_ + (w64 (k2 - 1))).toNat < (s_2.map F3_).length), Hs (iM F3_ h4), Hc h_tries_sorted_1 (x := (s__e2, s__e3)) h5 (loC F3_ s__e2 <| loC F3_ s__e3 <| loN)]
         rcases zQ hf2 with ⟨c4, hf2⟩ | ⟨c4, hf2⟩
         ·obtain ⟨g6, hf2⟩ := gdE hf2
          obtain ⟨s__e4, h6, hf2⟩ := zg hf2
          obtain ⟨s__e5, h7, hf2⟩ := zg hf2
          exact yB ((xVi zz 54 1 0 pv0 k_).or ((xVi zz 46 1 0 pv0 k_).or ((xVi zz 41 1 0 pv0 k_).or zj))) hC hJ6 ((s_2.set k_2.toNat s__e4), w64 (k_2 + 1)) hf2 (Z4 ++ [Hq c4, Hn (⟨rfl, rfl⟩ : T.d (.atom (ZM 1 pv0 k_)) = T.d (.atom (ZM 1 pv0 k_)) ∧ some pv0 = some pv0), Hn (⟨g6.1, g6.2, (iL F3_ h6).2⟩ : (0 : Int) ≤ k_ ∧ (0 : Int) ≤ k2 ∧ (k_ + k2).toNat < (s_2.map F3_).length), Hs (iM F3_ h6), Hn (iL F3_ h7), Hs (iM F3_ h7), Hs (iM F3_ h7), Hl (sM F3_ s_2 k_2 s__e4)])
         ·exact yB ((xVi zz 46 1 0 pv0 k_).or ((xVi zz 41 1 0 pv0 k_).or zj)) hC hJ6 (s_2, k_2) hf2 (Z4 ++ [Hq c4])
       ·obtain rfl := zb hf2
        obtain rfl := hl2
        exact yB ((xVl zz 34 29 1 0 pv0 k_ (by kernel_rfl)).or zj) hC hJ4 (s_2, k_2) hf1 (Z3 ++ [Hq c3])
     ·exact yB zj hC hJ3 () hf1 (Z2 ++ [Hq c2])
   ·obtain rfl := zb hf1
    obtain rfl := hl1
    exact yB zj hC hJ1 () hf0 (Z1 ++ [Hq c1])
noncomputable def Zl : Code := (Tryz.f93.body).getD .skip
noncomputable def yg : zR := spR (α := List (List Int)) (ρ := List (List Int)) 93 (fun x => [z2c x]) (fun r => (eOs 1 true F3_) r) (fun x => yC x) [true] (Ul)
theorem Zj : ∀ x r, (fun x => yC x) x = some r → (Qk.add yg).run 93 ((Qk.add yg).norm 93 ((fun x => [z2c x]) x)) = some ((fun r => (eOs 1 true F3_) r) r) := fun x r h => zfT h rfl
theorem Zk : (Qk.add yg).lend 93 = none ∧ (Qk.add yg).gives 93 = [true] := zdV
theorem ww {ctr : Ctr} (hC : zu Tryz.prog ctr) : yg.Ok Tryz.prog := by
 refine zaL ?_
 rintro s_ r0 hf0
 try unfold yC at hf0
 refine yO true [(2, none)] Zl 9 Tryz.func93 fun E hE => ?_
 obtain rfl := zb hf0
 exact yE ((xCl zz 8).or X0) hC hE [Ha (lnM F3_ s_), Ha (lnM F3_ s_), Hn (Int.natCast_nonneg _ : (0 : Int) ≤ ((s_.length : Nat) : Int)), Hn (Int.natCast_nonneg _ : (0 : Int) ≤ ((s_.length : Nat) : Int)), Hn (clB F3_ s_), Ha (clE 1 F3_ s_)]
noncomputable def ZR : Code := (Tryz.f90.body).getD .skip
noncomputable def jf : zR := spF (α := List (List Int)) (ρ := Int) 90 (fun x => [vo x]) (fun r => (eI .i64) r) (fun x => qI x) [] (Ul)
abbrev VH (n_ : Int) : List (Nat × T) := [(2, .d (I n_))]
abbrev VG (l_ : List (List Int)) (n_1 : Int) (x7 : Int) : List (Nat × T) := [(2, .d (I n_1)), (5, .d (eSl 1 false F3_ l_)), (6, .d (I ((l_.length : Nat) : Int))), (7, .d (I x7))]
theorem KS {ctr : Ctr} (hC : zu Tryz.prog ctr) : jf.Ok Tryz.prog := by
 refine zx ?_
 rintro l_ r0 hf0
 try unfold qI at hf0
 refine yO true [(2, none)] ZR 17 Tryz.func90 fun E hE => ?_
 refine yJ X0 hC ZR [1] [] [2] (fun z : Int => Zy z = some r0) (fun z => VH z) [(0, .d (eSl 1 false F3_ l_)), (2, .d (I 0))] [Hh (.cut 1)] ?_ fun J1 hJ1 => ?_
 ·rintro n_ hf0
  unfold Zy at hf0
  obtain rfl := zb hf0
  exact yE X0 hC hE []
 ·obtain ⟨t2, ht2, hf0⟩ := zg hf0
  refine yL X0 hC ZR [1,2,1,0] [J1] (fun s => vp l_ s.1 s.2) (fun x => VG l_ x.1 x.2) (0,0) ht2  [Ha (lnM F3_ l_)] ?_
  rintro ⟨n_1, x7⟩ m2 lr1 hf1 hl1 J2 hJ2
  try unfold vp at hf1
  rcases zQ hf1 with ⟨c0, hf1⟩ | ⟨c0, hf1⟩
  ·obtain ⟨l__e, h0, hf1⟩ := zg hf1
   obtain rfl := zb hf1
   exact yB X0 hC hJ2 (w64 (n_1 + ((l__e.length : Nat) : Int)), w64 (x7 + 1)) hl1 [Hq c0, Hi F3_ h0, Ha (lnM (eI .i64) l__e)]
  ·obtain rfl := zb hf1
   obtain rfl := hl1
   exact yB X0 hC hJ1 n_1 hf0 [Hq c0]
noncomputable def xX : Code := (Tryz.f72.body).getD .skip
noncomputable def vP : zR := spF (α := List (List Int)) (ρ := List (List Int) × Int) 72 (fun x => [vo x]) (fun r => .tup [F9_ r.1, (eI .i64) r.2]) (fun x => yI x) [] (Ul)
abbrev V4 (out : List (List Int × Bool)) : List (Nat × T) := [(4, .own (eOs 1 true (eFl 1 (eI .i64)) out))]
abbrev V3 (pv4 : Value) (r_2 : List (List Int)) (out2 : List (List Int × Bool)) (x24 : Int) : List (Nat × T) := [(4, .own (eOs 1 true (eFl 1 (eI .i64)) out2)), (22, .d (.atom (ZM 1 pv4 (0 : Int)))), (23, .d (I ((r_2.length - (0 : Int).toNat : Nat) : Int))), (24, .d (I x24))]
theorem K2 {ctr : Ctr} (hC : zu Tryz.prog ctr) (h_slices_CloneW_int_int : ctr.Has wM) (h_words_Compare : ctr.Has ve) (h_slices_CompactFuncW_int_int : ctr.Has x6) (h_tries_steps : ctr.Has jf) (h_slices_Clone_int_int : ctr.Has xE) (h_slices_Clip_int_int : ctr.Has yn) : vP.Ok Tryz.prog := by
 refine zx ?_
 rintro l_ r0 hf0
 try unfold yI at hf0
 refine yO false [(2, none), (3, none)] xX 37 Tryz.func72 fun E hE => ?_
 obtain ⟨r_, h0, hf0⟩ := zg hf0
 refine yA X0 hC xX [1,1] [] [(4, .own (eOs 1 false F3_ r_))] [Hc h_slices_CloneW_int_int (x := l_) h0 (loC vo l_ <| loN), Hh (.cut 0)] ?_
 obtain ⟨sorted, h1, hf0⟩ := zg hf0
 refine z23 (by kernel_rfl) (x := (sub [1,1,0] xX)) (y := (sub [1,1,1] xX)) 4 (fun st1 => Own.canon [4] st1 = ofL [(4, .own (eOs 1 false F3_ sorted))]) (fun pv4 => yF ((yK (P := Tryz.prog) yw [4] (z4J zaM (f := F3_) (t := false) (v := pv4) (fun _ => rfl) (fun _ => rfl) (fun x y c h => zK hC h_words_Compare (x := (x, y)) h) h1) 10).or X0) hC .normal [(4, .own (eOs 1 false F3_ sorted))] [Hn (qL (f := .fn 104 []) (xs := [.atom pv4, .fn 105 []]) (ls := [(pv4, eOs 1 false F3_ r_)]) (r := .tup []) (ys := [eOs 1 false F3_ sorted]) [.atom pv4, .fn 105 []] (show JY [.atom pv4, .fn 105 []] [.atom pv4, .fn 105 []] from inferInstance))] fun st0 h0 => ⟨rfl, h0⟩) fun st1 h1 => z7T h1 ?_
 obtain ⟨r_1, h2, hf0⟩ := zg hf0
 obtain ⟨r_2, h3, hf0⟩ := zg hf0
 let Z0 : List HO := [Hc h_slices_CompactFuncW_int_int (x := (sorted, ())) h2 (loC z2c sorted <| loC (YI 107) () <| loN), Hh (.g [true]), Hn Zk, Hx (.a ((eOs 1 true F3_) r_2)) (Zj r_1 _ h3), Ha (lnM F3_ r_2)]
 rcases zQ hf0 with ⟨c0, hf0⟩ | ⟨c0, hf0⟩
 ·obtain rfl := zb hf0
  exact yEx ((z0Q zz (ww hC) 13).or X0) hC hE (Z0 ++ (rpN 4 (Hq c0) [qT, Hm (shM F3_ F3_ [])])) (.tup [eSl 1 true F0_ [], I 3]) (show LeV (.tup [eSl 1 true F0_ [], I 3]) (.tup [eSl 1 true F0_ ([] : List (List Int)), I 3]) from inferInstance)
 ·obtain ⟨r_3, h4, hf0⟩ := zg hf0
  let Z1 : List HO := (Z0 ++ [Hq c0, Hq c0, Hg (z1Q h_tries_steps), Hm (shM F3_ F3_ r_2), Hs (z1R h_tries_steps (x := r_2) h4 (loC zdn r_2 <| loN)), Hq c0, Hq c0])
  rcases zQ hf0 with ⟨c1, hf0⟩ | ⟨c1, hf0⟩
  ·obtain rfl := zb hf0
   exact yEx ((z0Q zz (ww hC) 13).or X0) hC hE (Z1 ++ [Hq c1, Hm (shM F3_ F3_ [])]) (.tup [eSl 1 true F0_ [], I 3]) (show LeV (.tup [eSl 1 true F0_ [], I 3]) (.tup [eSl 1 true F0_ ([] : List (List Int)), I 3]) from inferInstance)
  ·refine yA ((z0Q zz (ww hC) 13).or X0) hC xX [1,1,1,1,1] [] [(4, .own (eOs 1 true F3_ r_2))] (Z1 ++ [Hq c1, Hh (.cut 0)]) ?_
   refine z0E (y := eOs 1 true F3_ r_2) (by kernel_rfl) 4 (by kernel_rfl) (by kernel_rfl) fun pv4 hv4 => ?_
   refine yJ X0 hC xX [1,1,1,1,1] [] [4] (fun z : List (List Int × Bool) => uM z = some r0) (fun z => V4 z) [(4, .own (eOs 1 true F3_ r_2))] [Hh (.cut 0)] ?_ fun J1 hJ1 => ?_
   ·rintro out hf0
    unfold uM at hf0
    obtain ⟨hfl0, hf0⟩ := gdE hf0
    obtain rfl := zb hf0
    exact yEx X0 hC hE [Hm (shM (eFl 1 (eI .i64)) (eFl 1 (eI .i64)) out)] (.tup [eSl 1 true (eFl 1 (eI .i64)) out, I 0]) (haveI := flA (s := 1) (t := 1) (b := true) (f := (eI .i64)) hfl0; show LeV (.tup [eSl 1 true (eFl 1 (eI .i64)) out, I 0]) (.tup [eSl 1 true F0_ (out.map (·.1)), I 0]) from inferInstance)
   ·obtain ⟨t2, ht2, hf0⟩ := zg hf0
    refine yLx ((xVl zz 23 29 1 4 pv4 (0 : Int) (by kernel_rfl)).or ((xMw Tryz.prog 22 4 1 pv4).or X0)) hC xX [1,1,1,1,1,2,1,0] [J1] (fun s => x3 r_2 s.1 s.2) (fun x => V3 pv4 r_2 x.1 x.2) ((r_2.map fun q => (q, false)), 0) ht2 [(4, .own (eOs 1 true F3_ r_2)), (22, .d (.atom (ZM 1 pv4 (0 : Int)))), (23, .d (I ((r_2.length - (0 : Int).toNat : Nat) : Int))), (24, .d (I 0))] inferInstance [Hn (rfl : some pv4 = some pv4), Hn (⟨rfl, rfl⟩ : T.d (.atom (ZM 1 pv4 (0 : Int))) = T.d (.atom (ZM 1 pv4 (0 : Int))) ∧ some pv4 = some pv4), Hx (.a (.atom (.int .i64 ((r_2.length - (0 : Int).toNat : Nat) : Int)))) (vlM F3_ r_2 (0 : Int).toNat)] ?_
    rintro ⟨out2, x24⟩ m2 lr1 hf1 hl1 J2 hJ2
    try unfold x3 at hf1
    rcases zQ hf1 with ⟨c2, hf1⟩ | ⟨c2, hf1⟩
    ·obtain ⟨g0, hf1⟩ := gdE hf1
     obtain ⟨out_e, h5, hf1⟩ := zg hf1
     obtain ⟨r_4, h6, hf1⟩ := zg hf1
     obtain ⟨r_5, h7, hf1⟩ := zg hf1
     obtain ⟨out_e1, h8, hf1⟩ := zg hf1
     obtain rfl := zb hf1
     exact yB ((xVi zz 27 1 4 pv4 (0 : Int)).or X0) hC hJ2 ((out2.set x24.toNat (r_5, true)), w64 (x24 + 1)) hl1 [Hq c2, Hn (⟨rfl, rfl⟩ : T.d (.atom (ZM 1 pv4 (0 : Int))) = T.d (.atom (ZM 1 pv4 (0 : Int))) ∧ some pv4 = some pv4), Hn (⟨g0.1, g0.2, (iL (eFl 1 (eI .i64)) h5).2⟩ : (0 : Int) ≤ 0 ∧ (0 : Int) ≤ x24 ∧ (0 + x24).toNat < (out2.map (eFl 1 (eI .i64))).length), Hs (iM (eFl 1 (eI .i64)) h5), Hc h_slices_Clone_int_int (x := out_e.1) h6 (loC (eSl 1 out_e.2 (eI .i64)) out_e.1 <| loN), Hg (z1Q h_slices_Clip_int_int), Hm (shM (eI .i64) (eI .i64) r_4), Hs (z1R h_slices_Clip_int_int (x := r_4) h7 (loC F3_ r_4 <| loN)), Hm (shM (eI .i64) (eI .i64) r_4), Hn (iL (eFl 1 (eI .i64)) h8), Hs (iM (eFl 1 (eI .i64)) h8), Hs (iM (eFl 1 (eI .i64)) h8), Hl (sM (eFl 1 (eI .i64)) out2 x24 (r_5, true))]
    ·obtain rfl := zb hf1
     obtain rfl := hl1
     exact yB X0 hC hJ1 out2 hf0 [Hq c2]
noncomputable def z0A : Code := (Tryz.f35.body).getD .skip
noncomputable def Yh : zR := spF (α := List (List Int) × Int) (ρ := List (List Int) × Int) 35 (fun x => [vo x.1, (eI .i64) x.2]) (fun r => .tup [F9_ r.1, (eI .i64) r.2]) (fun x => XG x.1 x.2) [] (X3)
theorem z0T {ctr : Ctr} (hC : zu Tryz.prog ctr) (h_tries_loose : ctr.Has jg) (h_tries_sorted : ctr.Has vP) : Yh.Ok Tryz.prog := by
 refine zx ?_
 rintro ⟨l_, inputs⟩ r0 hf0
 try unfold XG at hf0
 refine yO false [(4, none), (5, none)] z0A 17 Tryz.func35 fun E hE => ?_
 obtain ⟨r_, h0, hf0⟩ := zg hf0
 let Z0 : List HO := [Hc h_tries_loose (x := (l_, inputs)) h0 (loC vo l_ <| loC (eI .i64) inputs <| loN)]
 rcases zQ hf0 with ⟨c0, hf0⟩ | ⟨c0, hf0⟩
 ·obtain rfl := zb hf0
  exact yEx X0 hC hE (Z0 ++ [Hq c0, Hm (shM F3_ F3_ [])]) (.tup [eSl 1 true F0_ [], I r_]) (show LeV (.tup [eSl 1 true F0_ [], I r_]) (.tup [eSl 1 true F0_ ([] : List (List Int)), I r_]) from inferInstance)
 ·obtain ⟨r_1, h1, hf0⟩ := zg hf0
  obtain rfl := zb hf0
  exact yE X0 hC hE (Z0 ++ [Hq c0, Hc h_tries_sorted (x := l_) h1 (loC vo l_ <| loN)])
noncomputable def UI : Code := (Tryz.f8.body).getD .skip
noncomputable def vg : zR := spF (α := z7) (ρ := List (List Int) × Int) 8 (fun x => [xO x]) (fun r => .tup [F9_ r.1, (eI .i64) r.2]) (fun x => v8 x) [] (Ul)
theorem Qx {ctr : Ctr} (hC : zu Tryz.prog ctr) (h_machines_Connected : ctr.Has vQ) (h_walks_Access : ctr.Has kI) (h_tries_Sort : ctr.Has Yh) : vg.Ok Tryz.prog := by
 refine zx ?_
 rintro m_ r0 hf0
 try unfold v8 at hf0
 refine yO false [(2, none), (3, none)] UI 33 Tryz.func8 fun E hE => ?_
 obtain ⟨r_, h0, hf0⟩ := zg hf0
 let Z0 : List HO := [Hc h_machines_Connected (x := m_) h0 (loC xO m_ <| loN)]
 rcases zQ hf0 with ⟨c0, hf0⟩ | ⟨c0, hf0⟩
 ·obtain rfl := zb hf0
  exact yEx X0 hC hE (Z0 ++ [Hq c0, Hm (shM F3_ F3_ [])]) (.tup [eSl 1 true F0_ [], I r_.2]) (show LeV (.tup [eSl 1 true F0_ [], I r_.2]) (.tup [eSl 1 true F0_ ([] : List (List Int)), I r_.2]) from inferInstance)
 ·rcases zQ hf0 with ⟨c1, hf0⟩ | ⟨c1, hf0⟩
  ·obtain rfl := zb hf0
   exact yEx X0 hC hE (Z0 ++ [Hq c0, Hq c1, Hm (shM F3_ F3_ [])]) (.tup [eSl 1 true F0_ [], I 11]) (show LeV (.tup [eSl 1 true F0_ [], I 11]) (.tup [eSl 1 true F0_ ([] : List (List Int)), I 11]) from inferInstance)
  ·obtain ⟨r_1, h1, hf0⟩ := zg hf0
   let Z1 : List HO := (Z0 ++ [Hq c0, Hq c1, Hc h_walks_Access (x := m_) h1 (loC xO m_ <| loN)])
   rcases zQ hf0 with ⟨c2, hf0⟩ | ⟨c2, hf0⟩
   ·obtain rfl := zb hf0
    exact yEx X0 hC hE (Z1 ++ [Hq c2, Hm (shM F3_ F3_ [])]) (.tup [eSl 1 true F0_ [], I r_1.2.2]) (show LeV (.tup [eSl 1 true F0_ [], I r_1.2.2]) (.tup [eSl 1 true F0_ ([] : List (List Int)), I r_1.2.2]) from inferInstance)
   ·obtain ⟨r_2, h2, hf0⟩ := zg hf0
    obtain rfl := zb hf0
    exact yE X0 hC hE (Z1 ++ [Hq c2, Hc h_tries_Sort (x := (r_1.1, m_.Inputs)) h2 (loC F9_ r_1.1 <| loC (eI .i64) m_.Inputs <| loN)])
noncomputable def wu : Code := (Tryz.f73.body).getD .skip
noncomputable def Xn : zR := spF (α := Int × Int × Int) (ρ := List (List Int) × Int) 73 (fun x => [(eI .i64) x.1, (eI .i64) x.2.1, (eI .i64) x.2.2]) (fun r => .tup [F9_ r.1, (eI .i64) r.2]) (fun x => Y0 x.1 x.2.1 x.2.2) [] (zbk)
abbrev JP (inputs : Int) (from_ : Int) (to : Int) (k_ : Int) (out1 : List (List Int)) (level1 : List (List Int)) (n_1 : Int) (x45 : Int) (x46 : Bool) (x58 : Bool) : List (Nat × T) := [(0, .d (I inputs)), (1, .d (I from_)), (2, .d (I to)), (8, .own (eOs 1 false F3_ out1)), (9, .own (eOs 1 false F3_ level1)), (10, .d (I n_1)), (11, .d (I k_)), (45, .d (I x45)), (46, .d (B x46)), (49, .d (I k_)), (50, .d (I to)), (51, .d (B (decide (k_ < to)))), (52, .d (B (decide (k_ < to)))), (58, .d (B x58))]
abbrev JM (inputs : Int) (from_ : Int) (to : Int) (k_ : Int) (out2 : List (List Int)) (n_2 : Int) (x581 : Bool) (next : List (List Int)) : List (Nat × T) := [(0, .d (I inputs)), (1, .d (I from_)), (2, .d (I to)), (8, .own (eOs 1 false F3_ out2)), (10, .d (I n_2)), (11, .d (I k_)), (12, .own (eOs 1 false F3_ next)), (45, .d (I n_2)), (46, .d (B (decide (n_2 > 65536)))), (49, .d (I k_)), (50, .d (I to)), (51, .d (B (decide (k_ < to)))), (52, .d (B (decide (k_ < to)))), (58, .d (B x581))]
abbrev JL (inputs : Int) (from_ : Int) (to : Int) (level : List (List Int)) (k_ : Int) (out2 : List (List Int)) (n_2 : Int) (x581 : Bool) (x69 : Int) (next2 : List (List Int)) : List (Nat × T) := [(0, .d (I inputs)), (1, .d (I from_)), (2, .d (I to)), (8, .own (eOs 1 false F3_ out2)), (9, .own (eOs 1 false F3_ level)), (10, .d (I n_2)), (11, .d (I k_)), (12, .own (eOs 1 false F3_ next2)), (45, .d (I n_2)), (46, .d (B (decide (n_2 > 65536)))), (49, .d (I k_)), (50, .d (I to)), (51, .d (B (decide (k_ < to)))), (52, .d (B (decide (k_ < to)))), (58, .d (B x581)), (67, .als 9 [] 0 0), (68, .d (I ((level.length : Nat) : Int))), (69, .d (I x69))]
abbrev JI (inputs : Int) (from_ : Int) (to : Int) (level : List (List Int)) (k_ : Int) (out2 : List (List Int)) (n_2 : Int) (x581 : Bool) (x69 : Int) (level_e : List Int) (next3 : List (List Int)) (x74 : Int) : List (Nat × T) := [(0, .d (I inputs)), (1, .d (I from_)), (2, .d (I to)), (8, .own (eOs 1 false F3_ out2)), (9, .own (eOs 1 false F3_ level)), (10, .d (I n_2)), (11, .d (I k_)), (12, .own (eOs 1 false F3_ next3)), (14, .d (eSl 1 false (eI .i64) level_e)), (45, .d (I n_2)), (46, .d (B (decide (n_2 > 65536)))), (49, .d (I k_)), (50, .d (I to)), (51, .d (B (decide (k_ < to)))), (52, .d (B (decide (k_ < to)))), (58, .d (B x581)), (67, .als 9 [] 0 0), (68, .d (I ((level.length : Nat) : Int))), (69, .d (I x69)), (73, .d (I inputs)), (74, .d (I x74))]
abbrev JJ (inputs : Int) (from_ : Int) (to : Int) (level : List (List Int)) (k_ : Int) (out2 : List (List Int)) (n_2 : Int) (x581 : Bool) (next1 : List (List Int)) (x69 : Int) : List (Nat × T) := [(0, .d (I inputs)), (1, .d (I from_)), (2, .d (I to)), (8, .own (eOs 1 false F3_ out2)), (9, .own (eOs 1 false F3_ level)), (10, .d (I n_2)), (11, .d (I k_)), (12, .own (eOs 1 false F3_ next1)), (45, .d (I n_2)), (46, .d (B (decide (n_2 > 65536)))), (49, .d (I k_)), (50, .d (I to)), (51, .d (B (decide (k_ < to)))), (52, .d (B (decide (k_ < to)))), (58, .d (B x581)), (67, .als 9 [] 0 0), (68, .d (I ((level.length : Nat) : Int))), (69, .d (I x69))]
abbrev JN (inputs : Int) (from_ : Int) (to : Int) (level : List (List Int)) (k_ : Int) (out2 : List (List Int)) (n_2 : Int) (x581 : Bool) : List (Nat × T) := [(0, .d (I inputs)), (1, .d (I from_)), (2, .d (I to)), (8, .own (eOs 1 false F3_ out2)), (9, .own (eOs 1 false F3_ level)), (10, .d (I n_2)), (11, .d (I k_)), (45, .d (I n_2)), (46, .d (B (decide (n_2 > 65536)))), (49, .d (I k_)), (50, .d (I to)), (51, .d (B (decide (k_ < to)))), (52, .d (B (decide (k_ < to)))), (58, .d (B x581))]
abbrev JO (inputs : Int) (from_ : Int) (to : Int) (level : List (List Int)) (k_ : Int) (out2 : List (List Int)) (n_2 : Int) : List (Nat × T) := [(0, .d (I inputs)), (1, .d (I from_)), (2, .d (I to)), (8, .own (eOs 1 false F3_ out2)), (9, .own (eOs 1 false F3_ level)), (10, .d (I n_2)), (11, .d (I k_))]
abbrev JK (inputs : Int) (from_ : Int) (to : Int) (out : List (List Int)) (level : List (List Int)) (n_ : Int) (k_ : Int) : List (Nat × T) := [(0, .d (I inputs)), (1, .d (I from_)), (2, .d (I to)), (8, .own (eOs 1 false F3_ out)), (9, .own (eOs 1 false F3_ level)), (10, .d (I n_)), (11, .d (I k_))]
noncomputable def zG : XH Tryz.prog := ((z4t zz (.inl 83) [82]).or X0)
theorem z2j {ctr : Ctr} (hC : zu Tryz.prog ctr) (h_tries_sorted : ctr.Has vP) (h_slices_Clip_int_int : ctr.Has yn) : Xn.Ok Tryz.prog := by
 refine zx ?_
 rintro ⟨inputs, from_, to⟩ r0 hf0
 try unfold Y0 at hf0
 refine yO false [(6, none), (7, none)] wu 88 Tryz.func73 fun E hE => ?_
 rcases zQ hf0 with ⟨c0, hf0⟩ | ⟨c0, hf0⟩
 ·obtain rfl := zb hf0
  exact yEx zG hC hE [Hq c0, Hm (shM F3_ F3_ [])] (.tup [eSl 1 true F0_ [], I 3]) (show LeV (.tup [eSl 1 true F0_ [], I 3]) (.tup [eSl 1 true F0_ ([] : List (List Int)), I 3]) from inferInstance)
 ·rcases zQ hf0 with ⟨c1, hf0⟩ | ⟨c1, hf0⟩
  ·obtain rfl := zb hf0
   exact yEx zG hC hE [Hq c0, Hq c1, Hq c1, Hq c1, qT, Hm (shM F3_ F3_ [])] (.tup [eSl 1 true F0_ [], I 1]) (show LeV (.tup [eSl 1 true F0_ [], I 1]) (.tup [eSl 1 true F0_ ([] : List (List Int)), I 1]) from inferInstance)
  ·let Z0 : List HO := [Hq c0, Hq c1, Hq c1, Hq c1]
   rcases zQ hf0 with ⟨c2, hf0⟩ | ⟨c2, hf0⟩
   ·obtain rfl := zb hf0
    exact yEx zG hC hE (Z0 ++ [Hq c2, Hm (shM F3_ F3_ [])]) (.tup [eSl 1 true F0_ [], I 1]) (show LeV (.tup [eSl 1 true F0_ [], I 1]) (.tup [eSl 1 true F0_ ([] : List (List Int)), I 1]) from inferInstance)
   ·rcases zQ hf0 with ⟨c3, hf0⟩ | ⟨c3, hf0⟩
    ·obtain rfl := zb hf0
     exact yEx zG hC hE (Z0 ++ [Hq c2, Hq c3, Hm (shM F3_ F3_ [])]) (.tup [eSl 1 true F0_ [], I 3]) (show LeV (.tup [eSl 1 true F0_ [], I 3]) (.tup [eSl 1 true F0_ ([] : List (List Int)), I 3]) from inferInstance)
    ·obtain ⟨t1, ht1, hf0⟩ := zg hf0
     refine yLx zG hC wu [1,1,1,1,1,1,1,1,0] [] (fun s => wW inputs from_ to s.1 s.2.1 s.2.2.1 s.2.2.2) (fun x => JK inputs from_ to x.1 x.2.1 x.2.2.1 x.2.2.2) (([] : List (List Int)), ([[]] : List (List Int)), 0,0) ht1 [(0, .d (I inputs)), (1, .d (I from_)), (2, .d (I to)), (8, .own (eOs 1 true F3_ [])), (9, .own (eOs 1 true F0_ ([[]]))), (10, .d (I 0)), (11, .d (I 0))] inferInstance (Z0 ++ [Hq c2, Hq c3, Hh (.v 5 [9]), Hm (shM F1_ F0_ ([[]] : List (List Int)))]) ?_
     rintro ⟨out, level, n_, k_⟩ m1 lr1 hf1 hl1 J1 hJ1
     try unfold wW at hf1
     refine yJ zG hC wu [1,1,1,1,1,1,1,1,0,0] [J1] [0,1,2,8,9,10,11,45,46,49,50,51,52,58] (fun z : List (List Int) × List (List Int) × Int × Int × Bool × Bool => Zr k_ z.1 z.2.1 z.2.2.1 z.2.2.2.1 z.2.2.2.2.1 z.2.2.2.2.2 = some lr1) (fun z => JP inputs from_ to k_ z.1 z.2.1 z.2.2.1 z.2.2.2.1 z.2.2.2.2.1 z.2.2.2.2.2) [(0, .d (I inputs)), (1, .d (I from_)), (2, .d (I to)), (8, .own (eOs 1 false F3_ out)), (9, .own (eOs 1 false F3_ level)), (10, .d (I n_)), (11, .d (I k_))] [Hh (.cut 0)] ?_ fun J2 hJ2 => ?_
     ·rintro ⟨out1, level1, n_1, x45, x46, x58⟩ hf1
      unfold Zr at hf1
      obtain rfl := zb hf1
      exact yB zG hC hJ1 (out1, level1, n_1, w64 (k_ + 1)) hl1 []
     ·refine yJ zG hC wu [1,1,1,1,1,1,1,1,0,0,2,0] [J1, J2] [0,1,2,8,9,10,11] (fun z : List (List Int) × Int => uC inputs to level k_ z.1 z.2 = some lr1) (fun z => JO inputs from_ to level k_ z.1 z.2) [(0, .d (I inputs)), (1, .d (I from_)), (2, .d (I to)), (8, .own (eOs 1 false F3_ out)), (9, .own (eOs 1 false F3_ level)), (10, .d (I n_)), (11, .d (I k_))] [Hh (.cut 0)] ?_ fun J3 hJ3 => ?_
      ·rintro ⟨out2, n_2⟩ hf1
       unfold uC at hf1
       refine yJ zG hC wu [1,1,1,1,1,1,1,1,0,0,2,0,1] [J1, J2] [0,1,2,8,9,10,11,45,46,49,50,51,52,58] (fun z : Bool => uB inputs to level k_ out2 n_2 z = some lr1) (fun z => JN inputs from_ to level k_ out2 n_2 z) [(0, .d (I inputs)), (1, .d (I from_)), (2, .d (I to)), (8, .own (eOs 1 false F3_ out2)), (9, .own (eOs 1 false F3_ level)), (10, .d (I n_2)), (11, .d (I k_))] [Hh (.cut 0)] ?_ fun J4 hJ4 => ?_
       ·rintro x581 hf1
        unfold uB at hf1
        rcases zQ hf1 with ⟨c4, hf1⟩ | ⟨c4, hf1⟩
        ·obtain ⟨r_, h0, hf1⟩ := zg hf1
         obtain rfl := zb hf1
         obtain rfl := hl1
         obtain rfl := zb hf0
         exact yE zG hC hE [Hq c4, Hg (z1Q h_tries_sorted), Hm (shM F3_ F3_ out2), Hs (z1R h_tries_sorted (x := out2) h0 (loC vo out2 <| loN)), Hm (shM F3_ F3_ out2)]
        ·refine yJ zG hC wu [1,1,1,1,1,1,1,1,0,0,2,0,1,1,1,1] [J1, J2] [0,1,2,8,10,11,12,45,46,49,50,51,52,58] (fun z : List (List Int) => Zq k_ out2 n_2 x581 z = some lr1) (fun z => JM inputs from_ to k_ out2 n_2 x581 z) [(0, .d (I inputs)), (1, .d (I from_)), (2, .d (I to)), (8, .own (eOs 1 false F3_ out2)), (9, .own (eOs 1 false F3_ level)), (10, .d (I n_2)), (11, .d (I k_)), (12, .own (eOs 1 true F3_ [])), (45, .d (I n_2)), (46, .d (B (decide (n_2 > 65536)))), (49, .d (I k_)), (50, .d (I to)), (51, .d (B (decide (k_ < to)))), (52, .d (B (decide (k_ < to)))), (58, .d (B x581))] [Hq c4, Hh (.cut 1)] ?_ fun J5 hJ5 => ?_
         ·rintro next hf1
          unfold Zq at hf1
          exact yB zG hC hJ2 (out2, next, n_2, n_2, decide (n_2 > 65536), x581) hf1 []
         ·obtain ⟨t6, ht6, hf1⟩ := zg hf1
          refine yLx zG hC wu [1,1,1,1,1,1,1,1,0,0,2,0,1,1,1,1,2,1,0] [J1, J2, J5] (fun s => wl inputs level s.1 s.2) (fun x => JJ inputs from_ to level k_ out2 n_2 x581 x.1 x.2) (([] : List (List Int)), 0) ht6 [(0, .d (I inputs)), (1, .d (I from_)), (2, .d (I to)), (8, .own (eOs 1 false F3_ out2)), (9, .own (eOs 1 false F3_ level)), (10, .d (I n_2)), (11, .d (I k_)), (12, .own (eOs 1 true F3_ [])), (45, .d (I n_2)), (46, .d (B (decide (n_2 > 65536)))), (49, .d (I k_)), (50, .d (I to)), (51, .d (B (decide (k_ < to)))), (52, .d (B (decide (k_ < to)))), (58, .d (B x581)), (67, .als 9 [] 0 0), (68, .d (I ((level.length : Nat) : Int))), (69, .d (I 0))] inferInstance [Ha (lnM F3_ level)] ?_
          rintro ⟨next1, x69⟩ m6 lr2 hf2 hl2 J6 hJ6
          try unfold wl at hf2
          rcases zQ hf2 with ⟨c5, hf2⟩ | ⟨c5, hf2⟩
          ·refine yJ zG hC wu [1,1,1,1,1,1,1,1,0,0,2,0,1,1,1,1,2,1,0,0,1,1] [J1, J2, J5, J6] [0,1,2,8,9,10,11,12,45,46,49,50,51,52,58,67,68,69] (fun z : List (List Int) => Zp x69 z = some lr2) (fun z => JL inputs from_ to level k_ out2 n_2 x581 x69 z) [(0, .d (I inputs)), (1, .d (I from_)), (2, .d (I to)), (8, .own (eOs 1 false F3_ out2)), (9, .own (eOs 1 false F3_ level)), (10, .d (I n_2)), (11, .d (I k_)), (12, .own (eOs 1 false F3_ next1)), (45, .d (I n_2)), (46, .d (B (decide (n_2 > 65536)))), (49, .d (I k_)), (50, .d (I to)), (51, .d (B (decide (k_ < to)))), (52, .d (B (decide (k_ < to)))), (58, .d (B x581)), (67, .als 9 [] 0 0), (68, .d (I ((level.length : Nat) : Int))), (69, .d (I x69))] [Hq c5, Hh (.cut 0)] ?_ fun J7 hJ7 => ?_
           ·rintro next2 hf2
            unfold Zp at hf2
            obtain rfl := zb hf2
            exact yB zG hC hJ6 (next2, w64 (x69 + 1)) hl2 []
           ·obtain ⟨level_e, h1, hf2⟩ := zg hf2
            obtain ⟨t8, ht8, hf2⟩ := zg hf2
            refine yL zG hC wu [1,1,1,1,1,1,1,1,0,0,2,0,1,1,1,1,2,1,0,0,1,1,2,0,1,1,0] [J1, J2, J5, J6, J7] (fun s => wk inputs level_e s.1 s.2) (fun x => JI inputs from_ to level k_ out2 n_2 x581 x69 level_e x.1 x.2) (next1,0) ht8  [Hn (iL F3_ h1), Hs (iM F3_ h1)] ?_
            rintro ⟨next3, x74⟩ m8 lr3 hf3 hl3 J8 hJ8
            try unfold wk at hf3
            rcases zQ hf3 with ⟨c6, hf3⟩ | ⟨c6, hf3⟩
            ·obtain ⟨r_1, h2, hf3⟩ := zg hf3
             obtain ⟨g0, hf3⟩ := gdE hf3
             obtain ⟨g1, hf3⟩ := gdE hf3
             obtain rfl := zb hf3
             exact yB zG hC hJ8 ((next3 ++ ([(r_1 ++ ([x74] : List Int))] : List (List Int))), w64 (x74 + 1)) hl3 [Hq c6, Hc h_slices_Clip_int_int (x := level_e) h2 (loC F3_ level_e <| loN), Hq (dM (eI .i64) ([x74] : List Int)), Hn (dM (eI .i64) ([x74] : List Int)), Hn (aN (eI .i64) (eI .i64) g0 (by simp)), Hl (aM (eI .i64) r_1 ([x74] : List Int)), Hm (shM (eI .i64) (eI .i64) (r_1 ++ ([x74] : List Int))), Hq (dM F3_ ([(r_1 ++ ([x74] : List Int))] : List (List Int))), Hn (dM F3_ ([(r_1 ++ ([x74] : List Int))] : List (List Int))), Hn (aL F3_ F3_ g1), Hl (aM F3_ next3 ([(r_1 ++ ([x74] : List Int))] : List (List Int)))]
            ·obtain rfl := zb hf3
             obtain rfl := hl3
             exact yB zG hC hJ7 next3 hf2 [Hq c6]
          ·obtain rfl := zb hf2
           obtain rfl := hl2
           exact yB zG hC hJ5 next1 hf1 [Hq c5]
       ·let Z1 : List HO := [Ha (lnM F3_ out2)]
        rcases zQ hf1 with ⟨c7, hf1⟩ | ⟨c7, hf1⟩
        ·obtain rfl := zb hf1
         obtain rfl := hl1
         obtain rfl := zb hf0
         exact yEx zG hC hE (Z1 ++ (Hq c7 :: Hq c7 :: Hq c7 :: (rpN 7 qT [Hm (shM F3_ F3_ [])]))) (.tup [eSl 1 true F0_ [], I 3]) (show LeV (.tup [eSl 1 true F0_ [], I 3]) (.tup [eSl 1 true F0_ ([] : List (List Int)), I 3]) from inferInstance)
        ·rcases zQ hf1 with ⟨c8, hf1⟩ | ⟨c8, hf1⟩
         ·obtain rfl := zb hf1
          obtain rfl := hl1
          obtain rfl := zb hf0
          exact yEx zG hC hE (Z1 ++ (Hq c7 :: Hq c7 :: Hq c7 :: (rpN 6 (Hq c8) [qT, Hm (shM F3_ F3_ [])]))) (.tup [eSl 1 true F0_ [], I 3]) (show LeV (.tup [eSl 1 true F0_ [], I 3]) (.tup [eSl 1 true F0_ ([] : List (List Int)), I 3]) from inferInstance)
         ·let Z2 : List HO := (Z1 ++ (Hq c7 :: Hq c7 :: Hq c7 :: (rpN 4 (Hq c8) [])))
          rcases zQ hf1 with ⟨c9, hf1⟩ | ⟨c9, hf1⟩
          ·let Z3 : List HO := (Z2 ++ [Hq c9, Hq c9, Ha (lnM F3_ level), Hq c9, Hq c9, Hq c9, Hq c8, Hq c9, Hq c8])
           rcases zQ hf1 with ⟨c10, hf1⟩ | ⟨c10, hf1⟩
           ·obtain rfl := zb hf1
            obtain rfl := hl1
            obtain rfl := zb hf0
            exact yEx zG hC hE (Z3 ++ [Hq c10, Hm (shM F3_ F3_ [])]) (.tup [eSl 1 true F0_ [], I 3]) (show LeV (.tup [eSl 1 true F0_ [], I 3]) (.tup [eSl 1 true F0_ ([] : List (List Int)), I 3]) from inferInstance)
           ·exact yB zG hC hJ4 (decide ((w64 (((level.length : Nat) : Int) * inputs)) > 4096)) hf1 (Z3 ++ [Hq c10])
          ·exact yB zG hC hJ4 false hf1 (Z2 ++ (rpN 5 (Hq c9) [Hq c8, Hq c9, Hq c8, qF]))
      ·rcases zQ hf1 with ⟨c11, hf1⟩ | ⟨c11, hf1⟩
       ·obtain ⟨g2, hf1⟩ := gdE hf1
        exact yB zG hC hJ3 ((out ++ level), w64 (n_ + (w64 (k_ * ((level.length : Nat) : Int))))) hf1 [Hq c11, Hq (dM F3_ level), Hn (dM F3_ level), Hn (aL F3_ F3_ g2), Hl (aM F3_ out level), Ha (lnM F3_ level)]
       ·exact yB zG hC hJ3 (out, n_) hf1 [Hq c11]
noncomputable def z0z : Code := (Tryz.f36.body).getD .skip
noncomputable def Yg : zR := spF (α := Int × Int) (ρ := List (List Int) × Int) 36 (fun x => [(eI .i64) x.1, (eI .i64) x.2]) (fun r => .tup [F9_ r.1, (eI .i64) r.2]) (fun x => Y1 x.1 x.2) [] (X3)
theorem z0S {ctr : Ctr} (hC : zu Tryz.prog ctr) (h_tries_all : ctr.Has Xn) : Yg.Ok Tryz.prog := by
 refine zx ?_
 rintro ⟨inputs, k_⟩ r0 hf0
 try unfold Y1 at hf0
 refine yO false [(4, none), (5, none)] z0z 11 Tryz.func36 fun E hE => ?_
 obtain ⟨r_, h0, hf0⟩ := zg hf0
 obtain rfl := zb hf0
 exact yE X0 hC hE [Hc h_tries_all (x := (inputs, 0, k_)) h0 (loC (eI .i64) inputs <| loC (eI .i64) 0 <| loC (eI .i64) k_ <| loN)]
noncomputable def ZT : Code := (Tryz.f89.body).getD .skip
noncomputable def ZC : zR := spF (α := List (List Int)) (ρ := Bool) 89 (fun x => [vo x]) (fun r => eB r) (fun x => kH x) [] (Ul)
abbrev VL : List (Nat × T) := []
abbrev VK (l_ : List (List Int)) (i_ : Int) : List (Nat × T) := [(0, .d (eSl 1 false F3_ l_)), (3, .d (I i_))]
theorem KU {ctr : Ctr} (hC : zu Tryz.prog ctr) (h_words_Compare : ctr.Has ve) : ZC.Ok Tryz.prog := by
 refine zx ?_
 rintro l_ r0 hf0
 try unfold kH at hf0
 refine yO true [(2, none)] ZT 21 Tryz.func89 fun E hE => ?_
 refine yJ X0 hC ZT [1] [] [] (fun z : Unit => je = some r0) (fun z => VL) [(0, .d (eSl 1 false F3_ l_))] [Hh (.cut 1)] ?_ fun J1 hJ1 => ?_
 ·rintro ⟨⟩ hf0
  unfold je at hf0
  obtain rfl := zb hf0
  exact yE X0 hC hE []
 ·obtain ⟨t2, ht2, hf0⟩ := zg hf0
  refine yL X0 hC ZT [1,2,1,0] [J1] (fun s => vu l_ s) (fun x => VK l_ x) 1 ht2  [] ?_
  rintro i_ m2 lr1 hf1 hl1 J2 hJ2
  try unfold vu at hf1
  let Z0 : List HO := [Ha (lnM F3_ l_)]
  rcases zQ hf1 with ⟨c0, hf1⟩ | ⟨c0, hf1⟩
  ·obtain ⟨l__e, h0, hf1⟩ := zg hf1
   obtain ⟨l__e1, h1, hf1⟩ := zg hf1
   obtain ⟨r_, h2, hf1⟩ := zg hf1
   let Z1 : List HO := (Z0 ++ [Hq c0, Hi F3_ h0, Hi F3_ h1, Hc h_words_Compare (x := (l__e, l__e1)) h2 (loC F3_ l__e <| loC F3_ l__e1 <| loN)])
   rcases zQ hf1 with ⟨c1, hf1⟩ | ⟨c1, hf1⟩
   ·obtain rfl := zb hf1
    obtain rfl := hl1
    obtain rfl := zb hf0
    exact yE X0 hC hE (Z1 ++ [Hq c1])
   ·obtain rfl := zb hf1
    exact yB X0 hC hJ2 (w64 (i_ + 1)) hl1 (Z1 ++ [Hq c1])
  ·obtain rfl := zb hf1
   obtain rfl := hl1
   exact yB X0 hC hJ1 () hf0 (Z0 ++ [Hq c0])
noncomputable def Kd : Code := (Tryz.f61.body).getD .skip
noncomputable def jh : zR := spF (α := List (List Int) × Int) (ρ := Int) 61 (fun x => [vo x.1, (eI .i64) x.2]) (fun r => (eI .i64) r) (fun x => qK x.1 x.2) [] (X3)
theorem KV {ctr : Ctr} (hC : zu Tryz.prog ctr) (h_tries_loose : ctr.Has jg) (h_tries_ahead : ctr.Has ZC) (h_tries_steps : ctr.Has jf) : jh.Ok Tryz.prog := by
 refine zx ?_
 rintro ⟨l_, inputs⟩ r0 hf0
 try unfold qK at hf0
 refine yO true [(4, none)] Kd 18 Tryz.func61 fun E hE => ?_
 obtain ⟨r_, h0, hf0⟩ := zg hf0
 let Z0 : List HO := [Hc h_tries_loose (x := (l_, inputs)) h0 (loC vo l_ <| loC (eI .i64) inputs <| loN)]
 rcases zQ hf0 with ⟨c0, hf0⟩ | ⟨c0, hf0⟩
 ·obtain rfl := zb hf0
  exact yE X0 hC hE (Z0 ++ [Hq c0])
 ·obtain ⟨r_1, h1, hf0⟩ := zg hf0
  let Z1 : List HO := (Z0 ++ [Hq c0, Hc h_tries_ahead (x := l_) h1 (loC vo l_ <| loN)])
  rcases zQ hf0 with ⟨c1, hf0⟩ | ⟨c1, hf0⟩
  ·obtain rfl := zb hf0
   exact yE X0 hC hE (Z1 ++ [Hq c1])
  ·obtain ⟨r_2, h2, hf0⟩ := zg hf0
   let Z2 : List HO := (Z1 ++ [Hq c1, Hc h_tries_steps (x := l_) h2 (loC vo l_ <| loN)])
   rcases zQ hf0 with ⟨c2, hf0⟩ | ⟨c2, hf0⟩
   ·obtain rfl := zb hf0
    exact yE X0 hC hE (Z2 ++ [Hq c2])
   ·obtain rfl := zb hf0
    exact yE X0 hC hE (Z2 ++ [Hq c2])
noncomputable def YO : Code := (Tryz.f74.body).getD .skip
noncomputable def Yf : zR := spF (α := Int × List (List (List Int))) (ρ := Int) 74 (fun x => [(eI .i64) x.1, (eSl 1 false vo) x.2]) (fun r => (eI .i64) r) (fun x => ZZ x.1 x.2) [] (X3)
abbrev UL : List (Nat × T) := []
abbrev UK (inputs : Int) (l_ : List (List (List Int))) (x10 : Int) : List (Nat × T) := [(0, .d (I inputs)), (8, .d (eSl 1 false vo l_)), (9, .d (I ((l_.length : Nat) : Int))), (10, .d (I x10))]
theorem z0R {ctr : Ctr} (hC : zu Tryz.prog ctr) (h_tries_Check : ctr.Has jh) : Yf.Ok Tryz.prog := by
 refine zx ?_
 rintro ⟨inputs, l_⟩ r0 hf0
 try unfold ZZ at hf0
 refine yO true [(4, none)] YO 21 Tryz.func74 fun E hE => ?_
 refine yJ X0 hC YO [1] [] [] (fun z : Unit => ka = some r0) (fun z => UL) [(0, .d (I inputs)), (1, .d (eSl 1 false vo l_))] [Hh (.cut 1)] ?_ fun J1 hJ1 => ?_
 ·rintro ⟨⟩ hf0
  unfold ka at hf0
  obtain rfl := zb hf0
  exact yE X0 hC hE []
 ·obtain ⟨t2, ht2, hf0⟩ := zg hf0
  refine yL X0 hC YO [1,2,1,0] [J1] (fun s => vZ inputs l_ s) (fun x => UK inputs l_ x) 0 ht2  [Ha (lnM vo l_)] ?_
  rintro x10 m2 lr1 hf1 hl1 J2 hJ2
  try unfold vZ at hf1
  rcases zQ hf1 with ⟨c0, hf1⟩ | ⟨c0, hf1⟩
  ·obtain ⟨l__e, h0, hf1⟩ := zg hf1
   obtain ⟨r_, h1, hf1⟩ := zg hf1
   let Z0 : List HO := [Hq c0, Hi vo h0, Hc h_tries_Check (x := (l__e, inputs)) h1 (loC vo l__e <| loC (eI .i64) inputs <| loN)]
   rcases zQ hf1 with ⟨c1, hf1⟩ | ⟨c1, hf1⟩
   ·obtain rfl := zb hf1
    obtain rfl := hl1
    obtain rfl := zb hf0
    exact yE X0 hC hE (Z0 ++ [Hq c1])
   ·obtain rfl := zb hf1
    exact yB X0 hC hJ2 (w64 (x10 + 1)) hl1 (Z0 ++ [Hq c1])
  ·obtain rfl := zb hf1
   obtain rfl := hl1
   exact yB X0 hC hJ1 () hf0 [Hq c0]
noncomputable def XD : Code := (Tryz.f76.body).getD .skip
noncomputable def Xm : zR := spF (α := List Int) (ρ := List UInt8) 76 (fun x => [F3_ x]) (fun r => Wb r) (fun x => Xl x) [] (Ul)
abbrev JH (b_ : List Int) : List (Nat × T) := [(3, .own (eOs 1 true (eI .u8) b_))]
abbrev JG (w_ : List Int) (b_1 : List Int) (x11 : Int) : List (Nat × T) := [(3, .own (eOs 1 true (eI .u8) b_1)), (9, .d (eSl 1 false (eI .i64) w_)), (10, .d (I ((w_.length : Nat) : Int))), (11, .d (I x11))]
theorem z2i {ctr : Ctr} (hC : zu Tryz.prog ctr) : Xm.Ok Tryz.prog := by
 refine zx ?_
 rintro w_ r0 hf0
 try unfold Xl at hf0
 refine yO true [(2, none)] XD 24 Tryz.func76 fun E hE => ?_
 obtain ⟨g0, hf0⟩ := gdE hf0
 refine yJ X0 hC XD [1,1] [] [3] (fun z : List Int => Xk z = some r0) (fun z => JH z) [(0, .d (eSl 1 false (eI .i64) w_)), (3, .own (eOs 1 true (eI .u8) (List.replicate ((w_.length : Nat) : Int).toNat (0 : Int))))] [Ha (lnM (eI .i64) w_), Hn (rL g0), Ha (rM 1 (eI .u8) ((w_.length : Nat) : Int) (0 : Int)), Hh (.cut 0)] ?_ fun J1 hJ1 => ?_
 ·rintro b_ hf0
  unfold Xk at hf0
  obtain rfl := zb hf0
  exact yE ((zft Tryz.prog z9i).or X0) hC hE [Hx (.a (Wb (u8s b_))) (stM b_)]
 ·obtain ⟨t2, ht2, hf0⟩ := zg hf0
  refine yL X0 hC XD [1,1,2,1,0] [J1] (fun s => wV w_ s.1 s.2) (fun x => JG w_ x.1 x.2) ((List.replicate ((w_.length : Nat) : Int).toNat (0 : Int)), 0) ht2  [Ha (lnM (eI .i64) w_)] ?_
  rintro ⟨b_1, x11⟩ m2 lr1 hf1 hl1 J2 hJ2
  try unfold wV at hf1
  rcases zQ hf1 with ⟨c0, hf1⟩ | ⟨c0, hf1⟩
  ·obtain ⟨w__e, h0, hf1⟩ := zg hf1
   obtain ⟨b__e, h1, hf1⟩ := zg hf1
   obtain rfl := zb hf1
   exact yB X0 hC hJ2 ((b_1.set x11.toNat (IntKind.u8.wrap (w__e))), w64 (x11 + 1)) hl1 [Hq c0, Hi (eI .i64) h0, Hn (iL (eI .u8) h1), Hs (iM (eI .u8) h1), Hs (iM (eI .u8) h1), Hl (sM (eI .u8) b_1 x11 (IntKind.u8.wrap (w__e)))]
  ·obtain rfl := zb hf1
   obtain rfl := hl1
   exact yB X0 hC hJ1 b_1 hf0 [Hq c0]
noncomputable def wT : Code := (Tryz.f37.body).getD .skip
noncomputable def kJ : zR := spF (α := List (List Int) × List (List Int) × Int) (ρ := List (List Int) × Int) 37 (fun x => [vo x.1, vo x.2.1, (eI .i64) x.2.2]) (fun r => .tup [F9_ r.1, (eI .i64) r.2]) (fun x => uD x.1 x.2.1 x.2.2) [] (zbk)
abbrev V9 (out : List (List Int)) : List (Nat × T) := [(11, .own (eOs 1 false F3_ out))]
abbrev V8 (a_ : List (List Int)) (b_ : List (List Int)) (x29 : Int) (seen1 : List ((List UInt8) × Bool)) (n_1 : Int) (out2 : List (List Int)) : List (Nat × T) := [(1, .d (eSl 1 false F3_ b_)), (9, .own (.opq (Qe (XQ Wb eB seen1)))), (10, .d (I n_1)), (11, .own (eOs 1 false F3_ out2)), (27, .d (eSl 1 false F3_ a_)), (28, .d (I ((a_.length : Nat) : Int))), (29, .d (I x29))]
abbrev V7 (a_ : List (List Int)) (b_ : List (List Int)) (x29 : Int) (a__e : List Int) (x35 : Int) (seen3 : List ((List UInt8) × Bool)) (n_3 : Int) (out4 : List (List Int)) : List (Nat × T) := [(1, .d (eSl 1 false F3_ b_)), (9, .own (.opq (Qe (XQ Wb eB seen3)))), (10, .d (I n_3)), (11, .own (eOs 1 false F3_ out4)), (13, .d (eSl 1 false (eI .i64) a__e)), (27, .d (eSl 1 false F3_ a_)), (28, .d (I ((a_.length : Nat) : Int))), (29, .d (I x29)), (33, .d (eSl 1 false F3_ b_)), (34, .d (I ((b_.length : Nat) : Int))), (35, .d (I x35))]
abbrev V5 (a_ : List (List Int)) (b_ : List (List Int)) (x29 : Int) (a__e : List Int) (seen2 : List ((List UInt8) × Bool)) (n_2 : Int) (out3 : List (List Int)) (x35 : Int) : List (Nat × T) := [(1, .d (eSl 1 false F3_ b_)), (9, .own (.opq (Qe (XQ Wb eB seen2)))), (10, .d (I n_2)), (11, .own (eOs 1 false F3_ out3)), (13, .d (eSl 1 false (eI .i64) a__e)), (27, .d (eSl 1 false F3_ a_)), (28, .d (I ((a_.length : Nat) : Int))), (29, .d (I x29)), (33, .d (eSl 1 false F3_ b_)), (34, .d (I ((b_.length : Nat) : Int))), (35, .d (I x35))]
abbrev V6 (a_ : List (List Int)) (b_ : List (List Int)) (seen : List ((List UInt8) × Bool)) (n_ : Int) (out1 : List (List Int)) (x29 : Int) : List (Nat × T) := [(1, .d (eSl 1 false F3_ b_)), (9, .own (.opq (Qe (XQ Wb eB seen)))), (10, .d (I n_)), (11, .own (eOs 1 false F3_ out1)), (27, .d (eSl 1 false F3_ a_)), (28, .d (I ((a_.length : Nat) : Int))), (29, .d (I x29))]
theorem K3 {ctr : Ctr} (hC : zu Tryz.prog ctr) (h_tries_both : ctr.Has Yf) (h_slices_Clip_int_int : ctr.Has yn) (h_tries_key : ctr.Has Xm) (h_tries_sorted : ctr.Has vP) : kJ.Ok Tryz.prog := by
 refine zx ?_
 rintro ⟨a_, b_, inputs⟩ r0 hf0
 try unfold uD at hf0
 refine yO false [(6, none), (7, none)] wT 75 Tryz.func37 fun E hE => ?_
 obtain ⟨r_, h0, hf0⟩ := zg hf0
 let Z0 : List HO := [Hg (z1Q h_tries_both), Hm (shM vo vo ([a_, b_])), Hs (z1R h_tries_both (x := (inputs, [a_, b_])) h0 (loC (eI .i64) inputs <| loC (eSl 1 true vo) ([a_, b_] : List (List (List Int))) <| loN))]
 rcases zQ hf0 with ⟨c0, hf0⟩ | ⟨c0, hf0⟩
 ·obtain rfl := zb hf0
  exact yEx X0 hC hE (Z0 ++ [Hq c0, Hm (shM F3_ F3_ [])]) (.tup [eSl 1 true F0_ [], I r_]) (show LeV (.tup [eSl 1 true F0_ [], I r_]) (.tup [eSl 1 true F0_ ([] : List (List Int)), I r_]) from inferInstance)
 ·refine yJ ((zdp Tryz.prog 26).or X0) hC wT [1,1,1,1,1] [] [11] (fun z : List (List Int) => vO z = some r0) (fun z => V9 z) [(0, .d (eSl 1 false F3_ a_)), (1, .d (eSl 1 false F3_ b_)), (9, .own (.opq (Qe (XQ Wb eB ([] : List ((List UInt8) × Bool)))))), (10, .d (I 0)), (11, .own (eOs 1 true F3_ []))] (Z0 ++ [Hq c0, Hh (.cut 3)]) ?_ fun J1 hJ1 => ?_
  ·rintro out hf0
   unfold vO at hf0
   obtain ⟨r_1, h1, hf0⟩ := zg hf0
   obtain rfl := zb hf0
   exact yE X0 hC hE [Hg (z1Q h_tries_sorted), Hm (shM F3_ F3_ out), Hs (z1R h_tries_sorted (x := out) h1 (loC vo out <| loN)), Hm (shM F3_ F3_ out)]
  ·obtain ⟨t2, ht2, hf0⟩ := zg hf0
   refine yLx X0 hC wT [1,1,1,1,1,2,1,0] [J1] (fun s => vM a_ b_ s.1 s.2.1 s.2.2.1 s.2.2.2) (fun x => V6 a_ b_ x.1 x.2.1 x.2.2.1 x.2.2.2) (([] : List ((List UInt8) × Bool)), 0, ([] : List (List Int)), 0) ht2 [(1, .d (eSl 1 false F3_ b_)), (9, .own (.opq (Qe (XQ Wb eB ([] : List ((List UInt8) × Bool)))))), (10, .d (I 0)), (11, .own (eOs 1 true F3_ [])), (27, .d (eSl 1 false F3_ a_)), (28, .d (I ((a_.length : Nat) : Int))), (29, .d (I 0))] inferInstance [Ha (lnM F3_ a_)] ?_
   rintro ⟨seen, n_, out1, x29⟩ m2 lr1 hf1 hl1 J2 hJ2
   try unfold vM at hf1
   rcases zQ hf1 with ⟨c1, hf1⟩ | ⟨c1, hf1⟩
   ·refine yJ X0 hC wT [1,1,1,1,1,2,1,0,0,1,1] [J1, J2] [1,9,10,11,27,28,29] (fun z : (List ((List UInt8) × Bool)) × Int × List (List Int) => vN x29 z.1 z.2.1 z.2.2 = some lr1) (fun z => V8 a_ b_ x29 z.1 z.2.1 z.2.2) [(1, .d (eSl 1 false F3_ b_)), (9, .own (.opq (Qe (XQ Wb eB seen)))), (10, .d (I n_)), (11, .own (eOs 1 false F3_ out1)), (27, .d (eSl 1 false F3_ a_)), (28, .d (I ((a_.length : Nat) : Int))), (29, .d (I x29))] [Hq c1, Hh (.cut 0)] ?_ fun J3 hJ3 => ?_
    ·rintro ⟨seen1, n_1, out2⟩ hf1
     unfold vN at hf1
     obtain rfl := zb hf1
     exact yB X0 hC hJ2 (seen1, n_1, out2, w64 (x29 + 1)) hl1 []
    ·obtain ⟨a__e, h2, hf1⟩ := zg hf1
     obtain ⟨t4, ht4, hf1⟩ := zg hf1
     refine yL X0 hC wT [1,1,1,1,1,2,1,0,0,1,1,2,0,1,1,0] [J1, J2, J3] (fun s => wK b_ a__e s.1 s.2.1 s.2.2.1 s.2.2.2) (fun x => V5 a_ b_ x29 a__e x.1 x.2.1 x.2.2.1 x.2.2.2) (seen, n_, out1,0) ht4  [Hi F3_ h2, Ha (lnM F3_ b_)] ?_
     rintro ⟨seen2, n_2, out3, x35⟩ m4 lr2 hf2 hl2 J4 hJ4
     try unfold wK at hf2
     rcases zQ hf2 with ⟨c2, hf2⟩ | ⟨c2, hf2⟩
     ·obtain ⟨b__e, h3, hf2⟩ := zg hf2
      obtain ⟨r_2, h4, hf2⟩ := zg hf2
      obtain ⟨g0, hf2⟩ := gdE hf2
      let Z1 : List HO := [Hq c2, Hi F3_ h3, Hc h_slices_Clip_int_int (x := a__e) h4 (loC F3_ a__e <| loN), Hn (apM (eI .i64) g0), Hl (aM (eI .i64) r_2 b__e), Ha (lnM (eI .i64) (r_2 ++ b__e))]
      rcases zQ hf2 with ⟨c3, hf2⟩ | ⟨c3, hf2⟩
      ·obtain rfl := zb hf2
       obtain rfl := hl2
       obtain rfl := zb hf1
       obtain rfl := hl1
       obtain rfl := zb hf0
       exact yEx ((xAp zz 42).or X0) hC hE (Z1 ++ [Hq c3, Hm (shM F3_ F3_ [])]) (.tup [eSl 1 true F0_ [], I 3]) (show LeV (.tup [eSl 1 true F0_ [], I 3]) (.tup [eSl 1 true F0_ ([] : List (List Int)), I 3]) from inferInstance)
      ·refine yJ ((xAp zz 42).or X0) hC wT [1,1,1,1,1,2,1,0,0,1,1,2,0,1,1,0,0,1,1,0,0,1,1,1] [J1, J2, J3, J4] [1,9,10,11,13,27,28,29,33,34,35] (fun z : (List ((List UInt8) × Bool)) × Int × List (List Int) => wL x35 z.1 z.2.1 z.2.2 = some lr2) (fun z => V7 a_ b_ x29 a__e x35 z.1 z.2.1 z.2.2) [(1, .d (eSl 1 false F3_ b_)), (9, .own (.opq (Qe (XQ Wb eB seen2)))), (10, .d (I n_2)), (11, .own (eOs 1 false F3_ out3)), (13, .d (eSl 1 false (eI .i64) a__e)), (16, .d (eSl 1 false (eI .i64) (r_2 ++ b__e))), (27, .d (eSl 1 false F3_ a_)), (28, .d (I ((a_.length : Nat) : Int))), (29, .d (I x29)), (33, .d (eSl 1 false F3_ b_)), (34, .d (I ((b_.length : Nat) : Int))), (35, .d (I x35))] (Z1 ++ [Hq c3, Hh (.cut 0)]) ?_ fun J5 hJ5 => ?_
       ·rintro ⟨seen3, n_3, out4⟩ hf2
        unfold wL at hf2
        let Z2 : List HO := [Ha (lnM F3_ out4)]
        rcases zQ hf2 with ⟨c4, hf2⟩ | ⟨c4, hf2⟩
        ·obtain rfl := zb hf2
         obtain rfl := hl2
         obtain rfl := zb hf1
         obtain rfl := hl1
         obtain rfl := zb hf0
         exact yEx X0 hC hE (Z2 ++ [Hq c4, Hq c4, Hq c4, qT, Hm (shM F3_ F3_ [])]) (.tup [eSl 1 true F0_ [], I 3]) (show LeV (.tup [eSl 1 true F0_ [], I 3]) (.tup [eSl 1 true F0_ ([] : List (List Int)), I 3]) from inferInstance)
        ·rcases zQ hf2 with ⟨c5, hf2⟩ | ⟨c5, hf2⟩
         ·obtain rfl := zb hf2
          obtain rfl := hl2
          obtain rfl := zb hf1
          obtain rfl := hl1
          obtain rfl := zb hf0
          exact yEx X0 hC hE (Z2 ++ [Hq c4, Hq c4, Hq c4, Hq c5, Hm (shM F3_ F3_ [])]) (.tup [eSl 1 true F0_ [], I 3]) (show LeV (.tup [eSl 1 true F0_ [], I 3]) (.tup [eSl 1 true F0_ ([] : List (List Int)), I 3]) from inferInstance)
         ·obtain rfl := zb hf2
          exact yB X0 hC hJ4 (seen3, n_3, out4, w64 (x35 + 1)) hl2 (Z2 ++ [Hq c4, Hq c4, Hq c4, Hq c5])
       ·obtain ⟨r_3, h5, hf2⟩ := zg hf2
        obtain ⟨val, h6, hf2⟩ := zg hf2
        replace h6 := zb h6
        let Z3 : List HO := [Hc h_tries_key (x := (r_2 ++ b__e)) h5 (loC F3_ (r_2 ++ b__e) <| loN), Hn (⟨rfl, rfl, z8u (fun _ => rfl) seen2⟩ : A.opq (Qe (XQ Wb eB seen2)) = A.opq (Qe (XQ Wb eB seen2)) ∧ z0k (Wb r_3) = true ∧ ∀ p ∈ XQ Wb eB seen2, z0k p.1 = true), Hx (.a (eB val)) ((zfU (f := Wb) (g := eB) (z0 := false) (z := .atom (.bool false)) rfl r_3 seen2).trans (congrArg eB h6))]
        rcases zQ hf2 with ⟨c6, hf2⟩ | ⟨c6, hf2⟩
        ·obtain ⟨g1, hf2⟩ := gdE hf2
         exact yB ((zfs z5p 52 (XQ Wb eB seen2) (XQ Wb eB (z3s seen2 r_3 true))).or ((zaj z5p 50 (XQ Wb eB seen2)).or X0)) hC hJ5 ((z3s seen2 r_3 true), w64 (n_2 + (((r_2 ++ b__e).length : Nat) : Int)), (out3 ++ ([(r_2 ++ b__e)] : List (List Int)))) hf2 (Z3 ++ [Hq c6, Hn (⟨rfl, rfl, rfl, rfl, z8u (fun _ => rfl) seen2⟩ : T.own (.opq (Qe (XQ Wb eB seen2))) = T.own (.opq (Qe (XQ Wb eB seen2))) ∧ 0 = 0 ∧ z0k (Wb r_3) = true ∧ (eB true).isD = true ∧ ∀ p ∈ XQ Wb eB seen2, z0k p.1 = true), Hn (z9u (f := Wb) (g := eB) r_3 true seen2), Hq (dM F3_ ([(r_2 ++ b__e)] : List (List Int))), Hn (dM F3_ ([(r_2 ++ b__e)] : List (List Int))), Hn (aL F3_ F3_ g1), Hl (aM F3_ out3 ([(r_2 ++ b__e)] : List (List Int))), Ha (lnM (eI .i64) (r_2 ++ b__e))])
        ·exact yB ((zaj z5p 50 (XQ Wb eB seen2)).or X0) hC hJ5 (seen2, n_2, out3) hf2 (Z3 ++ [Hq c6])
     ·obtain rfl := zb hf2
      obtain rfl := hl2
      exact yB X0 hC hJ3 (seen2, n_2, out3) hf1 [Hq c2]
   ·obtain rfl := zb hf1
    obtain rfl := hl1
    exact yB X0 hC hJ1 out1 hf0 [Hq c1]
noncomputable def V0 : Code := (Tryz.f10.body).getD .skip
noncomputable def wn : zR := spF (α := z7 × Int) (ρ := List (List Int) × Int) 10 (fun x => [xO x.1, (eI .i64) x.2]) (fun r => .tup [F9_ r.1, (eI .i64) r.2]) (fun x => xi x.1 x.2) [] (X3)
theorem Vi {ctr : Ctr} (hC : zu Tryz.prog ctr) (h_covers_States : ctr.Has vg) (h_tries_Upto : ctr.Has Yg) (h_tries_Concat : ctr.Has kJ) : wn.Ok Tryz.prog := by
 refine zx ?_
 rintro ⟨m_, k_⟩ r0 hf0
 try unfold xi at hf0
 refine yO false [(4, none), (5, none)] V0 36 Tryz.func10 fun E hE => ?_
 obtain ⟨r_, h0, hf0⟩ := zg hf0
 let Z0 : List HO := [Hc h_covers_States (x := m_) h0 (loC xO m_ <| loN)]
 rcases zQ hf0 with ⟨c0, hf0⟩ | ⟨c0, hf0⟩
 ·obtain rfl := zb hf0
  exact yEx X0 hC hE (Z0 ++ [Hq c0, Hm (shM F3_ F3_ [])]) (.tup [eSl 1 true F0_ [], I r_.2]) (show LeV (.tup [eSl 1 true F0_ [], I r_.2]) (.tup [eSl 1 true F0_ ([] : List (List Int)), I r_.2]) from inferInstance)
 ·rcases zQ hf0 with ⟨c1, hf0⟩ | ⟨c1, hf0⟩
  ·obtain rfl := zb hf0
   exact yEx X0 hC hE (Z0 ++ [Hq c0, Hq c1, Hm (shM F3_ F3_ [])]) (.tup [eSl 1 true F0_ [], I 1]) (show LeV (.tup [eSl 1 true F0_ [], I 1]) (.tup [eSl 1 true F0_ ([] : List (List Int)), I 1]) from inferInstance)
  ·obtain ⟨r_1, h1, hf0⟩ := zg hf0
   let Z1 : List HO := (Z0 ++ [Hq c0, Hq c1, Hc h_tries_Upto (x := (m_.Inputs, k_)) h1 (loC (eI .i64) m_.Inputs <| loC (eI .i64) k_ <| loN)])
   rcases zQ hf0 with ⟨c2, hf0⟩ | ⟨c2, hf0⟩
   ·obtain rfl := zb hf0
    exact yEx X0 hC hE (Z1 ++ [Hq c2, Hm (shM F3_ F3_ [])]) (.tup [eSl 1 true F0_ [], I r_1.2]) (show LeV (.tup [eSl 1 true F0_ [], I r_1.2]) (.tup [eSl 1 true F0_ ([] : List (List Int)), I r_1.2]) from inferInstance)
   ·obtain ⟨r_2, h2, hf0⟩ := zg hf0
    obtain rfl := zb hf0
    exact yE X0 hC hE (Z1 ++ [Hq c2, Hc h_tries_Concat (x := (r_.1, r_1.1, m_.Inputs)) h2 (loC F9_ r_.1 <| loC F9_ r_1.1 <| loC (eI .i64) m_.Inputs <| loN)])
noncomputable def XF : Code := (Tryz.f9.body).getD .skip
noncomputable def wm : zR := spF (α := z7) (ρ := List (List Int) × Int) 9 (fun x => [xO x]) (fun r => .tup [F9_ r.1, (eI .i64) r.2]) (fun x => xp x) [] (Ul)
theorem XW {ctr : Ctr} (hC : zu Tryz.prog ctr) (h_covers_Switches : ctr.Has wn) : wm.Ok Tryz.prog := by
 refine zx ?_
 rintro m_ r0 hf0
 try unfold xp at hf0
 refine yO false [(2, none), (3, none)] XF 8 Tryz.func9 fun E hE => ?_
 obtain ⟨r_, h0, hf0⟩ := zg hf0
 obtain rfl := zb hf0
 exact yE X0 hC hE [Hc h_covers_Switches (x := (m_, 1)) h0 (loC xO m_ <| loC (eI .i64) 1 <| loN)]
noncomputable def z0B : Code := (Tryz.f86.body).getD .skip
noncomputable def kb : zR := spF (α := z7 × Int × Int) (ρ := z8) 86 (fun x => [xO x.1, (eI .i64) x.2.1, (eI .i64) x.2.2]) (fun r => F8_ r) (fun x => Y5 x.1 x.2.1 x.2.2) [] (zbk)
theorem z0Z {ctr : Ctr} (hC : zu Tryz.prog ctr) : kb.Ok Tryz.prog := by
 refine zx ?_
 rintro ⟨m_, s_, i_⟩ r0 hf0
 try unfold Y5 at hf0
 refine yO false [(6, some 68)] z0B 18 Tryz.func86 fun E hE => ?_
 rcases zQ hf0 with ⟨c0, hf0⟩ | ⟨c0, hf0⟩
 ·obtain rfl := zb hf0
  exact yE X0 hC hE [Hq c0]
 ·obtain ⟨Row_e, h0, hf0⟩ := zg hf0
  obtain ⟨Row_e_e, h1, hf0⟩ := zg hf0
  obtain rfl := zb hf0
  exact yE X0 hC hE [Hq c0, Hi vK h0, Hi F8_ h1]
noncomputable def Ke : Code := (Tryz.f56.body).getD .skip
noncomputable def ZG : zR := spF (α := z7 × Int × List Int) (ρ := Int) 56 (fun x => [xO x.1, (eI .i64) x.2.1, F3_ x.2.2]) (fun r => (eI .i64) r) (fun x => YB x.1 x.2.1 x.2.2) [] (zbk)
theorem WI : ∀ (x y : z7 × Int × List Int), (fun x => [xO x.1, (eI .i64) x.2.1, F3_ x.2.2]) x = (fun x => [xO x.1, (eI .i64) x.2.1, F3_ x.2.2]) y → x = y := zbk
noncomputable def jI (rc_ : z7 → Int → (List Int) → Option Int) : zR := spF (α := z7 × Int × List Int) (ρ := Int) 56 (fun x => [xO x.1, (eI .i64) x.2.1, F3_ x.2.2]) (fun r => (eI .i64) r) (fun x => rc_ x.1 x.2.1 x.2.2) [] (by
 intro x y h
 exact (congrArg (fun (p : z7 × Int × List Int) => p) (show x = y from WI x y h)))
theorem Qr {ctr : Ctr} (hC : zu Tryz.prog ctr) (h_ref04_Next : ctr.Has kb) (rc_ : z7 → Int → (List Int) → Option Int) (h_rc_ : ctr.Has (jI rc_)) : (jI (u7 rc_)).Ok Tryz.prog := by
 refine zx ?_
 rintro ⟨m_, s_, w_⟩ r0 hf0
 try unfold u7 at hf0
 refine yO true [(6, none)] Ke 22 Tryz.func56 fun E hE => ?_
 rcases zQ hf0 with ⟨c0, hf0⟩ | ⟨c0, hf0⟩
 ·obtain rfl := zb hf0
  exact yE X0 hC hE [Ha (lnM (eI .i64) w_), Hq c0]
 ·obtain ⟨w__e, h0, hf0⟩ := zg hf0
  obtain ⟨r_, h1, hf0⟩ := zg hf0
  obtain ⟨g0, hf0⟩ := gdE hf0
  obtain ⟨r_1, h2, hf0⟩ := zg hf0
  obtain rfl := zb hf0
  exact yE ((zdq zz z9J).or X0) hC hE [Ha (lnM (eI .i64) w_), Hq c0, Hi (eI .i64) h0, Hc h_ref04_Next (x := (m_, s_, w__e)) h1 (loC xO m_ <| loC (eI .i64) s_ <| loC (eI .i64) w__e <| loN), Hn (slA g0), Hn (zdz (eI .i64) g0), Ha (slE 1 false (eI .i64) w_ (1 : Int).toNat), Hc h_rc_ (x := (m_, r_.To, (w_.drop (1 : Int).toNat))) h2 (loC xO m_ <| loC (eI .i64) r_.To <| loC F3_ (w_.drop (1 : Int).toNat) <| loN)]
theorem KY {ctr : Ctr} (hC : zu Tryz.prog ctr) (h_ref04_Next : ctr.Has kb) : ZG.Ok Tryz.prog := by
 have H : ∀ n, (jI (uU n)).Ok Tryz.prog := by
  intro n
  induction n with
  | zero => exact zx fun _ _ h => nomatch (show none = some _ from h)
  | succ n ih => exact Qr (Ctr.add_ok hC ih) (h_ref04_Next.add (by show (86 : Nat) ≠ 56; decide)) _ (Ctr.add_has _ _)
 exact zx fun x r h => z4I (H _) h
noncomputable def YT : Code := (Tryz.f108.body).getD .skip
noncomputable def Ym : zR := spF (α := List Int × Int) (ρ := List Int) 108 (fun x => [F3_ x.1, (eI .i64) x.2]) (fun r => F4_ r) (fun x => kB x.1 x.2) [] (X3)
abbrev UZ (out : List Int) : List (Nat × T) := [(5, .own (eOs 1 false (eI .i64) out))]
abbrev UY (inputs : Int) (out1 : List Int) (k_ : Int) : List (Nat × T) := [(1, .d (I inputs)), (5, .own (eOs 1 false (eI .i64) out1)), (6, .d (I k_))]
theorem z0Y {ctr : Ctr} (hC : zu Tryz.prog ctr) : Ym.Ok Tryz.prog := by
 refine zx ?_
 rintro ⟨w_, inputs⟩ r0 hf0
 try unfold kB at hf0
 refine yO true [(4, none)] YT 37 Tryz.func108 fun E hE => ?_
 obtain ⟨g0, hf0⟩ := gdE hf0
 refine yJ X0 hC YT [1,1] [] [5] (fun z : List Int => uT z = some r0) (fun z => UZ z) [(1, .d (I inputs)), (5, .own (eOs 1 false (eI .i64) w_))] [Hn (dM (eI .i64) w_), Hn (aL (eI .i64) (eI .i64) g0), Hl (aM0 (eI .i64) w_), Hh (.cut 0)] ?_ fun J1 hJ1 => ?_
 ·rintro out hf0
  unfold uT at hf0
  obtain ⟨g1, hf0⟩ := gdE hf0
  obtain rfl := zb hf0
  exact yE X0 hC hE [Hq (dM (eI .i64) ([0] : List Int)), Hn (dM (eI .i64) ([0] : List Int)), Hn (aL (eI .i64) (eI .i64) g1), Hl (aM (eI .i64) out ([0] : List Int))]
 ·obtain ⟨t2, ht2, hf0⟩ := zg hf0
  refine yL X0 hC YT [1,1,2,1,0] [J1] (fun s => uS inputs s.1 s.2) (fun x => UY inputs x.1 x.2) (w_, w64 (((w_.length : Nat) : Int) - 1)) ht2  [Ha (lnM (eI .i64) w_)] ?_
  rintro ⟨out1, k_⟩ m2 lr1 hf1 hl1 J2 hJ2
  try unfold uS at hf1
  rcases zQ hf1 with ⟨c0, hf1⟩ | ⟨c0, hf1⟩
  ·obtain ⟨out_e, h0, hf1⟩ := zg hf1
   let Z0 : List HO := [Hq c0, Hn (iL (eI .i64) h0), Hs (iM (eI .i64) h0)]
   rcases zQ hf1 with ⟨c1, hf1⟩ | ⟨c1, hf1⟩
   ·obtain ⟨out_e1, h1, hf1⟩ := zg hf1
    obtain ⟨out_e2, h2, hf1⟩ := zg hf1
    obtain rfl := zb hf1
    obtain rfl := hl1
    obtain rfl := zb hf0
    exact yE X0 hC hE (Z0 ++ [Hq c1, Hn (iL (eI .i64) h1), Hs (iM (eI .i64) h1), Hn (iL (eI .i64) h2), Hs (iM (eI .i64) h2), Hs (iM (eI .i64) h2), Hl (sM (eI .i64) out1 k_ (w64 (out_e1 + 1)))])
   ·obtain ⟨out_e3, h3, hf1⟩ := zg hf1
    obtain rfl := zb hf1
    exact yB X0 hC hJ2 ((out1.set k_.toNat 0), w64 (k_ - 1)) hl1 (Z0 ++ [Hq c1, Hn (iL (eI .i64) h3), Hs (iM (eI .i64) h3), Hs (iM (eI .i64) h3), Hl (sM (eI .i64) out1 k_ 0)])
  ·obtain rfl := zb hf1
   obtain rfl := hl1
   exact yB X0 hC hJ1 out1 hf0 [Hq c0]
noncomputable def jo : Code := (Tryz.f77.body).getD .skip
noncomputable def ZF : zR := spF (α := z7 × Int) (ρ := List (List Int) × List Bool) 77 (fun x => [xO x.1, (eI .i64) x.2]) (fun r => .tup [zdn r.1, (eSl 1 true eB) r.2]) (fun x => kP x.1 x.2) [] (X3)
abbrev VW (l_ : List (List Int)) (is : List Bool) : List (Nat × T) := [(6, .own (eOs 1 true F3_ l_)), (7, .own (eOs 1 true eB is))]
abbrev VV (m_ : z7) (from_ : Int) (w_ : List Int) (l_2 : List (List Int)) (is2 : List Bool) : List (Nat × T) := [(1, .d (I from_)), (2, .own (.box (xO m_))), (6, .own (eOs 1 true F3_ l_2)), (7, .own (eOs 1 true eB is2)), (8, .d (eSl 1 false (eI .i64) w_))]
abbrev VU (m_ : z7) (from_ : Int) (l_1 : List (List Int)) (is1 : List Bool) (w_ : List Int) : List (Nat × T) := [(1, .d (I from_)), (2, .own (.box (xO m_))), (6, .own (eOs 1 true F3_ l_1)), (7, .own (eOs 1 true eB is1)), (8, .own (eOs 1 false (eI .i64) w_))]
noncomputable def xH : XH Tryz.prog := ((z4t zz (.inr 48) [8]).or X0)
theorem KX {ctr : Ctr} (hC : zu Tryz.prog ctr) (h_ref04_After : ctr.Has ZG) (h_ref06_next : ctr.Has Ym) : ZF.Ok Tryz.prog := by
 refine zx ?_
 rintro ⟨m_, from_⟩ r0 hf0
 try unfold kP at hf0
 refine yO false [(4, none), (5, none)] jo 51 Tryz.func77 fun E hE => ?_
 obtain ⟨g0, hf0⟩ := gdE hf0
 obtain ⟨g1, hf0⟩ := gdE hf0
 refine yJ xH hC jo [1,1,1] [] [6,7] (fun z : List (List Int) × List Bool => jn z.1 z.2 = some r0) (fun z => VW z.1 z.2) [(1, .d (I from_)), (2, .own (.box (xO m_))), (6, .own (eOs 1 true F0_ (List.replicate ((m_.Rows.length : Nat) : Int).toNat ([] : List Int)))), (7, .own (eOs 1 true eB (List.replicate ((m_.Rows.length : Nat) : Int).toNat false)))] [Ha (lnM vK m_.Rows), Hn (rL g0), Ha (rM 1 F1_ ((m_.Rows.length : Nat) : Int) ([] : List Int)), Hh (.v 0 [6]), Hm (shM F1_ F0_ (List.replicate ((m_.Rows.length : Nat) : Int).toNat ([] : List Int))), Ha (lnM vK m_.Rows), Hn (rL g1), Ha (rM 1 eB ((m_.Rows.length : Nat) : Int) false), Hh (.cut 0)] ?_ fun J1 hJ1 => ?_
 ·rintro ⟨l_, is⟩ hf0
  unfold jn at hf0
  obtain rfl := zb hf0
  exact yE xH hC hE [Hm (shM F3_ F3_ l_), Hm (shM eB eB is)]
 ·obtain ⟨t2, ht2, hf0⟩ := zg hf0
  refine yLx xH hC jo [1,1,1,2,1,0] [J1] (fun s => jm m_ from_ s.1 s.2.1 s.2.2) (fun x => VU m_ from_ x.1 x.2.1 x.2.2) ((List.replicate ((m_.Rows.length : Nat) : Int).toNat ([] : List Int)), (List.replicate ((m_.Rows.length : Nat) : Int).toNat false), ([] : List Int)) ht2 [(1, .d (I from_)), (2, .own (.box (xO m_))), (6, .own (eOs 1 true F0_ (List.replicate ((m_.Rows.length : Nat) : Int).toNat ([] : List Int)))), (7, .own (eOs 1 true eB (List.replicate ((m_.Rows.length : Nat) : Int).toNat false))), (8, .own (eOs 1 true (eI .i64) []))] inferInstance [] ?_
  rintro ⟨l_1, is1, w_⟩ m2 lr1 hf1 hl1 J2 hJ2
  try unfold jm at hf1
  let Z0 : List HO := [Ha (lnM (eI .i64) w_), Ha (lnM vK m_.Rows)]
  rcases zQ hf1 with ⟨c0, hf1⟩ | ⟨c0, hf1⟩
  ·refine yJ xH hC jo [1,1,1,2,1,0,0,1] [J1, J2] [1,2,6,7,8] (fun z : List (List Int) × List Bool => wC m_ w_ z.1 z.2 = some lr1) (fun z => VV m_ from_ w_ z.1 z.2) [(1, .d (I from_)), (2, .own (.box (xO m_))), (6, .own (eOs 1 true F3_ l_1)), (7, .own (eOs 1 true eB is1)), (8, .d (eSl 1 false (eI .i64) w_))] (Z0 ++ [Hq c0, Hh (.n 1 [8]), Hm (shM (eI .i64) (eI .i64) w_), Hh (.cut 0)]) ?_ fun J3 hJ3 => ?_
   ·rintro ⟨l_2, is2⟩ hf1
    unfold wC at hf1
    obtain ⟨r_, h0, hf1⟩ := zg hf1
    obtain rfl := zb hf1
    exact yB xH hC hJ2 (l_2, is2, r_) hl1 [Hc h_ref06_next (x := (w_, m_.Inputs)) h0 (loC F3_ w_ <| loC (eI .i64) m_.Inputs <| loN)]
   ·obtain ⟨r_1, h1, hf1⟩ := zg hf1
    let Z1 : List HO := [Hc h_ref04_After (x := (m_, from_, w_)) h1 (loC xO m_ <| loC (eI .i64) from_ <| loC F3_ w_ <| loN)]
    rcases zQ hf1 with ⟨c1, hf1⟩ | ⟨c1, hf1⟩
    ·obtain ⟨is_e, h2, hf1⟩ := zg hf1
     let Z2 : List HO := (Z1 ++ [Hq c1, Hq c1, Hq c1, Hn (iL eB h2), Hq c1, Hs (iM eB h2), Hq c1, Hq c1])
     rcases zQ hf1 with ⟨c2, hf1⟩ | ⟨c2, hf1⟩
     ·obtain ⟨is_e1, h3, hf1⟩ := zg hf1
      obtain ⟨l__e, h4, hf1⟩ := zg hf1
      exact yB xH hC hJ3 ((l_1.set r_1.toNat w_), (is1.set r_1.toNat true)) hf1 (Z2 ++ [Hq c2, Hn (iL eB h3), Hs (iM eB h3), Hs (iM eB h3), Hl (sM eB is1 r_1 true), Hn (iL F3_ h4), Hs (iM F3_ h4), Hs (iM F3_ h4), Hl (sM F3_ l_1 r_1 w_)])
     ·exact yB xH hC hJ3 (l_1, is1) hf1 (Z2 ++ [Hq c2])
    ·exact yB xH hC hJ3 (l_1, is1) hf1 (Z1 ++ (rpN 6 (Hq c1) [qF]))
  ·obtain rfl := zb hf1
   obtain rfl := hl1
   exact yB xH hC hJ1 (l_1, is1) hf0 (Z0 ++ [Hq c0])
noncomputable def JC : Code := (Tryz.f38.body).getD .skip
noncomputable def uO : zR := spF (α := z7) (ρ := List (List Int) × List Bool) 38 (fun x => [xO x]) (fun r => .tup [zdn r.1, (eSl 1 true eB) r.2]) (fun x => vV x) [] (Ul)
theorem K6 {ctr : Ctr} (hC : zu Tryz.prog ctr) (h_ref06_Paths : ctr.Has ZF) : uO.Ok Tryz.prog := by
 refine zx ?_
 rintro m_ r0 hf0
 try unfold vV at hf0
 refine yO false [(2, none), (3, none)] JC 8 Tryz.func38 fun E hE => ?_
 obtain ⟨r_, h0, hf0⟩ := zg hf0
 obtain rfl := zb hf0
 exact yE X0 hC hE [Hc h_ref06_Paths (x := (m_, 0)) h0 (loC xO m_ <| loC (eI .i64) 0 <| loN)]
noncomputable def ur : Code := (Tryz.f11.body).getD .skip
noncomputable def jL : zR := spF (α := z7) (ρ := Int) 11 (fun x => [xO x]) (fun r => (eI .i64) r) (fun x => uY x) [] (Ul)
abbrev WB (n_ : Int) : List (Nat × T) := [(5, .d (I n_))]
abbrev WA (r_ : List (List Int) × List Bool) (s_ : Int) (n_2 : Int) : List (Nat × T) := [(4, .d (eSl 1 true eB r_.2)), (5, .d (I n_2)), (6, .d (I s_))]
abbrev Wz (r_ : List (List Int) × List Bool) (n_1 : Int) (s_ : Int) : List (Nat × T) := [(4, .d (eSl 1 true eB r_.2)), (5, .d (I n_1)), (6, .d (I s_))]
theorem Qu {ctr : Ctr} (hC : zu Tryz.prog ctr) (h_ref06_Access : ctr.Has uO) : jL.Ok Tryz.prog := by
 refine zx ?_
 rintro m_ r0 hf0
 try unfold uY at hf0
 refine yO true [(2, none)] ur 25 Tryz.func11 fun E hE => ?_
 obtain ⟨r_, h0, hf0⟩ := zg hf0
 refine yJ X0 hC ur [1,1,1] [] [5] (fun z : Int => jQ z = some r0) (fun z => WB z) [(4, .d (eSl 1 true eB r_.2)), (5, .d (I 0))] [Hc h_ref06_Access (x := m_) h0 (loC xO m_ <| loN), Hh (.cut 1)] ?_ fun J1 hJ1 => ?_
 ·rintro n_ hf0
  unfold jQ at hf0
  obtain rfl := zb hf0
  exact yE X0 hC hE []
 ·obtain ⟨t2, ht2, hf0⟩ := zg hf0
  refine yL X0 hC ur [1,1,1,2,1,0] [J1] (fun s => wg r_ s.1 s.2) (fun x => Wz r_ x.1 x.2) (0,0) ht2  [] ?_
  rintro ⟨n_1, s_⟩ m2 lr1 hf1 hl1 J2 hJ2
  try unfold wg at hf1
  rcases zQ hf1 with ⟨c0, hf1⟩ | ⟨c0, hf1⟩
  ·refine yJ X0 hC ur [1,1,1,2,1,0,0,1] [J1, J2] [4,5,6] (fun z : Int => vn s_ z = some lr1) (fun z => WA r_ s_ z) [(4, .d (eSl 1 true eB r_.2)), (5, .d (I n_1)), (6, .d (I s_))] [Ha (lnM eB r_.2), Hq c0, Hh (.cut 0)] ?_ fun J3 hJ3 => ?_
   ·rintro n_2 hf1
    unfold vn at hf1
    obtain rfl := zb hf1
    exact yB X0 hC hJ2 (n_2, w64 (s_ + 1)) hl1 []
   ·obtain ⟨u_, h1, hf1⟩ := zg hf1
    rcases zQ hf1 with ⟨c1, hf1⟩ | ⟨c1, hf1⟩
    ·exact yB X0 hC hJ3 (w64 (n_1 + 1)) hf1 [Hi eB h1, Hq c1]
    ·exact yB X0 hC hJ3 n_1 hf1 [Hi eB h1, Hq c1]
  ·obtain rfl := zb hf1
   obtain rfl := hl1
   exact yB X0 hC hJ1 n_1 hf0 [Ha (lnM eB r_.2), Hq c0]
noncomputable def UG : Code := (Tryz.f39.body).getD .skip
noncomputable def jM : zR := spF (α := Unit) (ρ := z7) 39 (fun x => []) (fun r => z6l r) (fun x => YE) [] (fun _ _ _ => rfl)
theorem Qv {ctr : Ctr} (hC : zu Tryz.prog ctr) : jM.Ok Tryz.prog := by
 refine zx ?_
 rintro ⟨⟩ r0 hf0
 try unfold YE at hf0
 refine yO false [(0, some 27)] UG 14 Tryz.func39 fun E hE => ?_
 obtain rfl := zb hf0
 exact yE X0 hC hE [Hm (shM (eOs 2 true F8_) zfo ([[(z8.mk 1 0), (z8.mk 0 0)], [(z8.mk 2 1), (z8.mk (-1) (-1))], [(z8.mk 0 0), (z8.mk 2 1)]]))]
noncomputable def z0D : Code := (Tryz.f40.body).getD .skip
noncomputable def Yn : zR := spF (α := List (List Int)) (ρ := List (List Int)) 40 (fun x => [vo x]) (fun r => vo r) (fun x => qU x) [] (Ul)
theorem z11 {ctr : Ctr} (hC : zu Tryz.prog ctr) : Yn.Ok Tryz.prog := by
 refine zx ?_
 rintro l_ r0 hf0
 try unfold qU at hf0
 refine yO true [(2, none)] z0D 4 Tryz.func40 fun E hE => ?_
 obtain rfl := zb hf0
 exact yE X0 hC hE []
noncomputable def JD : Code := (Tryz.f46.body).getD .skip
noncomputable def vR : zR := spF (α := z7 × List (List Int)) (ρ := Int) 46 (fun x => [xO x.1, vo x.2]) (fun r => (eI .i64) r) (fun x => jx x.1 x.2) [] (X3)
theorem K7 {ctr : Ctr} (hC : zu Tryz.prog ctr) (h_machines_Check : ctr.Has wN) (h_tries_Check : ctr.Has jh) : vR.Ok Tryz.prog := by
 refine zx ?_
 rintro ⟨m_, l_⟩ r0 hf0
 try unfold jx at hf0
 refine yO true [(4, none)] JD 15 Tryz.func46 fun E hE => ?_
 obtain ⟨r_, h0, hf0⟩ := zg hf0
 let Z0 : List HO := [Hc h_machines_Check (x := m_) h0 (loC xO m_ <| loN)]
 rcases zQ hf0 with ⟨c0, hf0⟩ | ⟨c0, hf0⟩
 ·obtain rfl := zb hf0
  exact yE X0 hC hE (Z0 ++ [Hq c0])
 ·obtain ⟨r_1, h1, hf0⟩ := zg hf0
  obtain rfl := zb hf0
  exact yE X0 hC hE (Z0 ++ [Hq c0, Hc h_tries_Check (x := (l_, m_.Inputs)) h1 (loC vo l_ <| loC (eI .i64) m_.Inputs <| loN)])
noncomputable def kZ : Code := (Tryz.f47.body).getD .skip
noncomputable def uQ : zR := spF (α := z7) (ρ := zc) 47 (fun x => [xO x]) (fun r => zd5 r) (fun x => Zw x) [] (Ul)
abbrev Vf (m_ : z7) (c_Edges : List (List Bool)) : List (Nat × T) := [(2, .own (.box (.agg [eOs 1 true eB [], eOs 1 true (eSl 1 false eB) []]))), (3, .own (.box (.agg [eOs 1 true eB (List.replicate ((m_.Rows.length : Nat) : Int).toNat false), eOs 1 true (eOs 1 true eB) c_Edges])))]
abbrev Ve (m_ : z7) (c_Edges1 : List (List Bool)) (x17 : Int) : List (Nat × T) := [(1, .own (.box (xO m_))), (2, .own (.box (.agg [eOs 1 true eB [], eOs 1 true (eSl 1 false eB) []]))), (3, .own (.box (.agg [eOs 1 true eB (List.replicate ((m_.Rows.length : Nat) : Int).toNat false), eOs 1 true (eOs 1 true eB) c_Edges1]))), (16, .d (I ((m_.Rows.length : Nat) : Int))), (17, .d (I x17))]
theorem K8 {ctr : Ctr} (hC : zu Tryz.prog ctr) : uQ.Ok Tryz.prog := by
 refine zx ?_
 rintro m_ r0 hf0
 try unfold Zw at hf0
 refine z7M (tt := yw) (rs := [(true, 2, some 48)]) (n := ⟨29, []⟩) (body := kZ) zz Tryz.func47 rfl (by kernel_rfl) rfl rfl (by show (1 : Nat) ≤ 29; decide) fun E hE => ?_
 obtain ⟨g0, hf0⟩ := gdE hf0
 obtain ⟨g1, hf0⟩ := gdE hf0
 refine yJ X0 hC kZ [1,1] [] [2,3] (fun z : List (List Bool) => kX m_ z = some r0) (fun z => Vf m_ z) [(1, .own (.box (xO m_))), (2, .own (.box (.agg [eOs 1 true eB [], eOs 1 true (eSl 1 false eB) []]))), (3, .own (.box (.agg [eOs 1 true eB (List.replicate ((m_.Rows.length : Nat) : Int).toNat false), eOs 1 true (eOs 1 true eB) (List.replicate ((m_.Rows.length : Nat) : Int).toNat ([] : List Bool))])))] [Ha (lnM vK m_.Rows), Hn (rL g0), Ha (rM 1 eB ((m_.Rows.length : Nat) : Int) false), Ha (lnM vK m_.Rows), Hn (rL g1), Ha (rM 1 (eOs 1 true eB) ((m_.Rows.length : Nat) : Int) ([] : List Bool)), Hh (.cut 0)] ?_ fun J1 hJ1 => ?_
 ·rintro c_Edges hf0
  unfold kX at hf0
  obtain rfl := zb hf0
  let ZE : List HO := []
  exact za0 X0 zz hC W8 hE 4000 (hs := hoH ZE) (x := (.agg [eOs 1 true eB (List.replicate ((m_.Rows.length : Nat) : Int).toNat false), eOs 1 true (eOs 1 true eB) c_Edges])) (hoB ZE) (by kernel_rfl) (LeV.refl _)
 ·obtain ⟨t2, ht2, hf0⟩ := zg hf0
  refine yL X0 hC kZ [1,1,2,1,0] [J1] (fun s => kW m_ s.1 s.2) (fun x => Ve m_ x.1 x.2) ((List.replicate ((m_.Rows.length : Nat) : Int).toNat ([] : List Bool)), 0) ht2  [Ha (lnM vK m_.Rows)] ?_
  rintro ⟨c_Edges1, x17⟩ m2 lr1 hf1 hl1 J2 hJ2
  try unfold kW at hf1
  rcases zQ hf1 with ⟨c0, hf1⟩ | ⟨c0, hf1⟩
  ·obtain ⟨g2, hf1⟩ := gdE hf1
   obtain ⟨c_Edge_e, h0, hf1⟩ := zg hf1
   obtain rfl := zb hf1
   exact yB X0 hC hJ2 ((c_Edges1.set x17.toNat (List.replicate m_.Inputs.toNat false)), w64 (x17 + 1)) hl1 [Hq c0, Hn (rL g2), Ha (rM 1 eB m_.Inputs false), Hn (iL (eOs 1 true eB) h0), Hs (iM (eOs 1 true eB) h0), Hs (iM (eOs 1 true eB) h0), Hl (sM (eOs 1 true eB) c_Edges1 x17 (List.replicate m_.Inputs.toNat false))]
  ·obtain rfl := zb hf1
   obtain rfl := hl1
   exact yB X0 hC hJ1 c_Edges1 hf0 [Hq c0]
noncomputable def We : Code := (Tryz.f48.body).getD .skip
abbrev VX {σ : Type} (YY : σ → Kf) (m_ : z7) (w_ : List Int) (sg2 : σ) (s_ : Int) (x14 : Int) : List (Nat × T) := [(2, .own (.opq (YY sg2).q)), (3, .own (.box (xO m_))), (6, .d (I s_)), (12, .d (eSl 1 false (eI .i64) w_)), (13, .d (I ((w_.length : Nat) : Int))), (14, .d (I x14))]
theorem WF {ctr : Ctr} (hC : zu Tryz.prog ctr) (σ : Type) (cv0 : Value) (YY : σ → Kf) (yy : σ → (Int × Int) → Option σ) (hy : ze4 Tryz.prog cv0 YY (fun x : Int × Int => [(eI .i64) x.1, (eI .i64) x.2]) yy) (m_ : z7) (w_ : List Int) (sg r0 : σ) (hf0 : qZ m_ w_ yy sg = some r0) : vY Tryz.prog (.fn 48 []) [.agg [I m_.Inputs, I m_.Outputs, eSl 1 false vK m_.Rows], eSl 1 false (eI .i64) w_, .atom cv0] [(cv0, .opq (YY sg).q)] (.tup []) [.opq (YY r0).q] := by
 refine Qi (tt := yw) (nt := 36) (body := We) [2] (args := [.agg [I m_.Inputs, I m_.Outputs, eSl 1 false vK m_.Rows], eSl 1 false (eI .i64) w_, .atom cv0]) (caps := []) (xs := [.opq (YY sg).q]) (vals := [cv0]) zz Tryz.func48 rfl (by kernel_rfl) rfl rfl (by show (3 : Nat) ≤ 36; decide) (by decide) rfl rfl (fun E hE => ?_) rfl
 unfold qZ at hf0
 obtain ⟨sg1, h0, hf0⟩ := zg hf0
 obtain ⟨t1, ht1, hf0⟩ := zg hf0
 refine yL ((yK (P := Tryz.prog) yw [2] (hy sg (0,0) sg1 h0) 11).or X0) hC We [1,1,1,1,0] [] (fun s => ZN yy m_ w_ s.1 s.2.1 s.2.2) (fun x => VX YY m_ w_ x.1 x.2.1 x.2.2) (sg1,0,0) ht1  [Hn (qL (f := .atom cv0) (xs := [(eI .i64) 0, (eI .i64) 0]) (ls := [(cv0, .opq (YY sg).q)]) (r := .tup []) (ys := [.opq (YY sg1).q]) [(eI .i64) 0, (eI .i64) 0] (show JY [(eI .i64) 0, (eI .i64) 0] [(eI .i64) 0, (eI .i64) 0] from inferInstance)), Ha (lnM (eI .i64) w_)] ?_
 rintro ⟨sg2, s_, x14⟩ m1 lr1 hf1 hl1 J1 hJ1
 try unfold ZN at hf1
 rcases zQ hf1 with ⟨c0, hf1⟩ | ⟨c0, hf1⟩
 ·obtain ⟨w__e, h1, hf1⟩ := zg hf1
  obtain ⟨Row_e, h2, hf1⟩ := zg hf1
  obtain ⟨Row_e_e, h3, hf1⟩ := zg hf1
  let Z0 : List HO := [Hq c0, Hi (eI .i64) h1, Hi vK h2, Hi F8_ h3]
  rcases zQ hf1 with ⟨c1, hf1⟩ | ⟨c1, hf1⟩
  ·obtain rfl := zb hf1
   obtain rfl := hl1
   obtain rfl := zb hf0
   exact yF X0 hC .ret [(2, .own (.opq (YY sg2).q))] (Z0 ++ [Hq c1]) fun st0 h0 => hE _ st0 (.inr rfl) (jP h0 ⟨⟨rfl, rfl⟩, trivial⟩)
  ·obtain ⟨sg3, h4, hf1⟩ := zg hf1
   obtain rfl := zb hf1
   exact yB ((yK (P := Tryz.prog) yw [2] (hy sg2 (Row_e_e.To, w64 (x14 + 1)) sg3 h4) 34).or X0) hC hJ1 (sg3, Row_e_e.To, w64 (x14 + 1)) hl1 (Z0 ++ [Hq c1, Hn (qL (f := .atom cv0) (xs := [(eI .i64) Row_e_e.To, (eI .i64) (w64 (x14 + 1))]) (ls := [(cv0, .opq (YY sg2).q)]) (r := .tup []) (ys := [.opq (YY sg3).q]) [(eI .i64) Row_e_e.To, (eI .i64) (w64 (x14 + 1))] (show JY [(eI .i64) Row_e_e.To, (eI .i64) (w64 (x14 + 1))] [(eI .i64) Row_e_e.To, (eI .i64) (w64 (x14 + 1))] from inferInstance))])
 ·obtain rfl := zb hf1
  obtain rfl := hl1
  obtain rfl := zb hf0
  exact yF X0 hC .normal [(2, .own (.opq (YY sg2).q))] [Hq c0] fun st0 h0 => hE _ st0 (.inl rfl) (jP h0 ⟨⟨rfl, rfl⟩, trivial⟩)
noncomputable def Wu : Code := (Tryz.f49.body).getD .skip
theorem WG {ctr : Ctr} (hC : zu Tryz.prog ctr) (cv0 : Value) (x1 : List Int) (x2 : z7) : ∀ (s_ : Int) (k_ : Int) (y0 : zc) (r0 : zc), jR x1 x2 s_ k_ y0 = some r0 → vY Tryz.prog (.fn 49 [.atom cv0, .sptr (eSl 1 false (eI .i64) x1), .sptr (.agg [I x2.Inputs, I x2.Outputs, eSl 1 false vK x2.Rows])]) [I s_, I k_] ([cv0].zip [.box (.agg [eOs 1 true eB y0.States, eOs 1 true (eOs 1 true eB) y0.Edges])]) (.tup []) [.box (.agg [eOs 1 true eB r0.States, eOs 1 true (eOs 1 true eB) r0.Edges])] := by
 intro s_ k_ y0 r0 hf0
 refine Qi (tt := yw) (nt := 40) (body := Wu) [2] zz Tryz.func49 rfl (by kernel_rfl) rfl rfl (by show (5 : Nat) ≤ 40; decide) (by decide) rfl rfl (fun E hE => ?_) rfl
 unfold jR at hf0
 obtain ⟨State_e, h0, hf0⟩ := zg hf0
 let Z0 : List HO := [Hn (iL eB h0), Hs (iM eB h0), Hs (iM eB h0), Hl (sM eB y0.States s_ true), Ha (lnM (eI .i64) x1)]
 rcases zQ hf0 with ⟨c0, hf0⟩ | ⟨c0, hf0⟩
 ·obtain ⟨Row_e, h1, hf0⟩ := zg hf0
  obtain ⟨x_e, h2, hf0⟩ := zg hf0
  obtain ⟨Row_e_e, h3, hf0⟩ := zg hf0
  let Z1 : List HO := (Z0 ++ (rpN 4 (Hq c0) (Hi vK h1 :: (rpN 4 (Hq c0) (Hi (eI .i64) h2 :: Hq c0 :: Hq c0 :: Hi F8_ h3 :: (rpN 4 (Hq c0) []))))))
  rcases zQ hf0 with ⟨c1, hf0⟩ | ⟨c1, hf0⟩
  ·obtain ⟨Edge_e, h4, hf0⟩ := zg hf0
   obtain ⟨x_e1, h5, hf0⟩ := zg hf0
   obtain ⟨Edge_e_e, h6, hf0⟩ := zg hf0
   obtain rfl := zb hf0
   exact yF X0 hC .normal [(2, .own (.box (.agg [eOs 1 true eB (y0.States.set s_.toNat true), eOs 1 true (eOs 1 true eB) (y0.Edges.set s_.toNat (Edge_e.set x_e1.toNat true))])))] (Z1 ++ [Hq c1, Hn (iL (eOs 1 true eB) h4), Hs (iM (eOs 1 true eB) h4), Hi (eI .i64) h5, Hs (iM (eOs 1 true eB) h4), Hn (iL eB h6), Hs (iM (eOs 1 true eB) h4), Hs (iM eB h6), Hs (iM (eOs 1 true eB) h4), Hs (iM eB h6), Hl (sM eB Edge_e x_e1 true), Hl (sM (eOs 1 true eB) y0.Edges s_ (Edge_e.set x_e1.toNat true))]) fun st0 h0 => hE _ st0 (.inl rfl) (jP h0 ⟨⟨rfl, rfl⟩, trivial⟩)
  ·obtain rfl := zb hf0
   exact yF X0 hC .normal [(2, .own (.box (.agg [eOs 1 true eB (y0.States.set s_.toNat true), eOs 1 true (eOs 1 true eB) y0.Edges])))] (Z1 ++ [Hq c1]) fun st0 h0 => hE _ st0 (.inl rfl) (jP h0 ⟨⟨rfl, rfl⟩, trivial⟩)
 ·obtain rfl := zb hf0
  exact yF X0 hC .normal [(2, .own (.box (.agg [eOs 1 true eB (y0.States.set s_.toNat true), eOs 1 true (eOs 1 true eB) y0.Edges])))] (Z0 ++ (rpN 14 (Hq c0) [qF])) fun st0 h0 => hE _ st0 (.inl rfl) (jP h0 ⟨⟨rfl, rfl⟩, trivial⟩)
noncomputable def uc : Code := (Tryz.f19.body).getD .skip
noncomputable def qO : zR := spF (α := z7 × List (List Int)) (ρ := zc × Int) 19 (fun x => [xO x.1, vo x.2]) (fun r => .tup [zd4 r.1, (eI .i64) r.2]) (fun x => ZQ x.1 x.2) [] (X3)
abbrev W4 (c_States : List Bool) (c_Edges : List (List Bool)) : List (Nat × T) := [(4, .own (.box (.agg [eOs 1 true eB [], eOs 1 true (eSl 1 false eB) []]))), (7, .own (.box (.agg [eOs 1 true eB c_States, eOs 1 true (eOs 1 true eB) c_Edges])))]
abbrev W3 (m_ : z7) (l_ : List (List Int)) (c_States1 : List Bool) (c_Edges1 : List (List Bool)) (x21 : Int) : List (Nat × T) := [(2, .d (.sptr (xO m_))), (4, .own (.box (.agg [eOs 1 true eB [], eOs 1 true (eSl 1 false eB) []]))), (7, .own (.box (.agg [eOs 1 true eB c_States1, eOs 1 true (eOs 1 true eB) c_Edges1]))), (19, .d (eSl 1 false F3_ l_)), (20, .d (I ((l_.length : Nat) : Int))), (21, .d (I x21))]
theorem Ux {ctr : Ctr} (hC : zu Tryz.prog ctr) (h_covers_ready : ctr.Has vR) (h_covers_empty : ctr.Has uQ) : qO.Ok Tryz.prog := by
 refine zx ?_
 rintro ⟨m_, l_⟩ r0 hf0
 try unfold ZQ at hf0
 refine yO false [(4, some 48), (5, none)] uc 31 Tryz.func19 fun E hE => ?_
 obtain ⟨r_, h0, hf0⟩ := zg hf0
 let Z0 : List HO := [Hc h_covers_ready (x := (m_, l_)) h0 (loC xO m_ <| loC vo l_ <| loN)]
 rcases zQ hf0 with ⟨c0, hf0⟩ | ⟨c0, hf0⟩
 ·obtain rfl := zb hf0
  exact yE X0 hC hE (Z0 ++ [Hq c0, Hm (shM eB eB []), Hm (shM (eSl 1 false eB) (eSl 1 false eB) [])])
 ·obtain ⟨r_1, h1, hf0⟩ := zg hf0
  refine yA X0 hC uc [1,1,1] [] [(1, .d (eSl 1 false F3_ l_)), (2, .own (.box (xO m_))), (4, .own (.box (.agg [eOs 1 true eB [], eOs 1 true (eSl 1 false eB) []]))), (7, .own (.box (zd5 r_1)))] (Z0 ++ [Hq c0, Hc h_covers_empty (x := m_) h1 (loC xO m_ <| loN), Hh (.cut 0)]) ?_
  refine z0E (y := .box (.agg [eOs 1 true eB r_1.States, eOs 1 true (eOs 1 true eB) r_1.Edges])) (by kernel_rfl) 7 (by kernel_rfl) (by kernel_rfl) fun pv7 hv7 => ?_
  refine yJ X0 hC uc [1,1,1] [] [4,7] (fun z : List Bool × List (List Bool) => j6 z.1 z.2 = some r0) (fun z => W4 z.1 z.2) [(1, .d (eSl 1 false F3_ l_)), (2, .own (.box (xO m_))), (4, .own (.box (.agg [eOs 1 true eB [], eOs 1 true (eSl 1 false eB) []]))), (7, .own (.box (zd5 r_1)))] [Hh (.cut 0)] ?_ fun J1 hJ1 => ?_
  ·rintro ⟨c_States, c_Edges⟩ hf0
   unfold j6 at hf0
   obtain rfl := zb hf0
   exact yE X0 hC hE [Hm (shM eB eB c_States), Hm (shM (eOs 1 true eB) (eSl 1 true eB) c_Edges)]
  ·obtain ⟨t2, ht2, hf0⟩ := zg hf0
   refine yL X0 hC uc [1,1,1,2,1,0] [J1] (fun s => j5 m_ l_ s.1 s.2.1 s.2.2) (fun x => W3 m_ l_ x.1 x.2.1 x.2.2) (r_1.States, r_1.Edges, 0) ht2  [Ha (lnM F3_ l_), Hh (.n 1 [2])] ?_
   rintro ⟨c_States1, c_Edges1, x21⟩ m2 lr1 hf1 hl1 J2 hJ2
   try unfold j5 at hf1
   rcases zQ hf1 with ⟨c1, hf1⟩ | ⟨c1, hf1⟩
   ·obtain ⟨l__e, h2, hf1⟩ := zg hf1
    obtain ⟨r_2, h3, hf1⟩ := zg hf1
    obtain rfl := zb hf1
    exact yB ((yK (P := Tryz.prog) yw [7] (z5E (pre := [xO m_, F3_ l__e]) (enc := (fun x : Int × Int => [(eI .i64) x.1, (eI .i64) x.2])) (ls := (fun s : zc => [(pv7, .box (.agg [eOs 1 true eB s.States, eOs 1 true (eOs 1 true eB) s.Edges]))])) (F := fun yy s => qZ m_ l__e yy s) (fun yv Y hy s s' h => WF hC _ yv Y _ hy m_ l__e s s' h) (fun s x s' h => WG hC pv7 l__e m_ _ _ _ _ h) (fun _ _ => rfl) h3) 28).or ((xMk Tryz.prog yw).or X0)) hC hJ2 (r_2.States, r_2.Edges, w64 (x21 + 1)) hl1 [Hq c1, Hi F3_ h2, Hn (qL (f := .fn 48 []) (xs := [xO m_, F3_ l__e, .fn 49 [.atom pv7, .sptr (eSl 1 false (eI .i64) l__e), .sptr (.agg [I m_.Inputs, I m_.Outputs, eSl 1 false vK m_.Rows])]]) (ls := [(pv7, .box (.agg [eOs 1 true eB c_States1, eOs 1 true (eOs 1 true eB) c_Edges1]))]) (r := .tup []) (ys := [.box (.agg [eOs 1 true eB r_2.States, eOs 1 true (eOs 1 true eB) r_2.Edges])]) [xO m_, F3_ l__e, .fn 49 [.atom pv7, .sptr (eSl 1 false (eI .i64) l__e), .sptr (.agg [I m_.Inputs, I m_.Outputs, eSl 1 false vK m_.Rows])]] (show JY [xO m_, F3_ l__e, .fn 49 [.atom pv7, .sptr (eSl 1 false (eI .i64) l__e), .sptr (.agg [I m_.Inputs, I m_.Outputs, eSl 1 false vK m_.Rows])]] [xO m_, F3_ l__e, .fn 49 [.atom pv7, .sptr (eSl 1 false (eI .i64) l__e), .sptr (.agg [I m_.Inputs, I m_.Outputs, eSl 1 false vK m_.Rows])]] from inferInstance))]
   ·obtain rfl := zb hf1
    obtain rfl := hl1
    exact yB X0 hC hJ1 (c_States1, c_Edges1) hf0 [Hq c1]
noncomputable def jS : Code := (Tryz.f59.body).getD .skip
noncomputable def um : zR := spF (α := List Int × List Int) (ρ := Int) 59 (fun x => [F3_ x.1, F3_ x.2]) (fun r => (eI .i64) r) (fun x => wZ x.1 x.2) [] (X3)
abbrev Wy : List (Nat × T) := []
abbrev Wx (a_ : List Int) (b_ : List Int) (i_ : Int) : List (Nat × T) := [(0, .d (eSl 1 false (eI .i64) a_)), (1, .d (eSl 1 false (eI .i64) b_)), (5, .d (I i_))]
theorem Qq {ctr : Ctr} (hC : zu Tryz.prog ctr) : um.Ok Tryz.prog := by
 refine zx ?_
 rintro ⟨a_, b_⟩ r0 hf0
 try unfold wZ at hf0
 refine yO true [(4, none)] jS 40 Tryz.func59 fun E hE => ?_
 let Z0 : List HO := [Ha (lnM (eI .i64) a_), Ha (lnM (eI .i64) b_)]
 rcases zQ hf0 with ⟨c0, hf0⟩ | ⟨c0, hf0⟩
 ·let Z1 : List HO := (Z0 ++ [Hq c0, Ha (lnM (eI .i64) a_), Ha (lnM (eI .i64) b_)])
  rcases zQ hf0 with ⟨c1, hf0⟩ | ⟨c1, hf0⟩
  ·obtain rfl := zb hf0
   exact yE X0 hC hE (Z1 ++ [Hq c1])
  ·obtain rfl := zb hf0
   exact yE X0 hC hE (Z1 ++ [Hq c1])
 ·refine yJ X0 hC jS [1,1] [] [] (fun z : Unit => jO = some r0) (fun z => Wy) [(0, .d (eSl 1 false (eI .i64) a_)), (1, .d (eSl 1 false (eI .i64) b_))] (Z0 ++ [Hq c0, Hh (.cut 0)]) ?_ fun J1 hJ1 => ?_
  ·rintro ⟨⟩ hf0
   unfold jO at hf0
   obtain rfl := zb hf0
   exact yE X0 hC hE []
  ·obtain ⟨t2, ht2, hf0⟩ := zg hf0
   refine yL X0 hC jS [1,1,2,1,0] [J1] (fun s => vm a_ b_ s) (fun x => Wx a_ b_ x) 0 ht2  [] ?_
   rintro i_ m2 lr1 hf1 hl1 J2 hJ2
   try unfold vm at hf1
   rcases zQ hf1 with ⟨c2, hf1⟩ | ⟨c2, hf1⟩
   ·obtain ⟨a__e, h0, hf1⟩ := zg hf1
    obtain ⟨b__e, h1, hf1⟩ := zg hf1
    let Z2 : List HO := [Ha (lnM (eI .i64) a_), Hq c2, Hi (eI .i64) h0, Hi (eI .i64) h1]
    rcases zQ hf1 with ⟨c3, hf1⟩ | ⟨c3, hf1⟩
    ·obtain rfl := zb hf1
     obtain rfl := hl1
     obtain rfl := zb hf0
     exact yE X0 hC hE (Z2 ++ [Hq c3])
    ·obtain ⟨a__e1, h2, hf1⟩ := zg hf1
     obtain ⟨b__e1, h3, hf1⟩ := zg hf1
     let Z3 : List HO := (Z2 ++ [Hq c3, Hi (eI .i64) h2, Hi (eI .i64) h3])
     rcases zQ hf1 with ⟨c4, hf1⟩ | ⟨c4, hf1⟩
     ·obtain rfl := zb hf1
      obtain rfl := hl1
      obtain rfl := zb hf0
      exact yE X0 hC hE (Z3 ++ [Hq c4])
     ·obtain rfl := zb hf1
      exact yB X0 hC hJ2 (w64 (i_ + 1)) hl1 (Z3 ++ [Hq c4])
   ·obtain rfl := zb hf1
    obtain rfl := hl1
    exact yB X0 hC hJ1 () hf0 [Ha (lnM (eI .i64) a_), Hq c2]
noncomputable def YS : Code := (Tryz.f41.body).getD .skip
noncomputable def Yl : zR := spF (α := List (List Int) × List (List Int)) (ρ := Bool) 41 (fun x => [vo x.1, vo x.2]) (fun r => eB r) (fun x => Y4 x.1 x.2) [] (X3)
abbrev UX : List (Nat × T) := []
abbrev UW (a_ : List (List Int)) (b_ : List (List Int)) (i_ : Int) : List (Nat × T) := [(0, .d (eSl 1 false F3_ a_)), (1, .d (eSl 1 false F3_ b_)), (5, .d (I i_))]
theorem z0X {ctr : Ctr} (hC : zu Tryz.prog ctr) (h_ref12_compare : ctr.Has um) : Yl.Ok Tryz.prog := by
 refine zx ?_
 rintro ⟨a_, b_⟩ r0 hf0
 try unfold Y4 at hf0
 refine yO true [(4, none)] YS 27 Tryz.func41 fun E hE => ?_
 let Z0 : List HO := [Ha (lnM F3_ a_), Ha (lnM F3_ b_)]
 rcases zQ hf0 with ⟨c0, hf0⟩ | ⟨c0, hf0⟩
 ·obtain rfl := zb hf0
  exact yE X0 hC hE (Z0 ++ [Hq c0])
 ·refine yJ X0 hC YS [1,1] [] [] (fun z : Unit => ke = some r0) (fun z => UX) [(0, .d (eSl 1 false F3_ a_)), (1, .d (eSl 1 false F3_ b_))] (Z0 ++ [Hq c0, Hh (.cut 0)]) ?_ fun J1 hJ1 => ?_
  ·rintro ⟨⟩ hf0
   unfold ke at hf0
   obtain rfl := zb hf0
   exact yE X0 hC hE []
  ·obtain ⟨t2, ht2, hf0⟩ := zg hf0
   refine yL X0 hC YS [1,1,2,1,0] [J1] (fun s => u6 a_ b_ s) (fun x => UW a_ b_ x) 0 ht2  [] ?_
   rintro i_ m2 lr1 hf1 hl1 J2 hJ2
   try unfold u6 at hf1
   let Z1 : List HO := [Ha (lnM F3_ a_)]
   rcases zQ hf1 with ⟨c1, hf1⟩ | ⟨c1, hf1⟩
   ·obtain ⟨a__e, h0, hf1⟩ := zg hf1
    obtain ⟨b__e, h1, hf1⟩ := zg hf1
    obtain ⟨r_, h2, hf1⟩ := zg hf1
    let Z2 : List HO := (Z1 ++ [Hq c1, Hi F3_ h0, Hi F3_ h1, Hc h_ref12_compare (x := (a__e, b__e)) h2 (loC F3_ a__e <| loC F3_ b__e <| loN)])
    rcases zQ hf1 with ⟨c2, hf1⟩ | ⟨c2, hf1⟩
    ·obtain rfl := zb hf1
     obtain rfl := hl1
     obtain rfl := zb hf0
     exact yE X0 hC hE (Z2 ++ [Hq c2])
    ·obtain rfl := zb hf1
     exact yB X0 hC hJ2 (w64 (i_ + 1)) hl1 (Z2 ++ [Hq c2])
   ·obtain rfl := zb hf1
    obtain rfl := hl1
    exact yB X0 hC hJ1 () hf0 (Z1 ++ [Hq c1])
noncomputable def z0C : Code := (Tryz.f13.body).getD .skip
noncomputable def kc : zR := spF (α := List (List Int) × List (List Int)) (ρ := Bool) 13 (fun x => [F9_ x.1, vo x.2]) (fun r => eB r) (fun x => wQ x.1 x.2) [] (X3)
theorem z10 {ctr : Ctr} (hC : zu Tryz.prog ctr) (h_ref12_Same : ctr.Has Yl) : kc.Ok Tryz.prog := by
 refine zx ?_
 rintro ⟨a_, b_⟩ r0 hf0
 try unfold wQ at hf0
 refine yO true [(4, none)] z0C 15 Tryz.func13 fun E hE => ?_
 obtain ⟨r_, h0, hf0⟩ := zg hf0
 let Z0 : List HO := [Hc h_ref12_Same (x := (a_, b_)) h0 (loC F9_ a_ <| loC vo b_ <| loN)]
 rcases zQ hf0 with ⟨c0, hf0⟩ | ⟨c0, hf0⟩
 ·obtain rfl := zb hf0
  exact yE X0 hC hE (Z0 ++ [Hq c0, Hq c0, Ha (lnM F0_ a_), Hq c0, Hq c0, Ha (lnM F0_ a_), Hq c0, Hq c0])
 ·obtain rfl := zb hf0
  exact yE X0 hC hE (Z0 ++ (rpN 6 (Hq c0) []))
noncomputable def vb : Code := (Tryz.f22.body).getD .skip
noncomputable def Yi : zR := spF (α := zc × zc) (ρ := Bool) 22 (fun x => [z0O x.1, z0O x.2]) (fun r => eB r) (fun x => Vs x.1 x.2) [] (X3)
abbrev UQ : List (Nat × T) := []
abbrev UP (a_ : zc) (b_ : zc) (s_ : Int) : List (Nat × T) := [(2, .own (.box (z0O a_))), (3, .own (.box (z0O b_))), (6, .d (I s_))]
abbrev UN (a_ : zc) (b_ : zc) (s_ : Int) (i_ : Int) : List (Nat × T) := [(2, .own (.box (z0O a_))), (3, .own (.box (z0O b_))), (6, .d (I s_)), (7, .d (I i_))]
abbrev UO (a_ : zc) (b_ : zc) (s_ : Int) : List (Nat × T) := [(2, .own (.box (z0O a_))), (3, .own (.box (z0O b_))), (6, .d (I s_))]
abbrev UR (a_ : zc) (b_ : zc) : List (Nat × T) := [(2, .own (.box (z0O a_))), (3, .own (.box (z0O b_)))]
abbrev UM (a_ : zc) (b_ : zc) (s_1 : Int) : List (Nat × T) := [(2, .own (.box (z0O a_))), (3, .own (.box (z0O b_))), (5, .d (I s_1))]
theorem z0U {ctr : Ctr} (hC : zu Tryz.prog ctr) : Yi.Ok Tryz.prog := by
 refine zx ?_
 rintro ⟨a_, b_⟩ r0 hf0
 try unfold Vs at hf0
 refine yO true [(4, none)] vb 89 Tryz.func22 fun E hE => ?_
 let Z0 : List HO := [Ha (lnM eB a_.States), Ha (lnM eB b_.States)]
 rcases zQ hf0 with ⟨c0, hf0⟩ | ⟨c0, hf0⟩
 ·obtain rfl := zb hf0
  exact yE X0 hC hE (Z0 ++ (rpN 8 (Hq c0) [qT]))
 ·let Z1 : List HO := (Z0 ++ [Hq c0, Hq c0, Hq c0, Ha (lnM (eSl 1 false eB) a_.Edges), Hq c0, Hq c0, Hq c0, Ha (lnM (eSl 1 false eB) b_.Edges), Hq c0, Hq c0])
  rcases zQ hf0 with ⟨c1, hf0⟩ | ⟨c1, hf0⟩
  ·obtain rfl := zb hf0
   exact yE X0 hC hE (Z1 ++ [Hq c1])
  ·refine yJ X0 hC vb [1,1] [] [2,3] (fun z : Unit => Yy a_ b_ = some r0) (fun z => UR a_ b_) [(2, .own (.box (z0O a_))), (3, .own (.box (z0O b_)))] (Z1 ++ [Hq c1, Hh (.cut 0)]) ?_ fun J1 hJ1 => ?_
   ·rintro ⟨⟩ hf0
    unfold Yy at hf0
    refine yJ X0 hC vb [1,1,1] [] [] (fun z : Unit => Yx = some r0) (fun z => UQ) [(2, .own (.box (z0O a_))), (3, .own (.box (z0O b_)))] [Hh (.cut 0)] ?_ fun J2 hJ2 => ?_
    ·rintro ⟨⟩ hf0
     unfold Yx at hf0
     obtain rfl := zb hf0
     exact yE X0 hC hE []
    ·obtain ⟨t3, ht3, hf0⟩ := zg hf0
     refine yL X0 hC vb [1,1,1,2,1,0] [J2] (fun s => Yv a_ b_ s) (fun x => UO a_ b_ x) 0 ht3  [] ?_
     rintro s_ m3 lr1 hf1 hl1 J3 hJ3
     try unfold Yv at hf1
     let Z2 : List HO := [Ha (lnM (eSl 1 false eB) a_.Edges)]
     rcases zQ hf1 with ⟨c2, hf1⟩ | ⟨c2, hf1⟩
     ·refine yJ X0 hC vb [1,1,1,2,1,0,0,1] [J2, J3] [2,3,6] (fun z : Unit => Yw s_ = some lr1) (fun z => UP a_ b_ s_) [(2, .own (.box (z0O a_))), (3, .own (.box (z0O b_))), (6, .d (I s_))] (Z2 ++ [Hq c2, Hh (.cut 0)]) ?_ fun J4 hJ4 => ?_
      ·rintro ⟨⟩ hf1
       unfold Yw at hf1
       obtain rfl := zb hf1
       exact yB X0 hC hJ3 (w64 (s_ + 1)) hl1 []
      ·obtain ⟨Edge_e, h0, hf1⟩ := zg hf1
       obtain ⟨Edge_e1, h1, hf1⟩ := zg hf1
       let Z3 : List HO := [Hi (eSl 1 false eB) h0, Ha (lnM eB Edge_e), Hi (eSl 1 false eB) h1, Ha (lnM eB Edge_e1)]
       rcases zQ hf1 with ⟨c3, hf1⟩ | ⟨c3, hf1⟩
       ·obtain rfl := zb hf1
        obtain rfl := hl1
        obtain rfl := zb hf0
        exact yE X0 hC hE (Z3 ++ [Hq c3])
       ·obtain ⟨t5, ht5, hf1⟩ := zg hf1
        refine yL X0 hC vb [1,1,1,2,1,0,0,1,2,0,1,1,0] [J2, J3, J4] (fun s => Yu a_ b_ s_ s) (fun x => UN a_ b_ s_ x) 0 ht5  (Z3 ++ [Hq c3]) ?_
        rintro i_ m5 lr2 hf2 hl2 J5 hJ5
        try unfold Yu at hf2
        obtain ⟨Edge_e2, h2, hf2⟩ := zg hf2
        let Z4 : List HO := [Hi (eSl 1 false eB) h2, Ha (lnM eB Edge_e2)]
        rcases zQ hf2 with ⟨c4, hf2⟩ | ⟨c4, hf2⟩
        ·obtain ⟨Edge_e3, h3, hf2⟩ := zg hf2
         obtain ⟨Edge_e_e, h4, hf2⟩ := zg hf2
         obtain ⟨Edge_e4, h5, hf2⟩ := zg hf2
         obtain ⟨Edge_e_e1, h6, hf2⟩ := zg hf2
         let Z5 : List HO := (Z4 ++ [Hq c4, Hi (eSl 1 false eB) h3, Hi eB h4, Hi (eSl 1 false eB) h5, Hi eB h6])
         rcases zQ hf2 with ⟨c5, hf2⟩ | ⟨c5, hf2⟩
         ·obtain rfl := zb hf2
          obtain rfl := hl2
          obtain rfl := zb hf1
          obtain rfl := hl1
          obtain rfl := zb hf0
          exact yE X0 hC hE (Z5 ++ [Hq c5])
         ·obtain rfl := zb hf2
          exact yB X0 hC hJ5 (w64 (i_ + 1)) hl2 (Z5 ++ [Hq c5])
        ·obtain rfl := zb hf2
         obtain rfl := hl2
         exact yB X0 hC hJ4 () hf1 (Z4 ++ [Hq c4])
     ·obtain rfl := zb hf1
      obtain rfl := hl1
      exact yB X0 hC hJ2 () hf0 (Z2 ++ [Hq c2])
   ·obtain ⟨t6, ht6, hf0⟩ := zg hf0
    refine yL X0 hC vb [1,1,2,1,0] [J1] (fun s => Yt a_ b_ s) (fun x => UM a_ b_ x) 0 ht6  [] ?_
    rintro s_1 m6 lr1 hf1 hl1 J6 hJ6
    try unfold Yt at hf1
    rcases zQ hf1 with ⟨c6, hf1⟩ | ⟨c6, hf1⟩
    ·obtain ⟨State_e, h7, hf1⟩ := zg hf1
     obtain ⟨State_e1, h8, hf1⟩ := zg hf1
     let Z6 : List HO := [Ha (lnM eB a_.States), Hq c6, Hi eB h7, Hi eB h8]
     rcases zQ hf1 with ⟨c7, hf1⟩ | ⟨c7, hf1⟩
     ·obtain rfl := zb hf1
      obtain rfl := hl1
      obtain rfl := zb hf0
      exact yE X0 hC hE (Z6 ++ [Hq c7])
     ·obtain rfl := zb hf1
      exact yB X0 hC hJ6 (w64 (s_1 + 1)) hl1 (Z6 ++ [Hq c7])
    ·obtain rfl := zb hf1
     obtain rfl := hl1
     exact yB X0 hC hJ1 () hf0 [Ha (lnM eB a_.States), Hq c6]
noncomputable def UH : Code := (Tryz.f83.body).getD .skip
theorem Qw {ctr : Ctr} (hC : zu Tryz.prog ctr) (cv1 : Value) (x0 : List Int) : ∀ (s_ : Int) (k_ : Int) (y1 : zc) (r0 : zc), YJ x0 s_ k_ y1 = some r0 → vY Tryz.prog (.fn 83 [.sptr (eSl 1 false (eI .i64) x0), .atom cv1]) [I s_, I k_] ([cv1].zip [.box (.agg [eOs 1 true eB y1.States, eOs 1 true (eOs 1 true eB) y1.Edges])]) (.tup []) [.box (.agg [eOs 1 true eB r0.States, eOs 1 true (eOs 1 true eB) r0.Edges])] := by
 intro s_ k_ y1 r0 hf0
 refine Qi (tt := yw) (nt := 30) (body := UH) [3] zz Tryz.func83 rfl (by kernel_rfl) rfl rfl (by show (4 : Nat) ≤ 30; decide) (by decide) rfl rfl (fun E hE => ?_) rfl
 unfold YJ at hf0
 rcases zQ hf0 with ⟨c0, hf0⟩ | ⟨c0, hf0⟩
 ·obtain ⟨State_e, h0, hf0⟩ := zg hf0
  obtain rfl := zb hf0
  exact yF X0 hC .normal [(3, .own (.box (.agg [eOs 1 true eB (y1.States.set s_.toNat true), eOs 1 true (eOs 1 true eB) y1.Edges])))] [Ha (lnM (eI .i64) x0), Hq c0, Hn (iL eB h0), Hs (iM eB h0), Hs (iM eB h0), Hl (sM eB y1.States s_ true)] fun st0 h0 => hE _ st0 (.inl rfl) (jP h0 ⟨⟨rfl, rfl⟩, trivial⟩)
 ·let Z0 : List HO := [Ha (lnM (eI .i64) x0), Hq c0, Ha (lnM (eI .i64) x0)]
  rcases zQ hf0 with ⟨c1, hf0⟩ | ⟨c1, hf0⟩
  ·obtain ⟨Edge_e, h1, hf0⟩ := zg hf0
   obtain ⟨x_e, h2, hf0⟩ := zg hf0
   obtain ⟨Edge_e_e, h3, hf0⟩ := zg hf0
   obtain rfl := zb hf0
   exact yF X0 hC .normal [(3, .own (.box (.agg [eOs 1 true eB y1.States, eOs 1 true (eOs 1 true eB) (y1.Edges.set s_.toNat (Edge_e.set x_e.toNat true))])))] (Z0 ++ [Hq c1, Hn (iL (eOs 1 true eB) h1), Hs (iM (eOs 1 true eB) h1), Hi (eI .i64) h2, Hs (iM (eOs 1 true eB) h1), Hn (iL eB h3), Hs (iM (eOs 1 true eB) h1), Hs (iM eB h3), Hs (iM (eOs 1 true eB) h1), Hs (iM eB h3), Hl (sM eB Edge_e x_e true), Hl (sM (eOs 1 true eB) y1.Edges s_ (Edge_e.set x_e.toNat true))]) fun st0 h0 => hE _ st0 (.inl rfl) (jP h0 ⟨⟨rfl, rfl⟩, trivial⟩)
  ·obtain rfl := zb hf0
   exact yF X0 hC .normal [(3, .own (.box (.agg [eOs 1 true eB y1.States, eOs 1 true (eOs 1 true eB) y1.Edges])))] (Z0 ++ [Hq c1]) fun st0 h0 => hE _ st0 (.inl rfl) (jP h0 ⟨⟨rfl, rfl⟩, trivial⟩)
noncomputable def jp : Code := (Tryz.f51.body).getD .skip
noncomputable def ji : zR := spF (α := z7 × List (List Int)) (ρ := zc) 51 (fun x => [xO x.1, vo x.2]) (fun r => zd4 r) (fun x => YK x.1 x.2) [] (X3)
abbrev VZ (c_States : List Bool) (c_Edges : List (List Bool)) : List (Nat × T) := [(4, .own (.box (.agg [eOs 1 true eB [], eOs 1 true (eSl 1 false eB) []]))), (5, .own (.box (.agg [eOs 1 true eB c_States, eOs 1 true (eOs 1 true eB) c_Edges])))]
abbrev VY (m_ : z7) (l_ : List (List Int)) (c_States1 : List Bool) (c_Edges1 : List (List Bool)) (x12 : Int) : List (Nat × T) := [(2, .own (.box (xO m_))), (4, .own (.box (.agg [eOs 1 true eB [], eOs 1 true (eSl 1 false eB) []]))), (5, .own (.box (.agg [eOs 1 true eB c_States1, eOs 1 true (eOs 1 true eB) c_Edges1]))), (10, .d (eSl 1 false F3_ l_)), (11, .d (I ((l_.length : Nat) : Int))), (12, .d (I x12))]
theorem z00 {ctr : Ctr} (hC : zu Tryz.prog ctr) (h_covers_empty : ctr.Has uQ) : ji.Ok Tryz.prog := by
 refine zx ?_
 rintro ⟨m_, l_⟩ r0 hf0
 try unfold YK at hf0
 refine yO false [(4, some 48)] jp 22 Tryz.func51 fun E hE => ?_
 obtain ⟨r_, h0, hf0⟩ := zg hf0
 refine yA X0 hC jp [1,1] [] [(1, .d (eSl 1 false F3_ l_)), (2, .own (.box (xO m_))), (4, .own (.box (.agg [eOs 1 true eB [], eOs 1 true (eSl 1 false eB) []]))), (5, .own (.box (zd5 r_)))] [Hc h_covers_empty (x := m_) h0 (loC xO m_ <| loN), Hh (.cut 0)] ?_
 refine z0E (y := .box (.agg [eOs 1 true eB r_.States, eOs 1 true (eOs 1 true eB) r_.Edges])) (by kernel_rfl) 5 (by kernel_rfl) (by kernel_rfl) fun pv5 hv5 => ?_
 refine yJ X0 hC jp [1,1] [] [4,5] (fun z : List Bool × List (List Bool) => ZP z.1 z.2 = some r0) (fun z => VZ z.1 z.2) [(1, .d (eSl 1 false F3_ l_)), (2, .own (.box (xO m_))), (4, .own (.box (.agg [eOs 1 true eB [], eOs 1 true (eSl 1 false eB) []]))), (5, .own (.box (zd5 r_)))] [Hh (.cut 0)] ?_ fun J1 hJ1 => ?_
 ·rintro ⟨c_States, c_Edges⟩ hf0
  unfold ZP at hf0
  obtain rfl := zb hf0
  exact yE X0 hC hE [Hm (shM eB eB c_States), Hm (shM (eOs 1 true eB) (eSl 1 true eB) c_Edges)]
 ·obtain ⟨t2, ht2, hf0⟩ := zg hf0
  refine yL X0 hC jp [1,1,2,1,0] [J1] (fun s => ZO m_ l_ s.1 s.2.1 s.2.2) (fun x => VY m_ l_ x.1 x.2.1 x.2.2) (r_.States, r_.Edges, 0) ht2  [Ha (lnM F3_ l_)] ?_
  rintro ⟨c_States1, c_Edges1, x12⟩ m2 lr1 hf1 hl1 J2 hJ2
  try unfold ZO at hf1
  rcases zQ hf1 with ⟨c0, hf1⟩ | ⟨c0, hf1⟩
  ·obtain ⟨l__e, h1, hf1⟩ := zg hf1
   obtain ⟨r_1, h2, hf1⟩ := zg hf1
   obtain rfl := zb hf1
   exact yB ((yK (P := Tryz.prog) yw [5] (z5E (pre := [xO m_, F3_ l__e]) (enc := (fun x : Int × Int => [(eI .i64) x.1, (eI .i64) x.2])) (ls := (fun s : zc => [(pv5, .box (.agg [eOs 1 true eB s.States, eOs 1 true (eOs 1 true eB) s.Edges]))])) (F := fun yy s => qZ m_ l__e yy s) (fun yv Y hy s s' h => WF hC _ yv Y _ hy m_ l__e s s' h) (fun s x s' h => Qw hC pv5 l__e _ _ _ _ h) (fun _ _ => rfl) h2) 19).or ((xMk Tryz.prog yw).or X0)) hC hJ2 (r_1.States, r_1.Edges, w64 (x12 + 1)) hl1 [Hq c0, Hi F3_ h1, Hn (qL (f := .fn 48 []) (xs := [xO m_, F3_ l__e, .fn 83 [.sptr (eSl 1 false (eI .i64) l__e), .atom pv5]]) (ls := [(pv5, .box (.agg [eOs 1 true eB c_States1, eOs 1 true (eOs 1 true eB) c_Edges1]))]) (r := .tup []) (ys := [.box (.agg [eOs 1 true eB r_1.States, eOs 1 true (eOs 1 true eB) r_1.Edges])]) [xO m_, F3_ l__e, .fn 83 [.sptr (eSl 1 false (eI .i64) l__e), .atom pv5]] (show JY [xO m_, F3_ l__e, .fn 83 [.sptr (eSl 1 false (eI .i64) l__e), .atom pv5]] [xO m_, F3_ l__e, .fn 83 [.sptr (eSl 1 false (eI .i64) l__e), .atom pv5]] from inferInstance))]
  ·obtain rfl := zb hf1
   obtain rfl := hl1
   exact yB X0 hC hJ1 (c_States1, c_Edges1) hf0 [Hq c0]
noncomputable def Ya : Code := (Tryz.f52.body).getD .skip
noncomputable def wO : zR := spF (α := Bool) (ρ := Bool) 52 (fun x => [eB x]) (fun r => eB r) (fun x => vW x) [] (Ul)
theorem Yd {ctr : Ctr} (hC : zu Tryz.prog ctr) : wO.Ok Tryz.prog := by
 refine zx ?_
 rintro is r0 hf0
 try unfold vW at hf0
 refine yO true [(2, none)] Ya 4 Tryz.func52 fun E hE => ?_
 obtain rfl := zb hf0
 exact yE X0 hC hE []
noncomputable def Xc : Code := (Tryz.f82.body).getD .skip
noncomputable def vA : zR := spF (α := Bool × Unit) (ρ := Bool) 82 (fun x => [eB x.1, (eSp (YI 52)) x.2]) (fun r => eB r) (fun x => uu x.1 x.2) [] (X3)
theorem Xi {ctr : Ctr} (hC : zu Tryz.prog ctr) (h_covers_IsStateCover_1 : ctr.Has wO) : vA.Ok Tryz.prog := by
 refine zx ?_
 rintro ⟨x_, x1⟩ r0 hf0
 try unfold uu at hf0
 refine yO true [(3, none)] Xc 8 Tryz.func82 fun E hE => ?_
 obtain ⟨r_, h0, hf0⟩ := zg hf0
 obtain rfl := zb hf0
 exact yE X0 hC hE [Hc h_covers_IsStateCover_1 (x := x_) h0 (loC eB x_ <| loN)]
noncomputable def xA : Code := (Tryz.f109.body).getD .skip
noncomputable def xr : zR := spF (α := List Bool × Unit) (ρ := Int) 109 (fun x => [(eSl 1 false eB) x.1, (Xz 82 (eSp (YI 52))) x.2]) (fun r => (eI .i64) r) (fun x => w8 x.1 x.2) [] (by
 rintro ⟨a0, a1⟩ ⟨b0, b1⟩ h
 have e0 := uJ.inj (f := (eSl 1 false eB)) _ _ (List.cons.inj h).1
 replace h := (List.cons.inj h).2
 have e1 := uJ.inj (f := (Xz 82 (eSp (YI 52)))) _ _ (List.cons.inj h).1
 subst e0 e1
 rfl)
abbrev qA : List (Nat × T) := []
abbrev qz (s_ : List Bool) (x8 : Int) : List (Nat × T) := [(0, .d (eSl 1 false eB s_)), (1, .d (.fn 82 [.sptr (.fn 52 [])])), (7, .d (I ((s_.length : Nat) : Int))), (8, .d (I x8))]
theorem jZ {ctr : Ctr} (hC : zu Tryz.prog ctr) (h_covers_every_bool_1 : ctr.Has vA) : xr.Ok Tryz.prog := by
 refine zx ?_
 rintro ⟨s_, f_⟩ r0 hf0
 try unfold w8 at hf0
 refine yO true [(4, none)] xA 19 Tryz.func109 fun E hE => ?_
 refine yJ X0 hC xA [1] [] [] (fun z : Unit => xx = some r0) (fun z => qA) [(0, .d (eSl 1 false eB s_)), (1, .d (.fn 82 [.sptr (.fn 52 [])]))] [Hh (.cut 1)] ?_ fun J1 hJ1 => ?_
 ·rintro ⟨⟩ hf0
  unfold xx at hf0
  obtain rfl := zb hf0
  exact yE X0 hC hE []
 ·obtain ⟨t2, ht2, hf0⟩ := zg hf0
  refine yL X0 hC xA [1,2,1,0] [J1] (fun s => xw s_ s) (fun x => qz s_ x) 0 ht2  [Ha (lnM eB s_)] ?_
  rintro x8 m2 lr1 hf1 hl1 J2 hJ2
  try unfold xw at hf1
  rcases zQ hf1 with ⟨c0, hf1⟩ | ⟨c0, hf1⟩
  ·obtain ⟨s__e, h0, hf1⟩ := zg hf1
   obtain ⟨r_, h1, hf1⟩ := zg hf1
   let Z0 : List HO := [Hq c0, Hi eB h0, Hc h_covers_every_bool_1 (x := (s__e, ())) h1 (loC eB s__e <| loC (eSp (YI 52)) () <| loN)]
   rcases zQ hf1 with ⟨c1, hf1⟩ | ⟨c1, hf1⟩
   ·obtain rfl := zb hf1
    obtain rfl := hl1
    obtain rfl := zb hf0
    exact yE X0 hC hE (Z0 ++ [Hq c1])
   ·obtain rfl := zb hf1
    exact yB X0 hC hJ2 (w64 (x8 + 1)) hl1 (Z0 ++ [Hq c1])
  ·obtain rfl := zb hf1
   obtain rfl := hl1
   exact yB X0 hC hJ1 () hf0 [Hq c0]
noncomputable def qw : Code := (Tryz.f81.body).getD .skip
noncomputable def yM : zR := spF (α := List Bool × Unit) (ρ := Bool) 81 (fun x => [(eSl 1 false eB) x.1, (Xz 82 (eSp (YI 52))) x.2]) (fun r => eB r) (fun x => xy x.1 x.2) [] (by
 rintro ⟨a0, a1⟩ ⟨b0, b1⟩ h
 have e0 := uJ.inj (f := (eSl 1 false eB)) _ _ (List.cons.inj h).1
 replace h := (List.cons.inj h).2
 have e1 := uJ.inj (f := (Xz 82 (eSp (YI 52)))) _ _ (List.cons.inj h).1
 subst e0 e1
 rfl)
theorem qH {ctr : Ctr} (hC : zu Tryz.prog ctr) (h_slices_IndexFunc_bool_bool : ctr.Has xr) : yM.Ok Tryz.prog := by
 refine zx ?_
 rintro ⟨s_, f_⟩ r0 hf0
 try unfold xy at hf0
 refine yO true [(4, none)] qw 9 Tryz.func81 fun E hE => ?_
 obtain ⟨r_, h0, hf0⟩ := zg hf0
 obtain rfl := zb hf0
 exact yE X0 hC hE [Hc h_slices_IndexFunc_bool_bool (x := (s_, ())) h0 (loC (eSl 1 false eB) s_ <| loC (Xz 82 (eSp (YI 52))) () <| loN)]
noncomputable def W0 : Code := (Tryz.f50.body).getD .skip
noncomputable def uf : zR := spF (α := List Bool × Unit) (ρ := Bool) 50 (fun x => [(eSl 1 false eB) x.1, (YI 52) x.2]) (fun r => eB r) (fun x => j4 x.1 x.2) [] (by
 rintro ⟨a0, a1⟩ ⟨b0, b1⟩ h
 have e0 := uJ.inj (f := (eSl 1 false eB)) _ _ (List.cons.inj h).1
 replace h := (List.cons.inj h).2
 have e1 := uJ.inj (f := (YI 52)) _ _ (List.cons.inj h).1
 subst e0 e1
 rfl)
theorem Wh {ctr : Ctr} (hC : zu Tryz.prog ctr) (h_slices_ContainsFunc_bool_bool : ctr.Has yM) : uf.Ok Tryz.prog := by
 refine zx ?_
 rintro ⟨l_, is⟩ r0 hf0
 try unfold j4 at hf0
 refine yO true [(4, none)] W0 9 Tryz.func50 fun E hE => ?_
 obtain ⟨r_, h0, hf0⟩ := zg hf0
 obtain rfl := zb hf0
 exact yE X0 hC hE [Hc h_slices_ContainsFunc_bool_bool (x := (l_, ())) h0 (loC (eSl 1 false eB) l_ <| loC (Xz 82 (eSp (YI 52))) () <| loN)]
noncomputable def Xd : Code := (Tryz.f20.body).getD .skip
noncomputable def vB : zR := spF (α := z7 × List (List Int)) (ρ := Bool × Int) 20 (fun x => [xO x.1, vo x.2]) (fun r => .tup [eB r.1, (eI .i64) r.2]) (fun x => va x.1 x.2) [] (X3)
theorem Xj {ctr : Ctr} (hC : zu Tryz.prog ctr) (h_covers_ready : ctr.Has vR) (h_covers_ends : ctr.Has ji) (h_covers_every_bool : ctr.Has uf) : vB.Ok Tryz.prog := by
 refine zx ?_
 rintro ⟨m_, l_⟩ r0 hf0
 try unfold va at hf0
 refine yO false [(4, none), (5, none)] Xd 18 Tryz.func20 fun E hE => ?_
 obtain ⟨r_, h0, hf0⟩ := zg hf0
 let Z0 : List HO := [Hc h_covers_ready (x := (m_, l_)) h0 (loC xO m_ <| loC vo l_ <| loN)]
 rcases zQ hf0 with ⟨c0, hf0⟩ | ⟨c0, hf0⟩
 ·obtain rfl := zb hf0
  exact yE X0 hC hE (Z0 ++ [Hq c0])
 ·obtain ⟨r_1, h1, hf0⟩ := zg hf0
  obtain ⟨r_2, h2, hf0⟩ := zg hf0
  obtain rfl := zb hf0
  exact yE ((zdq zz z9L).or X0) hC hE (Z0 ++ [Hq c0, Hc h_covers_ends (x := (m_, l_)) h1 (loC xO m_ <| loC vo l_ <| loN), Hc h_covers_every_bool (x := (r_1.States, ())) h2 (loC (eSl 1 true eB) r_1.States <| loC (YI 52) () <| loN)])
noncomputable def j8 : Code := (Tryz.f54.body).getD .skip
noncomputable def zD : zR := spF (α := Bool) (ρ := Bool) 54 (fun x => [eB x]) (fun r => eB r) (fun x => xG x) [] (Ul)
theorem jr {ctr : Ctr} (hC : zu Tryz.prog ctr) : zD.Ok Tryz.prog := by
 refine zx ?_
 rintro is r0 hf0
 try unfold xG at hf0
 refine yO true [(2, none)] j8 4 Tryz.func54 fun E hE => ?_
 obtain rfl := zb hf0
 exact yE X0 hC hE []
noncomputable def ZU : Code := (Tryz.f82.body).getD .skip
noncomputable def uj : zR := spF (α := Bool × Unit) (ρ := Bool) 82 (fun x => [eB x.1, (eSp (YI 54)) x.2]) (fun r => eB r) (fun x => vC x.1 x.2) [] (X3)
theorem uA {ctr : Ctr} (hC : zu Tryz.prog ctr) (h_covers_IsTransitionCover_1_1 : ctr.Has zD) : uj.Ok Tryz.prog := by
 refine zx ?_
 rintro ⟨x_, x1⟩ r0 hf0
 try unfold vC at hf0
 refine yO true [(3, none)] ZU 8 Tryz.func82 fun E hE => ?_
 obtain ⟨r_, h0, hf0⟩ := zg hf0
 obtain rfl := zb hf0
 exact yE X0 hC hE [Hc h_covers_IsTransitionCover_1_1 (x := x_) h0 (loC eB x_ <| loN)]
noncomputable def yR : Code := (Tryz.f109.body).getD .skip
noncomputable def wH : zR := spF (α := List Bool × Unit) (ρ := Int) 109 (fun x => [(eSl 1 false eB) x.1, (Xz 82 (eSp (YI 54))) x.2]) (fun r => (eI .i64) r) (fun x => xv x.1 x.2) [] (by
 rintro ⟨a0, a1⟩ ⟨b0, b1⟩ h
 have e0 := uJ.inj (f := (eSl 1 false eB)) _ _ (List.cons.inj h).1
 replace h := (List.cons.inj h).2
 have e1 := uJ.inj (f := (Xz 82 (eSp (YI 54)))) _ _ (List.cons.inj h).1
 subst e0 e1
 rfl)
abbrev uz : List (Nat × T) := []
abbrev uy (s_ : List Bool) (x8 : Int) : List (Nat × T) := [(0, .d (eSl 1 false eB s_)), (1, .d (.fn 82 [.sptr (.fn 54 [])])), (7, .d (I ((s_.length : Nat) : Int))), (8, .d (I x8))]
theorem qG {ctr : Ctr} (hC : zu Tryz.prog ctr) (h_covers_IsTransitionCover_1_1 : ctr.Has zD) : wH.Ok Tryz.prog := by
 refine zx ?_
 rintro ⟨s_, f_⟩ r0 hf0
 try unfold xv at hf0
 refine yO true [(4, none)] yR 19 Tryz.func109 fun E hE => ?_
 refine yJ X0 hC yR [1] [] [] (fun z : Unit => yP = some r0) (fun z => uz) [(0, .d (eSl 1 false eB s_)), (1, .d (.fn 82 [.sptr (.fn 54 [])]))] [Hh (.cut 1)] ?_ fun J1 hJ1 => ?_
 ·rintro ⟨⟩ hf0
  unfold yP at hf0
  obtain rfl := zb hf0
  exact yE X0 hC hE []
 ·obtain ⟨t2, ht2, hf0⟩ := zg hf0
  refine yL X0 hC yR [1,2,1,0] [J1] (fun s => yN s_ s) (fun x => uy s_ x) 0 ht2  [Ha (lnM eB s_)] ?_
  rintro x8 m2 lr1 hf1 hl1 J2 hJ2
  try unfold yN at hf1
  rcases zQ hf1 with ⟨c0, hf1⟩ | ⟨c0, hf1⟩
  ·obtain ⟨s__e, h0, hf1⟩ := zg hf1
   obtain ⟨r_, h1, hf1⟩ := zg hf1
   let Z0 : List HO := [Hq c0, Hi eB h0, Hc (Ctr.add_has Qk uj) (x := (s__e, ())) h1 (loC eB s__e <| loC (eSp (YI 54)) () <| loN)]
   rcases zQ hf1 with ⟨c1, hf1⟩ | ⟨c1, hf1⟩
   ·obtain rfl := zb hf1
    obtain rfl := hl1
    obtain rfl := zb hf0
    exact yE ((z0Q zz (uA hC h_covers_IsTransitionCover_1_1) 16).or X0) hC hE (Z0 ++ [Hq c1])
   ·obtain rfl := zb hf1
    exact yB ((z0Q zz (uA hC h_covers_IsTransitionCover_1_1) 16).or X0) hC hJ2 (w64 (x8 + 1)) hl1 (Z0 ++ [Hq c1])
  ·obtain rfl := zb hf1
   obtain rfl := hl1
   exact yB X0 hC hJ1 () hf0 [Hq c0]
noncomputable def ux : Code := (Tryz.f81.body).getD .skip
noncomputable def xS : zR := spF (α := List Bool × Unit) (ρ := Bool) 81 (fun x => [(eSl 1 false eB) x.1, (Xz 82 (eSp (YI 54))) x.2]) (fun r => eB r) (fun x => yQ x.1 x.2) [] (by
 rintro ⟨a0, a1⟩ ⟨b0, b1⟩ h
 have e0 := uJ.inj (f := (eSl 1 false eB)) _ _ (List.cons.inj h).1
 replace h := (List.cons.inj h).2
 have e1 := uJ.inj (f := (Xz 82 (eSp (YI 54)))) _ _ (List.cons.inj h).1
 subst e0 e1
 rfl)
theorem uI {ctr : Ctr} (hC : zu Tryz.prog ctr) (h_covers_IsTransitionCover_1_1 : ctr.Has zD) : xS.Ok Tryz.prog := by
 refine zx ?_
 rintro ⟨s_, f_⟩ r0 hf0
 try unfold yQ at hf0
 refine yO true [(4, none)] ux 9 Tryz.func81 fun E hE => ?_
 obtain ⟨r_, h0, hf0⟩ := zg hf0
 obtain rfl := zb hf0
 exact yE ((z0Q zz (qG hC h_covers_IsTransitionCover_1_1) 7).or X0) hC hE [Hc (Ctr.add_has Qk wH) (x := (s_, ())) h0 (loC (eSl 1 false eB) s_ <| loC (Xz 82 (eSp (YI 54))) () <| loN)]
noncomputable def YV : Code := (Tryz.f50.body).getD .skip
noncomputable def uP : zR := spF (α := List Bool × Unit) (ρ := Bool) 50 (fun x => [(eSl 1 false eB) x.1, (YI 54) x.2]) (fun r => eB r) (fun x => ug x.1 x.2) [] (by
 rintro ⟨a0, a1⟩ ⟨b0, b1⟩ h
 have e0 := uJ.inj (f := (eSl 1 false eB)) _ _ (List.cons.inj h).1
 replace h := (List.cons.inj h).2
 have e1 := uJ.inj (f := (YI 54)) _ _ (List.cons.inj h).1
 subst e0 e1
 rfl)
theorem X8 {ctr : Ctr} (hC : zu Tryz.prog ctr) (h_covers_IsTransitionCover_1_1 : ctr.Has zD) : uP.Ok Tryz.prog := by
 refine zx ?_
 rintro ⟨l_, is⟩ r0 hf0
 try unfold ug at hf0
 refine yO true [(4, none)] YV 9 Tryz.func50 fun E hE => ?_
 obtain ⟨r_, h0, hf0⟩ := zg hf0
 obtain rfl := zb hf0
 exact yE ((z0Q zz (uI hC h_covers_IsTransitionCover_1_1) 7).or X0) hC hE [Hc (Ctr.add_has Qk xS) (x := (l_, ())) h0 (loC (eSl 1 false eB) l_ <| loC (Xz 82 (eSp (YI 54))) () <| loN)]
noncomputable def jT : Code := (Tryz.f53.body).getD .skip
noncomputable def xu : zR := spF (α := List Bool) (ρ := Bool) 53 (fun x => [(eSl 1 false eB) x]) (fun r => eB r) (fun x => we x) [] (Ul)
theorem k9 {ctr : Ctr} (hC : zu Tryz.prog ctr) (h_covers_IsTransitionCover_1_1 : ctr.Has zD) : xu.Ok Tryz.prog := by
 refine zx ?_
 rintro r_ r0 hf0
 try unfold we at hf0
 refine yO true [(2, none)] jT 5 Tryz.func53 fun E hE => ?_
 obtain ⟨r_1, h0, hf0⟩ := zg hf0
 obtain rfl := zb hf0
 exact yE ((z0Q zz (X8 hC h_covers_IsTransitionCover_1_1) 4).or X0) hC hE [Hc (Ctr.add_has Qk uP) (x := (r_, ())) h0 (loC (eSl 1 false eB) r_ <| loC (YI 54) () <| loN)]
noncomputable def YW : Code := (Tryz.f85.body).getD .skip
noncomputable def wY : zR := spF (α := List Bool × Unit) (ρ := Bool) 85 (fun x => [(eSl 1 false eB) x.1, (eSp (YI 53)) x.2]) (fun r => eB r) (fun x => uh x.1 x.2) [] (X3)
theorem X9 {ctr : Ctr} (hC : zu Tryz.prog ctr) (h_covers_IsTransitionCover_1 : ctr.Has xu) : wY.Ok Tryz.prog := by
 refine zx ?_
 rintro ⟨x_, x1⟩ r0 hf0
 try unfold uh at hf0
 refine yO true [(3, none)] YW 8 Tryz.func85 fun E hE => ?_
 obtain ⟨r_, h0, hf0⟩ := zg hf0
 obtain rfl := zb hf0
 exact yE X0 hC hE [Hc h_covers_IsTransitionCover_1 (x := x_) h0 (loC (eSl 1 false eB) x_ <| loN)]
noncomputable def xk : Code := (Tryz.f110.body).getD .skip
noncomputable def x4 : zR := spF (α := List (List Bool) × Unit) (ρ := Int) 110 (fun x => [F7_ x.1, (Xz 85 (eSp (YI 53))) x.2]) (fun r => (eI .i64) r) (fun x => xV x.1 x.2) [] (by
 rintro ⟨a0, a1⟩ ⟨b0, b1⟩ h
 have e0 := uJ.inj (f := F7_) _ _ (List.cons.inj h).1
 replace h := (List.cons.inj h).2
 have e1 := uJ.inj (f := (Xz 85 (eSp (YI 53)))) _ _ (List.cons.inj h).1
 subst e0 e1
 rfl)
abbrev qh : List (Nat × T) := []
abbrev qg (s_ : List (List Bool)) (x8 : Int) : List (Nat × T) := [(0, .d (eSl 1 false (eSl 1 false eB) s_)), (1, .d (.fn 85 [.sptr (.fn 53 [])])), (7, .d (I ((s_.length : Nat) : Int))), (8, .d (I x8))]
theorem jE {ctr : Ctr} (hC : zu Tryz.prog ctr) (h_covers_everyL_bool_1 : ctr.Has wY) : x4.Ok Tryz.prog := by
 refine zx ?_
 rintro ⟨s_, f_⟩ r0 hf0
 try unfold xV at hf0
 refine yO true [(4, none)] xk 19 Tryz.func110 fun E hE => ?_
 refine yJ X0 hC xk [1] [] [] (fun z : Unit => xa = some r0) (fun z => qh) [(0, .d (eSl 1 false (eSl 1 false eB) s_)), (1, .d (.fn 85 [.sptr (.fn 53 [])]))] [Hh (.cut 1)] ?_ fun J1 hJ1 => ?_
 ·rintro ⟨⟩ hf0
  unfold xa at hf0
  obtain rfl := zb hf0
  exact yE X0 hC hE []
 ·obtain ⟨t2, ht2, hf0⟩ := zg hf0
  refine yL X0 hC xk [1,2,1,0] [J1] (fun s => x9 s_ s) (fun x => qg s_ x) 0 ht2  [Ha (lnM (eSl 1 false eB) s_)] ?_
  rintro x8 m2 lr1 hf1 hl1 J2 hJ2
  try unfold x9 at hf1
  rcases zQ hf1 with ⟨c0, hf1⟩ | ⟨c0, hf1⟩
  ·obtain ⟨s__e, h0, hf1⟩ := zg hf1
   obtain ⟨r_, h1, hf1⟩ := zg hf1
   let Z0 : List HO := [Hq c0, Hi (eSl 1 false eB) h0, Hc h_covers_everyL_bool_1 (x := (s__e, ())) h1 (loC (eSl 1 false eB) s__e <| loC (eSp (YI 53)) () <| loN)]
   rcases zQ hf1 with ⟨c1, hf1⟩ | ⟨c1, hf1⟩
   ·obtain rfl := zb hf1
    obtain rfl := hl1
    obtain rfl := zb hf0
    exact yE X0 hC hE (Z0 ++ [Hq c1])
   ·obtain rfl := zb hf1
    exact yB X0 hC hJ2 (w64 (x8 + 1)) hl1 (Z0 ++ [Hq c1])
  ·obtain rfl := zb hf1
   obtain rfl := hl1
   exact yB X0 hC hJ1 () hf0 [Hq c0]
noncomputable def qd : Code := (Tryz.f84.body).getD .skip
noncomputable def yx : zR := spF (α := List (List Bool) × Unit) (ρ := Bool) 84 (fun x => [F7_ x.1, (Xz 85 (eSp (YI 53))) x.2]) (fun r => eB r) (fun x => xc x.1 x.2) [] (by
 rintro ⟨a0, a1⟩ ⟨b0, b1⟩ h
 have e0 := uJ.inj (f := F7_) _ _ (List.cons.inj h).1
 replace h := (List.cons.inj h).2
 have e1 := uJ.inj (f := (Xz 85 (eSp (YI 53)))) _ _ (List.cons.inj h).1
 subst e0 e1
 rfl)
theorem qr {ctr : Ctr} (hC : zu Tryz.prog ctr) (h_slices_IndexFuncW_bool_bool : ctr.Has x4) : yx.Ok Tryz.prog := by
 refine zx ?_
 rintro ⟨s_, f_⟩ r0 hf0
 try unfold xc at hf0
 refine yO true [(4, none)] qd 9 Tryz.func84 fun E hE => ?_
 obtain ⟨r_, h0, hf0⟩ := zg hf0
 obtain rfl := zb hf0
 exact yE X0 hC hE [Hc h_slices_IndexFuncW_bool_bool (x := (s_, ())) h0 (loC F7_ s_ <| loC (Xz 85 (eSp (YI 53))) () <| loN)]
noncomputable def XE : Code := (Tryz.f55.body).getD .skip
noncomputable def vS : zR := spF (α := List (List Bool) × Unit) (ρ := Bool) 55 (fun x => [F7_ x.1, (YI 53) x.2]) (fun r => eB r) (fun x => qa x.1 x.2) [] (by
 rintro ⟨a0, a1⟩ ⟨b0, b1⟩ h
 have e0 := uJ.inj (f := F7_) _ _ (List.cons.inj h).1
 replace h := (List.cons.inj h).2
 have e1 := uJ.inj (f := (YI 53)) _ _ (List.cons.inj h).1
 subst e0 e1
 rfl)
theorem XV {ctr : Ctr} (hC : zu Tryz.prog ctr) (h_slices_ContainsFuncW_bool_bool : ctr.Has yx) : vS.Ok Tryz.prog := by
 refine zx ?_
 rintro ⟨l_, is⟩ r0 hf0
 try unfold qa at hf0
 refine yO true [(4, none)] XE 9 Tryz.func55 fun E hE => ?_
 obtain ⟨r_, h0, hf0⟩ := zg hf0
 obtain rfl := zb hf0
 exact yE X0 hC hE [Hc h_slices_ContainsFuncW_bool_bool (x := (l_, ())) h0 (loC F7_ l_ <| loC (Xz 85 (eSp (YI 53))) () <| loN)]
noncomputable def Za : Code := (Tryz.f21.body).getD .skip
noncomputable def xT : zR := spF (α := z7 × List (List Int)) (ρ := Bool × Int) 21 (fun x => [xO x.1, vo x.2]) (fun r => .tup [eB r.1, (eI .i64) r.2]) (fun x => xq x.1 x.2) [] (X3)
theorem Zf {ctr : Ctr} (hC : zu Tryz.prog ctr) (h_covers_ready : ctr.Has vR) (h_covers_ends : ctr.Has ji) (h_covers_everyL_bool : ctr.Has vS) : xT.Ok Tryz.prog := by
 refine zx ?_
 rintro ⟨m_, l_⟩ r0 hf0
 try unfold xq at hf0
 refine yO false [(4, none), (5, none)] Za 20 Tryz.func21 fun E hE => ?_
 obtain ⟨r_, h0, hf0⟩ := zg hf0
 let Z0 : List HO := [Hc h_covers_ready (x := (m_, l_)) h0 (loC xO m_ <| loC vo l_ <| loN)]
 rcases zQ hf0 with ⟨c0, hf0⟩ | ⟨c0, hf0⟩
 ·obtain rfl := zb hf0
  exact yE X0 hC hE (Z0 ++ [Hq c0])
 ·obtain ⟨r_1, h1, hf0⟩ := zg hf0
  obtain ⟨r_2, h2, hf0⟩ := zg hf0
  obtain rfl := zb hf0
  exact yE ((zdq zz z9K).or X0) hC hE (Z0 ++ [Hq c0, Hc h_covers_ends (x := (m_, l_)) h1 (loC xO m_ <| loC vo l_ <| loN), Hc h_covers_everyL_bool (x := (r_1.Edges, ())) h2 (loC F6_ r_1.Edges <| loC (YI 53) () <| loN)])
noncomputable def Wc : Code := (Tryz.f12.body).getD .skip
noncomputable def ZH : zR := spF (α := Unit) (ρ := Bool) 12 (fun x => []) (fun r => eB r) (fun x => qS) [] (fun _ _ _ => rfl)
theorem KZ {ctr : Ctr} (hC : zu Tryz.prog ctr) (h_law13_example : ctr.Has jM) (h_law13_list : ctr.Has Yn) (h_covers_States : ctr.Has vg) (h_covers_Transitions : ctr.Has wm) (h_covers_Switches : ctr.Has wn) (h_covers_Covered : ctr.Has qO) (h_law13_same : ctr.Has kc) (h_ref13_Same : ctr.Has Yi) (h_covers_IsStateCover : ctr.Has vB) (h_covers_IsTransitionCover : ctr.Has xT) : ZH.Ok Tryz.prog := by
 refine zx ?_
 rintro ⟨⟩ r0 hf0
 try unfold qS at hf0
 refine yO true [(0, none)] Wc 164 Tryz.func12 fun E hE => ?_
 obtain ⟨r_, h0, hf0⟩ := zg hf0
 obtain ⟨r_1, h1, hf0⟩ := zg hf0
 obtain ⟨r_2, h2, hf0⟩ := zg hf0
 obtain ⟨r_3, h3, hf0⟩ := zg hf0
 obtain ⟨r_4, h4, hf0⟩ := zg hf0
 obtain ⟨r_5, h5, hf0⟩ := zg hf0
 obtain ⟨r_6, h6, hf0⟩ := zg hf0
 obtain ⟨r_7, h7, hf0⟩ := zg hf0
 obtain ⟨r_8, h8, hf0⟩ := zg hf0
 refine yA X0 hC Wc [1,1,1,1,1,1,1,1,1,0] [] [(1, .own (.box (z6l r_))), (2, .d (eSl 1 false F3_ r_1)), (3, .d (eSl 1 false F3_ r_2)), (4, .d (eSl 1 true F0_ r_3.1)), (5, .d (I r_3.2)), (6, .d (eSl 1 true F0_ r_4.1)), (7, .d (I r_4.2)), (8, .d (eSl 1 true F0_ r_5.1)), (9, .d (I r_5.2)), (11, .d (I r_6.2)), (12, .own (.box (zd4 r_8.1))), (13, .d (I r_8.2))] [Hc h_law13_example (x := ()) h0 (loN), Hg (z1Q h_law13_list), Hm (shM F1_ F0_ ([[], [0], [1], [0,0], [0,1], [0,0,0], [0,0,1]])), Hs (z1R h_law13_list (x := [[], [0], [1], [0,0], [0,1], [0,0,0], [0,0,1]]) h1 (loC F9_ ([[], [0], [1], [0,0], [0,1], [0,0,0], [0,0,1]] : List (List Int)) <| loN)), Hm (shM F1_ F0_ ([[], [0], [1], [0,0], [0,1], [0,0,0], [0,0,1]])), Hg (z1Q h_law13_list), Hm (shM F1_ F0_ ([[], [0], [0,0]])), Hs (z1R h_law13_list (x := [[], [0], [0,0]]) h2 (loC F9_ ([[], [0], [0,0]] : List (List Int)) <| loN)), Hm (shM F1_ F0_ ([[], [0], [0,0]])), Hc h_covers_States (x := r_) h3 (loC z6l r_ <| loN), Hc h_covers_Transitions (x := r_) h4 (loC z6l r_ <| loN), Hc h_covers_Switches (x := (r_, 0)) h5 (loC z6l r_ <| loC (eI .i64) 0 <| loN), Hc h_covers_Switches (x := (r_, (-1))) h6 (loC z6l r_ <| loC (eI .i64) (-1) <| loN), Hg (z1Q h_law13_list), Hm (shM F1_ F0_ ([[1], [0,1,0]])), Hs (z1R h_law13_list (x := [[1], [0,1,0]]) h7 (loC F9_ ([[1], [0,1,0]] : List (List Int)) <| loN)), Hm (shM F1_ F0_ ([[1], [0,1,0]])), Hc h_covers_Covered (x := (r_, r_7)) h8 (loC z6l r_ <| loC vo r_7 <| loN), Hh (.cut 1)] ?_
 rcases zQ hf0 with ⟨c0, hf0⟩ | ⟨c0, hf0⟩
 ·obtain rfl := zb hf0
  exact yE X0 hC hE (Hq c0 :: Hq c0 :: Hq c0 :: (rpN 35 qT []))
 ·rcases zQ hf0 with ⟨c1, hf0⟩ | ⟨c1, hf0⟩
  ·obtain rfl := zb hf0
   exact yE X0 hC hE (Hq c0 :: Hq c0 :: Hq c0 :: Hq c1 :: Hq c1 :: Hq c1 :: (rpN 32 qT []))
  ·let Z0 : List HO := [Hq c0, Hq c0, Hq c0, Hq c1, Hq c1, Hq c1]
   rcases zQ hf0 with ⟨c2, hf0⟩ | ⟨c2, hf0⟩
   ·obtain rfl := zb hf0
    exact yE X0 hC hE (Z0 ++ (Hq c2 :: Hq c2 :: Hq c2 :: (rpN 29 qT [])))
   ·rcases zQ hf0 with ⟨c3, hf0⟩ | ⟨c3, hf0⟩
    ·obtain rfl := zb hf0
     exact yE X0 hC hE (Z0 ++ (Hq c2 :: Hq c2 :: Hq c2 :: Hq c3 :: Hq c3 :: Hq c3 :: (rpN 26 qT [])))
    ·let Z1 : List HO := (Z0 ++ [Hq c2, Hq c2, Hq c2, Hq c3, Hq c3, Hq c3])
     rcases zQ hf0 with ⟨c4, hf0⟩ | ⟨c4, hf0⟩
     ·obtain rfl := zb hf0
      exact yE X0 hC hE (Z1 ++ (rpN 5 (Hq c4) (rpN 21 qT [])))
     ·obtain ⟨r_9, h9, hf0⟩ := zg hf0
      let Z2 : List HO := (Z1 ++ [Hq c4, Hq c4, Hq c4, Hn (qL (f := .fn 13 []) (xs := [F9_ r_3.1, vo r_2]) (ls := []) (r := B r_9) (ys := []) [F9_ r_3.1, vo r_2] (show JY [F9_ r_3.1, vo r_2] [F9_ r_3.1, vo r_2] from inferInstance)), Hq c4, Hq c4])
      rcases zQ hf0 with ⟨c5, hf0⟩ | ⟨c5, hf0⟩
      ·obtain rfl := zb hf0
       exact yE ((yK (P := Tryz.prog) yw [] (lentCall (zK hC h_law13_same (x := (r_3.1, r_2)) h9)) 81).or X0) hC hE (Z2 ++ (rpN 5 (Hq c5) (rpN 16 qT [])))
      ·obtain ⟨r_10, h10, hf0⟩ := zg hf0
       let Z3 : List HO := (Z2 ++ [Hq c5, Hq c5, Hq c5, Hn (qL (f := .fn 13 []) (xs := [F9_ r_4.1, vo r_1]) (ls := []) (r := B r_10) (ys := []) [F9_ r_4.1, vo r_1] (show JY [F9_ r_4.1, vo r_1] [F9_ r_4.1, vo r_1] from inferInstance)), Hq c5, Hq c5])
       rcases zQ hf0 with ⟨c6, hf0⟩ | ⟨c6, hf0⟩
       ·obtain rfl := zb hf0
        exact yE ((yK (P := Tryz.prog) yw [] (lentCall (zK hC h_law13_same (x := (r_4.1, r_1)) h10)) 87).or ((yK (P := Tryz.prog) yw [] (lentCall (zK hC h_law13_same (x := (r_3.1, r_2)) h9)) 81).or X0)) hC hE (Z3 ++ (rpN 5 (Hq c6) (rpN 11 qT [])))
       ·obtain ⟨r_11, h11, hf0⟩ := zg hf0
        let Z4 : List HO := (Z3 ++ [Hq c6, Hq c6, Hq c6, Hn (qL (f := .fn 13 []) (xs := [F9_ r_5.1, vo r_2]) (ls := []) (r := B r_11) (ys := []) [F9_ r_5.1, vo r_2] (show JY [F9_ r_5.1, vo r_2] [F9_ r_5.1, vo r_2] from inferInstance)), Hq c6, Hq c6])
        rcases zQ hf0 with ⟨c7, hf0⟩ | ⟨c7, hf0⟩
        ·obtain rfl := zb hf0
         exact yE ((yK (P := Tryz.prog) yw [] (lentCall (zK hC h_law13_same (x := (r_5.1, r_2)) h11)) 93).or ((yK (P := Tryz.prog) yw [] (lentCall (zK hC h_law13_same (x := (r_4.1, r_1)) h10)) 87).or ((yK (P := Tryz.prog) yw [] (lentCall (zK hC h_law13_same (x := (r_3.1, r_2)) h9)) 81).or X0))) hC hE (Z4 ++ (rpN 10 (Hq c7) [qT]))
        ·obtain ⟨r_12, h12, hf0⟩ := zg hf0
         let Z5 : List HO := (Z4 ++ (rpN 8 (Hq c7) [Hg (z1Q h_ref13_Same), Hm (shM eB eB ([true, true, false])), Hm (shM (eOs 1 true eB) (eSl 1 true eB) ([[true, true], [false, false], [false, false]])), Hs (z1R h_ref13_Same (x := (r_8.1, (zc.mk ([true, true, false]) ([[true, true], [false, false], [false, false]])))) h12 (loC zd4 r_8.1 <| loC zd4 (zc.mk ([true, true, false]) ([[true, true], [false, false], [false, false]])) <| loN)), Hq c7, Hq c7]))
         rcases zQ hf0 with ⟨c8, hf0⟩ | ⟨c8, hf0⟩
         ·obtain rfl := zb hf0
          exact yE ((yK (P := Tryz.prog) yw [] (lentCall (zK hC h_law13_same (x := (r_5.1, r_2)) h11)) 93).or ((yK (P := Tryz.prog) yw [] (lentCall (zK hC h_law13_same (x := (r_4.1, r_1)) h10)) 87).or ((yK (P := Tryz.prog) yw [] (lentCall (zK hC h_law13_same (x := (r_3.1, r_2)) h9)) 81).or X0))) hC hE (Z5 ++ [Hq c8])
         ·obtain ⟨r_13, h13, hf0⟩ := zg hf0
          obtain ⟨r_14, h14, hf0⟩ := zg hf0
          obtain ⟨r_15, h15, hf0⟩ := zg hf0
          obtain ⟨r_16, h16, hf0⟩ := zg hf0
          obtain ⟨r_17, h17, hf0⟩ := zg hf0
          obtain ⟨r_18, h18, hf0⟩ := zg hf0
          let Z6 : List HO := (Z5 ++ [Hq c8, Hc h_covers_IsStateCover (x := (r_, r_2)) h13 (loC z6l r_ <| loC vo r_2 <| loN), Hg (z1Q h_law13_list), Hm (shM F1_ F0_ ([[0,0]])), Hs (z1R h_law13_list (x := [[0,0]]) h14 (loC F9_ ([[0,0]] : List (List Int)) <| loN)), Hm (shM F1_ F0_ ([[0,0]])), Hc h_covers_IsStateCover (x := (r_, r_14)) h15 (loC z6l r_ <| loC vo r_14 <| loN), Hc h_covers_IsTransitionCover (x := (r_, r_1)) h16 (loC z6l r_ <| loC vo r_1 <| loN), Hg (z1Q h_law13_list), Hm (shM F1_ F0_ ([[0], [1]])), Hs (z1R h_law13_list (x := [[0], [1]]) h17 (loC F9_ ([[0], [1]] : List (List Int)) <| loN)), Hm (shM F1_ F0_ ([[0], [1]])), Hc h_covers_IsTransitionCover (x := (r_, r_17)) h18 (loC z6l r_ <| loC vo r_17 <| loN)])
          rcases zQ hf0 with ⟨c9, hf0⟩ | ⟨c9, hf0⟩
          ·rcases zQ hf0 with ⟨c10, hf0⟩ | ⟨c10, hf0⟩
           ·let Z7 : List HO := (Z6 ++ [Hq c9, Hq c9, Hq c9, Hq c10, Hq c10, Hq c10])
            rcases zQ hf0 with ⟨c11, hf0⟩ | ⟨c11, hf0⟩
            ·rcases zQ hf0 with ⟨c12, hf0⟩ | ⟨c12, hf0⟩
             ·let Z8 : List HO := (Z7 ++ [Hq c11, Hq c11, Hq c11, Hq c12, Hq c12])
              rcases zQ hf0 with ⟨c13, hf0⟩ | ⟨c13, hf0⟩
              ·rcases zQ hf0 with ⟨c14, hf0⟩ | ⟨c14, hf0⟩
               ·let Z9 : List HO := (Z8 ++ [Hq c13, Hq c13, Hq c13, Hq c14, Hq c14])
                rcases zQ hf0 with ⟨c15, hf0⟩ | ⟨c15, hf0⟩
                ·obtain rfl := zb hf0
                 exact yE ((yK (P := Tryz.prog) yw [] (lentCall (zK hC h_law13_same (x := (r_5.1, r_2)) h11)) 93).or ((yK (P := Tryz.prog) yw [] (lentCall (zK hC h_law13_same (x := (r_4.1, r_1)) h10)) 87).or ((yK (P := Tryz.prog) yw [] (lentCall (zK hC h_law13_same (x := (r_3.1, r_2)) h9)) 81).or X0))) hC hE (Z9 ++ [Hq c15, Hq c15, Hq c15])
                ·obtain rfl := zb hf0
                 exact yE ((yK (P := Tryz.prog) yw [] (lentCall (zK hC h_law13_same (x := (r_5.1, r_2)) h11)) 93).or ((yK (P := Tryz.prog) yw [] (lentCall (zK hC h_law13_same (x := (r_4.1, r_1)) h10)) 87).or ((yK (P := Tryz.prog) yw [] (lentCall (zK hC h_law13_same (x := (r_3.1, r_2)) h9)) 81).or X0))) hC hE (Z9 ++ [Hq c15, Hq c15, Hq c15])
               ·obtain rfl := zb hf0
                exact yE ((yK (P := Tryz.prog) yw [] (lentCall (zK hC h_law13_same (x := (r_5.1, r_2)) h11)) 93).or ((yK (P := Tryz.prog) yw [] (lentCall (zK hC h_law13_same (x := (r_4.1, r_1)) h10)) 87).or ((yK (P := Tryz.prog) yw [] (lentCall (zK hC h_law13_same (x := (r_3.1, r_2)) h9)) 81).or X0))) hC hE (Z8 ++ [Hq c13, Hq c13, Hq c13, Hq c14, Hq c14, qF, qF, qF])
              ·obtain rfl := zb hf0
               exact yE ((yK (P := Tryz.prog) yw [] (lentCall (zK hC h_law13_same (x := (r_5.1, r_2)) h11)) 93).or ((yK (P := Tryz.prog) yw [] (lentCall (zK hC h_law13_same (x := (r_4.1, r_1)) h10)) 87).or ((yK (P := Tryz.prog) yw [] (lentCall (zK hC h_law13_same (x := (r_3.1, r_2)) h9)) 81).or X0))) hC hE (Z8 ++ (Hq c13 :: Hq c13 :: Hq c13 :: (rpN 5 qF [])))
             ·obtain rfl := zb hf0
              exact yE ((yK (P := Tryz.prog) yw [] (lentCall (zK hC h_law13_same (x := (r_5.1, r_2)) h11)) 93).or ((yK (P := Tryz.prog) yw [] (lentCall (zK hC h_law13_same (x := (r_4.1, r_1)) h10)) 87).or ((yK (P := Tryz.prog) yw [] (lentCall (zK hC h_law13_same (x := (r_3.1, r_2)) h9)) 81).or X0))) hC hE (Z7 ++ (Hq c11 :: Hq c11 :: Hq c11 :: Hq c12 :: Hq c12 :: (rpN 8 qF [])))
            ·obtain rfl := zb hf0
             exact yE ((yK (P := Tryz.prog) yw [] (lentCall (zK hC h_law13_same (x := (r_5.1, r_2)) h11)) 93).or ((yK (P := Tryz.prog) yw [] (lentCall (zK hC h_law13_same (x := (r_4.1, r_1)) h10)) 87).or ((yK (P := Tryz.prog) yw [] (lentCall (zK hC h_law13_same (x := (r_3.1, r_2)) h9)) 81).or X0))) hC hE (Z7 ++ (Hq c11 :: Hq c11 :: Hq c11 :: (rpN 10 qF [])))
           ·obtain rfl := zb hf0
            exact yE ((yK (P := Tryz.prog) yw [] (lentCall (zK hC h_law13_same (x := (r_5.1, r_2)) h11)) 93).or ((yK (P := Tryz.prog) yw [] (lentCall (zK hC h_law13_same (x := (r_4.1, r_1)) h10)) 87).or ((yK (P := Tryz.prog) yw [] (lentCall (zK hC h_law13_same (x := (r_3.1, r_2)) h9)) 81).or X0))) hC hE (Z6 ++ (Hq c9 :: Hq c9 :: Hq c9 :: Hq c10 :: Hq c10 :: Hq c10 :: (rpN 13 qF [])))
          ·obtain rfl := zb hf0
           exact yE ((yK (P := Tryz.prog) yw [] (lentCall (zK hC h_law13_same (x := (r_5.1, r_2)) h11)) 93).or ((yK (P := Tryz.prog) yw [] (lentCall (zK hC h_law13_same (x := (r_4.1, r_1)) h10)) 87).or ((yK (P := Tryz.prog) yw [] (lentCall (zK hC h_law13_same (x := (r_3.1, r_2)) h9)) 81).or X0))) hC hE (Z6 ++ (Hq c9 :: Hq c9 :: Hq c9 :: (rpN 16 qF [])))
noncomputable def uH : Code := (Tryz.f78.body).getD .skip
noncomputable def Zs : zR := spF (α := List (List Int) × List Int) (ρ := List (List Int)) 78 (fun x => [z2c x.1, F3_ x.2]) (fun r => z2c r) (fun x => Y2 x.1 x.2) [true, false] (X3)
abbrev JS (w_ : List Int) (low : Int) (l_1 : List (List Int)) : List (Nat × T) := [(0, .own (eOs 1 false F3_ l_1)), (1, .d (eSl 1 false (eI .i64) w_)), (5, .d (I low))]
abbrev JR (w_ : List Int) (low : Int) (l_2 : List (List Int)) (i_ : Int) : List (Nat × T) := [(0, .own (eOs 1 false F3_ l_2)), (1, .d (eSl 1 false (eI .i64) w_)), (5, .d (I low)), (8, .d (I i_))]
abbrev JT (l_ : List (List Int)) (w_ : List Int) (low : Int) : List (Nat × T) := [(0, .own (eOs 1 false F3_ l_)), (1, .d (eSl 1 false (eI .i64) w_)), (5, .d (I low))]
abbrev JU (l_ : List (List Int)) (w_ : List Int) (low : Int) : List (Nat × T) := [(0, .own (eOs 1 false F3_ l_)), (1, .d (eSl 1 false (eI .i64) w_)), (5, .d (I low))]
abbrev JQ (l_ : List (List Int)) (w_ : List Int) (low1 : Int) (high : Int) : List (Nat × T) := [(0, .own (eOs 1 false F3_ l_)), (1, .d (eSl 1 false (eI .i64) w_)), (5, .d (I low1)), (6, .d (I high))]
noncomputable def yH : XH Tryz.prog := ((z4t zz (.inr 66) [65]).or ((z4t zz (.inl 44) [43]).or X0))
theorem z2k {ctr : Ctr} (hC : zu Tryz.prog ctr) (h_ref12_compare : ctr.Has um) : Zs.Ok Tryz.prog := by
 refine zx ?_
 rintro ⟨l_, w_⟩ r0 hf0
 try unfold Y2 at hf0
 refine yO true [(4, none)] uH 68 Tryz.func78 fun E hE => ?_
 refine yJ yH hC uH [1,1,1] [] [0,1,5] (fun z : Int => Zu l_ w_ z = some r0) (fun z => JU l_ w_ z) [(0, .own (eOs 1 false F3_ l_)), (1, .d (eSl 1 false (eI .i64) w_)), (5, .d (I 0)), (6, .d (I ((l_.length : Nat) : Int)))] [Ha (lnM F3_ l_), Hh (.cut 0)] ?_ fun J1 hJ1 => ?_
 ·rintro low hf0
  unfold Zu at hf0
  refine yJ yH hC uH [1,1,1,1] [] [0,1,5] (fun z : Unit => uG l_ w_ low = some r0) (fun z => JT l_ w_ low) [(0, .own (eOs 1 false F3_ l_)), (1, .d (eSl 1 false (eI .i64) w_)), (5, .d (I low))] [Hh (.cut 0)] ?_ fun J2 hJ2 => ?_
  ·rintro ⟨⟩ hf0
   unfold uG at hf0
   obtain ⟨g0, hf0⟩ := gdE hf0
   refine yJ ((xNb zz 43).or yH) hC uH [1,1,1,1,1,1] [] [0,1,5] (fun z : List (List Int) => Zt w_ low z = some r0) (fun z => JS w_ low z) [(0, .own (eOs 1 false F3_ (l_ ++ ([[]] : List (List Int))))), (1, .d (eSl 1 false (eI .i64) w_)), (5, .d (I low))] [Hm (shM F4_ F3_ ([[]])), Hn (dM F3_ ([[]] : List (List Int))), Hn (aL F3_ F3_ g0), Hl (aM F3_ l_ ([[]] : List (List Int))), Hh (.cut 0)] ?_ fun J3 hJ3 => ?_
   ·rintro l_1 hf0
    unfold Zt at hf0
    obtain ⟨g1, hf0⟩ := gdE hf0
    obtain ⟨l__e, h0, hf0⟩ := zg hf0
    obtain rfl := zb hf0
    exact yE yH hC hE [Hn (dM (eI .i64) w_), Hn (aL (eI .i64) (eI .i64) g1), Hl (aM0 (eI .i64) w_), Hn (iL F3_ h0), Hm (shM (eI .i64) (eI .i64) w_), Hs (iM F3_ h0), Hs (iM F3_ h0), Hl (sM F3_ l_1 low w_)]
   ·obtain ⟨t4, ht4, hf0⟩ := zg hf0
    refine yL yH hC uH [1,1,1,1,1,1,2,1,0] [J3] (fun s => jt low s.1 s.2) (fun x => JR w_ low x.1 x.2) ((l_ ++ ([[]] : List (List Int))), w64 ((((l_ ++ ([[]] : List (List Int))).length : Nat) : Int) - 1)) ht4  [Ha (lnM F3_ (l_ ++ ([[]] : List (List Int))))] ?_
    rintro ⟨l_2, i_⟩ m4 lr1 hf1 hl1 J4 hJ4
    try unfold jt at hf1
    rcases zQ hf1 with ⟨c0, hf1⟩ | ⟨c0, hf1⟩
    ·obtain ⟨l__e1, h1, hf1⟩ := zg hf1
     obtain ⟨l__e2, h2, hf1⟩ := zg hf1
     obtain rfl := zb hf1
     exact yB yH hC hJ4 ((l_2.set i_.toNat l__e1), w64 (i_ - 1)) hl1 [Hq c0, Hn (iL F3_ h1), Hs (iM F3_ h1), Hn (iL F3_ h2), Hs (iM F3_ h2), Hs (iM F3_ h2), Hl (sM F3_ l_2 i_ l__e1)]
    ·obtain rfl := zb hf1
     obtain rfl := hl1
     exact yB yH hC hJ3 l_2 hf0 [Hq c0]
  ·let Z0 : List HO := [Ha (lnM F3_ l_)]
   rcases zQ hf0 with ⟨c1, hf0⟩ | ⟨c1, hf0⟩
   ·obtain ⟨l__e3, h3, hf0⟩ := zg hf0
    obtain ⟨r_, h4, hf0⟩ := zg hf0
    let Z1 : List HO := (Z0 ++ [Hq c1, Hq c1, Hq c1, Hn (iL F3_ h3), Hq c1, Hs (iM F3_ h3), Hq c1, Hq c1, Hc h_ref12_compare (x := (l__e3, w_)) h4 (loC F3_ l__e3 <| loC F3_ w_ <| loN), Hq c1, Hq c1])
    rcases zQ hf0 with ⟨c2, hf0⟩ | ⟨c2, hf0⟩
    ·obtain rfl := zb hf0
     exact yE yH hC hE (Z1 ++ [Hq c2])
    ·exact yB yH hC hJ2 () hf0 (Z1 ++ [Hq c2])
   ·exact yB yH hC hJ2 () hf0 (Z0 ++ (rpN 8 (Hq c1) [qF]))
 ·obtain ⟨t5, ht5, hf0⟩ := zg hf0
  refine yL yH hC uH [1,1,1,2,0] [J1] (fun s => js l_ w_ s.1 s.2) (fun x => JQ l_ w_ x.1 x.2) (0, ((l_.length : Nat) : Int)) ht5  [] ?_
  rintro ⟨low1, high⟩ m5 lr1 hf1 hl1 J5 hJ5
  try unfold js at hf1
  rcases zQ hf1 with ⟨c3, hf1⟩ | ⟨c3, hf1⟩
  ·obtain ⟨g2, hf1⟩ := gdE hf1
   obtain ⟨l__e4, h5, hf1⟩ := zg hf1
   obtain ⟨r_1, h6, hf1⟩ := zg hf1
   let Z2 : List HO := [Hq c3, Hn g2, Hn (iL F3_ h5), Hs (iM F3_ h5), Hc h_ref12_compare (x := (l__e4, w_)) h6 (loC F3_ l__e4 <| loC F3_ w_ <| loN)]
   rcases zQ hf1 with ⟨c4, hf1⟩ | ⟨c4, hf1⟩
   ·obtain rfl := zb hf1
    exact yB yH hC hJ5 (w64 ((w64 (Int.tdiv (w64 (low1 + high)) 2)) + 1), high) hl1 (Z2 ++ [Hq c4])
   ·obtain rfl := zb hf1
    exact yB yH hC hJ5 (low1, w64 (Int.tdiv (w64 (low1 + high)) 2)) hl1 (Z2 ++ [Hq c4])
  ·obtain rfl := zb hf1
   obtain rfl := hl1
   exact yB yH hC hJ1 low1 hf0 [Hq c3]
noncomputable def YR : Code := (Tryz.f42.body).getD .skip
noncomputable def Yk : zR := spF (α := List (List Int)) (ρ := List (List Int)) 42 (fun x => [vo x]) (fun r => z2c r) (fun x => Y3 x) [] (Ul)
abbrev UV (out : List (List Int)) : List (Nat × T) := [(3, .own (eOs 1 false F3_ out))]
abbrev UU (l_ : List (List Int)) (out1 : List (List Int)) (i_ : Int) : List (Nat × T) := [(0, .d (eSl 1 false F3_ l_)), (3, .own (eOs 1 false F3_ out1)), (4, .d (I i_))]
theorem z0W {ctr : Ctr} (hC : zu Tryz.prog ctr) (h_ref12_put : ctr.Has Zs) : Yk.Ok Tryz.prog := by
 refine zx ?_
 rintro l_ r0 hf0
 try unfold Y3 at hf0
 refine yO true [(2, none)] YR 18 Tryz.func42 fun E hE => ?_
 refine yJ X0 hC YR [1,1] [] [3] (fun z : List (List Int) => YA z = some r0) (fun z => UV z) [(0, .d (eSl 1 false F3_ l_)), (3, .own (eOs 1 true F3_ []))] [Hh (.cut 2)] ?_ fun J1 hJ1 => ?_
 ·rintro out hf0
  unfold YA at hf0
  obtain rfl := zb hf0
  exact yE X0 hC hE []
 ·obtain ⟨t2, ht2, hf0⟩ := zg hf0
  refine yLx X0 hC YR [1,1,2,1,0] [J1] (fun s => wq l_ s.1 s.2) (fun x => UU l_ x.1 x.2) (([] : List (List Int)), 0) ht2 [(0, .d (eSl 1 false F3_ l_)), (3, .own (eOs 1 true F3_ [])), (4, .d (I 0))] inferInstance [] ?_
  rintro ⟨out1, i_⟩ m2 lr1 hf1 hl1 J2 hJ2
  try unfold wq at hf1
  let Z0 : List HO := [Ha (lnM F3_ l_)]
  rcases zQ hf1 with ⟨c0, hf1⟩ | ⟨c0, hf1⟩
  ·obtain ⟨l__e, h0, hf1⟩ := zg hf1
   obtain ⟨r_, h1, hf1⟩ := zg hf1
   obtain rfl := zb hf1
   exact yB X0 hC hJ2 (r_, w64 (i_ + 1)) hl1 (Z0 ++ [Hq c0, Hi F3_ h0, Hc h_ref12_put (x := (out1, l__e)) h1 (loC z2c out1 <| loC F3_ l__e <| loN)])
  ·obtain rfl := zb hf1
   obtain rfl := hl1
   exact yB X0 hC hJ1 out1 hf0 (Z0 ++ [Hq c0])
noncomputable def JB : Code := (Tryz.f14.body).getD .skip
noncomputable def uN : zR := spF (α := z7) (ρ := List (List Int)) 14 (fun x => [xO x]) (fun r => z2c r) (fun x => uF x) [] (Ul)
theorem K4 {ctr : Ctr} (hC : zu Tryz.prog ctr) (h_ref06_Access : ctr.Has uO) (h_ref12_Sort : ctr.Has Yk) : uN.Ok Tryz.prog := by
 refine zx ?_
 rintro m_ r0 hf0
 try unfold uF at hf0
 refine yO true [(2, none)] JB 12 Tryz.func14 fun E hE => ?_
 obtain ⟨r_, h0, hf0⟩ := zg hf0
 obtain ⟨r_1, h1, hf0⟩ := zg hf0
 obtain rfl := zb hf0
 exact yE X0 hC hE [Hc h_ref06_Access (x := m_) h0 (loC xO m_ <| loN), Hc h_ref12_Sort (x := r_.1) h1 (loC zdn r_.1 <| loN)]
noncomputable def xL : Code := (Tryz.f79.body).getD .skip
noncomputable def ZD : zR := spF (α := Int × Int) (ρ := List (List Int)) 79 (fun x => [(eI .i64) x.1, (eI .i64) x.2]) (fun r => (eOs 1 false F4_) r) (fun x => kN x.1 x.2) [] (X3)
abbrev VT (out : List (List Int)) : List (Nat × T) := [(5, .own (eOs 1 false F4_ out))]
abbrev VS (inputs : Int) (k_ : Int) (n_ : Int) (out2 : List (List Int)) : List (Nat × T) := [(0, .d (I inputs)), (1, .d (I k_)), (5, .own (eOs 1 false F4_ out2)), (6, .d (I n_))]
abbrev VR (inputs : Int) (k_ : Int) (n_ : Int) (next : List (List Int)) : List (Nat × T) := [(0, .d (I inputs)), (1, .d (I k_)), (6, .d (I n_)), (7, .own (eOs 1 false F4_ next))]
abbrev VQ (inputs : Int) (k_ : Int) (out1 : List (List Int)) (n_ : Int) (i_ : Int) (next2 : List (List Int)) : List (Nat × T) := [(0, .d (I inputs)), (1, .d (I k_)), (5, .own (eOs 1 false F4_ out1)), (6, .d (I n_)), (7, .own (eOs 1 false F4_ next2)), (8, .d (I i_))]
abbrev VN (inputs : Int) (k_ : Int) (out1 : List (List Int)) (n_ : Int) (i_ : Int) (next3 : List (List Int)) (s_ : Int) : List (Nat × T) := [(0, .d (I inputs)), (1, .d (I k_)), (5, .own (eOs 1 false F4_ out1)), (6, .d (I n_)), (7, .own (eOs 1 false F4_ next3)), (8, .d (I i_)), (9, .d (I s_))]
abbrev VO (inputs : Int) (k_ : Int) (out1 : List (List Int)) (n_ : Int) (next1 : List (List Int)) (i_ : Int) : List (Nat × T) := [(0, .d (I inputs)), (1, .d (I k_)), (5, .own (eOs 1 false F4_ out1)), (6, .d (I n_)), (7, .own (eOs 1 false F4_ next1)), (8, .d (I i_))]
abbrev VP (inputs : Int) (k_ : Int) (out1 : List (List Int)) (n_ : Int) : List (Nat × T) := [(0, .d (I inputs)), (1, .d (I k_)), (5, .own (eOs 1 false F4_ out1)), (6, .d (I n_))]
theorem KW {ctr : Ctr} (hC : zu Tryz.prog ctr) : ZD.Ok Tryz.prog := by
 refine zx ?_
 rintro ⟨inputs, k_⟩ r0 hf0
 try unfold kN at hf0
 refine yO true [(4, none)] xL 42 Tryz.func79 fun E hE => ?_
 refine yJ X0 hC xL [1,1] [] [5] (fun z : List (List Int) => ZI z = some r0) (fun z => VT z) [(0, .d (I inputs)), (1, .d (I k_)), (5, .own (eOs 1 true F1_ ([[]])))] [Hh (.cut 2)] ?_ fun J1 hJ1 => ?_
 ·rintro out hf0
  unfold ZI at hf0
  obtain rfl := zb hf0
  exact yE X0 hC hE []
 ·obtain ⟨t2, ht2, hf0⟩ := zg hf0
  refine yLx X0 hC xL [1,1,2,1,0] [J1] (fun s => xI inputs k_ s.1 s.2) (fun x => VP inputs k_ x.1 x.2) (([[]] : List (List Int)), 0) ht2 [(0, .d (I inputs)), (1, .d (I k_)), (5, .own (eOs 1 true F1_ ([[]]))), (6, .d (I 0))] inferInstance [] ?_
  rintro ⟨out1, n_⟩ m2 lr1 hf1 hl1 J2 hJ2
  try unfold xI at hf1
  rcases zQ hf1 with ⟨c0, hf1⟩ | ⟨c0, hf1⟩
  ·refine yJ X0 hC xL [1,1,2,1,0,0,1] [J1, J2] [0,1,5,6] (fun z : List (List Int) => jl n_ z = some lr1) (fun z => VS inputs k_ n_ z) [(0, .d (I inputs)), (1, .d (I k_)), (5, .own (eOs 1 false F4_ out1)), (6, .d (I n_))] [Hq c0, Hh (.cut 0)] ?_ fun J3 hJ3 => ?_
   ·rintro out2 hf1
    unfold jl at hf1
    obtain rfl := zb hf1
    exact yB X0 hC hJ2 (out2, w64 (n_ + 1)) hl1 []
   ·refine yJ X0 hC xL [1,1,2,1,0,0,1,2,0,1] [J1, J2, J3] [0,1,6,7] (fun z : List (List Int) => jk n_ z = some lr1) (fun z => VR inputs k_ n_ z) [(0, .d (I inputs)), (1, .d (I k_)), (5, .own (eOs 1 false F4_ out1)), (6, .d (I n_)), (7, .own (eOs 1 true F3_ []))] [Hh (.cut 1)] ?_ fun J4 hJ4 => ?_
    ·rintro next hf1
     unfold jk at hf1
     exact yB X0 hC hJ3 next hf1 []
    ·obtain ⟨t5, ht5, hf1⟩ := zg hf1
     refine yLx X0 hC xL [1,1,2,1,0,0,1,2,0,1,2,1,0] [J1, J2, J3, J4] (fun s => yZ inputs out1 s.1 s.2) (fun x => VO inputs k_ out1 n_ x.1 x.2) (([] : List (List Int)), 0) ht5 [(0, .d (I inputs)), (1, .d (I k_)), (5, .own (eOs 1 false F4_ out1)), (6, .d (I n_)), (7, .own (eOs 1 true F4_ [])), (8, .d (I 0))] inferInstance [] ?_
     rintro ⟨next1, i_⟩ m5 lr2 hf2 hl2 J5 hJ5
     try unfold yZ at hf2
     let Z0 : List HO := [Ha (lnM F4_ out1)]
     rcases zQ hf2 with ⟨c1, hf2⟩ | ⟨c1, hf2⟩
     ·refine yJ X0 hC xL [1,1,2,1,0,0,1,2,0,1,2,1,0,0,1] [J1, J2, J3, J4, J5] [0,1,5,6,7,8] (fun z : List (List Int) => jj i_ z = some lr2) (fun z => VQ inputs k_ out1 n_ i_ z) [(0, .d (I inputs)), (1, .d (I k_)), (5, .own (eOs 1 false F4_ out1)), (6, .d (I n_)), (7, .own (eOs 1 false F4_ next1)), (8, .d (I i_))] (Z0 ++ [Hq c1, Hh (.cut 0)]) ?_ fun J6 hJ6 => ?_
      ·rintro next2 hf2
       unfold jj at hf2
       obtain rfl := zb hf2
       exact yB X0 hC hJ5 (next2, w64 (i_ + 1)) hl2 []
      ·obtain ⟨t7, ht7, hf2⟩ := zg hf2
       refine yL X0 hC xL [1,1,2,1,0,0,1,2,0,1,2,1,0,0,1,2,0,1,0] [J1, J2, J3, J4, J5, J6] (fun s => yY inputs out1 i_ s.1 s.2) (fun x => VN inputs k_ out1 n_ i_ x.1 x.2) (next1,0) ht7  [] ?_
       rintro ⟨next3, s_⟩ m7 lr3 hf3 hl3 J7 hJ7
       try unfold yY at hf3
       rcases zQ hf3 with ⟨c2, hf3⟩ | ⟨c2, hf3⟩
       ·obtain ⟨out_e, h0, hf3⟩ := zg hf3
        obtain ⟨g0, hf3⟩ := gdE hf3
        obtain ⟨g1, hf3⟩ := gdE hf3
        obtain ⟨g2, hf3⟩ := gdE hf3
        obtain rfl := zb hf3
        exact yB X0 hC hJ7 ((next3 ++ ([(out_e ++ ([s_] : List Int))] : List (List Int))), w64 (s_ + 1)) hl3 [Hq c2, Hn (iL F4_ h0), Hs (iM F4_ h0), Hs (iM F4_ h0), Hq (dM (eI .i64) out_e), Hs (iM F4_ h0), Hn (dM (eI .i64) out_e), Hn (aL (eI .i64) (eI .i64) g0), Hl (aM0 (eI .i64) out_e), Hq (dM (eI .i64) ([s_] : List Int)), Hn (dM (eI .i64) ([s_] : List Int)), Hn (aL (eI .i64) (eI .i64) g1), Hl (aM (eI .i64) out_e ([s_] : List Int)), Hq (oC F4_ (out_e ++ ([s_] : List Int)) []), Hn (aL F4_ F4_ g2), Hl (aM F4_ next3 ([(out_e ++ ([s_] : List Int))] : List (List Int)))]
       ·obtain rfl := zb hf3
        obtain rfl := hl3
        exact yB X0 hC hJ6 next3 hf2 [Hq c2]
     ·obtain rfl := zb hf2
      obtain rfl := hl2
      exact yB X0 hC hJ4 next1 hf1 (Z0 ++ [Hq c1])
  ·obtain rfl := zb hf1
   obtain rfl := hl1
   exact yB X0 hC hJ1 out1 hf0 [Hq c0]
noncomputable def YQ : Code := (Tryz.f44.body).getD .skip
noncomputable def Yj : zR := spF (α := Int × Int) (ρ := List (List Int)) 44 (fun x => [(eI .i64) x.1, (eI .i64) x.2]) (fun r => z2c r) (fun x => kA x.1 x.2) [] (X3)
abbrev UT (out : List (List Int)) : List (Nat × T) := [(5, .own (eOs 1 false F3_ out))]
abbrev US (inputs : Int) (k_ : Int) (out1 : List (List Int)) (n_ : Int) : List (Nat × T) := [(0, .d (I inputs)), (1, .d (I k_)), (5, .own (eOs 1 false F3_ out1)), (6, .d (I n_))]
noncomputable def jA : XH Tryz.prog := ((z4t zz (.inl 16) [15]).or X0)
theorem z0V {ctr : Ctr} (hC : zu Tryz.prog ctr) (h_ref12_Exact : ctr.Has ZD) : Yj.Ok Tryz.prog := by
 refine zx ?_
 rintro ⟨inputs, k_⟩ r0 hf0
 try unfold kA at hf0
 refine yO true [(4, none)] YQ 18 Tryz.func44 fun E hE => ?_
 refine yJ jA hC YQ [1,1] [] [5] (fun z : List (List Int) => Yz z = some r0) (fun z => UT z) [(0, .d (I inputs)), (1, .d (I k_)), (5, .own (eOs 1 true F3_ []))] [Hh (.cut 2)] ?_ fun J1 hJ1 => ?_
 ·rintro out hf0
  unfold Yz at hf0
  obtain rfl := zb hf0
  exact yE jA hC hE []
 ·obtain ⟨t2, ht2, hf0⟩ := zg hf0
  refine yLx jA hC YQ [1,1,2,1,0] [J1] (fun s => wp inputs k_ s.1 s.2) (fun x => US inputs k_ x.1 x.2) (([] : List (List Int)), 0) ht2 [(0, .d (I inputs)), (1, .d (I k_)), (5, .own (eOs 1 true F3_ [])), (6, .d (I 0))] inferInstance [] ?_
  rintro ⟨out1, n_⟩ m2 lr1 hf1 hl1 J2 hJ2
  try unfold wp at hf1
  rcases zQ hf1 with ⟨c0, hf1⟩ | ⟨c0, hf1⟩
  ·obtain ⟨r_, h0, hf1⟩ := zg hf1
   obtain ⟨g0, hf1⟩ := gdE hf1
   obtain rfl := zb hf1
   exact yB jA hC hJ2 ((out1 ++ r_), w64 (n_ + 1)) hl1 [Hq c0, Hc h_ref12_Exact (x := (inputs, n_)) h0 (loC (eI .i64) inputs <| loC (eI .i64) n_ <| loN), Hm (shM F4_ F3_ r_), Hn (dM F3_ r_), Hn (aL F3_ F3_ g0), Hl (aM F3_ out1 r_)]
  ·obtain rfl := zb hf1
   obtain rfl := hl1
   exact yB jA hC hJ1 out1 hf0 [Hq c0]
end Go.Own
