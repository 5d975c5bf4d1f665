/- Walks, further. -/
import Derived.Test.YthnpknbgpmlbhaaGreatPartE
set_option linter.unusedVariables false
set_option linter.unusedSimpArgs false
namespace Go.Own
open Go.Proofs
set_option maxRecDepth 100000
set_option maxHeartbeats 8000000
def X0 : XH Tryz.prog := xB zA
theorem Wb : Tryz.prog.follows .mixedOrders = true := by kernel_rfl
section
variable {ctr : Ctr} {n : Fr} {Q : Exit → St → Prop} {c : Code} {fs : List Fm} {st : St}
theorem yE (X : XH Tryz.prog) (hC : zu Tryz.prog ctr) {E : St → Prop} {r : A} {keep : Bool} {rs : List (Nat × Option Nat)} (hE : ∀ st x R U, z4Z xX keep rs st = some (x, R, U) → LeV x r → E st) (L : List HO) (e : zam X xX ctr n keep rs 4000 c fs st (hoH L) = some (r, hoO L) := by kernel_rfl) : AWP Tryz.prog n c st (Qf Tryz.prog n fs (z4p E)) := yE6 X zA hC Wb hE L e
theorem yEx (X : XH Tryz.prog) (hC : zu Tryz.prog ctr) {E : St → Prop} {r : A} {keep : Bool} {rs : List (Nat × Option Nat)} (hE : ∀ st x R U, z4Z xX keep rs st = some (x, R, U) → LeV x r → E st) (L : List HO) (x : A) (hle : LeV x r) (e : zam X xX ctr n keep rs 4000 c fs st (hoH L) = some (x, hoO L) := by kernel_rfl) : AWP Tryz.prog n c st (Qf Tryz.prog n fs (z4p E)) := zfx X zA hC Wb hE L x hle e
theorem yB (X : XH Tryz.prog) (hC : zu Tryz.prog ctr) {τ : Type} {J : St → Prop} {live : List Nat} {S : τ → List (Nat × T)} {Inv : τ → Prop} (hJ : ∀ st' l' z, Inv z → Own.canon live st' = ofL l' → LeL l' (S z) → J st') (z : τ) (hz : Inv z) (L : List HO) (e : z0N X xX ctr n live 4000 c fs st (hoH L) = some (.back J, ofL (S z), hoO L) := by kernel_rfl) : AWP Tryz.prog n c st (Qf Tryz.prog n fs Q) := yB6 X zA hC Wb hJ z hz L e
theorem yA (X : XH Tryz.prog) (hC : zu Tryz.prog ctr) (bd : Code) (path : List Nat) (Js : List (St → Prop)) (l : List (Nat × T)) (L : List HO) (h : AWP Tryz.prog n (sub path bd) (ofL l) (Qf Tryz.prog n (frs path Js bd []) Q)) (e : z0N X xX ctr n (Wu l) 4000 c fs st (hoH L) = some (.at (sub path bd) (frs path Js bd []), ofL l, hoO L) := by kernel_rfl) : AWP Tryz.prog n c st (Qf Tryz.prog n fs Q) := yA6 X zA hC Wb bd path Js l L e h
theorem yAt (X : XH Tryz.prog) (hC : zu Tryz.prog ctr) (c' : Code) (fs' : List Fm) (l : List (Nat × T)) (L : List HO) (h : ∀ st0, Own.canon (Wu l) st0 = ofL l → AWP Tryz.prog n c' st0 (Qf Tryz.prog n fs' Q)) (e : z0N X xX ctr n (Wu l) 4000 c fs st (hoH L) = some (.at c' fs', ofL l, hoO L) := by kernel_rfl) : AWP Tryz.prog n c st (Qf Tryz.prog n fs Q) := zfy X zA hC Wb c' fs' l L e h
theorem yLx (X : XH Tryz.prog) (hC : zu Tryz.prog ctr) (bd : Code) (path : List Nat) (Js : List (St → Prop)) {σ τ : Type} (f : σ → Option (LR σ τ)) (S : σ → List (Nat × T)) (x0 : σ) {t : τ} (ht : loop f x0 = some t) (l : List (Nat × T)) (hl : LeL l (S x0)) (L : List HO) (round : ∀ x m lr, f x = some lr → zdv f m t lr → ∀ J : St → Prop, (∀ st' l' x', W3 f m x' = some t → Own.canon (Wu l) st' = ofL l' → LeL l' (S x') → J st') → AWP Tryz.prog n (sub (path ++ [0]) bd) (ofL (S x)) (Qf Tryz.prog n (.pre J :: frs path Js bd []) Q)) (e : z0N X xX ctr n (Wu l) 4000 c fs st (hoH L) = some (.at (sub path bd) (frs path Js bd []), ofL l, hoO L) := by kernel_rfl) (e2 : sub path bd = .loop (sub (path ++ [0]) bd) := by kernel_rfl) (hk : ∀ x, Wu (S x) = Wu l := by exact fun _ => rfl) : AWP Tryz.prog n c st (Qf Tryz.prog n fs Q) := yL6 X zA hC Wb bd path Js f S x0 ht l hl L hk e e2 round
theorem yL (X : XH Tryz.prog) (hC : zu Tryz.prog ctr) (bd : Code) (path : List Nat) (Js : List (St → Prop)) {σ τ : Type} (f : σ → Option (LR σ τ)) (S : σ → List (Nat × T)) (x0 : σ) {t : τ} (ht : loop f x0 = some t) (L : List HO) (round : ∀ x m lr, f x = some lr → zdv f m t lr → ∀ J : St → Prop, (∀ st' l' x', W3 f m x' = some t → Own.canon (Wu (S x0)) st' = ofL l' → LeL l' (S x') → J st') → AWP Tryz.prog n (sub (path ++ [0]) bd) (ofL (S x)) (Qf Tryz.prog n (.pre J :: frs path Js bd []) Q)) (e : z0N X xX ctr n (Wu (S x0)) 4000 c fs st (hoH L) = some (.at (sub path bd) (frs path Js bd []), ofL (S x0), hoO L) := by kernel_rfl) (e2 : sub path bd = .loop (sub (path ++ [0]) bd) := by kernel_rfl) (hk : ∀ x, Wu (S x) = Wu (S x0) := by exact fun _ => rfl) : AWP Tryz.prog n c st (Qf Tryz.prog n fs Q) := yL6 X zA hC Wb bd path Js f S x0 ht _ (LeL.refl _) L hk e e2 round
theorem yJ (X : XH Tryz.prog) (hC : zu Tryz.prog ctr) (bd : Code) (path : List Nat) (Js : List (St → Prop)) {σ : Type} (live : List Nat) (Inv : σ → Prop) (S : σ → List (Nat × T)) (l : List (Nat × T)) (L : List HO) (h1 : ∀ z, Inv z → AWP Tryz.prog n (sub (path ++ [1]) bd) (ofL (S z)) (Qf Tryz.prog n (frs path Js bd []) Q)) (h2 : ∀ J : St → Prop, (∀ st' l' z, Inv z → Own.canon live st' = ofL l' → LeL l' (S z) → J st') → AWP Tryz.prog n (sub (path ++ [2]) bd) (ofL l) (Qf Tryz.prog n (.pre J :: frs path Js bd []) Q)) (e : z0N X xX ctr n (Wu l) 4000 c fs st (hoH L) = some (.at (sub path bd) (frs path Js bd []), ofL l, hoO L) := by kernel_rfl) (e2 : sub path bd = .seq (sub (path ++ [2]) bd) (sub (path ++ [1]) bd) := by kernel_rfl) : AWP Tryz.prog n c st (Qf Tryz.prog n fs Q) := yJ6 X zA hC Wb bd path Js live Inv S l L e e2 h1 h2
theorem yF (X : XH Tryz.prog) (hC : zu Tryz.prog ctr) (ex : Exit) (l : List (Nat × T)) (L : List HO) (h : ∀ st0, Own.canon (Wu l) st0 = ofL l → Q ex st0) (e : z0N X xX ctr n (Wu l) 4000 c fs st (hoH L) = some (.fin ex, ofL l, hoO L) := by kernel_rfl) : AWP Tryz.prog n c st (Qf Tryz.prog n fs Q) := yF6 X zA hC Wb ex l L e h
theorem yO {k : Nat} {fn : Func} {r : A} {ls : List A} (keep : Bool) (rs : List (Nat × Option Nat)) (body : Code) (nt : Nat) (hf : Tryz.prog.funcs[k]? = some fn) (h : ∀ E : St → Prop, (∀ st x R U, z4Z xX keep rs st = some (x, R, U) → LeV x r → E st) → AWP Tryz.prog ⟨nt, []⟩ body (ofL (z5D 0 ls)) (Qf Tryz.prog ⟨nt, []⟩ [] (z4p E))) (hb : fn.body = some body := by kernel_rfl) (hn : nt = fn.ntmps := by exact rfl) (hr : fn.results = (rs.map z12).toArray := by exact rfl) (hnm : (fn.name == "runtime.NumGoroutine") = false := by exact rfl) (ha : Nat.ble ls.length nt = true := by kernel_rfl) : Yt Tryz.prog k ls r := yO6 zA keep rs body nt hf hb hn hr hnm ha h
end
theorem z9o : zdu Tryz.prog 60 9 := z99 (e := 5) Tryz.underlying60 Tryz.underlying5 Tryz.underlying9
theorem z5q : zah Tryz.prog 109 9 4 z0i (.atom (.bool false)) := z7w Tryz.underlying109 Tryz.underlying9 ⟨.bool false, fun w => z6J (f := Tryz.t4) (by kernel_rfl) rfl w, fun S => vI.2 ⟨rfl, rfl⟩⟩ rfl
theorem z9U : KI Tryz.prog 48 0 45 0 := Jr Tryz.underlying48 _ rfl rfl rfl
theorem z9T : KI Tryz.prog 48 1 46 1 := Jr Tryz.underlying48 _ rfl rfl rfl
theorem z9S : KI Tryz.prog 68 0 3 0 := Jr Tryz.underlying68 _ rfl rfl rfl
theorem zaZ : zag Tryz.prog 104 1 false := z7a zA (t := 77) Tryz.so104 rfl rfl (by kernel_rfl) (by decide)
noncomputable def Y4 : Code := (Tryz.f26.body).getD .skip
noncomputable def ZO : zU := spF (α := z6) (ρ := Int) 26 (fun x => [yK x]) (fun r => (eI .i64) r) (fun x => kZ x) [] (UQ)
abbrev Uk : List (Nat × T) := []
abbrev Uj (m_ : z6) (s_ : Int) : List (Nat × T) := [(1, .own (.box (yK m_))), (3, .d (I s_))]
theorem KW {ctr : Ctr} (hC : zu Tryz.prog ctr) : ZO.Ok Tryz.prog := by
 refine zy ?_
 rintro m_ r0 hf0
 try unfold kZ at hf0
 refine yO true [(2, none)] Y4 22 Tryz.func26 fun E hE => ?_
 let Z0 : List HO := [Ha (lnM uC m_.Rows)]
 rcases zG hf0 with ⟨c0, hf0⟩ | ⟨c0, hf0⟩
 ·obtain rfl := za hf0
  exact yE X0 hC hE (Z0 ++ [Hq c0])
 ·refine yJ X0 hC Y4 [1,1] [] [] (fun z : Unit => ZV = some r0) (fun z => Uk) [(1, .own (.box (yK m_)))] (Z0 ++ [Hq c0, Hh (.cut 0)]) ?_ fun J1 hJ1 => ?_
  ·rintro ⟨⟩ hf0
   unfold ZV at hf0
   obtain rfl := za hf0
   exact yE X0 hC hE []
  ·obtain ⟨t2, ht2, hf0⟩ := zf hf0
   refine yL X0 hC Y4 [1,1,2,1,0] [J1] (fun s => vT m_ s) (fun x => Uj m_ x) 0 ht2  [] ?_
   rintro s_ m2 lr1 hf1 hl1 J2 hJ2
   try unfold vT at hf1
   let Z1 : List HO := [Ha (lnM uC m_.Rows)]
   rcases zG hf1 with ⟨c1, hf1⟩ | ⟨c1, hf1⟩
   ·obtain ⟨Row_e, h0, hf1⟩ := zf hf1
    let Z2 : List HO := (Z1 ++ [Hq c1, Hi uC h0, Ha (lnM F6_ Row_e)])
    rcases zG hf1 with ⟨c2, hf1⟩ | ⟨c2, hf1⟩
    ·obtain rfl := za hf1
     obtain rfl := hl1
     obtain rfl := za hf0
     exact yE X0 hC hE (Z2 ++ [Hq c2])
    ·obtain rfl := za hf1
     exact yB X0 hC hJ2 (w64 (s_ + 1)) hl1 (Z2 ++ [Hq c2])
   ·obtain rfl := za hf1
    obtain rfl := hl1
    exact yB X0 hC hJ1 () hf0 (Z1 ++ [Hq c1])
noncomputable def Y1 : Code := (Tryz.f57.body).getD .skip
noncomputable def ju : zU := spF (α := List (List Int)) (ρ := Int) 57 (fun x => [F8_ x]) (fun r => (eI .i64) r) (fun x => ja x) [] (UQ)
abbrev VZ (n_ : Int) : List (Nat × T) := [(3, .d (I n_))]
abbrev VY (l_ : List (List Int)) (n_1 : Int) (i_ : Int) : List (Nat × T) := [(0, .d (eSl 1 false F2_ l_)), (3, .d (I n_1)), (4, .d (I i_))]
theorem KR {ctr : Ctr} (hC : zu Tryz.prog ctr) : ju.Ok Tryz.prog := by
 refine zy ?_
 rintro l_ r0 hf0
 try unfold ja at hf0
 refine yO true [(2, none)] Y1 19 Tryz.func57 fun E hE => ?_
 refine yJ X0 hC Y1 [1,1] [] [3] (fun z : Int => ZQ z = some r0) (fun z => VZ z) [(0, .d (eSl 1 false F2_ l_)), (3, .d (I 0))] [Hh (.cut 2)] ?_ fun J1 hJ1 => ?_
 ·rintro n_ hf0
  unfold ZQ at hf0
  obtain rfl := za hf0
  exact yE X0 hC hE []
 ·obtain ⟨t2, ht2, hf0⟩ := zf hf0
  refine yL X0 hC Y1 [1,1,2,1,0] [J1] (fun s => vO l_ s.1 s.2) (fun x => VY l_ x.1 x.2) (0,0) ht2  [] ?_
  rintro ⟨n_1, i_⟩ m2 lr1 hf1 hl1 J2 hJ2
  try unfold vO at hf1
  let Z0 : List HO := [Ha (lnM F2_ l_)]
  rcases zG hf1 with ⟨c0, hf1⟩ | ⟨c0, hf1⟩
  ·obtain ⟨l__e, h0, hf1⟩ := zf hf1
   obtain rfl := za hf1
   exact yB X0 hC hJ2 (w64 (n_1 + ((l__e.length : Nat) : Int)), w64 (i_ + 1)) hl1 (Z0 ++ [Hq c0, Hi F2_ h0, Ha (lnM (eI .i64) l__e)])
  ·obtain rfl := za hf1
   obtain rfl := hl1
   exact yB X0 hC hJ1 n_1 hf0 (Z0 ++ [Hq c0])
noncomputable def z1V : Code := (Tryz.f27.body).getD .skip
noncomputable def Xp : zU := spF (α := List (List Int)) (ρ := Int) 27 (fun x => [F8_ x]) (fun r => (eI .i64) r) (fun x => Xz x) [] (UQ)
theorem z2b {ctr : Ctr} (hC : zu Tryz.prog ctr) (h_ref12_Steps : ctr.Has ju) : Xp.Ok Tryz.prog := by
 refine zy ?_
 rintro l_ r0 hf0
 try unfold Xz at hf0
 refine yO true [(2, none)] z1V 11 Tryz.func27 fun E hE => ?_
 let Z0 : List HO := [Ha (lnM F2_ l_)]
 rcases zG hf0 with ⟨c0, hf0⟩ | ⟨c0, hf0⟩
 ·obtain rfl := za hf0
  exact yE X0 hC hE (Z0 ++ (rpN 4 (Hq c0) [qT]))
 ·obtain ⟨r_, h0, hf0⟩ := zf hf0
  let Z1 : List HO := (Z0 ++ [Hq c0, Hq c0, Hc h_ref12_Steps (x := l_) h0 (loC F8_ l_ <| loN), Hq c0, Hq c0])
  rcases zG hf0 with ⟨c1, hf0⟩ | ⟨c1, hf0⟩
  ·obtain rfl := za hf0
   exact yE X0 hC hE (Z1 ++ [Hq c1])
  ·obtain rfl := za hf0
   exact yE X0 hC hE (Z1 ++ [Hq c1])
noncomputable def v6 : Code := (Tryz.f28.body).getD .skip
noncomputable def ZN : zU := spF (α := z6) (ρ := Int) 28 (fun x => [yK x]) (fun r => (eI .i64) r) (fun x => kV x) [] (UQ)
abbrev Ui : List (Nat × T) := []
abbrev Uh (m_ : z6) (s_ : Int) : List (Nat × T) := [(1, .own (.box (yK m_))), (3, .d (I s_))]
abbrev Ug (m_ : z6) (s_ : Int) (i_ : Int) : List (Nat × T) := [(1, .own (.box (yK m_))), (3, .d (I s_)), (4, .d (I i_))]
abbrev Uf (m_ : z6) (s_ : Int) (i_ : Int) (Row_e_e : zh) : List (Nat × T) := [(1, .own (.box (yK m_))), (3, .d (I s_)), (4, .d (I i_)), (5, .own (.box (F6_ Row_e_e)))]
abbrev Ud (m_ : z6) (s_ : Int) (i_ : Int) : List (Nat × T) := [(1, .own (.box (yK m_))), (3, .d (I s_)), (4, .d (I i_))]
abbrev Ue (m_ : z6) (s_ : Int) : List (Nat × T) := [(1, .own (.box (yK m_))), (3, .d (I s_))]
theorem KU {ctr : Ctr} (hC : zu Tryz.prog ctr) : ZN.Ok Tryz.prog := by
 refine zy ?_
 rintro m_ r0 hf0
 try unfold kV at hf0
 refine yO true [(2, none)] v6 95 Tryz.func28 fun E hE => ?_
 rcases zG hf0 with ⟨c0, hf0⟩ | ⟨c0, hf0⟩
 ·obtain rfl := za hf0
  exact yE X0 hC hE (rpN 4 (Hq c0) (rpN 6 qT []))
 ·let Z0 : List HO := (rpN 4 (Hq c0) [])
  rcases zG hf0 with ⟨c1, hf0⟩ | ⟨c1, hf0⟩
  ·obtain rfl := za hf0
   exact yE X0 hC hE (Z0 ++ (rpN 5 (Hq c1) [qT]))
  ·let Z1 : List HO := (Z0 ++ [Hq c1, Hq c1, Hq c1, Ha (lnM uC m_.Rows), Hq c1, Hq c1])
   rcases zG hf0 with ⟨c2, hf0⟩ | ⟨c2, hf0⟩
   ·obtain rfl := za hf0
    exact yE X0 hC hE (Z1 ++ [Hq c2])
   ·rcases zG hf0 with ⟨c3, hf0⟩ | ⟨c3, hf0⟩
    ·obtain rfl := za hf0
     exact yE X0 hC hE (Z1 ++ (Hq c2 :: (rpN 4 (Hq c3) (rpN 6 qT []))))
    ·let Z2 : List HO := (Z1 ++ (Hq c2 :: (rpN 4 (Hq c3) [])))
     rcases zG hf0 with ⟨c4, hf0⟩ | ⟨c4, hf0⟩
     ·obtain rfl := za hf0
      exact yE X0 hC hE (Z2 ++ (rpN 5 (Hq c4) [qT]))
     ·let Z3 : List HO := (Z2 ++ [Hq c4, Hq c4, Hq c4, Ha (lnM uC m_.Rows), Hq c4, Hq c4])
      rcases zG hf0 with ⟨c5, hf0⟩ | ⟨c5, hf0⟩
      ·obtain rfl := za hf0
       exact yE X0 hC hE (Z3 ++ [Hq c5])
      ·refine yJ X0 hC v6 [1,1,1] [] [] (fun z : Unit => ZT = some r0) (fun z => Ui) [(1, .own (.box (yK m_)))] (Z3 ++ [Hq c5, Hh (.cut 0)]) ?_ fun J1 hJ1 => ?_
       ·rintro ⟨⟩ hf0
        unfold ZT at hf0
        obtain rfl := za hf0
        exact yE X0 hC hE []
       ·obtain ⟨t2, ht2, hf0⟩ := zf hf0
        refine yL X0 hC v6 [1,1,1,2,1,0] [J1] (fun s => vR m_ s) (fun x => Ue m_ x) 0 ht2  [] ?_
        rintro s_ m2 lr1 hf1 hl1 J2 hJ2
        try unfold vR at hf1
        let Z4 : List HO := [Ha (lnM uC m_.Rows)]
        rcases zG hf1 with ⟨c6, hf1⟩ | ⟨c6, hf1⟩
        ·refine yJ X0 hC v6 [1,1,1,2,1,0,0,1] [J1, J2] [1,3] (fun z : Unit => ZS s_ = some lr1) (fun z => Uh m_ s_) [(1, .own (.box (yK m_))), (3, .d (I s_))] (Z4 ++ [Hq c6, Hh (.cut 0)]) ?_ fun J3 hJ3 => ?_
         ·rintro ⟨⟩ hf1
          unfold ZS at hf1
          obtain rfl := za hf1
          exact yB X0 hC hJ2 (w64 (s_ + 1)) hl1 []
         ·obtain ⟨Row_e, h0, hf1⟩ := zf hf1
          let Z5 : List HO := [Hi uC h0, Ha (lnM F6_ Row_e)]
          rcases zG hf1 with ⟨c7, hf1⟩ | ⟨c7, hf1⟩
          ·obtain rfl := za hf1
           obtain rfl := hl1
           obtain rfl := za hf0
           exact yE X0 hC hE (Z5 ++ [Hq c7])
          ·obtain ⟨t4, ht4, hf1⟩ := zf hf1
           refine yL X0 hC v6 [1,1,1,2,1,0,0,1,2,0,1,1,0] [J1, J2, J3] (fun s => wU m_ s_ s) (fun x => Ud m_ s_ x) 0 ht4  (Z5 ++ [Hq c7]) ?_
           rintro i_ m4 lr2 hf2 hl2 J4 hJ4
           try unfold wU at hf2
           rcases zG hf2 with ⟨c8, hf2⟩ | ⟨c8, hf2⟩
           ·refine yJ X0 hC v6 [1,1,1,2,1,0,0,1,2,0,1,1,0,0,1] [J1, J2, J3, J4] [1,3,4] (fun z : Unit => uH i_ = some lr2) (fun z => Ug m_ s_ i_) [(1, .own (.box (yK m_))), (3, .d (I s_)), (4, .d (I i_))] [Hq c8, Hh (.cut 0)] ?_ fun J5 hJ5 => ?_
            ·rintro ⟨⟩ hf2
             unfold uH at hf2
             obtain rfl := za hf2
             exact yB X0 hC hJ4 (w64 (i_ + 1)) hl2 []
            ·obtain ⟨Row_e1, h1, hf2⟩ := zf hf2
             obtain ⟨Row_e_e, h2, hf2⟩ := zf hf2
             refine yJ X0 hC v6 [1,1,1,2,1,0,0,1,2,0,1,1,0,0,1,2,0,1] [J1, J2, J3, J4, J5] [1,3,4,5] (fun z : Unit => uG m_ i_ Row_e_e = some lr2) (fun z => Uf m_ s_ i_ Row_e_e) [(1, .own (.box (yK m_))), (3, .d (I s_)), (4, .d (I i_)), (5, .own (.box (F6_ Row_e_e)))] [Hi uC h1, Hi F6_ h2, Hh (.cut 0)] ?_ fun J6 hJ6 => ?_
             ·rintro ⟨⟩ hf2
              unfold uG at hf2
              rcases zG hf2 with ⟨c9, hf2⟩ | ⟨c9, hf2⟩
              ·obtain rfl := za hf2
               obtain rfl := hl2
               obtain rfl := za hf1
               obtain rfl := hl1
               obtain rfl := za hf0
               exact yE X0 hC hE (rpN 7 (Hq c9) (rpN 11 qT []))
              ·let Z6 : List HO := (rpN 5 (Hq c9) [Ha (lnM uC m_.Rows), Hq c9, Hq c9])
               rcases zG hf2 with ⟨c10, hf2⟩ | ⟨c10, hf2⟩
               ·obtain rfl := za hf2
                obtain rfl := hl2
                obtain rfl := za hf1
                obtain rfl := hl1
                obtain rfl := za hf0
                exact yE X0 hC hE (Z6 ++ (rpN 4 (Hq c10) (rpN 7 qT [])))
               ·let Z7 : List HO := (Z6 ++ (rpN 4 (Hq c10) []))
                rcases zG hf2 with ⟨c11, hf2⟩ | ⟨c11, hf2⟩
                ·obtain rfl := za hf2
                 obtain rfl := hl2
                 obtain rfl := za hf1
                 obtain rfl := hl1
                 obtain rfl := za hf0
                 exact yE X0 hC hE (Z7 ++ (rpN 6 (Hq c11) [qT]))
                ·let Z8 : List HO := (Z7 ++ (rpN 6 (Hq c11) []))
                 rcases zG hf2 with ⟨c12, hf2⟩ | ⟨c12, hf2⟩
                 ·obtain rfl := za hf2
                  obtain rfl := hl2
                  obtain rfl := za hf1
                  obtain rfl := hl1
                  obtain rfl := za hf0
                  exact yE X0 hC hE (Z8 ++ [Hq c12])
                 ·exact yB X0 hC hJ5 () hf2 (Z8 ++ [Hq c12])
             ·rcases zG hf2 with ⟨c13, hf2⟩ | ⟨c13, hf2⟩
              ·let Z9 : List HO := (rpN 4 (Hq c13) [])
               rcases zG hf2 with ⟨c14, hf2⟩ | ⟨c14, hf2⟩
               ·exact yB X0 hC hJ5 () hf2 (Z9 ++ [Hq c14])
               ·exact yB X0 hC hJ6 () hf2 (Z9 ++ [Hq c14])
              ·exact yB X0 hC hJ6 () hf2 (rpN 4 (Hq c13) [qF])
           ·obtain rfl := za hf2
            obtain rfl := hl2
            exact yB X0 hC hJ3 () hf1 [Hq c8]
        ·obtain rfl := za hf1
         obtain rfl := hl1
         exact yB X0 hC hJ1 () hf0 (Z4 ++ [Hq c6])
noncomputable def UT : Code := (Tryz.f115.body).getD .skip
noncomputable def jO : zU := spF (α := Unit) (ρ := zh) 115 (fun x => []) (fun r => F6_ r) (fun x => kz) [] (fun _ _ _ => rfl)
theorem Qx {ctr : Ctr} (hC : zu Tryz.prog ctr) : jO.Ok Tryz.prog := by
 refine zy ?_
 rintro ⟨⟩ r0 hf0
 try unfold kz at hf0
 refine yO false [(0, some 68)] UT 2 Tryz.func115 fun E hE => ?_
 obtain rfl := za hf0
 exact yE X0 hC hE []
noncomputable def UU : Code := (Tryz.f99.body).getD .skip
noncomputable def jP : zU := spF (α := z6 × zh) (ρ := Bool) 99 (fun x => [yK x.1, F6_ x.2]) (fun r => eB r) (fun x => qw x.1 x.2) [] (Xh)
theorem Qy {ctr : Ctr} (hC : zu Tryz.prog ctr) (h_machines_none : ctr.Has jO) : jP.Ok Tryz.prog := by
 refine zy ?_
 rintro ⟨m_, x_⟩ r0 hf0
 try unfold qw at hf0
 refine yO true [(4, none)] UU 33 Tryz.func99 fun E hE => ?_
 obtain ⟨r_, h0, hf0⟩ := zf hf0
 let Z0 : List HO := [Hc h_machines_none (x := ()) h0 (loN)]
 rcases zG hf0 with ⟨c0, hf0⟩ | ⟨c0, hf0⟩
 ·obtain rfl := za hf0
  exact yE X0 hC hE (Z0 ++ (rpN 10 (Hq c0) []))
 ·let Z1 : List HO := (Z0 ++ (rpN 4 (Hq c0) []))
  rcases zG hf0 with ⟨c1, hf0⟩ | ⟨c1, hf0⟩
  ·let Z2 : List HO := (Z1 ++ (rpN 5 (Hq c1) [Ha (lnM uC m_.Rows), Hq c1, Hq c0, Hq c1, Hq c0]))
   rcases zG hf0 with ⟨c2, hf0⟩ | ⟨c2, hf0⟩
   ·let Z3 : List HO := (Z2 ++ [Hq c2, Hq c2, Hq c2, Hq c0, Hq c2, Hq c0])
    rcases zG hf0 with ⟨c3, hf0⟩ | ⟨c3, hf0⟩
    ·obtain rfl := za hf0
     exact yE X0 hC hE (Z3 ++ (rpN 5 (Hq c3) [Hq c0, Hq c3, Hq c0]))
    ·obtain rfl := za hf0
     exact yE X0 hC hE (Z3 ++ (rpN 5 (Hq c3) [Hq c0, Hq c3, Hq c0]))
   ·obtain rfl := za hf0
    exact yE X0 hC hE (Z2 ++ (Hq c2 :: Hq c2 :: Hq c2 :: Hq c0 :: Hq c2 :: Hq c0 :: (rpN 5 qF [Hq c0, qF, Hq c0])))
  ·obtain rfl := za hf0
   exact yE X0 hC hE (Z1 ++ (rpN 6 (Hq c1) (Hq c0 :: Hq c1 :: Hq c0 :: qF :: qF :: qF :: Hq c0 :: qF :: Hq c0 :: (rpN 5 qF [Hq c0, qF, Hq c0]))))
noncomputable def Wz : Code := (Tryz.f98.body).getD .skip
noncomputable def uQ : zU := spF (α := zh × z6) (ρ := Bool) 98 (fun x => [F6_ x.1, z8f x.2]) (fun r => eB r) (fun x => uN x.1 x.2) [] (Xh)
theorem WQ {ctr : Ctr} (hC : zu Tryz.prog ctr) (h_machines_fits : ctr.Has jP) : uQ.Ok Tryz.prog := by
 refine zy ?_
 rintro ⟨x_, x1⟩ r0 hf0
 try unfold uN at hf0
 refine yO true [(3, none)] Wz 8 Tryz.func98 fun E hE => ?_
 obtain ⟨r_, h0, hf0⟩ := zf hf0
 obtain rfl := za hf0
 exact yE X0 hC hE [Hc h_machines_fits (x := (x1, x_)) h0 (loC yK x1 <| loC F6_ x_ <| loN)]
noncomputable def yz : Code := (Tryz.f114.body).getD .skip
noncomputable def yu : zU := spF (α := List zh × z6) (ρ := Int) 114 (fun x => [uC x.1, (XE 98 z8f) x.2]) (fun r => (eI .i64) r) (fun x => yd x.1 x.2) [] (by
 rintro ⟨a0, a1⟩ ⟨b0, b1⟩ h
 have e0 := jn.inj (f := uC) _ _ (List.cons.inj h).1
 replace h := (List.cons.inj h).2
 have e1 := jn.inj (f := (XE 98 z8f)) _ _ (List.cons.inj h).1
 subst e0 e1
 rfl)
abbrev u0 : List (Nat × T) := []
abbrev vZ (s_ : List zh) (f_ : z6) (x8 : Int) : List (Nat × T) := [(0, .d (eSl 2 false F6_ s_)), (1, .d (.fn 98 [.sptr (.agg [I f_.Inputs, I f_.Outputs, eSl 1 false uC f_.Rows])])), (7, .d (I ((s_.length : Nat) : Int))), (8, .d (I x8))]
theorem uD {ctr : Ctr} (hC : zu Tryz.prog ctr) (h_machines_Check_1 : ctr.Has uQ) : yu.Ok Tryz.prog := by
 refine zy ?_
 rintro ⟨s_, f_⟩ r0 hf0
 try unfold yd at hf0
 refine yO true [(4, none)] yz 19 Tryz.func114 fun E hE => ?_
 refine yJ X0 hC yz [1] [] [] (fun z : Unit => yw = some r0) (fun z => u0) [(0, .d (eSl 2 false F6_ s_)), (1, .d (.fn 98 [.sptr (.agg [I f_.Inputs, I f_.Outputs, eSl 1 false uC f_.Rows])]))] [Hh (.cut 1)] ?_ fun J1 hJ1 => ?_
 ·rintro ⟨⟩ hf0
  unfold yw at hf0
  obtain rfl := za hf0
  exact yE X0 hC hE []
 ·obtain ⟨t2, ht2, hf0⟩ := zf hf0
  refine yL X0 hC yz [1,2,1,0] [J1] (fun s => zB s_ f_ s) (fun x => vZ s_ f_ x) 0 ht2  [Ha (lnM F6_ s_)] ?_
  rintro x8 m2 lr1 hf1 hl1 J2 hJ2
  try unfold zB at hf1
  rcases zG hf1 with ⟨c0, hf1⟩ | ⟨c0, hf1⟩
  ·obtain ⟨s__e, h0, hf1⟩ := zf hf1
   obtain ⟨r_, h1, hf1⟩ := zf hf1
   let Z0 : List HO := [Hq c0, Hi F6_ h0, Hc h_machines_Check_1 (x := (s__e, f_)) h1 (loC F6_ s__e <| loC z8f f_ <| loN)]
   rcases zG hf1 with ⟨c1, hf1⟩ | ⟨c1, hf1⟩
   ·obtain rfl := za hf1
    obtain rfl := hl1
    obtain rfl := za hf0
    exact yE X0 hC hE (Z0 ++ [Hq c1])
   ·obtain rfl := za hf1
    exact yB X0 hC hJ2 (w64 (x8 + 1)) hl1 (Z0 ++ [Hq c1])
  ·obtain rfl := za hf1
   obtain rfl := hl1
   exact yB X0 hC hJ1 () hf0 [Hq c0]
noncomputable def vY : Code := (Tryz.f97.body).getD .skip
noncomputable def yi : zU := spF (α := List zh × z6) (ρ := Bool) 97 (fun x => [uC x.1, (XE 98 z8f) x.2]) (fun r => eB r) (fun x => zM x.1 x.2) [] (by
 rintro ⟨a0, a1⟩ ⟨b0, b1⟩ h
 have e0 := jn.inj (f := uC) _ _ (List.cons.inj h).1
 replace h := (List.cons.inj h).2
 have e1 := jn.inj (f := (XE 98 z8f)) _ _ (List.cons.inj h).1
 subst e0 e1
 rfl)
theorem u3 {ctr : Ctr} (hC : zu Tryz.prog ctr) (h_slices_IndexFunc_api_Edge_api_Edge : ctr.Has yu) : yi.Ok Tryz.prog := by
 refine zy ?_
 rintro ⟨s_, f_⟩ r0 hf0
 try unfold zM at hf0
 refine yO true [(4, none)] vY 9 Tryz.func97 fun E hE => ?_
 obtain ⟨r_, h0, hf0⟩ := zf hf0
 obtain rfl := za hf0
 exact yE X0 hC hE [Hc h_slices_IndexFunc_api_Edge_api_Edge (x := (s_, f_)) h0 (loC uC s_ <| loC (XE 98 z8f) f_ <| loN)]
noncomputable def jj : Code := (Tryz.f67.body).getD .skip
noncomputable def vh : zU := spF (α := z6) (ρ := Int) 67 (fun x => [yK x]) (fun r => (eI .i64) r) (fun x => wV x) [] (UQ)
abbrev W6 : List (Nat × T) := []
abbrev W5 (m_ : z6) (x36 : Int) : List (Nat × T) := [(1, .d (.sptr (yK m_))), (34, .d (eSl 1 false uC m_.Rows)), (35, .d (I ((m_.Rows.length : Nat) : Int))), (36, .d (I x36))]
theorem UL {ctr : Ctr} (hC : zu Tryz.prog ctr) (h_slices_ContainsFunc_api_Edge_api_Edge : ctr.Has yi) : vh.Ok Tryz.prog := by
 refine zy ?_
 rintro m_ r0 hf0
 try unfold wV at hf0
 refine yO true [(2, none)] jj 51 Tryz.func67 fun E hE => ?_
 rcases zG hf0 with ⟨c0, hf0⟩ | ⟨c0, hf0⟩
 ·obtain rfl := za hf0
  exact yE X0 hC hE (rpN 4 (Hq c0) (rpN 6 qT []))
 ·let Z0 : List HO := (rpN 4 (Hq c0) [])
  rcases zG hf0 with ⟨c1, hf0⟩ | ⟨c1, hf0⟩
  ·obtain rfl := za hf0
   exact yE X0 hC hE (Z0 ++ (rpN 5 (Hq c1) [qT]))
  ·let Z1 : List HO := (Z0 ++ [Hq c1, Hq c1, Hq c1, Ha (lnM uC m_.Rows), Hq c1, Hq c1])
   rcases zG hf0 with ⟨c2, hf0⟩ | ⟨c2, hf0⟩
   ·obtain rfl := za hf0
    exact yE X0 hC hE (Z1 ++ [Hq c2])
   ·rcases zG hf0 with ⟨c3, hf0⟩ | ⟨c3, hf0⟩
    ·obtain rfl := za hf0
     exact yE X0 hC hE (Z1 ++ (Hq c2 :: (rpN 4 (Hq c3) (rpN 6 qT []))))
    ·let Z2 : List HO := (Z1 ++ (Hq c2 :: (rpN 4 (Hq c3) [])))
     rcases zG hf0 with ⟨c4, hf0⟩ | ⟨c4, hf0⟩
     ·obtain rfl := za hf0
      exact yE X0 hC hE (Z2 ++ (rpN 5 (Hq c4) [qT]))
     ·let Z3 : List HO := (Z2 ++ [Hq c4, Hq c4, Hq c4, Ha (lnM uC m_.Rows), Hq c4, Hq c4])
      rcases zG hf0 with ⟨c5, hf0⟩ | ⟨c5, hf0⟩
      ·obtain rfl := za hf0
       exact yE X0 hC hE (Z3 ++ [Hq c5])
      ·refine yJ X0 hC jj [1,1,1] [] [] (fun z : Unit => jb = some r0) (fun z => W6) [(1, .own (.box (yK m_)))] (Z3 ++ [Hq c5, Hh (.cut 0)]) ?_ fun J1 hJ1 => ?_
       ·rintro ⟨⟩ hf0
        unfold jb at hf0
        obtain rfl := za hf0
        exact yE X0 hC hE []
       ·obtain ⟨t2, ht2, hf0⟩ := zf hf0
        refine yL X0 hC jj [1,1,1,2,1,0] [J1] (fun s => we m_ s) (fun x => W5 m_ x) 0 ht2  [Ha (lnM uC m_.Rows), Hh (.n 1 [1])] ?_
        rintro x36 m2 lr1 hf1 hl1 J2 hJ2
        try unfold we at hf1
        rcases zG hf1 with ⟨c6, hf1⟩ | ⟨c6, hf1⟩
        ·obtain ⟨Row_e, h0, hf1⟩ := zf hf1
         let Z4 : List HO := [Hq c6, Hi uC h0, Ha (lnM F6_ Row_e)]
         rcases zG hf1 with ⟨c7, hf1⟩ | ⟨c7, hf1⟩
         ·obtain rfl := za hf1
          obtain rfl := hl1
          obtain rfl := za hf0
          exact yE X0 hC hE (Z4 ++ (rpN 4 (Hq c7) [qT]))
         ·obtain ⟨r_, h1, hf1⟩ := zf hf1
          let Z5 : List HO := (Z4 ++ [Hq c7, Hq c7, Hq c7, Hc h_slices_ContainsFunc_api_Edge_api_Edge (x := (Row_e, m_)) h1 (loC uC Row_e <| loC (XE 98 z8f) m_ <| loN), Hq c7])
          rcases zG hf1 with ⟨c8, hf1⟩ | ⟨c8, hf1⟩
          ·obtain rfl := za hf1
           obtain rfl := hl1
           obtain rfl := za hf0
           exact yE X0 hC hE (Z5 ++ [Hq c8])
          ·obtain rfl := za hf1
           exact yB X0 hC hJ2 (w64 (x36 + 1)) hl1 (Z5 ++ [Hq c8])
        ·obtain rfl := za hf1
         obtain rfl := hl1
         exact yB X0 hC hJ1 () hf0 [Hq c6]
noncomputable def qD : Code := (Tryz.f68.body).getD .skip
abbrev Zu (cv0 : Value) (cv1 : Value) (cv2 : Value) (Row_e : List zh) (x1 : List Bool) (x2_Inputs : Int) (x2_Outputs : Int) (x2_Rows : List (List zh)) (x24 : Int) : List (Nat × T) := [(1, .own (.box (eOs 1 true eB x1))), (2, .own (.box (.agg [I x2_Inputs, I x2_Outputs, eSl 1 false uC x2_Rows]))), (3, .own (.box (.fn 68 [.atom cv0, .atom cv1, .atom cv2]))), (22, .d (eSl 2 false F6_ Row_e)), (23, .d (I ((Row_e.length : Nat) : Int))), (24, .d (I x24))]
theorem X7 {ctr : Ctr} (hC : zu Tryz.prog ctr) (cv0 : Value) (cv1 : Value) (cv2 : Value) : ∀ (fu : Nat) (s_ : Int) (y0 : List Bool) (y1 : z6) (r0 : List Bool × z6), zY fu s_ y0 y1 = some r0 → uj Tryz.prog (.fn 68 [.atom cv0, .atom cv1, .atom cv2]) [I s_] ([cv0, cv1, cv2].zip [.box (eOs 1 true eB y0), .box (.agg [I y1.Inputs, I y1.Outputs, eSl 1 false uC y1.Rows]), .box (.fn 68 [.atom cv0, .atom cv1, .atom cv2])]) (.tup []) [.box (eOs 1 true eB r0.1), .box (.agg [I r0.2.Inputs, I r0.2.Outputs, eSl 1 false uC r0.2.Rows]), .box (.fn 68 [.atom cv0, .atom cv1, .atom cv2])] := by
 intro fu
 induction fu with
 | zero => intro s_ y0 y1 r0 hf0; exact nomatch (show none = some r0 from hf0)
 | succ fu ih =>
  intro s_ y0 y1 r0 hf0
  replace hf0 : xv (zY fu) s_ y0 y1 = some r0 := hf0
  generalize zY fu = rc_ at ih hf0
  refine Qj (tt := xX) (nt := 33) (body := qD) [1,2,3] zA Tryz.func68 rfl (by kernel_rfl) rfl rfl (by show (4 : Nat) ≤ 33; decide) (by decide) rfl rfl (fun E hE => ?_) rfl
  unfold xv at hf0
  rcases zG hf0 with ⟨c0, hf0⟩ | ⟨c0, hf0⟩
  ·obtain rfl := za hf0
   exact yF X0 hC .ret [(1, .own (.box (eOs 1 true eB y0))), (2, .own (.box (.agg [I y1.Inputs, I y1.Outputs, eSl 1 false uC y1.Rows]))), (3, .own (.box (.fn 68 [.atom cv0, .atom cv1, .atom cv2])))] (rpN 5 (Hq c0) [qT]) fun st0 h0 => hE _ st0 (.inr rfl) (jV h0 ⟨⟨rfl, rfl⟩, ⟨⟨rfl, rfl⟩, ⟨⟨rfl, rfl⟩, trivial⟩⟩⟩)
  ·obtain ⟨y_e, h0, hf0⟩ := zf hf0
   let Z0 : List HO := [Hq c0, Hq c0, Hq c0, Hn (iL eB h0), Hq c0, Hs (iM eB h0), Hq c0]
   rcases zG hf0 with ⟨c1, hf0⟩ | ⟨c1, hf0⟩
   ·obtain rfl := za hf0
    exact yF X0 hC .ret [(1, .own (.box (eOs 1 true eB y0))), (2, .own (.box (.agg [I y1.Inputs, I y1.Outputs, eSl 1 false uC y1.Rows]))), (3, .own (.box (.fn 68 [.atom cv0, .atom cv1, .atom cv2])))] (Z0 ++ [Hq c1]) fun st0 h0 => hE _ st0 (.inr rfl) (jV h0 ⟨⟨rfl, rfl⟩, ⟨⟨rfl, rfl⟩, ⟨⟨rfl, rfl⟩, trivial⟩⟩⟩)
   ·obtain ⟨y_e1, h1, hf0⟩ := zf hf0
    obtain ⟨Row_e, h2, hf0⟩ := zf hf0
    obtain ⟨t1, ht1, hf0⟩ := zf hf0
    refine yL X0 hC qD [1,1,1,0] [] (fun s => yo rc_ Row_e s.1 s.2.1 s.2.2.1 s.2.2.2.1 s.2.2.2.2) (fun x => Zu cv0 cv1 cv2 Row_e x.1 x.2.1 x.2.2.1 x.2.2.2.1 x.2.2.2.2) ((y0.set s_.toNat true), y1.Inputs, y1.Outputs, y1.Rows, 0) ht1  (Z0 ++ [Hq c1, Hn (iL eB h1), Hs (iM eB h1), Hs (iM eB h1), Hl (sM eB y0 s_ true), Hi uC h2, Ha (lnM F6_ Row_e)]) ?_
    rintro ⟨x1, x2_Inputs, x2_Outputs, x2_Rows, x24⟩ m1 lr1 hf1 hl1 J1 hJ1
    try unfold yo at hf1
    rcases zG hf1 with ⟨c2, hf1⟩ | ⟨c2, hf1⟩
    ·obtain ⟨Row_e_e, h3, hf1⟩ := zf hf1
     obtain ⟨r_, h4, hf1⟩ := zf hf1
     obtain rfl := za hf1
     exact yB ((vq (P := Tryz.prog) xX [1,2,3] (ih _ _ _ _ h4) 31).or X0) hC hJ1 (r_.1, r_.2.Inputs, r_.2.Outputs, r_.2.Rows, w64 (x24 + 1)) hl1 [Hq c2, Hi F6_ h3, Hn (ZH (f := .fn 68 [.atom cv0, .atom cv1, .atom cv2]) (xs := [(eI .i64) Row_e_e.To]) (ls := [(cv0, .box (eOs 1 true eB x1)), (cv1, .box (.agg [I x2_Inputs, I x2_Outputs, eSl 1 false uC x2_Rows])), (cv2, .box (.fn 68 [.atom cv0, .atom cv1, .atom cv2]))]) (r := .tup []) (ys := [.box (eOs 1 true eB r_.1), .box (.agg [I r_.2.Inputs, I r_.2.Outputs, eSl 1 false uC r_.2.Rows]), .box (.fn 68 [.atom cv0, .atom cv1, .atom cv2])]) [(eI .i64) Row_e_e.To] (show z0L [(eI .i64) Row_e_e.To] [(eI .i64) Row_e_e.To] from inferInstance))]
    ·obtain rfl := za hf1
     obtain rfl := hl1
     obtain rfl := za hf0
     exact yF X0 hC .normal [(1, .own (.box (eOs 1 true eB x1))), (2, .own (.box (.agg [I x2_Inputs, I x2_Outputs, eSl 1 false uC x2_Rows]))), (3, .own (.box (.fn 68 [.atom cv0, .atom cv1, .atom cv2])))] [Hq c2] fun st0 h0 => hE _ st0 (.inl rfl) (jV h0 ⟨⟨rfl, rfl⟩, ⟨⟨rfl, rfl⟩, ⟨⟨rfl, rfl⟩, trivial⟩⟩⟩)
noncomputable def wY : Code := (Tryz.f100.body).getD .skip
noncomputable def wR : zU := spF (α := List Bool × Bool) (ρ := Int) 100 (fun x => [(eSl 1 false eB) x.1, eB x.2]) (fun r => (eI .i64) r) (fun x => wv x.1 x.2) [] (Xh)
abbrev kD : List (Nat × T) := []
abbrev kC (s_ : List Bool) (v_ : Bool) (x8 : Int) : List (Nat × T) := [(0, .d (eSl 1 false eB s_)), (1, .d (B v_)), (7, .d (I ((s_.length : Nat) : Int))), (8, .d (I x8))]
theorem Ya {ctr : Ctr} (hC : zu Tryz.prog ctr) : wR.Ok Tryz.prog := by
 refine zy ?_
 rintro ⟨s_, v_⟩ r0 hf0
 try unfold wv at hf0
 refine yO true [(4, none)] wY 19 Tryz.func100 fun E hE => ?_
 refine yJ X0 hC wY [1] [] [] (fun z : Unit => wT = some r0) (fun z => kD) [(0, .d (eSl 1 false eB s_)), (1, .d (B v_))] [Hh (.cut 1)] ?_ fun J1 hJ1 => ?_
 ·rintro ⟨⟩ hf0
  unfold wT at hf0
  obtain rfl := za hf0
  exact yE X0 hC hE []
 ·obtain ⟨t2, ht2, hf0⟩ := zf hf0
  refine yL X0 hC wY [1,2,1,0] [J1] (fun s => yf s_ v_ s) (fun x => kC s_ v_ x) 0 ht2  [Ha (lnM eB s_)] ?_
  rintro x8 m2 lr1 hf1 hl1 J2 hJ2
  try unfold yf at hf1
  rcases zG hf1 with ⟨c0, hf1⟩ | ⟨c0, hf1⟩
  ·obtain ⟨s__e, h0, hf1⟩ := zf hf1
   rcases zG hf1 with ⟨c1, hf1⟩ | ⟨c1, hf1⟩
   ·obtain rfl := za hf1
    obtain rfl := hl1
    obtain rfl := za hf0
    exact yE X0 hC hE [Hq c0, Hi eB h0, Hq c1]
   ·obtain rfl := za hf1
    exact yB X0 hC hJ2 (w64 (x8 + 1)) hl1 [Hq c0, Hi eB h0, Hq c1]
  ·obtain rfl := za hf1
   obtain rfl := hl1
   exact yB X0 hC hJ1 () hf0 [Hq c0]
noncomputable def kB : Code := (Tryz.f69.body).getD .skip
noncomputable def w4 : zU := spF (α := List Bool × Bool) (ρ := Bool) 69 (fun x => [(eSl 1 false eB) x.1, eB x.2]) (fun r => eB r) (fun x => yP x.1 x.2) [] (Xh)
theorem kN {ctr : Ctr} (hC : zu Tryz.prog ctr) (h_slices_Index_bool_bool : ctr.Has wR) : w4.Ok Tryz.prog := by
 refine zy ?_
 rintro ⟨s_, v_⟩ r0 hf0
 try unfold yP at hf0
 refine yO true [(4, none)] kB 9 Tryz.func69 fun E hE => ?_
 obtain ⟨r_, h0, hf0⟩ := zf hf0
 obtain rfl := za hf0
 exact yE X0 hC hE [Hc h_slices_Index_bool_bool (x := (s_, v_)) h0 (loC (eSl 1 false eB) s_ <| loC eB v_ <| loN)]
noncomputable def jD : Code := (Tryz.f33.body).getD .skip
noncomputable def ub : zU := spF (α := z6) (ρ := Bool × Int) 33 (fun x => [yK x]) (fun r => .tup [eB r.1, (eI .i64) r.2]) (fun x => xN x) [] (UQ)
theorem XZ {ctr : Ctr} (hC : zu Tryz.prog ctr) (h_machines_Check : ctr.Has vh) (h_slices_Contains_bool_bool : ctr.Has w4) : ub.Ok Tryz.prog := by
 refine zy ?_
 rintro m_ r0 hf0
 try unfold xN at hf0
 refine yO false [(2, none), (3, none)] jD 22 Tryz.func33 fun E hE => ?_
 obtain ⟨r_, h0, hf0⟩ := zf hf0
 let Z0 : List HO := [Hc h_machines_Check (x := m_) h0 (loC yK m_ <| loN)]
 rcases zG hf0 with ⟨c0, hf0⟩ | ⟨c0, hf0⟩
 ·obtain rfl := za hf0
  exact yE X0 hC hE (Z0 ++ [Hq c0])
 ·obtain ⟨g0, hf0⟩ := gdE hf0
  refine yA X0 hC jD [1,1,1,1] [] [(1, .own (.box (yK m_))), (5, .own (.box (eOs 1 true eB (List.replicate ((m_.Rows.length : Nat) : Int).toNat false)))), (6, .own (.box (.atom .nilFunc)))] (Z0 ++ [Hq c0, Ha (lnM uC m_.Rows), Hn (rL g0), Ha (rM 1 eB ((m_.Rows.length : Nat) : Int) false), Hh (.cut 1)]) ?_
  refine z6k (by kernel_rfl) 5 fun pv5 => ?_
  refine z6k (by kernel_rfl) 1 fun pv1 => ?_
  refine z6k (by kernel_rfl) 6 fun pv6 => ?_
  obtain ⟨r_1, h1, hf0⟩ := zf hf0
  obtain ⟨r_2, h2, hf0⟩ := zf hf0
  obtain rfl := za hf0
  exact yE ((vq (P := Tryz.prog) xX [5,1,6] (X7 hC pv5 pv1 pv6 YO _ _ _ _ h1) 18).or ((xMk Tryz.prog xX).or X0)) hC hE [Hn (ZH (f := .fn 68 [.atom pv5, .atom pv1, .atom pv6]) (xs := [(eI .i64) 0]) (ls := [(pv5, .box (eOs 1 true eB (List.replicate ((m_.Rows.length : Nat) : Int).toNat false))), (pv1, .box (.agg [I m_.Inputs, I m_.Outputs, eSl 1 false uC m_.Rows])), (pv6, .box (.fn 68 [.atom pv5, .atom pv1, .atom pv6]))]) (r := .tup []) (ys := [.box (eOs 1 true eB r_1.1), .box (.agg [I r_1.2.Inputs, I r_1.2.Outputs, eSl 1 false uC r_1.2.Rows]), .box (.fn 68 [.atom pv5, .atom pv1, .atom pv6])]) [(eI .i64) 0] (show z0L [(eI .i64) 0] [(eI .i64) 0] from inferInstance)), Hg (z2B h_slices_Contains_bool_bool), Hm (shM eB eB r_1.1), Hs (z2C h_slices_Contains_bool_bool (x := (r_1.1, false)) h2 (loC (eSl 1 true eB) r_1.1 <| loC eB false <| loN))]
noncomputable def VP : Code := (Tryz.f101.body).getD .skip
noncomputable def j6 : zU := spF (α := z6 × Int) (ρ := z6 × Int) 101 (fun x => [yK x.1, (eI .i64) x.2]) (fun r => (zg4 116 z8f (eSp (eI .i64))) r) (fun x => jp x.1 x.2) [] (Xh)
theorem UJ {ctr : Ctr} (hC : zu Tryz.prog ctr) : j6.Ok Tryz.prog := by
 refine zy ?_
 rintro ⟨m_, from_⟩ r0 hf0
 try unfold jp at hf0
 refine yO true [(4, none)] VP 6 Tryz.func101 fun E hE => ?_
 obtain rfl := za hf0
 exact yEx X0 hC hE [] (.fn 116 [.sptr (.agg [I m_.Inputs, I m_.Outputs, eSl 1 false uC m_.Rows]), .sptr (I from_)]) (show LeV (.fn 116 [.sptr (.agg [I m_.Inputs, I m_.Outputs, eSl 1 false uC m_.Rows]), .sptr (I from_)]) (.fn 116 [.sptr (.agg [I (((m_, from_).1).Inputs), I (((m_, from_).1).Outputs), eSl 1 false uC (((m_, from_).1).Rows)]), .sptr (I ((m_, from_).2))]) from inferInstance)
noncomputable def yU : Code := (Tryz.f116.body).getD .skip
abbrev Xg {σ : Type} (x0 : z6) (YY : σ → K7) (queue_e : ze) (yr : σ × Bool) (Row_e : List zh) (x38 : Int) (seen2 : List Bool) (queue2 : List ze) : List (Nat × T) := [(0, .own (.opq (YY yr.1).q)), (1, .d (.sptr (yK x0))), (4, .own (eOs 1 true eB seen2)), (5, .own (eDq 3 qh queue2)), (6, .own (.box (qh queue_e))), (36, .d (eSl 2 false F6_ Row_e)), (37, .d (I ((Row_e.length : Nat) : Int))), (38, .d (I x38))]
abbrev Xe {σ : Type} (x0 : z6) (YY : σ → K7) (queue_e : ze) (yr : σ × Bool) (Row_e : List zh) (seen1 : List Bool) (queue1 : List ze) (x38 : Int) : List (Nat × T) := [(0, .own (.opq (YY yr.1).q)), (1, .d (.sptr (yK x0))), (4, .own (eOs 1 true eB seen1)), (5, .own (eDq 3 qh queue1)), (6, .own (.box (qh queue_e))), (36, .d (eSl 2 false F6_ Row_e)), (37, .d (I ((Row_e.length : Nat) : Int))), (38, .d (I x38))]
abbrev Xf {σ : Type} (x0 : z6) (YY : σ → K7) (sg1 : σ) (seen : List Bool) (queue : List ze) : List (Nat × T) := [(0, .own (.opq (YY sg1).q)), (1, .d (.sptr (yK x0))), (4, .own (eOs 1 true eB seen)), (5, .own (eDq 3 qh queue))]
theorem WP {ctr : Ctr} (hC : zu Tryz.prog ctr) (x0 : z6) (x1 : Int) : z8e Tryz.prog (.fn 116 [.sptr (.agg [I x0.Inputs, I x0.Outputs, eSl 1 false uC x0.Rows]), .sptr (I x1)]) (fun (x : ze) (_ : Bool) (_ : Value) => [qh x]) (@vE x0 x1) := by
 refine z9M (tt := xX) (nt := 68) (body := yU) zA Tryz.func116 rfl (by kernel_rfl) rfl rfl (by show (3 : Nat) ≤ 68; decide) ?_
 intro σ yv YY yy hy sg r0 hf0 E hE
 unfold vE at hf0
 obtain ⟨g0, hf0⟩ := gdE hf0
 obtain ⟨u_e, h0, hf0⟩ := zf hf0
 obtain ⟨t1, ht1, hf0⟩ := zf hf0
 refine yLx X0 hC yU [1,1,1,0] [] (fun s => wj x0 yy s.1 s.2.1 s.2.2) (fun x => Xf x0 YY x.1 x.2.1 x.2.2) (sg, ((List.replicate ((x0.Rows.length : Nat) : Int).toNat false).set x1.toNat true), ([(ze.mk x1 (-1) (-1))] : List ze)) ht1 [(0, .own (.opq (YY sg).q)), (1, .d (.sptr (yK x0))), (4, .own (eOs 1 true eB ((List.replicate ((x0.Rows.length : Nat) : Int).toNat false).set x1.toNat true))), (5, .own (eOs 3 true qh ([(ze.mk x1 (-1) (-1))])))] inferInstance [Ha (lnM uC x0.Rows), Hn (rL g0), Ha (rM 1 eB ((x0.Rows.length : Nat) : Int) false), Hn (iL eB h0), Hs (iM eB h0), Hs (iM eB h0), Hl (sM eB (List.replicate ((x0.Rows.length : Nat) : Int).toNat false) x1 true)] ?_
 rintro ⟨sg1, seen, queue⟩ m1 lr1 hf1 hl1 J1 hJ1
 try unfold wj at hf1
 let Z0 : List HO := [Hn (rfl : eDq 3 qh queue = A.opq (QV 3 (queue.map qh)).q), Ha (lnM qh queue)]
 rcases zG hf1 with ⟨c0, hf1⟩ | ⟨c0, hf1⟩
 ·refine yA ((xQl zA 20 149 3 (queue.map qh) (by kernel_rfl)).or X0) hC yU [1,1,1,0,0,1,0] [J1] [(0, .own (.opq (YY sg1).q)), (1, .d (.sptr (yK x0))), (4, .own (eOs 1 true eB seen)), (5, .own (eDq 3 qh queue))] (Z0 ++ [Hq c0, Hh (.cut 0)]) ?_
  obtain ⟨queue_e, h1, hf1⟩ := zf hf1
  refine z1X (by kernel_rfl) (x := (sub [1,1,1,0,0,1,0,0] yU)) (y := (sub [1,1,1,0,0,1,0,1] yU)) 5 (fun st1 => Own.canon [0,1,4,5,6] st1 = ofL [(0, .own (.opq (YY sg1).q)), (1, .d (.sptr (yK x0))), (4, .own (eOs 1 true eB seen)), (5, .own (eDq 3 qh queue)), (6, .own (.box (qh queue_e)))]) (fun pv5 => yF ((xQd zA 24 3 5 pv5 (0 : Int) (queue.map qh) (qh queue_e)).or ((xQi zA 23 3 5 pv5 (queue.map qh)).or X0)) hC .normal [(0, .own (.opq (YY sg1).q)), (1, .d (.sptr (yK x0))), (4, .own (eOs 1 true eB seen)), (5, .own (eDq 3 qh queue)), (6, .own (.box (qh queue_e)))] [Hn (⟨rfl, rfl, rfl, rfl, i0 h1, (iL qh h1).2⟩ : T.als 5 [] 0 0 = T.als 5 [] 0 0 ∧ some pv5 = some pv5 ∧ T.own (eDq 3 qh queue) = T.own (eDq 3 qh queue) ∧ some 3 = some 3 ∧ (0 : Int) ≤ 0 ∧ (0 : Int).toNat < (queue.map qh).length), Hn (⟨rfl, rfl, rfl, iM qh h1, rfl, z4n.isD queue_e⟩ : T.d (.atom (z4c 3 pv5 (0 : Int))) = T.d (.atom (z4c 3 pv5 (0 : Int))) ∧ some pv5 = some pv5 ∧ T.own (eDq 3 qh queue) = T.own (eDq 3 qh queue) ∧ (queue.map qh)[(0 : Int).toNat]? = some (qh queue_e) ∧ true = true ∧ (qh queue_e).isD = true)] fun st0 h0 => ⟨rfl, h0⟩) fun st1 h1 => z85 h1 ?_
  obtain ⟨g1, hf1⟩ := gdE hf1
  obtain ⟨yr, h2, hf1⟩ := zf hf1
  let Z1 : List HO := [Hn (rfl : eDq 3 qh queue = A.opq (QV 3 (queue.map qh)).q), Hn (⟨g1.1, cuB qh g1⟩ : (0 : Int) ≤ 1 ∧ (1 : Int).toNat ≤ (queue.map qh).length), Hn (drM qh queue (1 : Int).toNat), Hn (z93 (yv := yv) (Y := YY) (enc := (fun (x : ze) (_ : Bool) (_ : Value) => [qh x])) (s := sg1) (x := queue_e) (s' := yr.1) (b := yr.2) (v := .nilFunc) [qh queue_e] (show z0L [qh queue_e] [qh queue_e] from inferInstance))]
  rcases zG hf1 with ⟨c1, hf1⟩ | ⟨c1, hf1⟩
  ·obtain rfl := za hf1
   obtain rfl := hl1
   obtain rfl := za hf0
   exact yF ((z8g (P := Tryz.prog) xX hy 29 (s := sg1) (x := queue_e) (s' := yr.1) (b := yr.2) .nilFunc h2).or ((xQs zA 26 3 (queue.map qh) ((queue.drop (1 : Int).toNat).map qh)).or X0)) hC .ret [(0, .own (.opq (YY yr.1).q))] (Z1 ++ [Hq c1]) fun st0 h0 => hE _ st0 (.inr rfl) h0
  ·obtain ⟨Row_e, h3, hf1⟩ := zf hf1
   obtain ⟨t2, ht2, hf1⟩ := zf hf1
   refine yL ((z8g (P := Tryz.prog) xX hy 29 (s := sg1) (x := queue_e) (s' := yr.1) (b := yr.2) .nilFunc h2).or ((xQs zA 26 3 (queue.map qh) ((queue.drop (1 : Int).toNat).map qh)).or X0)) hC yU [1,1,1,0,0,1,0,1,1,1,1,0] [J1] (fun s => xw queue_e yr Row_e s.1 s.2.1 s.2.2) (fun x => Xe x0 YY queue_e yr Row_e x.1 x.2.1 x.2.2) (seen, (queue.drop (1 : Int).toNat), 0) ht2  (Z1 ++ [Hq c1, Hi uC h3, Ha (lnM F6_ Row_e)]) ?_
   rintro ⟨seen1, queue1, x38⟩ m2 lr2 hf2 hl2 J2 hJ2
   try unfold xw at hf2
   rcases zG hf2 with ⟨c2, hf2⟩ | ⟨c2, hf2⟩
   ·refine yJ X0 hC yU [1,1,1,0,0,1,0,1,1,1,1,0,0,1,1] [J1, J2] [0,1,4,5,6,36,37,38] (fun z : List Bool × List ze => yk x38 z.1 z.2 = some lr2) (fun z => Xg x0 YY queue_e yr Row_e x38 z.1 z.2) [(0, .own (.opq (YY yr.1).q)), (1, .d (.sptr (yK x0))), (4, .own (eOs 1 true eB seen1)), (5, .own (eDq 3 qh queue1)), (6, .own (.box (qh queue_e))), (36, .d (eSl 2 false F6_ Row_e)), (37, .d (I ((Row_e.length : Nat) : Int))), (38, .d (I x38))] [Hq c2, Hh (.cut 0)] ?_ fun J3 hJ3 => ?_
    ·rintro ⟨seen2, queue2⟩ hf2
     unfold yk at hf2
     obtain rfl := za hf2
     exact yB X0 hC hJ2 (seen2, queue2, w64 (x38 + 1)) hl2 []
    ·obtain ⟨Row_e_e, h4, hf2⟩ := zf hf2
     let Z2 : List HO := [Hi F6_ h4]
     rcases zG hf2 with ⟨c3, hf2⟩ | ⟨c3, hf2⟩
     ·obtain ⟨seen_e, h5, hf2⟩ := zf hf2
      let Z3 : List HO := (Z2 ++ (rpN 4 (Hq c3) [Hn (iL eB h5), Hq c3, Hs (iM eB h5), Hq c3, Hq c3]))
      rcases zG hf2 with ⟨c4, hf2⟩ | ⟨c4, hf2⟩
      ·obtain ⟨seen_e1, h6, hf2⟩ := zf hf2
       obtain ⟨g2, hf2⟩ := gdE hf2
       exact yB ((xQa zA 66 3 (queue1.map qh) ((queue1 ++ ([(ze.mk Row_e_e.To queue_e.state_ x38)] : List ze)).map qh)).or X0) hC hJ3 ((seen1.set Row_e_e.To.toNat true), (queue1 ++ ([(ze.mk Row_e_e.To queue_e.state_ x38)] : List ze))) hf2 (Z3 ++ [Hq c4, Hn (iL eB h6), Hs (iM eB h6), Hs (iM eB h6), Hl (sM eB seen1 Row_e_e.To true), Hn (⟨rfl, dM qh ([(ze.mk Row_e_e.To queue_e.state_ x38)] : List ze), rfl⟩ : 3 = 3 ∧ A.areD (([(ze.mk Row_e_e.To queue_e.state_ x38)] : List ze).map qh) = true ∧ true = true), Hn (⟨rfl, aL qh qh g2, dM qh queue1⟩ : eDq 3 qh queue1 = A.opq (QV 3 (queue1.map qh)).q ∧ (queue1.map qh).length + (([(ze.mk Row_e_e.To queue_e.state_ x38)] : List ze).map qh).length ≤ lim ∧ A.areD (queue1.map qh) = true), Hn (aM qh queue1 ([(ze.mk Row_e_e.To queue_e.state_ x38)] : List ze))])
      ·exact yB X0 hC hJ3 (seen1, queue1) hf2 (Z3 ++ [Hq c4])
     ·exact yB X0 hC hJ3 (seen1, queue1) hf2 (Z2 ++ (rpN 7 (Hq c3) [qF]))
   ·obtain rfl := za hf2
    obtain rfl := hl2
    obtain rfl := za hf1
    exact yB X0 hC hJ1 (yr.1, seen1, queue1) hl1 [Hq c2]
 ·obtain rfl := za hf1
  obtain rfl := hl1
  obtain rfl := za hf0
  exact yF ((xQl zA 20 149 3 (queue.map qh) (by kernel_rfl)).or X0) hC .normal [(0, .own (.opq (YY sg1).q))] (Z0 ++ [Hq c0]) fun st0 h0 => hE _ st0 (.inl rfl) h0
noncomputable def YW : Code := (Tryz.f92.body).getD .skip
noncomputable def w5 : zU := spF (α := List Int) (ρ := List Int) 92 (fun x => [F2_ x]) (fun r => (eOs 1 false (eI .i64)) r) (fun x => yx x) [] (UQ)
theorem X6 {ctr : Ctr} (hC : zu Tryz.prog ctr) : w5.Ok Tryz.prog := by
 refine zy ?_
 rintro s_ r0 hf0
 try unfold yx at hf0
 refine yO true [(2, none)] YW 8 Tryz.func92 fun E hE => ?_
 refine z6j rfl 0 (sz := 1) (t := false) (es := s_.map (eI .i64)) (by kernel_rfl) fun pv0 hv0 hn => ?_
 rcases hn with ⟨hn0, he0⟩ | hn0
 ·obtain ⟨_, hf0⟩ := gdE hf0
  rw [show s_ = [] from List.map_eq_nil_iff.1 he0] at hf0
  obtain rfl := za hf0
  exact yEx ((zdg zA 4 77 (by kernel_rfl) hn0).or ((xMv Tryz.prog 3 0 pv0 hv0).or X0)) hC hE [Hn (rfl : some pv0 = some pv0), Hn (⟨rfl, rfl⟩ : T.d (.atom pv0) = T.d (.atom pv0) ∧ T.d (.atom (.slice none 0 0)) = T.d (.atom (.slice none 0 0))), qT] (eOs 1 true (eI .i64) []) (show LeV (eOs 1 true (eI .i64) []) (eOs 1 false (eI .i64) ([] : List Int)) from inferInstance)
 ·obtain ⟨g0, hf0⟩ := gdE hf0
  obtain rfl := za hf0
  exact yE ((zdg zA 4 77 (by kernel_rfl) hn0).or ((xMv Tryz.prog 3 0 pv0 hv0).or X0)) hC hE [Hn (rfl : some pv0 = some pv0), Hn (⟨rfl, rfl⟩ : T.d (.atom pv0) = T.d (.atom pv0) ∧ T.d (.atom (.slice none 0 0)) = T.d (.atom (.slice none 0 0))), qF, Hn (dM (eI .i64) s_), Hn (aL (eI .i64) (eI .i64) g0), Hl (aM0 (eI .i64) s_)]
noncomputable def Xb : Code := (Tryz.f75.body).getD .skip
noncomputable def yM : zU := spF (α := List Int) (ρ := List Int) 75 (fun x => [F2_ x]) (fun r => F0_ r) (fun x => ym x) [] (UQ)
theorem Xi {ctr : Ctr} (hC : zu Tryz.prog ctr) : yM.Ok Tryz.prog := by
 refine zy ?_
 rintro s_ r0 hf0
 try unfold ym at hf0
 refine yO true [(2, none)] Xb 9 Tryz.func75 fun E hE => ?_
 obtain ⟨g0, hf0⟩ := gdE hf0
 obtain rfl := za hf0
 exact yE X0 hC hE [Ha (lnM (eI .i64) s_), Ha (lnM (eI .i64) s_), Hn (slB g0), Hn (slC g0), Hn (zdK (eI .i64) g0), Ha (zfE 1 (eI .i64) s_ 0 ((s_.length : Nat) : Int).toNat)]
noncomputable def vV : Code := (Tryz.f70.body).getD .skip
noncomputable def ZJ : zU := spF (α := z6 × Int) (ρ := List (List Int) × List Bool) 70 (fun x => [yK x.1, (eI .i64) x.2]) (fun r => .tup [F7_ r.1, (eSl 1 true eB) r.2]) (fun x => kM x.1 x.2) [] (Xh)
abbrev VR (l_ : List (List Int)) (is : List Bool) : List (Nat × T) := [(6, .own (.box (eOs 1 true F0_ l_))), (7, .own (.box (eOs 1 true eB is)))]
abbrev jm (r_ : z6 × Int) (l_1 : List (List Int)) (is1 : List Bool) : List (Nat × T) := [(6, .own (.box (eOs 1 true F0_ l_1))), (7, .own (.box (eOs 1 true eB is1))), (19, .d (.fn 116 [.sptr (.agg [I r_.1.Inputs, I r_.1.Outputs, eSl 1 false uC r_.1.Rows]), .sptr (I r_.2)]))]
theorem KM {ctr : Ctr} (hC : zu Tryz.prog ctr) (h_walks_arrivals : ctr.Has j6) (h_slices_Clone_int_int : ctr.Has w5) (h_slices_Clip_int_int : ctr.Has yM) : ZJ.Ok Tryz.prog := by
 refine zy ?_
 rintro ⟨m_, from_⟩ r0 hf0
 try unfold kM at hf0
 refine yO false [(4, none), (5, none)] vV 45 Tryz.func70 fun E hE => ?_
 obtain ⟨g0, hf0⟩ := gdE hf0
 obtain ⟨g1, hf0⟩ := gdE hf0
 refine yJ ((xMs zA 12 77).or X0) hC vV [1,1] [] [6,7] (fun z : List (List Int) × List Bool => jo z.1 z.2 = some r0) (fun z => VR z.1 z.2) [(1, .d (I from_)), (2, .own (.box (yK m_))), (6, .own (.box (eOs 1 true F0_ (List.replicate ((m_.Rows.length : Nat) : Int).toNat ([] : List Int))))), (7, .own (.box (eOs 1 true eB (List.replicate ((m_.Rows.length : Nat) : Int).toNat false))))] [Ha (lnM uC m_.Rows), Hn (rL g0), Ha (rM 1 F0_ ((m_.Rows.length : Nat) : Int) ([] : List Int)), Ha (lnM uC m_.Rows), Hn (rL g1), Ha (rM 1 eB ((m_.Rows.length : Nat) : Int) false), Hh (.cut 0)] ?_ fun J1 hJ1 => ?_
 ·rintro ⟨l_, is⟩ hf0
  unfold jo at hf0
  obtain rfl := za hf0
  exact yE X0 hC hE [Hm (shM F0_ F0_ l_), Hm (shM eB eB is)]
 ·obtain ⟨r_, h0, hf0⟩ := zf hf0
  obtain ⟨t2, ht2, hf0⟩ := zf hf0
  refine yAt X0 hC (sub [1,1,2,1,0] vV) (frs [1,1,2,1,0] [J1] vV []) [(6, .own (.box (eOs 1 true F0_ (List.replicate ((m_.Rows.length : Nat) : Int).toNat ([] : List Int))))), (7, .own (.box (eOs 1 true eB (List.replicate ((m_.Rows.length : Nat) : Int).toNat false)))), (19, .d (.fn 116 [.sptr (.agg [I r_.1.Inputs, I r_.1.Outputs, eSl 1 false uC r_.1.Rows]), .sptr (I r_.2)]))] [Hc h_walks_arrivals (x := (m_, from_)) h0 (loC yK m_ <| loC (eI .i64) from_ <| loN)] fun st0 h0 => ?_
  refine zaa (g := .tmp 19) (ps := [20]) (assign := (sub [1,1,2,1,0,0] vV)) (body := (sub [1,1,2,1,0,1] vV)) (K := 116) (caps := [.sptr (.agg [I r_.1.Inputs, I r_.1.Outputs, eSl 1 false uC r_.1.Rows]), .sptr (I r_.2)]) (by kernel_rfl) [6,7,19] (fun s => jm r_ s.1 s.2) (fun z => nomatch z) (fun z => nomatch z) ((fun (x : ze) (_ : Bool) (_ : Value) => [qh x])) (F := @vE r_.1 r_.2) (fun s x => xy s.1 s.2 x) ((List.replicate ((m_.Rows.length : Nat) : Int).toNat ([] : List Int)), (List.replicate ((m_.Rows.length : Nat) : Int).toNat false)) t2 _ h0 inferInstance (by kernel_rfl) (by decide) (fun _ => rfl) (by rintro ⟨⟩) (by kernel_rfl) (fun _ _ _ => rfl) (WP hC r_.1 r_.2) ht2 ?_ ?_
  ·rintro tv2 ⟨l_1, is1⟩ x20 vr lr1 hf1
   replace hf1 : xy l_1 is1 x20 = some lr1 := hf1
   unfold xy at hf1
   refine yF X0 hC .normal [(6, .own (.box (eOs 1 true F0_ l_1))), (7, .own (.box (eOs 1 true eB is1))), (8, .own (.box (qh x20))), (19, .d (.fn 116 [.sptr (.agg [I r_.1.Inputs, I r_.1.Outputs, eSl 1 false uC r_.1.Rows]), .sptr (I r_.2)]))] [] fun st0 h0 => ⟨rfl, z85 h0 ?_⟩
   obtain ⟨is_e, h1, hf1⟩ := zf hf1
   let Z0 : List HO := [Hn (iL eB h1), Hs (iM eB h1), Hs (iM eB h1), Hl (sM eB is1 x20.state_ true)]
   rcases zG hf1 with ⟨c0, hf1⟩ | ⟨c0, hf1⟩
   ·obtain ⟨l__e, h2, hf1⟩ := zf hf1
    obtain ⟨r_1, h3, hf1⟩ := zf hf1
    obtain ⟨g2, hf1⟩ := gdE hf1
    obtain ⟨r_2, h4, hf1⟩ := zf hf1
    obtain ⟨l__e1, h5, hf1⟩ := zf hf1
    obtain rfl := za hf1
    exact yF X0 hC .normal (jm r_ (l_1.set x20.state_.toNat r_2) (is1.set x20.state_.toNat true)) (Z0 ++ [Hq c0, Hn (iL F0_ h2), Hs (iM F0_ h2), Hc h_slices_Clone_int_int (x := l__e) h3 (loC F0_ l__e <| loN), Hq (dM (eI .i64) ([x20.input_] : List Int)), Hn (dM (eI .i64) ([x20.input_] : List Int)), Hn (aL (eI .i64) (eI .i64) g2), Hl (aM (eI .i64) r_1 ([x20.input_] : List Int)), Hg (z2B h_slices_Clip_int_int), Hm (shM (eI .i64) (eI .i64) (r_1 ++ ([x20.input_] : List Int))), Hs (z2C h_slices_Clip_int_int (x := (r_1 ++ ([x20.input_] : List Int))) h4 (loC F2_ (r_1 ++ ([x20.input_] : List Int)) <| loN)), Hm (shM (eI .i64) (eI .i64) (r_1 ++ ([x20.input_] : List Int))), Hn (iL F0_ h5), Hs (iM F0_ h5), Hs (iM F0_ h5), Hl (sM F0_ l_1 x20.state_ r_2)]) fun st0 h0 => ⟨rfl, _, h0, LeL.refl _⟩
   ·obtain rfl := za hf1
    exact yF X0 hC .normal (jm r_ l_1 (is1.set x20.state_.toNat true)) (Z0 ++ [Hq c0]) fun st0 h0 => ⟨rfl, _, h0, LeL.refl _⟩
  ·rcases t2 with ⟨l_1, is1⟩ | z
   ·dsimp only at hf0
    exact z1Y (by kernel_rfl) (hJ1 _ [(6, .own (.box (eOs 1 true F0_ l_1))), (7, .own (.box (eOs 1 true eB is1)))] (l_1, is1) hf0 (show Own.canon [6,7] _ = ofL _ by kernel_rfl) inferInstance)
   ·cases z
noncomputable def JB : Code := (Tryz.f34.body).getD .skip
noncomputable def kP : zU := spF (α := z6) (ρ := List (List Int) × List Bool × Int) 34 (fun x => [yK x]) (fun r => .tup [F7_ r.1, (eSl 1 true eB) r.2.1, (eI .i64) r.2.2]) (fun x => jy x) [] (UQ)
theorem JV {ctr : Ctr} (hC : zu Tryz.prog ctr) (h_machines_Check : ctr.Has vh) (h_walks_paths : ctr.Has ZJ) : kP.Ok Tryz.prog := by
 refine zy ?_
 rintro m_ r0 hf0
 try unfold jy at hf0
 refine yO false [(2, none), (3, none), (4, none)] JB 20 Tryz.func34 fun E hE => ?_
 obtain ⟨r_, h0, hf0⟩ := zf hf0
 let Z0 : List HO := [Hc h_machines_Check (x := m_) h0 (loC yK m_ <| loN)]
 rcases zG hf0 with ⟨c0, hf0⟩ | ⟨c0, hf0⟩
 ·obtain rfl := za hf0
  exact yEx X0 hC hE (Z0 ++ [Hq c0, Hm (shM F2_ F2_ []), Hm (shM eB eB [])]) (.tup [eSl 1 true F0_ [], eSl 1 true eB [], I r_]) (show LeV (.tup [eSl 1 true F0_ [], eSl 1 true eB [], I r_]) (.tup [eSl 1 true F0_ ([] : List (List Int)), eSl 1 true eB ([] : List Bool), I r_]) from inferInstance)
 ·obtain ⟨r_1, h1, hf0⟩ := zf hf0
  obtain rfl := za hf0
  exact yE X0 hC hE (Z0 ++ [Hq c0, Hc h_walks_paths (x := (m_, 0)) h1 (loC yK m_ <| loC (eI .i64) 0 <| loN)])
noncomputable def US : Code := (Tryz.f117.body).getD .skip
noncomputable def jK : zU := spF (α := Int × Int) (ρ := Bool) 117 (fun x => [(eI .i64) x.1, (eSp (eI .i64)) x.2]) (fun r => eB r) (fun x => kn x.1 x.2) [] (Xh)
theorem Qs {ctr : Ctr} (hC : zu Tryz.prog ctr) : jK.Ok Tryz.prog := by
 refine zy ?_
 rintro ⟨c_, x1⟩ r0 hf0
 try unfold kn at hf0
 refine yO true [(3, none)] US 11 Tryz.func117 fun E hE => ?_
 rcases zG hf0 with ⟨c0, hf0⟩ | ⟨c0, hf0⟩
 ·obtain rfl := za hf0
  exact yE X0 hC hE (rpN 4 (Hq c0) [])
 ·obtain rfl := za hf0
  exact yE X0 hC hE (rpN 4 (Hq c0) [])
noncomputable def wq : Code := (Tryz.f113.body).getD .skip
noncomputable def wk : zU := spF (α := List Int × Int) (ρ := Int) 113 (fun x => [F2_ x.1, (XE 117 (eSp (eI .i64))) x.2]) (fun r => (eI .i64) r) (fun x => xL x.1 x.2) [] (by
 rintro ⟨a0, a1⟩ ⟨b0, b1⟩ h
 have e0 := jn.inj (f := F2_) _ _ (List.cons.inj h).1
 replace h := (List.cons.inj h).2
 have e1 := jn.inj (f := (XE 117 (eSp (eI .i64)))) _ _ (List.cons.inj h).1
 subst e0 e1
 rfl)
abbrev jF : List (Nat × T) := []
abbrev jE (s_ : List Int) (f_ : Int) (x8 : Int) : List (Nat × T) := [(0, .d (eSl 1 false (eI .i64) s_)), (1, .d (.fn 117 [.sptr (I f_)])), (7, .d (I ((s_.length : Nat) : Int))), (8, .d (I x8))]
theorem Zl {ctr : Ctr} (hC : zu Tryz.prog ctr) (h_words_Check_1 : ctr.Has jK) : wk.Ok Tryz.prog := by
 refine zy ?_
 rintro ⟨s_, f_⟩ r0 hf0
 try unfold xL at hf0
 refine yO true [(4, none)] wq 19 Tryz.func113 fun E hE => ?_
 refine yJ X0 hC wq [1] [] [] (fun z : Unit => wn = some r0) (fun z => jF) [(0, .d (eSl 1 false (eI .i64) s_)), (1, .d (.fn 117 [.sptr (I f_)]))] [Hh (.cut 1)] ?_ fun J1 hJ1 => ?_
 ·rintro ⟨⟩ hf0
  unfold wn at hf0
  obtain rfl := za hf0
  exact yE X0 hC hE []
 ·obtain ⟨t2, ht2, hf0⟩ := zf hf0
  refine yL X0 hC wq [1,2,1,0] [J1] (fun s => y4 s_ f_ s) (fun x => jE s_ f_ x) 0 ht2  [Ha (lnM (eI .i64) s_)] ?_
  rintro x8 m2 lr1 hf1 hl1 J2 hJ2
  try unfold y4 at hf1
  rcases zG hf1 with ⟨c0, hf1⟩ | ⟨c0, hf1⟩
  ·obtain ⟨s__e, h0, hf1⟩ := zf hf1
   obtain ⟨r_, h1, hf1⟩ := zf hf1
   let Z0 : List HO := [Hq c0, Hi (eI .i64) h0, Hc h_words_Check_1 (x := (s__e, f_)) h1 (loC (eI .i64) s__e <| loC (eSp (eI .i64)) f_ <| loN)]
   rcases zG hf1 with ⟨c1, hf1⟩ | ⟨c1, hf1⟩
   ·obtain rfl := za hf1
    obtain rfl := hl1
    obtain rfl := za hf0
    exact yE X0 hC hE (Z0 ++ [Hq c1])
   ·obtain rfl := za hf1
    exact yB X0 hC hJ2 (w64 (x8 + 1)) hl1 (Z0 ++ [Hq c1])
  ·obtain rfl := za hf1
   obtain rfl := hl1
   exact yB X0 hC hJ1 () hf0 [Hq c0]
noncomputable def jC : Code := (Tryz.f95.body).getD .skip
noncomputable def xD : zU := spF (α := List Int × Int) (ρ := Bool) 95 (fun x => [F2_ x.1, (XE 117 (eSp (eI .i64))) x.2]) (fun r => eB r) (fun x => x6 x.1 x.2) [] (by
 rintro ⟨a0, a1⟩ ⟨b0, b1⟩ h
 have e0 := jn.inj (f := F2_) _ _ (List.cons.inj h).1
 replace h := (List.cons.inj h).2
 have e1 := jn.inj (f := (XE 117 (eSp (eI .i64)))) _ _ (List.cons.inj h).1
 subst e0 e1
 rfl)
theorem jI {ctr : Ctr} (hC : zu Tryz.prog ctr) (h_slices_IndexFunc_int_int : ctr.Has wk) : xD.Ok Tryz.prog := by
 refine zy ?_
 rintro ⟨s_, f_⟩ r0 hf0
 try unfold x6 at hf0
 refine yO true [(4, none)] jC 9 Tryz.func95 fun E hE => ?_
 obtain ⟨r_, h0, hf0⟩ := zf hf0
 obtain rfl := za hf0
 exact yE X0 hC hE [Hc h_slices_IndexFunc_int_int (x := (s_, f_)) h0 (loC F2_ s_ <| loC (XE 117 (eSp (eI .i64))) f_ <| loN)]
noncomputable def K4 : Code := (Tryz.f102.body).getD .skip
noncomputable def ZI : zU := spF (α := List Int × Int) (ρ := Int) 102 (fun x => [F2_ x.1, (eI .i64) x.2]) (fun r => (eI .i64) r) (fun x => qW x.1 x.2) [] (Xh)
theorem KL {ctr : Ctr} (hC : zu Tryz.prog ctr) (h_slices_ContainsFunc_int_int : ctr.Has xD) : ZI.Ok Tryz.prog := by
 refine zy ?_
 rintro ⟨w_, inputs⟩ r0 hf0
 try unfold qW at hf0
 refine yO true [(4, none)] K4 19 Tryz.func102 fun E hE => ?_
 rcases zG hf0 with ⟨c0, hf0⟩ | ⟨c0, hf0⟩
 ·obtain rfl := za hf0
  exact yE X0 hC hE (rpN 4 (Hq c0) [qT])
 ·let Z0 : List HO := [Hq c0, Hq c0, Ha (lnM (eI .i64) w_), Hq c0, Hq c0]
  rcases zG hf0 with ⟨c1, hf0⟩ | ⟨c1, hf0⟩
  ·obtain rfl := za hf0
   exact yE X0 hC hE (Z0 ++ [Hq c1])
  ·rcases zG hf0 with ⟨c2, hf0⟩ | ⟨c2, hf0⟩
   ·obtain rfl := za hf0
    exact yE X0 hC hE (Z0 ++ (Hq c1 :: (rpN 4 (Hq c2) [qT])))
   ·obtain ⟨r_, h0, hf0⟩ := zf hf0
    let Z1 : List HO := (Z0 ++ [Hq c1, Hq c2, Hq c2, Hq c2, Hc h_slices_ContainsFunc_int_int (x := (w_, inputs)) h0 (loC F2_ w_ <| loC (XE 117 (eSp (eI .i64))) inputs <| loN), Hq c2])
    rcases zG hf0 with ⟨c3, hf0⟩ | ⟨c3, hf0⟩
    ·obtain rfl := za hf0
     exact yE X0 hC hE (Z1 ++ [Hq c3])
    ·obtain rfl := za hf0
     exact yE X0 hC hE (Z1 ++ [Hq c3])
noncomputable def ZZ : Code := (Tryz.f71.body).getD .skip
noncomputable def js : zU := spF (α := List (List Int) × Int) (ρ := Int) 71 (fun x => [F8_ x.1, (eI .i64) x.2]) (fun r => (eI .i64) r) (fun x => j4 x.1 x.2) [] (Xh)
abbrev VV : List (Nat × T) := []
abbrev VU (l_ : List (List Int)) (inputs : Int) (x19 : Int) : List (Nat × T) := [(1, .d (I inputs)), (17, .d (eSl 1 false F2_ l_)), (18, .d (I ((l_.length : Nat) : Int))), (19, .d (I x19))]
theorem KO {ctr : Ctr} (hC : zu Tryz.prog ctr) (h_words_Check : ctr.Has ZI) : js.Ok Tryz.prog := by
 refine zy ?_
 rintro ⟨l_, inputs⟩ r0 hf0
 try unfold j4 at hf0
 refine yO true [(4, none)] ZZ 30 Tryz.func71 fun E hE => ?_
 rcases zG hf0 with ⟨c0, hf0⟩ | ⟨c0, hf0⟩
 ·obtain rfl := za hf0
  exact yE X0 hC hE (rpN 4 (Hq c0) [qT])
 ·let Z0 : List HO := [Hq c0, Hq c0, Ha (lnM F2_ l_), Hq c0, Hq c0]
  rcases zG hf0 with ⟨c1, hf0⟩ | ⟨c1, hf0⟩
  ·obtain rfl := za hf0
   exact yE X0 hC hE (Z0 ++ [Hq c1])
  ·rcases zG hf0 with ⟨c2, hf0⟩ | ⟨c2, hf0⟩
   ·obtain rfl := za hf0
    exact yE X0 hC hE (Z0 ++ [Hq c1, Hq c2])
   ·refine yJ X0 hC ZZ [1,1,1] [] [] (fun z : Unit => ZG = some r0) (fun z => VV) [(0, .d (eSl 1 false F2_ l_)), (1, .d (I inputs))] (Z0 ++ [Hq c1, Hq c2, Hh (.cut 0)]) ?_ fun J1 hJ1 => ?_
    ·rintro ⟨⟩ hf0
     unfold ZG at hf0
     obtain rfl := za hf0
     exact yE X0 hC hE []
    ·obtain ⟨t2, ht2, hf0⟩ := zf hf0
     refine yL X0 hC ZZ [1,1,1,2,1,0] [J1] (fun s => vM l_ inputs s) (fun x => VU l_ inputs x) 0 ht2  [Ha (lnM F2_ l_)] ?_
     rintro x19 m2 lr1 hf1 hl1 J2 hJ2
     try unfold vM at hf1
     rcases zG hf1 with ⟨c3, hf1⟩ | ⟨c3, hf1⟩
     ·obtain ⟨l__e, h0, hf1⟩ := zf hf1
      obtain ⟨r_, h1, hf1⟩ := zf hf1
      let Z1 : List HO := [Hq c3, Hi F2_ h0, Hc h_words_Check (x := (l__e, inputs)) h1 (loC F2_ l__e <| loC (eI .i64) inputs <| loN)]
      rcases zG hf1 with ⟨c4, hf1⟩ | ⟨c4, hf1⟩
      ·obtain rfl := za hf1
       obtain rfl := hl1
       obtain rfl := za hf0
       exact yE X0 hC hE (Z1 ++ [Hq c4])
      ·obtain rfl := za hf1
       exact yB X0 hC hJ2 (w64 (x19 + 1)) hl1 (Z1 ++ [Hq c4])
     ·obtain rfl := za hf1
      obtain rfl := hl1
      exact yB X0 hC hJ1 () hf0 [Hq c3]
noncomputable def Ym : Code := (Tryz.f103.body).getD .skip
noncomputable def vg : zU := spF (α := List (List Int)) (ρ := List (List Int)) 103 (fun x => [F8_ x]) (fun r => F9_ r) (fun x => wJ x) [] (UQ)
theorem Yu {ctr : Ctr} (hC : zu Tryz.prog ctr) : vg.Ok Tryz.prog := by
 refine zy ?_
 rintro s_ r0 hf0
 try unfold wJ at hf0
 refine yO true [(2, none)] Ym 8 Tryz.func103 fun E hE => ?_
 refine z6j rfl 0 (sz := 1) (t := false) (es := s_.map F2_) (by kernel_rfl) fun pv0 hv0 hn => ?_
 rcases hn with ⟨hn0, he0⟩ | hn0
 ·obtain ⟨_, hf0⟩ := gdE hf0
  rw [show s_ = [] from List.map_eq_nil_iff.1 he0] at hf0
  obtain rfl := za hf0
  exact yEx ((zdg zA 4 29 (by kernel_rfl) hn0).or ((xMv Tryz.prog 3 0 pv0 hv0).or X0)) hC hE [Hn (rfl : some pv0 = some pv0), Hn (⟨rfl, rfl⟩ : T.d (.atom pv0) = T.d (.atom pv0) ∧ T.d (.atom (.slice none 0 0)) = T.d (.atom (.slice none 0 0))), qT] (eOs 1 true F2_ []) (show LeV (eOs 1 true F2_ []) (eOs 1 false F2_ ([] : List (List Int))) from inferInstance)
 ·obtain ⟨g0, hf0⟩ := gdE hf0
  obtain rfl := za hf0
  exact yE ((zdg zA 4 29 (by kernel_rfl) hn0).or ((xMv Tryz.prog 3 0 pv0 hv0).or X0)) hC hE [Hn (rfl : some pv0 = some pv0), Hn (⟨rfl, rfl⟩ : T.d (.atom pv0) = T.d (.atom pv0) ∧ T.d (.atom (.slice none 0 0)) = T.d (.atom (.slice none 0 0))), qF, Hn (dM F2_ s_), Hn (aL F2_ F2_ g0), Hl (aM0 F2_ s_)]
noncomputable def UY : Code := (Tryz.f133.body).getD .skip
noncomputable def jR : zU := spF (α := Int) (ρ := Bool) 133 (fun x => [(eI .i64) x]) (fun r => eB r) (fun x => qB x) [] (UQ)
theorem QC {ctr : Ctr} (hC : zu Tryz.prog ctr) : jR.Ok Tryz.prog := by
 refine zy ?_
 rintro x_ r0 hf0
 try unfold qB at hf0
 refine yO true [(2, none)] UY 6 Tryz.func133 fun E hE => ?_
 obtain rfl := za hf0
 exact yE X0 hC hE []
noncomputable def Ve : Code := (Tryz.f121.body).getD .skip
noncomputable def vX : zU := spF (α := Int × Int) (ρ := Int) 121 (fun x => [(eI .i64) x.1, (eI .i64) x.2]) (fun r => (eI .i64) r) (fun x => vo x.1 x.2) [] (Xh)
theorem Vs {ctr : Ctr} (hC : zu Tryz.prog ctr) (h_cmp_isNaN_int : ctr.Has jR) : vX.Ok Tryz.prog := by
 refine zy ?_
 rintro ⟨x_, y_⟩ r0 hf0
 try unfold vo at hf0
 refine yO true [(4, none)] Ve 20 Tryz.func121 fun E hE => ?_
 obtain ⟨r_, h0, hf0⟩ := zf hf0
 obtain ⟨r_1, h1, hf0⟩ := zf hf0
 let Z0 : List HO := [Hc h_cmp_isNaN_int (x := x_) h0 (loC (eI .i64) x_ <| loN), Hc h_cmp_isNaN_int (x := y_) h1 (loC (eI .i64) y_ <| loN)]
 rcases zG hf0 with ⟨c0, hf0⟩ | ⟨c0, hf0⟩
 ·rcases zG hf0 with ⟨c1, hf0⟩ | ⟨c1, hf0⟩
  ·obtain rfl := za hf0
   exact yE X0 hC hE (Z0 ++ [Hq c0, Hq c1])
  ·obtain rfl := za hf0
   exact yE X0 hC hE (Z0 ++ [Hq c0, Hq c1])
 ·rcases zG hf0 with ⟨c2, hf0⟩ | ⟨c2, hf0⟩
  ·obtain rfl := za hf0
   exact yE X0 hC hE (Z0 ++ [Hq c0, Hq c2])
  ·rcases zG hf0 with ⟨c3, hf0⟩ | ⟨c3, hf0⟩
   ·obtain rfl := za hf0
    exact yE X0 hC hE (Z0 ++ [Hq c0, Hq c2, Hq c3])
   ·rcases zG hf0 with ⟨c4, hf0⟩ | ⟨c4, hf0⟩
    ·obtain rfl := za hf0
     exact yE X0 hC hE (Z0 ++ [Hq c0, Hq c2, Hq c3, Hq c4])
    ·obtain rfl := za hf0
     exact yE X0 hC hE (Z0 ++ [Hq c0, Hq c2, Hq c3, Hq c4])
noncomputable def wZ : Code := (Tryz.f122.body).getD .skip
noncomputable def wS : zU := spF (α := List Int × List Int) (ρ := Int) 122 (fun x => [F2_ x.1, F2_ x.2]) (fun r => (eI .i64) r) (fun x => xu x.1 x.2) [] (Xh)
abbrev kF (s1 : List Int) (s2 : List Int) : List (Nat × T) := [(0, .d (eSl 1 false (eI .i64) s1)), (1, .d (eSl 1 false (eI .i64) s2))]
abbrev kE (s1 : List Int) (s2 : List Int) (x11 : Int) : List (Nat × T) := [(0, .d (eSl 1 false (eI .i64) s1)), (1, .d (eSl 1 false (eI .i64) s2)), (9, .d (eSl 1 false (eI .i64) s1)), (10, .d (I ((s1.length : Nat) : Int))), (11, .d (I x11))]
theorem Yb {ctr : Ctr} (hC : zu Tryz.prog ctr) (h_cmp_Compare_int : ctr.Has vX) : wS.Ok Tryz.prog := by
 refine zy ?_
 rintro ⟨s1, s2⟩ r0 hf0
 try unfold xu at hf0
 refine yO true [(4, none)] wZ 36 Tryz.func122 fun E hE => ?_
 refine yJ X0 hC wZ [1] [] [0,1] (fun z : Unit => xz s1 s2 = some r0) (fun z => kF s1 s2) [(0, .d (eSl 1 false (eI .i64) s1)), (1, .d (eSl 1 false (eI .i64) s2))] [Hh (.cut 1)] ?_ fun J1 hJ1 => ?_
 ·rintro ⟨⟩ hf0
  unfold xz at hf0
  let Z0 : List HO := [Ha (lnM (eI .i64) s1), Ha (lnM (eI .i64) s2)]
  rcases zG hf0 with ⟨c0, hf0⟩ | ⟨c0, hf0⟩
  ·obtain rfl := za hf0
   exact yE X0 hC hE (Z0 ++ [Hq c0])
  ·obtain rfl := za hf0
   exact yE X0 hC hE (Z0 ++ [Hq c0])
 ·obtain ⟨t2, ht2, hf0⟩ := zf hf0
  refine yL X0 hC wZ [1,2,1,0] [J1] (fun s => yg s1 s2 s) (fun x => kE s1 s2 x) 0 ht2  [Ha (lnM (eI .i64) s1)] ?_
  rintro x11 m2 lr1 hf1 hl1 J2 hJ2
  try unfold yg at hf1
  rcases zG hf1 with ⟨c1, hf1⟩ | ⟨c1, hf1⟩
  ·obtain ⟨s_e, h0, hf1⟩ := zf hf1
   let Z1 : List HO := [Hq c1, Hi (eI .i64) h0, Ha (lnM (eI .i64) s2)]
   rcases zG hf1 with ⟨c2, hf1⟩ | ⟨c2, hf1⟩
   ·obtain rfl := za hf1
    obtain rfl := hl1
    obtain rfl := za hf0
    exact yE X0 hC hE (Z1 ++ [Hq c2])
   ·obtain ⟨s_e1, h1, hf1⟩ := zf hf1
    obtain ⟨r_, h2, hf1⟩ := zf hf1
    let Z2 : List HO := (Z1 ++ [Hq c2, Hi (eI .i64) h1, Hc h_cmp_Compare_int (x := (s_e, s_e1)) h2 (loC (eI .i64) s_e <| loC (eI .i64) s_e1 <| loN)])
    rcases zG hf1 with ⟨c3, hf1⟩ | ⟨c3, hf1⟩
    ·obtain rfl := za hf1
     obtain rfl := hl1
     obtain rfl := za hf0
     exact yE X0 hC hE (Z2 ++ [Hq c3])
    ·obtain rfl := za hf1
     exact yB X0 hC hJ2 (w64 (x11 + 1)) hl1 (Z2 ++ [Hq c3])
  ·obtain rfl := za hf1
   obtain rfl := hl1
   exact yB X0 hC hJ1 () hf0 [Hq c1]
noncomputable def X2 : Code := (Tryz.f120.body).getD .skip
noncomputable def YE : zU := spF (α := List Int) (ρ := Int) 120 (fun x => [F2_ x]) (fun r => (eI .i64) r) (fun x => Yk x) [] (UQ)
abbrev Qa : List (Nat × T) := [(3, .d (I 0))]
abbrev Q9 (vals : List Int) (x8 : Int) : List (Nat × T) := [(3, .d (I 0)), (6, .d (eSl 1 false (eI .i64) vals)), (7, .d (I ((vals.length : Nat) : Int))), (8, .d (I x8))]
theorem z10 {ctr : Ctr} (hC : zu Tryz.prog ctr) : YE.Ok Tryz.prog := by
 refine zy ?_
 rintro vals r0 hf0
 try unfold Yk at hf0
 refine yO true [(2, none)] X2 18 Tryz.func120 fun E hE => ?_
 refine yJ X0 hC X2 [1,1] [] [3] (fun z : Unit => kA = some r0) (fun z => Qa) [(0, .d (eSl 1 false (eI .i64) vals)), (3, .d (I 0))] [Hh (.cut 2)] ?_ fun J1 hJ1 => ?_
 ·rintro ⟨⟩ hf0
  unfold kA at hf0
  obtain rfl := za hf0
  exact yE X0 hC hE []
 ·obtain ⟨t2, ht2, hf0⟩ := zf hf0
  refine yL X0 hC X2 [1,1,2,1,0] [J1] (fun s => ux vals s) (fun x => Q9 vals x) 0 ht2  [Ha (lnM (eI .i64) vals)] ?_
  rintro x8 m2 lr1 hf1 hl1 J2 hJ2
  try unfold ux at hf1
  rcases zG hf1 with ⟨c0, hf1⟩ | ⟨c0, hf1⟩
  ·obtain ⟨val_e, h0, hf1⟩ := zf hf1
   rcases zG hf1 with ⟨c1, hf1⟩ | ⟨c1, hf1⟩
   ·obtain rfl := za hf1
    obtain rfl := hl1
    obtain rfl := za hf0
    exact yE X0 hC hE [Hq c0, Hi (eI .i64) h0, Hq c1]
   ·obtain rfl := za hf1
    exact yB X0 hC hJ2 (w64 (x8 + 1)) hl1 [Hq c0, Hi (eI .i64) h0, Hq c1]
  ·obtain rfl := za hf1
   obtain rfl := hl1
   exact yB X0 hC hJ1 () hf0 [Hq c0]
noncomputable def UR : Code := (Tryz.f105.body).getD .skip
noncomputable def vF : zU := spF (α := List Int × List Int) (ρ := Int) 105 (fun x => [F2_ x.1, F2_ x.2]) (fun r => (eI .i64) r) (fun x => yR x.1 x.2) [] (Xh)
theorem Qr {ctr : Ctr} (hC : zu Tryz.prog ctr) (h_cmp_Compare_int : ctr.Has vX) (h_slices_Compare_int_int : ctr.Has wS) (h_cmp_Or_int : ctr.Has YE) : vF.Ok Tryz.prog := by
 refine zy ?_
 rintro ⟨a_, b_⟩ r0 hf0
 try unfold yR at hf0
 refine yO true [(4, none)] UR 15 Tryz.func105 fun E hE => ?_
 obtain ⟨r_, h0, hf0⟩ := zf hf0
 obtain ⟨r_1, h1, hf0⟩ := zf hf0
 obtain ⟨r_2, h2, hf0⟩ := zf hf0
 obtain rfl := za hf0
 exact yE X0 hC hE [Ha (lnM (eI .i64) a_), Ha (lnM (eI .i64) b_), Hc h_cmp_Compare_int (x := (((a_.length : Nat) : Int), ((b_.length : Nat) : Int))) h0 (loC (eI .i64) ((a_.length : Nat) : Int) <| loC (eI .i64) ((b_.length : Nat) : Int) <| loN), Hc h_slices_Compare_int_int (x := (a_, b_)) h1 (loC F2_ a_ <| loC F2_ b_ <| loN), Hg (z2B h_cmp_Or_int), Hm (shM (eI .i64) (eI .i64) ([r_, r_1])), Hs (z2C h_cmp_Or_int (x := [r_, r_1]) h2 (loC F0_ ([r_, r_1] : List Int) <| loN))]
noncomputable def VQ : Code := (Tryz.f107.body).getD .skip
noncomputable def j7 : zU := spF (α := List Int × List Int) (ρ := Bool) 107 (fun x => [F2_ x.1, F2_ x.2]) (fun r => eB r) (fun x => vL x.1 x.2) [] (Xh)
theorem UK {ctr : Ctr} (hC : zu Tryz.prog ctr) (h_words_Compare : ctr.Has vF) : j7.Ok Tryz.prog := by
 refine zy ?_
 rintro ⟨a_, b_⟩ r0 hf0
 try unfold vL at hf0
 refine yO true [(4, none)] VQ 9 Tryz.func107 fun E hE => ?_
 obtain ⟨r_, h0, hf0⟩ := zf hf0
 obtain rfl := za hf0
 exact yE X0 hC hE [Hc h_words_Compare (x := (a_, b_)) h0 (loC F2_ a_ <| loC F2_ b_ <| loN)]
noncomputable def zH : Code := (Tryz.f106.body).getD .skip
noncomputable def xE : zU := spF (α := List (List Int) × Unit) (ρ := List (List Int)) 106 (fun x => [F9_ x.1, (YR 107) x.2]) (fun r => F9_ r) (fun x => yl x.1 x.2) [true, false] (by
 rintro ⟨a0, a1⟩ ⟨b0, b1⟩ h
 have e0 := jn.inj (f := F9_) _ _ (List.cons.inj h).1
 replace h := (List.cons.inj h).2
 have e1 := jn.inj (f := (YR 107)) _ _ (List.cons.inj h).1
 subst e0 e1
 rfl)
abbrev qN (s_ : List (List Int)) : List (Nat × T) := [(0, .own (eOs 1 false F2_ s_))]
abbrev qM (s_ : List (List Int)) (k_ : Int) : List (Nat × T) := [(0, .own (eOs 1 false F2_ s_)), (1, .d (.fn 107 [])), (5, .d (I k_))]
abbrev qL (s_1 : List (List Int)) (k_1 : Int) : List (Nat × T) := [(0, .own (eOs 1 false F2_ s_1)), (5, .d (I k_1))]
abbrev qK (pv0 : Value) (k_ : Int) (k2 : Int) (s_3 : List (List Int)) (k_3 : Int) : List (Nat × T) := [(0, .own (eOs 1 false F2_ s_3)), (1, .d (.fn 107 [])), (5, .d (I k_3)), (6, .d (.atom (ZW 1 pv0 k_))), (7, .d (I k2))]
abbrev qI (pv0 : Value) (k_ : Int) (s_2 : List (List Int)) (k_2 : Int) (k2 : Int) : List (Nat × T) := [(0, .own (eOs 1 false F2_ s_2)), (1, .d (.fn 107 [])), (5, .d (I k_2)), (6, .d (.atom (ZW 1 pv0 k_))), (7, .d (I k2))]
abbrev qJ (s_ : List (List Int)) (k_ : Int) : List (Nat × T) := [(0, .own (eOs 1 false F2_ s_)), (1, .d (.fn 107 [])), (5, .d (I k_))]
noncomputable def zj : XH Tryz.prog := ((zfB zA 64).or X0)
theorem jJ {ctr : Ctr} (hC : zu Tryz.prog ctr) (h_tries_sorted_1 : ctr.Has j7) : xE.Ok Tryz.prog := by
 refine zy ?_
 rintro ⟨s_, eq⟩ r0 hf0
 try unfold yl at hf0
 refine yO true [(4, none)] zH 66 Tryz.func106 fun E hE => ?_
 refine z0E (y := eOs 1 false F2_ s_) rfl 0 (by kernel_rfl) (by kernel_rfl) fun pv0 hv0 => ?_
 let Z0 : List HO := [Ha (lnM F2_ s_)]
 rcases zG hf0 with ⟨c0, hf0⟩ | ⟨c0, hf0⟩
 ·obtain rfl := za hf0
  exact yE zj hC hE (Z0 ++ [Hq c0])
 ·refine yJ zj hC zH [1,1] [] [0] (fun z : Unit => xG s_ = some r0) (fun z => qN s_) [(0, .own (eOs 1 false F2_ s_)), (1, .d (.fn 107 []))] (Z0 ++ [Hq c0, Hh (.cut 0)]) ?_ fun J1 hJ1 => ?_
  ·rintro ⟨⟩ hf0
   unfold xG at hf0
   obtain rfl := za hf0
   exact yE zj hC hE []
  ·obtain ⟨t2, ht2, hf0⟩ := zf hf0
   refine yL zj hC zH [1,1,2,1,0] [J1] (fun s => y8 s_ s) (fun x => qJ s_ x) 1 ht2  [] ?_
   rintro k_ m2 lr1 hf1 hl1 J2 hJ2
   try unfold y8 at hf1
   let Z1 : List HO := [Ha (lnM F2_ s_)]
   rcases zG hf1 with ⟨c1, hf1⟩ | ⟨c1, hf1⟩
   ·refine yJ zj hC zH [1,1,2,1,0,0,1] [J1, J2] [0,1,5] (fun z : Unit => yD k_ = some lr1) (fun z => qM s_ k_) [(0, .own (eOs 1 false F2_ s_)), (1, .d (.fn 107 [])), (5, .d (I k_))] (Z1 ++ [Hq c1, Hh (.cut 0)]) ?_ fun J3 hJ3 => ?_
    ·rintro ⟨⟩ hf1
     unfold yD at hf1
     obtain rfl := za hf1
     exact yB zj hC hJ2 (w64 (k_ + 1)) hl1 []
    ·obtain ⟨s__e, h0, hf1⟩ := zf hf1
     obtain ⟨s__e1, h1, hf1⟩ := zf hf1
     obtain ⟨r_, h2, hf1⟩ := zf hf1
     let Z2 : List HO := [Hn (iL F2_ h0), Hs (iM F2_ h0), Hn (iL F2_ h1), Hs (iM F2_ h1), Hc h_tries_sorted_1 (x := (s__e, s__e1)) h2 (loC F2_ s__e <| loC F2_ s__e1 <| loN)]
     rcases zG hf1 with ⟨c2, hf1⟩ | ⟨c2, hf1⟩
     ·obtain ⟨g0, hf1⟩ := gdE hf1
      refine yJ ((xAs Tryz.prog 6 (ZW 1 pv0 k_)).or ((xVw zA 31 0 pv0).or zj)) hC zH [1,1,2,1,0,0,1,2,0,1,0,1] [J1, J2, J3] [0,5] (fun z : List (List Int) × Int => zS z.1 z.2 = some lr1) (fun z => qL z.1 z.2) [(0, .own (eOs 1 false F2_ s_)), (1, .d (.fn 107 [])), (5, .d (I k_)), (6, .d (.atom (ZW 1 pv0 k_)))] (Z2 ++ [Hq c2, Hn (⟨.inl rfl, rfl⟩ : (T.als 0 [] 0 0 = T.als 0 [] 0 0 ∨ T.als 0 [] 0 0 = T.d (.atom pv0)) ∧ some pv0 = some pv0), Hn (⟨g0.1, cuB F2_ g0⟩ : (0 : Int) ≤ k_ ∧ k_.toNat ≤ (s_.map F2_).length), Hn (rfl : T.d (.atom (ZW 1 pv0 k_)) = T.d (.atom (ZW 1 pv0 k_))), Hh (.cut 1)]) ?_ fun J4 hJ4 => ?_
      ·rintro ⟨s_1, k_1⟩ hf1
       unfold zS at hf1
       obtain ⟨g1, hf1⟩ := gdE hf1
       obtain ⟨g2, hf1⟩ := gdE hf1
       obtain ⟨g3, hf1⟩ := gdE hf1
       obtain rfl := za hf1
       obtain rfl := hl1
       obtain rfl := za hf0
       exact yE ((xVc zA 61 1 0 pv0 k_1).or ((xVw zA 61 0 pv0).or zj)) hC hE [Hn (⟨.inl rfl, rfl⟩ : (T.als 0 [] 0 0 = T.als 0 [] 0 0 ∨ T.als 0 [] 0 0 = T.d (.atom pv0)) ∧ some pv0 = some pv0), Hn (⟨g1.1, cuB F2_ g1⟩ : (0 : Int) ≤ k_1 ∧ k_1.toNat ≤ (s_1.map F2_).length), Hn (⟨rfl, rfl⟩ : T.d (.atom (ZW 1 pv0 k_1)) = T.d (.atom (ZW 1 pv0 k_1)) ∧ some pv0 = some pv0), Hn (⟨g2.1, cuB F2_ g2, dM F2_ s_1⟩ : (0 : Int) ≤ k_1 ∧ k_1.toNat ≤ (s_1.map F2_).length ∧ A.areD (s_1.map F2_) = true), Hx (.l ((s_1.take k_1.toNat ++ List.replicate (s_1.length - k_1.toNat) []).map F2_)) (vcM F2_ s_1 k_1.toNat ([] : List Int)), Hn g3.1, Hn (cuB F2_ g3), Hl (cuM F2_ (s_1.take k_1.toNat ++ List.replicate (s_1.length - k_1.toNat) []) k_1)]
      ·obtain ⟨t5, ht5, hf1⟩ := zf hf1
       refine yL zj hC zH [1,1,2,1,0,0,1,2,0,1,0,1,2,1,0] [J1, J2, J3, J4] (fun s => zQ k_ s.1 s.2.1 s.2.2) (fun x => qI pv0 k_ x.1 x.2.1 x.2.2) (s_, k_, 1) ht5  [] ?_
       rintro ⟨s_2, k_2, k2⟩ m5 lr2 hf2 hl2 J5 hJ5
       try unfold zQ at hf2
       let Z3 : List HO := [Hn (⟨rfl, rfl⟩ : T.d (.atom (ZW 1 pv0 k_)) = T.d (.atom (ZW 1 pv0 k_)) ∧ some pv0 = some pv0), Hx (.a (.atom (.int .i64 ((s_2.length - k_.toNat : Nat) : Int)))) (vlM F2_ s_2 k_.toNat)]
       rcases zG hf2 with ⟨c3, hf2⟩ | ⟨c3, hf2⟩
       ·refine yJ ((xVl zA 34 29 1 0 pv0 k_ (by kernel_rfl)).or zj) hC zH [1,1,2,1,0,0,1,2,0,1,0,1,2,1,0,0,1] [J1, J2, J3, J4, J5] [0,1,5,6,7] (fun z : List (List Int) × Int => zR k2 z.1 z.2 = some lr2) (fun z => qK pv0 k_ k2 z.1 z.2) [(0, .own (eOs 1 false F2_ s_2)), (1, .d (.fn 107 [])), (5, .d (I k_2)), (6, .d (.atom (ZW 1 pv0 k_))), (7, .d (I k2))] (Z3 ++ [Hq c3, Hh (.cut 0)]) ?_ fun J6 hJ6 => ?_
        ·rintro ⟨s_3, k_3⟩ hf2
         unfold zR at hf2
         obtain rfl := za hf2
         exact yB zj hC hJ5 (s_3, k_3, w64 (k2 + 1)) hl2 []
        ·obtain ⟨g4, hf2⟩ := gdE hf2
         obtain ⟨s__e2, h3, hf2⟩ := zf hf2
         obtain ⟨g5, hf2⟩ := gdE hf2
         obtain ⟨s__e3, h4, hf2⟩ := zf hf2
         obtain ⟨r_1, h5, hf2⟩ := zf hf2
         let Z4 : List HO := [Hn (⟨rfl, rfl⟩ : T.d (.atom (ZW 1 pv0 k_)) = T.d (.atom (ZW 1 pv0 k_)) ∧ some pv0 = some pv0), Hn (⟨g4.1, g4.2, (iL F2_ h3).2⟩ : (0 : Int) ≤ k_ ∧ (0 : Int) ≤ k2 ∧ (k_ + k2).toNat < (s_2.map F2_).length), Hs (iM F2_ h3), Hn (⟨rfl, rfl⟩ : T.d (.atom (ZW 1 pv0 k_)) = T.d (.atom (ZW 1 pv0 k_)) ∧ some pv0 = some pv0), Hn (⟨g5.1, g5.2, (iL F2_ h4).2⟩ : (0 : Int) ≤ k_ ∧ (0 : Int) ≤ w64 (k2 - 1) ∧ (k_ + (w64 (k2 - 1))).toNat < (s_2.map F2_).length), Hs (iM F2_ h4), Hc h_tries_sorted_1 (x := (s__e2, s__e3)) h5 (loC F2_ s__e2 <| loC F2_ s__e3 <| loN)]
         rcases zG hf2 with ⟨c4, hf2⟩ | ⟨c4, hf2⟩
         ·obtain ⟨g6, hf2⟩ := gdE hf2
          obtain ⟨s__e4, h6, hf2⟩ := zf hf2
          obtain ⟨s__e5, h7, hf2⟩ := zf hf2
          exact yB ((xVi zA 54 1 0 pv0 k_).or ((xVi zA 46 1 0 pv0 k_).or ((xVi zA 41 1 0 pv0 k_).or zj))) hC hJ6 ((s_2.set k_2.toNat s__e4), w64 (k_2 + 1)) hf2 (Z4 ++ [Hq c4, Hn (⟨rfl, rfl⟩ : T.d (.atom (ZW 1 pv0 k_)) = T.d (.atom (ZW 1 pv0 k_)) ∧ some pv0 = some pv0), Hn (⟨g6.1, g6.2, (iL F2_ h6).2⟩ : (0 : Int) ≤ k_ ∧ (0 : Int) ≤ k2 ∧ (k_ + k2).toNat < (s_2.map F2_).length), Hs (iM F2_ h6), Hn (iL F2_ h7), Hs (iM F2_ h7), Hs (iM F2_ h7), Hl (sM F2_ s_2 k_2 s__e4)])
         ·exact yB ((xVi zA 46 1 0 pv0 k_).or ((xVi zA 41 1 0 pv0 k_).or zj)) hC hJ6 (s_2, k_2) hf2 (Z4 ++ [Hq c4])
       ·obtain rfl := za hf2
        obtain rfl := hl2
        exact yB ((xVl zA 34 29 1 0 pv0 k_ (by kernel_rfl)).or zj) hC hJ4 (s_2, k_2) hf1 (Z3 ++ [Hq c3])
     ·exact yB zj hC hJ3 () hf1 (Z2 ++ [Hq c2])
   ·obtain rfl := za hf1
    obtain rfl := hl1
    exact yB zj hC hJ1 () hf0 (Z1 ++ [Hq c1])
noncomputable def Zs : Code := (Tryz.f93.body).getD .skip
noncomputable def yq : zU := spR (α := List (List Int)) (ρ := List (List Int)) 93 (fun x => [F9_ x]) (fun r => (eOs 1 true F2_) r) (fun x => x9 x) [true] (UQ)
theorem Zq : ∀ x r, (fun x => x9 x) x = some r → (Jw.add yq).run 93 ((Jw.add yq).norm 93 ((fun x => [F9_ x]) x)) = some ((fun r => (eOs 1 true F2_) r) r) := fun x r h => zg2 h rfl
theorem Zr : (Jw.add yq).lend 93 = none ∧ (Jw.add yq).gives 93 = [true] := ze6
theorem wQ {ctr : Ctr} (hC : zu Tryz.prog ctr) : yq.Ok Tryz.prog := by
 refine zaY ?_
 rintro s_ r0 hf0
 try unfold x9 at hf0
 refine yO true [(2, none)] Zs 9 Tryz.func93 fun E hE => ?_
 obtain rfl := za hf0
 exact yE ((xCl zA 8).or X0) hC hE [Ha (lnM F2_ s_), Ha (lnM F2_ s_), Hn (Int.natCast_nonneg _ : (0 : Int) ≤ ((s_.length : Nat) : Int)), Hn (Int.natCast_nonneg _ : (0 : Int) ≤ ((s_.length : Nat) : Int)), Hn (clB F2_ s_), Ha (clE 1 F2_ s_)]
noncomputable def ZY : Code := (Tryz.f90.body).getD .skip
noncomputable def jr : zU := spF (α := List (List Int)) (ρ := Int) 90 (fun x => [F8_ x]) (fun r => (eI .i64) r) (fun x => qZ x) [] (UQ)
abbrev VT (n_ : Int) : List (Nat × T) := [(2, .d (I n_))]
abbrev VS (l_ : List (List Int)) (n_1 : Int) (x7 : Int) : List (Nat × T) := [(2, .d (I n_1)), (5, .d (eSl 1 false F2_ l_)), (6, .d (I ((l_.length : Nat) : Int))), (7, .d (I x7))]
theorem KN {ctr : Ctr} (hC : zu Tryz.prog ctr) : jr.Ok Tryz.prog := by
 refine zy ?_
 rintro l_ r0 hf0
 try unfold qZ at hf0
 refine yO true [(2, none)] ZY 17 Tryz.func90 fun E hE => ?_
 refine yJ X0 hC ZY [1] [] [2] (fun z : Int => ZF z = some r0) (fun z => VT z) [(0, .d (eSl 1 false F2_ l_)), (2, .d (I 0))] [Hh (.cut 1)] ?_ fun J1 hJ1 => ?_
 ·rintro n_ hf0
  unfold ZF at hf0
  obtain rfl := za hf0
  exact yE X0 hC hE []
 ·obtain ⟨t2, ht2, hf0⟩ := zf hf0
  refine yL X0 hC ZY [1,2,1,0] [J1] (fun s => vK l_ s.1 s.2) (fun x => VS l_ x.1 x.2) (0,0) ht2  [Ha (lnM F2_ l_)] ?_
  rintro ⟨n_1, x7⟩ m2 lr1 hf1 hl1 J2 hJ2
  try unfold vK at hf1
  rcases zG hf1 with ⟨c0, hf1⟩ | ⟨c0, hf1⟩
  ·obtain ⟨l__e, h0, hf1⟩ := zf hf1
   obtain rfl := za hf1
   exact yB X0 hC hJ2 (w64 (n_1 + ((l__e.length : Nat) : Int)), w64 (x7 + 1)) hl1 [Hq c0, Hi F2_ h0, Ha (lnM (eI .i64) l__e)]
  ·obtain rfl := za hf1
   obtain rfl := hl1
   exact yB X0 hC hJ1 n_1 hf0 [Hq c0]
noncomputable def wp : Code := (Tryz.f72.body).getD .skip
noncomputable def u9 : zU := spF (α := List (List Int)) (ρ := List (List Int) × Int) 72 (fun x => [F8_ x]) (fun r => .tup [F7_ r.1, (eI .i64) r.2]) (fun x => xg x) [] (UQ)
abbrev Vh (out : List (List Int × Bool)) : List (Nat × T) := [(4, .own (eOs 1 true (eFl 1 (eI .i64)) out))]
abbrev Vg (pv4 : Value) (r_2 : List (List Int)) (out2 : List (List Int × Bool)) (x24 : Int) : List (Nat × T) := [(4, .own (eOs 1 true (eFl 1 (eI .i64)) out2)), (22, .d (.atom (ZW 1 pv4 (0 : Int)))), (23, .d (I ((r_2.length - (0 : Int).toNat : Nat) : Int))), (24, .d (I x24))]
theorem JW {ctr : Ctr} (hC : zu Tryz.prog ctr) (h_slices_CloneW_int_int : ctr.Has vg) (h_words_Compare : ctr.Has vF) (h_slices_CompactFuncW_int_int : ctr.Has xE) (h_tries_steps : ctr.Has jr) (h_slices_Clone_int_int : ctr.Has w5) (h_slices_Clip_int_int : ctr.Has yM) : u9.Ok Tryz.prog := by
 refine zy ?_
 rintro l_ r0 hf0
 try unfold xg at hf0
 refine yO false [(2, none), (3, none)] wp 37 Tryz.func72 fun E hE => ?_
 obtain ⟨r_, h0, hf0⟩ := zf hf0
 refine yA X0 hC wp [1,1] [] [(4, .own (eOs 1 false F2_ r_))] [Hc h_slices_CloneW_int_int (x := l_) h0 (loC F8_ l_ <| loN), Hh (.cut 0)] ?_
 obtain ⟨sorted, h1, hf0⟩ := zf hf0
 refine z1X (by kernel_rfl) (x := (sub [1,1,0] wp)) (y := (sub [1,1,1] wp)) 4 (fun st1 => Own.canon [4] st1 = ofL [(4, .own (eOs 1 false F2_ sorted))]) (fun pv4 => yF ((vq (P := Tryz.prog) xX [4] (z4J zaZ (f := F2_) (t := false) (v := pv4) (fun _ => rfl) (fun _ => rfl) (fun x y c h => yp hC h_words_Compare (x := (x, y)) h) h1) 10).or X0) hC .normal [(4, .own (eOs 1 false F2_ sorted))] [Hn (ZH (f := .fn 104 []) (xs := [.atom pv4, .fn 105 []]) (ls := [(pv4, eOs 1 false F2_ r_)]) (r := .tup []) (ys := [eOs 1 false F2_ sorted]) [.atom pv4, .fn 105 []] (show z0L [.atom pv4, .fn 105 []] [.atom pv4, .fn 105 []] from inferInstance))] fun st0 h0 => ⟨rfl, h0⟩) fun st1 h1 => z85 h1 ?_
 obtain ⟨r_1, h2, hf0⟩ := zf hf0
 obtain ⟨r_2, h3, hf0⟩ := zf hf0
 let Z0 : List HO := [Hc h_slices_CompactFuncW_int_int (x := (sorted, ())) h2 (loC F9_ sorted <| loC (YR 107) () <| loN), Hh (.g [true]), Hn Zr, Hx (.a ((eOs 1 true F2_) r_2)) (Zq r_1 _ h3), Ha (lnM F2_ r_2)]
 rcases zG hf0 with ⟨c0, hf0⟩ | ⟨c0, hf0⟩
 ·obtain rfl := za hf0
  exact yEx ((z0Q zA (wQ hC) 13).or X0) hC hE (Z0 ++ (rpN 4 (Hq c0) [qT, Hm (shM F2_ F2_ [])])) (.tup [eSl 1 true F0_ [], I 3]) (show LeV (.tup [eSl 1 true F0_ [], I 3]) (.tup [eSl 1 true F0_ ([] : List (List Int)), I 3]) from inferInstance)
 ·obtain ⟨r_3, h4, hf0⟩ := zf hf0
  let Z1 : List HO := (Z0 ++ [Hq c0, Hq c0, Hg (z2B h_tries_steps), Hm (shM F2_ F2_ r_2), Hs (z2C h_tries_steps (x := r_2) h4 (loC (eSl 1 true F2_) r_2 <| loN)), Hq c0, Hq c0])
  rcases zG hf0 with ⟨c1, hf0⟩ | ⟨c1, hf0⟩
  ·obtain rfl := za hf0
   exact yEx ((z0Q zA (wQ hC) 13).or X0) hC hE (Z1 ++ [Hq c1, Hm (shM F2_ F2_ [])]) (.tup [eSl 1 true F0_ [], I 3]) (show LeV (.tup [eSl 1 true F0_ [], I 3]) (.tup [eSl 1 true F0_ ([] : List (List Int)), I 3]) from inferInstance)
  ·refine yA ((z0Q zA (wQ hC) 13).or X0) hC wp [1,1,1,1,1] [] [(4, .own (eOs 1 true F2_ r_2))] (Z1 ++ [Hq c1, Hh (.cut 0)]) ?_
   refine z0E (y := eOs 1 true F2_ r_2) (by kernel_rfl) 4 (by kernel_rfl) (by kernel_rfl) fun pv4 hv4 => ?_
   refine yJ X0 hC wp [1,1,1,1,1] [] [4] (fun z : List (List Int × Bool) => qj z = some r0) (fun z => Vh z) [(4, .own (eOs 1 true F2_ r_2))] [Hh (.cut 0)] ?_ fun J1 hJ1 => ?_
   ·rintro out hf0
    unfold qj at hf0
    obtain ⟨hfl0, hf0⟩ := gdE hf0
    obtain rfl := za hf0
    exact yEx X0 hC hE [Hm (shM (eFl 1 (eI .i64)) (eFl 1 (eI .i64)) out)] (.tup [eSl 1 true (eFl 1 (eI .i64)) out, I 0]) (haveI := flA (s := 1) (t := 1) (b := true) (f := (eI .i64)) hfl0; show LeV (.tup [eSl 1 true (eFl 1 (eI .i64)) out, I 0]) (.tup [eSl 1 true F0_ (out.map (·.1)), I 0]) from inferInstance)
   ·obtain ⟨t2, ht2, hf0⟩ := zf hf0
    refine yLx ((xVl zA 23 29 1 4 pv4 (0 : Int) (by kernel_rfl)).or ((xMw Tryz.prog 22 4 1 pv4).or X0)) hC wp [1,1,1,1,1,2,1,0] [J1] (fun s => xA r_2 s.1 s.2) (fun x => Vg pv4 r_2 x.1 x.2) ((r_2.map fun q => (q, false)), 0) ht2 [(4, .own (eOs 1 true F2_ r_2)), (22, .d (.atom (ZW 1 pv4 (0 : Int)))), (23, .d (I ((r_2.length - (0 : Int).toNat : Nat) : Int))), (24, .d (I 0))] inferInstance [Hn (rfl : some pv4 = some pv4), Hn (⟨rfl, rfl⟩ : T.d (.atom (ZW 1 pv4 (0 : Int))) = T.d (.atom (ZW 1 pv4 (0 : Int))) ∧ some pv4 = some pv4), Hx (.a (.atom (.int .i64 ((r_2.length - (0 : Int).toNat : Nat) : Int)))) (vlM F2_ r_2 (0 : Int).toNat)] ?_
    rintro ⟨out2, x24⟩ m2 lr1 hf1 hl1 J2 hJ2
    try unfold xA at hf1
    rcases zG hf1 with ⟨c2, hf1⟩ | ⟨c2, hf1⟩
    ·obtain ⟨g0, hf1⟩ := gdE hf1
     obtain ⟨out_e, h5, hf1⟩ := zf hf1
     obtain ⟨r_4, h6, hf1⟩ := zf hf1
     obtain ⟨r_5, h7, hf1⟩ := zf hf1
     obtain ⟨out_e1, h8, hf1⟩ := zf hf1
     obtain rfl := za hf1
     exact yB ((xVi zA 27 1 4 pv4 (0 : Int)).or X0) hC hJ2 ((out2.set x24.toNat (r_5, true)), w64 (x24 + 1)) hl1 [Hq c2, Hn (⟨rfl, rfl⟩ : T.d (.atom (ZW 1 pv4 (0 : Int))) = T.d (.atom (ZW 1 pv4 (0 : Int))) ∧ some pv4 = some pv4), Hn (⟨g0.1, g0.2, (iL (eFl 1 (eI .i64)) h5).2⟩ : (0 : Int) ≤ 0 ∧ (0 : Int) ≤ x24 ∧ (0 + x24).toNat < (out2.map (eFl 1 (eI .i64))).length), Hs (iM (eFl 1 (eI .i64)) h5), Hc h_slices_Clone_int_int (x := out_e.1) h6 (loC (eSl 1 out_e.2 (eI .i64)) out_e.1 <| loN), Hg (z2B h_slices_Clip_int_int), Hm (shM (eI .i64) (eI .i64) r_4), Hs (z2C h_slices_Clip_int_int (x := r_4) h7 (loC F2_ r_4 <| loN)), Hm (shM (eI .i64) (eI .i64) r_4), Hn (iL (eFl 1 (eI .i64)) h8), Hs (iM (eFl 1 (eI .i64)) h8), Hs (iM (eFl 1 (eI .i64)) h8), Hl (sM (eFl 1 (eI .i64)) out2 x24 (r_5, true))]
    ·obtain rfl := za hf1
     obtain rfl := hl1
     exact yB X0 hC hJ1 out2 hf0 [Hq c2]
noncomputable def z0z : Code := (Tryz.f35.body).getD .skip
noncomputable def Yz : zU := spF (α := List (List Int) × Int) (ρ := List (List Int) × Int) 35 (fun x => [F8_ x.1, (eI .i64) x.2]) (fun r => .tup [F7_ r.1, (eI .i64) r.2]) (fun x => XM x.1 x.2) [] (Xh)
theorem z0T {ctr : Ctr} (hC : zu Tryz.prog ctr) (h_tries_loose : ctr.Has js) (h_tries_sorted : ctr.Has u9) : Yz.Ok Tryz.prog := by
 refine zy ?_
 rintro ⟨l_, inputs⟩ r0 hf0
 try unfold XM at hf0
 refine yO false [(4, none), (5, none)] z0z 17 Tryz.func35 fun E hE => ?_
 obtain ⟨r_, h0, hf0⟩ := zf hf0
 let Z0 : List HO := [Hc h_tries_loose (x := (l_, inputs)) h0 (loC F8_ l_ <| loC (eI .i64) inputs <| loN)]
 rcases zG hf0 with ⟨c0, hf0⟩ | ⟨c0, hf0⟩
 ·obtain rfl := za hf0
  exact yEx X0 hC hE (Z0 ++ [Hq c0, Hm (shM F2_ F2_ [])]) (.tup [eSl 1 true F0_ [], I r_]) (show LeV (.tup [eSl 1 true F0_ [], I r_]) (.tup [eSl 1 true F0_ ([] : List (List Int)), I r_]) from inferInstance)
 ·obtain ⟨r_1, h1, hf0⟩ := zf hf0
  obtain rfl := za hf0
  exact yE X0 hC hE (Z0 ++ [Hq c0, Hc h_tries_sorted (x := l_) h1 (loC F8_ l_ <| loN)])
noncomputable def UX : Code := (Tryz.f8.body).getD .skip
noncomputable def vG : zU := spF (α := z6) (ρ := List (List Int) × Int) 8 (fun x => [yK x]) (fun r => .tup [F7_ r.1, (eI .i64) r.2]) (fun x => w8 x) [] (UQ)
theorem QB {ctr : Ctr} (hC : zu Tryz.prog ctr) (h_machines_Connected : ctr.Has ub) (h_walks_Access : ctr.Has kP) (h_tries_Sort : ctr.Has Yz) : vG.Ok Tryz.prog := by
 refine zy ?_
 rintro m_ r0 hf0
 try unfold w8 at hf0
 refine yO false [(2, none), (3, none)] UX 33 Tryz.func8 fun E hE => ?_
 obtain ⟨r_, h0, hf0⟩ := zf hf0
 let Z0 : List HO := [Hc h_machines_Connected (x := m_) h0 (loC yK m_ <| loN)]
 rcases zG hf0 with ⟨c0, hf0⟩ | ⟨c0, hf0⟩
 ·obtain rfl := za hf0
  exact yEx X0 hC hE (Z0 ++ [Hq c0, Hm (shM F2_ F2_ [])]) (.tup [eSl 1 true F0_ [], I r_.2]) (show LeV (.tup [eSl 1 true F0_ [], I r_.2]) (.tup [eSl 1 true F0_ ([] : List (List Int)), I r_.2]) from inferInstance)
 ·rcases zG hf0 with ⟨c1, hf0⟩ | ⟨c1, hf0⟩
  ·obtain rfl := za hf0
   exact yEx X0 hC hE (Z0 ++ [Hq c0, Hq c1, Hm (shM F2_ F2_ [])]) (.tup [eSl 1 true F0_ [], I 11]) (show LeV (.tup [eSl 1 true F0_ [], I 11]) (.tup [eSl 1 true F0_ ([] : List (List Int)), I 11]) from inferInstance)
  ·obtain ⟨r_1, h1, hf0⟩ := zf hf0
   let Z1 : List HO := (Z0 ++ [Hq c0, Hq c1, Hc h_walks_Access (x := m_) h1 (loC yK m_ <| loN)])
   rcases zG hf0 with ⟨c2, hf0⟩ | ⟨c2, hf0⟩
   ·obtain rfl := za hf0
    exact yEx X0 hC hE (Z1 ++ [Hq c2, Hm (shM F2_ F2_ [])]) (.tup [eSl 1 true F0_ [], I r_1.2.2]) (show LeV (.tup [eSl 1 true F0_ [], I r_1.2.2]) (.tup [eSl 1 true F0_ ([] : List (List Int)), I r_1.2.2]) from inferInstance)
   ·obtain ⟨r_2, h2, hf0⟩ := zf hf0
    obtain rfl := za hf0
    exact yE X0 hC hE (Z1 ++ [Hq c2, Hc h_tries_Sort (x := (r_1.1, m_.Inputs)) h2 (loC F7_ r_1.1 <| loC (eI .i64) m_.Inputs <| loN)])
noncomputable def wP : Code := (Tryz.f73.body).getD .skip
noncomputable def Xo : zU := spF (α := Int × Int × Int) (ρ := List (List Int) × Int) 73 (fun x => [(eI .i64) x.1, (eI .i64) x.2.1, (eI .i64) x.2.2]) (fun r => .tup [F7_ r.1, (eI .i64) r.2]) (fun x => Yd x.1 x.2.1 x.2.2) [] (zao)
abbrev JP (inputs : Int) (from_ : Int) (to : Int) (k_ : Int) (out1 : List (List Int)) (level1 : List (List Int)) (n_1 : Int) (x45 : Int) (x46 : Bool) (x58 : Bool) : List (Nat × T) := [(0, .d (I inputs)), (1, .d (I from_)), (2, .d (I to)), (8, .own (eOs 1 false F2_ out1)), (9, .own (eOs 1 false F2_ level1)), (10, .d (I n_1)), (11, .d (I k_)), (45, .d (I x45)), (46, .d (B x46)), (49, .d (I k_)), (50, .d (I to)), (51, .d (B (decide (k_ < to)))), (52, .d (B (decide (k_ < to)))), (58, .d (B x58))]
abbrev JM (inputs : Int) (from_ : Int) (to : Int) (k_ : Int) (out2 : List (List Int)) (n_2 : Int) (x581 : Bool) (next : List (List Int)) : List (Nat × T) := [(0, .d (I inputs)), (1, .d (I from_)), (2, .d (I to)), (8, .own (eOs 1 false F2_ out2)), (10, .d (I n_2)), (11, .d (I k_)), (12, .own (eOs 1 false F2_ next)), (45, .d (I n_2)), (46, .d (B (decide (n_2 > 65536)))), (49, .d (I k_)), (50, .d (I to)), (51, .d (B (decide (k_ < to)))), (52, .d (B (decide (k_ < to)))), (58, .d (B x581))]
abbrev JL (inputs : Int) (from_ : Int) (to : Int) (level : List (List Int)) (k_ : Int) (out2 : List (List Int)) (n_2 : Int) (x581 : Bool) (x69 : Int) (next2 : List (List Int)) : List (Nat × T) := [(0, .d (I inputs)), (1, .d (I from_)), (2, .d (I to)), (8, .own (eOs 1 false F2_ out2)), (9, .own (eOs 1 false F2_ level)), (10, .d (I n_2)), (11, .d (I k_)), (12, .own (eOs 1 false F2_ next2)), (45, .d (I n_2)), (46, .d (B (decide (n_2 > 65536)))), (49, .d (I k_)), (50, .d (I to)), (51, .d (B (decide (k_ < to)))), (52, .d (B (decide (k_ < to)))), (58, .d (B x581)), (67, .als 9 [] 0 0), (68, .d (I ((level.length : Nat) : Int))), (69, .d (I x69))]
abbrev JI (inputs : Int) (from_ : Int) (to : Int) (level : List (List Int)) (k_ : Int) (out2 : List (List Int)) (n_2 : Int) (x581 : Bool) (x69 : Int) (level_e : List Int) (next3 : List (List Int)) (x74 : Int) : List (Nat × T) := [(0, .d (I inputs)), (1, .d (I from_)), (2, .d (I to)), (8, .own (eOs 1 false F2_ out2)), (9, .own (eOs 1 false F2_ level)), (10, .d (I n_2)), (11, .d (I k_)), (12, .own (eOs 1 false F2_ next3)), (14, .d (eSl 1 false (eI .i64) level_e)), (45, .d (I n_2)), (46, .d (B (decide (n_2 > 65536)))), (49, .d (I k_)), (50, .d (I to)), (51, .d (B (decide (k_ < to)))), (52, .d (B (decide (k_ < to)))), (58, .d (B x581)), (67, .als 9 [] 0 0), (68, .d (I ((level.length : Nat) : Int))), (69, .d (I x69)), (73, .d (I inputs)), (74, .d (I x74))]
abbrev JJ (inputs : Int) (from_ : Int) (to : Int) (level : List (List Int)) (k_ : Int) (out2 : List (List Int)) (n_2 : Int) (x581 : Bool) (next1 : List (List Int)) (x69 : Int) : List (Nat × T) := [(0, .d (I inputs)), (1, .d (I from_)), (2, .d (I to)), (8, .own (eOs 1 false F2_ out2)), (9, .own (eOs 1 false F2_ level)), (10, .d (I n_2)), (11, .d (I k_)), (12, .own (eOs 1 false F2_ next1)), (45, .d (I n_2)), (46, .d (B (decide (n_2 > 65536)))), (49, .d (I k_)), (50, .d (I to)), (51, .d (B (decide (k_ < to)))), (52, .d (B (decide (k_ < to)))), (58, .d (B x581)), (67, .als 9 [] 0 0), (68, .d (I ((level.length : Nat) : Int))), (69, .d (I x69))]
abbrev JN (inputs : Int) (from_ : Int) (to : Int) (level : List (List Int)) (k_ : Int) (out2 : List (List Int)) (n_2 : Int) (x581 : Bool) : List (Nat × T) := [(0, .d (I inputs)), (1, .d (I from_)), (2, .d (I to)), (8, .own (eOs 1 false F2_ out2)), (9, .own (eOs 1 false F2_ level)), (10, .d (I n_2)), (11, .d (I k_)), (45, .d (I n_2)), (46, .d (B (decide (n_2 > 65536)))), (49, .d (I k_)), (50, .d (I to)), (51, .d (B (decide (k_ < to)))), (52, .d (B (decide (k_ < to)))), (58, .d (B x581))]
abbrev JO (inputs : Int) (from_ : Int) (to : Int) (level : List (List Int)) (k_ : Int) (out2 : List (List Int)) (n_2 : Int) : List (Nat × T) := [(0, .d (I inputs)), (1, .d (I from_)), (2, .d (I to)), (8, .own (eOs 1 false F2_ out2)), (9, .own (eOs 1 false F2_ level)), (10, .d (I n_2)), (11, .d (I k_))]
abbrev JK (inputs : Int) (from_ : Int) (to : Int) (out : List (List Int)) (level : List (List Int)) (n_ : Int) (k_ : Int) : List (Nat × T) := [(0, .d (I inputs)), (1, .d (I from_)), (2, .d (I to)), (8, .own (eOs 1 false F2_ out)), (9, .own (eOs 1 false F2_ level)), (10, .d (I n_)), (11, .d (I k_))]
noncomputable def zI : XH Tryz.prog := ((zdx zA (.inl 83) [82]).or X0)
theorem z2a {ctr : Ctr} (hC : zu Tryz.prog ctr) (h_tries_sorted : ctr.Has u9) (h_slices_Clip_int_int : ctr.Has yM) : Xo.Ok Tryz.prog := by
 refine zy ?_
 rintro ⟨inputs, from_, to⟩ r0 hf0
 try unfold Yd at hf0
 refine yO false [(6, none), (7, none)] wP 88 Tryz.func73 fun E hE => ?_
 rcases zG hf0 with ⟨c0, hf0⟩ | ⟨c0, hf0⟩
 ·obtain rfl := za hf0
  exact yEx zI hC hE [Hq c0, Hm (shM F2_ F2_ [])] (.tup [eSl 1 true F0_ [], I 3]) (show LeV (.tup [eSl 1 true F0_ [], I 3]) (.tup [eSl 1 true F0_ ([] : List (List Int)), I 3]) from inferInstance)
 ·rcases zG hf0 with ⟨c1, hf0⟩ | ⟨c1, hf0⟩
  ·obtain rfl := za hf0
   exact yEx zI hC hE [Hq c0, Hq c1, Hq c1, Hq c1, qT, Hm (shM F2_ F2_ [])] (.tup [eSl 1 true F0_ [], I 1]) (show LeV (.tup [eSl 1 true F0_ [], I 1]) (.tup [eSl 1 true F0_ ([] : List (List Int)), I 1]) from inferInstance)
  ·let Z0 : List HO := [Hq c0, Hq c1, Hq c1, Hq c1]
   rcases zG hf0 with ⟨c2, hf0⟩ | ⟨c2, hf0⟩
   ·obtain rfl := za hf0
    exact yEx zI hC hE (Z0 ++ [Hq c2, Hm (shM F2_ F2_ [])]) (.tup [eSl 1 true F0_ [], I 1]) (show LeV (.tup [eSl 1 true F0_ [], I 1]) (.tup [eSl 1 true F0_ ([] : List (List Int)), I 1]) from inferInstance)
   ·rcases zG hf0 with ⟨c3, hf0⟩ | ⟨c3, hf0⟩
    ·obtain rfl := za hf0
     exact yEx zI hC hE (Z0 ++ [Hq c2, Hq c3, Hm (shM F2_ F2_ [])]) (.tup [eSl 1 true F0_ [], I 3]) (show LeV (.tup [eSl 1 true F0_ [], I 3]) (.tup [eSl 1 true F0_ ([] : List (List Int)), I 3]) from inferInstance)
    ·obtain ⟨t1, ht1, hf0⟩ := zf hf0
     refine yLx zI hC wP [1,1,1,1,1,1,1,1,0] [] (fun s => vz inputs from_ to s.1 s.2.1 s.2.2.1 s.2.2.2) (fun x => JK inputs from_ to x.1 x.2.1 x.2.2.1 x.2.2.2) (([] : List (List Int)), ([[]] : List (List Int)), 0,0) ht1 [(0, .d (I inputs)), (1, .d (I from_)), (2, .d (I to)), (8, .own (eOs 1 true F2_ [])), (9, .own (eOs 1 true F0_ ([[]]))), (10, .d (I 0)), (11, .d (I 0))] inferInstance (Z0 ++ [Hq c2, Hq c3, Hh (.v 5 [9]), Hm (shM F1_ F0_ ([[]] : List (List Int)))]) ?_
     rintro ⟨out, level, n_, k_⟩ m1 lr1 hf1 hl1 J1 hJ1
     try unfold vz at hf1
     refine yJ zI hC wP [1,1,1,1,1,1,1,1,0,0] [J1] [0,1,2,8,9,10,11,45,46,49,50,51,52,58] (fun z : List (List Int) × List (List Int) × Int × Int × Bool × Bool => Zy k_ z.1 z.2.1 z.2.2.1 z.2.2.2.1 z.2.2.2.2.1 z.2.2.2.2.2 = some lr1) (fun z => JP inputs from_ to k_ z.1 z.2.1 z.2.2.1 z.2.2.2.1 z.2.2.2.2.1 z.2.2.2.2.2) [(0, .d (I inputs)), (1, .d (I from_)), (2, .d (I to)), (8, .own (eOs 1 false F2_ out)), (9, .own (eOs 1 false F2_ level)), (10, .d (I n_)), (11, .d (I k_))] [Hh (.cut 0)] ?_ fun J2 hJ2 => ?_
     ·rintro ⟨out1, level1, n_1, x45, x46, x58⟩ hf1
      unfold Zy at hf1
      obtain rfl := za hf1
      exact yB zI hC hJ1 (out1, level1, n_1, w64 (k_ + 1)) hl1 []
     ·refine yJ zI hC wP [1,1,1,1,1,1,1,1,0,0,2,0] [J1, J2] [0,1,2,8,9,10,11] (fun z : List (List Int) × Int => q9 inputs to level k_ z.1 z.2 = some lr1) (fun z => JO inputs from_ to level k_ z.1 z.2) [(0, .d (I inputs)), (1, .d (I from_)), (2, .d (I to)), (8, .own (eOs 1 false F2_ out)), (9, .own (eOs 1 false F2_ level)), (10, .d (I n_)), (11, .d (I k_))] [Hh (.cut 0)] ?_ fun J3 hJ3 => ?_
      ·rintro ⟨out2, n_2⟩ hf1
       unfold q9 at hf1
       refine yJ zI hC wP [1,1,1,1,1,1,1,1,0,0,2,0,1] [J1, J2] [0,1,2,8,9,10,11,45,46,49,50,51,52,58] (fun z : Bool => uZ inputs to level k_ out2 n_2 z = some lr1) (fun z => JN inputs from_ to level k_ out2 n_2 z) [(0, .d (I inputs)), (1, .d (I from_)), (2, .d (I to)), (8, .own (eOs 1 false F2_ out2)), (9, .own (eOs 1 false F2_ level)), (10, .d (I n_2)), (11, .d (I k_))] [Hh (.cut 0)] ?_ fun J4 hJ4 => ?_
       ·rintro x581 hf1
        unfold uZ at hf1
        rcases zG hf1 with ⟨c4, hf1⟩ | ⟨c4, hf1⟩
        ·obtain ⟨r_, h0, hf1⟩ := zf hf1
         obtain rfl := za hf1
         obtain rfl := hl1
         obtain rfl := za hf0
         exact yE zI hC hE [Hq c4, Hg (z2B h_tries_sorted), Hm (shM F2_ F2_ out2), Hs (z2C h_tries_sorted (x := out2) h0 (loC F8_ out2 <| loN)), Hm (shM F2_ F2_ out2)]
        ·refine yJ zI hC wP [1,1,1,1,1,1,1,1,0,0,2,0,1,1,1,1] [J1, J2] [0,1,2,8,10,11,12,45,46,49,50,51,52,58] (fun z : List (List Int) => Zx k_ out2 n_2 x581 z = some lr1) (fun z => JM inputs from_ to k_ out2 n_2 x581 z) [(0, .d (I inputs)), (1, .d (I from_)), (2, .d (I to)), (8, .own (eOs 1 false F2_ out2)), (9, .own (eOs 1 false F2_ level)), (10, .d (I n_2)), (11, .d (I k_)), (12, .own (eOs 1 true F2_ [])), (45, .d (I n_2)), (46, .d (B (decide (n_2 > 65536)))), (49, .d (I k_)), (50, .d (I to)), (51, .d (B (decide (k_ < to)))), (52, .d (B (decide (k_ < to)))), (58, .d (B x581))] [Hq c4, Hh (.cut 1)] ?_ fun J5 hJ5 => ?_
         ·rintro next hf1
          unfold Zx at hf1
          exact yB zI hC hJ2 (out2, next, n_2, n_2, decide (n_2 > 65536), x581) hf1 []
         ·obtain ⟨t6, ht6, hf1⟩ := zf hf1
          refine yLx zI hC wP [1,1,1,1,1,1,1,1,0,0,2,0,1,1,1,1,2,1,0] [J1, J2, J5] (fun s => wG inputs level s.1 s.2) (fun x => JJ inputs from_ to level k_ out2 n_2 x581 x.1 x.2) (([] : List (List Int)), 0) ht6 [(0, .d (I inputs)), (1, .d (I from_)), (2, .d (I to)), (8, .own (eOs 1 false F2_ out2)), (9, .own (eOs 1 false F2_ level)), (10, .d (I n_2)), (11, .d (I k_)), (12, .own (eOs 1 true F2_ [])), (45, .d (I n_2)), (46, .d (B (decide (n_2 > 65536)))), (49, .d (I k_)), (50, .d (I to)), (51, .d (B (decide (k_ < to)))), (52, .d (B (decide (k_ < to)))), (58, .d (B x581)), (67, .als 9 [] 0 0), (68, .d (I ((level.length : Nat) : Int))), (69, .d (I 0))] inferInstance [Ha (lnM F2_ level)] ?_
          rintro ⟨next1, x69⟩ m6 lr2 hf2 hl2 J6 hJ6
          try unfold wG at hf2
          rcases zG hf2 with ⟨c5, hf2⟩ | ⟨c5, hf2⟩
          ·refine yJ zI hC wP [1,1,1,1,1,1,1,1,0,0,2,0,1,1,1,1,2,1,0,0,1,1] [J1, J2, J5, J6] [0,1,2,8,9,10,11,12,45,46,49,50,51,52,58,67,68,69] (fun z : List (List Int) => Zw x69 z = some lr2) (fun z => JL inputs from_ to level k_ out2 n_2 x581 x69 z) [(0, .d (I inputs)), (1, .d (I from_)), (2, .d (I to)), (8, .own (eOs 1 false F2_ out2)), (9, .own (eOs 1 false F2_ level)), (10, .d (I n_2)), (11, .d (I k_)), (12, .own (eOs 1 false F2_ next1)), (45, .d (I n_2)), (46, .d (B (decide (n_2 > 65536)))), (49, .d (I k_)), (50, .d (I to)), (51, .d (B (decide (k_ < to)))), (52, .d (B (decide (k_ < to)))), (58, .d (B x581)), (67, .als 9 [] 0 0), (68, .d (I ((level.length : Nat) : Int))), (69, .d (I x69))] [Hq c5, Hh (.cut 0)] ?_ fun J7 hJ7 => ?_
           ·rintro next2 hf2
            unfold Zw at hf2
            obtain rfl := za hf2
            exact yB zI hC hJ6 (next2, w64 (x69 + 1)) hl2 []
           ·obtain ⟨level_e, h1, hf2⟩ := zf hf2
            obtain ⟨t8, ht8, hf2⟩ := zf hf2
            refine yL zI hC wP [1,1,1,1,1,1,1,1,0,0,2,0,1,1,1,1,2,1,0,0,1,1,2,0,1,1,0] [J1, J2, J5, J6, J7] (fun s => wF inputs level_e s.1 s.2) (fun x => JI inputs from_ to level k_ out2 n_2 x581 x69 level_e x.1 x.2) (next1,0) ht8  [Hn (iL F2_ h1), Hs (iM F2_ h1)] ?_
            rintro ⟨next3, x74⟩ m8 lr3 hf3 hl3 J8 hJ8
            try unfold wF at hf3
            rcases zG hf3 with ⟨c6, hf3⟩ | ⟨c6, hf3⟩
            ·obtain ⟨r_1, h2, hf3⟩ := zf hf3
             obtain ⟨g0, hf3⟩ := gdE hf3
             obtain ⟨g1, hf3⟩ := gdE hf3
             obtain rfl := za hf3
             exact yB zI hC hJ8 ((next3 ++ ([(r_1 ++ ([x74] : List Int))] : List (List Int))), w64 (x74 + 1)) hl3 [Hq c6, Hc h_slices_Clip_int_int (x := level_e) h2 (loC F2_ level_e <| loN), Hq (dM (eI .i64) ([x74] : List Int)), Hn (dM (eI .i64) ([x74] : List Int)), Hn (aN (eI .i64) (eI .i64) g0 (by simp)), Hl (aM (eI .i64) r_1 ([x74] : List Int)), Hm (shM (eI .i64) (eI .i64) (r_1 ++ ([x74] : List Int))), Hq (dM F2_ ([(r_1 ++ ([x74] : List Int))] : List (List Int))), Hn (dM F2_ ([(r_1 ++ ([x74] : List Int))] : List (List Int))), Hn (aL F2_ F2_ g1), Hl (aM F2_ next3 ([(r_1 ++ ([x74] : List Int))] : List (List Int)))]
            ·obtain rfl := za hf3
             obtain rfl := hl3
             exact yB zI hC hJ7 next3 hf2 [Hq c6]
          ·obtain rfl := za hf2
           obtain rfl := hl2
           exact yB zI hC hJ5 next1 hf1 [Hq c5]
       ·let Z1 : List HO := [Ha (lnM F2_ out2)]
        rcases zG hf1 with ⟨c7, hf1⟩ | ⟨c7, hf1⟩
        ·obtain rfl := za hf1
         obtain rfl := hl1
         obtain rfl := za hf0
         exact yEx zI hC hE (Z1 ++ (Hq c7 :: Hq c7 :: Hq c7 :: (rpN 7 qT [Hm (shM F2_ F2_ [])]))) (.tup [eSl 1 true F0_ [], I 3]) (show LeV (.tup [eSl 1 true F0_ [], I 3]) (.tup [eSl 1 true F0_ ([] : List (List Int)), I 3]) from inferInstance)
        ·rcases zG hf1 with ⟨c8, hf1⟩ | ⟨c8, hf1⟩
         ·obtain rfl := za hf1
          obtain rfl := hl1
          obtain rfl := za hf0
          exact yEx zI hC hE (Z1 ++ (Hq c7 :: Hq c7 :: Hq c7 :: (rpN 6 (Hq c8) [qT, Hm (shM F2_ F2_ [])]))) (.tup [eSl 1 true F0_ [], I 3]) (show LeV (.tup [eSl 1 true F0_ [], I 3]) (.tup [eSl 1 true F0_ ([] : List (List Int)), I 3]) from inferInstance)
         ·let Z2 : List HO := (Z1 ++ (Hq c7 :: Hq c7 :: Hq c7 :: (rpN 4 (Hq c8) [])))
          rcases zG hf1 with ⟨c9, hf1⟩ | ⟨c9, hf1⟩
          ·let Z3 : List HO := (Z2 ++ [Hq c9, Hq c9, Ha (lnM F2_ level), Hq c9, Hq c9, Hq c9, Hq c8, Hq c9, Hq c8])
           rcases zG hf1 with ⟨c10, hf1⟩ | ⟨c10, hf1⟩
           ·obtain rfl := za hf1
            obtain rfl := hl1
            obtain rfl := za hf0
            exact yEx zI hC hE (Z3 ++ [Hq c10, Hm (shM F2_ F2_ [])]) (.tup [eSl 1 true F0_ [], I 3]) (show LeV (.tup [eSl 1 true F0_ [], I 3]) (.tup [eSl 1 true F0_ ([] : List (List Int)), I 3]) from inferInstance)
           ·exact yB zI hC hJ4 (decide ((w64 (((level.length : Nat) : Int) * inputs)) > 4096)) hf1 (Z3 ++ [Hq c10])
          ·exact yB zI hC hJ4 false hf1 (Z2 ++ (rpN 5 (Hq c9) [Hq c8, Hq c9, Hq c8, qF]))
      ·rcases zG hf1 with ⟨c11, hf1⟩ | ⟨c11, hf1⟩
       ·obtain ⟨g2, hf1⟩ := gdE hf1
        exact yB zI hC hJ3 ((out ++ level), w64 (n_ + (w64 (k_ * ((level.length : Nat) : Int))))) hf1 [Hq c11, Hq (dM F2_ level), Hn (dM F2_ level), Hn (aL F2_ F2_ g2), Hl (aM F2_ out level), Ha (lnM F2_ level)]
       ·exact yB zI hC hJ3 (out, n_) hf1 [Hq c11]
noncomputable def z0y : Code := (Tryz.f36.body).getD .skip
noncomputable def Yy : zU := spF (α := Int × Int) (ρ := List (List Int) × Int) 36 (fun x => [(eI .i64) x.1, (eI .i64) x.2]) (fun r => .tup [F7_ r.1, (eI .i64) r.2]) (fun x => Ye x.1 x.2) [] (Xh)
theorem z0S {ctr : Ctr} (hC : zu Tryz.prog ctr) (h_tries_all : ctr.Has Xo) : Yy.Ok Tryz.prog := by
 refine zy ?_
 rintro ⟨inputs, k_⟩ r0 hf0
 try unfold Ye at hf0
 refine yO false [(4, none), (5, none)] z0y 11 Tryz.func36 fun E hE => ?_
 obtain ⟨r_, h0, hf0⟩ := zf hf0
 obtain rfl := za hf0
 exact yE X0 hC hE [Hc h_tries_all (x := (inputs, 0, k_)) h0 (loC (eI .i64) inputs <| loC (eI .i64) 0 <| loC (eI .i64) k_ <| loN)]
noncomputable def Y0 : Code := (Tryz.f89.body).getD .skip
noncomputable def ZK : zU := spF (α := List (List Int)) (ρ := Bool) 89 (fun x => [F8_ x]) (fun r => eB r) (fun x => kO x) [] (UQ)
abbrev VX : List (Nat × T) := []
abbrev VW (l_ : List (List Int)) (i_ : Int) : List (Nat × T) := [(0, .d (eSl 1 false F2_ l_)), (3, .d (I i_))]
theorem KP {ctr : Ctr} (hC : zu Tryz.prog ctr) (h_words_Compare : ctr.Has vF) : ZK.Ok Tryz.prog := by
 refine zy ?_
 rintro l_ r0 hf0
 try unfold kO at hf0
 refine yO true [(2, none)] Y0 21 Tryz.func89 fun E hE => ?_
 refine yJ X0 hC Y0 [1] [] [] (fun z : Unit => jq = some r0) (fun z => VX) [(0, .d (eSl 1 false F2_ l_))] [Hh (.cut 1)] ?_ fun J1 hJ1 => ?_
 ·rintro ⟨⟩ hf0
  unfold jq at hf0
  obtain rfl := za hf0
  exact yE X0 hC hE []
 ·obtain ⟨t2, ht2, hf0⟩ := zf hf0
  refine yL X0 hC Y0 [1,2,1,0] [J1] (fun s => vN l_ s) (fun x => VW l_ x) 1 ht2  [] ?_
  rintro i_ m2 lr1 hf1 hl1 J2 hJ2
  try unfold vN at hf1
  let Z0 : List HO := [Ha (lnM F2_ l_)]
  rcases zG hf1 with ⟨c0, hf1⟩ | ⟨c0, hf1⟩
  ·obtain ⟨l__e, h0, hf1⟩ := zf hf1
   obtain ⟨l__e1, h1, hf1⟩ := zf hf1
   obtain ⟨r_, h2, hf1⟩ := zf hf1
   let Z1 : List HO := (Z0 ++ [Hq c0, Hi F2_ h0, Hi F2_ h1, Hc h_words_Compare (x := (l__e, l__e1)) h2 (loC F2_ l__e <| loC F2_ l__e1 <| loN)])
   rcases zG hf1 with ⟨c1, hf1⟩ | ⟨c1, hf1⟩
   ·obtain rfl := za hf1
    obtain rfl := hl1
    obtain rfl := za hf0
    exact yE X0 hC hE (Z1 ++ [Hq c1])
   ·obtain rfl := za hf1
    exact yB X0 hC hJ2 (w64 (i_ + 1)) hl1 (Z1 ++ [Hq c1])
  ·obtain rfl := za hf1
   obtain rfl := hl1
   exact yB X0 hC hJ1 () hf0 (Z0 ++ [Hq c0])
noncomputable def K5 : Code := (Tryz.f61.body).getD .skip
noncomputable def jt : zU := spF (α := List (List Int) × Int) (ρ := Int) 61 (fun x => [F8_ x.1, (eI .i64) x.2]) (fun r => (eI .i64) r) (fun x => j5 x.1 x.2) [] (Xh)
theorem KQ {ctr : Ctr} (hC : zu Tryz.prog ctr) (h_tries_loose : ctr.Has js) (h_tries_ahead : ctr.Has ZK) (h_tries_steps : ctr.Has jr) : jt.Ok Tryz.prog := by
 refine zy ?_
 rintro ⟨l_, inputs⟩ r0 hf0
 try unfold j5 at hf0
 refine yO true [(4, none)] K5 18 Tryz.func61 fun E hE => ?_
 obtain ⟨r_, h0, hf0⟩ := zf hf0
 let Z0 : List HO := [Hc h_tries_loose (x := (l_, inputs)) h0 (loC F8_ l_ <| loC (eI .i64) inputs <| loN)]
 rcases zG hf0 with ⟨c0, hf0⟩ | ⟨c0, hf0⟩
 ·obtain rfl := za hf0
  exact yE X0 hC hE (Z0 ++ [Hq c0])
 ·obtain ⟨r_1, h1, hf0⟩ := zf hf0
  let Z1 : List HO := (Z0 ++ [Hq c0, Hc h_tries_ahead (x := l_) h1 (loC F8_ l_ <| loN)])
  rcases zG hf0 with ⟨c1, hf0⟩ | ⟨c1, hf0⟩
  ·obtain rfl := za hf0
   exact yE X0 hC hE (Z1 ++ [Hq c1])
  ·obtain ⟨r_2, h2, hf0⟩ := zf hf0
   let Z2 : List HO := (Z1 ++ [Hq c1, Hc h_tries_steps (x := l_) h2 (loC F8_ l_ <| loN)])
   rcases zG hf0 with ⟨c2, hf0⟩ | ⟨c2, hf0⟩
   ·obtain rfl := za hf0
    exact yE X0 hC hE (Z2 ++ [Hq c2])
   ·obtain rfl := za hf0
    exact yE X0 hC hE (Z2 ++ [Hq c2])
noncomputable def YV : Code := (Tryz.f74.body).getD .skip
noncomputable def Yx : zU := spF (α := Int × List (List (List Int))) (ρ := Int) 74 (fun x => [(eI .i64) x.1, (eSl 1 false F8_) x.2]) (fun r => (eI .i64) r) (fun x => Yc x.1 x.2) [] (Xh)
abbrev Q0 : List (Nat × T) := []
abbrev UZ (inputs : Int) (l_ : List (List (List Int))) (x10 : Int) : List (Nat × T) := [(0, .d (I inputs)), (8, .d (eSl 1 false F8_ l_)), (9, .d (I ((l_.length : Nat) : Int))), (10, .d (I x10))]
theorem z0R {ctr : Ctr} (hC : zu Tryz.prog ctr) (h_tries_Check : ctr.Has jt) : Yx.Ok Tryz.prog := by
 refine zy ?_
 rintro ⟨inputs, l_⟩ r0 hf0
 try unfold Yc at hf0
 refine yO true [(4, none)] YV 21 Tryz.func74 fun E hE => ?_
 refine yJ X0 hC YV [1] [] [] (fun z : Unit => kq = some r0) (fun z => Q0) [(0, .d (I inputs)), (1, .d (eSl 1 false F8_ l_))] [Hh (.cut 1)] ?_ fun J1 hJ1 => ?_
 ·rintro ⟨⟩ hf0
  unfold kq at hf0
  obtain rfl := za hf0
  exact yE X0 hC hE []
 ·obtain ⟨t2, ht2, hf0⟩ := zf hf0
  refine yL X0 hC YV [1,2,1,0] [J1] (fun s => uk inputs l_ s) (fun x => UZ inputs l_ x) 0 ht2  [Ha (lnM F8_ l_)] ?_
  rintro x10 m2 lr1 hf1 hl1 J2 hJ2
  try unfold uk at hf1
  rcases zG hf1 with ⟨c0, hf1⟩ | ⟨c0, hf1⟩
  ·obtain ⟨l__e, h0, hf1⟩ := zf hf1
   obtain ⟨r_, h1, hf1⟩ := zf hf1
   let Z0 : List HO := [Hq c0, Hi F8_ h0, Hc h_tries_Check (x := (l__e, inputs)) h1 (loC F8_ l__e <| loC (eI .i64) inputs <| loN)]
   rcases zG hf1 with ⟨c1, hf1⟩ | ⟨c1, hf1⟩
   ·obtain rfl := za hf1
    obtain rfl := hl1
    obtain rfl := za hf0
    exact yE X0 hC hE (Z0 ++ [Hq c1])
   ·obtain rfl := za hf1
    exact yB X0 hC hJ2 (w64 (x10 + 1)) hl1 (Z0 ++ [Hq c1])
  ·obtain rfl := za hf1
   obtain rfl := hl1
   exact yB X0 hC hJ1 () hf0 [Hq c0]
noncomputable def XG : Code := (Tryz.f76.body).getD .skip
noncomputable def Xn : zU := spF (α := List Int) (ρ := List UInt8) 76 (fun x => [F2_ x]) (fun r => Wf r) (fun x => Xm x) [] (UQ)
abbrev JH (b_ : List Int) : List (Nat × T) := [(3, .own (eOs 1 true (eI .u8) b_))]
abbrev JG (w_ : List Int) (b_1 : List Int) (x11 : Int) : List (Nat × T) := [(3, .own (eOs 1 true (eI .u8) b_1)), (9, .d (eSl 1 false (eI .i64) w_)), (10, .d (I ((w_.length : Nat) : Int))), (11, .d (I x11))]
theorem z29 {ctr : Ctr} (hC : zu Tryz.prog ctr) : Xn.Ok Tryz.prog := by
 refine zy ?_
 rintro w_ r0 hf0
 try unfold Xm at hf0
 refine yO true [(2, none)] XG 24 Tryz.func76 fun E hE => ?_
 obtain ⟨g0, hf0⟩ := gdE hf0
 refine yJ X0 hC XG [1,1] [] [3] (fun z : List Int => Xl z = some r0) (fun z => JH z) [(0, .d (eSl 1 false (eI .i64) w_)), (3, .own (eOs 1 true (eI .u8) (List.replicate ((w_.length : Nat) : Int).toNat (0 : Int))))] [Ha (lnM (eI .i64) w_), Hn (rL g0), Ha (rM 1 (eI .u8) ((w_.length : Nat) : Int) (0 : Int)), Hh (.cut 0)] ?_ fun J1 hJ1 => ?_
 ·rintro b_ hf0
  unfold Xl at hf0
  obtain rfl := za hf0
  exact yE ((zfA Tryz.prog z9o).or X0) hC hE [Hx (.a (Wf (u8s b_))) (stM b_)]
 ·obtain ⟨t2, ht2, hf0⟩ := zf hf0
  refine yL X0 hC XG [1,1,2,1,0] [J1] (fun s => vw w_ s.1 s.2) (fun x => JG w_ x.1 x.2) ((List.replicate ((w_.length : Nat) : Int).toNat (0 : Int)), 0) ht2  [Ha (lnM (eI .i64) w_)] ?_
  rintro ⟨b_1, x11⟩ m2 lr1 hf1 hl1 J2 hJ2
  try unfold vw at hf1
  rcases zG hf1 with ⟨c0, hf1⟩ | ⟨c0, hf1⟩
  ·obtain ⟨w__e, h0, hf1⟩ := zf hf1
   obtain ⟨b__e, h1, hf1⟩ := zf hf1
   obtain rfl := za hf1
   exact yB X0 hC hJ2 ((b_1.set x11.toNat (IntKind.u8.wrap (w__e))), w64 (x11 + 1)) hl1 [Hq c0, Hi (eI .i64) h0, Hn (iL (eI .u8) h1), Hs (iM (eI .u8) h1), Hs (iM (eI .u8) h1), Hl (sM (eI .u8) b_1 x11 (IntKind.u8.wrap (w__e)))]
  ·obtain rfl := za hf1
   obtain rfl := hl1
   exact yB X0 hC hJ1 b_1 hf0 [Hq c0]
noncomputable def vp : Code := (Tryz.f37.body).getD .skip
noncomputable def kQ : zU := spF (α := List (List Int) × List (List Int) × Int) (ρ := List (List Int) × Int) 37 (fun x => [F8_ x.1, F8_ x.2.1, (eI .i64) x.2.2]) (fun r => .tup [F7_ r.1, (eI .i64) r.2]) (fun x => qa x.1 x.2.1 x.2.2) [] (zao)
abbrev Vm (out : List (List Int)) : List (Nat × T) := [(11, .own (eOs 1 false F2_ out))]
abbrev Vl (a_ : List (List Int)) (b_ : List (List Int)) (x29 : Int) (seen1 : List ((List UInt8) × Bool)) (n_1 : Int) (out2 : List (List Int)) : List (Nat × T) := [(1, .d (eSl 1 false F2_ b_)), (9, .own (.opq (Qg (XV Wf eB seen1)))), (10, .d (I n_1)), (11, .own (eOs 1 false F2_ out2)), (27, .d (eSl 1 false F2_ a_)), (28, .d (I ((a_.length : Nat) : Int))), (29, .d (I x29))]
abbrev Vk (a_ : List (List Int)) (b_ : List (List Int)) (x29 : Int) (a__e : List Int) (x35 : Int) (seen3 : List ((List UInt8) × Bool)) (n_3 : Int) (out4 : List (List Int)) : List (Nat × T) := [(1, .d (eSl 1 false F2_ b_)), (9, .own (.opq (Qg (XV Wf eB seen3)))), (10, .d (I n_3)), (11, .own (eOs 1 false F2_ out4)), (13, .d (eSl 1 false (eI .i64) a__e)), (27, .d (eSl 1 false F2_ a_)), (28, .d (I ((a_.length : Nat) : Int))), (29, .d (I x29)), (33, .d (eSl 1 false F2_ b_)), (34, .d (I ((b_.length : Nat) : Int))), (35, .d (I x35))]
abbrev Vi (a_ : List (List Int)) (b_ : List (List Int)) (x29 : Int) (a__e : List Int) (seen2 : List ((List UInt8) × Bool)) (n_2 : Int) (out3 : List (List Int)) (x35 : Int) : List (Nat × T) := [(1, .d (eSl 1 false F2_ b_)), (9, .own (.opq (Qg (XV Wf eB seen2)))), (10, .d (I n_2)), (11, .own (eOs 1 false F2_ out3)), (13, .d (eSl 1 false (eI .i64) a__e)), (27, .d (eSl 1 false F2_ a_)), (28, .d (I ((a_.length : Nat) : Int))), (29, .d (I x29)), (33, .d (eSl 1 false F2_ b_)), (34, .d (I ((b_.length : Nat) : Int))), (35, .d (I x35))]
abbrev Vj (a_ : List (List Int)) (b_ : List (List Int)) (seen : List ((List UInt8) × Bool)) (n_ : Int) (out1 : List (List Int)) (x29 : Int) : List (Nat × T) := [(1, .d (eSl 1 false F2_ b_)), (9, .own (.opq (Qg (XV Wf eB seen)))), (10, .d (I n_)), (11, .own (eOs 1 false F2_ out1)), (27, .d (eSl 1 false F2_ a_)), (28, .d (I ((a_.length : Nat) : Int))), (29, .d (I x29))]
theorem JX {ctr : Ctr} (hC : zu Tryz.prog ctr) (h_tries_both : ctr.Has Yx) (h_slices_Clip_int_int : ctr.Has yM) (h_tries_key : ctr.Has Xn) (h_tries_sorted : ctr.Has u9) : kQ.Ok Tryz.prog := by
 refine zy ?_
 rintro ⟨a_, b_, inputs⟩ r0 hf0
 try unfold qa at hf0
 refine yO false [(6, none), (7, none)] vp 75 Tryz.func37 fun E hE => ?_
 obtain ⟨r_, h0, hf0⟩ := zf hf0
 let Z0 : List HO := [Hg (z2B h_tries_both), Hm (shM F8_ F8_ ([a_, b_])), Hs (z2C h_tries_both (x := (inputs, [a_, b_])) h0 (loC (eI .i64) inputs <| loC (eSl 1 true F8_) ([a_, b_] : List (List (List Int))) <| loN))]
 rcases zG hf0 with ⟨c0, hf0⟩ | ⟨c0, hf0⟩
 ·obtain rfl := za hf0
  exact yEx X0 hC hE (Z0 ++ [Hq c0, Hm (shM F2_ F2_ [])]) (.tup [eSl 1 true F0_ [], I r_]) (show LeV (.tup [eSl 1 true F0_ [], I r_]) (.tup [eSl 1 true F0_ ([] : List (List Int)), I r_]) from inferInstance)
 ·refine yJ ((zdy Tryz.prog 26).or X0) hC vp [1,1,1,1,1] [] [11] (fun z : List (List Int) => u7 z = some r0) (fun z => Vm z) [(0, .d (eSl 1 false F2_ a_)), (1, .d (eSl 1 false F2_ b_)), (9, .own (.opq (Qg (XV Wf eB ([] : List ((List UInt8) × Bool)))))), (10, .d (I 0)), (11, .own (eOs 1 true F2_ []))] (Z0 ++ [Hq c0, Hh (.cut 3)]) ?_ fun J1 hJ1 => ?_
  ·rintro out hf0
   unfold u7 at hf0
   obtain ⟨r_1, h1, hf0⟩ := zf hf0
   obtain rfl := za hf0
   exact yE X0 hC hE [Hg (z2B h_tries_sorted), Hm (shM F2_ F2_ out), Hs (z2C h_tries_sorted (x := out) h1 (loC F8_ out <| loN)), Hm (shM F2_ F2_ out)]
  ·obtain ⟨t2, ht2, hf0⟩ := zf hf0
   refine yLx X0 hC vp [1,1,1,1,1,2,1,0] [J1] (fun s => u4 a_ b_ s.1 s.2.1 s.2.2.1 s.2.2.2) (fun x => Vj a_ b_ x.1 x.2.1 x.2.2.1 x.2.2.2) (([] : List ((List UInt8) × Bool)), 0, ([] : List (List Int)), 0) ht2 [(1, .d (eSl 1 false F2_ b_)), (9, .own (.opq (Qg (XV Wf eB ([] : List ((List UInt8) × Bool)))))), (10, .d (I 0)), (11, .own (eOs 1 true F2_ [])), (27, .d (eSl 1 false F2_ a_)), (28, .d (I ((a_.length : Nat) : Int))), (29, .d (I 0))] inferInstance [Ha (lnM F2_ a_)] ?_
   rintro ⟨seen, n_, out1, x29⟩ m2 lr1 hf1 hl1 J2 hJ2
   try unfold u4 at hf1
   rcases zG hf1 with ⟨c1, hf1⟩ | ⟨c1, hf1⟩
   ·refine yJ X0 hC vp [1,1,1,1,1,2,1,0,0,1,1] [J1, J2] [1,9,10,11,27,28,29] (fun z : (List ((List UInt8) × Bool)) × Int × List (List Int) => u6 x29 z.1 z.2.1 z.2.2 = some lr1) (fun z => Vl a_ b_ x29 z.1 z.2.1 z.2.2) [(1, .d (eSl 1 false F2_ b_)), (9, .own (.opq (Qg (XV Wf eB seen)))), (10, .d (I n_)), (11, .own (eOs 1 false F2_ out1)), (27, .d (eSl 1 false F2_ a_)), (28, .d (I ((a_.length : Nat) : Int))), (29, .d (I x29))] [Hq c1, Hh (.cut 0)] ?_ fun J3 hJ3 => ?_
    ·rintro ⟨seen1, n_1, out2⟩ hf1
     unfold u6 at hf1
     obtain rfl := za hf1
     exact yB X0 hC hJ2 (seen1, n_1, out2, w64 (x29 + 1)) hl1 []
    ·obtain ⟨a__e, h2, hf1⟩ := zf hf1
     obtain ⟨t4, ht4, hf1⟩ := zf hf1
     refine yL X0 hC vp [1,1,1,1,1,2,1,0,0,1,1,2,0,1,1,0] [J1, J2, J3] (fun s => vd b_ a__e s.1 s.2.1 s.2.2.1 s.2.2.2) (fun x => Vi a_ b_ x29 a__e x.1 x.2.1 x.2.2.1 x.2.2.2) (seen, n_, out1,0) ht4  [Hi F2_ h2, Ha (lnM F2_ b_)] ?_
     rintro ⟨seen2, n_2, out3, x35⟩ m4 lr2 hf2 hl2 J4 hJ4
     try unfold vd at hf2
     rcases zG hf2 with ⟨c2, hf2⟩ | ⟨c2, hf2⟩
     ·obtain ⟨b__e, h3, hf2⟩ := zf hf2
      obtain ⟨r_2, h4, hf2⟩ := zf hf2
      obtain ⟨g0, hf2⟩ := gdE hf2
      let Z1 : List HO := [Hq c2, Hi F2_ h3, Hc h_slices_Clip_int_int (x := a__e) h4 (loC F2_ a__e <| loN), Hn (apM (eI .i64) g0), Hl (aM (eI .i64) r_2 b__e), Ha (lnM (eI .i64) (r_2 ++ b__e))]
      rcases zG hf2 with ⟨c3, hf2⟩ | ⟨c3, hf2⟩
      ·obtain rfl := za hf2
       obtain rfl := hl2
       obtain rfl := za hf1
       obtain rfl := hl1
       obtain rfl := za hf0
       exact yEx ((xAp zA 42).or X0) hC hE (Z1 ++ [Hq c3, Hm (shM F2_ F2_ [])]) (.tup [eSl 1 true F0_ [], I 3]) (show LeV (.tup [eSl 1 true F0_ [], I 3]) (.tup [eSl 1 true F0_ ([] : List (List Int)), I 3]) from inferInstance)
      ·refine yJ ((xAp zA 42).or X0) hC vp [1,1,1,1,1,2,1,0,0,1,1,2,0,1,1,0,0,1,1,0,0,1,1,1] [J1, J2, J3, J4] [1,9,10,11,13,27,28,29,33,34,35] (fun z : (List ((List UInt8) × Bool)) × Int × List (List Int) => ve x35 z.1 z.2.1 z.2.2 = some lr2) (fun z => Vk a_ b_ x29 a__e x35 z.1 z.2.1 z.2.2) [(1, .d (eSl 1 false F2_ b_)), (9, .own (.opq (Qg (XV Wf eB seen2)))), (10, .d (I n_2)), (11, .own (eOs 1 false F2_ out3)), (13, .d (eSl 1 false (eI .i64) a__e)), (16, .d (eSl 1 false (eI .i64) (r_2 ++ b__e))), (27, .d (eSl 1 false F2_ a_)), (28, .d (I ((a_.length : Nat) : Int))), (29, .d (I x29)), (33, .d (eSl 1 false F2_ b_)), (34, .d (I ((b_.length : Nat) : Int))), (35, .d (I x35))] (Z1 ++ [Hq c3, Hh (.cut 0)]) ?_ fun J5 hJ5 => ?_
       ·rintro ⟨seen3, n_3, out4⟩ hf2
        unfold ve at hf2
        let Z2 : List HO := [Ha (lnM F2_ out4)]
        rcases zG hf2 with ⟨c4, hf2⟩ | ⟨c4, hf2⟩
        ·obtain rfl := za hf2
         obtain rfl := hl2
         obtain rfl := za hf1
         obtain rfl := hl1
         obtain rfl := za hf0
         exact yEx X0 hC hE (Z2 ++ [Hq c4, Hq c4, Hq c4, qT, Hm (shM F2_ F2_ [])]) (.tup [eSl 1 true F0_ [], I 3]) (show LeV (.tup [eSl 1 true F0_ [], I 3]) (.tup [eSl 1 true F0_ ([] : List (List Int)), I 3]) from inferInstance)
        ·rcases zG hf2 with ⟨c5, hf2⟩ | ⟨c5, hf2⟩
         ·obtain rfl := za hf2
          obtain rfl := hl2
          obtain rfl := za hf1
          obtain rfl := hl1
          obtain rfl := za hf0
          exact yEx X0 hC hE (Z2 ++ [Hq c4, Hq c4, Hq c4, Hq c5, Hm (shM F2_ F2_ [])]) (.tup [eSl 1 true F0_ [], I 3]) (show LeV (.tup [eSl 1 true F0_ [], I 3]) (.tup [eSl 1 true F0_ ([] : List (List Int)), I 3]) from inferInstance)
         ·obtain rfl := za hf2
          exact yB X0 hC hJ4 (seen3, n_3, out4, w64 (x35 + 1)) hl2 (Z2 ++ [Hq c4, Hq c4, Hq c4, Hq c5])
       ·obtain ⟨r_3, h5, hf2⟩ := zf hf2
        obtain ⟨val, h6, hf2⟩ := zf hf2
        replace h6 := za h6
        let Z3 : List HO := [Hc h_tries_key (x := (r_2 ++ b__e)) h5 (loC F2_ (r_2 ++ b__e) <| loN), Hn (⟨rfl, rfl, z8C (fun _ => rfl) seen2⟩ : A.opq (Qg (XV Wf eB seen2)) = A.opq (Qg (XV Wf eB seen2)) ∧ z0i (Wf r_3) = true ∧ ∀ p ∈ XV Wf eB seen2, z0i p.1 = true), Hx (.a (eB val)) ((zg3 (f := Wf) (g := eB) (z0 := false) (z := .atom (.bool false)) rfl r_3 seen2).trans (congrArg eB h6))]
        rcases zG hf2 with ⟨c6, hf2⟩ | ⟨c6, hf2⟩
        ·obtain ⟨g1, hf2⟩ := gdE hf2
         exact yB ((zfz z5q 52 (XV Wf eB seen2) (XV Wf eB (z3m seen2 r_3 true))).or ((zaw z5q 50 (XV Wf eB seen2)).or X0)) hC hJ5 ((z3m seen2 r_3 true), w64 (n_2 + (((r_2 ++ b__e).length : Nat) : Int)), (out3 ++ ([(r_2 ++ b__e)] : List (List Int)))) hf2 (Z3 ++ [Hq c6, Hn (⟨rfl, rfl, rfl, rfl, z8C (fun _ => rfl) seen2⟩ : T.own (.opq (Qg (XV Wf eB seen2))) = T.own (.opq (Qg (XV Wf eB seen2))) ∧ 0 = 0 ∧ z0i (Wf r_3) = true ∧ (eB true).isD = true ∧ ∀ p ∈ XV Wf eB seen2, z0i p.1 = true), Hn (z9z (f := Wf) (g := eB) r_3 true seen2), Hq (dM F2_ ([(r_2 ++ b__e)] : List (List Int))), Hn (dM F2_ ([(r_2 ++ b__e)] : List (List Int))), Hn (aL F2_ F2_ g1), Hl (aM F2_ out3 ([(r_2 ++ b__e)] : List (List Int))), Ha (lnM (eI .i64) (r_2 ++ b__e))])
        ·exact yB ((zaw z5q 50 (XV Wf eB seen2)).or X0) hC hJ5 (seen2, n_2, out3) hf2 (Z3 ++ [Hq c6])
     ·obtain rfl := za hf2
      obtain rfl := hl2
      exact yB X0 hC hJ3 (seen2, n_2, out3) hf1 [Hq c2]
   ·obtain rfl := za hf1
    obtain rfl := hl1
    exact yB X0 hC hJ1 out1 hf0 [Hq c1]
noncomputable def Vd : Code := (Tryz.f10.body).getD .skip
noncomputable def wI : zU := spF (α := z6 × Int) (ρ := List (List Int) × Int) 10 (fun x => [yK x.1, (eI .i64) x.2]) (fun r => .tup [F7_ r.1, (eI .i64) r.2]) (fun x => yQ x.1 x.2) [] (Xh)
theorem Vr {ctr : Ctr} (hC : zu Tryz.prog ctr) (h_covers_States : ctr.Has vG) (h_tries_Upto : ctr.Has Yy) (h_tries_Concat : ctr.Has kQ) : wI.Ok Tryz.prog := by
 refine zy ?_
 rintro ⟨m_, k_⟩ r0 hf0
 try unfold yQ at hf0
 refine yO false [(4, none), (5, none)] Vd 36 Tryz.func10 fun E hE => ?_
 obtain ⟨r_, h0, hf0⟩ := zf hf0
 let Z0 : List HO := [Hc h_covers_States (x := m_) h0 (loC yK m_ <| loN)]
 rcases zG hf0 with ⟨c0, hf0⟩ | ⟨c0, hf0⟩
 ·obtain rfl := za hf0
  exact yEx X0 hC hE (Z0 ++ [Hq c0, Hm (shM F2_ F2_ [])]) (.tup [eSl 1 true F0_ [], I r_.2]) (show LeV (.tup [eSl 1 true F0_ [], I r_.2]) (.tup [eSl 1 true F0_ ([] : List (List Int)), I r_.2]) from inferInstance)
 ·rcases zG hf0 with ⟨c1, hf0⟩ | ⟨c1, hf0⟩
  ·obtain rfl := za hf0
   exact yEx X0 hC hE (Z0 ++ [Hq c0, Hq c1, Hm (shM F2_ F2_ [])]) (.tup [eSl 1 true F0_ [], I 1]) (show LeV (.tup [eSl 1 true F0_ [], I 1]) (.tup [eSl 1 true F0_ ([] : List (List Int)), I 1]) from inferInstance)
  ·obtain ⟨r_1, h1, hf0⟩ := zf hf0
   let Z1 : List HO := (Z0 ++ [Hq c0, Hq c1, Hc h_tries_Upto (x := (m_.Inputs, k_)) h1 (loC (eI .i64) m_.Inputs <| loC (eI .i64) k_ <| loN)])
   rcases zG hf0 with ⟨c2, hf0⟩ | ⟨c2, hf0⟩
   ·obtain rfl := za hf0
    exact yEx X0 hC hE (Z1 ++ [Hq c2, Hm (shM F2_ F2_ [])]) (.tup [eSl 1 true F0_ [], I r_1.2]) (show LeV (.tup [eSl 1 true F0_ [], I r_1.2]) (.tup [eSl 1 true F0_ ([] : List (List Int)), I r_1.2]) from inferInstance)
   ·obtain ⟨r_2, h2, hf0⟩ := zf hf0
    obtain rfl := za hf0
    exact yE X0 hC hE (Z1 ++ [Hq c2, Hc h_tries_Concat (x := (r_.1, r_1.1, m_.Inputs)) h2 (loC F7_ r_.1 <| loC F7_ r_1.1 <| loC (eI .i64) m_.Inputs <| loN)])
noncomputable def XJ : Code := (Tryz.f9.body).getD .skip
noncomputable def wH : zU := spF (α := z6) (ρ := List (List Int) × Int) 9 (fun x => [yK x]) (fun r => .tup [F7_ r.1, (eI .i64) r.2]) (fun x => yH x) [] (UQ)
theorem W1 {ctr : Ctr} (hC : zu Tryz.prog ctr) (h_covers_Switches : ctr.Has wI) : wH.Ok Tryz.prog := by
 refine zy ?_
 rintro m_ r0 hf0
 try unfold yH at hf0
 refine yO false [(2, none), (3, none)] XJ 8 Tryz.func9 fun E hE => ?_
 obtain ⟨r_, h0, hf0⟩ := zf hf0
 obtain rfl := za hf0
 exact yE X0 hC hE [Hc h_covers_Switches (x := (m_, 1)) h0 (loC yK m_ <| loC (eI .i64) 1 <| loN)]
noncomputable def z0A : Code := (Tryz.f87.body).getD .skip
noncomputable def YA : zU := spF (α := List Int) (ρ := Int) 87 (fun x => [F2_ x]) (fun r => (eI .i64) r) (fun x => kJ x) [] (UQ)
theorem z0V {ctr : Ctr} (hC : zu Tryz.prog ctr) : YA.Ok Tryz.prog := by
 refine zy ?_
 rintro w_ r0 hf0
 try unfold kJ at hf0
 refine yO true [(2, none)] z0A 6 Tryz.func87 fun E hE => ?_
 rcases zG hf0 with ⟨c0, hf0⟩ | ⟨c0, hf0⟩
 ·obtain rfl := za hf0
  exact yE X0 hC hE [Ha (lnM (eI .i64) w_), Hq c0]
 ·obtain rfl := za hf0
  exact yE X0 hC hE [Ha (lnM (eI .i64) w_), Hq c0]
noncomputable def jY : Code := (Tryz.f88.body).getD .skip
noncomputable def jM : zU := spF (α := List Int × Int) (ρ := Int) 88 (fun x => [F2_ x.1, (eI .i64) x.2]) (fun r => (eI .i64) r) (fun x => qr x.1 x.2) [] (Xh)
abbrev WL : List (Nat × T) := []
abbrev WK (w_ : List Int) (inputs : Int) (i_ : Int) : List (Nat × T) := [(0, .d (eSl 1 false (eI .i64) w_)), (1, .d (I inputs)), (5, .d (I i_))]
theorem Qu {ctr : Ctr} (hC : zu Tryz.prog ctr) : jM.Ok Tryz.prog := by
 refine zy ?_
 rintro ⟨w_, inputs⟩ r0 hf0
 try unfold qr at hf0
 refine yO true [(4, none)] jY 25 Tryz.func88 fun E hE => ?_
 refine yJ X0 hC jY [1] [] [] (fun z : Unit => jT = some r0) (fun z => WL) [(0, .d (eSl 1 false (eI .i64) w_)), (1, .d (I inputs))] [Hh (.cut 1)] ?_ fun J1 hJ1 => ?_
 ·rintro ⟨⟩ hf0
  unfold jT at hf0
  obtain rfl := za hf0
  exact yE X0 hC hE []
 ·obtain ⟨t2, ht2, hf0⟩ := zf hf0
  refine yL X0 hC jY [1,2,1,0] [J1] (fun s => wD w_ inputs s) (fun x => WK w_ inputs x) 0 ht2  [] ?_
  rintro i_ m2 lr1 hf1 hl1 J2 hJ2
  try unfold wD at hf1
  rcases zG hf1 with ⟨c0, hf1⟩ | ⟨c0, hf1⟩
  ·obtain ⟨w__e, h0, hf1⟩ := zf hf1
   let Z0 : List HO := [Ha (lnM (eI .i64) w_), Hq c0, Hi (eI .i64) h0]
   rcases zG hf1 with ⟨c1, hf1⟩ | ⟨c1, hf1⟩
   ·obtain rfl := za hf1
    obtain rfl := hl1
    obtain rfl := za hf0
    exact yE X0 hC hE (Z0 ++ (rpN 7 (Hq c1) [qT]))
   ·obtain ⟨w__e1, h1, hf1⟩ := zf hf1
    let Z1 : List HO := (Z0 ++ (Hq c1 :: Hq c1 :: Hq c1 :: Hi (eI .i64) h1 :: (rpN 4 (Hq c1) [])))
    rcases zG hf1 with ⟨c2, hf1⟩ | ⟨c2, hf1⟩
    ·obtain rfl := za hf1
     obtain rfl := hl1
     obtain rfl := za hf0
     exact yE X0 hC hE (Z1 ++ [Hq c2])
    ·obtain rfl := za hf1
     exact yB X0 hC hJ2 (w64 (i_ + 1)) hl1 (Z1 ++ [Hq c2])
  ·obtain rfl := za hf1
   obtain rfl := hl1
   exact yB X0 hC hJ1 () hf0 [Ha (lnM (eI .i64) w_), Hq c0]
noncomputable def Y2 : Code := (Tryz.f58.body).getD .skip
noncomputable def ZL : zU := spF (α := List (List Int) × Int) (ρ := Int) 58 (fun x => [F8_ x.1, (eI .i64) x.2]) (fun r => (eI .i64) r) (fun x => kT x.1 x.2) [] (Xh)
abbrev Ua : List (Nat × T) := []
abbrev U0 (l_ : List (List Int)) (inputs : Int) (i_ : Int) : List (Nat × T) := [(0, .d (eSl 1 false F2_ l_)), (1, .d (I inputs)), (5, .d (I i_))]
theorem KS {ctr : Ctr} (hC : zu Tryz.prog ctr) (h_ref12_word : ctr.Has YA) (h_ref12_symbols : ctr.Has jM) : ZL.Ok Tryz.prog := by
 refine zy ?_
 rintro ⟨l_, inputs⟩ r0 hf0
 try unfold kT at hf0
 refine yO true [(4, none)] Y2 40 Tryz.func58 fun E hE => ?_
 rcases zG hf0 with ⟨c0, hf0⟩ | ⟨c0, hf0⟩
 ·obtain rfl := za hf0
  exact yE X0 hC hE (rpN 4 (Hq c0) [qT])
 ·let Z0 : List HO := [Hq c0, Hq c0, Ha (lnM F2_ l_), Hq c0, Hq c0]
  rcases zG hf0 with ⟨c1, hf0⟩ | ⟨c1, hf0⟩
  ·obtain rfl := za hf0
   exact yE X0 hC hE (Z0 ++ [Hq c1])
  ·rcases zG hf0 with ⟨c2, hf0⟩ | ⟨c2, hf0⟩
   ·obtain rfl := za hf0
    exact yE X0 hC hE (Z0 ++ [Hq c1, Hq c2])
   ·refine yJ X0 hC Y2 [1,1,1] [] [] (fun z : Unit => ZR = some r0) (fun z => Ua) [(0, .d (eSl 1 false F2_ l_)), (1, .d (I inputs))] (Z0 ++ [Hq c1, Hq c2, Hh (.cut 0)]) ?_ fun J1 hJ1 => ?_
    ·rintro ⟨⟩ hf0
     unfold ZR at hf0
     obtain rfl := za hf0
     exact yE X0 hC hE []
    ·obtain ⟨t2, ht2, hf0⟩ := zf hf0
     refine yL X0 hC Y2 [1,1,1,2,1,0] [J1] (fun s => vP l_ inputs s) (fun x => U0 l_ inputs x) 0 ht2  [] ?_
     rintro i_ m2 lr1 hf1 hl1 J2 hJ2
     try unfold vP at hf1
     let Z1 : List HO := [Ha (lnM F2_ l_)]
     rcases zG hf1 with ⟨c3, hf1⟩ | ⟨c3, hf1⟩
     ·obtain ⟨l__e, h0, hf1⟩ := zf hf1
      obtain ⟨r_, h1, hf1⟩ := zf hf1
      let Z2 : List HO := (Z1 ++ [Hq c3, Hi F2_ h0, Hc h_ref12_word (x := l__e) h1 (loC F2_ l__e <| loN)])
      rcases zG hf1 with ⟨c4, hf1⟩ | ⟨c4, hf1⟩
      ·obtain rfl := za hf1
       obtain rfl := hl1
       obtain rfl := za hf0
       exact yE X0 hC hE (Z2 ++ [Hq c4])
      ·obtain ⟨l__e1, h2, hf1⟩ := zf hf1
       obtain ⟨r_1, h3, hf1⟩ := zf hf1
       let Z3 : List HO := (Z2 ++ [Hq c4, Hi F2_ h2, Hc h_ref12_symbols (x := (l__e1, inputs)) h3 (loC F2_ l__e1 <| loC (eI .i64) inputs <| loN)])
       rcases zG hf1 with ⟨c5, hf1⟩ | ⟨c5, hf1⟩
       ·obtain rfl := za hf1
        obtain rfl := hl1
        obtain rfl := za hf0
        exact yE X0 hC hE (Z3 ++ [Hq c5])
       ·obtain rfl := za hf1
        exact yB X0 hC hJ2 (w64 (i_ + 1)) hl1 (Z3 ++ [Hq c5])
     ·obtain rfl := za hf1
      obtain rfl := hl1
      exact yB X0 hC hJ1 () hf0 (Z1 ++ [Hq c3])
noncomputable def jZ : Code := (Tryz.f59.body).getD .skip
noncomputable def uK : zU := spF (α := List Int × List Int) (ρ := Int) 59 (fun x => [F2_ x.1, F2_ x.2]) (fun r => (eI .i64) r) (fun x => ur x.1 x.2) [] (Xh)
abbrev WO : List (Nat × T) := []
abbrev WN (a_ : List Int) (b_ : List Int) (i_ : Int) : List (Nat × T) := [(0, .d (eSl 1 false (eI .i64) a_)), (1, .d (eSl 1 false (eI .i64) b_)), (5, .d (I i_))]
theorem Qv {ctr : Ctr} (hC : zu Tryz.prog ctr) : uK.Ok Tryz.prog := by
 refine zy ?_
 rintro ⟨a_, b_⟩ r0 hf0
 try unfold ur at hf0
 refine yO true [(4, none)] jZ 40 Tryz.func59 fun E hE => ?_
 let Z0 : List HO := [Ha (lnM (eI .i64) a_), Ha (lnM (eI .i64) b_)]
 rcases zG hf0 with ⟨c0, hf0⟩ | ⟨c0, hf0⟩
 ·let Z1 : List HO := (Z0 ++ [Hq c0, Ha (lnM (eI .i64) a_), Ha (lnM (eI .i64) b_)])
  rcases zG hf0 with ⟨c1, hf0⟩ | ⟨c1, hf0⟩
  ·obtain rfl := za hf0
   exact yE X0 hC hE (Z1 ++ [Hq c1])
  ·obtain rfl := za hf0
   exact yE X0 hC hE (Z1 ++ [Hq c1])
 ·refine yJ X0 hC jZ [1,1] [] [] (fun z : Unit => jU = some r0) (fun z => WO) [(0, .d (eSl 1 false (eI .i64) a_)), (1, .d (eSl 1 false (eI .i64) b_))] (Z0 ++ [Hq c0, Hh (.cut 0)]) ?_ fun J1 hJ1 => ?_
  ·rintro ⟨⟩ hf0
   unfold jU at hf0
   obtain rfl := za hf0
   exact yE X0 hC hE []
  ·obtain ⟨t2, ht2, hf0⟩ := zf hf0
   refine yL X0 hC jZ [1,1,2,1,0] [J1] (fun s => vJ a_ b_ s) (fun x => WN a_ b_ x) 0 ht2  [] ?_
   rintro i_ m2 lr1 hf1 hl1 J2 hJ2
   try unfold vJ at hf1
   rcases zG hf1 with ⟨c2, hf1⟩ | ⟨c2, hf1⟩
   ·obtain ⟨a__e, h0, hf1⟩ := zf hf1
    obtain ⟨b__e, h1, hf1⟩ := zf hf1
    let Z2 : List HO := [Ha (lnM (eI .i64) a_), Hq c2, Hi (eI .i64) h0, Hi (eI .i64) h1]
    rcases zG hf1 with ⟨c3, hf1⟩ | ⟨c3, hf1⟩
    ·obtain rfl := za hf1
     obtain rfl := hl1
     obtain rfl := za hf0
     exact yE X0 hC hE (Z2 ++ [Hq c3])
    ·obtain ⟨a__e1, h2, hf1⟩ := zf hf1
     obtain ⟨b__e1, h3, hf1⟩ := zf hf1
     let Z3 : List HO := (Z2 ++ [Hq c3, Hi (eI .i64) h2, Hi (eI .i64) h3])
     rcases zG hf1 with ⟨c4, hf1⟩ | ⟨c4, hf1⟩
     ·obtain rfl := za hf1
      obtain rfl := hl1
      obtain rfl := za hf0
      exact yE X0 hC hE (Z3 ++ [Hq c4])
     ·obtain rfl := za hf1
      exact yB X0 hC hJ2 (w64 (i_ + 1)) hl1 (Z3 ++ [Hq c4])
   ·obtain rfl := za hf1
    obtain rfl := hl1
    exact yB X0 hC hJ1 () hf0 [Ha (lnM (eI .i64) a_), Hq c2]
noncomputable def Y3 : Code := (Tryz.f29.body).getD .skip
noncomputable def ZM : zU := spF (α := List (List Int) × Int) (ρ := Int) 29 (fun x => [F8_ x.1, (eI .i64) x.2]) (fun r => (eI .i64) r) (fun x => kU x.1 x.2) [] (Xh)
abbrev Uc (l_ : List (List Int)) : List (Nat × T) := [(0, .d (eSl 1 false F2_ l_))]
abbrev Ub (l_ : List (List Int)) (i_ : Int) : List (Nat × T) := [(0, .d (eSl 1 false F2_ l_)), (6, .d (I i_))]
theorem KT {ctr : Ctr} (hC : zu Tryz.prog ctr) (h_ref12_Loose : ctr.Has ZL) (h_ref12_compare : ctr.Has uK) (h_ref12_Steps : ctr.Has ju) : ZM.Ok Tryz.prog := by
 refine zy ?_
 rintro ⟨l_, inputs⟩ r0 hf0
 try unfold kU at hf0
 refine yO true [(4, none)] Y3 33 Tryz.func29 fun E hE => ?_
 obtain ⟨r_, h0, hf0⟩ := zf hf0
 let Z0 : List HO := [Hc h_ref12_Loose (x := (l_, inputs)) h0 (loC F8_ l_ <| loC (eI .i64) inputs <| loN)]
 rcases zG hf0 with ⟨c0, hf0⟩ | ⟨c0, hf0⟩
 ·obtain rfl := za hf0
  exact yE X0 hC hE (Z0 ++ [Hq c0])
 ·refine yJ X0 hC Y3 [1,1] [] [0] (fun z : Unit => jw l_ = some r0) (fun z => Uc l_) [(0, .d (eSl 1 false F2_ l_))] (Z0 ++ [Hq c0, Hh (.cut 0)]) ?_ fun J1 hJ1 => ?_
  ·rintro ⟨⟩ hf0
   unfold jw at hf0
   obtain ⟨r_1, h1, hf0⟩ := zf hf0
   let Z1 : List HO := [Hc h_ref12_Steps (x := l_) h1 (loC F8_ l_ <| loN)]
   rcases zG hf0 with ⟨c1, hf0⟩ | ⟨c1, hf0⟩
   ·obtain rfl := za hf0
    exact yE X0 hC hE (Z1 ++ [Hq c1])
   ·obtain rfl := za hf0
    exact yE X0 hC hE (Z1 ++ [Hq c1])
  ·obtain ⟨t2, ht2, hf0⟩ := zf hf0
   refine yL X0 hC Y3 [1,1,2,1,0] [J1] (fun s => vQ l_ s) (fun x => Ub l_ x) 1 ht2  [] ?_
   rintro i_ m2 lr1 hf1 hl1 J2 hJ2
   try unfold vQ at hf1
   let Z2 : List HO := [Ha (lnM F2_ l_)]
   rcases zG hf1 with ⟨c2, hf1⟩ | ⟨c2, hf1⟩
   ·obtain ⟨l__e, h2, hf1⟩ := zf hf1
    obtain ⟨l__e1, h3, hf1⟩ := zf hf1
    obtain ⟨r_2, h4, hf1⟩ := zf hf1
    let Z3 : List HO := (Z2 ++ [Hq c2, Hi F2_ h2, Hi F2_ h3, Hc h_ref12_compare (x := (l__e, l__e1)) h4 (loC F2_ l__e <| loC F2_ l__e1 <| loN)])
    rcases zG hf1 with ⟨c3, hf1⟩ | ⟨c3, hf1⟩
    ·obtain rfl := za hf1
     obtain rfl := hl1
     obtain rfl := za hf0
     exact yE X0 hC hE (Z3 ++ [Hq c3])
    ·obtain rfl := za hf1
     exact yB X0 hC hJ2 (w64 (i_ + 1)) hl1 (Z3 ++ [Hq c3])
   ·obtain rfl := za hf1
    obtain rfl := hl1
    exact yB X0 hC hJ1 () hf0 (Z2 ++ [Hq c2])
noncomputable def JC : Code := (Tryz.f46.body).getD .skip
noncomputable def uc : zU := spF (α := z6 × List (List Int)) (ρ := Int) 46 (fun x => [yK x.1, F8_ x.2]) (fun r => (eI .i64) r) (fun x => xh x.1 x.2) [] (Xh)
theorem JY {ctr : Ctr} (hC : zu Tryz.prog ctr) (h_machines_Check : ctr.Has vh) (h_tries_Check : ctr.Has jt) : uc.Ok Tryz.prog := by
 refine zy ?_
 rintro ⟨m_, l_⟩ r0 hf0
 try unfold xh at hf0
 refine yO true [(4, none)] JC 15 Tryz.func46 fun E hE => ?_
 obtain ⟨r_, h0, hf0⟩ := zf hf0
 let Z0 : List HO := [Hc h_machines_Check (x := m_) h0 (loC yK m_ <| loN)]
 rcases zG hf0 with ⟨c0, hf0⟩ | ⟨c0, hf0⟩
 ·obtain rfl := za hf0
  exact yE X0 hC hE (Z0 ++ [Hq c0])
 ·obtain ⟨r_1, h1, hf0⟩ := zf hf0
  obtain rfl := za hf0
  exact yE X0 hC hE (Z0 ++ [Hq c0, Hc h_tries_Check (x := (l_, m_.Inputs)) h1 (loC F8_ l_ <| loC (eI .i64) m_.Inputs <| loN)])
noncomputable def Zf : Code := (Tryz.f47.body).getD .skip
noncomputable def qo : zU := spF (α := z6) (ρ := z8) 47 (fun x => [yK x]) (fun r => zde r) (fun x => qd x) [] (UQ)
abbrev Vo (m_ : z6) (c_Edges : List (List Bool)) : List (Nat × T) := [(2, .own (.box (.agg [eOs 1 true eB [], eOs 1 true (eSl 1 false eB) []]))), (3, .own (.box (.agg [eOs 1 true eB (List.replicate ((m_.Rows.length : Nat) : Int).toNat false), eOs 1 true (eOs 1 true eB) c_Edges])))]
abbrev Vn (m_ : z6) (c_Edges1 : List (List Bool)) (x17 : Int) : List (Nat × T) := [(1, .own (.box (yK m_))), (2, .own (.box (.agg [eOs 1 true eB [], eOs 1 true (eSl 1 false eB) []]))), (3, .own (.box (.agg [eOs 1 true eB (List.replicate ((m_.Rows.length : Nat) : Int).toNat false), eOs 1 true (eOs 1 true eB) c_Edges1]))), (16, .d (I ((m_.Rows.length : Nat) : Int))), (17, .d (I x17))]
theorem JZ {ctr : Ctr} (hC : zu Tryz.prog ctr) : qo.Ok Tryz.prog := by
 refine zy ?_
 rintro m_ r0 hf0
 try unfold qd at hf0
 refine z7Z (tt := xX) (rs := [(true, 2, some 48)]) (n := ⟨29, []⟩) (body := Zf) zA Tryz.func47 rfl (by kernel_rfl) rfl rfl (by show (1 : Nat) ≤ 29; decide) fun E hE => ?_
 obtain ⟨g0, hf0⟩ := gdE hf0
 obtain ⟨g1, hf0⟩ := gdE hf0
 refine yJ X0 hC Zf [1,1] [] [2,3] (fun z : List (List Bool) => Zd m_ z = some r0) (fun z => Vo m_ z) [(1, .own (.box (yK m_))), (2, .own (.box (.agg [eOs 1 true eB [], eOs 1 true (eSl 1 false eB) []]))), (3, .own (.box (.agg [eOs 1 true eB (List.replicate ((m_.Rows.length : Nat) : Int).toNat false), eOs 1 true (eOs 1 true eB) (List.replicate ((m_.Rows.length : Nat) : Int).toNat ([] : List Bool))])))] [Ha (lnM uC m_.Rows), Hn (rL g0), Ha (rM 1 eB ((m_.Rows.length : Nat) : Int) false), Ha (lnM uC m_.Rows), Hn (rL g1), Ha (rM 1 (eOs 1 true eB) ((m_.Rows.length : Nat) : Int) ([] : List Bool)), Hh (.cut 0)] ?_ fun J1 hJ1 => ?_
 ·rintro c_Edges hf0
  unfold Zd at hf0
  obtain rfl := za hf0
  let ZE : List HO := []
  exact zab X0 zA hC Wb hE 4000 (hs := hoH ZE) (x := (.agg [eOs 1 true eB (List.replicate ((m_.Rows.length : Nat) : Int).toNat false), eOs 1 true (eOs 1 true eB) c_Edges])) (hoB ZE) (by kernel_rfl) (LeV.refl _)
 ·obtain ⟨t2, ht2, hf0⟩ := zf hf0
  refine yL X0 hC Zf [1,1,2,1,0] [J1] (fun s => wo m_ s.1 s.2) (fun x => Vn m_ x.1 x.2) ((List.replicate ((m_.Rows.length : Nat) : Int).toNat ([] : List Bool)), 0) ht2  [Ha (lnM uC m_.Rows)] ?_
  rintro ⟨c_Edges1, x17⟩ m2 lr1 hf1 hl1 J2 hJ2
  try unfold wo at hf1
  rcases zG hf1 with ⟨c0, hf1⟩ | ⟨c0, hf1⟩
  ·obtain ⟨g2, hf1⟩ := gdE hf1
   obtain ⟨c_Edge_e, h0, hf1⟩ := zf hf1
   obtain rfl := za hf1
   exact yB X0 hC hJ2 ((c_Edges1.set x17.toNat (List.replicate m_.Inputs.toNat false)), w64 (x17 + 1)) hl1 [Hq c0, Hn (rL g2), Ha (rM 1 eB m_.Inputs false), Hn (iL (eOs 1 true eB) h0), Hs (iM (eOs 1 true eB) h0), Hs (iM (eOs 1 true eB) h0), Hl (sM (eOs 1 true eB) c_Edges1 x17 (List.replicate m_.Inputs.toNat false))]
  ·obtain rfl := za hf1
   obtain rfl := hl1
   exact yB X0 hC hJ1 c_Edges1 hf0 [Hq c0]
noncomputable def Wi : Code := (Tryz.f48.body).getD .skip
abbrev Ul {σ : Type} (YY : σ → K7) (m_ : z6) (w_ : List Int) (sg2 : σ) (s_ : Int) (x14 : Int) : List (Nat × T) := [(2, .own (.opq (YY sg2).q)), (3, .own (.box (yK m_))), (6, .d (I s_)), (12, .d (eSl 1 false (eI .i64) w_)), (13, .d (I ((w_.length : Nat) : Int))), (14, .d (I x14))]
theorem WR {ctr : Ctr} (hC : zu Tryz.prog ctr) (σ : Type) (cv0 : Value) (YY : σ → K7) (yy : σ → (Int × Int) → Option σ) (hy : zeg Tryz.prog cv0 YY (fun x : Int × Int => [(eI .i64) x.1, (eI .i64) x.2]) yy) (m_ : z6) (w_ : List Int) (sg r0 : σ) (hf0 : wX m_ w_ yy sg = some r0) : uj Tryz.prog (.fn 48 []) [.agg [I m_.Inputs, I m_.Outputs, eSl 1 false uC m_.Rows], eSl 1 false (eI .i64) w_, .atom cv0] [(cv0, .opq (YY sg).q)] (.tup []) [.opq (YY r0).q] := by
 refine Qj (tt := xX) (nt := 36) (body := Wi) [2] (args := [.agg [I m_.Inputs, I m_.Outputs, eSl 1 false uC m_.Rows], eSl 1 false (eI .i64) w_, .atom cv0]) (caps := []) (xs := [.opq (YY sg).q]) (vals := [cv0]) zA Tryz.func48 rfl (by kernel_rfl) rfl rfl (by show (3 : Nat) ≤ 36; decide) (by decide) rfl rfl (fun E hE => ?_) rfl
 unfold wX at hf0
 obtain ⟨sg1, h0, hf0⟩ := zf hf0
 obtain ⟨t1, ht1, hf0⟩ := zf hf0
 refine yL ((vq (P := Tryz.prog) xX [2] (hy sg (0,0) sg1 h0) 11).or X0) hC Wi [1,1,1,1,0] [] (fun s => wW yy m_ w_ s.1 s.2.1 s.2.2) (fun x => Ul YY m_ w_ x.1 x.2.1 x.2.2) (sg1,0,0) ht1  [Hn (ZH (f := .atom cv0) (xs := [(eI .i64) 0, (eI .i64) 0]) (ls := [(cv0, .opq (YY sg).q)]) (r := .tup []) (ys := [.opq (YY sg1).q]) [(eI .i64) 0, (eI .i64) 0] (show z0L [(eI .i64) 0, (eI .i64) 0] [(eI .i64) 0, (eI .i64) 0] from inferInstance)), Ha (lnM (eI .i64) w_)] ?_
 rintro ⟨sg2, s_, x14⟩ m1 lr1 hf1 hl1 J1 hJ1
 try unfold wW at hf1
 rcases zG hf1 with ⟨c0, hf1⟩ | ⟨c0, hf1⟩
 ·obtain ⟨w__e, h1, hf1⟩ := zf hf1
  obtain ⟨Row_e, h2, hf1⟩ := zf hf1
  obtain ⟨Row_e_e, h3, hf1⟩ := zf hf1
  let Z0 : List HO := [Hq c0, Hi (eI .i64) h1, Hi uC h2, Hi F6_ h3]
  rcases zG hf1 with ⟨c1, hf1⟩ | ⟨c1, hf1⟩
  ·obtain rfl := za hf1
   obtain rfl := hl1
   obtain rfl := za hf0
   exact yF X0 hC .ret [(2, .own (.opq (YY sg2).q))] (Z0 ++ [Hq c1]) fun st0 h0 => hE _ st0 (.inr rfl) (jV h0 ⟨⟨rfl, rfl⟩, trivial⟩)
  ·obtain ⟨sg3, h4, hf1⟩ := zf hf1
   obtain rfl := za hf1
   exact yB ((vq (P := Tryz.prog) xX [2] (hy sg2 (Row_e_e.To, w64 (x14 + 1)) sg3 h4) 34).or X0) hC hJ1 (sg3, Row_e_e.To, w64 (x14 + 1)) hl1 (Z0 ++ [Hq c1, Hn (ZH (f := .atom cv0) (xs := [(eI .i64) Row_e_e.To, (eI .i64) (w64 (x14 + 1))]) (ls := [(cv0, .opq (YY sg2).q)]) (r := .tup []) (ys := [.opq (YY sg3).q]) [(eI .i64) Row_e_e.To, (eI .i64) (w64 (x14 + 1))] (show z0L [(eI .i64) Row_e_e.To, (eI .i64) (w64 (x14 + 1))] [(eI .i64) Row_e_e.To, (eI .i64) (w64 (x14 + 1))] from inferInstance))])
 ·obtain rfl := za hf1
  obtain rfl := hl1
  obtain rfl := za hf0
  exact yF X0 hC .normal [(2, .own (.opq (YY sg2).q))] [Hq c0] fun st0 h0 => hE _ st0 (.inl rfl) (jV h0 ⟨⟨rfl, rfl⟩, trivial⟩)
noncomputable def WA : Code := (Tryz.f49.body).getD .skip
theorem WS {ctr : Ctr} (hC : zu Tryz.prog ctr) (cv0 : Value) (x1 : List Int) (x2 : z6) : ∀ (s_ : Int) (k_ : Int) (y0 : z8) (r0 : z8), xV x1 x2 s_ k_ y0 = some r0 → uj Tryz.prog (.fn 49 [.atom cv0, .sptr (eSl 1 false (eI .i64) x1), .sptr (.agg [I x2.Inputs, I x2.Outputs, eSl 1 false uC x2.Rows])]) [I s_, I k_] ([cv0].zip [.box (.agg [eOs 1 true eB y0.States, eOs 1 true (eOs 1 true eB) y0.Edges])]) (.tup []) [.box (.agg [eOs 1 true eB r0.States, eOs 1 true (eOs 1 true eB) r0.Edges])] := by
 intro s_ k_ y0 r0 hf0
 refine Qj (tt := xX) (nt := 40) (body := WA) [2] zA Tryz.func49 rfl (by kernel_rfl) rfl rfl (by show (5 : Nat) ≤ 40; decide) (by decide) rfl rfl (fun E hE => ?_) rfl
 unfold xV at hf0
 obtain ⟨State_e, h0, hf0⟩ := zf hf0
 let Z0 : List HO := [Hn (iL eB h0), Hs (iM eB h0), Hs (iM eB h0), Hl (sM eB y0.States s_ true), Ha (lnM (eI .i64) x1)]
 rcases zG hf0 with ⟨c0, hf0⟩ | ⟨c0, hf0⟩
 ·obtain ⟨Row_e, h1, hf0⟩ := zf hf0
  obtain ⟨x_e, h2, hf0⟩ := zf hf0
  obtain ⟨Row_e_e, h3, hf0⟩ := zf hf0
  let Z1 : List HO := (Z0 ++ (rpN 4 (Hq c0) (Hi uC h1 :: (rpN 4 (Hq c0) (Hi (eI .i64) h2 :: Hq c0 :: Hq c0 :: Hi F6_ h3 :: (rpN 4 (Hq c0) []))))))
  rcases zG hf0 with ⟨c1, hf0⟩ | ⟨c1, hf0⟩
  ·obtain ⟨Edge_e, h4, hf0⟩ := zf hf0
   obtain ⟨x_e1, h5, hf0⟩ := zf hf0
   obtain ⟨Edge_e_e, h6, hf0⟩ := zf hf0
   obtain rfl := za hf0
   exact yF X0 hC .normal [(2, .own (.box (.agg [eOs 1 true eB (y0.States.set s_.toNat true), eOs 1 true (eOs 1 true eB) (y0.Edges.set s_.toNat (Edge_e.set x_e1.toNat true))])))] (Z1 ++ [Hq c1, Hn (iL (eOs 1 true eB) h4), Hs (iM (eOs 1 true eB) h4), Hi (eI .i64) h5, Hs (iM (eOs 1 true eB) h4), Hn (iL eB h6), Hs (iM (eOs 1 true eB) h4), Hs (iM eB h6), Hs (iM (eOs 1 true eB) h4), Hs (iM eB h6), Hl (sM eB Edge_e x_e1 true), Hl (sM (eOs 1 true eB) y0.Edges s_ (Edge_e.set x_e1.toNat true))]) fun st0 h0 => hE _ st0 (.inl rfl) (jV h0 ⟨⟨rfl, rfl⟩, trivial⟩)
  ·obtain rfl := za hf0
   exact yF X0 hC .normal [(2, .own (.box (.agg [eOs 1 true eB (y0.States.set s_.toNat true), eOs 1 true (eOs 1 true eB) y0.Edges])))] (Z1 ++ [Hq c1]) fun st0 h0 => hE _ st0 (.inl rfl) (jV h0 ⟨⟨rfl, rfl⟩, trivial⟩)
 ·obtain rfl := za hf0
  exact yF X0 hC .normal [(2, .own (.box (.agg [eOs 1 true eB (y0.States.set s_.toNat true), eOs 1 true (eOs 1 true eB) y0.Edges])))] (Z0 ++ (rpN 14 (Hq c0) [qF])) fun st0 h0 => hE _ st0 (.inl rfl) (jV h0 ⟨⟨rfl, rfl⟩, trivial⟩)
noncomputable def uy : Code := (Tryz.f19.body).getD .skip
noncomputable def ul : zU := spF (α := z6 × List (List Int)) (ρ := z8 × Int) 19 (fun x => [yK x.1, F8_ x.2]) (fun r => .tup [zat r.1, (eI .i64) r.2]) (fun x => wc x.1 x.2) [] (Xh)
abbrev W8 (c_States : List Bool) (c_Edges : List (List Bool)) : List (Nat × T) := [(4, .own (.box (.agg [eOs 1 true eB [], eOs 1 true (eSl 1 false eB) []]))), (7, .own (.box (.agg [eOs 1 true eB c_States, eOs 1 true (eOs 1 true eB) c_Edges])))]
abbrev W7 (m_ : z6) (l_ : List (List Int)) (c_States1 : List Bool) (c_Edges1 : List (List Bool)) (x21 : Int) : List (Nat × T) := [(2, .d (.sptr (yK m_))), (4, .own (.box (.agg [eOs 1 true eB [], eOs 1 true (eSl 1 false eB) []]))), (7, .own (.box (.agg [eOs 1 true eB c_States1, eOs 1 true (eOs 1 true eB) c_Edges1]))), (19, .d (eSl 1 false F2_ l_)), (20, .d (I ((l_.length : Nat) : Int))), (21, .d (I x21))]
theorem UM {ctr : Ctr} (hC : zu Tryz.prog ctr) (h_covers_ready : ctr.Has uc) (h_covers_empty : ctr.Has qo) : ul.Ok Tryz.prog := by
 refine zy ?_
 rintro ⟨m_, l_⟩ r0 hf0
 try unfold wc at hf0
 refine yO false [(4, some 48), (5, none)] uy 31 Tryz.func19 fun E hE => ?_
 obtain ⟨r_, h0, hf0⟩ := zf hf0
 let Z0 : List HO := [Hc h_covers_ready (x := (m_, l_)) h0 (loC yK m_ <| loC F8_ l_ <| loN)]
 rcases zG hf0 with ⟨c0, hf0⟩ | ⟨c0, hf0⟩
 ·obtain rfl := za hf0
  exact yE X0 hC hE (Z0 ++ [Hq c0, Hm (shM eB eB []), Hm (shM (eSl 1 false eB) (eSl 1 false eB) [])])
 ·obtain ⟨r_1, h1, hf0⟩ := zf hf0
  refine yA X0 hC uy [1,1,1] [] [(1, .d (eSl 1 false F2_ l_)), (2, .own (.box (yK m_))), (4, .own (.box (.agg [eOs 1 true eB [], eOs 1 true (eSl 1 false eB) []]))), (7, .own (.box (zde r_1)))] (Z0 ++ [Hq c0, Hc h_covers_empty (x := m_) h1 (loC yK m_ <| loN), Hh (.cut 0)]) ?_
  refine z0E (y := .box (.agg [eOs 1 true eB r_1.States, eOs 1 true (eOs 1 true eB) r_1.Edges])) (by kernel_rfl) 7 (by kernel_rfl) (by kernel_rfl) fun pv7 hv7 => ?_
  refine yJ X0 hC uy [1,1,1] [] [4,7] (fun z : List Bool × List (List Bool) => jh z.1 z.2 = some r0) (fun z => W8 z.1 z.2) [(1, .d (eSl 1 false F2_ l_)), (2, .own (.box (yK m_))), (4, .own (.box (.agg [eOs 1 true eB [], eOs 1 true (eSl 1 false eB) []]))), (7, .own (.box (zde r_1)))] [Hh (.cut 0)] ?_ fun J1 hJ1 => ?_
  ·rintro ⟨c_States, c_Edges⟩ hf0
   unfold jh at hf0
   obtain rfl := za hf0
   exact yE X0 hC hE [Hm (shM eB eB c_States), Hm (shM (eOs 1 true eB) (eSl 1 true eB) c_Edges)]
  ·obtain ⟨t2, ht2, hf0⟩ := zf hf0
   refine yL X0 hC uy [1,1,1,2,1,0] [J1] (fun s => wg m_ l_ s.1 s.2.1 s.2.2) (fun x => W7 m_ l_ x.1 x.2.1 x.2.2) (r_1.States, r_1.Edges, 0) ht2  [Ha (lnM F2_ l_), Hh (.n 1 [2])] ?_
   rintro ⟨c_States1, c_Edges1, x21⟩ m2 lr1 hf1 hl1 J2 hJ2
   try unfold wg at hf1
   rcases zG hf1 with ⟨c1, hf1⟩ | ⟨c1, hf1⟩
   ·obtain ⟨l__e, h2, hf1⟩ := zf hf1
    obtain ⟨r_2, h3, hf1⟩ := zf hf1
    obtain rfl := za hf1
    exact yB ((vq (P := Tryz.prog) xX [7] (z5F (pre := [yK m_, F2_ l__e]) (enc := (fun x : Int × Int => [(eI .i64) x.1, (eI .i64) x.2])) (ls := (fun s : z8 => [(pv7, .box (.agg [eOs 1 true eB s.States, eOs 1 true (eOs 1 true eB) s.Edges]))])) (F := fun yy s => wX m_ l__e yy s) (fun yv Y hy s s' h => WR hC _ yv Y _ hy m_ l__e s s' h) (fun s x s' h => WS hC pv7 l__e m_ _ _ _ _ h) (fun _ _ => rfl) h3) 28).or ((xMk Tryz.prog xX).or X0)) hC hJ2 (r_2.States, r_2.Edges, w64 (x21 + 1)) hl1 [Hq c1, Hi F2_ h2, Hn (ZH (f := .fn 48 []) (xs := [yK m_, F2_ l__e, .fn 49 [.atom pv7, .sptr (eSl 1 false (eI .i64) l__e), .sptr (.agg [I m_.Inputs, I m_.Outputs, eSl 1 false uC m_.Rows])]]) (ls := [(pv7, .box (.agg [eOs 1 true eB c_States1, eOs 1 true (eOs 1 true eB) c_Edges1]))]) (r := .tup []) (ys := [.box (.agg [eOs 1 true eB r_2.States, eOs 1 true (eOs 1 true eB) r_2.Edges])]) [yK m_, F2_ l__e, .fn 49 [.atom pv7, .sptr (eSl 1 false (eI .i64) l__e), .sptr (.agg [I m_.Inputs, I m_.Outputs, eSl 1 false uC m_.Rows])]] (show z0L [yK m_, F2_ l__e, .fn 49 [.atom pv7, .sptr (eSl 1 false (eI .i64) l__e), .sptr (.agg [I m_.Inputs, I m_.Outputs, eSl 1 false uC m_.Rows])]] [yK m_, F2_ l__e, .fn 49 [.atom pv7, .sptr (eSl 1 false (eI .i64) l__e), .sptr (.agg [I m_.Inputs, I m_.Outputs, eSl 1 false uC m_.Rows])]] from inferInstance))]
   ·obtain rfl := za hf1
    obtain rfl := hl1
    exact yB X0 hC hJ1 (c_States1, c_Edges1) hf0 [Hq c1]
noncomputable def UW : Code := (Tryz.f83.body).getD .skip
theorem QA {ctr : Ctr} (hC : zu Tryz.prog ctr) (cv1 : Value) (x0 : List Int) : ∀ (s_ : Int) (k_ : Int) (y1 : z8) (r0 : z8), uw x0 s_ k_ y1 = some r0 → uj Tryz.prog (.fn 83 [.sptr (eSl 1 false (eI .i64) x0), .atom cv1]) [I s_, I k_] ([cv1].zip [.box (.agg [eOs 1 true eB y1.States, eOs 1 true (eOs 1 true eB) y1.Edges])]) (.tup []) [.box (.agg [eOs 1 true eB r0.States, eOs 1 true (eOs 1 true eB) r0.Edges])] := by
 intro s_ k_ y1 r0 hf0
 refine Qj (tt := xX) (nt := 30) (body := UW) [3] zA Tryz.func83 rfl (by kernel_rfl) rfl rfl (by show (4 : Nat) ≤ 30; decide) (by decide) rfl rfl (fun E hE => ?_) rfl
 unfold uw at hf0
 rcases zG hf0 with ⟨c0, hf0⟩ | ⟨c0, hf0⟩
 ·obtain ⟨State_e, h0, hf0⟩ := zf hf0
  obtain rfl := za hf0
  exact yF X0 hC .normal [(3, .own (.box (.agg [eOs 1 true eB (y1.States.set s_.toNat true), eOs 1 true (eOs 1 true eB) y1.Edges])))] [Ha (lnM (eI .i64) x0), Hq c0, Hn (iL eB h0), Hs (iM eB h0), Hs (iM eB h0), Hl (sM eB y1.States s_ true)] fun st0 h0 => hE _ st0 (.inl rfl) (jV h0 ⟨⟨rfl, rfl⟩, trivial⟩)
 ·let Z0 : List HO := [Ha (lnM (eI .i64) x0), Hq c0, Ha (lnM (eI .i64) x0)]
  rcases zG hf0 with ⟨c1, hf0⟩ | ⟨c1, hf0⟩
  ·obtain ⟨Edge_e, h1, hf0⟩ := zf hf0
   obtain ⟨x_e, h2, hf0⟩ := zf hf0
   obtain ⟨Edge_e_e, h3, hf0⟩ := zf hf0
   obtain rfl := za hf0
   exact yF X0 hC .normal [(3, .own (.box (.agg [eOs 1 true eB y1.States, eOs 1 true (eOs 1 true eB) (y1.Edges.set s_.toNat (Edge_e.set x_e.toNat true))])))] (Z0 ++ [Hq c1, Hn (iL (eOs 1 true eB) h1), Hs (iM (eOs 1 true eB) h1), Hi (eI .i64) h2, Hs (iM (eOs 1 true eB) h1), Hn (iL eB h3), Hs (iM (eOs 1 true eB) h1), Hs (iM eB h3), Hs (iM (eOs 1 true eB) h1), Hs (iM eB h3), Hl (sM eB Edge_e x_e true), Hl (sM (eOs 1 true eB) y1.Edges s_ (Edge_e.set x_e.toNat true))]) fun st0 h0 => hE _ st0 (.inl rfl) (jV h0 ⟨⟨rfl, rfl⟩, trivial⟩)
  ·obtain rfl := za hf0
   exact yF X0 hC .normal [(3, .own (.box (.agg [eOs 1 true eB y1.States, eOs 1 true (eOs 1 true eB) y1.Edges])))] (Z0 ++ [Hq c1]) fun st0 h0 => hE _ st0 (.inl rfl) (jV h0 ⟨⟨rfl, rfl⟩, trivial⟩)
noncomputable def jx : Code := (Tryz.f51.body).getD .skip
noncomputable def jv : zU := spF (α := z6 × List (List Int)) (ρ := z8) 51 (fun x => [yK x.1, F8_ x.2]) (fun r => zat r) (fun x => jg x.1 x.2) [] (Xh)
abbrev Un (c_States : List Bool) (c_Edges : List (List Bool)) : List (Nat × T) := [(4, .own (.box (.agg [eOs 1 true eB [], eOs 1 true (eSl 1 false eB) []]))), (5, .own (.box (.agg [eOs 1 true eB c_States, eOs 1 true (eOs 1 true eB) c_Edges])))]
abbrev Um (m_ : z6) (l_ : List (List Int)) (c_States1 : List Bool) (c_Edges1 : List (List Bool)) (x12 : Int) : List (Nat × T) := [(2, .own (.box (yK m_))), (4, .own (.box (.agg [eOs 1 true eB [], eOs 1 true (eSl 1 false eB) []]))), (5, .own (.box (.agg [eOs 1 true eB c_States1, eOs 1 true (eOs 1 true eB) c_Edges1]))), (10, .d (eSl 1 false F2_ l_)), (11, .d (I ((l_.length : Nat) : Int))), (12, .d (I x12))]
theorem KY {ctr : Ctr} (hC : zu Tryz.prog ctr) (h_covers_empty : ctr.Has qo) : jv.Ok Tryz.prog := by
 refine zy ?_
 rintro ⟨m_, l_⟩ r0 hf0
 try unfold jg at hf0
 refine yO false [(4, some 48)] jx 22 Tryz.func51 fun E hE => ?_
 obtain ⟨r_, h0, hf0⟩ := zf hf0
 refine yA X0 hC jx [1,1] [] [(1, .d (eSl 1 false F2_ l_)), (2, .own (.box (yK m_))), (4, .own (.box (.agg [eOs 1 true eB [], eOs 1 true (eSl 1 false eB) []]))), (5, .own (.box (zde r_)))] [Hc h_covers_empty (x := m_) h0 (loC yK m_ <| loN), Hh (.cut 0)] ?_
 refine z0E (y := .box (.agg [eOs 1 true eB r_.States, eOs 1 true (eOs 1 true eB) r_.Edges])) (by kernel_rfl) 5 (by kernel_rfl) (by kernel_rfl) fun pv5 hv5 => ?_
 refine yJ X0 hC jx [1,1] [] [4,5] (fun z : List Bool × List (List Bool) => ZX z.1 z.2 = some r0) (fun z => Un z.1 z.2) [(1, .d (eSl 1 false F2_ l_)), (2, .own (.box (yK m_))), (4, .own (.box (.agg [eOs 1 true eB [], eOs 1 true (eSl 1 false eB) []]))), (5, .own (.box (zde r_)))] [Hh (.cut 0)] ?_ fun J1 hJ1 => ?_
 ·rintro ⟨c_States, c_Edges⟩ hf0
  unfold ZX at hf0
  obtain rfl := za hf0
  exact yE X0 hC hE [Hm (shM eB eB c_States), Hm (shM (eOs 1 true eB) (eSl 1 true eB) c_Edges)]
 ·obtain ⟨t2, ht2, hf0⟩ := zf hf0
  refine yL X0 hC jx [1,1,2,1,0] [J1] (fun s => vU m_ l_ s.1 s.2.1 s.2.2) (fun x => Um m_ l_ x.1 x.2.1 x.2.2) (r_.States, r_.Edges, 0) ht2  [Ha (lnM F2_ l_)] ?_
  rintro ⟨c_States1, c_Edges1, x12⟩ m2 lr1 hf1 hl1 J2 hJ2
  try unfold vU at hf1
  rcases zG hf1 with ⟨c0, hf1⟩ | ⟨c0, hf1⟩
  ·obtain ⟨l__e, h1, hf1⟩ := zf hf1
   obtain ⟨r_1, h2, hf1⟩ := zf hf1
   obtain rfl := za hf1
   exact yB ((vq (P := Tryz.prog) xX [5] (z5F (pre := [yK m_, F2_ l__e]) (enc := (fun x : Int × Int => [(eI .i64) x.1, (eI .i64) x.2])) (ls := (fun s : z8 => [(pv5, .box (.agg [eOs 1 true eB s.States, eOs 1 true (eOs 1 true eB) s.Edges]))])) (F := fun yy s => wX m_ l__e yy s) (fun yv Y hy s s' h => WR hC _ yv Y _ hy m_ l__e s s' h) (fun s x s' h => QA hC pv5 l__e _ _ _ _ h) (fun _ _ => rfl) h2) 19).or ((xMk Tryz.prog xX).or X0)) hC hJ2 (r_1.States, r_1.Edges, w64 (x12 + 1)) hl1 [Hq c0, Hi F2_ h1, Hn (ZH (f := .fn 48 []) (xs := [yK m_, F2_ l__e, .fn 83 [.sptr (eSl 1 false (eI .i64) l__e), .atom pv5]]) (ls := [(pv5, .box (.agg [eOs 1 true eB c_States1, eOs 1 true (eOs 1 true eB) c_Edges1]))]) (r := .tup []) (ys := [.box (.agg [eOs 1 true eB r_1.States, eOs 1 true (eOs 1 true eB) r_1.Edges])]) [yK m_, F2_ l__e, .fn 83 [.sptr (eSl 1 false (eI .i64) l__e), .atom pv5]] (show z0L [yK m_, F2_ l__e, .fn 83 [.sptr (eSl 1 false (eI .i64) l__e), .atom pv5]] [yK m_, F2_ l__e, .fn 83 [.sptr (eSl 1 false (eI .i64) l__e), .atom pv5]] from inferInstance))]
  ·obtain rfl := za hf1
   obtain rfl := hl1
   exact yB X0 hC hJ1 (c_States1, c_Edges1) hf0 [Hq c0]
noncomputable def Yn : Code := (Tryz.f52.body).getD .skip
noncomputable def vj : zU := spF (α := Bool) (ρ := Bool) 52 (fun x => [eB x]) (fun r => eB r) (fun x => wO x) [] (UQ)
theorem Yv {ctr : Ctr} (hC : zu Tryz.prog ctr) : vj.Ok Tryz.prog := by
 refine zy ?_
 rintro is r0 hf0
 try unfold wO at hf0
 refine yO true [(2, none)] Yn 4 Tryz.func52 fun E hE => ?_
 obtain rfl := za hf0
 exact yE X0 hC hE []
noncomputable def Xc : Code := (Tryz.f82.body).getD .skip
noncomputable def vW : zU := spF (α := Bool × Unit) (ρ := Bool) 82 (fun x => [eB x.1, (eSp (YR 52)) x.2]) (fun r => eB r) (fun x => vC x.1 x.2) [] (Xh)
theorem Xj {ctr : Ctr} (hC : zu Tryz.prog ctr) (h_covers_IsStateCover_1 : ctr.Has vj) : vW.Ok Tryz.prog := by
 refine zy ?_
 rintro ⟨x_, x1⟩ r0 hf0
 try unfold vC at hf0
 refine yO true [(3, none)] Xc 8 Tryz.func82 fun E hE => ?_
 obtain ⟨r_, h0, hf0⟩ := zf hf0
 obtain rfl := za hf0
 exact yE X0 hC hE [Hc h_covers_IsStateCover_1 (x := x_) h0 (loC eB x_ <| loN)]
noncomputable def xW : Code := (Tryz.f109.body).getD .skip
noncomputable def xP : zU := spF (α := List Bool × Unit) (ρ := Int) 109 (fun x => [(eSl 1 false eB) x.1, (XE 82 (eSp (YR 52))) x.2]) (fun r => (eI .i64) r) (fun x => xm x.1 x.2) [] (by
 rintro ⟨a0, a1⟩ ⟨b0, b1⟩ h
 have e0 := jn.inj (f := (eSl 1 false eB)) _ _ (List.cons.inj h).1
 replace h := (List.cons.inj h).2
 have e1 := jn.inj (f := (XE 82 (eSp (YR 52)))) _ _ (List.cons.inj h).1
 subst e0 e1
 rfl)
abbrev qS : List (Nat × T) := []
abbrev qR (s_ : List Bool) (x8 : Int) : List (Nat × T) := [(0, .d (eSl 1 false eB s_)), (1, .d (.fn 82 [.sptr (.fn 52 [])])), (7, .d (I ((s_.length : Nat) : Int))), (8, .d (I x8))]
theorem ko {ctr : Ctr} (hC : zu Tryz.prog ctr) (h_covers_every_bool_1 : ctr.Has vW) : xP.Ok Tryz.prog := by
 refine zy ?_
 rintro ⟨s_, f_⟩ r0 hf0
 try unfold xm at hf0
 refine yO true [(4, none)] xW 19 Tryz.func109 fun E hE => ?_
 refine yJ X0 hC xW [1] [] [] (fun z : Unit => xR = some r0) (fun z => qS) [(0, .d (eSl 1 false eB s_)), (1, .d (.fn 82 [.sptr (.fn 52 [])]))] [Hh (.cut 1)] ?_ fun J1 hJ1 => ?_
 ·rintro ⟨⟩ hf0
  unfold xR at hf0
  obtain rfl := za hf0
  exact yE X0 hC hE []
 ·obtain ⟨t2, ht2, hf0⟩ := zf hf0
  refine yL X0 hC xW [1,2,1,0] [J1] (fun s => zV s_ s) (fun x => qR s_ x) 0 ht2  [Ha (lnM eB s_)] ?_
  rintro x8 m2 lr1 hf1 hl1 J2 hJ2
  try unfold zV at hf1
  rcases zG hf1 with ⟨c0, hf1⟩ | ⟨c0, hf1⟩
  ·obtain ⟨s__e, h0, hf1⟩ := zf hf1
   obtain ⟨r_, h1, hf1⟩ := zf hf1
   let Z0 : List HO := [Hq c0, Hi eB h0, Hc h_covers_every_bool_1 (x := (s__e, ())) h1 (loC eB s__e <| loC (eSp (YR 52)) () <| loN)]
   rcases zG hf1 with ⟨c1, hf1⟩ | ⟨c1, hf1⟩
   ·obtain rfl := za hf1
    obtain rfl := hl1
    obtain rfl := za hf0
    exact yE X0 hC hE (Z0 ++ [Hq c1])
   ·obtain rfl := za hf1
    exact yB X0 hC hJ2 (w64 (x8 + 1)) hl1 (Z0 ++ [Hq c1])
  ·obtain rfl := za hf1
   obtain rfl := hl1
   exact yB X0 hC hJ1 () hf0 [Hq c0]
noncomputable def qQ : Code := (Tryz.f81.body).getD .skip
noncomputable def xj : zU := spF (α := List Bool × Unit) (ρ := Bool) 81 (fun x => [(eSl 1 false eB) x.1, (XE 82 (eSp (YR 52))) x.2]) (fun r => eB r) (fun x => yT x.1 x.2) [] (by
 rintro ⟨a0, a1⟩ ⟨b0, b1⟩ h
 have e0 := jn.inj (f := (eSl 1 false eB)) _ _ (List.cons.inj h).1
 replace h := (List.cons.inj h).2
 have e1 := jn.inj (f := (XE 82 (eSp (YR 52)))) _ _ (List.cons.inj h).1
 subst e0 e1
 rfl)
theorem qY {ctr : Ctr} (hC : zu Tryz.prog ctr) (h_slices_IndexFunc_bool_bool : ctr.Has xP) : xj.Ok Tryz.prog := by
 refine zy ?_
 rintro ⟨s_, f_⟩ r0 hf0
 try unfold yT at hf0
 refine yO true [(4, none)] qQ 9 Tryz.func81 fun E hE => ?_
 obtain ⟨r_, h0, hf0⟩ := zf hf0
 obtain rfl := za hf0
 exact yE X0 hC hE [Hc h_slices_IndexFunc_bool_bool (x := (s_, ())) h0 (loC (eSl 1 false eB) s_ <| loC (XE 82 (eSp (YR 52))) () <| loN)]
noncomputable def W4 : Code := (Tryz.f50.body).getD .skip
noncomputable def uB : zU := spF (α := List Bool × Unit) (ρ := Bool) 50 (fun x => [(eSl 1 false eB) x.1, (YR 52) x.2]) (fun r => eB r) (fun x => vn x.1 x.2) [] (by
 rintro ⟨a0, a1⟩ ⟨b0, b1⟩ h
 have e0 := jn.inj (f := (eSl 1 false eB)) _ _ (List.cons.inj h).1
 replace h := (List.cons.inj h).2
 have e1 := jn.inj (f := (YR 52)) _ _ (List.cons.inj h).1
 subst e0 e1
 rfl)
theorem Wk {ctr : Ctr} (hC : zu Tryz.prog ctr) (h_slices_ContainsFunc_bool_bool : ctr.Has xj) : uB.Ok Tryz.prog := by
 refine zy ?_
 rintro ⟨l_, is⟩ r0 hf0
 try unfold vn at hf0
 refine yO true [(4, none)] W4 9 Tryz.func50 fun E hE => ?_
 obtain ⟨r_, h0, hf0⟩ := zf hf0
 obtain rfl := za hf0
 exact yE X0 hC hE [Hc h_slices_ContainsFunc_bool_bool (x := (l_, ())) h0 (loC (eSl 1 false eB) l_ <| loC (XE 82 (eSp (YR 52))) () <| loN)]
noncomputable def Xd : Code := (Tryz.f20.body).getD .skip
noncomputable def wu : zU := spF (α := z6 × List (List Int)) (ρ := Bool × Int) 20 (fun x => [yK x.1, F8_ x.2]) (fun r => .tup [eB r.1, (eI .i64) r.2]) (fun x => yb x.1 x.2) [] (Xh)
theorem Xk {ctr : Ctr} (hC : zu Tryz.prog ctr) (h_covers_ready : ctr.Has uc) (h_covers_ends : ctr.Has jv) (h_covers_every_bool : ctr.Has uB) : wu.Ok Tryz.prog := by
 refine zy ?_
 rintro ⟨m_, l_⟩ r0 hf0
 try unfold yb at hf0
 refine yO false [(4, none), (5, none)] Xd 18 Tryz.func20 fun E hE => ?_
 obtain ⟨r_, h0, hf0⟩ := zf hf0
 let Z0 : List HO := [Hc h_covers_ready (x := (m_, l_)) h0 (loC yK m_ <| loC F8_ l_ <| loN)]
 rcases zG hf0 with ⟨c0, hf0⟩ | ⟨c0, hf0⟩
 ·obtain rfl := za hf0
  exact yE X0 hC hE (Z0 ++ [Hq c0])
 ·obtain ⟨r_1, h1, hf0⟩ := zf hf0
  obtain ⟨r_2, h2, hf0⟩ := zf hf0
  obtain rfl := za hf0
  exact yE ((zdz zA z9U).or X0) hC hE (Z0 ++ [Hq c0, Hc h_covers_ends (x := (m_, l_)) h1 (loC yK m_ <| loC F8_ l_ <| loN), Hc h_covers_every_bool (x := (r_1.States, ())) h2 (loC (eSl 1 true eB) r_1.States <| loC (YR 52) () <| loN)])
noncomputable def jk : Code := (Tryz.f54.body).getD .skip
noncomputable def zD : zU := spF (α := Bool) (ρ := Bool) 54 (fun x => [eB x]) (fun r => eB r) (fun x => yY x) [] (UQ)
theorem jz {ctr : Ctr} (hC : zu Tryz.prog ctr) : zD.Ok Tryz.prog := by
 refine zy ?_
 rintro is r0 hf0
 try unfold yY at hf0
 refine yO true [(2, none)] jk 4 Tryz.func54 fun E hE => ?_
 obtain rfl := za hf0
 exact yE X0 hC hE []
noncomputable def Y5 : Code := (Tryz.f82.body).getD .skip
noncomputable def uF : zU := spF (α := Bool × Unit) (ρ := Bool) 82 (fun x => [eB x.1, (eSp (YR 54)) x.2]) (fun r => eB r) (fun x => ww x.1 x.2) [] (Xh)
theorem uY {ctr : Ctr} (hC : zu Tryz.prog ctr) (h_covers_IsTransitionCover_1_1 : ctr.Has zD) : uF.Ok Tryz.prog := by
 refine zy ?_
 rintro ⟨x_, x1⟩ r0 hf0
 try unfold ww at hf0
 refine yO true [(3, none)] Y5 8 Tryz.func82 fun E hE => ?_
 obtain ⟨r_, h0, hf0⟩ := zf hf0
 obtain rfl := za hf0
 exact yE X0 hC hE [Hc h_covers_IsTransitionCover_1_1 (x := x_) h0 (loC eB x_ <| loN)]
noncomputable def xl : Code := (Tryz.f109.body).getD .skip
noncomputable def v7 : zU := spF (α := List Bool × Unit) (ρ := Int) 109 (fun x => [(eSl 1 false eB) x.1, (XE 82 (eSp (YR 54))) x.2]) (fun r => (eI .i64) r) (fun x => yS x.1 x.2) [] (by
 rintro ⟨a0, a1⟩ ⟨b0, b1⟩ h
 have e0 := jn.inj (f := (eSl 1 false eB)) _ _ (List.cons.inj h).1
 replace h := (List.cons.inj h).2
 have e1 := jn.inj (f := (XE 82 (eSp (YR 54)))) _ _ (List.cons.inj h).1
 subst e0 e1
 rfl)
abbrev uX : List (Nat × T) := []
abbrev uW (s_ : List Bool) (x8 : Int) : List (Nat × T) := [(0, .d (eSl 1 false eB s_)), (1, .d (.fn 82 [.sptr (.fn 54 [])])), (7, .d (I ((s_.length : Nat) : Int))), (8, .d (I x8))]
theorem qX {ctr : Ctr} (hC : zu Tryz.prog ctr) (h_covers_IsTransitionCover_1_1 : ctr.Has zD) : v7.Ok Tryz.prog := by
 refine zy ?_
 rintro ⟨s_, f_⟩ r0 hf0
 try unfold yS at hf0
 refine yO true [(4, none)] xl 19 Tryz.func109 fun E hE => ?_
 refine yJ X0 hC xl [1] [] [] (fun z : Unit => xk = some r0) (fun z => uX) [(0, .d (eSl 1 false eB s_)), (1, .d (.fn 82 [.sptr (.fn 54 [])]))] [Hh (.cut 1)] ?_ fun J1 hJ1 => ?_
 ·rintro ⟨⟩ hf0
  unfold xk at hf0
  obtain rfl := za hf0
  exact yE X0 hC hE []
 ·obtain ⟨t2, ht2, hf0⟩ := zf hf0
  refine yL X0 hC xl [1,2,1,0] [J1] (fun s => zN s_ s) (fun x => uW s_ x) 0 ht2  [Ha (lnM eB s_)] ?_
  rintro x8 m2 lr1 hf1 hl1 J2 hJ2
  try unfold zN at hf1
  rcases zG hf1 with ⟨c0, hf1⟩ | ⟨c0, hf1⟩
  ·obtain ⟨s__e, h0, hf1⟩ := zf hf1
   obtain ⟨r_, h1, hf1⟩ := zf hf1
   let Z0 : List HO := [Hq c0, Hi eB h0, Hc (Ctr.add_has Jw uF) (x := (s__e, ())) h1 (loC eB s__e <| loC (eSp (YR 54)) () <| loN)]
   rcases zG hf1 with ⟨c1, hf1⟩ | ⟨c1, hf1⟩
   ·obtain rfl := za hf1
    obtain rfl := hl1
    obtain rfl := za hf0
    exact yE ((z0Q zA (uY hC h_covers_IsTransitionCover_1_1) 16).or X0) hC hE (Z0 ++ [Hq c1])
   ·obtain rfl := za hf1
    exact yB ((z0Q zA (uY hC h_covers_IsTransitionCover_1_1) 16).or X0) hC hJ2 (w64 (x8 + 1)) hl1 (Z0 ++ [Hq c1])
  ·obtain rfl := za hf1
   obtain rfl := hl1
   exact yB X0 hC hJ1 () hf0 [Hq c0]
noncomputable def uV : Code := (Tryz.f81.body).getD .skip
noncomputable def wm : zU := spF (α := List Bool × Unit) (ρ := Bool) 81 (fun x => [(eSl 1 false eB) x.1, (XE 82 (eSp (YR 54))) x.2]) (fun r => eB r) (fun x => yj x.1 x.2) [] (by
 rintro ⟨a0, a1⟩ ⟨b0, b1⟩ h
 have e0 := jn.inj (f := (eSl 1 false eB)) _ _ (List.cons.inj h).1
 replace h := (List.cons.inj h).2
 have e1 := jn.inj (f := (XE 82 (eSp (YR 54)))) _ _ (List.cons.inj h).1
 subst e0 e1
 rfl)
theorem qe {ctr : Ctr} (hC : zu Tryz.prog ctr) (h_covers_IsTransitionCover_1_1 : ctr.Has zD) : wm.Ok Tryz.prog := by
 refine zy ?_
 rintro ⟨s_, f_⟩ r0 hf0
 try unfold yj at hf0
 refine yO true [(4, none)] uV 9 Tryz.func81 fun E hE => ?_
 obtain ⟨r_, h0, hf0⟩ := zf hf0
 obtain rfl := za hf0
 exact yE ((z0Q zA (qX hC h_covers_IsTransitionCover_1_1) 7).or X0) hC hE [Hc (Ctr.add_has Jw v7) (x := (s_, ())) h0 (loC (eSl 1 false eB) s_ <| loC (XE 82 (eSp (YR 54))) () <| loN)]
noncomputable def YZ : Code := (Tryz.f50.body).getD .skip
noncomputable def qn : zU := spF (α := List Bool × Unit) (ρ := Bool) 50 (fun x => [(eSl 1 false eB) x.1, (YR 54) x.2]) (fun r => eB r) (fun x => xY x.1 x.2) [] (by
 rintro ⟨a0, a1⟩ ⟨b0, b1⟩ h
 have e0 := jn.inj (f := (eSl 1 false eB)) _ _ (List.cons.inj h).1
 replace h := (List.cons.inj h).2
 have e1 := jn.inj (f := (YR 54)) _ _ (List.cons.inj h).1
 subst e0 e1
 rfl)
theorem X8 {ctr : Ctr} (hC : zu Tryz.prog ctr) (h_covers_IsTransitionCover_1_1 : ctr.Has zD) : qn.Ok Tryz.prog := by
 refine zy ?_
 rintro ⟨l_, is⟩ r0 hf0
 try unfold xY at hf0
 refine yO true [(4, none)] YZ 9 Tryz.func50 fun E hE => ?_
 obtain ⟨r_, h0, hf0⟩ := zf hf0
 obtain rfl := za hf0
 exact yE ((z0Q zA (qe hC h_covers_IsTransitionCover_1_1) 7).or X0) hC hE [Hc (Ctr.add_has Jw wm) (x := (l_, ())) h0 (loC (eSl 1 false eB) l_ <| loC (XE 82 (eSp (YR 54))) () <| loN)]
noncomputable def k9 : Code := (Tryz.f53.body).getD .skip
noncomputable def xQ : zU := spF (α := List Bool) (ρ := Bool) 53 (fun x => [(eSl 1 false eB) x]) (fun r => eB r) (fun x => xr x) [] (UQ)
theorem kp {ctr : Ctr} (hC : zu Tryz.prog ctr) (h_covers_IsTransitionCover_1_1 : ctr.Has zD) : xQ.Ok Tryz.prog := by
 refine zy ?_
 rintro r_ r0 hf0
 try unfold xr at hf0
 refine yO true [(2, none)] k9 5 Tryz.func53 fun E hE => ?_
 obtain ⟨r_1, h0, hf0⟩ := zf hf0
 obtain rfl := za hf0
 exact yE ((z0Q zA (X8 hC h_covers_IsTransitionCover_1_1) 4).or X0) hC hE [Hc (Ctr.add_has Jw qn) (x := (r_, ())) h0 (loC (eSl 1 false eB) r_ <| loC (YR 54) () <| loN)]
noncomputable def X1 : Code := (Tryz.f85.body).getD .skip
noncomputable def vB : zU := spF (α := List Bool × Unit) (ρ := Bool) 85 (fun x => [(eSl 1 false eB) x.1, (eSp (YR 53)) x.2]) (fun r => eB r) (fun x => vb x.1 x.2) [] (Xh)
theorem X9 {ctr : Ctr} (hC : zu Tryz.prog ctr) (h_covers_IsTransitionCover_1 : ctr.Has xQ) : vB.Ok Tryz.prog := by
 refine zy ?_
 rintro ⟨x_, x1⟩ r0 hf0
 try unfold vb at hf0
 refine yO true [(3, none)] X1 8 Tryz.func85 fun E hE => ?_
 obtain ⟨r_, h0, hf0⟩ := zf hf0
 obtain rfl := za hf0
 exact yE X0 hC hE [Hc h_covers_IsTransitionCover_1 (x := x_) h0 (loC (eSl 1 false eB) x_ <| loN)]
noncomputable def xJ : Code := (Tryz.f110.body).getD .skip
noncomputable def xC : zU := spF (α := List (List Bool) × Unit) (ρ := Int) 110 (fun x => [F5_ x.1, (XE 85 (eSp (YR 53))) x.2]) (fun r => (eI .i64) r) (fun x => x5 x.1 x.2) [] (by
 rintro ⟨a0, a1⟩ ⟨b0, b1⟩ h
 have e0 := jn.inj (f := F5_) _ _ (List.cons.inj h).1
 replace h := (List.cons.inj h).2
 have e1 := jn.inj (f := (XE 85 (eSp (YR 53)))) _ _ (List.cons.inj h).1
 subst e0 e1
 rfl)
abbrev qH : List (Nat × T) := []
abbrev qG (s_ : List (List Bool)) (x8 : Int) : List (Nat × T) := [(0, .d (eSl 1 false (eSl 1 false eB) s_)), (1, .d (.fn 85 [.sptr (.fn 53 [])])), (7, .d (I ((s_.length : Nat) : Int))), (8, .d (I x8))]
theorem jH {ctr : Ctr} (hC : zu Tryz.prog ctr) (h_covers_everyL_bool_1 : ctr.Has vB) : xC.Ok Tryz.prog := by
 refine zy ?_
 rintro ⟨s_, f_⟩ r0 hf0
 try unfold x5 at hf0
 refine yO true [(4, none)] xJ 19 Tryz.func110 fun E hE => ?_
 refine yJ X0 hC xJ [1] [] [] (fun z : Unit => xF = some r0) (fun z => qH) [(0, .d (eSl 1 false (eSl 1 false eB) s_)), (1, .d (.fn 85 [.sptr (.fn 53 [])]))] [Hh (.cut 1)] ?_ fun J1 hJ1 => ?_
 ·rintro ⟨⟩ hf0
  unfold xF at hf0
  obtain rfl := za hf0
  exact yE X0 hC hE []
 ·obtain ⟨t2, ht2, hf0⟩ := zf hf0
  refine yL X0 hC xJ [1,2,1,0] [J1] (fun s => zP s_ s) (fun x => qG s_ x) 0 ht2  [Ha (lnM (eSl 1 false eB) s_)] ?_
  rintro x8 m2 lr1 hf1 hl1 J2 hJ2
  try unfold zP at hf1
  rcases zG hf1 with ⟨c0, hf1⟩ | ⟨c0, hf1⟩
  ·obtain ⟨s__e, h0, hf1⟩ := zf hf1
   obtain ⟨r_, h1, hf1⟩ := zf hf1
   let Z0 : List HO := [Hq c0, Hi (eSl 1 false eB) h0, Hc h_covers_everyL_bool_1 (x := (s__e, ())) h1 (loC (eSl 1 false eB) s__e <| loC (eSp (YR 53)) () <| loN)]
   rcases zG hf1 with ⟨c1, hf1⟩ | ⟨c1, hf1⟩
   ·obtain rfl := za hf1
    obtain rfl := hl1
    obtain rfl := za hf0
    exact yE X0 hC hE (Z0 ++ [Hq c1])
   ·obtain rfl := za hf1
    exact yB X0 hC hJ2 (w64 (x8 + 1)) hl1 (Z0 ++ [Hq c1])
  ·obtain rfl := za hf1
   obtain rfl := hl1
   exact yB X0 hC hJ1 () hf0 [Hq c0]
noncomputable def qC : Code := (Tryz.f84.body).getD .skip
noncomputable def x3 : zU := spF (α := List (List Bool) × Unit) (ρ := Bool) 84 (fun x => [F5_ x.1, (XE 85 (eSp (YR 53))) x.2]) (fun r => eB r) (fun x => yC x.1 x.2) [] (by
 rintro ⟨a0, a1⟩ ⟨b0, b1⟩ h
 have e0 := jn.inj (f := F5_) _ _ (List.cons.inj h).1
 replace h := (List.cons.inj h).2
 have e1 := jn.inj (f := (XE 85 (eSp (YR 53)))) _ _ (List.cons.inj h).1
 subst e0 e1
 rfl)
theorem qO {ctr : Ctr} (hC : zu Tryz.prog ctr) (h_slices_IndexFuncW_bool_bool : ctr.Has xC) : x3.Ok Tryz.prog := by
 refine zy ?_
 rintro ⟨s_, f_⟩ r0 hf0
 try unfold yC at hf0
 refine yO true [(4, none)] qC 9 Tryz.func84 fun E hE => ?_
 obtain ⟨r_, h0, hf0⟩ := zf hf0
 obtain rfl := za hf0
 exact yE X0 hC hE [Hc h_slices_IndexFuncW_bool_bool (x := (s_, ())) h0 (loC F5_ s_ <| loC (XE 85 (eSp (YR 53))) () <| loN)]
noncomputable def XI : Code := (Tryz.f55.body).getD .skip
noncomputable def ud : zU := spF (α := List (List Bool) × Unit) (ρ := Bool) 55 (fun x => [F5_ x.1, (YR 53) x.2]) (fun r => eB r) (fun x => wN x.1 x.2) [] (by
 rintro ⟨a0, a1⟩ ⟨b0, b1⟩ h
 have e0 := jn.inj (f := F5_) _ _ (List.cons.inj h).1
 replace h := (List.cons.inj h).2
 have e1 := jn.inj (f := (YR 53)) _ _ (List.cons.inj h).1
 subst e0 e1
 rfl)
theorem W0 {ctr : Ctr} (hC : zu Tryz.prog ctr) (h_slices_ContainsFuncW_bool_bool : ctr.Has x3) : ud.Ok Tryz.prog := by
 refine zy ?_
 rintro ⟨l_, is⟩ r0 hf0
 try unfold wN at hf0
 refine yO true [(4, none)] XI 9 Tryz.func55 fun E hE => ?_
 obtain ⟨r_, h0, hf0⟩ := zf hf0
 obtain rfl := za hf0
 exact yE X0 hC hE [Hc h_slices_ContainsFuncW_bool_bool (x := (l_, ())) h0 (loC F5_ l_ <| loC (XE 85 (eSp (YR 53))) () <| loN)]
noncomputable def Zg : Code := (Tryz.f21.body).getD .skip
noncomputable def x4 : zU := spF (α := z6 × List (List Int)) (ρ := Bool × Int) 21 (fun x => [yK x.1, F8_ x.2]) (fun r => .tup [eB r.1, (eI .i64) r.2]) (fun x => zK x.1 x.2) [] (Xh)
theorem Zm {ctr : Ctr} (hC : zu Tryz.prog ctr) (h_covers_ready : ctr.Has uc) (h_covers_ends : ctr.Has jv) (h_covers_everyL_bool : ctr.Has ud) : x4.Ok Tryz.prog := by
 refine zy ?_
 rintro ⟨m_, l_⟩ r0 hf0
 try unfold zK at hf0
 refine yO false [(4, none), (5, none)] Zg 20 Tryz.func21 fun E hE => ?_
 obtain ⟨r_, h0, hf0⟩ := zf hf0
 let Z0 : List HO := [Hc h_covers_ready (x := (m_, l_)) h0 (loC yK m_ <| loC F8_ l_ <| loN)]
 rcases zG hf0 with ⟨c0, hf0⟩ | ⟨c0, hf0⟩
 ·obtain rfl := za hf0
  exact yE X0 hC hE (Z0 ++ [Hq c0])
 ·obtain ⟨r_1, h1, hf0⟩ := zf hf0
  obtain ⟨r_2, h2, hf0⟩ := zf hf0
  obtain rfl := za hf0
  exact yE ((zdz zA z9T).or X0) hC hE (Z0 ++ [Hq c0, Hc h_covers_ends (x := (m_, l_)) h1 (loC yK m_ <| loC F8_ l_ <| loN), Hc h_covers_everyL_bool (x := (r_1.Edges, ())) h2 (loC F4_ r_1.Edges <| loC (YR 53) () <| loN)])
noncomputable def UV : Code := (Tryz.f39.body).getD .skip
noncomputable def jQ : zU := spF (α := Unit) (ρ := z6) 39 (fun x => []) (fun r => z6C r) (fun x => YN) [] (fun _ _ _ => rfl)
theorem Qz {ctr : Ctr} (hC : zu Tryz.prog ctr) : jQ.Ok Tryz.prog := by
 refine zy ?_
 rintro ⟨⟩ r0 hf0
 try unfold YN at hf0
 refine yO false [(0, some 27)] UV 14 Tryz.func39 fun E hE => ?_
 obtain rfl := za hf0
 exact yE X0 hC hE [Hm (shM (eOs 2 true F6_) zfv ([[(zh.mk 1 0), (zh.mk 0 0)], [(zh.mk 2 1), (zh.mk (-1) (-1))], [(zh.mk 0 0), (zh.mk 2 1)]]))]
noncomputable def z0D : Code := (Tryz.f40.body).getD .skip
noncomputable def YD : zU := spF (α := List (List Int)) (ρ := List (List Int)) 40 (fun x => [F8_ x]) (fun r => F8_ r) (fun x => jd x) [] (UQ)
theorem z0Z {ctr : Ctr} (hC : zu Tryz.prog ctr) : YD.Ok Tryz.prog := by
 refine zy ?_
 rintro l_ r0 hf0
 try unfold jd at hf0
 refine yO true [(2, none)] z0D 4 Tryz.func40 fun E hE => ?_
 obtain rfl := za hf0
 exact yE X0 hC hE []
noncomputable def YX : Code := (Tryz.f41.body).getD .skip
noncomputable def YB : zU := spF (α := List (List Int) × List (List Int)) (ρ := Bool) 41 (fun x => [F8_ x.1, F8_ x.2]) (fun r => eB r) (fun x => VC x.1 x.2) [] (Xh)
abbrev Q8 : List (Nat × T) := []
abbrev Q7 (a_ : List (List Int)) (b_ : List (List Int)) (i_ : Int) : List (Nat × T) := [(0, .d (eSl 1 false F2_ a_)), (1, .d (eSl 1 false F2_ b_)), (5, .d (I i_))]
theorem z0W {ctr : Ctr} (hC : zu Tryz.prog ctr) (h_ref12_compare : ctr.Has uK) : YB.Ok Tryz.prog := by
 refine zy ?_
 rintro ⟨a_, b_⟩ r0 hf0
 try unfold VC at hf0
 refine yO true [(4, none)] YX 27 Tryz.func41 fun E hE => ?_
 let Z0 : List HO := [Ha (lnM F2_ a_), Ha (lnM F2_ b_)]
 rcases zG hf0 with ⟨c0, hf0⟩ | ⟨c0, hf0⟩
 ·obtain rfl := za hf0
  exact yE X0 hC hE (Z0 ++ [Hq c0])
 ·refine yJ X0 hC YX [1,1] [] [] (fun z : Unit => YL = some r0) (fun z => Q8) [(0, .d (eSl 1 false F2_ a_)), (1, .d (eSl 1 false F2_ b_))] (Z0 ++ [Hq c0, Hh (.cut 0)]) ?_ fun J1 hJ1 => ?_
  ·rintro ⟨⟩ hf0
   unfold YL at hf0
   obtain rfl := za hf0
   exact yE X0 hC hE []
  ·obtain ⟨t2, ht2, hf0⟩ := zf hf0
   refine yL X0 hC YX [1,1,2,1,0] [J1] (fun s => YK a_ b_ s) (fun x => Q7 a_ b_ x) 0 ht2  [] ?_
   rintro i_ m2 lr1 hf1 hl1 J2 hJ2
   try unfold YK at hf1
   let Z1 : List HO := [Ha (lnM F2_ a_)]
   rcases zG hf1 with ⟨c1, hf1⟩ | ⟨c1, hf1⟩
   ·obtain ⟨a__e, h0, hf1⟩ := zf hf1
    obtain ⟨b__e, h1, hf1⟩ := zf hf1
    obtain ⟨r_, h2, hf1⟩ := zf hf1
    let Z2 : List HO := (Z1 ++ [Hq c1, Hi F2_ h0, Hi F2_ h1, Hc h_ref12_compare (x := (a__e, b__e)) h2 (loC F2_ a__e <| loC F2_ b__e <| loN)])
    rcases zG hf1 with ⟨c2, hf1⟩ | ⟨c2, hf1⟩
    ·obtain rfl := za hf1
     obtain rfl := hl1
     obtain rfl := za hf0
     exact yE X0 hC hE (Z2 ++ [Hq c2])
    ·obtain rfl := za hf1
     exact yB X0 hC hJ2 (w64 (i_ + 1)) hl1 (Z2 ++ [Hq c2])
   ·obtain rfl := za hf1
    obtain rfl := hl1
    exact yB X0 hC hJ1 () hf0 (Z1 ++ [Hq c1])
noncomputable def z0C : Code := (Tryz.f13.body).getD .skip
noncomputable def YC : zU := spF (α := List (List Int) × List (List Int)) (ρ := Bool) 13 (fun x => [F7_ x.1, F8_ x.2]) (fun r => eB r) (fun x => Yj x.1 x.2) [] (Xh)
theorem z0Y {ctr : Ctr} (hC : zu Tryz.prog ctr) (h_ref12_Same : ctr.Has YB) : YC.Ok Tryz.prog := by
 refine zy ?_
 rintro ⟨a_, b_⟩ r0 hf0
 try unfold Yj at hf0
 refine yO true [(4, none)] z0C 15 Tryz.func13 fun E hE => ?_
 obtain ⟨r_, h0, hf0⟩ := zf hf0
 let Z0 : List HO := [Hc h_ref12_Same (x := (a_, b_)) h0 (loC F7_ a_ <| loC F8_ b_ <| loN)]
 rcases zG hf0 with ⟨c0, hf0⟩ | ⟨c0, hf0⟩
 ·obtain rfl := za hf0
  exact yE X0 hC hE (Z0 ++ [Hq c0, Hq c0, Ha (lnM F0_ a_), Hq c0, Hq c0, Ha (lnM F0_ a_), Hq c0, Hq c0])
 ·obtain rfl := za hf0
  exact yE X0 hC hE (Z0 ++ (rpN 6 (Hq c0) []))
noncomputable def vD : Code := (Tryz.f22.body).getD .skip
noncomputable def kr : zU := spF (α := z8 × z8) (ρ := Bool) 22 (fun x => [z0P x.1, z0P x.2]) (fun r => eB r) (fun x => kI x.1 x.2) [] (Xh)
abbrev Q5 : List (Nat × T) := []
abbrev Q4 (a_ : z8) (b_ : z8) (s_ : Int) : List (Nat × T) := [(2, .own (.box (z0P a_))), (3, .own (.box (z0P b_))), (6, .d (I s_))]
abbrev Q2 (a_ : z8) (b_ : z8) (s_ : Int) (i_ : Int) : List (Nat × T) := [(2, .own (.box (z0P a_))), (3, .own (.box (z0P b_))), (6, .d (I s_)), (7, .d (I i_))]
abbrev Q3 (a_ : z8) (b_ : z8) (s_ : Int) : List (Nat × T) := [(2, .own (.box (z0P a_))), (3, .own (.box (z0P b_))), (6, .d (I s_))]
abbrev Q6 (a_ : z8) (b_ : z8) : List (Nat × T) := [(2, .own (.box (z0P a_))), (3, .own (.box (z0P b_)))]
abbrev Q1 (a_ : z8) (b_ : z8) (s_1 : Int) : List (Nat × T) := [(2, .own (.box (z0P a_))), (3, .own (.box (z0P b_))), (5, .d (I s_1))]
theorem z0U {ctr : Ctr} (hC : zu Tryz.prog ctr) : kr.Ok Tryz.prog := by
 refine zy ?_
 rintro ⟨a_, b_⟩ r0 hf0
 try unfold kI at hf0
 refine yO true [(4, none)] vD 89 Tryz.func22 fun E hE => ?_
 let Z0 : List HO := [Ha (lnM eB a_.States), Ha (lnM eB b_.States)]
 rcases zG hf0 with ⟨c0, hf0⟩ | ⟨c0, hf0⟩
 ·obtain rfl := za hf0
  exact yE X0 hC hE (Z0 ++ (rpN 8 (Hq c0) [qT]))
 ·let Z1 : List HO := (Z0 ++ [Hq c0, Hq c0, Hq c0, Ha (lnM (eSl 1 false eB) a_.Edges), Hq c0, Hq c0, Hq c0, Ha (lnM (eSl 1 false eB) b_.Edges), Hq c0, Hq c0])
  rcases zG hf0 with ⟨c1, hf0⟩ | ⟨c1, hf0⟩
  ·obtain rfl := za hf0
   exact yE X0 hC hE (Z1 ++ [Hq c1])
  ·refine yJ X0 hC vD [1,1] [] [2,3] (fun z : Unit => kx a_ b_ = some r0) (fun z => Q6 a_ b_) [(2, .own (.box (z0P a_))), (3, .own (.box (z0P b_)))] (Z1 ++ [Hq c1, Hh (.cut 0)]) ?_ fun J1 hJ1 => ?_
   ·rintro ⟨⟩ hf0
    unfold kx at hf0
    refine yJ X0 hC vD [1,1,1] [] [] (fun z : Unit => YJ = some r0) (fun z => Q5) [(2, .own (.box (z0P a_))), (3, .own (.box (z0P b_)))] [Hh (.cut 0)] ?_ fun J2 hJ2 => ?_
    ·rintro ⟨⟩ hf0
     unfold YJ at hf0
     obtain rfl := za hf0
     exact yE X0 hC hE []
    ·obtain ⟨t3, ht3, hf0⟩ := zf hf0
     refine yL X0 hC vD [1,1,1,2,1,0] [J2] (fun s => uq a_ b_ s) (fun x => Q3 a_ b_ x) 0 ht3  [] ?_
     rintro s_ m3 lr1 hf1 hl1 J3 hJ3
     try unfold uq at hf1
     let Z2 : List HO := [Ha (lnM (eSl 1 false eB) a_.Edges)]
     rcases zG hf1 with ⟨c2, hf1⟩ | ⟨c2, hf1⟩
     ·refine yJ X0 hC vD [1,1,1,2,1,0,0,1] [J2, J3] [2,3,6] (fun z : Unit => YI s_ = some lr1) (fun z => Q4 a_ b_ s_) [(2, .own (.box (z0P a_))), (3, .own (.box (z0P b_))), (6, .d (I s_))] (Z2 ++ [Hq c2, Hh (.cut 0)]) ?_ fun J4 hJ4 => ?_
      ·rintro ⟨⟩ hf1
       unfold YI at hf1
       obtain rfl := za hf1
       exact yB X0 hC hJ3 (w64 (s_ + 1)) hl1 []
      ·obtain ⟨Edge_e, h0, hf1⟩ := zf hf1
       obtain ⟨Edge_e1, h1, hf1⟩ := zf hf1
       let Z3 : List HO := [Hi (eSl 1 false eB) h0, Ha (lnM eB Edge_e), Hi (eSl 1 false eB) h1, Ha (lnM eB Edge_e1)]
       rcases zG hf1 with ⟨c3, hf1⟩ | ⟨c3, hf1⟩
       ·obtain rfl := za hf1
        obtain rfl := hl1
        obtain rfl := za hf0
        exact yE X0 hC hE (Z3 ++ [Hq c3])
       ·obtain ⟨t5, ht5, hf1⟩ := zf hf1
        refine yL X0 hC vD [1,1,1,2,1,0,0,1,2,0,1,1,0] [J2, J3, J4] (fun s => up a_ b_ s_ s) (fun x => Q2 a_ b_ s_ x) 0 ht5  (Z3 ++ [Hq c3]) ?_
        rintro i_ m5 lr2 hf2 hl2 J5 hJ5
        try unfold up at hf2
        obtain ⟨Edge_e2, h2, hf2⟩ := zf hf2
        let Z4 : List HO := [Hi (eSl 1 false eB) h2, Ha (lnM eB Edge_e2)]
        rcases zG hf2 with ⟨c4, hf2⟩ | ⟨c4, hf2⟩
        ·obtain ⟨Edge_e3, h3, hf2⟩ := zf hf2
         obtain ⟨Edge_e_e, h4, hf2⟩ := zf hf2
         obtain ⟨Edge_e4, h5, hf2⟩ := zf hf2
         obtain ⟨Edge_e_e1, h6, hf2⟩ := zf hf2
         let Z5 : List HO := (Z4 ++ [Hq c4, Hi (eSl 1 false eB) h3, Hi eB h4, Hi (eSl 1 false eB) h5, Hi eB h6])
         rcases zG hf2 with ⟨c5, hf2⟩ | ⟨c5, hf2⟩
         ·obtain rfl := za hf2
          obtain rfl := hl2
          obtain rfl := za hf1
          obtain rfl := hl1
          obtain rfl := za hf0
          exact yE X0 hC hE (Z5 ++ [Hq c5])
         ·obtain rfl := za hf2
          exact yB X0 hC hJ5 (w64 (i_ + 1)) hl2 (Z5 ++ [Hq c5])
        ·obtain rfl := za hf2
         obtain rfl := hl2
         exact yB X0 hC hJ4 () hf1 (Z4 ++ [Hq c4])
     ·obtain rfl := za hf1
      obtain rfl := hl1
      exact yB X0 hC hJ2 () hf0 (Z2 ++ [Hq c2])
   ·obtain ⟨t6, ht6, hf0⟩ := zf hf0
    refine yL X0 hC vD [1,1,2,1,0] [J1] (fun s => uo a_ b_ s) (fun x => Q1 a_ b_ x) 0 ht6  [] ?_
    rintro s_1 m6 lr1 hf1 hl1 J6 hJ6
    try unfold uo at hf1
    rcases zG hf1 with ⟨c6, hf1⟩ | ⟨c6, hf1⟩
    ·obtain ⟨State_e, h7, hf1⟩ := zf hf1
     obtain ⟨State_e1, h8, hf1⟩ := zf hf1
     let Z6 : List HO := [Ha (lnM eB a_.States), Hq c6, Hi eB h7, Hi eB h8]
     rcases zG hf1 with ⟨c7, hf1⟩ | ⟨c7, hf1⟩
     ·obtain rfl := za hf1
      obtain rfl := hl1
      obtain rfl := za hf0
      exact yE X0 hC hE (Z6 ++ [Hq c7])
     ·obtain rfl := za hf1
      exact yB X0 hC hJ6 (w64 (s_1 + 1)) hl1 (Z6 ++ [Hq c7])
    ·obtain rfl := za hf1
     obtain rfl := hl1
     exact yB X0 hC hJ1 () hf0 [Ha (lnM eB a_.States), Hq c6]
noncomputable def Wh : Code := (Tryz.f12.body).getD .skip
noncomputable def ZP : zU := spF (α := Unit) (ρ := Bool) 12 (fun x => []) (fun r => eB r) (fun x => Za) [] (fun _ _ _ => rfl)
theorem KX {ctr : Ctr} (hC : zu Tryz.prog ctr) (h_law13_example : ctr.Has jQ) (h_law13_list : ctr.Has YD) (h_covers_States : ctr.Has vG) (h_covers_Transitions : ctr.Has wH) (h_covers_Switches : ctr.Has wI) (h_covers_Covered : ctr.Has ul) (h_law13_same : ctr.Has YC) (h_ref13_Same : ctr.Has kr) (h_covers_IsStateCover : ctr.Has wu) (h_covers_IsTransitionCover : ctr.Has x4) : ZP.Ok Tryz.prog := by
 refine zy ?_
 rintro ⟨⟩ r0 hf0
 try unfold Za at hf0
 refine yO true [(0, none)] Wh 164 Tryz.func12 fun E hE => ?_
 obtain ⟨r_, h0, hf0⟩ := zf hf0
 obtain ⟨r_1, h1, hf0⟩ := zf hf0
 obtain ⟨r_2, h2, hf0⟩ := zf hf0
 obtain ⟨r_3, h3, hf0⟩ := zf hf0
 obtain ⟨r_4, h4, hf0⟩ := zf hf0
 obtain ⟨r_5, h5, hf0⟩ := zf hf0
 obtain ⟨r_6, h6, hf0⟩ := zf hf0
 obtain ⟨r_7, h7, hf0⟩ := zf hf0
 obtain ⟨r_8, h8, hf0⟩ := zf hf0
 refine yA X0 hC Wh [1,1,1,1,1,1,1,1,1,0] [] [(1, .own (.box (z6C r_))), (2, .d (eSl 1 false F2_ r_1)), (3, .d (eSl 1 false F2_ r_2)), (4, .d (eSl 1 true F0_ r_3.1)), (5, .d (I r_3.2)), (6, .d (eSl 1 true F0_ r_4.1)), (7, .d (I r_4.2)), (8, .d (eSl 1 true F0_ r_5.1)), (9, .d (I r_5.2)), (11, .d (I r_6.2)), (12, .own (.box (zat r_8.1))), (13, .d (I r_8.2))] [Hc h_law13_example (x := ()) h0 (loN), Hg (z2B h_law13_list), Hm (shM F1_ F0_ ([[], [0], [1], [0,0], [0,1], [0,0,0], [0,0,1]])), Hs (z2C h_law13_list (x := [[], [0], [1], [0,0], [0,1], [0,0,0], [0,0,1]]) h1 (loC F7_ ([[], [0], [1], [0,0], [0,1], [0,0,0], [0,0,1]] : List (List Int)) <| loN)), Hm (shM F1_ F0_ ([[], [0], [1], [0,0], [0,1], [0,0,0], [0,0,1]])), Hg (z2B h_law13_list), Hm (shM F1_ F0_ ([[], [0], [0,0]])), Hs (z2C h_law13_list (x := [[], [0], [0,0]]) h2 (loC F7_ ([[], [0], [0,0]] : List (List Int)) <| loN)), Hm (shM F1_ F0_ ([[], [0], [0,0]])), Hc h_covers_States (x := r_) h3 (loC z6C r_ <| loN), Hc h_covers_Transitions (x := r_) h4 (loC z6C r_ <| loN), Hc h_covers_Switches (x := (r_, 0)) h5 (loC z6C r_ <| loC (eI .i64) 0 <| loN), Hc h_covers_Switches (x := (r_, (-1))) h6 (loC z6C r_ <| loC (eI .i64) (-1) <| loN), Hg (z2B h_law13_list), Hm (shM F1_ F0_ ([[1], [0,1,0]])), Hs (z2C h_law13_list (x := [[1], [0,1,0]]) h7 (loC F7_ ([[1], [0,1,0]] : List (List Int)) <| loN)), Hm (shM F1_ F0_ ([[1], [0,1,0]])), Hc h_covers_Covered (x := (r_, r_7)) h8 (loC z6C r_ <| loC F8_ r_7 <| loN), Hh (.cut 1)] ?_
 rcases zG hf0 with ⟨c0, hf0⟩ | ⟨c0, hf0⟩
 ·obtain rfl := za hf0
  exact yE X0 hC hE (Hq c0 :: Hq c0 :: Hq c0 :: (rpN 35 qT []))
 ·rcases zG hf0 with ⟨c1, hf0⟩ | ⟨c1, hf0⟩
  ·obtain rfl := za hf0
   exact yE X0 hC hE (Hq c0 :: Hq c0 :: Hq c0 :: Hq c1 :: Hq c1 :: Hq c1 :: (rpN 32 qT []))
  ·let Z0 : List HO := [Hq c0, Hq c0, Hq c0, Hq c1, Hq c1, Hq c1]
   rcases zG hf0 with ⟨c2, hf0⟩ | ⟨c2, hf0⟩
   ·obtain rfl := za hf0
    exact yE X0 hC hE (Z0 ++ (Hq c2 :: Hq c2 :: Hq c2 :: (rpN 29 qT [])))
   ·rcases zG hf0 with ⟨c3, hf0⟩ | ⟨c3, hf0⟩
    ·obtain rfl := za hf0
     exact yE X0 hC hE (Z0 ++ (Hq c2 :: Hq c2 :: Hq c2 :: Hq c3 :: Hq c3 :: Hq c3 :: (rpN 26 qT [])))
    ·let Z1 : List HO := (Z0 ++ [Hq c2, Hq c2, Hq c2, Hq c3, Hq c3, Hq c3])
     rcases zG hf0 with ⟨c4, hf0⟩ | ⟨c4, hf0⟩
     ·obtain rfl := za hf0
      exact yE X0 hC hE (Z1 ++ (rpN 5 (Hq c4) (rpN 21 qT [])))
     ·obtain ⟨r_9, h9, hf0⟩ := zf hf0
      let Z2 : List HO := (Z1 ++ [Hq c4, Hq c4, Hq c4, Hn (ZH (f := .fn 13 []) (xs := [F7_ r_3.1, F8_ r_2]) (ls := []) (r := B r_9) (ys := []) [F7_ r_3.1, F8_ r_2] (show z0L [F7_ r_3.1, F8_ r_2] [F7_ r_3.1, F8_ r_2] from inferInstance)), Hq c4, Hq c4])
      rcases zG hf0 with ⟨c5, hf0⟩ | ⟨c5, hf0⟩
      ·obtain rfl := za hf0
       exact yE ((vq (P := Tryz.prog) xX [] (lentCall (yp hC h_law13_same (x := (r_3.1, r_2)) h9)) 81).or X0) hC hE (Z2 ++ (rpN 5 (Hq c5) (rpN 16 qT [])))
      ·obtain ⟨r_10, h10, hf0⟩ := zf hf0
       let Z3 : List HO := (Z2 ++ [Hq c5, Hq c5, Hq c5, Hn (ZH (f := .fn 13 []) (xs := [F7_ r_4.1, F8_ r_1]) (ls := []) (r := B r_10) (ys := []) [F7_ r_4.1, F8_ r_1] (show z0L [F7_ r_4.1, F8_ r_1] [F7_ r_4.1, F8_ r_1] from inferInstance)), Hq c5, Hq c5])
       rcases zG hf0 with ⟨c6, hf0⟩ | ⟨c6, hf0⟩
       ·obtain rfl := za hf0
        exact yE ((vq (P := Tryz.prog) xX [] (lentCall (yp hC h_law13_same (x := (r_4.1, r_1)) h10)) 87).or ((vq (P := Tryz.prog) xX [] (lentCall (yp hC h_law13_same (x := (r_3.1, r_2)) h9)) 81).or X0)) hC hE (Z3 ++ (rpN 5 (Hq c6) (rpN 11 qT [])))
       ·obtain ⟨r_11, h11, hf0⟩ := zf hf0
        let Z4 : List HO := (Z3 ++ [Hq c6, Hq c6, Hq c6, Hn (ZH (f := .fn 13 []) (xs := [F7_ r_5.1, F8_ r_2]) (ls := []) (r := B r_11) (ys := []) [F7_ r_5.1, F8_ r_2] (show z0L [F7_ r_5.1, F8_ r_2] [F7_ r_5.1, F8_ r_2] from inferInstance)), Hq c6, Hq c6])
        rcases zG hf0 with ⟨c7, hf0⟩ | ⟨c7, hf0⟩
        ·obtain rfl := za hf0
         exact yE ((vq (P := Tryz.prog) xX [] (lentCall (yp hC h_law13_same (x := (r_5.1, r_2)) h11)) 93).or ((vq (P := Tryz.prog) xX [] (lentCall (yp hC h_law13_same (x := (r_4.1, r_1)) h10)) 87).or ((vq (P := Tryz.prog) xX [] (lentCall (yp hC h_law13_same (x := (r_3.1, r_2)) h9)) 81).or X0))) hC hE (Z4 ++ (rpN 10 (Hq c7) [qT]))
        ·obtain ⟨r_12, h12, hf0⟩ := zf hf0
         let Z5 : List HO := (Z4 ++ (rpN 8 (Hq c7) [Hg (z2B h_ref13_Same), Hm (shM eB eB ([true, true, false])), Hm (shM (eOs 1 true eB) (eSl 1 true eB) ([[true, true], [false, false], [false, false]])), Hs (z2C h_ref13_Same (x := (r_8.1, (z8.mk ([true, true, false]) ([[true, true], [false, false], [false, false]])))) h12 (loC zat r_8.1 <| loC zat (z8.mk ([true, true, false]) ([[true, true], [false, false], [false, false]])) <| loN)), Hq c7, Hq c7]))
         rcases zG hf0 with ⟨c8, hf0⟩ | ⟨c8, hf0⟩
         ·obtain rfl := za hf0
          exact yE ((vq (P := Tryz.prog) xX [] (lentCall (yp hC h_law13_same (x := (r_5.1, r_2)) h11)) 93).or ((vq (P := Tryz.prog) xX [] (lentCall (yp hC h_law13_same (x := (r_4.1, r_1)) h10)) 87).or ((vq (P := Tryz.prog) xX [] (lentCall (yp hC h_law13_same (x := (r_3.1, r_2)) h9)) 81).or X0))) hC hE (Z5 ++ [Hq c8])
         ·obtain ⟨r_13, h13, hf0⟩ := zf hf0
          obtain ⟨r_14, h14, hf0⟩ := zf hf0
          obtain ⟨r_15, h15, hf0⟩ := zf hf0
          obtain ⟨r_16, h16, hf0⟩ := zf hf0
          obtain ⟨r_17, h17, hf0⟩ := zf hf0
          obtain ⟨r_18, h18, hf0⟩ := zf hf0
          let Z6 : List HO := (Z5 ++ [Hq c8, Hc h_covers_IsStateCover (x := (r_, r_2)) h13 (loC z6C r_ <| loC F8_ r_2 <| loN), Hg (z2B h_law13_list), Hm (shM F1_ F0_ ([[0,0]])), Hs (z2C h_law13_list (x := [[0,0]]) h14 (loC F7_ ([[0,0]] : List (List Int)) <| loN)), Hm (shM F1_ F0_ ([[0,0]])), Hc h_covers_IsStateCover (x := (r_, r_14)) h15 (loC z6C r_ <| loC F8_ r_14 <| loN), Hc h_covers_IsTransitionCover (x := (r_, r_1)) h16 (loC z6C r_ <| loC F8_ r_1 <| loN), Hg (z2B h_law13_list), Hm (shM F1_ F0_ ([[0], [1]])), Hs (z2C h_law13_list (x := [[0], [1]]) h17 (loC F7_ ([[0], [1]] : List (List Int)) <| loN)), Hm (shM F1_ F0_ ([[0], [1]])), Hc h_covers_IsTransitionCover (x := (r_, r_17)) h18 (loC z6C r_ <| loC F8_ r_17 <| loN)])
          rcases zG hf0 with ⟨c9, hf0⟩ | ⟨c9, hf0⟩
          ·rcases zG hf0 with ⟨c10, hf0⟩ | ⟨c10, hf0⟩
           ·let Z7 : List HO := (Z6 ++ [Hq c9, Hq c9, Hq c9, Hq c10, Hq c10, Hq c10])
            rcases zG hf0 with ⟨c11, hf0⟩ | ⟨c11, hf0⟩
            ·rcases zG hf0 with ⟨c12, hf0⟩ | ⟨c12, hf0⟩
             ·let Z8 : List HO := (Z7 ++ [Hq c11, Hq c11, Hq c11, Hq c12, Hq c12])
              rcases zG hf0 with ⟨c13, hf0⟩ | ⟨c13, hf0⟩
              ·rcases zG hf0 with ⟨c14, hf0⟩ | ⟨c14, hf0⟩
               ·let Z9 : List HO := (Z8 ++ [Hq c13, Hq c13, Hq c13, Hq c14, Hq c14])
                rcases zG hf0 with ⟨c15, hf0⟩ | ⟨c15, hf0⟩
                ·obtain rfl := za hf0
                 exact yE ((vq (P := Tryz.prog) xX [] (lentCall (yp hC h_law13_same (x := (r_5.1, r_2)) h11)) 93).or ((vq (P := Tryz.prog) xX [] (lentCall (yp hC h_law13_same (x := (r_4.1, r_1)) h10)) 87).or ((vq (P := Tryz.prog) xX [] (lentCall (yp hC h_law13_same (x := (r_3.1, r_2)) h9)) 81).or X0))) hC hE (Z9 ++ [Hq c15, Hq c15, Hq c15])
                ·obtain rfl := za hf0
                 exact yE ((vq (P := Tryz.prog) xX [] (lentCall (yp hC h_law13_same (x := (r_5.1, r_2)) h11)) 93).or ((vq (P := Tryz.prog) xX [] (lentCall (yp hC h_law13_same (x := (r_4.1, r_1)) h10)) 87).or ((vq (P := Tryz.prog) xX [] (lentCall (yp hC h_law13_same (x := (r_3.1, r_2)) h9)) 81).or X0))) hC hE (Z9 ++ [Hq c15, Hq c15, Hq c15])
               ·obtain rfl := za hf0
                exact yE ((vq (P := Tryz.prog) xX [] (lentCall (yp hC h_law13_same (x := (r_5.1, r_2)) h11)) 93).or ((vq (P := Tryz.prog) xX [] (lentCall (yp hC h_law13_same (x := (r_4.1, r_1)) h10)) 87).or ((vq (P := Tryz.prog) xX [] (lentCall (yp hC h_law13_same (x := (r_3.1, r_2)) h9)) 81).or X0))) hC hE (Z8 ++ [Hq c13, Hq c13, Hq c13, Hq c14, Hq c14, qF, qF, qF])
              ·obtain rfl := za hf0
               exact yE ((vq (P := Tryz.prog) xX [] (lentCall (yp hC h_law13_same (x := (r_5.1, r_2)) h11)) 93).or ((vq (P := Tryz.prog) xX [] (lentCall (yp hC h_law13_same (x := (r_4.1, r_1)) h10)) 87).or ((vq (P := Tryz.prog) xX [] (lentCall (yp hC h_law13_same (x := (r_3.1, r_2)) h9)) 81).or X0))) hC hE (Z8 ++ (Hq c13 :: Hq c13 :: Hq c13 :: (rpN 5 qF [])))
             ·obtain rfl := za hf0
              exact yE ((vq (P := Tryz.prog) xX [] (lentCall (yp hC h_law13_same (x := (r_5.1, r_2)) h11)) 93).or ((vq (P := Tryz.prog) xX [] (lentCall (yp hC h_law13_same (x := (r_4.1, r_1)) h10)) 87).or ((vq (P := Tryz.prog) xX [] (lentCall (yp hC h_law13_same (x := (r_3.1, r_2)) h9)) 81).or X0))) hC hE (Z7 ++ (Hq c11 :: Hq c11 :: Hq c11 :: Hq c12 :: Hq c12 :: (rpN 8 qF [])))
            ·obtain rfl := za hf0
             exact yE ((vq (P := Tryz.prog) xX [] (lentCall (yp hC h_law13_same (x := (r_5.1, r_2)) h11)) 93).or ((vq (P := Tryz.prog) xX [] (lentCall (yp hC h_law13_same (x := (r_4.1, r_1)) h10)) 87).or ((vq (P := Tryz.prog) xX [] (lentCall (yp hC h_law13_same (x := (r_3.1, r_2)) h9)) 81).or X0))) hC hE (Z7 ++ (Hq c11 :: Hq c11 :: Hq c11 :: (rpN 10 qF [])))
           ·obtain rfl := za hf0
            exact yE ((vq (P := Tryz.prog) xX [] (lentCall (yp hC h_law13_same (x := (r_5.1, r_2)) h11)) 93).or ((vq (P := Tryz.prog) xX [] (lentCall (yp hC h_law13_same (x := (r_4.1, r_1)) h10)) 87).or ((vq (P := Tryz.prog) xX [] (lentCall (yp hC h_law13_same (x := (r_3.1, r_2)) h9)) 81).or X0))) hC hE (Z6 ++ (Hq c9 :: Hq c9 :: Hq c9 :: Hq c10 :: Hq c10 :: Hq c10 :: (rpN 13 qF [])))
          ·obtain rfl := za hf0
           exact yE ((vq (P := Tryz.prog) xX [] (lentCall (yp hC h_law13_same (x := (r_5.1, r_2)) h11)) 93).or ((vq (P := Tryz.prog) xX [] (lentCall (yp hC h_law13_same (x := (r_4.1, r_1)) h10)) 87).or ((vq (P := Tryz.prog) xX [] (lentCall (yp hC h_law13_same (x := (r_3.1, r_2)) h9)) 81).or X0))) hC hE (Z6 ++ (Hq c9 :: Hq c9 :: Hq c9 :: (rpN 16 qF [])))
noncomputable def z0B : Code := (Tryz.f86.body).getD .skip
noncomputable def ku : zU := spF (α := z6 × Int × Int) (ρ := zh) 86 (fun x => [yK x.1, (eI .i64) x.2.1, (eI .i64) x.2.2]) (fun r => F6_ r) (fun x => Yf x.1 x.2.1 x.2.2) [] (zao)
theorem z0X {ctr : Ctr} (hC : zu Tryz.prog ctr) : ku.Ok Tryz.prog := by
 refine zy ?_
 rintro ⟨m_, s_, i_⟩ r0 hf0
 try unfold Yf at hf0
 refine yO false [(6, some 68)] z0B 18 Tryz.func86 fun E hE => ?_
 rcases zG hf0 with ⟨c0, hf0⟩ | ⟨c0, hf0⟩
 ·obtain rfl := za hf0
  exact yE X0 hC hE [Hq c0]
 ·obtain ⟨Row_e, h0, hf0⟩ := zf hf0
  obtain ⟨Row_e_e, h1, hf0⟩ := zf hf0
  obtain rfl := za hf0
  exact yE X0 hC hE [Hq c0, Hi uC h0, Hi F6_ h1]
noncomputable def K6 : Code := (Tryz.f56.body).getD .skip
noncomputable def uE : zU := spF (α := z6 × Int × List Int) (ρ := Int) 56 (fun x => [yK x.1, (eI .i64) x.2.1, F2_ x.2.2]) (fun r => (eI .i64) r) (fun x => uS x.1 x.2.1 x.2.2) [] (zao)
theorem WX : ∀ (x y : z6 × Int × List Int), (fun x => [yK x.1, (eI .i64) x.2.1, F2_ x.2.2]) x = (fun x => [yK x.1, (eI .i64) x.2.1, F2_ x.2.2]) y → x = y := zao
noncomputable def jN (rc_ : z6 → Int → (List Int) → Option Int) : zU := spF (α := z6 × Int × List Int) (ρ := Int) 56 (fun x => [yK x.1, (eI .i64) x.2.1, F2_ x.2.2]) (fun r => (eI .i64) r) (fun x => rc_ x.1 x.2.1 x.2.2) [] (by
 intro x y h
 exact (congrArg (fun (p : z6 × Int × List Int) => p) (show x = y from WX x y h)))
theorem Qw {ctr : Ctr} (hC : zu Tryz.prog ctr) (h_ref04_Next : ctr.Has ku) (rc_ : z6 → Int → (List Int) → Option Int) (h_rc_ : ctr.Has (jN rc_)) : (jN (ut rc_)).Ok Tryz.prog := by
 refine zy ?_
 rintro ⟨m_, s_, w_⟩ r0 hf0
 try unfold ut at hf0
 refine yO true [(6, none)] K6 22 Tryz.func56 fun E hE => ?_
 rcases zG hf0 with ⟨c0, hf0⟩ | ⟨c0, hf0⟩
 ·obtain rfl := za hf0
  exact yE X0 hC hE [Ha (lnM (eI .i64) w_), Hq c0]
 ·obtain ⟨w__e, h0, hf0⟩ := zf hf0
  obtain ⟨r_, h1, hf0⟩ := zf hf0
  obtain ⟨g0, hf0⟩ := gdE hf0
  obtain ⟨r_1, h2, hf0⟩ := zf hf0
  obtain rfl := za hf0
  exact yE ((zdz zA z9S).or X0) hC hE [Ha (lnM (eI .i64) w_), Hq c0, Hi (eI .i64) h0, Hc h_ref04_Next (x := (m_, s_, w__e)) h1 (loC yK m_ <| loC (eI .i64) s_ <| loC (eI .i64) w__e <| loN), Hn (slA g0), Hn (zdJ (eI .i64) g0), Ha (slE 1 false (eI .i64) w_ (1 : Int).toNat), Hc h_rc_ (x := (m_, r_.To, (w_.drop (1 : Int).toNat))) h2 (loC yK m_ <| loC (eI .i64) r_.To <| loC F2_ (w_.drop (1 : Int).toNat) <| loN)]
theorem KV {ctr : Ctr} (hC : zu Tryz.prog ctr) (h_ref04_Next : ctr.Has ku) : uE.Ok Tryz.prog := by
 have H : ∀ n, (jN (qt n)).Ok Tryz.prog := by
  intro n
  induction n with
  | zero => exact zy fun _ _ h => nomatch (show none = some _ from h)
  | succ n ih => exact Qw (Ctr.add_ok hC ih) (h_ref04_Next.add (by show (86 : Nat) ≠ 56; decide)) _ (Ctr.add_has _ _)
 exact zy fun x r h => z4I (H _) h
noncomputable def xi : Code := (Tryz.f23.body).getD .skip
noncomputable def jL : zU := spF (α := z6 × List (List Int)) (ρ := z8) 23 (fun x => [yK x.1, F8_ x.2]) (fun r => (yZ (eSl 1 true eB) (eSl 1 false (eSl 1 true eB))) r) (fun x => qq x.1 x.2) [] (Xh)
abbrev WI (c_States : List Bool) (c_Edges1 : List (List Bool)) : List (Nat × T) := [(4, .own (.box (.agg [eOs 1 true eB [], eOs 1 true (eSl 1 false eB) []]))), (5, .own (.box (.agg [eOs 1 true eB c_States, eOs 1 false (eOs 1 true eB) c_Edges1])))]
abbrev WH (m_ : z6) (l_ : List (List Int)) (i_ : Int) (c_States2 : List Bool) (c_Edges3 : List (List Bool)) : List (Nat × T) := [(1, .d (eSl 1 false F2_ l_)), (2, .own (.box (yK m_))), (4, .own (.box (.agg [eOs 1 true eB [], eOs 1 true (eSl 1 false eB) []]))), (5, .own (.box (.agg [eOs 1 true eB c_States2, eOs 1 false (eOs 1 true eB) c_Edges3]))), (7, .d (I i_))]
abbrev WG (m_ : z6) (l_ : List (List Int)) (i_ : Int) (k_ : Int) (c_States4 : List Bool) (c_Edges5 : List (List Bool)) : List (Nat × T) := [(1, .d (eSl 1 false F2_ l_)), (2, .own (.box (yK m_))), (4, .own (.box (.agg [eOs 1 true eB [], eOs 1 true (eSl 1 false eB) []]))), (5, .own (.box (.agg [eOs 1 true eB c_States4, eOs 1 false (eOs 1 true eB) c_Edges5]))), (7, .d (I i_)), (8, .d (I k_))]
abbrev WE (m_ : z6) (l_ : List (List Int)) (i_ : Int) (c_States3 : List Bool) (c_Edges4 : List (List Bool)) (k_ : Int) : List (Nat × T) := [(1, .d (eSl 1 false F2_ l_)), (2, .own (.box (yK m_))), (4, .own (.box (.agg [eOs 1 true eB [], eOs 1 true (eSl 1 false eB) []]))), (5, .own (.box (.agg [eOs 1 true eB c_States3, eOs 1 false (eOs 1 true eB) c_Edges4]))), (7, .d (I i_)), (8, .d (I k_))]
abbrev WF (m_ : z6) (l_ : List (List Int)) (c_States1 : List Bool) (c_Edges2 : List (List Bool)) (i_ : Int) : List (Nat × T) := [(1, .d (eSl 1 false F2_ l_)), (2, .own (.box (yK m_))), (4, .own (.box (.agg [eOs 1 true eB [], eOs 1 true (eSl 1 false eB) []]))), (5, .own (.box (.agg [eOs 1 true eB c_States1, eOs 1 false (eOs 1 true eB) c_Edges2]))), (7, .d (I i_))]
abbrev WJ (m_ : z6) (l_ : List (List Int)) (c_Edges : List (List Bool)) : List (Nat × T) := [(1, .d (eSl 1 false F2_ l_)), (2, .own (.box (yK m_))), (4, .own (.box (.agg [eOs 1 true eB [], eOs 1 true (eSl 1 false eB) []]))), (5, .own (.box (.agg [eOs 1 true eB (List.replicate ((m_.Rows.length : Nat) : Int).toNat false), eOs 1 false (eOs 1 true eB) c_Edges])))]
abbrev WD (m_ : z6) (l_ : List (List Int)) (c_Edges6 : List (List Bool)) (s_ : Int) : List (Nat × T) := [(1, .d (eSl 1 false F2_ l_)), (2, .own (.box (yK m_))), (4, .own (.box (.agg [eOs 1 true eB [], eOs 1 true (eSl 1 false eB) []]))), (5, .own (.box (.agg [eOs 1 true eB (List.replicate ((m_.Rows.length : Nat) : Int).toNat false), eOs 1 false (eOs 1 true eB) c_Edges6]))), (6, .d (I s_))]
theorem Qt {ctr : Ctr} (hC : zu Tryz.prog ctr) (h_ref04_After : ctr.Has uE) : jL.Ok Tryz.prog := by
 refine zy ?_
 rintro ⟨m_, l_⟩ r0 hf0
 try unfold qq at hf0
 refine yO false [(4, some 48)] xi 98 Tryz.func23 fun E hE => ?_
 obtain ⟨g0, hf0⟩ := gdE hf0
 refine yJ X0 hC xi [1,1] [] [1,2,4,5] (fun z : List (List Bool) => uM m_ l_ z = some r0) (fun z => WJ m_ l_ z) [(1, .d (eSl 1 false F2_ l_)), (2, .own (.box (yK m_))), (4, .own (.box (.agg [eOs 1 true eB [], eOs 1 true (eSl 1 false eB) []]))), (5, .own (.box (.agg [eOs 1 true eB (List.replicate ((m_.Rows.length : Nat) : Int).toNat false), eOs 1 true (eSl 1 false eB) []])))] [Ha (lnM uC m_.Rows), Hn (rL g0), Ha (rM 1 eB ((m_.Rows.length : Nat) : Int) false), Hh (.cut 0)] ?_ fun J1 hJ1 => ?_
 ·rintro c_Edges hf0
  unfold uM at hf0
  refine yJ X0 hC xi [1,1,1] [] [4,5] (fun z : List Bool × List (List Bool) => jS z.1 z.2 = some r0) (fun z => WI z.1 z.2) [(1, .d (eSl 1 false F2_ l_)), (2, .own (.box (yK m_))), (4, .own (.box (.agg [eOs 1 true eB [], eOs 1 true (eSl 1 false eB) []]))), (5, .own (.box (.agg [eOs 1 true eB (List.replicate ((m_.Rows.length : Nat) : Int).toNat false), eOs 1 false (eOs 1 true eB) c_Edges])))] [Hh (.cut 0)] ?_ fun J2 hJ2 => ?_
  ·rintro ⟨c_States, c_Edges1⟩ hf0
   unfold jS at hf0
   obtain rfl := za hf0
   exact yE X0 hC hE [Hm (shM eB eB c_States), Hm (shM (eOs 1 true eB) (eSl 1 true eB) c_Edges1)]
  ·obtain ⟨t3, ht3, hf0⟩ := zf hf0
   refine yL X0 hC xi [1,1,1,2,1,0] [J2] (fun s => wC m_ l_ s.1 s.2.1 s.2.2) (fun x => WF m_ l_ x.1 x.2.1 x.2.2) ((List.replicate ((m_.Rows.length : Nat) : Int).toNat false), c_Edges, 0) ht3  [] ?_
   rintro ⟨c_States1, c_Edges2, i_⟩ m3 lr1 hf1 hl1 J3 hJ3
   try unfold wC at hf1
   let Z0 : List HO := [Ha (lnM F2_ l_)]
   rcases zG hf1 with ⟨c0, hf1⟩ | ⟨c0, hf1⟩
   ·refine yJ X0 hC xi [1,1,1,2,1,0,0,1] [J2, J3] [1,2,4,5,7] (fun z : List Bool × List (List Bool) => uL i_ z.1 z.2 = some lr1) (fun z => WH m_ l_ i_ z.1 z.2) [(1, .d (eSl 1 false F2_ l_)), (2, .own (.box (yK m_))), (4, .own (.box (.agg [eOs 1 true eB [], eOs 1 true (eSl 1 false eB) []]))), (5, .own (.box (.agg [eOs 1 true eB c_States1, eOs 1 false (eOs 1 true eB) c_Edges2]))), (7, .d (I i_))] (Z0 ++ [Hq c0, Hh (.cut 0)]) ?_ fun J4 hJ4 => ?_
    ·rintro ⟨c_States2, c_Edges3⟩ hf1
     unfold uL at hf1
     obtain rfl := za hf1
     exact yB X0 hC hJ3 (c_States2, c_Edges3, w64 (i_ + 1)) hl1 []
    ·obtain ⟨t5, ht5, hf1⟩ := zf hf1
     refine yL X0 hC xi [1,1,1,2,1,0,0,1,2,0,1,0] [J2, J3, J4] (fun s => wB m_ l_ i_ s.1 s.2.1 s.2.2) (fun x => WE m_ l_ i_ x.1 x.2.1 x.2.2) (c_States1, c_Edges2,0) ht5  [] ?_
     rintro ⟨c_States3, c_Edges4, k_⟩ m5 lr2 hf2 hl2 J5 hJ5
     try unfold wB at hf2
     obtain ⟨l__e, h0, hf2⟩ := zf hf2
     let Z1 : List HO := [Hi F2_ h0, Ha (lnM (eI .i64) l__e)]
     rcases zG hf2 with ⟨c1, hf2⟩ | ⟨c1, hf2⟩
     ·refine yJ X0 hC xi [1,1,1,2,1,0,0,1,2,0,1,0,0,1] [J2, J3, J4, J5] [1,2,4,5,7,8] (fun z : List Bool × List (List Bool) => xU k_ z.1 z.2 = some lr2) (fun z => WG m_ l_ i_ k_ z.1 z.2) [(1, .d (eSl 1 false F2_ l_)), (2, .own (.box (yK m_))), (4, .own (.box (.agg [eOs 1 true eB [], eOs 1 true (eSl 1 false eB) []]))), (5, .own (.box (.agg [eOs 1 true eB c_States3, eOs 1 false (eOs 1 true eB) c_Edges4]))), (7, .d (I i_)), (8, .d (I k_))] (Z1 ++ [Hq c1, Hh (.cut 0)]) ?_ fun J6 hJ6 => ?_
      ·rintro ⟨c_States4, c_Edges5⟩ hf2
       unfold xU at hf2
       obtain rfl := za hf2
       exact yB X0 hC hJ5 (c_States4, c_Edges5, w64 (k_ + 1)) hl2 []
      ·obtain ⟨l__e1, h1, hf2⟩ := zf hf2
       obtain ⟨g1, hf2⟩ := gdE hf2
       obtain ⟨r_, h2, hf2⟩ := zf hf2
       let Z2 : List HO := [Hi F2_ h1, Hn (slB g1), Hn (zb0 (eI .i64) g1), Ha (slM 1 false (eI .i64) l__e1 0 k_.toNat), Hc h_ref04_After (x := (m_, 0, ((l__e1.drop 0).take (k_.toNat - 0)))) h2 (loC yK m_ <| loC (eI .i64) 0 <| loC F2_ ((l__e1.drop 0).take (k_.toNat - 0)) <| loN)]
       rcases zG hf2 with ⟨c2, hf2⟩ | ⟨c2, hf2⟩
       ·exact yB X0 hC hJ6 (c_States3, c_Edges4) hf2 (Z2 ++ [Hq c2])
       ·obtain ⟨c_State_e, h3, hf2⟩ := zf hf2
        obtain ⟨l__e2, h4, hf2⟩ := zf hf2
        let Z3 : List HO := (Z2 ++ [Hq c2, Hn (iL eB h3), Hs (iM eB h3), Hs (iM eB h3), Hl (sM eB c_States3 r_ true), Hi F2_ h4, Ha (lnM (eI .i64) l__e2)])
        rcases zG hf2 with ⟨c3, hf2⟩ | ⟨c3, hf2⟩
        ·obtain ⟨Row_e, h5, hf2⟩ := zf hf2
         obtain ⟨l__e3, h6, hf2⟩ := zf hf2
         obtain ⟨l__e_e, h7, hf2⟩ := zf hf2
         obtain ⟨Row_e_e, h8, hf2⟩ := zf hf2
         let Z4 : List HO := (Z3 ++ (rpN 4 (Hq c3) (Hi uC h5 :: (rpN 4 (Hq c3) (Hi F2_ h6 :: Hq c3 :: Hq c3 :: Hq c3 :: Hi (eI .i64) h7 :: Hq c3 :: Hq c3 :: Hi F6_ h8 :: (rpN 4 (Hq c3) []))))))
         rcases zG hf2 with ⟨c4, hf2⟩ | ⟨c4, hf2⟩
         ·obtain ⟨c_Edge_e, h9, hf2⟩ := zf hf2
          obtain ⟨l__e4, h10, hf2⟩ := zf hf2
          obtain ⟨l__e_e1, h11, hf2⟩ := zf hf2
          obtain ⟨c_Edge_e_e, h12, hf2⟩ := zf hf2
          exact yB X0 hC hJ6 ((c_States3.set r_.toNat true), (c_Edges4.set r_.toNat (c_Edge_e.set l__e_e1.toNat true))) hf2 (Z4 ++ [Hq c4, Hn (iL (eOs 1 true eB) h9), Hs (iM (eOs 1 true eB) h9), Hi F2_ h10, Hi (eI .i64) h11, Hs (iM (eOs 1 true eB) h9), Hn (iL eB h12), Hs (iM (eOs 1 true eB) h9), Hs (iM eB h12), Hs (iM (eOs 1 true eB) h9), Hs (iM eB h12), Hl (sM eB c_Edge_e l__e_e1 true), Hl (sM (eOs 1 true eB) c_Edges4 r_ (c_Edge_e.set l__e_e1.toNat true))])
         ·exact yB X0 hC hJ6 ((c_States3.set r_.toNat true), c_Edges4) hf2 (Z4 ++ [Hq c4])
        ·exact yB X0 hC hJ6 ((c_States3.set r_.toNat true), c_Edges4) hf2 (Z3 ++ (rpN 17 (Hq c3) [qF]))
     ·obtain rfl := za hf2
      obtain rfl := hl2
      exact yB X0 hC hJ4 (c_States3, c_Edges4) hf1 (Z1 ++ [Hq c1])
   ·obtain rfl := za hf1
    obtain rfl := hl1
    exact yB X0 hC hJ2 (c_States1, c_Edges2) hf0 (Z0 ++ [Hq c0])
 ·obtain ⟨t7, ht7, hf0⟩ := zf hf0
  refine yLx X0 hC xi [1,1,2,1,0] [J1] (fun s => xT m_ s.1 s.2) (fun x => WD m_ l_ x.1 x.2) (([] : List (List Bool)), 0) ht7 [(1, .d (eSl 1 false F2_ l_)), (2, .own (.box (yK m_))), (4, .own (.box (.agg [eOs 1 true eB [], eOs 1 true (eSl 1 false eB) []]))), (5, .own (.box (.agg [eOs 1 true eB (List.replicate ((m_.Rows.length : Nat) : Int).toNat false), eOs 1 true (eOs 1 true eB) []]))), (6, .d (I 0))] inferInstance [] ?_
  rintro ⟨c_Edges6, s_⟩ m7 lr1 hf1 hl1 J7 hJ7
  try unfold xT at hf1
  let Z5 : List HO := [Ha (lnM uC m_.Rows)]
  rcases zG hf1 with ⟨c5, hf1⟩ | ⟨c5, hf1⟩
  ·obtain ⟨g2, hf1⟩ := gdE hf1
   obtain ⟨g3, hf1⟩ := gdE hf1
   obtain rfl := za hf1
   exact yB X0 hC hJ7 ((c_Edges6 ++ ([(List.replicate m_.Inputs.toNat false)] : List (List Bool))), w64 (s_ + 1)) hl1 (Z5 ++ [Hq c5, Hn (rL g2), Ha (rM 1 eB m_.Inputs false), Hq (oC (eOs 1 true eB) (List.replicate m_.Inputs.toNat false) []), Hn (aL (eOs 1 true eB) (eOs 1 true eB) g3), Hl (aM (eOs 1 true eB) c_Edges6 ([(List.replicate m_.Inputs.toNat false)] : List (List Bool)))])
  ·obtain rfl := za hf1
   obtain rfl := hl1
   exact yB X0 hC hJ1 c_Edges6 hf0 (Z5 ++ [Hq c5])
noncomputable def yX : Code := (Tryz.f24.body).getD .skip
noncomputable def ua : zU := spF (α := z6 × List (List Int)) (ρ := Bool) 24 (fun x => [yK x.1, F8_ x.2]) (fun r => eB r) (fun x => wM x.1 x.2) [] (Xh)
abbrev Ys : List (Nat × T) := []
abbrev Yr (m_ : z6) (l_ : List (List Int)) (s_ : Int) : List (Nat × T) := [(1, .d (eSl 1 false F2_ l_)), (2, .own (.box (yK m_))), (5, .d (I s_))]
abbrev Yq (m_ : z6) (l_ : List (List Int)) (s_ : Int) (is : Bool) : List (Nat × T) := [(1, .d (eSl 1 false F2_ l_)), (2, .own (.box (yK m_))), (5, .d (I s_)), (6, .d (B is))]
abbrev Yo (m_ : z6) (l_ : List (List Int)) (s_ : Int) (is1 : Bool) (i_ : Int) : List (Nat × T) := [(1, .d (eSl 1 false F2_ l_)), (2, .own (.box (yK m_))), (5, .d (I s_)), (6, .d (B is1)), (7, .d (I i_))]
abbrev Yp (m_ : z6) (l_ : List (List Int)) (s_ : Int) : List (Nat × T) := [(1, .d (eSl 1 false F2_ l_)), (2, .own (.box (yK m_))), (5, .d (I s_))]
theorem XY {ctr : Ctr} (hC : zu Tryz.prog ctr) (h_ref04_After : ctr.Has uE) : ua.Ok Tryz.prog := by
 refine zy ?_
 rintro ⟨m_, l_⟩ r0 hf0
 try unfold wM at hf0
 refine yO true [(4, none)] yX 34 Tryz.func24 fun E hE => ?_
 refine yJ X0 hC yX [1] [] [] (fun z : Unit => ug = some r0) (fun z => Ys) [(1, .d (eSl 1 false F2_ l_)), (2, .own (.box (yK m_)))] [Hh (.cut 1)] ?_ fun J1 hJ1 => ?_
 ·rintro ⟨⟩ hf0
  unfold ug at hf0
  obtain rfl := za hf0
  exact yE X0 hC hE []
 ·obtain ⟨t2, ht2, hf0⟩ := zf hf0
  refine yL X0 hC yX [1,2,1,0] [J1] (fun s => yW m_ l_ s) (fun x => Yp m_ l_ x) 0 ht2  [] ?_
  rintro s_ m2 lr1 hf1 hl1 J2 hJ2
  try unfold yW at hf1
  let Z0 : List HO := [Ha (lnM uC m_.Rows)]
  rcases zG hf1 with ⟨c0, hf1⟩ | ⟨c0, hf1⟩
  ·refine yJ X0 hC yX [1,2,1,0,0,1] [J1, J2] [1,2,5] (fun z : Unit => wL s_ = some lr1) (fun z => Yr m_ l_ s_) [(1, .d (eSl 1 false F2_ l_)), (2, .own (.box (yK m_))), (5, .d (I s_))] (Z0 ++ [Hq c0, Hh (.cut 0)]) ?_ fun J3 hJ3 => ?_
   ·rintro ⟨⟩ hf1
    unfold wL at hf1
    obtain rfl := za hf1
    exact yB X0 hC hJ2 (w64 (s_ + 1)) hl1 []
   ·refine yJ X0 hC yX [1,2,1,0,0,1,2,0,1] [J1, J2, J3] [1,2,5,6] (fun z : Bool => wK s_ z = some lr1) (fun z => Yq m_ l_ s_ z) [(1, .d (eSl 1 false F2_ l_)), (2, .own (.box (yK m_))), (5, .d (I s_)), (6, .d (B false))] [Hh (.cut 1)] ?_ fun J4 hJ4 => ?_
    ·rintro is hf1
     unfold wK at hf1
     rcases zG hf1 with ⟨c1, hf1⟩ | ⟨c1, hf1⟩
     ·obtain rfl := za hf1
      obtain rfl := hl1
      obtain rfl := za hf0
      exact yE X0 hC hE [Hq c1]
     ·exact yB X0 hC hJ3 () hf1 [Hq c1]
    ·obtain ⟨t5, ht5, hf1⟩ := zf hf1
     refine yL X0 hC yX [1,2,1,0,0,1,2,0,1,2,1,0] [J1, J2, J3, J4] (fun s => yV m_ l_ s_ s.1 s.2) (fun x => Yo m_ l_ s_ x.1 x.2) (false, 0) ht5  [] ?_
     rintro ⟨is1, i_⟩ m5 lr2 hf2 hl2 J5 hJ5
     try unfold yV at hf2
     let Z1 : List HO := [Ha (lnM F2_ l_)]
     rcases zG hf2 with ⟨c2, hf2⟩ | ⟨c2, hf2⟩
     ·rcases zG hf2 with ⟨c3, hf2⟩ | ⟨c3, hf2⟩
      ·obtain rfl := za hf2
       exact yB X0 hC hJ5 (true, w64 (i_ + 1)) hl2 (Z1 ++ (Hq c2 :: (rpN 9 (Hq c3) [])))
      ·obtain ⟨l__e, h0, hf2⟩ := zf hf2
       obtain ⟨r_, h1, hf2⟩ := zf hf2
       obtain rfl := za hf2
       exact yB X0 hC hJ5 (r_ == s_, w64 (i_ + 1)) hl2 (Z1 ++ (Hq c2 :: (rpN 4 (Hq c3) [Hi F2_ h0, Hq c3, Hq c3, Hc h_ref04_After (x := (m_, 0, l__e)) h1 (loC yK m_ <| loC (eI .i64) 0 <| loC F2_ l__e <| loN), Hq c3, Hq c3, Hq c3])))
     ·obtain rfl := za hf2
      obtain rfl := hl2
      exact yB X0 hC hJ4 is1 hf1 (Z1 ++ [Hq c2])
  ·obtain rfl := za hf1
   obtain rfl := hl1
   exact yB X0 hC hJ1 () hf0 (Z0 ++ [Hq c0])
noncomputable def zL : Code := (Tryz.f25.body).getD .skip
noncomputable def wx : zU := spF (α := z6 × List (List Int)) (ρ := Bool) 25 (fun x => [yK x.1, F8_ x.2]) (fun r => eB r) (fun x => xa x.1 x.2) [] (Xh)
abbrev kj : List (Nat × T) := []
abbrev ki (m_ : z6) (l_ : List (List Int)) (s_ : Int) : List (Nat × T) := [(1, .d (eSl 1 false F2_ l_)), (2, .own (.box (yK m_))), (5, .d (I s_))]
abbrev kh (m_ : z6) (l_ : List (List Int)) (s_ : Int) (a_ : Int) : List (Nat × T) := [(1, .d (eSl 1 false F2_ l_)), (2, .own (.box (yK m_))), (5, .d (I s_)), (6, .d (I a_))]
abbrev kg (m_ : z6) (l_ : List (List Int)) (s_ : Int) (a_ : Int) (is : Bool) : List (Nat × T) := [(1, .d (eSl 1 false F2_ l_)), (2, .own (.box (yK m_))), (5, .d (I s_)), (6, .d (I a_)), (7, .d (B is))]
abbrev kb (m_ : z6) (l_ : List (List Int)) (s_ : Int) (a_ : Int) (is1 : Bool) (i_ : Int) : List (Nat × T) := [(1, .d (eSl 1 false F2_ l_)), (2, .own (.box (yK m_))), (5, .d (I s_)), (6, .d (I a_)), (7, .d (B is1)), (8, .d (I i_))]
abbrev kc (m_ : z6) (l_ : List (List Int)) (s_ : Int) (a_ : Int) : List (Nat × T) := [(1, .d (eSl 1 false F2_ l_)), (2, .own (.box (yK m_))), (5, .d (I s_)), (6, .d (I a_))]
abbrev ke (m_ : z6) (l_ : List (List Int)) (s_ : Int) : List (Nat × T) := [(1, .d (eSl 1 false F2_ l_)), (2, .own (.box (yK m_))), (5, .d (I s_))]
theorem ZD {ctr : Ctr} (hC : zu Tryz.prog ctr) (h_ref04_After : ctr.Has uE) : wx.Ok Tryz.prog := by
 refine zy ?_
 rintro ⟨m_, l_⟩ r0 hf0
 try unfold xa at hf0
 refine yO true [(4, none)] zL 65 Tryz.func25 fun E hE => ?_
 refine yJ X0 hC zL [1] [] [] (fun z : Unit => wy = some r0) (fun z => kj) [(1, .d (eSl 1 false F2_ l_)), (2, .own (.box (yK m_)))] [Hh (.cut 1)] ?_ fun J1 hJ1 => ?_
 ·rintro ⟨⟩ hf0
  unfold wy at hf0
  obtain rfl := za hf0
  exact yE X0 hC hE []
 ·obtain ⟨t2, ht2, hf0⟩ := zf hf0
  refine yL X0 hC zL [1,2,1,0] [J1] (fun s => ya m_ l_ s) (fun x => ke m_ l_ x) 0 ht2  [] ?_
  rintro s_ m2 lr1 hf1 hl1 J2 hJ2
  try unfold ya at hf1
  let Z0 : List HO := [Ha (lnM uC m_.Rows)]
  rcases zG hf1 with ⟨c0, hf1⟩ | ⟨c0, hf1⟩
  ·refine yJ X0 hC zL [1,2,1,0,0,1] [J1, J2] [1,2,5] (fun z : Unit => xq s_ = some lr1) (fun z => ki m_ l_ s_) [(1, .d (eSl 1 false F2_ l_)), (2, .own (.box (yK m_))), (5, .d (I s_))] (Z0 ++ [Hq c0, Hh (.cut 0)]) ?_ fun J3 hJ3 => ?_
   ·rintro ⟨⟩ hf1
    unfold xq at hf1
    obtain rfl := za hf1
    exact yB X0 hC hJ2 (w64 (s_ + 1)) hl1 []
   ·obtain ⟨t4, ht4, hf1⟩ := zf hf1
    refine yL X0 hC zL [1,2,1,0,0,1,2,0,1,0] [J1, J2, J3] (fun s => zT m_ l_ s_ s) (fun x => kc m_ l_ s_ x) 0 ht4  [] ?_
    rintro a_ m4 lr2 hf2 hl2 J4 hJ4
    try unfold zT at hf2
    rcases zG hf2 with ⟨c1, hf2⟩ | ⟨c1, hf2⟩
    ·refine yJ X0 hC zL [1,2,1,0,0,1,2,0,1,0,0,1] [J1, J2, J3, J4] [1,2,5,6] (fun z : Unit => xp a_ = some lr2) (fun z => kh m_ l_ s_ a_) [(1, .d (eSl 1 false F2_ l_)), (2, .own (.box (yK m_))), (5, .d (I s_)), (6, .d (I a_))] [Hq c1, Hh (.cut 0)] ?_ fun J5 hJ5 => ?_
     ·rintro ⟨⟩ hf2
      unfold xp at hf2
      obtain rfl := za hf2
      exact yB X0 hC hJ4 (w64 (a_ + 1)) hl2 []
     ·refine yJ X0 hC zL [1,2,1,0,0,1,2,0,1,0,0,1,2,0,1] [J1, J2, J3, J4, J5] [1,2,5,6,7] (fun z : Bool => xo a_ z = some lr2) (fun z => kg m_ l_ s_ a_ z) [(1, .d (eSl 1 false F2_ l_)), (2, .own (.box (yK m_))), (5, .d (I s_)), (6, .d (I a_)), (7, .d (B false))] [Hh (.cut 1)] ?_ fun J6 hJ6 => ?_
      ·rintro is hf2
       unfold xo at hf2
       rcases zG hf2 with ⟨c2, hf2⟩ | ⟨c2, hf2⟩
       ·obtain rfl := za hf2
        obtain rfl := hl2
        obtain rfl := za hf1
        obtain rfl := hl1
        obtain rfl := za hf0
        exact yE X0 hC hE [Hq c2]
       ·exact yB X0 hC hJ5 () hf2 [Hq c2]
      ·obtain ⟨t7, ht7, hf2⟩ := zf hf2
       refine yL X0 hC zL [1,2,1,0,0,1,2,0,1,0,0,1,2,0,1,2,1,0] [J1, J2, J3, J4, J5, J6] (fun s => y9 m_ l_ s_ a_ s.1 s.2) (fun x => kb m_ l_ s_ a_ x.1 x.2) (false, 0) ht7  [] ?_
       rintro ⟨is1, i_⟩ m7 lr3 hf3 hl3 J7 hJ7
       try unfold y9 at hf3
       let Z1 : List HO := [Ha (lnM F2_ l_)]
       rcases zG hf3 with ⟨c3, hf3⟩ | ⟨c3, hf3⟩
       ·obtain ⟨l__e, h0, hf3⟩ := zf hf3
        let Z2 : List HO := (Z1 ++ [Hq c3, Hi F2_ h0, Ha (lnM (eI .i64) l__e)])
        rcases zG hf3 with ⟨c4, hf3⟩ | ⟨c4, hf3⟩
        ·obtain rfl := za hf3
         exact yB X0 hC hJ7 (true, w64 (i_ + 1)) hl3 (Z2 ++ (rpN 7 (Hq c4) []))
        ·rcases zG hf3 with ⟨c5, hf3⟩ | ⟨c5, hf3⟩
         ·obtain ⟨l__e1, h1, hf3⟩ := zf hf3
          obtain ⟨l__e_e, h2, hf3⟩ := zf hf3
          let Z3 : List HO := (Z2 ++ [Hq c4, Hq c4, Hq c4, Hq c5, Hq c5, Hq c5, Hi F2_ h1, Hq c5, Hq c5, Hq c5, Hi (eI .i64) h2, Hq c5, Hq c5, Hq c5, Hq c4, Hq c5, Hq c4])
          rcases zG hf3 with ⟨c6, hf3⟩ | ⟨c6, hf3⟩
          ·obtain ⟨l__e2, h3, hf3⟩ := zf hf3
           obtain ⟨g0, hf3⟩ := gdE hf3
           obtain ⟨r_, h4, hf3⟩ := zf hf3
           obtain rfl := za hf3
           exact yB X0 hC hJ7 (r_ == s_, w64 (i_ + 1)) hl3 (Z3 ++ (rpN 4 (Hq c6) [Hi F2_ h3, Hq c6, Hq c6, Hq c6, Hn (slB g0), Hn (zb0 (eI .i64) g0), Ha (slM 1 false (eI .i64) l__e2 0 (w64 (((l__e.length : Nat) : Int) - 1)).toNat), Hq c6, Hc h_ref04_After (x := (m_, 0, ((l__e2.drop 0).take ((w64 (((l__e.length : Nat) : Int) - 1)).toNat - 0)))) h4 (loC yK m_ <| loC (eI .i64) 0 <| loC F2_ ((l__e2.drop 0).take ((w64 (((l__e.length : Nat) : Int) - 1)).toNat - 0)) <| loN), Hq c6, Hq c6, Hq c4, Hq c6, Hq c4]))
          ·obtain rfl := za hf3
           exact yB X0 hC hJ7 (false, w64 (i_ + 1)) hl3 (Z3 ++ (rpN 10 (Hq c6) [Hq c4, Hq c6, Hq c4]))
         ·obtain rfl := za hf3
          exact yB X0 hC hJ7 (false, w64 (i_ + 1)) hl3 (Z2 ++ (Hq c4 :: Hq c4 :: Hq c4 :: (rpN 9 (Hq c5) (Hq c4 :: Hq c5 :: Hq c4 :: (rpN 10 qF [Hq c4, qF, Hq c4])))))
       ·obtain rfl := za hf3
        obtain rfl := hl3
        exact yB X0 hC hJ6 is1 hf2 (Z1 ++ [Hq c3])
    ·obtain rfl := za hf2
     obtain rfl := hl2
     exact yB X0 hC hJ3 () hf1 [Hq c1]
  ·obtain rfl := za hf1
   obtain rfl := hl1
   exact yB X0 hC hJ1 () hf0 (Z0 ++ [Hq c0])
end Go.Own

namespace Go.Own
open Go.Proofs
set_option maxRecDepth 100000
set_option maxHeartbeats 8000000
noncomputable def qE : Code := (Tryz.f5.body).getD .skip
noncomputable def qm : zU := spF (α := z6 × List (List Int) × Int) (ρ := Bool) 5 (fun x => [yK x.1, F8_ x.2.1, (eI .i64) x.2.2]) (fun r => eB r) (fun x => qz x.1 x.2.1 x.2.2) [] (zao)
abbrev XK (m_ : z6) (l_ : List (List Int)) (f_ : Int) : List (Nat × T) := [(1, .d (eSl 1 false F2_ l_)), (3, .own (.box (yK m_))), (7, .d (I f_))]
abbrev XL (m_ : z6) (l_ : List (List Int)) (r_2 : Int) : List (Nat × T) := [(1, .d (eSl 1 false F2_ l_)), (3, .own (.box (yK m_))), (7, .d (I r_2))]
theorem Vq {ctr : Ctr} (hC : zu Tryz.prog ctr) (h_law13_small : ctr.Has ZO) (h_law13_few : ctr.Has Xp) (h_ref04_Check : ctr.Has ZN) (h_covers_States : ctr.Has vG) (h_covers_Transitions : ctr.Has wH) (h_covers_Switches : ctr.Has wI) (h_ref12_Check : ctr.Has ZM) (h_covers_Covered : ctr.Has ul) (h_covers_IsStateCover : ctr.Has wu) (h_covers_IsTransitionCover : ctr.Has x4) (h_law13_lives : ctr.Has ZP) (h_ref13_Covered : ctr.Has jL) (h_ref13_Same : ctr.Has kr) (h_ref13_IsStateCover : ctr.Has ua) (h_ref13_IsTransitionCover : ctr.Has wx) : qm.Ok Tryz.prog := by
 refine zy ?_
 rintro ⟨m_, l_, k_⟩ r0 hf0
 try unfold qz at hf0
 refine yO true [(6, none)] qE 141 Tryz.func5 fun E hE => ?_
 obtain ⟨r_, h0, hf0⟩ := zf hf0
 let Z0 : List HO := [Hc h_law13_small (x := m_) h0 (loC yK m_ <| loN)]
 rcases zG hf0 with ⟨c0, hf0⟩ | ⟨c0, hf0⟩
 ·obtain rfl := za hf0
  exact yE X0 hC hE (Z0 ++ (rpN 4 (Hq c0) [qT]))
 ·obtain ⟨r_1, h1, hf0⟩ := zf hf0
  let Z1 : List HO := (Z0 ++ [Hq c0, Hq c0, Hc h_law13_few (x := l_) h1 (loC F8_ l_ <| loN), Hq c0, Hq c0])
  rcases zG hf0 with ⟨c1, hf0⟩ | ⟨c1, hf0⟩
  ·obtain rfl := za hf0
   exact yE X0 hC hE (Z1 ++ [Hq c1])
  ·obtain ⟨r_2, h2, hf0⟩ := zf hf0
   obtain ⟨r_3, h3, hf0⟩ := zf hf0
   obtain ⟨r_4, h4, hf0⟩ := zf hf0
   obtain ⟨r_5, h5, hf0⟩ := zf hf0
   refine yJ X0 hC qE [1,1,1,1,1,1] [] [1,3,7] (fun z : Unit => xO m_ l_ r_2 = some r0) (fun z => XL m_ l_ r_2) [(1, .d (eSl 1 false F2_ l_)), (3, .own (.box (yK m_))), (7, .d (I r_2)), (9, .d (I r_3.2)), (11, .d (I r_4.2)), (13, .d (I r_5.2))] (Z1 ++ [Hq c1, Hc h_ref04_Check (x := m_) h2 (loC yK m_ <| loN), Hc h_covers_States (x := m_) h3 (loC yK m_ <| loN), Hc h_covers_Transitions (x := m_) h4 (loC yK m_ <| loN), Hc h_covers_Switches (x := (m_, (mn k_ 3))) h5 (loC yK m_ <| loC (eI .i64) (mn k_ 3) <| loN), Hh (.cut 0)]) ?_ fun J1 hJ1 => ?_
   ·rintro ⟨⟩ hf0
    unfold xO at hf0
    refine yJ X0 hC qE [1,1,1,1,1,1,1] [] [1,3,7] (fun z : Int => yG m_ l_ z = some r0) (fun z => XK m_ l_ z) [(1, .d (eSl 1 false F2_ l_)), (3, .own (.box (yK m_))), (7, .d (I r_2))] [Hh (.cut 0)] ?_ fun J2 hJ2 => ?_
    ·rintro f_ hf0
     unfold yG at hf0
     obtain ⟨r_6, h6, hf0⟩ := zf hf0
     obtain ⟨r_7, h7, hf0⟩ := zf hf0
     obtain ⟨r_8, h8, hf0⟩ := zf hf0
     let Z2 : List HO := [Hc h_covers_Covered (x := (m_, l_)) h6 (loC yK m_ <| loC F8_ l_ <| loN), Hc h_covers_IsStateCover (x := (m_, l_)) h7 (loC yK m_ <| loC F8_ l_ <| loN), Hc h_covers_IsTransitionCover (x := (m_, l_)) h8 (loC yK m_ <| loC F8_ l_ <| loN)]
     rcases zG hf0 with ⟨c2, hf0⟩ | ⟨c2, hf0⟩
     ·obtain rfl := za hf0
      exact yE X0 hC hE (Z2 ++ (rpN 4 (Hq c2) (rpN 5 qT [])))
     ·let Z3 : List HO := (Z2 ++ (rpN 4 (Hq c2) []))
      rcases zG hf0 with ⟨c3, hf0⟩ | ⟨c3, hf0⟩
      ·obtain rfl := za hf0
       exact yE X0 hC hE (Z3 ++ (rpN 4 (Hq c3) [qT]))
      ·let Z4 : List HO := (Z3 ++ (rpN 4 (Hq c3) []))
       rcases zG hf0 with ⟨c4, hf0⟩ | ⟨c4, hf0⟩
       ·obtain rfl := za hf0
        exact yE X0 hC hE (Z4 ++ [Hq c4])
       ·rcases zG hf0 with ⟨c5, hf0⟩ | ⟨c5, hf0⟩
        ·let Z5 : List HO := (Z4 ++ [Hq c4, Hq c5, Ha (lnM eB r_6.1.States), Ha (lnM (eSl 1 true eB) r_6.1.Edges)])
         rcases zG hf0 with ⟨c6, hf0⟩ | ⟨c6, hf0⟩
         ·rcases zG hf0 with ⟨c7, hf0⟩ | ⟨c7, hf0⟩
          ·let Z6 : List HO := (Z5 ++ [Hq c6, Hq c6, Hq c6, Hq c7, Hq c7, Hq c7])
           rcases zG hf0 with ⟨c8, hf0⟩ | ⟨c8, hf0⟩
           ·obtain ⟨r_9, h9, hf0⟩ := zf hf0
            obtain rfl := za hf0
            exact yE X0 hC hE (Z6 ++ [Hq c8, Hc h_law13_lives (x := ()) h9 (loN), Hq c8])
           ·obtain rfl := za hf0
            exact yE X0 hC hE (Z6 ++ [Hq c8, Hq c8])
          ·obtain rfl := za hf0
           exact yE X0 hC hE (Z5 ++ [Hq c6, Hq c6, Hq c6, Hq c7, Hq c7, Hq c7, qF, qF])
         ·obtain rfl := za hf0
          exact yE X0 hC hE (Z5 ++ (Hq c6 :: Hq c6 :: Hq c6 :: (rpN 5 qF [])))
        ·obtain ⟨r_10, h10, hf0⟩ := zf hf0
         obtain ⟨r_11, h11, hf0⟩ := zf hf0
         let Z7 : List HO := (Z4 ++ [Hq c4, Hq c5, Hc h_ref13_Covered (x := (m_, l_)) h10 (loC yK m_ <| loC F8_ l_ <| loN), Hc h_ref13_Same (x := (r_6.1, r_10)) h11 (loC zat r_6.1 <| loC (yZ (eSl 1 true eB) (eSl 1 false (eSl 1 true eB))) r_10 <| loN)])
         rcases zG hf0 with ⟨c9, hf0⟩ | ⟨c9, hf0⟩
         ·obtain ⟨r_12, h12, hf0⟩ := zf hf0
          let Z8 : List HO := (Z7 ++ (rpN 4 (Hq c9) [Hc h_ref13_IsStateCover (x := (m_, l_)) h12 (loC yK m_ <| loC F8_ l_ <| loN), Hq c9, Hq c9]))
          rcases zG hf0 with ⟨c10, hf0⟩ | ⟨c10, hf0⟩
          ·obtain ⟨r_13, h13, hf0⟩ := zf hf0
           let Z9 : List HO := (Z8 ++ (rpN 4 (Hq c10) [Hc h_ref13_IsTransitionCover (x := (m_, l_)) h13 (loC yK m_ <| loC F8_ l_ <| loN), Hq c10, Hq c10]))
           rcases zG hf0 with ⟨c11, hf0⟩ | ⟨c11, hf0⟩
           ·obtain ⟨r_14, h14, hf0⟩ := zf hf0
            obtain rfl := za hf0
            exact yE X0 hC hE (Z9 ++ [Hq c11, Hc h_law13_lives (x := ()) h14 (loN), Hq c11])
           ·obtain rfl := za hf0
            exact yE X0 hC hE (Z9 ++ [Hq c11, Hq c11])
          ·obtain rfl := za hf0
           exact yE X0 hC hE (Z8 ++ (rpN 6 (Hq c10) [qF, qF]))
         ·obtain rfl := za hf0
          exact yE X0 hC hE (Z7 ++ (rpN 6 (Hq c9) (rpN 8 qF [])))
    ·rcases zG hf0 with ⟨c12, hf0⟩ | ⟨c12, hf0⟩
     ·obtain ⟨r_15, h15, hf0⟩ := zf hf0
      exact yB X0 hC hJ2 r_15 hf0 [Hq c12, Hc h_ref12_Check (x := (l_, m_.Inputs)) h15 (loC F8_ l_ <| loC (eI .i64) m_.Inputs <| loN)]
     ·exact yB X0 hC hJ2 r_2 hf0 [Hq c12]
   ·rcases zG hf0 with ⟨c13, hf0⟩ | ⟨c13, hf0⟩
    ·let Z10 : List HO := (rpN 4 (Hq c13) [])
     rcases zG hf0 with ⟨c14, hf0⟩ | ⟨c14, hf0⟩
     ·obtain rfl := za hf0
      exact yE X0 hC hE (Z10 ++ [Hq c14, Hq c14, Hq c14, Hq c13, Hq c14, Hq c13, qT, qT, qT, Hq c13, qT, Hq c13, qT])
     ·let Z11 : List HO := (Z10 ++ [Hq c14, Hq c14, Hq c14, Hq c13, Hq c14, Hq c13])
      rcases zG hf0 with ⟨c15, hf0⟩ | ⟨c15, hf0⟩
      ·obtain rfl := za hf0
       exact yE X0 hC hE (Z11 ++ [Hq c15, Hq c15, Hq c15, Hq c13, Hq c15, Hq c13, qT])
      ·let Z12 : List HO := (Z11 ++ [Hq c15, Hq c15, Hq c15, Hq c13, Hq c15, Hq c13])
       rcases zG hf0 with ⟨c16, hf0⟩ | ⟨c16, hf0⟩
       ·obtain rfl := za hf0
        exact yE X0 hC hE (Z12 ++ [Hq c16])
       ·exact yB X0 hC hJ1 () hf0 (Z12 ++ [Hq c16])
    ·exact yB X0 hC hJ1 () hf0 (rpN 8 (Hq c13) [qF])
end Go.Own
