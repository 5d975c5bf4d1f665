/- Walks, further. -/
import Derived.Test.YtkelmheleahmpaaDoorPartE
noncomputable section
set_option linter.unusedVariables false
set_option linter.unusedSimpArgs false
namespace Go.Own
open Go.Proofs
set_option maxRecDepth 100000
set_option maxHeartbeats 8000000
def X0 : XH Tryd.prog := xB zC
theorem YX : Tryd.prog.follows .mixedOrders = true := by kernel_rfl
variable {rs : List (Nat × Option Nat)}{σ : Type}{keep : Bool}{r : A}
section
variable {ctr : Ctr} {n : Fr} {Q : Exit → St → Prop} {c : Code} {fs : List Fm} {st : St}
theorem yE (X : XH Tryd.prog) (hC : zP Tryd.prog ctr) {E : St → Prop}    (hE : ∀ st x R U, z3y ve keep rs st = some (x, R, U) → LeV x r → E st) (L : List HO) (e : z9v X ve ctr n keep rs 4000 c fs st (hoH L) = some (r, hoO L) := by kernel_rfl) : AWP Tryd.prog n c st (Qf Tryd.prog n fs (z2N E)) := yE6 X zC hC YX hE L e
theorem yEx (X : XH Tryd.prog) (hC : zP Tryd.prog ctr) {E : St → Prop}    (hE : ∀ st x R U, z3y ve keep rs st = some (x, R, U) → LeV x r → E st) (L : List HO) (x : A) (hle : LeV x r) (e : z9v X ve ctr n keep rs 4000 c fs st (hoH L) = some (x, hoO L) := by kernel_rfl) : AWP Tryd.prog n c st (Qf Tryd.prog n fs (z2N E)) := zfa X zC hC YX hE L x hle e
theorem yB (X : XH Tryd.prog) (hC : zP Tryd.prog ctr) {τ : Type} {J : St → Prop} {live : List Nat} {S : τ → List (Nat × T)} {Inv : τ → Prop} (hJ : ∀ st' l' z, Inv z → Own.canon live st' = ofL l' → LeL l' (S z) → J st') (z : τ) (hz : Inv z) (L : List HO) (e : Ky X ve ctr n live 4000 c fs st (hoH L) = some (.back J, ofL (S z), hoO L) := by kernel_rfl) : AWP Tryd.prog n c st (Qf Tryd.prog n fs Q) := yB6 X zC hC YX hJ z hz L e
theorem yA (X : XH Tryd.prog) (hC : zP Tryd.prog ctr) (bd : Code) (path : List Nat) (Js : List (St → Prop)) (l : List (Nat × T)) (L : List HO) (h : AWP Tryd.prog n (sub path bd) (ofL l) (Qf Tryd.prog n (frs path Js bd []) Q)) (e : Ky X ve ctr n (XP l) 4000 c fs st (hoH L) = some (.at (sub path bd) (frs path Js bd []), ofL l, hoO L) := by kernel_rfl) : AWP Tryd.prog n c st (Qf Tryd.prog n fs Q) := yA6 X zC hC YX bd path Js l L e h
theorem yAt (X : XH Tryd.prog) (hC : zP Tryd.prog ctr) (c' : Code) (fs' : List Fm) (l : List (Nat × T)) (L : List HO) (h : ∀ st0, Own.canon (XP l) st0 = ofL l → AWP Tryd.prog n c' st0 (Qf Tryd.prog n fs' Q)) (e : Ky X ve ctr n (XP l) 4000 c fs st (hoH L) = some (.at c' fs', ofL l, hoO L) := by kernel_rfl) : AWP Tryd.prog n c st (Qf Tryd.prog n fs Q) := zfb X zC hC YX c' fs' l L e h
theorem yLx (X : XH Tryd.prog) (hC : zP Tryd.prog ctr) (bd : Code) (path : List Nat) (Js : List (St → Prop)) {σ τ : Type} (f : σ → Option (LR σ τ)) (S : σ → List (Nat × T)) (x0 : σ) {t : τ} (ht : loop f x0 = some t) (l : List (Nat × T)) (hl : LeL l (S x0)) (L : List HO) (round : ∀ x m lr, f x = some lr → zcw f m t lr → ∀ J : St → Prop, (∀ st' l' x', XO f m x' = some t → Own.canon (XP l) st' = ofL l' → LeL l' (S x') → J st') → AWP Tryd.prog n (sub (path ++ [0]) bd) (ofL (S x)) (Qf Tryd.prog n (.pre J :: frs path Js bd []) Q)) (e : Ky X ve ctr n (XP l) 4000 c fs st (hoH L) = some (.at (sub path bd) (frs path Js bd []), ofL l, hoO L) := by kernel_rfl) (e2 : sub path bd = .loop (sub (path ++ [0]) bd) := by kernel_rfl) (hk : ∀ x, XP (S x) = XP l := by exact fun _ => rfl) : AWP Tryd.prog n c st (Qf Tryd.prog n fs Q) := yL6 X zC hC YX bd path Js f S x0 ht l hl L hk e e2 round
theorem yL (X : XH Tryd.prog) (hC : zP Tryd.prog ctr) (bd : Code) (path : List Nat) (Js : List (St → Prop)) {σ τ : Type} (f : σ → Option (LR σ τ)) (S : σ → List (Nat × T)) (x0 : σ) {t : τ} (ht : loop f x0 = some t) (L : List HO) (round : ∀ x m lr, f x = some lr → zcw f m t lr → ∀ J : St → Prop, (∀ st' l' x', XO f m x' = some t → Own.canon (XP (S x0)) st' = ofL l' → LeL l' (S x') → J st') → AWP Tryd.prog n (sub (path ++ [0]) bd) (ofL (S x)) (Qf Tryd.prog n (.pre J :: frs path Js bd []) Q)) (e : Ky X ve ctr n (XP (S x0)) 4000 c fs st (hoH L) = some (.at (sub path bd) (frs path Js bd []), ofL (S x0), hoO L) := by kernel_rfl) (e2 : sub path bd = .loop (sub (path ++ [0]) bd) := by kernel_rfl) (hk : ∀ x, XP (S x) = XP (S x0) := by exact fun _ => rfl) : AWP Tryd.prog n c st (Qf Tryd.prog n fs Q) := yL6 X zC hC YX bd path Js f S x0 ht _ (LeL.refl _) L hk e e2 round
theorem yJ (X : XH Tryd.prog) (hC : zP Tryd.prog ctr) (bd : Code) (path : List Nat) (Js : List (St → Prop))  (live : List Nat) (Inv : σ → Prop) (S : σ → List (Nat × T)) (l : List (Nat × T)) (L : List HO) (h1 : ∀ z, Inv z → AWP Tryd.prog n (sub (path ++ [1]) bd) (ofL (S z)) (Qf Tryd.prog n (frs path Js bd []) Q)) (h2 : ∀ J : St → Prop, (∀ st' l' z, Inv z → Own.canon live st' = ofL l' → LeL l' (S z) → J st') → AWP Tryd.prog n (sub (path ++ [2]) bd) (ofL l) (Qf Tryd.prog n (.pre J :: frs path Js bd []) Q)) (e : Ky X ve ctr n (XP l) 4000 c fs st (hoH L) = some (.at (sub path bd) (frs path Js bd []), ofL l, hoO L) := by kernel_rfl) (e2 : sub path bd = .seq (sub (path ++ [2]) bd) (sub (path ++ [1]) bd) := by kernel_rfl) : AWP Tryd.prog n c st (Qf Tryd.prog n fs Q) := yJ6 X zC hC YX bd path Js live Inv S l L e e2 h1 h2
theorem yF (X : XH Tryd.prog) (hC : zP Tryd.prog ctr) (ex : Exit) (l : List (Nat × T)) (L : List HO) (h : ∀ st0, Own.canon (XP l) st0 = ofL l → Q ex st0) (e : Ky X ve ctr n (XP l) 4000 c fs st (hoH L) = some (.fin ex, ofL l, hoO L) := by kernel_rfl) : AWP Tryd.prog n c st (Qf Tryd.prog n fs Q) := yF6 X zC hC YX ex l L e h
theorem yO {k : Nat} {fn : Func}  {ls : List A} (keep : Bool) (rs : List (Nat × Option Nat)) (body : Code) (nt : Nat) (hf : Tryd.prog.funcs[k]? = some fn) (h : ∀ E : St → Prop, (∀ st x R U, z3y ve keep rs st = some (x, R, U) → LeV x r → E st) → AWP Tryd.prog ⟨nt, []⟩ body (ofL (z4b 0 ls)) (Qf Tryd.prog ⟨nt, []⟩ [] (z2N E))) (hb : fn.body = some body := by kernel_rfl) (hn : nt = fn.ntmps := by exact rfl) (hr : fn.results = (rs.map KH).toArray := by exact rfl) (hnm : (fn.name == "runtime.NumGoroutine") = false := by exact rfl) (ha : Nat.ble ls.length nt = true := by kernel_rfl) : Ys Tryd.prog k ls r := yO6 zC keep rs body nt hf hb hn hr hnm ha h
end
theorem z61 : z2o Tryd.prog 67 3 4 (Q5 .i64) (.atom (.bool false)) := z65 Tryd.underlying67 Tryd.underlying3 ⟨.bool false, fun w => Jv (f := Tryd.t4) (by kernel_rfl) rfl w, fun S => v7.2 ⟨rfl, rfl⟩⟩ rfl
theorem z8J : z2o Tryd.prog 68 34 4 (Wr [.i64, .i64]) (.atom (.bool false)) := z1P Tryd.underlying68 _ Tryd.underlying34 (Go.Ex.z7m.eqn rfl) (z33.eqn rfl) rfl ⟨.bool false, fun w => Jv (f := Tryd.t4) (by kernel_rfl) rfl w, fun S => v7.2 ⟨rfl, rfl⟩⟩ rfl
theorem z8I : z2o Tryd.prog 69 84 4 (Wr [.i64, .i64, .i64]) (.atom (.bool false)) := z1P Tryd.underlying69 _ Tryd.underlying84 (Go.Ex.z7l.eqn rfl) (z32.eqn rfl) rfl ⟨.bool false, fun w => Jv (f := Tryd.t4) (by kernel_rfl) rfl w, fun S => v7.2 ⟨rfl, rfl⟩⟩ rfl
theorem zcK : z9o Tryd.prog 67 1 false := z5D zC (t := 43) Tryd.so67 rfl rfl (by kernel_rfl) (by decide)
def vq : Code := (Tryd.f14.body).getD .skip
def Zk : yD := spF (α := z7) (ρ := Int) 14 (fun x => [xH x]) (fun r => (eI .i64) r) (fun x => ky x) [] (Jf)
abbrev Vu : List (Nat × T) := []
abbrev Vt (m_ : z7) (s_ : Int) : List (Nat × T) := [(1, .own (.box (xH m_))), (3, .d (I s_))]
abbrev Vs (m_ : z7) (s_ : Int) (i_ : Int) : List (Nat × T) := [(1, .own (.box (xH m_))), (3, .d (I s_)), (4, .d (I i_))]
abbrev Vr (m_ : z7) (s_ : Int) (i_ : Int) (ap : zy) : List (Nat × T) := [(1, .own (.box (xH m_))), (3, .d (I s_)), (4, .d (I i_)), (5, .own (.box (F6_ ap)))]
abbrev Vp (m_ : z7) (s_ : Int) (i_ : Int) : List (Nat × T) := [(1, .own (.box (xH m_))), (3, .d (I s_)), (4, .d (I i_))]
abbrev Vq (m_ : z7) (s_ : Int) : List (Nat × T) := [(1, .own (.box (xH m_))), (3, .d (I s_))]
variable {ctr : Ctr}
theorem JH (hC : zP Tryd.prog ctr) : Zk.Ok Tryd.prog := by
 refine y6 ?_
 rintro m_ r0 aa
 try unfold ky at aa
 refine yO true [(2, none)] vq 95 Tryd.func14 fun E hE => ?_
 rcases y5 aa with ⟨c0, aa⟩ | ⟨c0, aa⟩
 ·obtain rfl := zg aa
  exact yE X0 hC hE (rpN 4 (Hq c0) (rpN 6 qT []))
 ·let Z0 : List HO := (rpN 4 (Hq c0) [])
  rcases y5 aa with ⟨c1, aa⟩ | ⟨c1, aa⟩
  ·obtain rfl := zg aa
   exact yE X0 hC hE (Z0 ++ (rpN 5 (Hq c1) [qT]))
  ·let Z1 : List HO := (Z0 ++ [Hq c1, Hq c1, Hq c1, Ha (lnM jB m_.Rows), Hq c1, Hq c1])
   rcases y5 aa with ⟨c2, aa⟩ | ⟨c2, aa⟩
   ·obtain rfl := zg aa
    exact yE X0 hC hE (Z1 ++ [Hq c2])
   ·rcases y5 aa with ⟨c3, aa⟩ | ⟨c3, aa⟩
    ·obtain rfl := zg aa
     exact yE X0 hC hE (Z1 ++ (Hq c2 :: (rpN 4 (Hq c3) (rpN 6 qT []))))
    ·let Z2 : List HO := (Z1 ++ (Hq c2 :: (rpN 4 (Hq c3) [])))
     rcases y5 aa with ⟨c4, aa⟩ | ⟨c4, aa⟩
     ·obtain rfl := zg aa
      exact yE X0 hC hE (Z2 ++ (rpN 5 (Hq c4) [qT]))
     ·let Z3 : List HO := (Z2 ++ [Hq c4, Hq c4, Hq c4, Ha (lnM jB m_.Rows), Hq c4, Hq c4])
      rcases y5 aa with ⟨c5, aa⟩ | ⟨c5, aa⟩
      ·obtain rfl := zg aa
       exact yE X0 hC hE (Z3 ++ [Hq c5])
      ·refine yJ X0 hC vq [1,1,1] [] [] (fun z : Unit => Zp = some r0) (fun z => Vu) [(1, .own (.box (xH m_)))] (Z3 ++ [Hq c5, Hh (.cut 0)]) ?_ fun J1 a7 => ?_
       ·rintro ⟨⟩ aa
        unfold Zp at aa
        obtain rfl := zg aa
        exact yE X0 hC hE []
       ·obtain ⟨t2, ht2, aa⟩ := zl aa
        refine yL X0 hC vq [1,1,1,2,1,0] [J1] (fun s => ug m_ s) (fun x => Vq m_ x) 0 ht2  [] ?_
        rintro s_ m2 bm ae hl1 J2 a8
        try unfold ug at ae
        let Z4 : List HO := [Ha (lnM jB m_.Rows)]
        rcases y5 ae with ⟨c6, ae⟩ | ⟨c6, ae⟩
        ·refine yJ X0 hC vq [1,1,1,2,1,0,0,1] [J1, J2] [1,3] (fun z : Unit => Zo s_ = some bm) (fun z => Vt m_ s_) [(1, .own (.box (xH m_))), (3, .d (I s_))] (Z4 ++ [Hq c6, Hh (.cut 0)]) ?_ fun J3 cj => ?_
         ·rintro ⟨⟩ ae
          unfold Zo at ae
          obtain rfl := zg ae
          exact yB X0 hC a8 (w64 (s_ + 1)) hl1 []
         ·obtain ⟨au, h0, ae⟩ := zl ae
          let Z5 : List HO := [Hi jB h0, Ha (lnM F6_ au)]
          rcases y5 ae with ⟨c7, ae⟩ | ⟨c7, ae⟩
          ·obtain rfl := zg ae
           obtain rfl := hl1
           obtain rfl := zg aa
           exact yE X0 hC hE (Z5 ++ [Hq c7])
          ·obtain ⟨t4, ht4, ae⟩ := zl ae
           refine yL X0 hC vq [1,1,1,2,1,0,0,1,2,0,1,1,0] [J1, J2, J3] (fun s => vn m_ s_ s) (fun x => Vp m_ s_ x) 0 ht4  (Z5 ++ [Hq c7]) ?_
           rintro i_ m4 ep ai hl2 J4 dz
           try unfold vn at ai
           rcases y5 ai with ⟨c8, ai⟩ | ⟨c8, ai⟩
           ·refine yJ X0 hC vq [1,1,1,2,1,0,0,1,2,0,1,1,0,0,1] [J1, J2, J3, J4] [1,3,4] (fun z : Unit => uN i_ = some ep) (fun z => Vs m_ s_ i_) [(1, .own (.box (xH m_))), (3, .d (I s_)), (4, .d (I i_))] [Hq c8, Hh (.cut 0)] ?_ fun J5 dp => ?_
            ·rintro ⟨⟩ ai
             unfold uN at ai
             obtain rfl := zg ai
             exact yB X0 hC dz (w64 (i_ + 1)) hl2 []
            ·obtain ⟨bq, h1, ai⟩ := zl ai
             obtain ⟨ap, h2, ai⟩ := zl ai
             refine yJ X0 hC vq [1,1,1,2,1,0,0,1,2,0,1,1,0,0,1,2,0,1] [J1, J2, J3, J4, J5] [1,3,4,5] (fun z : Unit => uM m_ i_ ap = some ep) (fun z => Vr m_ s_ i_ ap) [(1, .own (.box (xH m_))), (3, .d (I s_)), (4, .d (I i_)), (5, .own (.box (F6_ ap)))] [Hi jB h1, Hi F6_ h2, Hh (.cut 0)] ?_ fun J6 fe => ?_
             ·rintro ⟨⟩ ai
              unfold uM at ai
              rcases y5 ai with ⟨c9, ai⟩ | ⟨c9, ai⟩
              ·obtain rfl := zg ai
               obtain rfl := hl2
               obtain rfl := zg ae
               obtain rfl := hl1
               obtain rfl := zg aa
               exact yE X0 hC hE (rpN 7 (Hq c9) (rpN 11 qT []))
              ·let Z6 : List HO := (rpN 5 (Hq c9) [Ha (lnM jB m_.Rows), Hq c9, Hq c9])
               rcases y5 ai with ⟨c10, ai⟩ | ⟨c10, ai⟩
               ·obtain rfl := zg ai
                obtain rfl := hl2
                obtain rfl := zg ae
                obtain rfl := hl1
                obtain rfl := zg aa
                exact yE X0 hC hE (Z6 ++ (rpN 4 (Hq c10) (rpN 7 qT [])))
               ·let Z7 : List HO := (Z6 ++ (rpN 4 (Hq c10) []))
                rcases y5 ai with ⟨c11, ai⟩ | ⟨c11, ai⟩
                ·obtain rfl := zg ai
                 obtain rfl := hl2
                 obtain rfl := zg ae
                 obtain rfl := hl1
                 obtain rfl := zg aa
                 exact yE X0 hC hE (Z7 ++ (rpN 6 (Hq c11) [qT]))
                ·let Z8 : List HO := (Z7 ++ (rpN 6 (Hq c11) []))
                 rcases y5 ai with ⟨c12, ai⟩ | ⟨c12, ai⟩
                 ·obtain rfl := zg ai
                  obtain rfl := hl2
                  obtain rfl := zg ae
                  obtain rfl := hl1
                  obtain rfl := zg aa
                  exact yE X0 hC hE (Z8 ++ [Hq c12])
                 ·exact yB X0 hC dp () ai (Z8 ++ [Hq c12])
             ·rcases y5 ai with ⟨c13, ai⟩ | ⟨c13, ai⟩
              ·let Z9 : List HO := (rpN 4 (Hq c13) [])
               rcases y5 ai with ⟨c14, ai⟩ | ⟨c14, ai⟩
               ·exact yB X0 hC dp () ai (Z9 ++ [Hq c14])
               ·exact yB X0 hC fe () ai (Z9 ++ [Hq c14])
              ·exact yB X0 hC fe () ai (rpN 4 (Hq c13) [qF])
           ·obtain rfl := zg ai
            obtain rfl := hl2
            exact yB X0 hC cj () ae [Hq c8]
        ·obtain rfl := zg ae
         obtain rfl := hl1
         exact yB X0 hC a7 () aa (Z4 ++ [Hq c6])
def Km : Code := (Tryd.f53.body).getD .skip
def Y2 : yD := spF (α := List Int) (ρ := Int) 53 (fun x => [F4_ x]) (fun r => (eI .i64) r) (fun x => ke x) [] (Jf)
theorem KB (hC : zP Tryd.prog ctr) : Y2.Ok Tryd.prog := by
 refine y6 ?_
 rintro w_ r0 aa
 try unfold ke at aa
 refine yO true [(2, none)] Km 6 Tryd.func53 fun E hE => ?_
 rcases y5 aa with ⟨c0, aa⟩ | ⟨c0, aa⟩
 ·obtain rfl := zg aa
  exact yE X0 hC hE [Ha (lnM (eI .i64) w_), Hq c0]
 ·obtain rfl := zg aa
  exact yE X0 hC hE [Ha (lnM (eI .i64) w_), Hq c0]
def jN : Code := (Tryd.f54.body).getD .skip
def jG : yD := spF (α := List Int × Int) (ρ := Int) 54 (fun x => [F4_ x.1, (eI .i64) x.2]) (fun r => (eI .i64) r) (fun x => qp x.1 x.2) [] (V5)
abbrev W1 : List (Nat × T) := []
abbrev W0 (w_ : List Int) (inputs : Int) (i_ : Int) : List (Nat × T) := [(0, .d (eSl 1 false (eI .i64) w_)), (1, .d (I inputs)), (5, .d (I i_))]
theorem Uv (hC : zP Tryd.prog ctr) : jG.Ok Tryd.prog := by
 refine y6 ?_
 rintro ⟨w_, inputs⟩ r0 aa
 try unfold qp at aa
 refine yO true [(4, none)] jN 25 Tryd.func54 fun E hE => ?_
 refine yJ X0 hC jN [1] [] [] (fun z : Unit => jK = some r0) (fun z => W1) [(0, .d (eSl 1 false (eI .i64) w_)), (1, .d (I inputs))] [Hh (.cut 1)] ?_ fun J1 a7 => ?_
 ·rintro ⟨⟩ aa
  unfold jK at aa
  obtain rfl := zg aa
  exact yE X0 hC hE []
 ·obtain ⟨t2, ht2, aa⟩ := zl aa
  refine yL X0 hC jN [1,2,1,0] [J1] (fun s => wU w_ inputs s) (fun x => W0 w_ inputs x) 0 ht2  [] ?_
  rintro i_ m2 bm ae hl1 J2 a8
  try unfold wU at ae
  rcases y5 ae with ⟨c0, ae⟩ | ⟨c0, ae⟩
  ·obtain ⟨bu, h0, ae⟩ := zl ae
   let Z0 : List HO := [Ha (lnM (eI .i64) w_), Hq c0, Hi (eI .i64) h0]
   rcases y5 ae with ⟨c1, ae⟩ | ⟨c1, ae⟩
   ·obtain rfl := zg ae
    obtain rfl := hl1
    obtain rfl := zg aa
    exact yE X0 hC hE (Z0 ++ (rpN 7 (Hq c1) [qT]))
   ·obtain ⟨gi, h1, ae⟩ := zl ae
    let Z1 : List HO := (Z0 ++ (Hq c1 :: Hq c1 :: Hq c1 :: Hi (eI .i64) h1 :: (rpN 4 (Hq c1) [])))
    rcases y5 ae with ⟨c2, ae⟩ | ⟨c2, ae⟩
    ·obtain rfl := zg ae
     obtain rfl := hl1
     obtain rfl := zg aa
     exact yE X0 hC hE (Z1 ++ [Hq c2])
    ·obtain rfl := zg ae
     exact yB X0 hC a8 (w64 (i_ + 1)) hl1 (Z1 ++ [Hq c2])
  ·obtain rfl := zg ae
   obtain rfl := hl1
   exact yB X0 hC a7 () aa [Ha (lnM (eI .i64) w_), Hq c0]
def Zx : Code := (Tryd.f35.body).getD .skip
def Zi : yD := spF (α := List (List Int) × Int) (ρ := Int) 35 (fun x => [F9_ x.1, (eI .i64) x.2]) (fun r => (eI .i64) r) (fun x => kw x.1 x.2) [] (V5)
abbrev Vm : List (Nat × T) := []
abbrev Vl (l_ : List (List Int)) (inputs : Int) (i_ : Int) : List (Nat × T) := [(0, .d (eSl 1 false F4_ l_)), (1, .d (I inputs)), (5, .d (I i_))]
theorem JF (hC : zP Tryd.prog ctr) (h0s : ctr.Has Y2) (h0t : ctr.Has jG) : Zi.Ok Tryd.prog := by
 refine y6 ?_
 rintro ⟨l_, inputs⟩ r0 aa
 try unfold kw at aa
 refine yO true [(4, none)] Zx 40 Tryd.func35 fun E hE => ?_
 rcases y5 aa with ⟨c0, aa⟩ | ⟨c0, aa⟩
 ·obtain rfl := zg aa
  exact yE X0 hC hE (rpN 4 (Hq c0) [qT])
 ·let Z0 : List HO := [Hq c0, Hq c0, Ha (lnM F4_ l_), Hq c0, Hq c0]
  rcases y5 aa with ⟨c1, aa⟩ | ⟨c1, aa⟩
  ·obtain rfl := zg aa
   exact yE X0 hC hE (Z0 ++ [Hq c1])
  ·rcases y5 aa with ⟨c2, aa⟩ | ⟨c2, aa⟩
   ·obtain rfl := zg aa
    exact yE X0 hC hE (Z0 ++ [Hq c1, Hq c2])
   ·refine yJ X0 hC Zx [1,1,1] [] [] (fun z : Unit => Zn = some r0) (fun z => Vm) [(0, .d (eSl 1 false F4_ l_)), (1, .d (I inputs))] (Z0 ++ [Hq c1, Hq c2, Hh (.cut 0)]) ?_ fun J1 a7 => ?_
    ·rintro ⟨⟩ aa
     unfold Zn at aa
     obtain rfl := zg aa
     exact yE X0 hC hE []
    ·obtain ⟨t2, ht2, aa⟩ := zl aa
     refine yL X0 hC Zx [1,1,1,2,1,0] [J1] (fun s => ue l_ inputs s) (fun x => Vl l_ inputs x) 0 ht2  [] ?_
     rintro i_ m2 bm ae hl1 J2 a8
     try unfold ue at ae
     let Z1 : List HO := [Ha (lnM F4_ l_)]
     rcases y5 ae with ⟨c3, ae⟩ | ⟨c3, ae⟩
     ·obtain ⟨az, h0, ae⟩ := zl ae
      obtain ⟨r_, h1, ae⟩ := zl ae
      let Z2 : List HO := (Z1 ++ [Hq c3, Hi F4_ h0, Hc h0s (x := az) h1 (loC F4_ az <| loN)])
      rcases y5 ae with ⟨c4, ae⟩ | ⟨c4, ae⟩
      ·obtain rfl := zg ae
       obtain rfl := hl1
       obtain rfl := zg aa
       exact yE X0 hC hE (Z2 ++ [Hq c4])
      ·obtain ⟨br, h2, ae⟩ := zl ae
       obtain ⟨ah, h3, ae⟩ := zl ae
       let Z3 : List HO := (Z2 ++ [Hq c4, Hi F4_ h2, Hc h0t (x := (br, inputs)) h3 (loC F4_ br <| loC (eI .i64) inputs <| loN)])
       rcases y5 ae with ⟨c5, ae⟩ | ⟨c5, ae⟩
       ·obtain rfl := zg ae
        obtain rfl := hl1
        obtain rfl := zg aa
        exact yE X0 hC hE (Z3 ++ [Hq c5])
       ·obtain rfl := zg ae
        exact yB X0 hC a8 (w64 (i_ + 1)) hl1 (Z3 ++ [Hq c5])
     ·obtain rfl := zg ae
      obtain rfl := hl1
      exact yB X0 hC a7 () aa (Z1 ++ [Hq c3])
def jO : Code := (Tryd.f36.body).getD .skip
def uR : yD := spF (α := List Int × List Int) (ρ := Int) 36 (fun x => [F4_ x.1, F4_ x.2]) (fun r => (eI .i64) r) (fun x => uE x.1 x.2) [] (V5)
abbrev W3 : List (Nat × T) := []
abbrev W2 (a_ : List Int) (b_ : List Int) (i_ : Int) : List (Nat × T) := [(0, .d (eSl 1 false (eI .i64) a_)), (1, .d (eSl 1 false (eI .i64) b_)), (5, .d (I i_))]
theorem Uw (hC : zP Tryd.prog ctr) : uR.Ok Tryd.prog := by
 refine y6 ?_
 rintro ⟨a_, b_⟩ r0 aa
 try unfold uE at aa
 refine yO true [(4, none)] jO 40 Tryd.func36 fun E hE => ?_
 let Z0 : List HO := [Ha (lnM (eI .i64) a_), Ha (lnM (eI .i64) b_)]
 rcases y5 aa with ⟨c0, aa⟩ | ⟨c0, aa⟩
 ·let Z1 : List HO := (Z0 ++ [Hq c0, Ha (lnM (eI .i64) a_), Ha (lnM (eI .i64) b_)])
  rcases y5 aa with ⟨c1, aa⟩ | ⟨c1, aa⟩
  ·obtain rfl := zg aa
   exact yE X0 hC hE (Z1 ++ [Hq c1])
  ·obtain rfl := zg aa
   exact yE X0 hC hE (Z1 ++ [Hq c1])
 ·refine yJ X0 hC jO [1,1] [] [] (fun z : Unit => jL = some r0) (fun z => W3) [(0, .d (eSl 1 false (eI .i64) a_)), (1, .d (eSl 1 false (eI .i64) b_))] (Z0 ++ [Hq c0, Hh (.cut 0)]) ?_ fun J1 a7 => ?_
  ·rintro ⟨⟩ aa
   unfold jL at aa
   obtain rfl := zg aa
   exact yE X0 hC hE []
  ·obtain ⟨t2, ht2, aa⟩ := zl aa
   refine yL X0 hC jO [1,1,2,1,0] [J1] (fun s => u7 a_ b_ s) (fun x => W2 a_ b_ x) 0 ht2  [] ?_
   rintro i_ m2 bm ae hl1 J2 a8
   try unfold u7 at ae
   rcases y5 ae with ⟨c2, ae⟩ | ⟨c2, ae⟩
   ·obtain ⟨eu, h0, ae⟩ := zl ae
    obtain ⟨ew, h1, ae⟩ := zl ae
    let Z2 : List HO := [Ha (lnM (eI .i64) a_), Hq c2, Hi (eI .i64) h0, Hi (eI .i64) h1]
    rcases y5 ae with ⟨c3, ae⟩ | ⟨c3, ae⟩
    ·obtain rfl := zg ae
     obtain rfl := hl1
     obtain rfl := zg aa
     exact yE X0 hC hE (Z2 ++ [Hq c3])
    ·obtain ⟨gj, h2, ae⟩ := zl ae
     obtain ⟨gk, h3, ae⟩ := zl ae
     let Z3 : List HO := (Z2 ++ [Hq c3, Hi (eI .i64) h2, Hi (eI .i64) h3])
     rcases y5 ae with ⟨c4, ae⟩ | ⟨c4, ae⟩
     ·obtain rfl := zg ae
      obtain rfl := hl1
      obtain rfl := zg aa
      exact yE X0 hC hE (Z3 ++ [Hq c4])
     ·obtain rfl := zg ae
      exact yB X0 hC a8 (w64 (i_ + 1)) hl1 (Z3 ++ [Hq c4])
   ·obtain rfl := zg ae
    obtain rfl := hl1
    exact yB X0 hC a7 () aa [Ha (lnM (eI .i64) a_), Hq c2]
def Zw : Code := (Tryd.f37.body).getD .skip
def Zh : yD := spF (α := List (List Int)) (ρ := Int) 37 (fun x => [F9_ x]) (fun r => (eI .i64) r) (fun x => ku x) [] (Jf)
abbrev Vk (n_ : Int) : List (Nat × T) := [(3, .d (I n_))]
abbrev Vj (l_ : List (List Int)) (cg : Int) (i_ : Int) : List (Nat × T) := [(0, .d (eSl 1 false F4_ l_)), (3, .d (I cg)), (4, .d (I i_))]
theorem JE (hC : zP Tryd.prog ctr) : Zh.Ok Tryd.prog := by
 refine y6 ?_
 rintro l_ r0 aa
 try unfold ku at aa
 refine yO true [(2, none)] Zw 19 Tryd.func37 fun E hE => ?_
 refine yJ X0 hC Zw [1,1] [] [3] (fun z : Int => Zm z = some r0) (fun z => Vk z) [(0, .d (eSl 1 false F4_ l_)), (3, .d (I 0))] [Hh (.cut 2)] ?_ fun J1 a7 => ?_
 ·rintro n_ aa
  unfold Zm at aa
  obtain rfl := zg aa
  exact yE X0 hC hE []
 ·obtain ⟨t2, ht2, aa⟩ := zl aa
  refine yL X0 hC Zw [1,1,2,1,0] [J1] (fun s => ud l_ s.1 s.2) (fun x => Vj l_ x.1 x.2) (0,0) ht2  [] ?_
  rintro ⟨cg, i_⟩ m2 bm ae hl1 J2 a8
  try unfold ud at ae
  let Z0 : List HO := [Ha (lnM F4_ l_)]
  rcases y5 ae with ⟨c0, ae⟩ | ⟨c0, ae⟩
  ·obtain ⟨az, h0, ae⟩ := zl ae
   obtain rfl := zg ae
   exact yB X0 hC a8 (w64 (cg + ((az.length : Nat) : Int)), w64 (i_ + 1)) hl1 (Z0 ++ [Hq c0, Hi F4_ h0, Ha (lnM (eI .i64) az)])
  ·obtain rfl := zg ae
   obtain rfl := hl1
   exact yB X0 hC a7 cg aa (Z0 ++ [Hq c0])
def Zy : Code := (Tryd.f15.body).getD .skip
def Zj : yD := spF (α := List (List Int) × Int) (ρ := Int) 15 (fun x => [F9_ x.1, (eI .i64) x.2]) (fun r => (eI .i64) r) (fun x => kx x.1 x.2) [] (V5)
abbrev Vo (l_ : List (List Int)) : List (Nat × T) := [(0, .d (eSl 1 false F4_ l_))]
abbrev Vn (l_ : List (List Int)) (i_ : Int) : List (Nat × T) := [(0, .d (eSl 1 false F4_ l_)), (6, .d (I i_))]
theorem JG (hC : zP Tryd.prog ctr) (h0u : ctr.Has Zi) (h0e : ctr.Has uR) (h0v : ctr.Has Zh) : Zj.Ok Tryd.prog := by
 refine y6 ?_
 rintro ⟨l_, inputs⟩ r0 aa
 try unfold kx at aa
 refine yO true [(4, none)] Zy 33 Tryd.func15 fun E hE => ?_
 obtain ⟨r_, h0, aa⟩ := zl aa
 let Z0 : List HO := [Hc h0u (x := (l_, inputs)) h0 (loC F9_ l_ <| loC (eI .i64) inputs <| loN)]
 rcases y5 aa with ⟨c0, aa⟩ | ⟨c0, aa⟩
 ·obtain rfl := zg aa
  exact yE X0 hC hE (Z0 ++ [Hq c0])
 ·refine yJ X0 hC Zy [1,1] [] [0] (fun z : Unit => jl l_ = some r0) (fun z => Vo l_) [(0, .d (eSl 1 false F4_ l_))] (Z0 ++ [Hq c0, Hh (.cut 0)]) ?_ fun J1 a7 => ?_
  ·rintro ⟨⟩ aa
   unfold jl at aa
   obtain ⟨ah, h1, aa⟩ := zl aa
   let Z1 : List HO := [Hc h0v (x := l_) h1 (loC F9_ l_ <| loN)]
   rcases y5 aa with ⟨c1, aa⟩ | ⟨c1, aa⟩
   ·obtain rfl := zg aa
    exact yE X0 hC hE (Z1 ++ [Hq c1])
   ·obtain rfl := zg aa
    exact yE X0 hC hE (Z1 ++ [Hq c1])
  ·obtain ⟨t2, ht2, aa⟩ := zl aa
   refine yL X0 hC Zy [1,1,2,1,0] [J1] (fun s => uf l_ s) (fun x => Vn l_ x) 1 ht2  [] ?_
   rintro i_ m2 bm ae hl1 J2 a8
   try unfold uf at ae
   let Z2 : List HO := [Ha (lnM F4_ l_)]
   rcases y5 ae with ⟨c2, ae⟩ | ⟨c2, ae⟩
   ·obtain ⟨az, h2, ae⟩ := zl ae
    obtain ⟨br, h3, ae⟩ := zl ae
    obtain ⟨ak, h4, ae⟩ := zl ae
    let Z3 : List HO := (Z2 ++ [Hq c2, Hi F4_ h2, Hi F4_ h3, Hc h0e (x := (az, br)) h4 (loC F4_ az <| loC F4_ br <| loN)])
    rcases y5 ae with ⟨c3, ae⟩ | ⟨c3, ae⟩
    ·obtain rfl := zg ae
     obtain rfl := hl1
     obtain rfl := zg aa
     exact yE X0 hC hE (Z3 ++ [Hq c3])
    ·obtain rfl := zg ae
     exact yB X0 hC a8 (w64 (i_ + 1)) hl1 (Z3 ++ [Hq c3])
   ·obtain rfl := zg ae
    obtain rfl := hl1
    exact yB X0 hC a7 () aa (Z2 ++ [Hq c2])
def VT : Code := (Tryd.f74.body).getD .skip
def jH : yD := spF (α := Unit) (ρ := zy) 74 (fun x => []) (fun r => F6_ r) (fun x => k7) [] (fun _ _ _ => rfl)
theorem Ux (hC : zP Tryd.prog ctr) : jH.Ok Tryd.prog := by
 refine y6 ?_
 rintro ⟨⟩ r0 aa
 try unfold k7 at aa
 refine yO false [(0, some 81)] VT 2 Tryd.func74 fun E hE => ?_
 obtain rfl := zg aa
 exact yE X0 hC hE []
def VU : Code := (Tryd.f60.body).getD .skip
def jI : yD := spF (α := z7 × zy) (ρ := Bool) 60 (fun x => [xH x.1, F6_ x.2]) (fun r => eB r) (fun x => qq x.1 x.2) [] (V5)
theorem Uy (hC : zP Tryd.prog ctr) (h0w : ctr.Has jH) : jI.Ok Tryd.prog := by
 refine y6 ?_
 rintro ⟨m_, x_⟩ r0 aa
 try unfold qq at aa
 refine yO true [(4, none)] VU 33 Tryd.func60 fun E hE => ?_
 obtain ⟨r_, h0, aa⟩ := zl aa
 let Z0 : List HO := [Hc h0w (x := ()) h0 (loN)]
 rcases y5 aa with ⟨c0, aa⟩ | ⟨c0, aa⟩
 ·obtain rfl := zg aa
  exact yE X0 hC hE (Z0 ++ (rpN 10 (Hq c0) []))
 ·let Z1 : List HO := (Z0 ++ (rpN 4 (Hq c0) []))
  rcases y5 aa with ⟨c1, aa⟩ | ⟨c1, aa⟩
  ·let Z2 : List HO := (Z1 ++ (rpN 5 (Hq c1) [Ha (lnM jB m_.Rows), Hq c1, Hq c0, Hq c1, Hq c0]))
   rcases y5 aa with ⟨c2, aa⟩ | ⟨c2, aa⟩
   ·let Z3 : List HO := (Z2 ++ [Hq c2, Hq c2, Hq c2, Hq c0, Hq c2, Hq c0])
    rcases y5 aa with ⟨c3, aa⟩ | ⟨c3, aa⟩
    ·obtain rfl := zg aa
     exact yE X0 hC hE (Z3 ++ (rpN 5 (Hq c3) [Hq c0, Hq c3, Hq c0]))
    ·obtain rfl := zg aa
     exact yE X0 hC hE (Z3 ++ (rpN 5 (Hq c3) [Hq c0, Hq c3, Hq c0]))
   ·obtain rfl := zg aa
    exact yE X0 hC hE (Z2 ++ (Hq c2 :: Hq c2 :: Hq c2 :: Hq c0 :: Hq c2 :: Hq c0 :: (rpN 5 qF [Hq c0, qF, Hq c0])))
  ·obtain rfl := zg aa
   exact yE X0 hC hE (Z1 ++ (rpN 6 (Hq c1) (Hq c0 :: Hq c1 :: Hq c0 :: qF :: qF :: qF :: Hq c0 :: qF :: Hq c0 :: (rpN 5 qF [Hq c0, qF, Hq c0]))))
def XX : Code := (Tryd.f59.body).getD .skip
def uX : yD := spF (α := zy × z7) (ρ := Bool) 59 (fun x => [F6_ x.1, z6S x.2]) (fun r => eB r) (fun x => uU x.1 x.2) [] (V5)
theorem Wf (hC : zP Tryd.prog ctr) (h0x : ctr.Has jI) : uX.Ok Tryd.prog := by
 refine y6 ?_
 rintro ⟨x_, x1⟩ r0 aa
 try unfold uU at aa
 refine yO true [(3, none)] XX 8 Tryd.func59 fun E hE => ?_
 obtain ⟨r_, h0, aa⟩ := zl aa
 obtain rfl := zg aa
 exact yE X0 hC hE [Hc h0x (x := (x1, x_)) h0 (loC xH x1 <| loC F6_ x_ <| loN)]
def yR : Code := (Tryd.f73.body).getD .skip
def yN : yD := spF (α := List zy × z7) (ρ := Int) 73 (fun x => [jB x.1, (z0s 59 z6S) x.2]) (fun r => (eI .i64) r) (fun x => yp x.1 x.2) [] (by
 rintro ⟨a0, a1⟩ ⟨b0, b1⟩ h
 have e0 := jS.inj (f := jB) _ _ (List.cons.inj h).1
 replace h := (List.cons.inj h).2
 have e1 := jS.inj (f := (z0s 59 z6S)) _ _ (List.cons.inj h).1
 subst e0 e1
 rfl)
abbrev ut : List (Nat × T) := []
abbrev ur (s_ : List zy) (f_ : z7) (x8 : Int) : List (Nat × T) := [(0, .d (eSl 2 false F6_ s_)), (1, .d (.fn 59 [.sptr (.agg [I f_.Inputs, I f_.Outputs, eSl 1 false jB f_.Rows])])), (7, .d (I ((s_.length : Nat) : Int))), (8, .d (I x8))]
theorem uL (hC : zP Tryd.prog ctr) (h0y : ctr.Has uX) : yN.Ok Tryd.prog := by
 refine y6 ?_
 rintro ⟨s_, f_⟩ r0 aa
 try unfold yp at aa
 refine yO true [(4, none)] yR 19 Tryd.func73 fun E hE => ?_
 refine yJ X0 hC yR [1] [] [] (fun z : Unit => yP = some r0) (fun z => ut) [(0, .d (eSl 2 false F6_ s_)), (1, .d (.fn 59 [.sptr (.agg [I f_.Inputs, I f_.Outputs, eSl 1 false jB f_.Rows])]))] [Hh (.cut 1)] ?_ fun J1 a7 => ?_
 ·rintro ⟨⟩ aa
  unfold yP at aa
  obtain rfl := zg aa
  exact yE X0 hC hE []
 ·obtain ⟨t2, ht2, aa⟩ := zl aa
  refine yL X0 hC yR [1,2,1,0] [J1] (fun s => zO s_ f_ s) (fun x => ur s_ f_ x) 0 ht2  [Ha (lnM F6_ s_)] ?_
  rintro x8 m2 bm ae hl1 J2 a8
  try unfold zO at ae
  rcases y5 ae with ⟨c0, ae⟩ | ⟨c0, ae⟩
  ·obtain ⟨db, h0, ae⟩ := zl ae
   obtain ⟨r_, h1, ae⟩ := zl ae
   let Z0 : List HO := [Hq c0, Hi F6_ h0, Hc h0y (x := (db, f_)) h1 (loC F6_ db <| loC z6S f_ <| loN)]
   rcases y5 ae with ⟨c1, ae⟩ | ⟨c1, ae⟩
   ·obtain rfl := zg ae
    obtain rfl := hl1
    obtain rfl := zg aa
    exact yE X0 hC hE (Z0 ++ [Hq c1])
   ·obtain rfl := zg ae
    exact yB X0 hC a8 (w64 (x8 + 1)) hl1 (Z0 ++ [Hq c1])
  ·obtain rfl := zg ae
   obtain rfl := hl1
   exact yB X0 hC a7 () aa [Hq c0]
def uq : Code := (Tryd.f58.body).getD .skip
def yw : yD := spF (α := List zy × z7) (ρ := Bool) 58 (fun x => [jB x.1, (z0s 59 z6S) x.2]) (fun r => eB r) (fun x => zW x.1 x.2) [] (by
 rintro ⟨a0, a1⟩ ⟨b0, b1⟩ h
 have e0 := jS.inj (f := jB) _ _ (List.cons.inj h).1
 replace h := (List.cons.inj h).2
 have e1 := jS.inj (f := (z0s 59 z6S)) _ _ (List.cons.inj h).1
 subst e0 e1
 rfl)
theorem uu (hC : zP Tryd.prog ctr) (h0z : ctr.Has yN) : yw.Ok Tryd.prog := by
 refine y6 ?_
 rintro ⟨s_, f_⟩ r0 aa
 try unfold zW at aa
 refine yO true [(4, none)] uq 9 Tryd.func58 fun E hE => ?_
 obtain ⟨r_, h0, aa⟩ := zl aa
 obtain rfl := zg aa
 exact yE X0 hC hE [Hc h0z (x := (s_, f_)) h0 (loC jB s_ <| loC (z0s 59 z6S) f_ <| loN)]
def jd : Code := (Tryd.f42.body).getD .skip
def uB : yD := spF (α := z7) (ρ := Int) 42 (fun x => [xH x]) (fun r => (eI .i64) r) (fun x => uh x) [] (Jf)
abbrev Xx : List (Nat × T) := []
abbrev Xw (m_ : z7) (fm : Int) : List (Nat × T) := [(1, .d (.sptr (xH m_))), (34, .d (eSl 1 false jB m_.Rows)), (35, .d (I ((m_.Rows.length : Nat) : Int))), (36, .d (I fm))]
theorem VK (hC : zP Tryd.prog ctr) (h0A : ctr.Has yw) : uB.Ok Tryd.prog := by
 refine y6 ?_
 rintro m_ r0 aa
 try unfold uh at aa
 refine yO true [(2, none)] jd 51 Tryd.func42 fun E hE => ?_
 rcases y5 aa with ⟨c0, aa⟩ | ⟨c0, aa⟩
 ·obtain rfl := zg aa
  exact yE X0 hC hE (rpN 4 (Hq c0) (rpN 6 qT []))
 ·let Z0 : List HO := (rpN 4 (Hq c0) [])
  rcases y5 aa with ⟨c1, aa⟩ | ⟨c1, aa⟩
  ·obtain rfl := zg aa
   exact yE X0 hC hE (Z0 ++ (rpN 5 (Hq c1) [qT]))
  ·let Z1 : List HO := (Z0 ++ [Hq c1, Hq c1, Hq c1, Ha (lnM jB m_.Rows), Hq c1, Hq c1])
   rcases y5 aa with ⟨c2, aa⟩ | ⟨c2, aa⟩
   ·obtain rfl := zg aa
    exact yE X0 hC hE (Z1 ++ [Hq c2])
   ·rcases y5 aa with ⟨c3, aa⟩ | ⟨c3, aa⟩
    ·obtain rfl := zg aa
     exact yE X0 hC hE (Z1 ++ (Hq c2 :: (rpN 4 (Hq c3) (rpN 6 qT []))))
    ·let Z2 : List HO := (Z1 ++ (Hq c2 :: (rpN 4 (Hq c3) [])))
     rcases y5 aa with ⟨c4, aa⟩ | ⟨c4, aa⟩
     ·obtain rfl := zg aa
      exact yE X0 hC hE (Z2 ++ (rpN 5 (Hq c4) [qT]))
     ·let Z3 : List HO := (Z2 ++ [Hq c4, Hq c4, Hq c4, Ha (lnM jB m_.Rows), Hq c4, Hq c4])
      rcases y5 aa with ⟨c5, aa⟩ | ⟨c5, aa⟩
      ·obtain rfl := zg aa
       exact yE X0 hC hE (Z3 ++ [Hq c5])
      ·refine yJ X0 hC jd [1,1,1] [] [] (fun z : Unit => j7 = some r0) (fun z => Xx) [(1, .own (.box (xH m_)))] (Z3 ++ [Hq c5, Hh (.cut 0)]) ?_ fun J1 a7 => ?_
       ·rintro ⟨⟩ aa
        unfold j7 at aa
        obtain rfl := zg aa
        exact yE X0 hC hE []
       ·obtain ⟨t2, ht2, aa⟩ := zl aa
        refine yL X0 hC jd [1,1,1,2,1,0] [J1] (fun s => wD m_ s) (fun x => Xw m_ x) 0 ht2  [Ha (lnM jB m_.Rows), Hh (.n 1 [1])] ?_
        rintro fm m2 bm ae hl1 J2 a8
        try unfold wD at ae
        rcases y5 ae with ⟨c6, ae⟩ | ⟨c6, ae⟩
        ·obtain ⟨au, h0, ae⟩ := zl ae
         let Z4 : List HO := [Hq c6, Hi jB h0, Ha (lnM F6_ au)]
         rcases y5 ae with ⟨c7, ae⟩ | ⟨c7, ae⟩
         ·obtain rfl := zg ae
          obtain rfl := hl1
          obtain rfl := zg aa
          exact yE X0 hC hE (Z4 ++ (rpN 4 (Hq c7) [qT]))
         ·obtain ⟨r_, h1, ae⟩ := zl ae
          let Z5 : List HO := (Z4 ++ [Hq c7, Hq c7, Hq c7, Hc h0A (x := (au, m_)) h1 (loC jB au <| loC (z0s 59 z6S) m_ <| loN), Hq c7])
          rcases y5 ae with ⟨c8, ae⟩ | ⟨c8, ae⟩
          ·obtain rfl := zg ae
           obtain rfl := hl1
           obtain rfl := zg aa
           exact yE X0 hC hE (Z5 ++ [Hq c8])
          ·obtain rfl := zg ae
           exact yB X0 hC a8 (w64 (fm + 1)) hl1 (Z5 ++ [Hq c8])
        ·obtain rfl := zg ae
         obtain rfl := hl1
         exact yB X0 hC a7 () aa [Hq c6]
def VS : Code := (Tryd.f77.body).getD .skip
def jF : yD := spF (α := Int × Int) (ρ := Bool) 77 (fun x => [(eI .i64) x.1, (eSp (eI .i64)) x.2]) (fun r => eB r) (fun x => jU x.1 x.2) [] (V5)
theorem Uu (hC : zP Tryd.prog ctr) : jF.Ok Tryd.prog := by
 refine y6 ?_
 rintro ⟨c_, x1⟩ r0 aa
 try unfold jU at aa
 refine yO true [(3, none)] VS 11 Tryd.func77 fun E hE => ?_
 rcases y5 aa with ⟨c0, aa⟩ | ⟨c0, aa⟩
 ·obtain rfl := zg aa
  exact yE X0 hC hE (rpN 4 (Hq c0) [])
 ·obtain rfl := zg aa
  exact yE X0 hC hE (rpN 4 (Hq c0) [])
def wP : Code := (Tryd.f88.body).getD .skip
def wH : yD := spF (α := List Int × Int) (ρ := Int) 88 (fun x => [F4_ x.1, (z0s 77 (eSp (eI .i64))) x.2]) (fun r => (eI .i64) r) (fun x => wj x.1 x.2) [] (by
 rintro ⟨a0, a1⟩ ⟨b0, b1⟩ h
 have e0 := jS.inj (f := F4_) _ _ (List.cons.inj h).1
 replace h := (List.cons.inj h).2
 have e1 := jS.inj (f := (z0s 77 (eSp (eI .i64)))) _ _ (List.cons.inj h).1
 subst e0 e1
 rfl)
abbrev jv : List (Nat × T) := []
abbrev ju (s_ : List Int) (f_ : Int) (x8 : Int) : List (Nat × T) := [(0, .d (eSl 1 false (eI .i64) s_)), (1, .d (.fn 77 [.sptr (I f_)])), (7, .d (I ((s_.length : Nat) : Int))), (8, .d (I x8))]
theorem kR (hC : zP Tryd.prog ctr) (h0B : ctr.Has jF) : wH.Ok Tryd.prog := by
 refine y6 ?_
 rintro ⟨s_, f_⟩ r0 aa
 try unfold wj at aa
 refine yO true [(4, none)] wP 19 Tryd.func88 fun E hE => ?_
 refine yJ X0 hC wP [1] [] [] (fun z : Unit => wJ = some r0) (fun z => jv) [(0, .d (eSl 1 false (eI .i64) s_)), (1, .d (.fn 77 [.sptr (I f_)]))] [Hh (.cut 1)] ?_ fun J1 a7 => ?_
 ·rintro ⟨⟩ aa
  unfold wJ at aa
  obtain rfl := zg aa
  exact yE X0 hC hE []
 ·obtain ⟨t2, ht2, aa⟩ := zl aa
  refine yL X0 hC wP [1,2,1,0] [J1] (fun s => yi s_ f_ s) (fun x => ju s_ f_ x) 0 ht2  [Ha (lnM (eI .i64) s_)] ?_
  rintro x8 m2 bm ae hl1 J2 a8
  try unfold yi at ae
  rcases y5 ae with ⟨c0, ae⟩ | ⟨c0, ae⟩
  ·obtain ⟨db, h0, ae⟩ := zl ae
   obtain ⟨r_, h1, ae⟩ := zl ae
   let Z0 : List HO := [Hq c0, Hi (eI .i64) h0, Hc h0B (x := (db, f_)) h1 (loC (eI .i64) db <| loC (eSp (eI .i64)) f_ <| loN)]
   rcases y5 ae with ⟨c1, ae⟩ | ⟨c1, ae⟩
   ·obtain rfl := zg ae
    obtain rfl := hl1
    obtain rfl := zg aa
    exact yE X0 hC hE (Z0 ++ [Hq c1])
   ·obtain rfl := zg ae
    exact yB X0 hC a8 (w64 (x8 + 1)) hl1 (Z0 ++ [Hq c1])
  ·obtain rfl := zg ae
   obtain rfl := hl1
   exact yB X0 hC a7 () aa [Hq c0]
def js : Code := (Tryd.f76.body).getD .skip
def w8 : yD := spF (α := List Int × Int) (ρ := Bool) 76 (fun x => [F4_ x.1, (z0s 77 (eSp (eI .i64))) x.2]) (fun r => eB r) (fun x => xw x.1 x.2) [] (by
 rintro ⟨a0, a1⟩ ⟨b0, b1⟩ h
 have e0 := jS.inj (f := F4_) _ _ (List.cons.inj h).1
 replace h := (List.cons.inj h).2
 have e1 := jS.inj (f := (z0s 77 (eSp (eI .i64)))) _ _ (List.cons.inj h).1
 subst e0 e1
 rfl)
theorem jC (hC : zP Tryd.prog ctr) (h0C : ctr.Has wH) : w8.Ok Tryd.prog := by
 refine y6 ?_
 rintro ⟨s_, f_⟩ r0 aa
 try unfold xw at aa
 refine yO true [(4, none)] js 9 Tryd.func76 fun E hE => ?_
 obtain ⟨r_, h0, aa⟩ := zl aa
 obtain rfl := zg aa
 exact yE X0 hC hE [Hc h0C (x := (s_, f_)) h0 (loC F4_ s_ <| loC (z0s 77 (eSp (eI .i64))) f_ <| loN)]
def QJ : Code := (Tryd.f65.body).getD .skip
def Zd : yD := spF (α := List Int × Int) (ρ := Int) 65 (fun x => [F4_ x.1, (eI .i64) x.2]) (fun r => (eI .i64) r) (fun x => qS x.1 x.2) [] (V5)
theorem Jy (hC : zP Tryd.prog ctr) (h0D : ctr.Has w8) : Zd.Ok Tryd.prog := by
 refine y6 ?_
 rintro ⟨w_, inputs⟩ r0 aa
 try unfold qS at aa
 refine yO true [(4, none)] QJ 19 Tryd.func65 fun E hE => ?_
 rcases y5 aa with ⟨c0, aa⟩ | ⟨c0, aa⟩
 ·obtain rfl := zg aa
  exact yE X0 hC hE (rpN 4 (Hq c0) [qT])
 ·let Z0 : List HO := [Hq c0, Hq c0, Ha (lnM (eI .i64) w_), Hq c0, Hq c0]
  rcases y5 aa with ⟨c1, aa⟩ | ⟨c1, aa⟩
  ·obtain rfl := zg aa
   exact yE X0 hC hE (Z0 ++ [Hq c1])
  ·rcases y5 aa with ⟨c2, aa⟩ | ⟨c2, aa⟩
   ·obtain rfl := zg aa
    exact yE X0 hC hE (Z0 ++ (Hq c1 :: (rpN 4 (Hq c2) [qT])))
   ·obtain ⟨r_, h0, aa⟩ := zl aa
    let Z1 : List HO := (Z0 ++ [Hq c1, Hq c2, Hq c2, Hq c2, Hc h0D (x := (w_, inputs)) h0 (loC F4_ w_ <| loC (z0s 77 (eSp (eI .i64))) inputs <| loN), Hq c2])
    rcases y5 aa with ⟨c3, aa⟩ | ⟨c3, aa⟩
    ·obtain rfl := zg aa
     exact yE X0 hC hE (Z1 ++ [Hq c3])
    ·obtain rfl := zg aa
     exact yE X0 hC hE (Z1 ++ [Hq c3])
def Zu : Code := (Tryd.f50.body).getD .skip
def jk : yD := spF (α := List (List Int) × Int) (ρ := Int) 50 (fun x => [F9_ x.1, (eI .i64) x.2]) (fun r => (eI .i64) r) (fun x => qW x.1 x.2) [] (V5)
abbrev Vg : List (Nat × T) := []
abbrev Vf (l_ : List (List Int)) (inputs : Int) (fp : Int) : List (Nat × T) := [(1, .d (I inputs)), (17, .d (eSl 1 false F4_ l_)), (18, .d (I ((l_.length : Nat) : Int))), (19, .d (I fp))]
theorem JB (hC : zP Tryd.prog ctr) (h0E : ctr.Has Zd) : jk.Ok Tryd.prog := by
 refine y6 ?_
 rintro ⟨l_, inputs⟩ r0 aa
 try unfold qW at aa
 refine yO true [(4, none)] Zu 30 Tryd.func50 fun E hE => ?_
 rcases y5 aa with ⟨c0, aa⟩ | ⟨c0, aa⟩
 ·obtain rfl := zg aa
  exact yE X0 hC hE (rpN 4 (Hq c0) [qT])
 ·let Z0 : List HO := [Hq c0, Hq c0, Ha (lnM F4_ l_), Hq c0, Hq c0]
  rcases y5 aa with ⟨c1, aa⟩ | ⟨c1, aa⟩
  ·obtain rfl := zg aa
   exact yE X0 hC hE (Z0 ++ [Hq c1])
  ·rcases y5 aa with ⟨c2, aa⟩ | ⟨c2, aa⟩
   ·obtain rfl := zg aa
    exact yE X0 hC hE (Z0 ++ [Hq c1, Hq c2])
   ·refine yJ X0 hC Zu [1,1,1] [] [] (fun z : Unit => Zc = some r0) (fun z => Vg) [(0, .d (eSl 1 false F4_ l_)), (1, .d (I inputs))] (Z0 ++ [Hq c1, Hq c2, Hh (.cut 0)]) ?_ fun J1 a7 => ?_
    ·rintro ⟨⟩ aa
     unfold Zc at aa
     obtain rfl := zg aa
     exact yE X0 hC hE []
    ·obtain ⟨t2, ht2, aa⟩ := zl aa
     refine yL X0 hC Zu [1,1,1,2,1,0] [J1] (fun s => ub l_ inputs s) (fun x => Vf l_ inputs x) 0 ht2  [Ha (lnM F4_ l_)] ?_
     rintro fp m2 bm ae hl1 J2 a8
     try unfold ub at ae
     rcases y5 ae with ⟨c3, ae⟩ | ⟨c3, ae⟩
     ·obtain ⟨az, h0, ae⟩ := zl ae
      obtain ⟨r_, h1, ae⟩ := zl ae
      let Z1 : List HO := [Hq c3, Hi F4_ h0, Hc h0E (x := (az, inputs)) h1 (loC F4_ az <| loC (eI .i64) inputs <| loN)]
      rcases y5 ae with ⟨c4, ae⟩ | ⟨c4, ae⟩
      ·obtain rfl := zg ae
       obtain rfl := hl1
       obtain rfl := zg aa
       exact yE X0 hC hE (Z1 ++ [Hq c4])
      ·obtain rfl := zg ae
       exact yB X0 hC a8 (w64 (fp + 1)) hl1 (Z1 ++ [Hq c4])
     ·obtain rfl := zg ae
      obtain rfl := hl1
      exact yB X0 hC a7 () aa [Hq c3]
def VV : Code := (Tryd.f99.body).getD .skip
def jJ : yD := spF (α := Int) (ρ := Bool) 99 (fun x => [(eI .i64) x]) (fun r => eB r) (fun x => qA x) [] (Jf)
theorem UA (hC : zP Tryd.prog ctr) : jJ.Ok Tryd.prog := by
 refine y6 ?_
 rintro x_ r0 aa
 try unfold qA at aa
 refine yO true [(2, none)] VV 6 Tryd.func99 fun E hE => ?_
 obtain rfl := zg aa
 exact yE X0 hC hE []
def WA : Code := (Tryd.f81.body).getD .skip
def un : yD := spF (α := Int × Int) (ρ := Int) 81 (fun x => [(eI .i64) x.1, (eI .i64) x.2]) (fun r => (eI .i64) r) (fun x => vH x.1 x.2) [] (V5)
theorem WR (hC : zP Tryd.prog ctr) (h0m : ctr.Has jJ) : un.Ok Tryd.prog := by
 refine y6 ?_
 rintro ⟨x_, y_⟩ r0 aa
 try unfold vH at aa
 refine yO true [(4, none)] WA 20 Tryd.func81 fun E hE => ?_
 obtain ⟨r_, h0, aa⟩ := zl aa
 obtain ⟨ah, h1, aa⟩ := zl aa
 let Z0 : List HO := [Hc h0m (x := x_) h0 (loC (eI .i64) x_ <| loN), Hc h0m (x := y_) h1 (loC (eI .i64) y_ <| loN)]
 rcases y5 aa with ⟨c0, aa⟩ | ⟨c0, aa⟩
 ·rcases y5 aa with ⟨c1, aa⟩ | ⟨c1, aa⟩
  ·obtain rfl := zg aa
   exact yE X0 hC hE (Z0 ++ [Hq c0, Hq c1])
  ·obtain rfl := zg aa
   exact yE X0 hC hE (Z0 ++ [Hq c0, Hq c1])
 ·rcases y5 aa with ⟨c2, aa⟩ | ⟨c2, aa⟩
  ·obtain rfl := zg aa
   exact yE X0 hC hE (Z0 ++ [Hq c0, Hq c2])
  ·rcases y5 aa with ⟨c3, aa⟩ | ⟨c3, aa⟩
   ·obtain rfl := zg aa
    exact yE X0 hC hE (Z0 ++ [Hq c0, Hq c2, Hq c3])
   ·rcases y5 aa with ⟨c4, aa⟩ | ⟨c4, aa⟩
    ·obtain rfl := zg aa
     exact yE X0 hC hE (Z0 ++ [Hq c0, Hq c2, Hq c3, Hq c4])
    ·obtain rfl := zg aa
     exact yE X0 hC hE (Z0 ++ [Hq c0, Hq c2, Hq c3, Hq c4])
def vp : Code := (Tryd.f82.body).getD .skip
def vj : yD := spF (α := List Int × List Int) (ρ := Int) 82 (fun x => [F4_ x.1, F4_ x.2]) (fun r => (eI .i64) r) (fun x => xR x.1 x.2) [] (V5)
abbrev kc (s1 : List Int) (s2 : List Int) : List (Nat × T) := [(0, .d (eSl 1 false (eI .i64) s1)), (1, .d (eSl 1 false (eI .i64) s2))]
abbrev kb (s1 : List Int) (s2 : List Int) (dh : Int) : List (Nat × T) := [(0, .d (eSl 1 false (eI .i64) s1)), (1, .d (eSl 1 false (eI .i64) s2)), (9, .d (eSl 1 false (eI .i64) s1)), (10, .d (I ((s1.length : Nat) : Int))), (11, .d (I dh))]
theorem ZF (hC : zP Tryd.prog ctr) (h0f : ctr.Has un) : vj.Ok Tryd.prog := by
 refine y6 ?_
 rintro ⟨s1, s2⟩ r0 aa
 try unfold xR at aa
 refine yO true [(4, none)] vp 36 Tryd.func82 fun E hE => ?_
 refine yJ X0 hC vp [1] [] [0,1] (fun z : Unit => w5 s1 s2 = some r0) (fun z => kc s1 s2) [(0, .d (eSl 1 false (eI .i64) s1)), (1, .d (eSl 1 false (eI .i64) s2))] [Hh (.cut 1)] ?_ fun J1 a7 => ?_
 ·rintro ⟨⟩ aa
  unfold w5 at aa
  let Z0 : List HO := [Ha (lnM (eI .i64) s1), Ha (lnM (eI .i64) s2)]
  rcases y5 aa with ⟨c0, aa⟩ | ⟨c0, aa⟩
  ·obtain rfl := zg aa
   exact yE X0 hC hE (Z0 ++ [Hq c0])
  ·obtain rfl := zg aa
   exact yE X0 hC hE (Z0 ++ [Hq c0])
 ·obtain ⟨t2, ht2, aa⟩ := zl aa
  refine yL X0 hC vp [1,2,1,0] [J1] (fun s => yq s1 s2 s) (fun x => kb s1 s2 x) 0 ht2  [Ha (lnM (eI .i64) s1)] ?_
  rintro dh m2 bm ae hl1 J2 a8
  try unfold yq at ae
  rcases y5 ae with ⟨c1, ae⟩ | ⟨c1, ae⟩
  ·obtain ⟨fq, h0, ae⟩ := zl ae
   let Z1 : List HO := [Hq c1, Hi (eI .i64) h0, Ha (lnM (eI .i64) s2)]
   rcases y5 ae with ⟨c2, ae⟩ | ⟨c2, ae⟩
   ·obtain rfl := zg ae
    obtain rfl := hl1
    obtain rfl := zg aa
    exact yE X0 hC hE (Z1 ++ [Hq c2])
   ·obtain ⟨ez, h1, ae⟩ := zl ae
    obtain ⟨r_, h2, ae⟩ := zl ae
    let Z2 : List HO := (Z1 ++ [Hq c2, Hi (eI .i64) h1, Hc h0f (x := (fq, ez)) h2 (loC (eI .i64) fq <| loC (eI .i64) ez <| loN)])
    rcases y5 ae with ⟨c3, ae⟩ | ⟨c3, ae⟩
    ·obtain rfl := zg ae
     obtain rfl := hl1
     obtain rfl := zg aa
     exact yE X0 hC hE (Z2 ++ [Hq c3])
    ·obtain rfl := zg ae
     exact yB X0 hC a8 (w64 (dh + 1)) hl1 (Z2 ++ [Hq c3])
  ·obtain rfl := zg ae
   obtain rfl := hl1
   exact yB X0 hC a7 () aa [Hq c1]
def Yj : Code := (Tryd.f80.body).getD .skip
def Y4 : yD := spF (α := List Int) (ρ := Int) 80 (fun x => [F4_ x]) (fun r => (eI .i64) r) (fun x => ZO x) [] (Jf)
abbrev VZ : List (Nat × T) := [(3, .d (I 0))]
abbrev VY (vals : List Int) (x8 : Int) : List (Nat × T) := [(3, .d (I 0)), (6, .d (eSl 1 false (eI .i64) vals)), (7, .d (I ((vals.length : Nat) : Int))), (8, .d (I x8))]
theorem KD (hC : zP Tryd.prog ctr) : Y4.Ok Tryd.prog := by
 refine y6 ?_
 rintro vals r0 aa
 try unfold ZO at aa
 refine yO true [(2, none)] Yj 18 Tryd.func80 fun E hE => ?_
 refine yJ X0 hC Yj [1,1] [] [3] (fun z : Unit => k9 = some r0) (fun z => VZ) [(0, .d (eSl 1 false (eI .i64) vals)), (3, .d (I 0))] [Hh (.cut 2)] ?_ fun J1 a7 => ?_
 ·rintro ⟨⟩ aa
  unfold k9 at aa
  obtain rfl := zg aa
  exact yE X0 hC hE []
 ·obtain ⟨t2, ht2, aa⟩ := zl aa
  refine yL X0 hC Yj [1,1,2,1,0] [J1] (fun s => uH vals s) (fun x => VY vals x) 0 ht2  [Ha (lnM (eI .i64) vals)] ?_
  rintro x8 m2 bm ae hl1 J2 a8
  try unfold uH at ae
  rcases y5 ae with ⟨c0, ae⟩ | ⟨c0, ae⟩
  ·obtain ⟨gb, h0, ae⟩ := zl ae
   rcases y5 ae with ⟨c1, ae⟩ | ⟨c1, ae⟩
   ·obtain rfl := zg ae
    obtain rfl := hl1
    obtain rfl := zg aa
    exact yE X0 hC hE [Hq c0, Hi (eI .i64) h0, Hq c1]
   ·obtain rfl := zg ae
    exact yB X0 hC a8 (w64 (x8 + 1)) hl1 [Hq c0, Hi (eI .i64) h0, Hq c1]
  ·obtain rfl := zg ae
   obtain rfl := hl1
   exact yB X0 hC a7 () aa [Hq c0]
def VR : Code := (Tryd.f68.body).getD .skip
def u3 : yD := spF (α := List Int × List Int) (ρ := Int) 68 (fun x => [F4_ x.1, F4_ x.2]) (fun r => (eI .i64) r) (fun x => yX x.1 x.2) [] (V5)
theorem Ut (hC : zP Tryd.prog ctr) (h0f : ctr.Has un) (h0F : ctr.Has vj) (h0n : ctr.Has Y4) : u3.Ok Tryd.prog := by
 refine y6 ?_
 rintro ⟨a_, b_⟩ r0 aa
 try unfold yX at aa
 refine yO true [(4, none)] VR 15 Tryd.func68 fun E hE => ?_
 obtain ⟨r_, h0, aa⟩ := zl aa
 obtain ⟨ah, h1, aa⟩ := zl aa
 obtain ⟨ak, h2, aa⟩ := zl aa
 obtain rfl := zg aa
 exact yE X0 hC hE [Ha (lnM (eI .i64) a_), Ha (lnM (eI .i64) b_), Hc h0f (x := (((a_.length : Nat) : Int), ((b_.length : Nat) : Int))) h0 (loC (eI .i64) ((a_.length : Nat) : Int) <| loC (eI .i64) ((b_.length : Nat) : Int) <| loN), Hc h0F (x := (a_, b_)) h1 (loC F4_ a_ <| loC F4_ b_ <| loN), Hg (Kd h0n), Hm (shM (eI .i64) (eI .i64) ([r_, ah])), Hs (Ke h0n (x := [r_, ah]) h2 (loC F1_ ([r_, ah] : List Int) <| loN))]
def Zv : Code := (Tryd.f61.body).getD .skip
def Zf : yD := spF (α := List (List Int)) (ρ := Bool) 61 (fun x => [F9_ x]) (fun r => eB r) (fun x => kj x) [] (Jf)
abbrev Vi : List (Nat × T) := []
abbrev Vh (l_ : List (List Int)) (i_ : Int) : List (Nat × T) := [(0, .d (eSl 1 false F4_ l_)), (3, .d (I i_))]
theorem JC (hC : zP Tryd.prog ctr) (h06 : ctr.Has u3) : Zf.Ok Tryd.prog := by
 refine y6 ?_
 rintro l_ r0 aa
 try unfold kj at aa
 refine yO true [(2, none)] Zv 21 Tryd.func61 fun E hE => ?_
 refine yJ X0 hC Zv [1] [] [] (fun z : Unit => ji = some r0) (fun z => Vi) [(0, .d (eSl 1 false F4_ l_))] [Hh (.cut 1)] ?_ fun J1 a7 => ?_
 ·rintro ⟨⟩ aa
  unfold ji at aa
  obtain rfl := zg aa
  exact yE X0 hC hE []
 ·obtain ⟨t2, ht2, aa⟩ := zl aa
  refine yL X0 hC Zv [1,2,1,0] [J1] (fun s => uc l_ s) (fun x => Vh l_ x) 1 ht2  [] ?_
  rintro i_ m2 bm ae hl1 J2 a8
  try unfold uc at ae
  let Z0 : List HO := [Ha (lnM F4_ l_)]
  rcases y5 ae with ⟨c0, ae⟩ | ⟨c0, ae⟩
  ·obtain ⟨az, h0, ae⟩ := zl ae
   obtain ⟨br, h1, ae⟩ := zl ae
   obtain ⟨r_, h2, ae⟩ := zl ae
   let Z1 : List HO := (Z0 ++ [Hq c0, Hi F4_ h0, Hi F4_ h1, Hc h06 (x := (az, br)) h2 (loC F4_ az <| loC F4_ br <| loN)])
   rcases y5 ae with ⟨c1, ae⟩ | ⟨c1, ae⟩
   ·obtain rfl := zg ae
    obtain rfl := hl1
    obtain rfl := zg aa
    exact yE X0 hC hE (Z1 ++ [Hq c1])
   ·obtain rfl := zg ae
    exact yB X0 hC a8 (w64 (i_ + 1)) hl1 (Z1 ++ [Hq c1])
  ·obtain rfl := zg ae
   obtain rfl := hl1
   exact yB X0 hC a7 () aa (Z0 ++ [Hq c0])
def Zt : Code := (Tryd.f62.body).getD .skip
def jj : yD := spF (α := List (List Int)) (ρ := Int) 62 (fun x => [F9_ x]) (fun r => (eI .i64) r) (fun x => qV x) [] (Jf)
abbrev Ve (n_ : Int) : List (Nat × T) := [(2, .d (I n_))]
abbrev Vd (l_ : List (List Int)) (cg : Int) (x7 : Int) : List (Nat × T) := [(2, .d (I cg)), (5, .d (eSl 1 false F4_ l_)), (6, .d (I ((l_.length : Nat) : Int))), (7, .d (I x7))]
theorem JA (hC : zP Tryd.prog ctr) : jj.Ok Tryd.prog := by
 refine y6 ?_
 rintro l_ r0 aa
 try unfold qV at aa
 refine yO true [(2, none)] Zt 17 Tryd.func62 fun E hE => ?_
 refine yJ X0 hC Zt [1] [] [2] (fun z : Int => Zb z = some r0) (fun z => Ve z) [(0, .d (eSl 1 false F4_ l_)), (2, .d (I 0))] [Hh (.cut 1)] ?_ fun J1 a7 => ?_
 ·rintro n_ aa
  unfold Zb at aa
  obtain rfl := zg aa
  exact yE X0 hC hE []
 ·obtain ⟨t2, ht2, aa⟩ := zl aa
  refine yL X0 hC Zt [1,2,1,0] [J1] (fun s => u9 l_ s.1 s.2) (fun x => Vd l_ x.1 x.2) (0,0) ht2  [Ha (lnM F4_ l_)] ?_
  rintro ⟨cg, x7⟩ m2 bm ae hl1 J2 a8
  try unfold u9 at ae
  rcases y5 ae with ⟨c0, ae⟩ | ⟨c0, ae⟩
  ·obtain ⟨az, h0, ae⟩ := zl ae
   obtain rfl := zg ae
   exact yB X0 hC a8 (w64 (cg + ((az.length : Nat) : Int)), w64 (x7 + 1)) hl1 [Hq c0, Hi F4_ h0, Ha (lnM (eI .i64) az)]
  ·obtain rfl := zg ae
   obtain rfl := hl1
   exact yB X0 hC a7 cg aa [Hq c0]
def QK : Code := (Tryd.f43.body).getD .skip
def Zg : yD := spF (α := List (List Int) × Int) (ρ := Int) 43 (fun x => [F9_ x.1, (eI .i64) x.2]) (fun r => (eI .i64) r) (fun x => kl x.1 x.2) [] (V5)
theorem JD (hC : zP Tryd.prog ctr) (h0g : ctr.Has jk) (h0G : ctr.Has Zf) (h09 : ctr.Has jj) : Zg.Ok Tryd.prog := by
 refine y6 ?_
 rintro ⟨l_, inputs⟩ r0 aa
 try unfold kl at aa
 refine yO true [(4, none)] QK 18 Tryd.func43 fun E hE => ?_
 obtain ⟨r_, h0, aa⟩ := zl aa
 let Z0 : List HO := [Hc h0g (x := (l_, inputs)) h0 (loC F9_ l_ <| loC (eI .i64) inputs <| loN)]
 rcases y5 aa with ⟨c0, aa⟩ | ⟨c0, aa⟩
 ·obtain rfl := zg aa
  exact yE X0 hC hE (Z0 ++ [Hq c0])
 ·obtain ⟨ah, h1, aa⟩ := zl aa
  let Z1 : List HO := (Z0 ++ [Hq c0, Hc h0G (x := l_) h1 (loC F9_ l_ <| loN)])
  rcases y5 aa with ⟨c1, aa⟩ | ⟨c1, aa⟩
  ·obtain rfl := zg aa
   exact yE X0 hC hE (Z1 ++ [Hq c1])
  ·obtain ⟨ak, h2, aa⟩ := zl aa
   let Z2 : List HO := (Z1 ++ [Hq c1, Hc h09 (x := l_) h2 (loC F9_ l_ <| loN)])
   rcases y5 aa with ⟨c2, aa⟩ | ⟨c2, aa⟩
   ·obtain rfl := zg aa
    exact yE X0 hC hE (Z2 ++ [Hq c2])
   ·obtain rfl := zg aa
    exact yE X0 hC hE (Z2 ++ [Hq c2])
def Wv : Code := (Tryd.f22.body).getD .skip
def wi : yD := spF (α := z7 × List (List Int)) (ρ := Int) 22 (fun x => [xH x.1, F9_ x.2]) (fun r => (eI .i64) r) (fun x => yo x.1 x.2) [] (V5)
theorem WJ (hC : zP Tryd.prog ctr) (h0h : ctr.Has uB) (h0H : ctr.Has Zg) : wi.Ok Tryd.prog := by
 refine y6 ?_
 rintro ⟨m_, l_⟩ r0 aa
 try unfold yo at aa
 refine yO true [(4, none)] Wv 15 Tryd.func22 fun E hE => ?_
 obtain ⟨r_, h0, aa⟩ := zl aa
 let Z0 : List HO := [Hc h0h (x := m_) h0 (loC xH m_ <| loN)]
 rcases y5 aa with ⟨c0, aa⟩ | ⟨c0, aa⟩
 ·obtain rfl := zg aa
  exact yE X0 hC hE (Z0 ++ [Hq c0])
 ·obtain ⟨ah, h1, aa⟩ := zl aa
  obtain rfl := zg aa
  exact yE X0 hC hE (Z0 ++ [Hq c0, Hc h0H (x := (l_, m_.Inputs)) h1 (loC F9_ l_ <| loC (eI .i64) m_.Inputs <| loN)])
def Vb : Code := (Tryd.f41.body).getD .skip
def uC : yD := spF (α := Unit) (ρ := zf) 41 (fun x => []) (fun r => (zS (eMp (eI .i64) eB) (eMp F0_ eB) (eMp zG eB)) r) (fun x => ui) [] (fun _ _ _ => rfl)
theorem VL (hC : zP Tryd.prog ctr) : uC.Ok Tryd.prog := by
 refine y6 ?_
 rintro ⟨⟩ r0 aa
 try unfold ui at aa
 refine z2k (tt := ve) (rs := [(true, 0, some 71)]) (n := ⟨6, []⟩) (body := Vb) zC Tryd.func41 rfl (by kernel_rfl) rfl rfl (by show (0 : Nat) ≤ 6; decide) fun E hE => ?_
 obtain rfl := zg aa
 let ZE : List HO := [Hn (⟨rfl, rfl, rfl, rfl, Qj (fun _ => rfl) ([] : List (Int × Bool))⟩ : T.own (.opq (yg (zq (eI .i64) eB ([] : List (Int × Bool))))) = T.own (.opq (yg (zq (eI .i64) eB ([] : List (Int × Bool))))) ∧ 1 = 1 ∧ (Q5 .i64) ((eI .i64) 0) = true ∧ (eB true).isD = true ∧ ∀ p ∈ zq (eI .i64) eB ([] : List (Int × Bool)), (Q5 .i64) p.1 = true), Hn (JV (f := (eI .i64)) (g := eB) 0 true ([] : List (Int × Bool)))]
 exact z4P ((z7D Tryd.prog 4).or ((z7D Tryd.prog 3).or ((zfc z61 1 (zq (eI .i64) eB ([] : List (Int × Bool))) (zq (eI .i64) eB (Uc ([] : List (Int × Bool)) 0 true))).or ((z7D Tryd.prog 1).or X0)))) zC hC YX hE 4000 (hs := hoH ZE) (x := (.agg [.opq (yg (zq (eI .i64) eB (Uc ([] : List (Int × Bool)) 0 true))), .opq (yg (zq F0_ eB ([] : List ((xv Int) × Bool)))), .opq (yg (zq zG eB ([] : List (z8 × Bool))))])) (hoB ZE) (by kernel_rfl) (LeV.refl _)
def ul : Code := (Tryd.f32.body).getD .skip
abbrev ZB (u0 : Value) (u1 : Value) (u2 : Value) (m_ : z7) (w_ : List Int) (aj : List (Int × Bool)) (al : List ((xv Int) × Bool)) (ct : Int) (bf : Int) (bj : Int) (dr : Int) (bu : Int) (ap : zy) (a9 : List (z8 × Bool)) : List (Nat × T) := [(3, .own (.box (.agg [.opq (vu u0 (zq (eI .i64) eB aj)), .opq (vu u1 (zq F0_ eB (Uc al (xv.mk ct bu) true))), .opq (vu u2 (zq zG eB a9))]))), (4, .own (.box (xH m_))), (6, .d (I ct)), (7, .own (.box (.agg [I bf, I bj, I bu]))), (9, .d (I bu)), (10, .d (I ap.To)), (12, .d (eSl 1 false (eI .i64) w_)), (13, .d (I ((w_.length : Nat) : Int))), (14, .d (I dr))]
abbrev ZA (u0 : Value) (u1 : Value) (u2 : Value) (m_ : z7) (w_ : List Int) (aj : List (Int × Bool)) (al : List ((xv Int) × Bool)) (aq : List (z8 × Bool)) (ct : Int) (bf : Int) (bj : Int) (dr : Int) : List (Nat × T) := [(3, .own (.box (.agg [.opq (vu u0 (zq (eI .i64) eB aj)), .opq (vu u1 (zq F0_ eB al)), .opq (vu u2 (zq zG eB aq))]))), (4, .own (.box (xH m_))), (6, .d (I ct)), (7, .own (.box (.agg [I bf, I bj, I (-1)]))), (12, .d (eSl 1 false (eI .i64) w_)), (13, .d (I ((w_.length : Nat) : Int))), (14, .d (I dr))]
theorem jn (hC : zP Tryd.prog ctr) : ∀ (m_ : z7) (w_ : List Int) (x_ : zf) (r0 : zf), xV m_ w_ x_ = some r0 → ∀ us : List Value, us.length = 3 → uA Tryd.prog (.fn 32 []) ([] ++ .agg (us.map .atom) :: [.agg [I m_.Inputs, I m_.Outputs, eSl 1 false jB m_.Rows], eSl 1 false (eI .i64) w_]) (Yu us [zq (eI .i64) eB x_.states_, zq F0_ eB x_.edges_, zq zG eB x_.pairs_]) (.tup []) ([zq (eI .i64) eB r0.states_, zq F0_ eB r0.edges_, zq zG eB r0.pairs_].map fun e => .opq (yg e)) := by
 intro m_ w_ x_ r0 aa us hus
 obtain ⟨u0, u1, u2, rfl⟩ := z9x hus
 refine Xn (tt := ve) (nt := 50) (body := ul) (B := 3) [] (xl := []) (xr := [.agg [I m_.Inputs, I m_.Outputs, eSl 1 false jB m_.Rows], eSl 1 false (eI .i64) w_]) (caps := []) (es := [zq (eI .i64) eB x_.states_, zq F0_ eB x_.edges_, zq zG eB x_.pairs_]) (es' := [zq (eI .i64) eB r0.states_, zq F0_ eB r0.edges_, zq zG eB r0.pairs_]) (us := [u0, u1, u2]) (r := .tup []) Tryd.func32 rfl (by kernel_rfl) rfl rfl (by decide) (by show (3 : Nat) ≤ 50; decide) rfl rfl (.inl ⟨rfl, rfl⟩) fun E hE => ?_
 try unfold xV at aa
 obtain ⟨t1, ht1, aa⟩ := zl aa
 refine yL X0 hC ul [1,1,1,1,0] [] (fun s => xS m_ w_ s.1 s.2.1 s.2.2.1 s.2.2.2.1 s.2.2.2.2.1 s.2.2.2.2.2.1 s.2.2.2.2.2.2) (fun x => ZA u0 u1 u2 m_ w_ x.1 x.2.1 x.2.2.1 x.2.2.2.1 x.2.2.2.2.1 x.2.2.2.2.2.1 x.2.2.2.2.2.2) (x_.states_, x_.edges_, x_.pairs_, 0, (-1), (-1), 0) ht1  [Ha (lnM (eI .i64) w_)] ?_
 rintro ⟨aj, al, aq, ct, bf, bj, dr⟩ m1 bm ae hl1 J1 a7
 try unfold xS at ae
 rcases y5 ae with ⟨c0, ae⟩ | ⟨c0, ae⟩
 ·obtain ⟨bu, h0, ae⟩ := zl ae
  obtain ⟨au, h1, ae⟩ := zl ae
  obtain ⟨ap, h2, ae⟩ := zl ae
  let Z0 : List HO := [Hq c0, Hi (eI .i64) h0, Hi jB h1, Hi F6_ h2]
  rcases y5 ae with ⟨c1, ae⟩ | ⟨c1, ae⟩
  ·obtain rfl := zg ae
   obtain rfl := hl1
   obtain rfl := zg aa
   exact yF X0 hC .ret [(3, .own (.box (.agg [.opq (vu u0 (zq (eI .i64) eB aj)), .opq (vu u1 (zq F0_ eB al)), .opq (vu u2 (zq zG eB aq))])))] (Z0 ++ [Hq c1]) fun st0 h0 => hE _ st0 (.inr rfl) (Q3 h0 rfl rfl) zeI
  ·refine yJ ((z7A z8J 30 (kA u1 (zq F0_ eB al)) (zq F0_ eB (Uc al (xv.mk ct bu) true))).or X0) hC ul [1,1,1,1,0,0,1,1,0,0,1,1,1,1] [J1] [3,4,6,7,9,10,12,13,14] (fun z : List (z8 × Bool) => yV aj al ct dr bu ap z = some bm) (fun z => ZB u0 u1 u2 m_ w_ aj al ct bf bj dr bu ap z) [(3, .own (.box (.agg [.opq (vu u0 (zq (eI .i64) eB aj)), .opq (vu u1 (zq F0_ eB (Uc al (xv.mk ct bu) true))), .opq (vu u2 (zq zG eB aq))]))), (4, .own (.box (xH m_))), (6, .d (I ct)), (7, .own (.box (.agg [I bf, I bj, I (-1)]))), (9, .d (I bu)), (10, .d (I ap.To)), (12, .d (eSl 1 false (eI .i64) w_)), (13, .d (I ((w_.length : Nat) : Int))), (14, .d (I dr))] (Z0 ++ [Hq c1, Hn (⟨rfl, rfl, rfl, rfl, rfl, rfl, Qj (fun _ => rfl) al⟩ : (some (A.opq (vu u1 (zq F0_ eB al))) : Option A) = some (A.opq (vu u1 (zq F0_ eB al))) ∧ true = true ∧ 0 = 0 ∧ 0 = 0 ∧ (Wr [.i64, .i64]) (F0_ (xv.mk ct bu)) = true ∧ (eB true).isD = true ∧ ∀ p ∈ zq F0_ eB al, (Wr [.i64, .i64]) p.1 = true), Hn (JV (f := F0_) (g := eB) (xv.mk ct bu) true al), Hh (.cut 1)]) ?_ fun J2 a8 => ?_
   ·rintro a9 ae
    unfold yV at ae
    obtain rfl := zg ae
    exact yB ((z7A z61 47 (kA u0 (zq (eI .i64) eB aj)) (zq (eI .i64) eB (Uc aj ap.To true))).or X0) hC a7 ((Uc aj ap.To true), (Uc al (xv.mk ct bu) true), a9, ap.To, ct, bu, w64 (dr + 1)) hl1 [Hn (⟨rfl, rfl, rfl, rfl, rfl, rfl, Qj (fun _ => rfl) aj⟩ : (some (A.opq (vu u0 (zq (eI .i64) eB aj))) : Option A) = some (A.opq (vu u0 (zq (eI .i64) eB aj))) ∧ true = true ∧ 0 = 0 ∧ 0 = 0 ∧ (Q5 .i64) ((eI .i64) ap.To) = true ∧ (eB true).isD = true ∧ ∀ p ∈ zq (eI .i64) eB aj, (Q5 .i64) p.1 = true), Hn (JV (f := (eI .i64)) (g := eB) ap.To true aj)]
   ·rcases y5 ae with ⟨c2, ae⟩ | ⟨c2, ae⟩
    ·exact yB ((z7A z8I 40 (kA u2 (zq zG eB aq)) (zq zG eB (Uc aq (z8.mk bf bj bu) true))).or X0) hC a8 (Uc aq (z8.mk bf bj bu) true) ae [Hq c2, Hn (⟨rfl, rfl, rfl, rfl, rfl, rfl, Qj (fun _ => rfl) aq⟩ : (some (A.opq (vu u2 (zq zG eB aq))) : Option A) = some (A.opq (vu u2 (zq zG eB aq))) ∧ true = true ∧ 0 = 0 ∧ 0 = 0 ∧ (Wr [.i64, .i64, .i64]) (zG (z8.mk bf bj bu)) = true ∧ (eB true).isD = true ∧ ∀ p ∈ zq zG eB aq, (Wr [.i64, .i64, .i64]) p.1 = true), Hn (JV (f := zG) (g := eB) (z8.mk bf bj bu) true aq)]
    ·exact yB X0 hC a8 aq ae [Hq c2]
 ·obtain rfl := zg ae
  obtain rfl := hl1
  obtain rfl := zg aa
  exact yF X0 hC .normal [(3, .own (.box (.agg [.opq (vu u0 (zq (eI .i64) eB aj)), .opq (vu u1 (zq F0_ eB al)), .opq (vu u2 (zq zG eB aq))])))] [Hq c0] fun st0 h0 => hE _ st0 (.inl rfl) (Q3 h0 rfl rfl) zeI
def uK : Code := (Tryd.f23.body).getD .skip
def xI : yD := spF (α := z7 × List (List Int)) (ρ := zf) 23 (fun x => [xH x.1, F9_ x.2]) (fun r => (zS (eMp (eI .i64) eB) (eMp F0_ eB) (eMp zG eB)) r) (fun x => yH x.1 x.2) [] (V5)
abbrev Yo (aj : List (Int × Bool)) (al : List ((xv Int) × Bool)) (aq : List (z8 × Bool)) : List (Nat × T) := [(4, .own (.box (.agg [.atom (.map none), .atom (.map none), .atom (.map none)]))), (5, .own (.box (.agg [.opq (yg (zq (eI .i64) eB aj)), .opq (yg (zq F0_ eB al)), .opq (yg (zq zG eB aq))])))]
abbrev Yn (m_ : z7) (l_ : List (List Int)) (bh : List (Int × Bool)) (bl : List ((xv Int) × Bool)) (a9 : List (z8 × Bool)) (dh : Int) : List (Nat × T) := [(2, .own (.box (xH m_))), (4, .own (.box (.agg [.atom (.map none), .atom (.map none), .atom (.map none)]))), (5, .own (.box (.agg [.opq (yg (zq (eI .i64) eB bh)), .opq (yg (zq F0_ eB bl)), .opq (yg (zq zG eB a9))]))), (9, .d (eSl 1 false F4_ l_)), (10, .d (I ((l_.length : Nat) : Int))), (11, .d (I dh))]
theorem XJ (hC : zP Tryd.prog ctr) (h0i : ctr.Has uC) : xI.Ok Tryd.prog := by
 refine y6 ?_
 rintro ⟨m_, l_⟩ r0 aa
 try unfold yH at aa
 refine z2k (tt := ve) (rs := [(true, 4, some 71)]) (n := ⟨21, []⟩) (body := uK) zC Tryd.func23 rfl (by kernel_rfl) rfl rfl (by show (2 : Nat) ≤ 21; decide) fun E hE => ?_
 obtain ⟨r_, h0, aa⟩ := zl aa
 refine yJ X0 hC uK [1,1] [] [4,5] (fun z : (List (Int × Bool)) × (List ((xv Int) × Bool)) × (List (z8 × Bool)) => uJ z.1 z.2.1 z.2.2 = some r0) (fun z => Yo z.1 z.2.1 z.2.2) [(1, .d (eSl 1 false F4_ l_)), (2, .own (.box (xH m_))), (4, .own (.box (.agg [.atom (.map none), .atom (.map none), .atom (.map none)]))), (5, .own (.box ((zS (eMp (eI .i64) eB) (eMp F0_ eB) (eMp zG eB)) r_)))] [Hc h0i (x := ()) h0 (loN), Hh (.cut 0)] ?_ fun J1 a7 => ?_
 ·rintro ⟨aj, al, aq⟩ aa
  unfold uJ at aa
  obtain rfl := zg aa
  let ZE : List HO := []
  exact z4P X0 zC hC YX hE 4000 (hs := hoH ZE) (x := (.agg [.opq (yg (zq (eI .i64) eB aj)), .opq (yg (zq F0_ eB al)), .opq (yg (zq zG eB aq))])) (hoB ZE) (by kernel_rfl) (LeV.refl _)
 ·obtain ⟨t2, ht2, aa⟩ := zl aa
  refine yL X0 hC uK [1,1,2,1,0] [J1] (fun s => xM m_ l_ s.1 s.2.1 s.2.2.1 s.2.2.2) (fun x => Yn m_ l_ x.1 x.2.1 x.2.2.1 x.2.2.2) (r_.states_, r_.edges_, r_.pairs_, 0) ht2  [Ha (lnM F4_ l_)] ?_
  rintro ⟨bh, bl, a9, dh⟩ m2 bm ae hl1 J2 a8
  try unfold xM at ae
  rcases y5 ae with ⟨c0, ae⟩ | ⟨c0, ae⟩
  ·obtain ⟨az, h1, ae⟩ := zl ae
   obtain ⟨ah, h2, ae⟩ := zl ae
   obtain rfl := zg ae
   exact yB ((ZD (P := Tryd.prog) ve 5 0 [.deref] (fa := .fn 32 []) (r := .tup []) (xl := []) (xr := [xH m_, F4_ az]) (qs := [(yg (zq (eI .i64) eB bh)), (yg (zq F0_ eB bl)), (yg (zq zG eB a9))]) (qs' := [(yg (zq (eI .i64) eB ah.states_)), (yg (zq F0_ eB ah.edges_)), (yg (zq zG eB ah.pairs_))]) (es := [(zq (eI .i64) eB bh), (zq F0_ eB bl), (zq zG eB a9)]) (es' := [(zq (eI .i64) eB ah.states_), (zq F0_ eB ah.edges_), (zq zG eB ah.pairs_)]) (.inr rfl) (z2A (by kernel_rfl)) (.cons (wx (zq (eI .i64) eB bh)) (.cons (wx (zq F0_ eB bl)) (.cons (wx (zq zG eB a9)) (.nil)))) (fun us hu => jn hC _ _ _ _ h2 us hu) (some 18)).or X0) hC a8 (ah.states_, ah.edges_, ah.pairs_, w64 (dh + 1)) hl1 [Hq c0, Hi F4_ h1, Hn (⟨rfl, leP (show WG [] [] from inferInstance), leP (show WG [xH m_, F4_ az] [xH m_, F4_ az] from inferInstance), rfl, rfl⟩ : ([.fn 32 []] : List A) = [.fn 32 []] ∧ LeP [] [] ∧ LeP [xH m_, F4_ az] [xH m_, F4_ az] ∧ T.als 5 [.deref] 0 0 = T.als 5 [.deref] 0 0 ∧ (some (.agg [.opq (yg (zq (eI .i64) eB bh)), .opq (yg (zq F0_ eB bl)), .opq (yg (zq zG eB a9))]) : Option A) = some (.agg [.opq (yg (zq (eI .i64) eB bh)), .opq (yg (zq F0_ eB bl)), .opq (yg (zq zG eB a9))]))]
  ·obtain rfl := zg ae
   obtain rfl := hl1
   exact yB X0 hC a7 (bh, bl, a9) aa [Hq c0]
def ZS : Code := (Tryd.f24.body).getD .skip
theorem ZY (hC : zP Tryd.prog ctr) : ∀ (goal : Int) (x_ : zf) (r0 : Int), we goal x_ = some r0 → ∀ us : List Value, us.length = 3 → uA Tryd.prog (.fn 24 []) ([] ++ .agg (us.map .atom) :: [I goal]) (Yu us [zq (eI .i64) eB x_.states_, zq F0_ eB x_.edges_, zq zG eB x_.pairs_]) (I r0) ([zq (eI .i64) eB x_.states_, zq F0_ eB x_.edges_, zq zG eB x_.pairs_].map fun e => .opq (yg e)) := by
 intro goal x_ r0 aa us hus
 obtain ⟨u0, u1, u2, rfl⟩ := z9x hus
 refine Xn (tt := ve) (nt := 17) (body := ZS) (B := 2) [4] (xl := []) (xr := [I goal]) (caps := []) (es := [zq (eI .i64) eB x_.states_, zq F0_ eB x_.edges_, zq zG eB x_.pairs_]) (es' := [zq (eI .i64) eB x_.states_, zq F0_ eB x_.edges_, zq zG eB x_.pairs_]) (us := [u0, u1, u2]) (r := I r0) Tryd.func24 rfl (by kernel_rfl) rfl rfl (by decide) (by show (2 : Nat) ≤ 17; decide) rfl rfl (.inr ⟨_, rfl⟩) fun E hE => ?_
 try unfold we at aa
 obtain ⟨cell, h0, aa⟩ := zl aa
 obtain rfl := zg aa
 exact yF ((zfe zC 16).or ((z2U z8I 13 (kA u2 (zq zG eB x_.pairs_))).or ((z2U z8J 10 (kA u1 (zq F0_ eB x_.edges_))).or ((z2U z61 7 (kA u0 (zq (eI .i64) eB x_.states_))).or X0)))) hC .ret [(2, .own (.box (.agg [.opq (vu u0 (zq (eI .i64) eB x_.states_)), .opq (vu u1 (zq F0_ eB x_.edges_)), .opq (vu u2 (zq zG eB x_.pairs_))]))), (4, .d (I cell))] [Hn (rfl : A.opq (vu u0 (zq (eI .i64) eB x_.states_)) = A.opq (vu u0 (zq (eI .i64) eB x_.states_))), Hx (aLn x_.states_.length) (z19 (eI .i64) eB x_.states_), Hn (rfl : A.opq (vu u1 (zq F0_ eB x_.edges_)) = A.opq (vu u1 (zq F0_ eB x_.edges_))), Hx (aLn x_.edges_.length) (z19 F0_ eB x_.edges_), Hn (rfl : A.opq (vu u2 (zq zG eB x_.pairs_)) = A.opq (vu u2 (zq zG eB x_.pairs_))), Hx (aLn x_.pairs_.length) (z19 zG eB x_.pairs_), Hs (iM (eI .i64) h0), Hn (ixV (k := .i64) (tt := ve) (e := 3) (l := ([((x_.states_.length : Nat) : Int), ((x_.edges_.length : Nat) : Int), ((x_.pairs_.length : Nat) : Int)] : List Int)) (fun _ => by kernel_rfl) h0 (m := 3) rfl)] fun st0 h0 => hE _ st0 (.inr rfl) (Q3 h0 rfl rfl) (z3O (zb0 h0 rfl rfl))
def V9 : Code := (Tryd.f75.body).getD .skip
def qX : yD := spF (α := z7 × Int) (ρ := z7 × Int) 75 (fun x => [xH x.1, (eI .i64) x.2]) (fun r => (zfK 87 z6S (eSp (eI .i64))) r) (fun x => jh x.1 x.2) [] (V5)
theorem VI (hC : zP Tryd.prog ctr) : qX.Ok Tryd.prog := by
 refine y6 ?_
 rintro ⟨m_, from_⟩ r0 aa
 try unfold jh at aa
 refine yO true [(4, none)] V9 6 Tryd.func75 fun E hE => ?_
 obtain rfl := zg aa
 exact yEx X0 hC hE [] (.fn 87 [.sptr (.agg [I m_.Inputs, I m_.Outputs, eSl 1 false jB m_.Rows]), .sptr (I from_)]) (show LeV (.fn 87 [.sptr (.agg [I m_.Inputs, I m_.Outputs, eSl 1 false jB m_.Rows]), .sptr (I from_)]) (.fn 87 [.sptr (.agg [I (((m_, from_).1).Inputs), I (((m_, from_).1).Outputs), eSl 1 false jB (((m_, from_).1).Rows)]), .sptr (I ((m_, from_).2))]) from inferInstance)
def xh : Code := (Tryd.f87.body).getD .skip
abbrev Yy (x0 : z7) (YY : σ → z1j) (ay : zh) (yr : σ × Bool) (au : List zy) (cm : Int) (fc : List Bool) (eb : List zh) : List (Nat × T) := [(0, .own (.opq (YY yr.1).q)), (1, .d (.sptr (xH x0))), (4, .own (eOs 1 true eB fc)), (5, .own (eDq 3 qg eb)), (6, .own (.box (qg ay))), (36, .d (eSl 2 false F6_ au)), (37, .d (I ((au.length : Nat) : Int))), (38, .d (I cm))]
abbrev Yw (x0 : z7) (YY : σ → z1j) (ay : zh) (yr : σ × Bool) (au : List zy) (ck : List Bool) (bp : List zh) (cm : Int) : List (Nat × T) := [(0, .own (.opq (YY yr.1).q)), (1, .d (.sptr (xH x0))), (4, .own (eOs 1 true eB ck)), (5, .own (eDq 3 qg bp)), (6, .own (.box (qg ay))), (36, .d (eSl 2 false F6_ au)), (37, .d (I ((au.length : Nat) : Int))), (38, .d (I cm))]
abbrev Yx (x0 : z7) (YY : σ → z1j) (d8 : σ) (ee : List Bool) (bg : List zh) : List (Nat × T) := [(0, .own (.opq (YY d8).q)), (1, .d (.sptr (xH x0))), (4, .own (eOs 1 true eB ee)), (5, .own (eDq 3 qg bg))]
theorem We (hC : zP Tryd.prog ctr) (x0 : z7) (x1 : Int) : z6Q Tryd.prog (.fn 87 [.sptr (.agg [I x0.Inputs, I x0.Outputs, eSl 1 false jB x0.Rows]), .sptr (I x1)]) (fun (x : zh) (_ : Bool) (_ : Value) => [qg x]) (@vZ x0 x1) := by
 refine z8S (tt := ve) (nt := 68) (body := xh) zC Tryd.func87 rfl (by kernel_rfl) rfl rfl (by show (3 : Nat) ≤ 68; decide) ?_
 intro σ yv YY yy hy sg r0 aa E hE
 unfold vZ at aa
 obtain ⟨g0, aa⟩ := gdE aa
 obtain ⟨gr, h0, aa⟩ := zl aa
 obtain ⟨t1, ht1, aa⟩ := zl aa
 refine yLx X0 hC xh [1,1,1,0] [] (fun s => wG x0 yy s.1 s.2.1 s.2.2) (fun x => Yx x0 YY x.1 x.2.1 x.2.2) (sg, ((List.replicate ((x0.Rows.length : Nat) : Int).toNat false).set x1.toNat true), ([(zh.mk x1 (-1) (-1))] : List zh)) ht1 [(0, .own (.opq (YY sg).q)), (1, .d (.sptr (xH x0))), (4, .own (eOs 1 true eB ((List.replicate ((x0.Rows.length : Nat) : Int).toNat false).set x1.toNat true))), (5, .own (eOs 3 true qg ([(zh.mk x1 (-1) (-1))])))] inferInstance [Ha (lnM jB x0.Rows), Hn (rL g0), Ha (rM 1 eB ((x0.Rows.length : Nat) : Int) false), Hn (iL eB h0), Hs (iM eB h0), Hs (iM eB h0), Hl (sM eB (List.replicate ((x0.Rows.length : Nat) : Int).toNat false) x1 true)] ?_
 rintro ⟨d8, ee, bg⟩ m1 bm ae hl1 J1 a7
 try unfold wG at ae
 let Z0 : List HO := [Hn (rfl : eDq 3 qg bg = A.opq (UU 3 (bg.map qg)).q), Ha (lnM qg bg)]
 rcases y5 ae with ⟨c0, ae⟩ | ⟨c0, ae⟩
 ·refine yA ((xQl zC 20 149 3 (bg.map qg) (by kernel_rfl)).or X0) hC xh [1,1,1,0,0,1,0] [J1] [(0, .own (.opq (YY d8).q)), (1, .d (.sptr (xH x0))), (4, .own (eOs 1 true eB ee)), (5, .own (eDq 3 qg bg))] (Z0 ++ [Hq c0, Hh (.cut 0)]) ?_
  obtain ⟨ay, h1, ae⟩ := zl ae
  refine z0y (by kernel_rfl) (x := (sub [1,1,1,0,0,1,0,0] xh)) (y := (sub [1,1,1,0,0,1,0,1] xh)) 5 (fun st1 => Own.canon [0,1,4,5,6] st1 = ofL [(0, .own (.opq (YY d8).q)), (1, .d (.sptr (xH x0))), (4, .own (eOs 1 true eB ee)), (5, .own (eDq 3 qg bg)), (6, .own (.box (qg ay)))]) (fun fg => yF ((xQd zC 24 3 5 fg (0 : Int) (bg.map qg) (qg ay)).or ((xQi zC 23 3 5 fg (bg.map qg)).or X0)) hC .normal [(0, .own (.opq (YY d8).q)), (1, .d (.sptr (xH x0))), (4, .own (eOs 1 true eB ee)), (5, .own (eDq 3 qg bg)), (6, .own (.box (qg ay)))] [Hn (⟨rfl, rfl, rfl, rfl, i0 h1, (iL qg h1).2⟩ : T.als 5 [] 0 0 = T.als 5 [] 0 0 ∧ some fg = some fg ∧ T.own (eDq 3 qg bg) = T.own (eDq 3 qg bg) ∧ some 3 = some 3 ∧ (0 : Int) ≤ 0 ∧ (0 : Int).toNat < (bg.map qg).length), Hn (⟨rfl, rfl, rfl, iM qg h1, rfl, Qv.isD ay⟩ : T.d (.atom (z2x 3 fg (0 : Int))) = T.d (.atom (z2x 3 fg (0 : Int))) ∧ some fg = some fg ∧ T.own (eDq 3 qg bg) = T.own (eDq 3 qg bg) ∧ (bg.map qg)[(0 : Int).toNat]? = some (qg ay) ∧ true = true ∧ (qg ay).isD = true)] fun st0 h0 => ⟨rfl, h0⟩) fun st1 h1 => z4O h1 ?_
  obtain ⟨g1, ae⟩ := gdE ae
  obtain ⟨yr, h2, ae⟩ := zl ae
  let Z1 : List HO := [Hn (rfl : eDq 3 qg bg = A.opq (UU 3 (bg.map qg)).q), Hn (⟨g1.1, cuB qg g1⟩ : (0 : Int) ≤ 1 ∧ (1 : Int).toNat ≤ (bg.map qg).length), Hn (drM qg bg (1 : Int).toNat), Hn (z8b (yv := yv) (Y := YY) (enc := (fun (x : zh) (_ : Bool) (_ : Value) => [qg x])) (s := d8) (x := ay) (s' := yr.1) (b := yr.2) (v := .nilFunc) [qg ay] (show WG [qg ay] [qg ay] from inferInstance))]
  rcases y5 ae with ⟨c1, ae⟩ | ⟨c1, ae⟩
  ·obtain rfl := zg ae
   obtain rfl := hl1
   obtain rfl := zg aa
   exact yF ((z6T (P := Tryd.prog) ve hy 29 (s := d8) (x := ay) (s' := yr.1) (b := yr.2) .nilFunc h2).or ((xQs zC 26 3 (bg.map qg) ((bg.drop (1 : Int).toNat).map qg)).or X0)) hC .ret [(0, .own (.opq (YY yr.1).q))] (Z1 ++ [Hq c1]) fun st0 h0 => hE _ st0 (.inr rfl) h0
  ·obtain ⟨au, h3, ae⟩ := zl ae
   obtain ⟨t2, ht2, ae⟩ := zl ae
   refine yL ((z6T (P := Tryd.prog) ve hy 29 (s := d8) (x := ay) (s' := yr.1) (b := yr.2) .nilFunc h2).or ((xQs zC 26 3 (bg.map qg) ((bg.drop (1 : Int).toNat).map qg)).or X0)) hC xh [1,1,1,0,0,1,0,1,1,1,1,0] [J1] (fun s => xU ay yr au s.1 s.2.1 s.2.2) (fun x => Yw x0 YY ay yr au x.1 x.2.1 x.2.2) (ee, (bg.drop (1 : Int).toNat), 0) ht2  (Z1 ++ [Hq c1, Hi jB h3, Ha (lnM F6_ au)]) ?_
   rintro ⟨ck, bp, cm⟩ m2 ep ai hl2 J2 a8
   try unfold xU at ai
   rcases y5 ai with ⟨c2, ai⟩ | ⟨c2, ai⟩
   ·refine yJ X0 hC xh [1,1,1,0,0,1,0,1,1,1,1,0,0,1,1] [J1, J2] [0,1,4,5,6,36,37,38] (fun z : List Bool × List zh => yz cm z.1 z.2 = some ep) (fun z => Yy x0 YY ay yr au cm z.1 z.2) [(0, .own (.opq (YY yr.1).q)), (1, .d (.sptr (xH x0))), (4, .own (eOs 1 true eB ck)), (5, .own (eDq 3 qg bp)), (6, .own (.box (qg ay))), (36, .d (eSl 2 false F6_ au)), (37, .d (I ((au.length : Nat) : Int))), (38, .d (I cm))] [Hq c2, Hh (.cut 0)] ?_ fun J3 cj => ?_
    ·rintro ⟨fc, eb⟩ ai
     unfold yz at ai
     obtain rfl := zg ai
     exact yB X0 hC a8 (fc, eb, w64 (cm + 1)) hl2 []
    ·obtain ⟨ap, h4, ai⟩ := zl ai
     let Z2 : List HO := [Hi F6_ h4]
     rcases y5 ai with ⟨c3, ai⟩ | ⟨c3, ai⟩
     ·obtain ⟨gc, h5, ai⟩ := zl ai
      let Z3 : List HO := (Z2 ++ (rpN 4 (Hq c3) [Hn (iL eB h5), Hq c3, Hs (iM eB h5), Hq c3, Hq c3]))
      rcases y5 ai with ⟨c4, ai⟩ | ⟨c4, ai⟩
      ·obtain ⟨gn, h6, ai⟩ := zl ai
       obtain ⟨g2, ai⟩ := gdE ai
       exact yB ((xQa zC 66 3 (bp.map qg) ((bp ++ ([(zh.mk ap.To ay.state_ cm)] : List zh)).map qg)).or X0) hC cj ((ck.set ap.To.toNat true), (bp ++ ([(zh.mk ap.To ay.state_ cm)] : List zh))) ai (Z3 ++ [Hq c4, Hn (iL eB h6), Hs (iM eB h6), Hs (iM eB h6), Hl (sM eB ck ap.To true), Hn (⟨rfl, dM qg ([(zh.mk ap.To ay.state_ cm)] : List zh), rfl⟩ : 3 = 3 ∧ A.areD (([(zh.mk ap.To ay.state_ cm)] : List zh).map qg) = true ∧ true = true), Hn (⟨rfl, aL qg qg g2, dM qg bp⟩ : eDq 3 qg bp = A.opq (UU 3 (bp.map qg)).q ∧ (bp.map qg).length + (([(zh.mk ap.To ay.state_ cm)] : List zh).map qg).length ≤ lim ∧ A.areD (bp.map qg) = true), Hn (aM qg bp ([(zh.mk ap.To ay.state_ cm)] : List zh))])
      ·exact yB X0 hC cj (ck, bp) ai (Z3 ++ [Hq c4])
     ·exact yB X0 hC cj (ck, bp) ai (Z2 ++ (rpN 7 (Hq c3) [qF]))
   ·obtain rfl := zg ai
    obtain rfl := hl2
    obtain rfl := zg ae
    exact yB X0 hC a7 (yr.1, ck, bp) hl1 [Hq c2]
 ·obtain rfl := zg ae
  obtain rfl := hl1
  obtain rfl := zg aa
  exact yF ((xQl zC 20 149 3 (bg.map qg) (by kernel_rfl)).or X0) hC .normal [(0, .own (.opq (YY d8).q))] (Z0 ++ [Hq c0]) fun st0 h0 => hE _ st0 (.inl rfl) h0
def Yh : Code := (Tryd.f31.body).getD .skip
def yn : yD := spF (α := List Int) (ρ := List Int) 31 (fun x => [F4_ x]) (fun r => (eOs 1 false (eI .i64)) r) (fun x => zT x) [] (Jf)
theorem Yt (hC : zP Tryd.prog ctr) : yn.Ok Tryd.prog := by
 refine y6 ?_
 rintro s_ r0 aa
 try unfold zT at aa
 refine yO true [(2, none)] Yh 8 Tryd.func31 fun E hE => ?_
 refine z1g rfl 0 (sz := 1) (t := false) (es := s_.map (eI .i64)) (by kernel_rfl) fun ax hv0 hn => ?_
 rcases hn with ⟨hn0, he0⟩ | hn0
 ·obtain ⟨_, aa⟩ := gdE aa
  rw [show s_ = [] from List.map_eq_nil_iff.1 he0] at aa
  obtain rfl := zg aa
  exact yEx ((z9r zC 4 43 (by kernel_rfl) hn0).or ((xMv Tryd.prog 3 0 ax hv0).or X0)) hC hE [Hn (rfl : some ax = some ax), Hn (⟨rfl, rfl⟩ : T.d (.atom ax) = T.d (.atom ax) ∧ T.d (.atom (.slice none 0 0)) = T.d (.atom (.slice none 0 0))), qT] (eOs 1 true (eI .i64) []) (show LeV (eOs 1 true (eI .i64) []) (eOs 1 false (eI .i64) ([] : List Int)) from inferInstance)
 ·obtain ⟨g0, aa⟩ := gdE aa
  obtain rfl := zg aa
  exact yE ((z9r zC 4 43 (by kernel_rfl) hn0).or ((xMv Tryd.prog 3 0 ax hv0).or X0)) hC hE [Hn (rfl : some ax = some ax), Hn (⟨rfl, rfl⟩ : T.d (.atom ax) = T.d (.atom ax) ∧ T.d (.atom (.slice none 0 0)) = T.d (.atom (.slice none 0 0))), qF, Hn (dM (eI .i64) s_), Hn (aL (eI .i64) (eI .i64) g0), Hl (aM0 (eI .i64) s_)]
def Yv : Code := (Tryd.f30.body).getD .skip
def yu : yD := spF (α := List Int) (ρ := List Int) 30 (fun x => [F4_ x]) (fun r => F1_ r) (fun x => y3 x) [] (Jf)
theorem YN (hC : zP Tryd.prog ctr) : yu.Ok Tryd.prog := by
 refine y6 ?_
 rintro s_ r0 aa
 try unfold y3 at aa
 refine yO true [(2, none)] Yv 9 Tryd.func30 fun E hE => ?_
 obtain ⟨g0, aa⟩ := gdE aa
 obtain rfl := zg aa
 exact yE X0 hC hE [Ha (lnM (eI .i64) s_), Ha (lnM (eI .i64) s_), Hn (slB g0), Hn (slC g0), Hn (za3 (eI .i64) g0), Ha (zeB 1 (eI .i64) s_ 0 ((s_.length : Nat) : Int).toNat)]
def uj : Code := (Tryd.f63.body).getD .skip
def Ze : yD := spF (α := z7 × Int) (ρ := List (List Int) × List Bool) 63 (fun x => [xH x.1, (eI .i64) x.2]) (fun r => .tup [F7_ r.1, (eSl 1 true eB) r.2]) (fun x => ki x.1 x.2) [] (V5)
abbrev Vc (l_ : List (List Int)) (is : List Bool) : List (Nat × T) := [(6, .own (.box (eOs 1 true F1_ l_))), (7, .own (.box (eOs 1 true eB is)))]
abbrev je (r_ : z7 × Int) (dj : List (List Int)) (dm : List Bool) : List (Nat × T) := [(6, .own (.box (eOs 1 true F1_ dj))), (7, .own (.box (eOs 1 true eB dm))), (19, .d (.fn 87 [.sptr (.agg [I r_.1.Inputs, I r_.1.Outputs, eSl 1 false jB r_.1.Rows]), .sptr (I r_.2)]))]
theorem Jz (hC : zP Tryd.prog ctr) (h0I : ctr.Has qX) (h01 : ctr.Has yn) (h00 : ctr.Has yu) : Ze.Ok Tryd.prog := by
 refine y6 ?_
 rintro ⟨m_, from_⟩ r0 aa
 try unfold ki at aa
 refine yO false [(4, none), (5, none)] uj 45 Tryd.func63 fun E hE => ?_
 obtain ⟨g0, aa⟩ := gdE aa
 obtain ⟨g1, aa⟩ := gdE aa
 refine yJ ((xMs zC 12 43).or X0) hC uj [1,1] [] [6,7] (fun z : List (List Int) × List Bool => jg z.1 z.2 = some r0) (fun z => Vc z.1 z.2) [(1, .d (I from_)), (2, .own (.box (xH m_))), (6, .own (.box (eOs 1 true F1_ (List.replicate ((m_.Rows.length : Nat) : Int).toNat ([] : List Int))))), (7, .own (.box (eOs 1 true eB (List.replicate ((m_.Rows.length : Nat) : Int).toNat false))))] [Ha (lnM jB m_.Rows), Hn (rL g0), Ha (rM 1 F1_ ((m_.Rows.length : Nat) : Int) ([] : List Int)), Ha (lnM jB m_.Rows), Hn (rL g1), Ha (rM 1 eB ((m_.Rows.length : Nat) : Int) false), Hh (.cut 0)] ?_ fun J1 a7 => ?_
 ·rintro ⟨l_, is⟩ aa
  unfold jg at aa
  obtain rfl := zg aa
  exact yE X0 hC hE [Hm (shM F1_ F1_ l_), Hm (shM eB eB is)]
 ·obtain ⟨r_, h0, aa⟩ := zl aa
  obtain ⟨t2, ht2, aa⟩ := zl aa
  refine yAt X0 hC (sub [1,1,2,1,0] uj) (frs [1,1,2,1,0] [J1] uj []) [(6, .own (.box (eOs 1 true F1_ (List.replicate ((m_.Rows.length : Nat) : Int).toNat ([] : List Int))))), (7, .own (.box (eOs 1 true eB (List.replicate ((m_.Rows.length : Nat) : Int).toNat false)))), (19, .d (.fn 87 [.sptr (.agg [I r_.1.Inputs, I r_.1.Outputs, eSl 1 false jB r_.1.Rows]), .sptr (I r_.2)]))] [Hc h0I (x := (m_, from_)) h0 (loC xH m_ <| loC (eI .i64) from_ <| loN)] fun st0 h0 => ?_
  refine z9l (g := .tmp 19) (ps := [20]) (assign := (sub [1,1,2,1,0,0] uj)) (body := (sub [1,1,2,1,0,1] uj)) (K := 87) (caps := [.sptr (.agg [I r_.1.Inputs, I r_.1.Outputs, eSl 1 false jB r_.1.Rows]), .sptr (I r_.2)]) (by kernel_rfl) [6,7,19] (fun s => je r_ s.1 s.2) (fun z => nomatch z) (fun z => nomatch z) ((fun (x : zh) (_ : Bool) (_ : Value) => [qg x])) (F := @vZ r_.1 r_.2) (fun s x => w4 s.1 s.2 x) ((List.replicate ((m_.Rows.length : Nat) : Int).toNat ([] : List Int)), (List.replicate ((m_.Rows.length : Nat) : Int).toNat false)) t2 _ h0 inferInstance (by kernel_rfl) (by decide) (fun _ => rfl) (by rintro ⟨⟩) (by kernel_rfl) (fun _ _ _ => rfl) (We hC r_.1 r_.2) ht2 ?_ ?_
  ·rintro gu ⟨dj, dm⟩ bo vr bm ae
   replace ae : w4 dj dm bo = some bm := ae
   unfold w4 at ae
   refine yF X0 hC .normal [(6, .own (.box (eOs 1 true F1_ dj))), (7, .own (.box (eOs 1 true eB dm))), (8, .own (.box (qg bo))), (19, .d (.fn 87 [.sptr (.agg [I r_.1.Inputs, I r_.1.Outputs, eSl 1 false jB r_.1.Rows]), .sptr (I r_.2)]))] [] fun st0 h0 => ⟨rfl, z4O h0 ?_⟩
   obtain ⟨gq, h1, ae⟩ := zl ae
   let Z0 : List HO := [Hn (iL eB h1), Hs (iM eB h1), Hs (iM eB h1), Hl (sM eB dm bo.state_ true)]
   rcases y5 ae with ⟨c0, ae⟩ | ⟨c0, ae⟩
   ·obtain ⟨az, h2, ae⟩ := zl ae
    obtain ⟨ah, h3, ae⟩ := zl ae
    obtain ⟨g2, ae⟩ := gdE ae
    obtain ⟨ak, h4, ae⟩ := zl ae
    obtain ⟨br, h5, ae⟩ := zl ae
    obtain rfl := zg ae
    exact yF X0 hC .normal (je r_ (dj.set bo.state_.toNat ak) (dm.set bo.state_.toNat true)) (Z0 ++ [Hq c0, Hn (iL F1_ h2), Hs (iM F1_ h2), Hc h01 (x := az) h3 (loC F1_ az <| loN), Hq (dM (eI .i64) ([bo.input_] : List Int)), Hn (dM (eI .i64) ([bo.input_] : List Int)), Hn (aL (eI .i64) (eI .i64) g2), Hl (aM (eI .i64) ah ([bo.input_] : List Int)), Hg (Kd h00), Hm (shM (eI .i64) (eI .i64) (ah ++ ([bo.input_] : List Int))), Hs (Ke h00 (x := (ah ++ ([bo.input_] : List Int))) h4 (loC F4_ (ah ++ ([bo.input_] : List Int)) <| loN)), Hm (shM (eI .i64) (eI .i64) (ah ++ ([bo.input_] : List Int))), Hn (iL F1_ h5), Hs (iM F1_ h5), Hs (iM F1_ h5), Hl (sM F1_ dj bo.state_ ak)]) fun st0 h0 => ⟨rfl, _, h0, LeL.refl _⟩
   ·obtain rfl := zg ae
    exact yF X0 hC .normal (je r_ dj (dm.set bo.state_.toNat true)) (Z0 ++ [Hq c0]) fun st0 h0 => ⟨rfl, _, h0, LeL.refl _⟩
  ·rcases t2 with ⟨dj, dm⟩ | z
   ·dsimp only at aa
    exact z0z (by kernel_rfl) (a7 _ [(6, .own (.box (eOs 1 true F1_ dj))), (7, .own (.box (eOs 1 true eB dm)))] (dj, dm) aa (show Own.canon [6,7] _ = ofL _ by kernel_rfl) inferInstance)
   ·cases z
def Qq : Code := (Tryd.f44.body).getD .skip
def km : yD := spF (α := z7) (ρ := List (List Int) × List Bool × Int) 44 (fun x => [xH x]) (fun r => .tup [F7_ r.1, (eSl 1 true eB) r.2.1, (eI .i64) r.2.2]) (fun x => jm x) [] (Jf)
theorem QA (hC : zP Tryd.prog ctr) (h0h : ctr.Has uB) (h0J : ctr.Has Ze) : km.Ok Tryd.prog := by
 refine y6 ?_
 rintro m_ r0 aa
 try unfold jm at aa
 refine yO false [(2, none), (3, none), (4, none)] Qq 20 Tryd.func44 fun E hE => ?_
 obtain ⟨r_, h0, aa⟩ := zl aa
 let Z0 : List HO := [Hc h0h (x := m_) h0 (loC xH m_ <| loN)]
 rcases y5 aa with ⟨c0, aa⟩ | ⟨c0, aa⟩
 ·obtain rfl := zg aa
  exact yEx X0 hC hE (Z0 ++ [Hq c0, Hm (shM F4_ F4_ []), Hm (shM eB eB [])]) (.tup [eSl 1 true F1_ [], eSl 1 true eB [], I r_]) (show LeV (.tup [eSl 1 true F1_ [], eSl 1 true eB [], I r_]) (.tup [eSl 1 true F1_ ([] : List (List Int)), eSl 1 true eB ([] : List Bool), I r_]) from inferInstance)
 ·obtain ⟨ah, h1, aa⟩ := zl aa
  obtain rfl := zg aa
  exact yE X0 hC hE (Z0 ++ [Hq c0, Hc h0J (x := (m_, 0)) h1 (loC xH m_ <| loC (eI .i64) 0 <| loN)])
def xQ : Code := (Tryd.f25.body).getD .skip
def wT : yD := spF (α := z7 × Int) (ρ := List za) 25 (fun x => [xH x.1, (eI .i64) x.2]) (fun r => (eOs 5 false (zb F4_ zG zD)) r) (fun x => va x.1 x.2) [] (V5)
abbrev Wa (out : List za) : List (Nat × T) := [(8, .own (eOs 5 false (zb F4_ zG zD) out))]
abbrev W9 (m_ : z7) (goal : Int) (r_ : List (List Int) × List Bool × Int) (av : Int) (bc : List za) : List (Nat × T) := [(1, .d (I goal)), (2, .own (.box (xH m_))), (5, .d (eSl 1 true F1_ r_.1)), (6, .d (eSl 1 true eB r_.2.1)), (8, .own (eOs 5 false (zb F4_ zG zD) bc)), (24, .d (eSl 1 false jB m_.Rows)), (25, .d (I ((m_.Rows.length : Nat) : Int))), (26, .d (I av))]
abbrev W8 (m_ : z7) (goal : Int) (r_ : List (List Int) × List Bool × Int) (av : Int) (au : List zy) (a6 : Int) (cx : List za) : List (Nat × T) := [(1, .d (I goal)), (2, .own (.box (xH m_))), (5, .d (eSl 1 true F1_ r_.1)), (6, .d (eSl 1 true eB r_.2.1)), (8, .own (eOs 5 false (zb F4_ zG zD) cx)), (9, .d (.sptr (I av))), (24, .d (eSl 1 false jB m_.Rows)), (25, .d (I ((m_.Rows.length : Nat) : Int))), (26, .d (I av)), (49, .d (eSl 2 false F6_ au)), (50, .d (I ((au.length : Nat) : Int))), (51, .d (I a6))]
abbrev W7 (m_ : z7) (goal : Int) (r_ : List (List Int) × List Bool × Int) (av : Int) (au : List zy) (a6 : Int) (ak : List Int) (bq : List zy) (bt : Int) (ft : List za) : List (Nat × T) := [(1, .d (I goal)), (2, .own (.box (xH m_))), (5, .d (eSl 1 true F1_ r_.1)), (6, .d (eSl 1 true eB r_.2.1)), (8, .own (eOs 5 false (zb F4_ zG zD) ft)), (9, .d (.sptr (I av))), (11, .own (.box (I a6))), (13, .d (eSl 1 false (eI .i64) (ak ++ ([a6] : List Int)))), (24, .d (eSl 1 false jB m_.Rows)), (25, .d (I ((m_.Rows.length : Nat) : Int))), (26, .d (I av)), (49, .d (eSl 2 false F6_ au)), (50, .d (I ((au.length : Nat) : Int))), (51, .d (I a6)), (84, .d (eSl 2 false F6_ bq)), (85, .d (I ((bq.length : Nat) : Int))), (86, .d (I bt))]
abbrev W4 (m_ : z7) (goal : Int) (r_ : List (List Int) × List Bool × Int) (av : Int) (au : List zy) (a6 : Int) (ak : List Int) (bq : List zy) (dl : List za) (bt : Int) : List (Nat × T) := [(1, .d (I goal)), (2, .own (.box (xH m_))), (5, .d (eSl 1 true F1_ r_.1)), (6, .d (eSl 1 true eB r_.2.1)), (8, .own (eOs 5 false (zb F4_ zG zD) dl)), (9, .d (.sptr (I av))), (11, .own (.box (I a6))), (13, .d (eSl 1 false (eI .i64) (ak ++ ([a6] : List Int)))), (24, .d (eSl 1 false jB m_.Rows)), (25, .d (I ((m_.Rows.length : Nat) : Int))), (26, .d (I av)), (49, .d (eSl 2 false F6_ au)), (50, .d (I ((au.length : Nat) : Int))), (51, .d (I a6)), (84, .d (eSl 2 false F6_ bq)), (85, .d (I ((bq.length : Nat) : Int))), (86, .d (I bt))]
abbrev W5 (m_ : z7) (goal : Int) (r_ : List (List Int) × List Bool × Int) (av : Int) (au : List zy) (cb : List za) (a6 : Int) : List (Nat × T) := [(1, .d (I goal)), (2, .own (.box (xH m_))), (5, .d (eSl 1 true F1_ r_.1)), (6, .d (eSl 1 true eB r_.2.1)), (8, .own (eOs 5 false (zb F4_ zG zD) cb)), (9, .d (.sptr (I av))), (24, .d (eSl 1 false jB m_.Rows)), (25, .d (I ((m_.Rows.length : Nat) : Int))), (26, .d (I av)), (49, .d (eSl 2 false F6_ au)), (50, .d (I ((au.length : Nat) : Int))), (51, .d (I a6))]
abbrev W6 (m_ : z7) (goal : Int) (r_ : List (List Int) × List Bool × Int) (am : List za) (av : Int) : List (Nat × T) := [(1, .d (I goal)), (2, .own (.box (xH m_))), (5, .d (eSl 1 true F1_ r_.1)), (6, .d (eSl 1 true eB r_.2.1)), (8, .own (eOs 5 false (zb F4_ zG zD) am)), (24, .d (eSl 1 false jB m_.Rows)), (25, .d (I ((m_.Rows.length : Nat) : Int))), (26, .d (I av))]
def zL : XH Tryd.prog := ((z7C zC (.inl 107) [104]).or ((z7C zC (.inl 71) [13]).or X0))
theorem Uz (hC : zP Tryd.prog ctr) (h0K : ctr.Has km) (h01 : ctr.Has yn) (h00 : ctr.Has yu) : wT.Ok Tryd.prog := by
 refine y6 ?_
 rintro ⟨m_, goal⟩ r0 aa
 try unfold va at aa
 refine yO true [(4, none)] xQ 114 Tryd.func25 fun E hE => ?_
 obtain ⟨r_, h0, aa⟩ := zl aa
 refine yJ zL hC xQ [1,1,1] [] [8] (fun z : List za => uW z = some r0) (fun z => Wa z) [(1, .d (I goal)), (2, .own (.box (xH m_))), (5, .d (eSl 1 true F1_ r_.1)), (6, .d (eSl 1 true eB r_.2.1)), (8, .own (eOs 5 true (zb F4_ zG zD) []))] [Hc h0K (x := m_) h0 (loC xH m_ <| loN), Hh (.cut 1)] ?_ fun J1 a7 => ?_
 ·rintro out aa
  unfold uW at aa
  obtain rfl := zg aa
  exact yE zL hC hE []
 ·obtain ⟨t2, ht2, aa⟩ := zl aa
  refine yLx zL hC xQ [1,1,1,2,1,0] [J1] (fun s => wX m_ goal r_ s.1 s.2) (fun x => W6 m_ goal r_ x.1 x.2) (([] : List za), 0) ht2 [(1, .d (I goal)), (2, .own (.box (xH m_))), (5, .d (eSl 1 true F1_ r_.1)), (6, .d (eSl 1 true eB r_.2.1)), (8, .own (eOs 5 true (zb F4_ zG zD) [])), (24, .d (eSl 1 false jB m_.Rows)), (25, .d (I ((m_.Rows.length : Nat) : Int))), (26, .d (I 0))] inferInstance [Ha (lnM jB m_.Rows)] ?_
  rintro ⟨am, av⟩ m2 bm ae hl1 J2 a8
  try unfold wX at ae
  rcases y5 ae with ⟨c0, ae⟩ | ⟨c0, ae⟩
  ·refine yJ zL hC xQ [1,1,1,2,1,0,0,1,1] [J1, J2] [1,2,5,6,8,24,25,26] (fun z : List za => xO av z = some bm) (fun z => W9 m_ goal r_ av z) [(1, .d (I goal)), (2, .own (.box (xH m_))), (5, .d (eSl 1 true F1_ r_.1)), (6, .d (eSl 1 true eB r_.2.1)), (8, .own (eOs 5 false (zb F4_ zG zD) am)), (24, .d (eSl 1 false jB m_.Rows)), (25, .d (I ((m_.Rows.length : Nat) : Int))), (26, .d (I av))] [Hq c0, Hh (.cut 0)] ?_ fun J3 cj => ?_
   ·rintro bc ae
    unfold xO at ae
    obtain rfl := zg ae
    exact yB zL hC a8 (bc, w64 (av + 1)) hl1 []
   ·obtain ⟨au, h1, ae⟩ := zl ae
    obtain ⟨u_, h2, ae⟩ := zl ae
    let Z0 : List HO := [Hi jB h1, Hi eB h2]
    rcases y5 ae with ⟨c1, ae⟩ | ⟨c1, ae⟩
    ·exact yB zL hC cj am ae (Z0 ++ [Hq c1])
    ·rcases y5 ae with ⟨c2, ae⟩ | ⟨c2, ae⟩
     ·obtain ⟨eg, h3, ae⟩ := zl ae
      obtain ⟨g0, ae⟩ := gdE ae
      exact yB ((xLs zC 42 (eSl 1 true (eI .i64) eg) (eSl 1 false (eI .i64) eg) inferInstance).or zL) hC cj (am ++ ([(za.mk eg (z8.mk av 0 0) (.inl av))] : List za)) ae (Z0 ++ [Hq c1, Hh (.n 1 [9]), Hq c2, Hi F1_ h3, Hn (rfl : T.d (eSl 1 true (eI .i64) eg) = T.d (eSl 1 true (eI .i64) eg)), Hq (dM (zb F4_ zG zD) ([(za.mk eg (z8.mk av 0 0) (.inl av))] : List za)), Hn (dM (zb F4_ zG zD) ([(za.mk eg (z8.mk av 0 0) (.inl av))] : List za)), Hn (aL (zb F4_ zG zD) (zb F4_ zG zD) g0), Hl (aM (zb F4_ zG zD) am ([(za.mk eg (z8.mk av 0 0) (.inl av))] : List za))])
     ·obtain ⟨t4, ht4, ae⟩ := zl ae
      refine yL zL hC xQ [1,1,1,2,1,0,0,1,1,2,0,1,1,1,1,0] [J1, J2, J3] (fun s => wW m_ goal r_ av au s.1 s.2) (fun x => W5 m_ goal r_ av au x.1 x.2) (am,0) ht4  (Z0 ++ [Hq c1, Hh (.n 1 [9]), Hq c2, Ha (lnM F6_ au)]) ?_
      rintro ⟨cb, a6⟩ m4 ep ai hl2 J4 dz
      try unfold wW at ai
      rcases y5 ai with ⟨c3, ai⟩ | ⟨c3, ai⟩
      ·refine yJ zL hC xQ [1,1,1,2,1,0,0,1,1,2,0,1,1,1,1,0,0,1,1] [J1, J2, J3, J4] [1,2,5,6,8,9,24,25,26,49,50,51] (fun z : List za => xN a6 z = some ep) (fun z => W8 m_ goal r_ av au a6 z) [(1, .d (I goal)), (2, .own (.box (xH m_))), (5, .d (eSl 1 true F1_ r_.1)), (6, .d (eSl 1 true eB r_.2.1)), (8, .own (eOs 5 false (zb F4_ zG zD) cb)), (9, .d (.sptr (I av))), (24, .d (eSl 1 false jB m_.Rows)), (25, .d (I ((m_.Rows.length : Nat) : Int))), (26, .d (I av)), (49, .d (eSl 2 false F6_ au)), (50, .d (I ((au.length : Nat) : Int))), (51, .d (I a6))] [Hq c3, Hh (.cut 0)] ?_ fun J5 dp => ?_
       ·rintro cx ai
        unfold xN at ai
        obtain rfl := zg ai
        exact yB zL hC dz (cx, w64 (a6 + 1)) hl2 []
       ·obtain ⟨ap, h4, ai⟩ := zl ai
        let Z1 : List HO := [Hi F6_ h4]
        rcases y5 ai with ⟨c4, ai⟩ | ⟨c4, ai⟩
        ·exact yB zL hC dp cb ai (Z1 ++ [Hq c4])
        ·obtain ⟨gl, h5, ai⟩ := zl ai
         obtain ⟨ah, h6, ai⟩ := zl ai
         obtain ⟨ak, h7, ai⟩ := zl ai
         obtain ⟨g1, ai⟩ := gdE ai
         let Z2 : List HO := (Z1 ++ [Hq c4, Hi F1_ h5, Hc h01 (x := gl) h6 (loC F1_ gl <| loN), Hg (Kd h00), Hm (shM (eI .i64) (eI .i64) ah), Hs (Ke h00 (x := ah) h7 (loC F4_ ah <| loN)), Hm (shM (eI .i64) (eI .i64) ah), Hq (dM (eI .i64) ([a6] : List Int)), Hn (dM (eI .i64) ([a6] : List Int)), Hn (aN (eI .i64) (eI .i64) g1 (by simp)), Hl (aM (eI .i64) ak ([a6] : List Int))])
         rcases y5 ai with ⟨c5, ai⟩ | ⟨c5, ai⟩
         ·obtain ⟨g2, ai⟩ := gdE ai
          exact yB zL hC dp (cb ++ ([(za.mk (ak ++ ([a6] : List Int)) (z8.mk av a6 0) (.inr (.inl (av, a6))))] : List za)) ai (Z2 ++ [Hq c5, Hm (shM (eI .i64) (eI .i64) (ak ++ ([a6] : List Int))), Hq (dM (zb F4_ zG zD) ([(za.mk (ak ++ ([a6] : List Int)) (z8.mk av a6 0) (.inr (.inl (av, a6))))] : List za)), Hn (dM (zb F4_ zG zD) ([(za.mk (ak ++ ([a6] : List Int)) (z8.mk av a6 0) (.inr (.inl (av, a6))))] : List za)), Hn (aL (zb F4_ zG zD) (zb F4_ zG zD) g2), Hl (aM (zb F4_ zG zD) cb ([(za.mk (ak ++ ([a6] : List Int)) (z8.mk av a6 0) (.inr (.inl (av, a6))))] : List za))])
         ·obtain ⟨bq, h8, ai⟩ := zl ai
          obtain ⟨t6, ht6, ai⟩ := zl ai
          refine yL zL hC xQ [1,1,1,2,1,0,0,1,1,2,0,1,1,1,1,0,0,1,1,2,0,1,1,1,1,1,0] [J1, J2, J3, J4, J5] (fun s => wV av a6 ak bq s.1 s.2) (fun x => W4 m_ goal r_ av au a6 ak bq x.1 x.2) (cb,0) ht6  (Z2 ++ [Hq c5, Hi jB h8, Ha (lnM F6_ bq), Hh (.n 1 [13]), Hm (shM (eI .i64) (eI .i64) (ak ++ ([a6] : List Int)))]) ?_
          rintro ⟨dl, bt⟩ m6 gt cq hl3 J6 fe
          try unfold wV at cq
          rcases y5 cq with ⟨c6, cq⟩ | ⟨c6, cq⟩
          ·refine yJ zL hC xQ [1,1,1,2,1,0,0,1,1,2,0,1,1,1,1,0,0,1,1,2,0,1,1,1,1,1,0,0,1,1] [J1, J2, J3, J4, J5, J6] [1,2,5,6,8,9,11,13,24,25,26,49,50,51,84,85,86] (fun z : List za => wY bt z = some gt) (fun z => W7 m_ goal r_ av au a6 ak bq bt z) [(1, .d (I goal)), (2, .own (.box (xH m_))), (5, .d (eSl 1 true F1_ r_.1)), (6, .d (eSl 1 true eB r_.2.1)), (8, .own (eOs 5 false (zb F4_ zG zD) dl)), (9, .d (.sptr (I av))), (11, .own (.box (I a6))), (13, .d (eSl 1 false (eI .i64) (ak ++ ([a6] : List Int)))), (24, .d (eSl 1 false jB m_.Rows)), (25, .d (I ((m_.Rows.length : Nat) : Int))), (26, .d (I av)), (49, .d (eSl 2 false F6_ au)), (50, .d (I ((au.length : Nat) : Int))), (51, .d (I a6)), (84, .d (eSl 2 false F6_ bq)), (85, .d (I ((bq.length : Nat) : Int))), (86, .d (I bt))] [Hq c6, Hh (.cut 0)] ?_ fun J7 gm => ?_
           ·rintro ft cq
            unfold wY at cq
            obtain rfl := zg cq
            exact yB zL hC fe (ft, w64 (bt + 1)) hl3 []
           ·obtain ⟨fw, h9, cq⟩ := zl cq
            let Z3 : List HO := [Hi F6_ h9]
            rcases y5 cq with ⟨c7, cq⟩ | ⟨c7, cq⟩
            ·obtain ⟨ar, h10, cq⟩ := zl cq
             obtain ⟨aw, h11, cq⟩ := zl cq
             obtain ⟨g3, cq⟩ := gdE cq
             obtain ⟨g4, cq⟩ := gdE cq
             exact yB zL hC gm (dl ++ ([(za.mk (aw ++ ([bt] : List Int)) (z8.mk av a6 bt) (.inr (.inr (z8.mk av a6 bt))))] : List za)) cq (Z3 ++ [Hq c7, Hh (.n 2 [16]), Hc h01 (x := (ak ++ ([a6] : List Int))) h10 (loC F4_ (ak ++ ([a6] : List Int)) <| loN), Hg (Kd h00), Hm (shM (eI .i64) (eI .i64) ar), Hs (Ke h00 (x := ar) h11 (loC F4_ ar <| loN)), Hm (shM (eI .i64) (eI .i64) ar), Hq (dM (eI .i64) ([bt] : List Int)), Hn (dM (eI .i64) ([bt] : List Int)), Hn (aN (eI .i64) (eI .i64) g3 (by simp)), Hl (aM (eI .i64) aw ([bt] : List Int)), Hm (shM (eI .i64) (eI .i64) (aw ++ ([bt] : List Int))), Hq (dM (zb F4_ zG zD) ([(za.mk (aw ++ ([bt] : List Int)) (z8.mk av a6 bt) (.inr (.inr (z8.mk av a6 bt))))] : List za)), Hn (dM (zb F4_ zG zD) ([(za.mk (aw ++ ([bt] : List Int)) (z8.mk av a6 bt) (.inr (.inr (z8.mk av a6 bt))))] : List za)), Hn (aL (zb F4_ zG zD) (zb F4_ zG zD) g4), Hl (aM (zb F4_ zG zD) dl ([(za.mk (aw ++ ([bt] : List Int)) (z8.mk av a6 bt) (.inr (.inr (z8.mk av a6 bt))))] : List za))])
            ·exact yB zL hC gm dl cq (Z3 ++ [Hq c7])
          ·obtain rfl := zg cq
           obtain rfl := hl3
           exact yB zL hC dp dl ai [Hq c6]
      ·obtain rfl := zg ai
       obtain rfl := hl2
       exact yB zL hC cj cb ae [Hq c3]
  ·obtain rfl := zg ae
   obtain rfl := hl1
   exact yB zL hC a7 am aa [Hq c0]
def kH : Code := (Tryd.f7.body).getD .skip
def qo : yD := spF (α := z7 × List (List Int)) (ρ := yb × Int) 7 (fun x => [xH x.1, F9_ x.2]) (fun r => .tup [zcx r.1, (eI .i64) r.2]) (fun x => vb x.1 x.2) [] (V5)
abbrev WF (n_ : ZU (xv Int)) : List (Nat × T) := [(4, .own (.box (.agg [.agg [I 0, I 0], .agg [I 0, I 0], .agg [I 0, I 0]]))), (8, .own (.box ((zaZ F0_) n_)))]
abbrev WE (m_ : z7) (ah : zf) (cg : ZU (xv Int)) (bo : Int) : List (Nat × T) := [(2, .own (.box (xH m_))), (4, .own (.box (.agg [.agg [I 0, I 0], .agg [I 0, I 0], .agg [I 0, I 0]]))), (7, .own (.box ((zS (eMp (eI .i64) eB) (eMp F0_ eB) (eMp zG eB)) ah))), (8, .own (.box ((zaZ F0_) cg))), (20, .d (I bo))]
theorem QE (hC : zP Tryd.prog ctr) (h03 : ctr.Has wi) (h02 : ctr.Has xI) (h04 : ctr.Has wT) : qo.Ok Tryd.prog := by
 refine y6 ?_
 rintro ⟨m_, l_⟩ r0 aa
 try unfold vb at aa
 refine yO false [(4, some 36), (5, none)] kH 41 Tryd.func7 fun E hE => ?_
 obtain ⟨r_, h0, aa⟩ := zl aa
 let Z0 : List HO := [Hc h03 (x := (m_, l_)) h0 (loC xH m_ <| loC F9_ l_ <| loN)]
 rcases y5 aa with ⟨c0, aa⟩ | ⟨c0, aa⟩
 ·obtain rfl := zg aa
  exact yE X0 hC hE (Z0 ++ [Hq c0])
 ·obtain ⟨ah, h1, aa⟩ := zl aa
  refine yJ X0 hC kH [1,1,1,1] [] [4,8] (fun z : ZU (xv Int) => kF z = some r0) (fun z => WF z) [(2, .own (.box (xH m_))), (4, .own (.box (.agg [.agg [I 0, I 0], .agg [I 0, I 0], .agg [I 0, I 0]]))), (7, .own (.box ((zS (eMp (eI .i64) eB) (eMp F0_ eB) (eMp zG eB)) ah))), (8, .own (.box (.agg [.agg [I 0, I 0], .agg [I 0, I 0], .agg [I 0, I 0]])))] (Z0 ++ [Hq c0, Hc h02 (x := (m_, l_)) h1 (loC xH m_ <| loC F9_ l_ <| loN), Hh (.cut 1)]) ?_ fun J1 a7 => ?_
  ·rintro n_ aa
   unfold kF at aa
   obtain rfl := zg aa
   exact yE X0 hC hE [Hn (⟨rfl, by decide⟩ : true = true ∧ 0 < 3), Hn (⟨rfl, by decide⟩ : true = true ∧ 1 < 3), Hn (⟨rfl, by decide⟩ : true = true ∧ 2 < 3)]
  ·obtain ⟨t2, ht2, aa⟩ := zl aa
   refine yL X0 hC kH [1,1,1,1,2,1,0] [J1] (fun s => wg m_ ah s.1 s.2) (fun x => WE m_ ah x.1 x.2) ((ZU.mk (xv.mk 0 0) (xv.mk 0 0) (xv.mk 0 0)), 0) ht2  [] ?_
   rintro ⟨cg, bo⟩ m2 bm ae hl1 J2 a8
   try unfold wg at ae
   rcases y5 ae with ⟨c1, ae⟩ | ⟨c1, ae⟩
   ·obtain ⟨ak, h2, ae⟩ := zl ae
    obtain ⟨ar, h3, ae⟩ := zl ae
    obtain ⟨cell, h4, ae⟩ := zl ae
    obtain ⟨arr, h5, ae⟩ := zl ae
    replace h5 := zg h5
    obtain rfl := zg ae
    exact yB ((ZD (P := Tryd.prog) ve 7 0 [.deref] (fa := .fn 24 []) (r := I ak) (xl := []) (xr := [(eI .i64) bo]) (qs := [(yg (zq (eI .i64) eB ah.states_)), (yg (zq F0_ eB ah.edges_)), (yg (zq zG eB ah.pairs_))]) (qs' := [(yg (zq (eI .i64) eB ah.states_)), (yg (zq F0_ eB ah.edges_)), (yg (zq zG eB ah.pairs_))]) (es := [(zq (eI .i64) eB ah.states_), (zq F0_ eB ah.edges_), (zq zG eB ah.pairs_)]) (es' := [(zq (eI .i64) eB ah.states_), (zq F0_ eB ah.edges_), (zq zG eB ah.pairs_)]) (.inr rfl) (z2A (by kernel_rfl)) (.cons (wx (zq (eI .i64) eB ah.states_)) (.cons (wx (zq F0_ eB ah.edges_)) (.cons (wx (zq zG eB ah.pairs_)) (.nil)))) (fun us hu => ZY hC _ _ _ h2 us hu) (some 26)).or X0) hC a8 (arr, w64 (bo + 1)) hl1 [Hq c1, Hn (⟨rfl, leP (show WG [] [] from inferInstance), leP (show WG [(eI .i64) bo] [(eI .i64) bo] from inferInstance), rfl, rfl⟩ : ([.fn 24 []] : List A) = [.fn 24 []] ∧ LeP [] [] ∧ LeP [(eI .i64) bo] [(eI .i64) bo] ∧ T.als 7 [.deref] 0 0 = T.als 7 [.deref] 0 0 ∧ (some (.agg [.opq (yg (zq (eI .i64) eB ah.states_)), .opq (yg (zq F0_ eB ah.edges_)), .opq (yg (zq zG eB ah.pairs_))]) : Option A) = some (.agg [.opq (yg (zq (eI .i64) eB ah.states_)), .opq (yg (zq F0_ eB ah.edges_)), .opq (yg (zq zG eB ah.pairs_))])), Hc h04 (x := (m_, bo)) h3 (loC xH m_ <| loC (eI .i64) bo <| loN), Ha (lnM (zb F4_ zG zD) ar), Hn (⟨arJ (by kernel_rfl) (i0 h4), (iL F0_ h4).2⟩ : Qt ve 73 ((ZU.toL cg).map F0_) bo = true ∧ bo.toNat < ((ZU.toL cg).map F0_).length), Hh (.op 2), Hh (.f), Hs (iM F0_ h4), Hh (.f), Hs (iM F0_ h4), Hx (.l ((ZU.toL arr).map F0_)) ((ZU.setL F0_ cg bo (xv.mk ak ((ar.length : Nat) : Int))).trans (congrArg (fun q => (ZU.toL q).map F0_) h5))]
   ·obtain rfl := zg ae
    obtain rfl := hl1
    exact yB X0 hC a7 cg aa [Hq c1]
def Wy : Code := (Tryd.f45.body).getD .skip
theorem WO (hC : zP Tryd.prog ctr) : ∀ (x0 : Int) (x_ : zf) (r0 : Bool), qz x0 x_ = some r0 → ∀ us : List Value, us.length = 3 → uA Tryd.prog (.fn 45 [.sptr (I x0)]) ([] ++ .agg (us.map .atom) :: []) (Yu us [zq (eI .i64) eB x_.states_, zq F0_ eB x_.edges_, zq zG eB x_.pairs_]) (B r0) ([zq (eI .i64) eB x_.states_, zq F0_ eB x_.edges_, zq zG eB x_.pairs_].map fun e => .opq (yg e)) := by
 intro x0 x_ r0 aa us hus
 obtain ⟨u0, u1, u2, rfl⟩ := z9x hus
 refine Xn (tt := ve) (nt := 8) (body := Wy) (B := 2) [3] (xl := []) (xr := []) (caps := [.sptr (I x0)]) (es := [zq (eI .i64) eB x_.states_, zq F0_ eB x_.edges_, zq zG eB x_.pairs_]) (es' := [zq (eI .i64) eB x_.states_, zq F0_ eB x_.edges_, zq zG eB x_.pairs_]) (us := [u0, u1, u2]) (r := B r0) Tryd.func45 rfl (by kernel_rfl) rfl rfl (by decide) (by show (2 : Nat) ≤ 8; decide) rfl rfl (.inr ⟨_, rfl⟩) fun E hE => ?_
 try unfold qz at aa
 obtain ⟨val, h0, aa⟩ := zl aa
 replace h0 := zg h0
 obtain rfl := zg aa
 exact yF ((z2V z61 7 (kA u0 (zq (eI .i64) eB x_.states_))).or X0) hC .ret [(2, .own (.box (.agg [.opq (vu u0 (zq (eI .i64) eB x_.states_)), .opq (vu u1 (zq F0_ eB x_.edges_)), .opq (vu u2 (zq zG eB x_.pairs_))]))), (3, .d (B val))] [Hn (⟨rfl, rfl, Qj (fun _ => rfl) x_.states_⟩ : A.opq (vu u0 (zq (eI .i64) eB x_.states_)) = A.opq (vu u0 (zq (eI .i64) eB x_.states_)) ∧ (Q5 .i64) ((eI .i64) x0) = true ∧ ∀ p ∈ zq (eI .i64) eB x_.states_, (Q5 .i64) p.1 = true), Hx (.a (eB val)) ((zda (f := (eI .i64)) (g := eB) (z0 := false) (z := .atom (.bool false)) rfl x0 x_.states_).trans (congrArg eB h0))] fun st0 h0 => hE _ st0 (.inr rfl) (Q3 h0 rfl rfl) (z3O (zb0 h0 rfl rfl))
def Wx : Code := (Tryd.f46.body).getD .skip
theorem WN (hC : zP Tryd.prog ctr) : ∀ (x0 : Int) (x1 : Int) (x_ : zf) (r0 : Bool), qw x0 x1 x_ = some r0 → ∀ us : List Value, us.length = 3 → uA Tryd.prog (.fn 46 [.sptr (I x0), .sptr (I x1)]) ([] ++ .agg (us.map .atom) :: []) (Yu us [zq (eI .i64) eB x_.states_, zq F0_ eB x_.edges_, zq zG eB x_.pairs_]) (B r0) ([zq (eI .i64) eB x_.states_, zq F0_ eB x_.edges_, zq zG eB x_.pairs_].map fun e => .opq (yg e)) := by
 intro x0 x1 x_ r0 aa us hus
 obtain ⟨u0, u1, u2, rfl⟩ := z9x hus
 refine Xn (tt := ve) (nt := 11) (body := Wx) (B := 3) [4] (xl := []) (xr := []) (caps := [.sptr (I x0), .sptr (I x1)]) (es := [zq (eI .i64) eB x_.states_, zq F0_ eB x_.edges_, zq zG eB x_.pairs_]) (es' := [zq (eI .i64) eB x_.states_, zq F0_ eB x_.edges_, zq zG eB x_.pairs_]) (us := [u0, u1, u2]) (r := B r0) Tryd.func46 rfl (by kernel_rfl) rfl rfl (by decide) (by show (3 : Nat) ≤ 11; decide) rfl rfl (.inr ⟨_, rfl⟩) fun E hE => ?_
 try unfold qw at aa
 obtain ⟨val, h0, aa⟩ := zl aa
 replace h0 := zg h0
 obtain rfl := zg aa
 exact yF ((z2V z8J 10 (kA u1 (zq F0_ eB x_.edges_))).or X0) hC .ret [(3, .own (.box (.agg [.opq (vu u0 (zq (eI .i64) eB x_.states_)), .opq (vu u1 (zq F0_ eB x_.edges_)), .opq (vu u2 (zq zG eB x_.pairs_))]))), (4, .d (B val))] [Hn (⟨rfl, rfl, Qj (fun _ => rfl) x_.edges_⟩ : A.opq (vu u1 (zq F0_ eB x_.edges_)) = A.opq (vu u1 (zq F0_ eB x_.edges_)) ∧ (Wr [.i64, .i64]) (F0_ (xv.mk x0 x1)) = true ∧ ∀ p ∈ zq F0_ eB x_.edges_, (Wr [.i64, .i64]) p.1 = true), Hx (.a (eB val)) ((zda (f := F0_) (g := eB) (z0 := false) (z := .atom (.bool false)) rfl (xv.mk x0 x1) x_.edges_).trans (congrArg eB h0))] fun st0 h0 => hE _ st0 (.inr rfl) (Q3 h0 rfl rfl) (z3O (zb0 h0 rfl rfl))
def Ww : Code := (Tryd.f47.body).getD .skip
theorem WK (hC : zP Tryd.prog ctr) : ∀ (x0 : z8) (x_ : zf) (r0 : Bool), qu x0 x_ = some r0 → ∀ us : List Value, us.length = 3 → uA Tryd.prog (.fn 47 [.sptr (.agg [I x0.State, I x0.Input, I x0.Next])]) ([] ++ .agg (us.map .atom) :: []) (Yu us [zq (eI .i64) eB x_.states_, zq F0_ eB x_.edges_, zq zG eB x_.pairs_]) (B r0) ([zq (eI .i64) eB x_.states_, zq F0_ eB x_.edges_, zq zG eB x_.pairs_].map fun e => .opq (yg e)) := by
 intro x0 x_ r0 aa us hus
 obtain ⟨u0, u1, u2, rfl⟩ := z9x hus
 refine Xn (tt := ve) (nt := 8) (body := Ww) (B := 2) [3] (xl := []) (xr := []) (caps := [.sptr (.agg [I x0.State, I x0.Input, I x0.Next])]) (es := [zq (eI .i64) eB x_.states_, zq F0_ eB x_.edges_, zq zG eB x_.pairs_]) (es' := [zq (eI .i64) eB x_.states_, zq F0_ eB x_.edges_, zq zG eB x_.pairs_]) (us := [u0, u1, u2]) (r := B r0) Tryd.func47 rfl (by kernel_rfl) rfl rfl (by decide) (by show (2 : Nat) ≤ 8; decide) rfl rfl (.inr ⟨_, rfl⟩) fun E hE => ?_
 try unfold qu at aa
 obtain ⟨val, h0, aa⟩ := zl aa
 replace h0 := zg h0
 obtain rfl := zg aa
 exact yF ((z2V z8I 7 (kA u2 (zq zG eB x_.pairs_))).or X0) hC .ret [(2, .own (.box (.agg [.opq (vu u0 (zq (eI .i64) eB x_.states_)), .opq (vu u1 (zq F0_ eB x_.edges_)), .opq (vu u2 (zq zG eB x_.pairs_))]))), (3, .d (B val))] [Hn (⟨rfl, rfl, Qj (fun _ => rfl) x_.pairs_⟩ : A.opq (vu u2 (zq zG eB x_.pairs_)) = A.opq (vu u2 (zq zG eB x_.pairs_)) ∧ (Wr [.i64, .i64, .i64]) (zG x0) = true ∧ ∀ p ∈ zq zG eB x_.pairs_, (Wr [.i64, .i64, .i64]) p.1 = true), Hx (.a (eB val)) ((zda (f := zG) (g := eB) (z0 := false) (z := .atom (.bool false)) rfl x0 x_.pairs_).trans (congrArg eB h0))] fun st0 h0 => hE _ st0 (.inr rfl) (Q3 h0 rfl rfl) (z3O (zb0 h0 rfl rfl))
theorem ZH (hC : zP Tryd.prog ctr) : ∀ (f : Int ⊕ (Int × Int) ⊕ z8) (x : zf) (r0 : Bool), X6 f x = some r0 → ∀ us : List Value, us.length = 3 → uA Tryd.prog (zD f) ([] ++ .agg (us.map .atom) :: []) (Yu us [zq (eI .i64) eB x.states_, zq F0_ eB x.edges_, zq zG eB x.pairs_]) (B r0) ([zq (eI .i64) eB x.states_, zq F0_ eB x.edges_, zq zG eB x.pairs_].map fun e => .opq (yg e)) := by
 intro f x r0 aa us hus
 rcases f with c | c | c
 ·exact WO hC c x r0 aa us hus
 ·exact WN hC c.1 c.2 x r0 aa us hus
 ·exact WK hC c x r0 aa us hus
def vI : Code := (Tryd.f55.body).getD .skip
def yk : yD := spF (α := List z8) (ρ := List z8) 55 (fun x => [(eSl 3 false zG) x]) (fun r => (eSl 3 true zG) r) (fun x => zR x) [] (Jf)
theorem vL (hC : zP Tryd.prog ctr) : yk.Ok Tryd.prog := by
 refine y6 ?_
 rintro s_ r0 aa
 try unfold zR at aa
 refine yO true [(2, none)] vI 9 Tryd.func55 fun E hE => ?_
 obtain ⟨g0, aa⟩ := gdE aa
 obtain rfl := zg aa
 exact yE X0 hC hE [Ha (lnM zG s_), Ha (lnM zG s_), Hn (slB g0), Hn (slC g0), Hn (za3 zG g0), Ha (zeB 3 zG s_ 0 ((s_.length : Nat) : Int).toNat)]
def vA : Code := (Tryd.f38.body).getD .skip
def ww : yD := spF (α := z7 × List (List Int) × Int) (ρ := List z8 × Int) 38 (fun x => [xH x.1, F9_ x.2.1, (eI .i64) x.2.2]) (fun r => .tup [(eSl 3 true zG) r.1, (eI .i64) r.2]) (fun x => yG x.1 x.2.1 x.2.2) [] (zct)
abbrev Ym (out : List z8) : List (Nat × T) := [(10, .own (eOs 3 false zG out))]
abbrev Yl (ah : zf) (ar : List za) (av : Int) (bc : List z8) : List (Nat × T) := [(9, .own (.box ((zS (eMp (eI .i64) eB) (eMp F0_ eB) (eMp zG eB)) ah))), (10, .own (eOs 3 false zG bc)), (24, .own (eOs 5 false (zb F4_ zG zD) ar)), (25, .d (I ((ar.length : Nat) : Int))), (26, .d (I av))]
abbrev Yk (ah : zf) (ar : List za) (am : List z8) (av : Int) : List (Nat × T) := [(9, .own (.box ((zS (eMp (eI .i64) eB) (eMp F0_ eB) (eMp zG eB)) ah))), (10, .own (eOs 3 false zG am)), (24, .own (eOs 5 false (zb F4_ zG zD) ar)), (25, .d (I ((ar.length : Nat) : Int))), (26, .d (I av))]
theorem XI (hC : zP Tryd.prog ctr) (h03 : ctr.Has wi) (h02 : ctr.Has xI) (h04 : ctr.Has wT) (h0o : ctr.Has yk) : ww.Ok Tryd.prog := by
 refine y6 ?_
 rintro ⟨m_, l_, goal⟩ r0 aa
 try unfold yG at aa
 refine yO false [(6, none), (7, none)] vA 43 Tryd.func38 fun E hE => ?_
 obtain ⟨r_, h0, aa⟩ := zl aa
 let Z0 : List HO := [Hc h03 (x := (m_, l_)) h0 (loC xH m_ <| loC F9_ l_ <| loN)]
 rcases y5 aa with ⟨c0, aa⟩ | ⟨c0, aa⟩
 ·obtain rfl := zg aa
  exact yEx X0 hC hE (Z0 ++ [Hq c0, Hm (shM zG zG [])]) (.tup [eSl 3 true zG [], I r_]) (show LeV (.tup [eSl 3 true zG [], I r_]) (.tup [eSl 3 true zG ([] : List z8), I r_]) from inferInstance)
 ·obtain ⟨ah, h1, aa⟩ := zl aa
  refine yJ X0 hC vA [1,1,1,1] [] [10] (fun z : List z8 => vw z = some r0) (fun z => Ym z) [(2, .d (I goal)), (3, .own (.box (xH m_))), (9, .own (.box ((zS (eMp (eI .i64) eB) (eMp F0_ eB) (eMp zG eB)) ah))), (10, .own (eOs 3 true zG []))] (Z0 ++ [Hq c0, Hc h02 (x := (m_, l_)) h1 (loC xH m_ <| loC F9_ l_ <| loN), Hh (.cut 1)]) ?_ fun J1 a7 => ?_
  ·rintro out aa
   unfold vw at aa
   obtain ⟨ak, h2, aa⟩ := zl aa
   obtain rfl := zg aa
   exact yE X0 hC hE [Hg (Kd h0o), Hm (shM zG zG out), Hs (Ke h0o (x := out) h2 (loC (eSl 3 false zG) out <| loN)), Hm (shM zG zG out)]
  ·obtain ⟨ar, h3, aa⟩ := zl aa
   obtain ⟨t2, ht2, aa⟩ := zl aa
   refine yLx X0 hC vA [1,1,1,1,2,1,0] [J1] (fun s => xK ah ar s.1 s.2) (fun x => Yk ah ar x.1 x.2) (([] : List z8), 0) ht2 [(9, .own (.box ((zS (eMp (eI .i64) eB) (eMp F0_ eB) (eMp zG eB)) ah))), (10, .own (eOs 3 true zG [])), (24, .own (eOs 5 false (zb F4_ zG zD) ar)), (25, .d (I ((ar.length : Nat) : Int))), (26, .d (I 0))] inferInstance [Hc h04 (x := (m_, goal)) h3 (loC xH m_ <| loC (eI .i64) goal <| loN), Ha (lnM (zb F4_ zG zD) ar)] ?_
   rintro ⟨am, av⟩ m2 bm ae hl1 J2 a8
   try unfold xK at ae
   rcases y5 ae with ⟨c1, ae⟩ | ⟨c1, ae⟩
   ·refine yJ X0 hC vA [1,1,1,1,2,1,0,0,1,1] [J1, J2] [9,10,24,25,26] (fun z : List z8 => xL av z = some bm) (fun z => Yl ah ar av z) [(9, .own (.box ((zS (eMp (eI .i64) eB) (eMp F0_ eB) (eMp zG eB)) ah))), (10, .own (eOs 3 false zG am)), (24, .own (eOs 5 false (zb F4_ zG zD) ar)), (25, .d (I ((ar.length : Nat) : Int))), (26, .d (I av))] [Hq c1, Hh (.cut 0)] ?_ fun J3 cj => ?_
    ·rintro bc ae
     unfold xL at ae
     obtain rfl := zg ae
     exact yB X0 hC a8 (bc, w64 (av + 1)) hl1 []
    ·obtain ⟨bv, h4, ae⟩ := zl ae
     obtain ⟨aw, h5, ae⟩ := zl ae
     let Z1 : List HO := [Hn (iL (zb F4_ zG zD) h4), Hs (iM (zb F4_ zG zD) h4), Hn (⟨rfl, leP (show WG [] [] from inferInstance), leP (show WG [] [] from inferInstance), rfl, rfl⟩ : ([zD bv.has_] : List A) = [zD bv.has_] ∧ LeP [] [] ∧ LeP [] [] ∧ T.als 9 [.deref] 0 0 = T.als 9 [.deref] 0 0 ∧ (some (.agg [.opq (yg (zq (eI .i64) eB ah.states_)), .opq (yg (zq F0_ eB ah.edges_)), .opq (yg (zq zG eB ah.pairs_))]) : Option A) = some (.agg [.opq (yg (zq (eI .i64) eB ah.states_)), .opq (yg (zq F0_ eB ah.edges_)), .opq (yg (zq zG eB ah.pairs_))]))]
     rcases y5 ae with ⟨c2, ae⟩ | ⟨c2, ae⟩
     ·obtain ⟨g0, ae⟩ := gdE ae
      exact yB ((ZD (P := Tryd.prog) ve 9 0 [.deref] (fa := zD bv.has_) (r := B aw) (xl := []) (xr := []) (qs := [(yg (zq (eI .i64) eB ah.states_)), (yg (zq F0_ eB ah.edges_)), (yg (zq zG eB ah.pairs_))]) (qs' := [(yg (zq (eI .i64) eB ah.states_)), (yg (zq F0_ eB ah.edges_)), (yg (zq zG eB ah.pairs_))]) (es := [(zq (eI .i64) eB ah.states_), (zq F0_ eB ah.edges_), (zq zG eB ah.pairs_)]) (es' := [(zq (eI .i64) eB ah.states_), (zq F0_ eB ah.edges_), (zq zG eB ah.pairs_)]) (.inr rfl) (z2A (by kernel_rfl)) (.cons (wx (zq (eI .i64) eB ah.states_)) (.cons (wx (zq F0_ eB ah.edges_)) (.cons (wx (zq zG eB ah.pairs_)) (.nil)))) (fun us hu => ZH hC _ _ _ h5 us hu) (some 33)).or X0) hC cj (am ++ ([bv.pair_] : List z8)) ae (Z1 ++ [Hq c2, Hq (dM zG ([bv.pair_] : List z8)), Hn (dM zG ([bv.pair_] : List z8)), Hn (aL zG zG g0), Hl (aM zG am ([bv.pair_] : List z8))])
     ·exact yB ((ZD (P := Tryd.prog) ve 9 0 [.deref] (fa := zD bv.has_) (r := B aw) (xl := []) (xr := []) (qs := [(yg (zq (eI .i64) eB ah.states_)), (yg (zq F0_ eB ah.edges_)), (yg (zq zG eB ah.pairs_))]) (qs' := [(yg (zq (eI .i64) eB ah.states_)), (yg (zq F0_ eB ah.edges_)), (yg (zq zG eB ah.pairs_))]) (es := [(zq (eI .i64) eB ah.states_), (zq F0_ eB ah.edges_), (zq zG eB ah.pairs_)]) (es' := [(zq (eI .i64) eB ah.states_), (zq F0_ eB ah.edges_), (zq zG eB ah.pairs_)]) (.inr rfl) (z2A (by kernel_rfl)) (.cons (wx (zq (eI .i64) eB ah.states_)) (.cons (wx (zq F0_ eB ah.edges_)) (.cons (wx (zq zG eB ah.pairs_)) (.nil)))) (fun us hu => ZH hC _ _ _ h5 us hu) (some 33)).or X0) hC cj am ae (Z1 ++ [Hq c2])
   ·obtain rfl := zg ae
    obtain rfl := hl1
    exact yB X0 hC a7 am aa [Hq c1]
def qa : Code := (Tryd.f16.body).getD .skip
def uY : yD := spF (α := z7 × List (List Int)) (ρ := List Int × Int) 16 (fun x => [xH x.1, F9_ x.2]) (fun r => .tup [F1_ r.1, (eI .i64) r.2]) (fun x => ws x.1 x.2) [] (V5)
abbrev YA (r_ : List z8 × Int) (out : List Int) : List (Nat × T) := [(7, .d (I r_.2)), (8, .own (z1a 1 ((r_.1.length : Nat) : Int).toNat (eI .i64) out))]
abbrev Yz (r_ : List z8 × Int) (am : List Int) (dt : Int) : List (Nat × T) := [(7, .d (I r_.2)), (8, .own (z1a 1 ((r_.1.length : Nat) : Int).toNat (eI .i64) am)), (20, .d (eSl 3 true zG r_.1)), (21, .d (I ((r_.1.length : Nat) : Int))), (22, .d (I dt))]
theorem Wg (hC : zP Tryd.prog ctr) (h07 : ctr.Has ww) : uY.Ok Tryd.prog := by
 refine y6 ?_
 rintro ⟨m_, l_⟩ r0 aa
 try unfold ws at aa
 refine yO false [(4, none), (5, none)] qa 34 Tryd.func16 fun E hE => ?_
 obtain ⟨r_, h0, aa⟩ := zl aa
 obtain ⟨g0, aa⟩ := gdE aa
 refine yJ ((xCm zC 19 1).or X0) hC qa [1,1,1] [] [7,8] (fun z : List Int => wK r_ z = some r0) (fun z => YA r_ z) [(6, .d (eSl 3 true zG r_.1)), (7, .d (I r_.2)), (8, .own (z1a 1 ((r_.1.length : Nat) : Int).toNat (eI .i64) ([] : List Int)))] [Hc h07 (x := (m_, l_, 0)) h0 (loC xH m_ <| loC F9_ l_ <| loC (eI .i64) 0 <| loN), Ha (lnM zG r_.1), Hn (zdh g0), Hh (.cut 0)] ?_ fun J1 a7 => ?_
 ·rintro out aa
  unfold wK at aa
  obtain ⟨g1, aa⟩ := gdE aa
  obtain rfl := zg aa
  exact yE ((xCe Tryd.prog 4 1 (((r_.1.length : Nat) : Int).toNat) (out.map (eI .i64))).or X0) hC hE [Hn (⟨rfl, zdj (eI .i64) g1⟩ : z1a 1 (((r_.1.length : Nat) : Int).toNat) (eI .i64) out = A.opq (Ki 1 (((r_.1.length : Nat) : Int).toNat) (out.map (eI .i64))).q ∧ (out.map (eI .i64)).length = ((r_.1.length : Nat) : Int).toNat), Hm (shM (eI .i64) (eI .i64) out)]
 ·obtain ⟨t2, ht2, aa⟩ := zl aa
  refine yL X0 hC qa [1,1,1,2,1,0] [J1] (fun s => xg r_ s.1 s.2) (fun x => Yz r_ x.1 x.2) (([] : List Int), 0) ht2  [Ha (lnM zG r_.1)] ?_
  rintro ⟨am, dt⟩ m2 bm ae hl1 J2 a8
  try unfold xg at ae
  rcases y5 ae with ⟨c0, ae⟩ | ⟨c0, ae⟩
  ·obtain ⟨u_, h1, ae⟩ := zl ae
   obtain ⟨g2, ae⟩ := gdE ae
   obtain rfl := zg ae
   exact yB ((xCa zC 30 1 (((r_.1.length : Nat) : Int).toNat) (am.map (eI .i64)) ((am ++ ([u_.State] : List Int)).map (eI .i64))).or X0) hC a8 ((am ++ ([u_.State] : List Int)), w64 (dt + 1)) hl1 [Hq c0, Hi zG h1, Hn (⟨rfl, dM (eI .i64) ([u_.State] : List Int), rfl⟩ : 1 = 1 ∧ A.areD (([u_.State] : List Int).map (eI .i64)) = true ∧ true = true), Hn (⟨rfl, zdi (eI .i64) (eI .i64) g2⟩ : z1a 1 (((r_.1.length : Nat) : Int).toNat) (eI .i64) am = A.opq (Ki 1 (((r_.1.length : Nat) : Int).toNat) (am.map (eI .i64))).q ∧ (am.map (eI .i64)).length + (([u_.State] : List Int).map (eI .i64)).length ≤ ((r_.1.length : Nat) : Int).toNat), Hn (aM (eI .i64) am ([u_.State] : List Int))]
  ·obtain rfl := zg ae
   obtain rfl := hl1
   exact yB X0 hC a7 am aa [Hq c0]
def qB : Code := (Tryd.f17.body).getD .skip
def um : yD := spF (α := z7 × List (List Int)) (ρ := List (xv Int) × Int) 17 (fun x => [xH x.1, F9_ x.2]) (fun r => .tup [(eSl 2 true F0_) r.1, (eI .i64) r.2]) (fun x => wh x.1 x.2) [] (V5)
abbrev Xd (r_ : List z8 × Int) (out : List (xv Int)) : List (Nat × T) := [(7, .d (I r_.2)), (8, .own (z1a 2 ((r_.1.length : Nat) : Int).toNat F0_ out))]
abbrev Xc (r_ : List z8 × Int) (am : List (xv Int)) (dt : Int) : List (Nat × T) := [(7, .d (I r_.2)), (8, .own (z1a 2 ((r_.1.length : Nat) : Int).toNat F0_ am)), (20, .d (eSl 3 true zG r_.1)), (21, .d (I ((r_.1.length : Nat) : Int))), (22, .d (I dt))]
theorem WQ (hC : zP Tryd.prog ctr) (h07 : ctr.Has ww) : um.Ok Tryd.prog := by
 refine y6 ?_
 rintro ⟨m_, l_⟩ r0 aa
 try unfold wh at aa
 refine yO false [(4, none), (5, none)] qB 37 Tryd.func17 fun E hE => ?_
 obtain ⟨r_, h0, aa⟩ := zl aa
 obtain ⟨g0, aa⟩ := gdE aa
 refine yJ ((xCm zC 19 2).or X0) hC qB [1,1,1] [] [7,8] (fun z : List (xv Int) => vd r_ z = some r0) (fun z => Xd r_ z) [(6, .d (eSl 3 true zG r_.1)), (7, .d (I r_.2)), (8, .own (z1a 2 ((r_.1.length : Nat) : Int).toNat F0_ ([] : List (xv Int))))] [Hc h07 (x := (m_, l_, 1)) h0 (loC xH m_ <| loC F9_ l_ <| loC (eI .i64) 1 <| loN), Ha (lnM zG r_.1), Hn (zdh g0), Hh (.cut 0)] ?_ fun J1 a7 => ?_
 ·rintro out aa
  unfold vd at aa
  obtain ⟨g1, aa⟩ := gdE aa
  obtain rfl := zg aa
  exact yE ((xCe Tryd.prog 4 2 (((r_.1.length : Nat) : Int).toNat) (out.map F0_)).or X0) hC hE [Hn (⟨rfl, zdj F0_ g1⟩ : z1a 2 (((r_.1.length : Nat) : Int).toNat) F0_ out = A.opq (Ki 2 (((r_.1.length : Nat) : Int).toNat) (out.map F0_)).q ∧ (out.map F0_).length = ((r_.1.length : Nat) : Int).toNat), Hm (shM F0_ F0_ out)]
 ·obtain ⟨t2, ht2, aa⟩ := zl aa
  refine yL X0 hC qB [1,1,1,2,1,0] [J1] (fun s => xF r_ s.1 s.2) (fun x => Xc r_ x.1 x.2) (([] : List (xv Int)), 0) ht2  [Ha (lnM zG r_.1)] ?_
  rintro ⟨am, dt⟩ m2 bm ae hl1 J2 a8
  try unfold xF at ae
  rcases y5 ae with ⟨c0, ae⟩ | ⟨c0, ae⟩
  ·obtain ⟨u_, h1, ae⟩ := zl ae
   obtain ⟨g2, ae⟩ := gdE ae
   obtain rfl := zg ae
   exact yB ((xCa zC 33 2 (((r_.1.length : Nat) : Int).toNat) (am.map F0_) ((am ++ ([(xv.mk u_.State u_.Input)] : List (xv Int))).map F0_)).or X0) hC a8 ((am ++ ([(xv.mk u_.State u_.Input)] : List (xv Int))), w64 (dt + 1)) hl1 [Hq c0, Hi zG h1, Hn (⟨rfl, dM F0_ ([(xv.mk u_.State u_.Input)] : List (xv Int)), rfl⟩ : 2 = 2 ∧ A.areD (([(xv.mk u_.State u_.Input)] : List (xv Int)).map F0_) = true ∧ true = true), Hn (⟨rfl, zdi F0_ F0_ g2⟩ : z1a 2 (((r_.1.length : Nat) : Int).toNat) F0_ am = A.opq (Ki 2 (((r_.1.length : Nat) : Int).toNat) (am.map F0_)).q ∧ (am.map F0_).length + (([(xv.mk u_.State u_.Input)] : List (xv Int)).map F0_).length ≤ ((r_.1.length : Nat) : Int).toNat), Hn (aM F0_ am ([(xv.mk u_.State u_.Input)] : List (xv Int)))]
  ·obtain rfl := zg ae
   obtain rfl := hl1
   exact yB X0 hC a7 am aa [Hq c0]
def Wz : Code := (Tryd.f18.body).getD .skip
def qn : yD := spF (α := z7 × List (List Int)) (ρ := List z8 × Int) 18 (fun x => [xH x.1, F9_ x.2]) (fun r => .tup [(eSl 3 true zG) r.1, (eI .i64) r.2]) (fun x => wL x.1 x.2) [] (V5)
theorem WP (hC : zP Tryd.prog ctr) (h07 : ctr.Has ww) : qn.Ok Tryd.prog := by
 refine y6 ?_
 rintro ⟨m_, l_⟩ r0 aa
 try unfold wL at aa
 refine yO false [(4, none), (5, none)] Wz 11 Tryd.func18 fun E hE => ?_
 obtain ⟨r_, h0, aa⟩ := zl aa
 obtain rfl := zg aa
 exact yE X0 hC hE [Hc h07 (x := (m_, l_, 2)) h0 (loC xH m_ <| loC F9_ l_ <| loC (eI .i64) 2 <| loN)]
def ZQ : Code := (Tryd.f66.body).getD .skip
def vB : yD := spF (α := List (List Int)) (ρ := List (List Int)) 66 (fun x => [F9_ x]) (fun r => z9q r) (fun x => wZ x) [] (Jf)
theorem ZV (hC : zP Tryd.prog ctr) : vB.Ok Tryd.prog := by
 refine y6 ?_
 rintro s_ r0 aa
 try unfold wZ at aa
 refine yO true [(2, none)] ZQ 8 Tryd.func66 fun E hE => ?_
 refine z1g rfl 0 (sz := 1) (t := false) (es := s_.map F4_) (by kernel_rfl) fun ax hv0 hn => ?_
 rcases hn with ⟨hn0, he0⟩ | hn0
 ·obtain ⟨_, aa⟩ := gdE aa
  rw [show s_ = [] from List.map_eq_nil_iff.1 he0] at aa
  obtain rfl := zg aa
  exact yEx ((z9r zC 4 31 (by kernel_rfl) hn0).or ((xMv Tryd.prog 3 0 ax hv0).or X0)) hC hE [Hn (rfl : some ax = some ax), Hn (⟨rfl, rfl⟩ : T.d (.atom ax) = T.d (.atom ax) ∧ T.d (.atom (.slice none 0 0)) = T.d (.atom (.slice none 0 0))), qT] (eOs 1 true F4_ []) (show LeV (eOs 1 true F4_ []) (eOs 1 false F4_ ([] : List (List Int))) from inferInstance)
 ·obtain ⟨g0, aa⟩ := gdE aa
  obtain rfl := zg aa
  exact yE ((z9r zC 4 31 (by kernel_rfl) hn0).or ((xMv Tryd.prog 3 0 ax hv0).or X0)) hC hE [Hn (rfl : some ax = some ax), Hn (⟨rfl, rfl⟩ : T.d (.atom ax) = T.d (.atom ax) ∧ T.d (.atom (.slice none 0 0)) = T.d (.atom (.slice none 0 0))), qF, Hn (dM F4_ s_), Hn (aL F4_ F4_ g0), Hl (aM0 F4_ s_)]
def Va : Code := (Tryd.f71.body).getD .skip
def qY : yD := spF (α := List Int × List Int) (ρ := Bool) 71 (fun x => [F4_ x.1, F4_ x.2]) (fun r => eB r) (fun x => ua x.1 x.2) [] (V5)
theorem VJ (hC : zP Tryd.prog ctr) (h06 : ctr.Has u3) : qY.Ok Tryd.prog := by
 refine y6 ?_
 rintro ⟨a_, b_⟩ r0 aa
 try unfold ua at aa
 refine yO true [(4, none)] Va 9 Tryd.func71 fun E hE => ?_
 obtain ⟨r_, h0, aa⟩ := zl aa
 obtain rfl := zg aa
 exact yE X0 hC hE [Hc h06 (x := (a_, b_)) h0 (loC F4_ a_ <| loC F4_ b_ <| loN)]
def zU : Code := (Tryd.f70.body).getD .skip
def w9 : yD := spF (α := List (List Int) × Unit) (ρ := List (List Int)) 70 (fun x => [z9q x.1, (z9z 71) x.2]) (fun r => z9q r) (fun x => yC x.1 x.2) [true, false] (by
 rintro ⟨a0, a1⟩ ⟨b0, b1⟩ h
 have e0 := jS.inj (f := z9q) _ _ (List.cons.inj h).1
 replace h := (List.cons.inj h).2
 have e1 := jS.inj (f := (z9z 71)) _ _ (List.cons.inj h).1
 subst e0 e1
 rfl)
abbrev qJ (s_ : List (List Int)) : List (Nat × T) := [(0, .own (eOs 1 false F4_ s_))]
abbrev qI (s_ : List (List Int)) (k_ : Int) : List (Nat × T) := [(0, .own (eOs 1 false F4_ s_)), (1, .d (.fn 71 [])), (5, .d (I k_))]
abbrev qH (dc : List (List Int)) (cd : Int) : List (Nat × T) := [(0, .own (eOs 1 false F4_ dc)), (5, .d (I cd))]
abbrev qG (ax : Value) (k_ : Int) (k2 : Int) (ge : List (List Int)) (gf : Int) : List (Nat × T) := [(0, .own (eOs 1 false F4_ ge)), (1, .d (.fn 71 [])), (5, .d (I gf)), (6, .d (.atom (Zr 1 ax k_))), (7, .d (I k2))]
abbrev qD (ax : Value) (k_ : Int) (cu : List (List Int)) (dv : Int) (k2 : Int) : List (Nat × T) := [(0, .own (eOs 1 false F4_ cu)), (1, .d (.fn 71 [])), (5, .d (I dv)), (6, .d (.atom (Zr 1 ax k_))), (7, .d (I k2))]
abbrev qE (s_ : List (List Int)) (k_ : Int) : List (Nat × T) := [(0, .own (eOs 1 false F4_ s_)), (1, .d (.fn 71 [])), (5, .d (I k_))]
def zu : XH Tryd.prog := ((zff zC 64).or X0)
theorem jD (hC : zP Tryd.prog ctr) (h0p : ctr.Has qY) : w9.Ok Tryd.prog := by
 refine y6 ?_
 rintro ⟨s_, eq⟩ r0 aa
 try unfold yC at aa
 refine yO true [(4, none)] zU 66 Tryd.func70 fun E hE => ?_
 refine z4N (y := eOs 1 false F4_ s_) rfl 0 (by kernel_rfl) (by kernel_rfl) fun ax hv0 => ?_
 let Z0 : List HO := [Ha (lnM F4_ s_)]
 rcases y5 aa with ⟨c0, aa⟩ | ⟨c0, aa⟩
 ·obtain rfl := zg aa
  exact yE zu hC hE (Z0 ++ [Hq c0])
 ·refine yJ zu hC zU [1,1] [] [0] (fun z : Unit => wa s_ = some r0) (fun z => qJ s_) [(0, .own (eOs 1 false F4_ s_)), (1, .d (.fn 71 []))] (Z0 ++ [Hq c0, Hh (.cut 0)]) ?_ fun J1 a7 => ?_
  ·rintro ⟨⟩ aa
   unfold wa at aa
   obtain rfl := zg aa
   exact yE zu hC hE []
  ·obtain ⟨t2, ht2, aa⟩ := zl aa
   refine yL zu hC zU [1,1,2,1,0] [J1] (fun s => yl s_ s) (fun x => qE s_ x) 1 ht2  [] ?_
   rintro k_ m2 bm ae hl1 J2 a8
   try unfold yl at ae
   let Z1 : List HO := [Ha (lnM F4_ s_)]
   rcases y5 ae with ⟨c1, ae⟩ | ⟨c1, ae⟩
   ·refine yJ zu hC zU [1,1,2,1,0,0,1] [J1, J2] [0,1,5] (fun z : Unit => yS k_ = some bm) (fun z => qI s_ k_) [(0, .own (eOs 1 false F4_ s_)), (1, .d (.fn 71 [])), (5, .d (I k_))] (Z1 ++ [Hq c1, Hh (.cut 0)]) ?_ fun J3 cj => ?_
    ·rintro ⟨⟩ ae
     unfold yS at ae
     obtain rfl := zg ae
     exact yB zu hC a8 (w64 (k_ + 1)) hl1 []
    ·obtain ⟨db, h0, ae⟩ := zl ae
     obtain ⟨fl, h1, ae⟩ := zl ae
     obtain ⟨r_, h2, ae⟩ := zl ae
     let Z2 : List HO := [Hn (iL F4_ h0), Hs (iM F4_ h0), Hn (iL F4_ h1), Hs (iM F4_ h1), Hc h0p (x := (db, fl)) h2 (loC F4_ db <| loC F4_ fl <| loN)]
     rcases y5 ae with ⟨c2, ae⟩ | ⟨c2, ae⟩
     ·obtain ⟨g0, ae⟩ := gdE ae
      refine yJ ((xAs Tryd.prog 6 (Zr 1 ax k_)).or ((xVw zC 31 0 ax).or zu)) hC zU [1,1,2,1,0,0,1,2,0,1,0,1] [J1, J2, J3] [0,5] (fun z : List (List Int) × Int => y9 z.1 z.2 = some bm) (fun z => qH z.1 z.2) [(0, .own (eOs 1 false F4_ s_)), (1, .d (.fn 71 [])), (5, .d (I k_)), (6, .d (.atom (Zr 1 ax k_)))] (Z2 ++ [Hq c2, Hn (⟨.inl rfl, rfl⟩ : (T.als 0 [] 0 0 = T.als 0 [] 0 0 ∨ T.als 0 [] 0 0 = T.d (.atom ax)) ∧ some ax = some ax), Hn (⟨g0.1, cuB F4_ g0⟩ : (0 : Int) ≤ k_ ∧ k_.toNat ≤ (s_.map F4_).length), Hn (rfl : T.d (.atom (Zr 1 ax k_)) = T.d (.atom (Zr 1 ax k_))), Hh (.cut 1)]) ?_ fun J4 dz => ?_
      ·rintro ⟨dc, cd⟩ ae
       unfold y9 at ae
       obtain ⟨g1, ae⟩ := gdE ae
       obtain ⟨g2, ae⟩ := gdE ae
       obtain ⟨g3, ae⟩ := gdE ae
       obtain rfl := zg ae
       obtain rfl := hl1
       obtain rfl := zg aa
       exact yE ((xVc zC 61 1 0 ax cd).or ((xVw zC 61 0 ax).or zu)) hC hE [Hn (⟨.inl rfl, rfl⟩ : (T.als 0 [] 0 0 = T.als 0 [] 0 0 ∨ T.als 0 [] 0 0 = T.d (.atom ax)) ∧ some ax = some ax), Hn (⟨g1.1, cuB F4_ g1⟩ : (0 : Int) ≤ cd ∧ cd.toNat ≤ (dc.map F4_).length), Hn (⟨rfl, rfl⟩ : T.d (.atom (Zr 1 ax cd)) = T.d (.atom (Zr 1 ax cd)) ∧ some ax = some ax), Hn (⟨g2.1, cuB F4_ g2, dM F4_ dc⟩ : (0 : Int) ≤ cd ∧ cd.toNat ≤ (dc.map F4_).length ∧ A.areD (dc.map F4_) = true), Hx (.l ((dc.take cd.toNat ++ List.replicate (dc.length - cd.toNat) []).map F4_)) (vcM F4_ dc cd.toNat ([] : List Int)), Hn g3.1, Hn (cuB F4_ g3), Hl (cuM F4_ (dc.take cd.toNat ++ List.replicate (dc.length - cd.toNat) []) cd)]
      ·obtain ⟨t5, ht5, ae⟩ := zl ae
       refine yL zu hC zU [1,1,2,1,0,0,1,2,0,1,0,1,2,1,0] [J1, J2, J3, J4] (fun s => y7 k_ s.1 s.2.1 s.2.2) (fun x => qD ax k_ x.1 x.2.1 x.2.2) (s_, k_, 1) ht5  [] ?_
       rintro ⟨cu, dv, k2⟩ m5 ep ai hl2 J5 dp
       try unfold y7 at ai
       let Z3 : List HO := [Hn (⟨rfl, rfl⟩ : T.d (.atom (Zr 1 ax k_)) = T.d (.atom (Zr 1 ax k_)) ∧ some ax = some ax), Hx (.a (.atom (.int .i64 ((cu.length - k_.toNat : Nat) : Int)))) (vlM F4_ cu k_.toNat)]
       rcases y5 ai with ⟨c3, ai⟩ | ⟨c3, ai⟩
       ·refine yJ ((xVl zC 34 31 1 0 ax k_ (by kernel_rfl)).or zu) hC zU [1,1,2,1,0,0,1,2,0,1,0,1,2,1,0,0,1] [J1, J2, J3, J4, J5] [0,1,5,6,7] (fun z : List (List Int) × Int => y8 k2 z.1 z.2 = some ep) (fun z => qG ax k_ k2 z.1 z.2) [(0, .own (eOs 1 false F4_ cu)), (1, .d (.fn 71 [])), (5, .d (I dv)), (6, .d (.atom (Zr 1 ax k_))), (7, .d (I k2))] (Z3 ++ [Hq c3, Hh (.cut 0)]) ?_ fun J6 fe => ?_
        ·rintro ⟨ge, gf⟩ ai
         unfold y8 at ai
         obtain rfl := zg ai
         exact yB zu hC dp (ge, gf, w64 (k2 + 1)) hl2 []
        ·obtain ⟨g4, ai⟩ := gdE ai
         obtain ⟨fh, h3, ai⟩ := zl ai
         obtain ⟨g5, ai⟩ := gdE ai
         obtain ⟨fj, h4, ai⟩ := zl ai
         obtain ⟨ah, h5, ai⟩ := zl ai
         let Z4 : List HO := [Hn (⟨rfl, rfl⟩ : T.d (.atom (Zr 1 ax k_)) = T.d (.atom (Zr 1 ax k_)) ∧ some ax = some ax), Hn (⟨g4.1, g4.2, (iL F4_ h3).2⟩ : (0 : Int) ≤ k_ ∧ (0 : Int) ≤ k2 ∧ (k_ + k2).toNat < (cu.map F4_).length), Hs (iM F4_ h3), Hn (⟨rfl, rfl⟩ : T.d (.atom (Zr 1 ax k_)) = T.d (.atom (Zr 1 ax k_)) ∧ some ax = some ax), Hn (⟨g5.1, g5.2, (iL F4_ h4).2⟩ : (0 : Int) ≤ k_ ∧ (0 : Int) ≤ w64 (k2 - 1) ∧ (k_ + (w64 (k2 - 1))).toNat < (cu.map F4_).length), Hs (iM F4_ h4), Hc h0p (x := (fh, fj)) h5 (loC F4_ fh <| loC F4_ fj <| loN)]
         rcases y5 ai with ⟨c4, ai⟩ | ⟨c4, ai⟩
         ·obtain ⟨g6, ai⟩ := gdE ai
          obtain ⟨fk, h6, ai⟩ := zl ai
          obtain ⟨gp, h7, ai⟩ := zl ai
          exact yB ((xVi zC 54 1 0 ax k_).or ((xVi zC 46 1 0 ax k_).or ((xVi zC 41 1 0 ax k_).or zu))) hC fe ((cu.set dv.toNat fk), w64 (dv + 1)) ai (Z4 ++ [Hq c4, Hn (⟨rfl, rfl⟩ : T.d (.atom (Zr 1 ax k_)) = T.d (.atom (Zr 1 ax k_)) ∧ some ax = some ax), Hn (⟨g6.1, g6.2, (iL F4_ h6).2⟩ : (0 : Int) ≤ k_ ∧ (0 : Int) ≤ k2 ∧ (k_ + k2).toNat < (cu.map F4_).length), Hs (iM F4_ h6), Hn (iL F4_ h7), Hs (iM F4_ h7), Hs (iM F4_ h7), Hl (sM F4_ cu dv fk)])
         ·exact yB ((xVi zC 46 1 0 ax k_).or ((xVi zC 41 1 0 ax k_).or zu)) hC fe (cu, dv) ai (Z4 ++ [Hq c4])
       ·obtain rfl := zg ai
        obtain rfl := hl2
        exact yB ((xVl zC 34 31 1 0 ax k_ (by kernel_rfl)).or zu) hC dz (cu, dv) ae (Z3 ++ [Hq c3])
     ·exact yB zu hC cj () ae (Z2 ++ [Hq c2])
   ·obtain rfl := zg ae
    obtain rfl := hl1
    exact yB zu hC a7 () aa (Z1 ++ [Hq c1])
def kX : Code := (Tryd.f69.body).getD .skip
def yI : yD := spR (α := List (List Int)) (ρ := List (List Int)) 69 (fun x => [z9q x]) (fun r => (eOs 1 true F4_) r) (fun x => xx x) [true] (Jf)
theorem kU : ∀ x r, (fun x => xx x) x = some r → (Jl.add yI).run 69 ((Jl.add yI).norm 69 ((fun x => [z9q x]) x)) = some ((fun r => (eOs 1 true F4_) r) r) := fun x r h => zfJ h rfl
theorem kV : (Jl.add yI).lend 69 = none ∧ (Jl.add yI).gives 69 = [true] := zd8
theorem vg (hC : zP Tryd.prog ctr) : yI.Ok Tryd.prog := by
 refine za2 ?_
 rintro s_ r0 aa
 try unfold xx at aa
 refine yO true [(2, none)] kX 9 Tryd.func69 fun E hE => ?_
 obtain rfl := zg aa
 exact yE ((xCl zC 8).or X0) hC hE [Ha (lnM F4_ s_), Ha (lnM F4_ s_), Hn (Int.natCast_nonneg _ : (0 : Int) ≤ ((s_.length : Nat) : Int)), Hn (Int.natCast_nonneg _ : (0 : Int) ≤ ((s_.length : Nat) : Int)), Hn (clB F4_ s_), Ha (clE 1 F4_ s_)]
def wO : Code := (Tryd.f51.body).getD .skip
def kn : yD := spF (α := List (List Int)) (ρ := List (List Int) × Int) 51 (fun x => [F9_ x]) (fun r => .tup [F7_ r.1, (eI .i64) r.2]) (fun x => jo x) [] (Jf)
abbrev WD (out : List (List Int × Bool)) : List (Nat × T) := [(4, .own (eOs 1 true (eFl 1 (eI .i64)) out))]
abbrev WC (co : Value) (ak : List (List Int)) (bc : List (List Int × Bool)) (dw : Int) : List (Nat × T) := [(4, .own (eOs 1 true (eFl 1 (eI .i64)) bc)), (22, .d (.atom (Zr 1 co (0 : Int)))), (23, .d (I ((ak.length - (0 : Int).toNat : Nat) : Int))), (24, .d (I dw))]
theorem QB (hC : zP Tryd.prog ctr) (h0L : ctr.Has vB) (h06 : ctr.Has u3) (h0M : ctr.Has w9) (h09 : ctr.Has jj) (h01 : ctr.Has yn) (h00 : ctr.Has yu) : kn.Ok Tryd.prog := by
 refine y6 ?_
 rintro l_ r0 aa
 try unfold jo at aa
 refine yO false [(2, none), (3, none)] wO 37 Tryd.func51 fun E hE => ?_
 obtain ⟨r_, h0, aa⟩ := zl aa
 refine yA X0 hC wO [1,1] [] [(4, .own (eOs 1 false F4_ r_))] [Hc h0L (x := l_) h0 (loC F9_ l_ <| loN), Hh (.cut 0)] ?_
 obtain ⟨sorted, h1, aa⟩ := zl aa
 refine z0y (by kernel_rfl) (x := (sub [1,1,0] wO)) (y := (sub [1,1,1] wO)) 4 (fun st1 => Own.canon [4] st1 = ofL [(4, .own (eOs 1 false F4_ sorted))]) (fun co => yF ((zcz (P := Tryd.prog) ve [4] (z3g zcK (f := F4_) (t := false) (v := co) (fun _ => rfl) (fun _ => rfl) (fun x y c h => z8Z hC h06 (x := (x, y)) h) h1) 10).or X0) hC .normal [(4, .own (eOs 1 false F4_ sorted))] [Hn (z8e (f := .fn 67 []) (xs := [.atom co, .fn 68 []]) (ls := [(co, eOs 1 false F4_ r_)]) (r := .tup []) (ys := [eOs 1 false F4_ sorted]) [.atom co, .fn 68 []] (show WG [.atom co, .fn 68 []] [.atom co, .fn 68 []] from inferInstance))] fun st0 h0 => ⟨rfl, h0⟩) fun st1 h1 => z4O h1 ?_
 obtain ⟨ah, h2, aa⟩ := zl aa
 obtain ⟨ak, h3, aa⟩ := zl aa
 let Z0 : List HO := [Hc h0M (x := (sorted, ())) h2 (loC z9q sorted <| loC (z9z 71) () <| loN), Hh (.g [true]), Hn kV, Hx (.a ((eOs 1 true F4_) ak)) (kU ah _ h3), Ha (lnM F4_ ak)]
 rcases y5 aa with ⟨c0, aa⟩ | ⟨c0, aa⟩
 ·obtain rfl := zg aa
  exact yEx ((z7B zC (vg hC) 13).or X0) hC hE (Z0 ++ (rpN 4 (Hq c0) [qT, Hm (shM F4_ F4_ [])])) (.tup [eSl 1 true F1_ [], I 3]) (show LeV (.tup [eSl 1 true F1_ [], I 3]) (.tup [eSl 1 true F1_ ([] : List (List Int)), I 3]) from inferInstance)
 ·obtain ⟨ar, h4, aa⟩ := zl aa
  let Z1 : List HO := (Z0 ++ [Hq c0, Hq c0, Hg (Kd h09), Hm (shM F4_ F4_ ak), Hs (Ke h09 (x := ak) h4 (loC F8_ ak <| loN)), Hq c0, Hq c0])
  rcases y5 aa with ⟨c1, aa⟩ | ⟨c1, aa⟩
  ·obtain rfl := zg aa
   exact yEx ((z7B zC (vg hC) 13).or X0) hC hE (Z1 ++ [Hq c1, Hm (shM F4_ F4_ [])]) (.tup [eSl 1 true F1_ [], I 3]) (show LeV (.tup [eSl 1 true F1_ [], I 3]) (.tup [eSl 1 true F1_ ([] : List (List Int)), I 3]) from inferInstance)
  ·refine yA ((z7B zC (vg hC) 13).or X0) hC wO [1,1,1,1,1] [] [(4, .own (eOs 1 true F4_ ak))] (Z1 ++ [Hq c1, Hh (.cut 0)]) ?_
   refine z4N (y := eOs 1 true F4_ ak) (by kernel_rfl) 4 (by kernel_rfl) (by kernel_rfl) fun co hv4 => ?_
   refine yJ X0 hC wO [1,1,1,1,1] [] [4] (fun z : List (List Int × Bool) => qm z = some r0) (fun z => WD z) [(4, .own (eOs 1 true F4_ ak))] [Hh (.cut 0)] ?_ fun J1 a7 => ?_
   ·rintro out aa
    unfold qm at aa
    obtain ⟨hfl0, aa⟩ := gdE aa
    obtain rfl := zg aa
    exact yEx X0 hC hE [Hm (shM (eFl 1 (eI .i64)) (eFl 1 (eI .i64)) out)] (.tup [eSl 1 true (eFl 1 (eI .i64)) out, I 0]) (haveI := flA (s := 1) (t := 1) (b := true) (f := (eI .i64)) hfl0; show LeV (.tup [eSl 1 true (eFl 1 (eI .i64)) out, I 0]) (.tup [eSl 1 true F1_ (out.map (·.1)), I 0]) from inferInstance)
   ·obtain ⟨t2, ht2, aa⟩ := zl aa
    refine yLx ((xVl zC 23 31 1 4 co (0 : Int) (by kernel_rfl)).or ((xMw Tryd.prog 22 4 1 co).or X0)) hC wO [1,1,1,1,1,2,1,0] [J1] (fun s => w7 ak s.1 s.2) (fun x => WC co ak x.1 x.2) ((ak.map fun q => (q, false)), 0) ht2 [(4, .own (eOs 1 true F4_ ak)), (22, .d (.atom (Zr 1 co (0 : Int)))), (23, .d (I ((ak.length - (0 : Int).toNat : Nat) : Int))), (24, .d (I 0))] inferInstance [Hn (rfl : some co = some co), Hn (⟨rfl, rfl⟩ : T.d (.atom (Zr 1 co (0 : Int))) = T.d (.atom (Zr 1 co (0 : Int))) ∧ some co = some co), Hx (.a (.atom (.int .i64 ((ak.length - (0 : Int).toNat : Nat) : Int)))) (vlM F4_ ak (0 : Int).toNat)] ?_
    rintro ⟨bc, dw⟩ m2 bm ae hl1 J2 a8
    try unfold w7 at ae
    rcases y5 ae with ⟨c2, ae⟩ | ⟨c2, ae⟩
    ·obtain ⟨g0, ae⟩ := gdE ae
     obtain ⟨dg, h5, ae⟩ := zl ae
     obtain ⟨aw, h6, ae⟩ := zl ae
     obtain ⟨bi, h7, ae⟩ := zl ae
     obtain ⟨fx, h8, ae⟩ := zl ae
     obtain rfl := zg ae
     exact yB ((xVi zC 27 1 4 co (0 : Int)).or X0) hC a8 ((bc.set dw.toNat (bi, true)), w64 (dw + 1)) hl1 [Hq c2, Hn (⟨rfl, rfl⟩ : T.d (.atom (Zr 1 co (0 : Int))) = T.d (.atom (Zr 1 co (0 : Int))) ∧ some co = some co), Hn (⟨g0.1, g0.2, (iL (eFl 1 (eI .i64)) h5).2⟩ : (0 : Int) ≤ 0 ∧ (0 : Int) ≤ dw ∧ (0 + dw).toNat < (bc.map (eFl 1 (eI .i64))).length), Hs (iM (eFl 1 (eI .i64)) h5), Hc h01 (x := dg.1) h6 (loC (eSl 1 dg.2 (eI .i64)) dg.1 <| loN), Hg (Kd h00), Hm (shM (eI .i64) (eI .i64) aw), Hs (Ke h00 (x := aw) h7 (loC F4_ aw <| loN)), Hm (shM (eI .i64) (eI .i64) aw), Hn (iL (eFl 1 (eI .i64)) h8), Hs (iM (eFl 1 (eI .i64)) h8), Hs (iM (eFl 1 (eI .i64)) h8), Hl (sM (eFl 1 (eI .i64)) bc dw (bi, true))]
    ·obtain rfl := zg ae
     obtain rfl := hl1
     exact yB X0 hC a7 bc aa [Hq c2]
def Kl : Code := (Tryd.f33.body).getD .skip
def Y1 : yD := spF (α := List (List Int) × Int) (ρ := List (List Int) × Int) 33 (fun x => [F9_ x.1, (eI .i64) x.2]) (fun r => .tup [F7_ r.1, (eI .i64) r.2]) (fun x => Xf x.1 x.2) [] (V5)
theorem KA (hC : zP Tryd.prog ctr) (h0g : ctr.Has jk) (h0N : ctr.Has kn) : Y1.Ok Tryd.prog := by
 refine y6 ?_
 rintro ⟨l_, inputs⟩ r0 aa
 try unfold Xf at aa
 refine yO false [(4, none), (5, none)] Kl 17 Tryd.func33 fun E hE => ?_
 obtain ⟨r_, h0, aa⟩ := zl aa
 let Z0 : List HO := [Hc h0g (x := (l_, inputs)) h0 (loC F9_ l_ <| loC (eI .i64) inputs <| loN)]
 rcases y5 aa with ⟨c0, aa⟩ | ⟨c0, aa⟩
 ·obtain rfl := zg aa
  exact yEx X0 hC hE (Z0 ++ [Hq c0, Hm (shM F4_ F4_ [])]) (.tup [eSl 1 true F1_ [], I r_]) (show LeV (.tup [eSl 1 true F1_ [], I r_]) (.tup [eSl 1 true F1_ ([] : List (List Int)), I r_]) from inferInstance)
 ·obtain ⟨ah, h1, aa⟩ := zl aa
  obtain rfl := zg aa
  exact yE X0 hC hE (Z0 ++ [Hq c0, Hc h0N (x := l_) h1 (loC F9_ l_ <| loN)])
def xY : Code := (Tryd.f12.body).getD .skip
def vN : yD := spF (α := z7 × List (List Int) × Int) (ρ := List (List Int) × Int) 12 (fun x => [xH x.1, F9_ x.2.1, (eI .i64) x.2.2]) (fun r => .tup [F7_ r.1, (eI .i64) r.2]) (fun x => yh x.1 x.2.1 x.2.2) [] (zct)
abbrev YL (m_ : z7) (am : List (List Int)) : List (Nat × T) := [(3, .own (.box (xH m_))), (10, .own (eOs 1 false F1_ am))]
abbrev YK (m_ : z7) (ar : List za) (du : Int) (bh : List (Int × Bool)) (bl : List ((xv Int) × Bool)) (a9 : List (z8 × Bool)) (cb : List (List Int)) : List (Nat × T) := [(3, .own (.box (xH m_))), (9, .own (.box (.agg [.opq (yg (zq (eI .i64) eB bh)), .opq (yg (zq F0_ eB bl)), .opq (yg (zq zG eB a9))]))), (10, .own (eOs 1 false F1_ cb)), (48, .own (eOs 5 false (zb F4_ zG zD) ar)), (49, .d (I ((ar.length : Nat) : Int))), (50, .d (I du))]
abbrev YJ (m_ : z7) (ar : List za) (aj : List (Int × Bool)) (al : List ((xv Int) × Bool)) (aq : List (z8 × Bool)) (bc : List (List Int)) (du : Int) : List (Nat × T) := [(3, .own (.box (xH m_))), (9, .own (.box (.agg [.opq (yg (zq (eI .i64) eB aj)), .opq (yg (zq F0_ eB al)), .opq (yg (zq zG eB aq))]))), (10, .own (eOs 1 false F1_ bc)), (48, .own (eOs 5 false (zb F4_ zG zD) ar)), (49, .d (I ((ar.length : Nat) : Int))), (50, .d (I du))]
abbrev YM (m_ : z7) (goal : Int) (ah : zf) (out : List (List Int)) : List (Nat × T) := [(2, .d (I goal)), (3, .own (.box (xH m_))), (9, .own (.box ((zS (eMp (eI .i64) eB) (eMp F0_ eB) (eMp zG eB)) ah))), (10, .own (eOs 1 false F1_ out))]
abbrev YI (m_ : z7) (l_ : List (List Int)) (goal : Int) (ah : zf) (cx : List (List Int)) (fy : Int) : List (Nat × T) := [(2, .d (I goal)), (3, .own (.box (xH m_))), (9, .own (.box ((zS (eMp (eI .i64) eB) (eMp F0_ eB) (eMp zG eB)) ah))), (10, .own (eOs 1 false F1_ cx)), (33, .d (eSl 1 false F4_ l_)), (34, .d (I ((l_.length : Nat) : Int))), (35, .d (I fy))]
theorem Wi (hC : zP Tryd.prog ctr) (h03 : ctr.Has wi) (h02 : ctr.Has xI) (h01 : ctr.Has yn) (h00 : ctr.Has yu) (h04 : ctr.Has wT) (h0q : ctr.Has Y1) : vN.Ok Tryd.prog := by
 refine y6 ?_
 rintro ⟨m_, l_, goal⟩ r0 aa
 try unfold yh at aa
 refine yO false [(6, none), (7, none)] xY 81 Tryd.func12 fun E hE => ?_
 obtain ⟨r_, h0, aa⟩ := zl aa
 let Z0 : List HO := [Hc h03 (x := (m_, l_)) h0 (loC xH m_ <| loC F9_ l_ <| loN)]
 rcases y5 aa with ⟨c0, aa⟩ | ⟨c0, aa⟩
 ·obtain rfl := zg aa
  exact yEx X0 hC hE (Z0 ++ [Hq c0, Hm (shM F4_ F4_ [])]) (.tup [eSl 1 true F1_ [], I r_]) (show LeV (.tup [eSl 1 true F1_ [], I r_]) (.tup [eSl 1 true F1_ ([] : List (List Int)), I r_]) from inferInstance)
 ·rcases y5 aa with ⟨c1, aa⟩ | ⟨c1, aa⟩
  ·obtain rfl := zg aa
   exact yEx X0 hC hE (Z0 ++ [Hq c0, Hq c1, Hq c1, Hq c1, qT, Hm (shM F4_ F4_ [])]) (.tup [eSl 1 true F1_ [], I 1]) (show LeV (.tup [eSl 1 true F1_ [], I 1]) (.tup [eSl 1 true F1_ ([] : List (List Int)), I 1]) from inferInstance)
  ·let Z1 : List HO := (Z0 ++ [Hq c0, Hq c1, Hq c1, Hq c1])
   rcases y5 aa with ⟨c2, aa⟩ | ⟨c2, aa⟩
   ·obtain rfl := zg aa
    exact yEx X0 hC hE (Z1 ++ [Hq c2, Hm (shM F4_ F4_ [])]) (.tup [eSl 1 true F1_ [], I 1]) (show LeV (.tup [eSl 1 true F1_ [], I 1]) (.tup [eSl 1 true F1_ ([] : List (List Int)), I 1]) from inferInstance)
   ·obtain ⟨ah, h1, aa⟩ := zl aa
    obtain ⟨g0, aa⟩ := gdE aa
    refine yJ X0 hC xY [1,1,1,1,1] [] [2,3,9,10] (fun z : List (List Int) => vY m_ goal ah z = some r0) (fun z => YM m_ goal ah z) [(1, .d (eSl 1 false F4_ l_)), (2, .d (I goal)), (3, .own (.box (xH m_))), (9, .own (.box ((zS (eMp (eI .i64) eB) (eMp F0_ eB) (eMp zG eB)) ah))), (10, .own (eOs 1 (decide ((0 : Int) = ((l_.length : Nat) : Int))) F4_ []))] (Z1 ++ [Hq c2, Hc h02 (x := (m_, l_)) h1 (loC xH m_ <| loC F9_ l_ <| loN), Ha (lnM F4_ l_), Hn (rL0 g0), Hx (.a (eOs 1 (decide ((0 : Int) = ((l_.length : Nat) : Int))) F4_ ([] : List (List Int)))) (rM0 1 F4_ ((l_.length : Nat) : Int) (eOs 1 true (eI .i64) [])), Hh (.cut 0)]) ?_ fun J1 a7 => ?_
    ·rintro out aa
     unfold vY at aa
     refine yJ X0 hC xY [1,1,1,1,1,1] [] [3,10] (fun z : List (List Int) => vX m_ z = some r0) (fun z => YL m_ z) [(2, .d (I goal)), (3, .own (.box (xH m_))), (9, .own (.box ((zS (eMp (eI .i64) eB) (eMp F0_ eB) (eMp zG eB)) ah))), (10, .own (eOs 1 false F1_ out))] [Hh (.cut 0)] ?_ fun J2 a8 => ?_
     ·rintro am aa
      unfold vX at aa
      let Z2 : List HO := [Ha (lnM F1_ am)]
      rcases y5 aa with ⟨c3, aa⟩ | ⟨c3, aa⟩
      ·obtain rfl := zg aa
       exact yEx X0 hC hE (Z2 ++ [Hq c3, Hm (shM F4_ F4_ [])]) (.tup [eSl 1 true F1_ [], I 3]) (show LeV (.tup [eSl 1 true F1_ [], I 3]) (.tup [eSl 1 true F1_ ([] : List (List Int)), I 3]) from inferInstance)
      ·obtain ⟨ak, h2, aa⟩ := zl aa
       obtain rfl := zg aa
       exact yE X0 hC hE (Z2 ++ [Hq c3, Hg (Kd h0q), Hm (shM F1_ F1_ am), Hs (Ke h0q (x := (am, m_.Inputs)) h2 (loC (eSl 1 false F1_) am <| loC (eI .i64) m_.Inputs <| loN)), Hm (shM F1_ F1_ am)])
     ·obtain ⟨ar, h3, aa⟩ := zl aa
      obtain ⟨t3, ht3, aa⟩ := zl aa
      refine yL X0 hC xY [1,1,1,1,1,1,2,1,0] [J2] (fun s => wM m_ ar s.1 s.2.1 s.2.2.1 s.2.2.2.1 s.2.2.2.2) (fun x => YJ m_ ar x.1 x.2.1 x.2.2.1 x.2.2.2.1 x.2.2.2.2) (ah.states_, ah.edges_, ah.pairs_, out, 0) ht3  [Hc h04 (x := (m_, goal)) h3 (loC xH m_ <| loC (eI .i64) goal <| loN), Ha (lnM (zb F4_ zG zD) ar)] ?_
      rintro ⟨aj, al, aq, bc, du⟩ m3 bm ae hl1 J3 cj
      try unfold wM at ae
      rcases y5 ae with ⟨c4, ae⟩ | ⟨c4, ae⟩
      ·refine yJ X0 hC xY [1,1,1,1,1,1,2,1,0,0,1,1] [J2, J3] [3,9,10,48,49,50] (fun z : (List (Int × Bool)) × (List ((xv Int) × Bool)) × (List (z8 × Bool)) × List (List Int) => xX du z.1 z.2.1 z.2.2.1 z.2.2.2 = some bm) (fun z => YK m_ ar du z.1 z.2.1 z.2.2.1 z.2.2.2) [(3, .own (.box (xH m_))), (9, .own (.box (.agg [.opq (yg (zq (eI .i64) eB aj)), .opq (yg (zq F0_ eB al)), .opq (yg (zq zG eB aq))]))), (10, .own (eOs 1 false F1_ bc)), (48, .own (eOs 5 false (zb F4_ zG zD) ar)), (49, .d (I ((ar.length : Nat) : Int))), (50, .d (I du))] [Hq c4, Hh (.cut 0)] ?_ fun J4 dz => ?_
       ·rintro ⟨bh, bl, a9, cb⟩ ae
        unfold xX at ae
        obtain rfl := zg ae
        exact yB X0 hC cj (bh, bl, a9, cb, w64 (du + 1)) hl1 []
       ·obtain ⟨bv, h4, ae⟩ := zl ae
        obtain ⟨aw, h5, ae⟩ := zl ae
        let Z3 : List HO := [Hn (iL (zb F4_ zG zD) h4), Hs (iM (zb F4_ zG zD) h4), Hn (⟨rfl, leP (show WG [] [] from inferInstance), leP (show WG [] [] from inferInstance), rfl, rfl⟩ : ([zD bv.has_] : List A) = [zD bv.has_] ∧ LeP [] [] ∧ LeP [] [] ∧ T.als 9 [.deref] 0 0 = T.als 9 [.deref] 0 0 ∧ (some (.agg [.opq (yg (zq (eI .i64) eB aj)), .opq (yg (zq F0_ eB al)), .opq (yg (zq zG eB aq))]) : Option A) = some (.agg [.opq (yg (zq (eI .i64) eB aj)), .opq (yg (zq F0_ eB al)), .opq (yg (zq zG eB aq))]))]
        rcases y5 ae with ⟨c5, ae⟩ | ⟨c5, ae⟩
        ·obtain ⟨bi, h6, ae⟩ := zl ae
         obtain ⟨ba, h7, ae⟩ := zl ae
         obtain ⟨da, h8, ae⟩ := zl ae
         obtain ⟨g1, ae⟩ := gdE ae
         exact yB ((ZD (P := Tryd.prog) ve 9 0 [.deref] (fa := .fn 32 []) (r := .tup []) (xl := []) (xr := [xH m_, F4_ bv.word_]) (qs := [(yg (zq (eI .i64) eB aj)), (yg (zq F0_ eB al)), (yg (zq zG eB aq))]) (qs' := [(yg (zq (eI .i64) eB bi.states_)), (yg (zq F0_ eB bi.edges_)), (yg (zq zG eB bi.pairs_))]) (es := [(zq (eI .i64) eB aj), (zq F0_ eB al), (zq zG eB aq)]) (es' := [(zq (eI .i64) eB bi.states_), (zq F0_ eB bi.edges_), (zq zG eB bi.pairs_)]) (.inr rfl) (z2A (by kernel_rfl)) (.cons (wx (zq (eI .i64) eB aj)) (.cons (wx (zq F0_ eB al)) (.cons (wx (zq zG eB aq)) (.nil)))) (fun us hu => jn hC _ _ _ _ h6 us hu) (some 63)).or ((ZD (P := Tryd.prog) ve 9 0 [.deref] (fa := zD bv.has_) (r := B aw) (xl := []) (xr := []) (qs := [(yg (zq (eI .i64) eB aj)), (yg (zq F0_ eB al)), (yg (zq zG eB aq))]) (qs' := [(yg (zq (eI .i64) eB aj)), (yg (zq F0_ eB al)), (yg (zq zG eB aq))]) (es := [(zq (eI .i64) eB aj), (zq F0_ eB al), (zq zG eB aq)]) (es' := [(zq (eI .i64) eB aj), (zq F0_ eB al), (zq zG eB aq)]) (.inr rfl) (z2A (by kernel_rfl)) (.cons (wx (zq (eI .i64) eB aj)) (.cons (wx (zq F0_ eB al)) (.cons (wx (zq zG eB aq)) (.nil)))) (fun us hu => ZH hC _ _ _ h5 us hu) (some 57)).or X0)) hC dz (bi.states_, bi.edges_, bi.pairs_, (bc ++ ([da] : List (List Int)))) ae (Z3 ++ [Hq c5, Hn (⟨rfl, leP (show WG [] [] from inferInstance), leP (show WG [xH m_, F4_ bv.word_] [xH m_, F4_ bv.word_] from inferInstance), rfl, rfl⟩ : ([.fn 32 []] : List A) = [.fn 32 []] ∧ LeP [] [] ∧ LeP [xH m_, F4_ bv.word_] [xH m_, F4_ bv.word_] ∧ T.als 9 [.deref] 0 1 = T.als 9 [.deref] 0 1 ∧ (some (.agg [.opq (yg (zq (eI .i64) eB aj)), .opq (yg (zq F0_ eB al)), .opq (yg (zq zG eB aq))]) : Option A) = some (.agg [.opq (yg (zq (eI .i64) eB aj)), .opq (yg (zq F0_ eB al)), .opq (yg (zq zG eB aq))])), Hc h01 (x := bv.word_) h7 (loC F4_ bv.word_ <| loN), Hg (Kd h00), Hm (shM (eI .i64) (eI .i64) ba), Hs (Ke h00 (x := ba) h8 (loC F4_ ba <| loN)), Hm (shM (eI .i64) (eI .i64) ba), Hq (dM F1_ ([da] : List (List Int))), Hn (dM F1_ ([da] : List (List Int))), Hn (aL F1_ F1_ g1), Hl (aM F1_ bc ([da] : List (List Int)))])
        ·exact yB ((ZD (P := Tryd.prog) ve 9 0 [.deref] (fa := zD bv.has_) (r := B aw) (xl := []) (xr := []) (qs := [(yg (zq (eI .i64) eB aj)), (yg (zq F0_ eB al)), (yg (zq zG eB aq))]) (qs' := [(yg (zq (eI .i64) eB aj)), (yg (zq F0_ eB al)), (yg (zq zG eB aq))]) (es := [(zq (eI .i64) eB aj), (zq F0_ eB al), (zq zG eB aq)]) (es' := [(zq (eI .i64) eB aj), (zq F0_ eB al), (zq zG eB aq)]) (.inr rfl) (z2A (by kernel_rfl)) (.cons (wx (zq (eI .i64) eB aj)) (.cons (wx (zq F0_ eB al)) (.cons (wx (zq zG eB aq)) (.nil)))) (fun us hu => ZH hC _ _ _ h5 us hu) (some 57)).or X0) hC dz (aj, al, aq, bc) ae (Z3 ++ [Hq c5])
      ·obtain rfl := zg ae
       obtain rfl := hl1
       exact yB X0 hC a8 bc aa [Hq c4]
    ·obtain ⟨t5, ht5, aa⟩ := zl aa
     refine yLx X0 hC xY [1,1,1,1,1,2,1,0] [J1] (fun s => xW l_ s.1 s.2) (fun x => YI m_ l_ goal ah x.1 x.2) (([] : List (List Int)), 0) ht5 [(2, .d (I goal)), (3, .own (.box (xH m_))), (9, .own (.box ((zS (eMp (eI .i64) eB) (eMp F0_ eB) (eMp zG eB)) ah))), (10, .own (eOs 1 (decide ((0 : Int) = ((l_.length : Nat) : Int))) F1_ [])), (33, .d (eSl 1 false F4_ l_)), (34, .d (I ((l_.length : Nat) : Int))), (35, .d (I 0))] inferInstance [Ha (lnM F4_ l_)] ?_
     rintro ⟨cx, fy⟩ m5 bm ae hl1 J5 dp
     try unfold xW at ae
     rcases y5 ae with ⟨c6, ae⟩ | ⟨c6, ae⟩
     ·obtain ⟨az, h9, ae⟩ := zl ae
      obtain ⟨cr, h10, ae⟩ := zl ae
      obtain ⟨bz, h11, ae⟩ := zl ae
      obtain ⟨g2, ae⟩ := gdE ae
      obtain rfl := zg ae
      exact yB X0 hC dp ((cx ++ ([bz] : List (List Int))), w64 (fy + 1)) hl1 [Hq c6, Hi F4_ h9, Hc h01 (x := az) h10 (loC F4_ az <| loN), Hg (Kd h00), Hm (shM (eI .i64) (eI .i64) cr), Hs (Ke h00 (x := cr) h11 (loC F4_ cr <| loN)), Hm (shM (eI .i64) (eI .i64) cr), Hq (dM F1_ ([bz] : List (List Int))), Hn (dM F1_ ([bz] : List (List Int))), Hn (aL F1_ F1_ g2), Hl (aM F1_ cx ([bz] : List (List Int)))]
     ·obtain rfl := zg ae
      obtain rfl := hl1
      exact yB X0 hC a7 cx aa [Hq c6]
def uI : Code := (Tryd.f39.body).getD .skip
abbrev XA (u0 : Value) (u1 : Value) (u2 : Value) (x_ : zf) (out : List Int) : List (Nat × T) := [(3, .own (.box (.agg [.opq (vu u0 (zq (eI .i64) eB x_.states_)), .opq (vu u1 (zq F0_ eB x_.edges_)), .opq (vu u2 (zq zG eB x_.pairs_))]))), (5, .own (eOs 1 true (eI .u64) out))]
abbrev Xz (u0 : Value) (u1 : Value) (u2 : Value) (bk : List za) (x_ : zf) (cn : Int) (bc : List Int) : List (Nat × T) := [(3, .own (.box (.agg [.opq (vu u0 (zq (eI .i64) eB x_.states_)), .opq (vu u1 (zq F0_ eB x_.edges_)), .opq (vu u2 (zq zG eB x_.pairs_))]))), (5, .own (eOs 1 true (eI .u64) bc)), (13, .d (eSl 5 false (zb F4_ zG zD) bk)), (14, .d (I ((bk.length : Nat) : Int))), (15, .d (I cn))]
abbrev Xy (u0 : Value) (u1 : Value) (u2 : Value) (bk : List za) (x_ : zf) (am : List Int) (cn : Int) : List (Nat × T) := [(3, .own (.box (.agg [.opq (vu u0 (zq (eI .i64) eB x_.states_)), .opq (vu u1 (zq F0_ eB x_.edges_)), .opq (vu u2 (zq zG eB x_.pairs_))]))), (5, .own (eOs 1 true (eI .u64) am)), (13, .d (eSl 5 false (zb F4_ zG zD) bk)), (14, .d (I ((bk.length : Nat) : Int))), (15, .d (I cn))]
theorem uQ (hC : zP Tryd.prog ctr) : ∀ (bk : List za) (x_ : zf) (r0 : List Int), vo bk x_ = some r0 → ∀ us : List Value, us.length = 3 → uA Tryd.prog (.fn 39 []) ([eSl 5 false (zb F4_ zG zD) bk] ++ .agg (us.map .atom) :: []) (Yu us [zq (eI .i64) eB x_.states_, zq F0_ eB x_.edges_, zq zG eB x_.pairs_]) (eSl 1 true (eI .u64) r0) ([zq (eI .i64) eB x_.states_, zq F0_ eB x_.edges_, zq zG eB x_.pairs_].map fun e => .opq (yg e)) := by
 intro bk x_ r0 aa us hus
 obtain ⟨u0, u1, u2, rfl⟩ := z9x hus
 refine Xn (tt := ve) (nt := 36) (body := uI) (B := 3) [4] (xl := [eSl 5 false (zb F4_ zG zD) bk]) (xr := []) (caps := []) (es := [zq (eI .i64) eB x_.states_, zq F0_ eB x_.edges_, zq zG eB x_.pairs_]) (es' := [zq (eI .i64) eB x_.states_, zq F0_ eB x_.edges_, zq zG eB x_.pairs_]) (us := [u0, u1, u2]) (r := eSl 1 true (eI .u64) r0) Tryd.func39 rfl (by kernel_rfl) rfl rfl (by decide) (by show (2 : Nat) ≤ 36; decide) rfl rfl (.inr ⟨_, rfl⟩) fun E hE => ?_
 try unfold vo at aa
 obtain ⟨g0, aa⟩ := gdE aa
 obtain ⟨g1, aa⟩ := gdE aa
 refine yJ X0 hC uI [1,1] [] [3,5] (fun z : List Int => uG z = some r0) (fun z => XA u0 u1 u2 x_ z) [(0, .d (eSl 5 false (zb F4_ zG zD) bk)), (3, .own (.box (.agg [.opq (vu u0 (zq (eI .i64) eB x_.states_)), .opq (vu u1 (zq F0_ eB x_.edges_)), .opq (vu u2 (zq zG eB x_.pairs_))]))), (5, .own (eOs 1 true (eI .u64) (List.replicate (w64 ((w64 (Int.tdiv ((bk.length : Nat) : Int) 64)) + 1)).toNat (0 : Int))))] [Ha (lnM (zb F4_ zG zD) bk), Hn g0, Hn (rL g1), Ha (rM 1 (eI .u64) (w64 ((w64 (Int.tdiv ((bk.length : Nat) : Int) 64)) + 1)) (0 : Int)), Hh (.cut 0)] ?_ fun J1 a7 => ?_
 ·rintro out aa
  unfold uG at aa
  obtain rfl := zg aa
  exact yF X0 hC .ret [(3, .own (.box (.agg [.opq (vu u0 (zq (eI .i64) eB x_.states_)), .opq (vu u1 (zq F0_ eB x_.edges_)), .opq (vu u2 (zq zG eB x_.pairs_))]))), (4, .d (eSl 1 true (eI .u64) out))] [Hh (.n 0 [5]), Hm (shM (eI .u64) (eI .u64) out)] fun st0 h0 => hE _ st0 (.inr rfl) (Q3 h0 rfl rfl) (z3O (zb0 h0 rfl rfl))
 ·obtain ⟨t2, ht2, aa⟩ := zl aa
  refine yL X0 hC uI [1,1,2,1,0] [J1] (fun s => uF bk x_ s.1 s.2) (fun x => Xy u0 u1 u2 bk x_ x.1 x.2) ((List.replicate (w64 ((w64 (Int.tdiv ((bk.length : Nat) : Int) 64)) + 1)).toNat (0 : Int)), 0) ht2  [Ha (lnM (zb F4_ zG zD) bk)] ?_
  rintro ⟨am, cn⟩ m2 bm ae hl1 J2 a8
  try unfold uF at ae
  rcases y5 ae with ⟨c0, ae⟩ | ⟨c0, ae⟩
  ·refine yJ X0 hC uI [1,1,2,1,0,0,1,1] [J1, J2] [3,5,13,14,15] (fun z : List Int => wF cn z = some bm) (fun z => Xz u0 u1 u2 bk x_ cn z) [(3, .own (.box (.agg [.opq (vu u0 (zq (eI .i64) eB x_.states_)), .opq (vu u1 (zq F0_ eB x_.edges_)), .opq (vu u2 (zq zG eB x_.pairs_))]))), (5, .own (eOs 1 true (eI .u64) am)), (13, .d (eSl 5 false (zb F4_ zG zD) bk)), (14, .d (I ((bk.length : Nat) : Int))), (15, .d (I cn))] [Hq c0, Hh (.cut 0)] ?_ fun J3 cj => ?_
   ·rintro bc ae
    unfold wF at ae
    obtain rfl := zg ae
    exact yB X0 hC a8 (bc, w64 (cn + 1)) hl1 []
   ·obtain ⟨d0, h0, ae⟩ := zl ae
    obtain ⟨r_, h1, ae⟩ := zl ae
    let Z0 : List HO := [Hi (zb F4_ zG zD) h0, Hn (⟨rfl, leP (show WG [] [] from inferInstance), leP (show WG [] [] from inferInstance), rfl, rfl⟩ : ([zD d0.has_] : List A) = [zD d0.has_] ∧ LeP [] [] ∧ LeP [] [] ∧ T.als 3 [.deref] 0 0 = T.als 3 [.deref] 0 0 ∧ (some (.agg [.opq (vu u0 (zq (eI .i64) eB x_.states_)), .opq (vu u1 (zq F0_ eB x_.edges_)), .opq (vu u2 (zq zG eB x_.pairs_))]) : Option A) = some (.agg [.opq (vu u0 (zq (eI .i64) eB x_.states_)), .opq (vu u1 (zq F0_ eB x_.edges_)), .opq (vu u2 (zq zG eB x_.pairs_))]))]
    rcases y5 ae with ⟨c1, ae⟩ | ⟨c1, ae⟩
    ·obtain ⟨g2, ae⟩ := gdE ae
     obtain ⟨dg, h2, ae⟩ := zl ae
     obtain ⟨g3, ae⟩ := gdE ae
     obtain ⟨g4, ae⟩ := gdE ae
     obtain ⟨fx, h3, ae⟩ := zl ae
     exact yB ((ze5 Tryd.prog).or ((zfd Tryd.prog).or ((ZD (P := Tryd.prog) ve 3 0 [.deref] (fa := zD d0.has_) (r := B r_) (xl := []) (xr := []) (qs := [(vu u0 (zq (eI .i64) eB x_.states_)), (vu u1 (zq F0_ eB x_.edges_)), (vu u2 (zq zG eB x_.pairs_))]) (qs' := [(vu u0 (zq (eI .i64) eB x_.states_)), (vu u1 (zq F0_ eB x_.edges_)), (vu u2 (zq zG eB x_.pairs_))]) (es := [(zq (eI .i64) eB x_.states_), (zq F0_ eB x_.edges_), (zq zG eB x_.pairs_)]) (es' := [(zq (eI .i64) eB x_.states_), (zq F0_ eB x_.edges_), (zq zG eB x_.pairs_)]) (.inr rfl) (z2A (by kernel_rfl)) (.cons (kA u0 (zq (eI .i64) eB x_.states_)) (.cons (kA u1 (zq F0_ eB x_.edges_)) (.cons (kA u2 (zq zG eB x_.pairs_)) (.nil)))) (fun us hu => ZH hC _ _ _ h1 us hu) (some 23)).or X0))) hC cj (am.set (w64 (Int.tdiv cn 64)).toNat (orK .u64 dg (z6Y .u64 1 (Int.tmod cn 64)))) ae (Z0 ++ [Hq c1, Hn g2, Hn (iL (eI .u64) h2), Hs (iM (eI .u64) h2), Hn g3, Hn g4, Hn (iL (eI .u64) h3), Hs (iM (eI .u64) h3), Hs (iM (eI .u64) h3), Hl (sM (eI .u64) am (w64 (Int.tdiv cn 64)) (orK .u64 dg (z6Y .u64 1 (Int.tmod cn 64))))])
    ·exact yB ((ZD (P := Tryd.prog) ve 3 0 [.deref] (fa := zD d0.has_) (r := B r_) (xl := []) (xr := []) (qs := [(vu u0 (zq (eI .i64) eB x_.states_)), (vu u1 (zq F0_ eB x_.edges_)), (vu u2 (zq zG eB x_.pairs_))]) (qs' := [(vu u0 (zq (eI .i64) eB x_.states_)), (vu u1 (zq F0_ eB x_.edges_)), (vu u2 (zq zG eB x_.pairs_))]) (es := [(zq (eI .i64) eB x_.states_), (zq F0_ eB x_.edges_), (zq zG eB x_.pairs_)]) (es' := [(zq (eI .i64) eB x_.states_), (zq F0_ eB x_.edges_), (zq zG eB x_.pairs_)]) (.inr rfl) (z2A (by kernel_rfl)) (.cons (kA u0 (zq (eI .i64) eB x_.states_)) (.cons (kA u1 (zq F0_ eB x_.edges_)) (.cons (kA u2 (zq zG eB x_.pairs_)) (.nil)))) (fun us hu => ZH hC _ _ _ h1 us hu) (some 23)).or X0) hC cj am ae (Z0 ++ [Hq c1])
  ·obtain rfl := zg ae
   obtain rfl := hl1
   exact yB X0 hC a7 am aa [Hq c0]
def wu : Code := (Tryd.f56.body).getD .skip
def yZ : yD := spF (α := List Int × List Int) (ρ := Bool) 56 (fun x => [F5_ x.1, F5_ x.2]) (fun r => eB r) (fun x => yK x.1 x.2) [] (V5)
abbrev qL : List (Nat × T) := []
abbrev qK (s1 : List Int) (s2 : List Int) (ff : Int) : List (Nat × T) := [(0, .d (eSl 1 false (eI .u64) s1)), (1, .d (eSl 1 false (eI .u64) s2)), (12, .d (I ((s1.length : Nat) : Int))), (13, .d (I ff))]
theorem jV (hC : zP Tryd.prog ctr) : yZ.Ok Tryd.prog := by
 refine y6 ?_
 rintro ⟨s1, s2⟩ r0 aa
 try unfold yK at aa
 refine yO true [(4, none)] wu 26 Tryd.func56 fun E hE => ?_
 let Z0 : List HO := [Ha (lnM (eI .u64) s1), Ha (lnM (eI .u64) s2)]
 rcases y5 aa with ⟨c0, aa⟩ | ⟨c0, aa⟩
 ·obtain rfl := zg aa
  exact yE X0 hC hE (Z0 ++ [Hq c0])
 ·refine yJ X0 hC wu [1,1] [] [] (fun z : Unit => x5 = some r0) (fun z => qL) [(0, .d (eSl 1 false (eI .u64) s1)), (1, .d (eSl 1 false (eI .u64) s2))] (Z0 ++ [Hq c0, Hh (.cut 0)]) ?_ fun J1 a7 => ?_
  ·rintro ⟨⟩ aa
   unfold x5 at aa
   obtain rfl := zg aa
   exact yE X0 hC hE []
  ·obtain ⟨t2, ht2, aa⟩ := zl aa
   refine yL X0 hC wu [1,1,2,1,0] [J1] (fun s => x4 s1 s2 s) (fun x => qK s1 s2 x) 0 ht2  [Ha (lnM (eI .u64) s1)] ?_
   rintro ff m2 bm ae hl1 J2 a8
   try unfold x4 at ae
   rcases y5 ae with ⟨c1, ae⟩ | ⟨c1, ae⟩
   ·obtain ⟨fq, h0, ae⟩ := zl ae
    obtain ⟨ez, h1, ae⟩ := zl ae
    let Z1 : List HO := [Hq c1, Hi (eI .u64) h0, Hi (eI .u64) h1]
    rcases y5 ae with ⟨c2, ae⟩ | ⟨c2, ae⟩
    ·obtain rfl := zg ae
     obtain rfl := hl1
     obtain rfl := zg aa
     exact yE X0 hC hE (Z1 ++ [Hq c2])
    ·obtain rfl := zg ae
     exact yB X0 hC a8 (w64 (ff + 1)) hl1 (Z1 ++ [Hq c2])
   ·obtain rfl := zg ae
    obtain rfl := hl1
    exact yB X0 hC a7 () aa [Hq c1]
def jM : Code := (Tryd.f57.body).getD .skip
def x3 : yD := spF (α := List Int) (ρ := List Int) 57 (fun x => [F5_ x]) (fun r => (eOs 1 false (eI .u64)) r) (fun x => yM x) [] (Jf)
theorem jW (hC : zP Tryd.prog ctr) : x3.Ok Tryd.prog := by
 refine y6 ?_
 rintro s_ r0 aa
 try unfold yM at aa
 refine yO true [(2, none)] jM 8 Tryd.func57 fun E hE => ?_
 refine z1g rfl 0 (sz := 1) (t := false) (es := s_.map (eI .u64)) (by kernel_rfl) fun ax hv0 hn => ?_
 rcases hn with ⟨hn0, he0⟩ | hn0
 ·obtain ⟨_, aa⟩ := gdE aa
  rw [show s_ = [] from List.map_eq_nil_iff.1 he0] at aa
  obtain rfl := zg aa
  exact yEx ((z9r zC 4 96 (by kernel_rfl) hn0).or ((xMv Tryd.prog 3 0 ax hv0).or X0)) hC hE [Hn (rfl : some ax = some ax), Hn (⟨rfl, rfl⟩ : T.d (.atom ax) = T.d (.atom ax) ∧ T.d (.atom (.slice none 0 0)) = T.d (.atom (.slice none 0 0))), qT] (eOs 1 true (eI .u64) []) (show LeV (eOs 1 true (eI .u64) []) (eOs 1 false (eI .u64) ([] : List Int)) from inferInstance)
 ·obtain ⟨g0, aa⟩ := gdE aa
  obtain rfl := zg aa
  exact yE ((z9r zC 4 96 (by kernel_rfl) hn0).or ((xMv Tryd.prog 3 0 ax hv0).or X0)) hC hE [Hn (rfl : some ax = some ax), Hn (⟨rfl, rfl⟩ : T.d (.atom ax) = T.d (.atom ax) ∧ T.d (.atom (.slice none 0 0)) = T.d (.atom (.slice none 0 0))), qF, Hn (dM (eI .u64) s_), Hn (aL (eI .u64) (eI .u64) g0), Hl (aM0 (eI .u64) s_)]
def yj : Code := (Tryd.f40.body).getD .skip
def wI : yD := spF (α := zz × List Int × Int × Int) (ρ := List Int × Bool) 40 (fun x => [zci x.1, F5_ x.2.1, (eI .i64) x.2.2.1, (eI .i64) x.2.2.2]) (fun r => .tup [F4_ r.1, eB r.2]) (fun x => vG x.1 x.2.1 x.2.2.1 x.2.2.2) [] (zeV)
abbrev jA : List (Nat × T) := []
abbrev jz (c_ : zz) (bn : List Int) (many : Int) (i_ : Int) : List (Nat × T) := [(0, .d (.sptr (z7y c_))), (1, .d (eSl 1 false (eI .u64) bn)), (3, .d (I many)), (10, .d (I i_))]
abbrev jy (c_ : zz) (bn : List Int) (many : Int) (i_ : Int) (dx : List Int) : List (Nat × T) := [(0, .d (.sptr (z7y c_))), (1, .d (eSl 1 false (eI .u64) bn)), (3, .d (I many)), (10, .d (I i_)), (11, .own (eOs 1 false (eI .u64) dx))]
abbrev jw (c_ : zz) (bn : List Int) (many : Int) (i_ : Int) (ce : List Int) (cw : List Int) (cp : Int) : List (Nat × T) := [(0, .d (.sptr (z7y c_))), (1, .d (eSl 1 false (eI .u64) bn)), (3, .d (I many)), (10, .d (I i_)), (11, .own (eOs 1 false (eI .u64) cw)), (44, .d (eSl 1 false (eI .u64) ce)), (45, .d (I ((ce.length : Nat) : Int))), (46, .d (I cp))]
abbrev jx (c_ : zz) (bn : List Int) (many : Int) (i_ : Int) : List (Nat × T) := [(0, .d (.sptr (z7y c_))), (1, .d (eSl 1 false (eI .u64) bn)), (3, .d (I many)), (10, .d (I i_))]
theorem qZ : ∀ (x y : zz × List Int × Int × Int), (fun x => [zci x.1, F5_ x.2.1, (eI .i64) x.2.2.1, (eI .i64) x.2.2.2]) x = (fun x => [zci x.1, F5_ x.2.1, (eI .i64) x.2.2.1, (eI .i64) x.2.2.2]) y → x = y := zeV
def wq (d9 : zz → (List Int) → Int → Int → Option (List Int × Bool)) : yD := spF (α := zz × List Int × Int × Int) (ρ := List Int × Bool) 40 (fun x => [zci x.1, F5_ x.2.1, (eI .i64) x.2.2.1, (eI .i64) x.2.2.2]) (fun r => .tup [F4_ r.1, eB r.2]) (fun x => d9 x.1 x.2.1 x.2.2.1 x.2.2.2) [] (by
 intro x y h
 exact (congrArg (fun (p : zz × List Int × Int × Int) => p) (show x = y from qZ x y h)))
theorem jY (hC : zP Tryd.prog ctr) (h0j : ctr.Has yZ) (h0k : ctr.Has x3) (d9 : zz → (List Int) → Int → Int → Option (List Int × Bool)) (h0r : ctr.Has (wq d9)) : (wq (yc d9)).Ok Tryd.prog := by
 refine y6 ?_
 rintro ⟨c_, bn, from_, many⟩ r0 aa
 try unfold yc at aa
 refine yO false [(8, none), (9, none)] yj 74 Tryd.func40 fun E hE => ?_
 rcases y5 aa with ⟨c0, aa⟩ | ⟨c0, aa⟩
 ·obtain ⟨r_, h0, aa⟩ := zl aa
  obtain rfl := zg aa
  exact yEx X0 hC hE [Hq c0, Hc h0j (x := (bn, c_.want_)) h0 (loC F5_ bn <| loC F5_ c_.want_ <| loN), Hm (shM (eI .i64) (eI .i64) [])] (.tup [eSl 1 true (eI .i64) [], B r_]) (show LeV (.tup [eSl 1 true (eI .i64) [], B r_]) (.tup [eSl 1 false (eI .i64) ([] : List Int), B r_]) from inferInstance)
 ·refine yJ X0 hC yj [1,1] [] [] (fun z : Unit => xE = some r0) (fun z => jA) [(0, .d (.sptr (z7y c_))), (1, .d (eSl 1 false (eI .u64) bn)), (2, .d (I from_)), (3, .d (I many))] [Hq c0, Hh (.cut 0)] ?_ fun J1 a7 => ?_
  ·rintro ⟨⟩ aa
   unfold xE at aa
   obtain rfl := zg aa
   exact yEx X0 hC hE [Hm (shM (eI .i64) (eI .i64) [])] (.tup [eSl 1 true (eI .i64) [], B false]) (show LeV (.tup [eSl 1 true (eI .i64) [], B false]) (.tup [eSl 1 false (eI .i64) ([] : List Int), B false]) from inferInstance)
  ·obtain ⟨t2, ht2, aa⟩ := zl aa
   refine yL X0 hC yj [1,1,2,1,0] [J1] (fun s => xA c_ bn many d9 s) (fun x => jx c_ bn many x) from_ ht2  [] ?_
   rintro i_ m2 bm ae hl1 J2 a8
   try unfold xA at ae
   let Z0 : List HO := [Ha (lnM F5_ c_.sets_)]
   rcases y5 ae with ⟨c1, ae⟩ | ⟨c1, ae⟩
   ·refine yJ X0 hC yj [1,1,2,1,0,0,1] [J1, J2] [0,1,3,10] (fun z : Unit => xD i_ = some bm) (fun z => jz c_ bn many i_) [(0, .d (.sptr (z7y c_))), (1, .d (eSl 1 false (eI .u64) bn)), (3, .d (I many)), (10, .d (I i_))] (Z0 ++ [Hq c1, Hh (.cut 0)]) ?_ fun J3 cj => ?_
    ·rintro ⟨⟩ ae
     unfold xD at ae
     obtain rfl := zg ae
     exact yB X0 hC a8 (w64 (i_ + 1)) hl1 []
    ·obtain ⟨ah, h1, ae⟩ := zl ae
     refine yJ X0 hC yj [1,1,2,1,0,0,1,2,0,1] [J1, J2, J3] [0,1,3,10,11] (fun z : List Int => xC c_ many d9 i_ z = some bm) (fun z => jy c_ bn many i_ z) [(0, .d (.sptr (z7y c_))), (1, .d (eSl 1 false (eI .u64) bn)), (3, .d (I many)), (10, .d (I i_)), (11, .own (eOs 1 false (eI .u64) ah))] [Hc h0k (x := bn) h1 (loC F5_ bn <| loN), Hh (.cut 0)] ?_ fun J4 dz => ?_
     ·rintro dx ae
      unfold xC at ae
      obtain ⟨ak, h2, ae⟩ := zl ae
      let Z1 : List HO := [Hg (Kd h0r), Hm (shM (eI .u64) (eI .u64) dx), Hs (Ke h0r (x := (c_, dx, w64 (i_ + 1), w64 (many - 1))) h2 (loC zci c_ <| loC F5_ dx <| loC (eI .i64) (w64 (i_ + 1)) <| loC (eI .i64) (w64 (many - 1)) <| loN)), Hm (shM (eI .u64) (eI .u64) dx)]
      rcases y5 ae with ⟨c2, ae⟩ | ⟨c2, ae⟩
      ·obtain ⟨g0, ae⟩ := gdE ae
       obtain rfl := zg ae
       obtain rfl := hl1
       obtain rfl := zg aa
       exact yE X0 hC hE (Z1 ++ [Hq c2, Hn (dM (eI .i64) ak.1), Hn (aL (eI .i64) (eI .i64) g0), Hl (aM (eI .i64) ([i_] : List Int) ak.1), Hm (shM (eI .i64) (eI .i64) (([i_]) ++ ak.1))])
      ·exact yB X0 hC cj () ae (Z1 ++ [Hq c2])
     ·obtain ⟨ce, h3, ae⟩ := zl ae
      obtain ⟨t5, ht5, ae⟩ := zl ae
      refine yL X0 hC yj [1,1,2,1,0,0,1,2,0,1,2,1,0] [J1, J2, J3, J4] (fun s => xz ce s.1 s.2) (fun x => jw c_ bn many i_ ce x.1 x.2) (ah,0) ht5  [Hi F5_ h3, Ha (lnM (eI .u64) ce)] ?_
      rintro ⟨cw, cp⟩ m5 ep ai hl2 J5 dp
      try unfold xz at ai
      rcases y5 ai with ⟨c3, ai⟩ | ⟨c3, ai⟩
      ·obtain ⟨dy, h4, ai⟩ := zl ai
       obtain ⟨em, h5, ai⟩ := zl ai
       obtain ⟨gg, h6, ai⟩ := zl ai
       obtain rfl := zg ai
       exact yB ((ze5 Tryd.prog).or X0) hC dp ((cw.set cp.toNat (orK .u64 em dy)), w64 (cp + 1)) hl2 [Hq c3, Hi (eI .u64) h4, Hn (iL (eI .u64) h5), Hs (iM (eI .u64) h5), Hn (iL (eI .u64) h6), Hs (iM (eI .u64) h6), Hs (iM (eI .u64) h6), Hl (sM (eI .u64) cw cp (orK .u64 em dy))]
      ·obtain rfl := zg ai
       obtain rfl := hl2
       exact yB X0 hC dz cw ae [Hq c3]
   ·obtain rfl := zg ae
    obtain rfl := hl1
    exact yB X0 hC a7 () aa (Z0 ++ [Hq c1])
theorem kS (hC : zP Tryd.prog ctr) (h0j : ctr.Has yZ) (h0k : ctr.Has x3) : wI.Ok Tryd.prog := by
 have H : ∀ n, (wq (ym n)).Ok Tryd.prog := by
  intro n
  induction n with
  | zero => exact y6 fun _ _ h => nomatch (show none = some _ from h)
  | succ n ih => exact jY (Ctr.add_ok hC ih) (h0j.add (by show (56 : Nat) ≠ 40; decide)) (h0k.add (by show (57 : Nat) ≠ 40; decide)) _ (Ctr.add_has _ _)
 exact y6 fun x r h => z3f (H _) h
def y4 : Code := (Tryd.f19.body).getD .skip
def vM : yD := spF (α := z7 × List (List Int) × Int) (ρ := List (List Int) × Int) 19 (fun x => [xH x.1, F9_ x.2.1, (eI .i64) x.2.2]) (fun r => .tup [F7_ r.1, (eI .i64) r.2]) (fun x => zZ x.1 x.2.1 x.2.2) [] (zct)
abbrev YG : List (Nat × T) := []
abbrev YF (l_ : List (List Int)) (ah : List za) (ar : List Int) (bw : List (List Int)) (dn : Int) : List (Nat × T) := [(1, .d (eSl 1 false F4_ l_)), (9, .d (eSl 5 false (zb F4_ zG zD) ah)), (10, .d (.sptr (.agg [eSl 1 false F2_ bw, eSl 1 true (eI .u64) ar]))), (68, .d (I (w64 (((l_.length : Nat) : Int) + 1)))), (69, .d (I dn))]
abbrev YE (ba : List Int × Bool) (out : List (List Int)) : List (Nat × T) := [(16, .own (z1a 1 ((ba.1.length : Nat) : Int).toNat F1_ out))]
abbrev YC (l_ : List (List Int)) (ba : List Int × Bool) (am : List (List Int)) (fz : Int) : List (Nat × T) := [(1, .d (eSl 1 false F4_ l_)), (16, .own (z1a 1 ((ba.1.length : Nat) : Int).toNat F1_ am)), (86, .d (eSl 1 false (eI .i64) ba.1)), (87, .d (I ((ba.1.length : Nat) : Int))), (88, .d (I fz))]
abbrev YD (l_ : List (List Int)) (ah : List za) (ar : List Int) (bw : List (List Int)) (dn : Int) : List (Nat × T) := [(1, .d (eSl 1 false F4_ l_)), (9, .d (eSl 5 false (zb F4_ zG zD) ah)), (10, .d (.sptr (.agg [eSl 1 false F2_ bw, eSl 1 true (eI .u64) ar]))), (68, .d (I (w64 (((l_.length : Nat) : Int) + 1)))), (69, .d (I dn))]
abbrev YH (l_ : List (List Int)) (ah : List za) (ar : List Int) (bw : List (List Int)) : List (Nat × T) := [(1, .d (eSl 1 false F4_ l_)), (9, .d (eSl 5 false (zb F4_ zG zD) ah)), (10, .own (.box (.agg [eOs 1 false F2_ bw, eSl 1 true (eI .u64) ar])))]
abbrev YB (m_ : z7) (l_ : List (List Int)) (ah : List za) (ar : List Int) (ca : List (List Int)) (cp : Int) : List (Nat × T) := [(1, .d (eSl 1 false F4_ l_)), (3, .own (.box (xH m_))), (9, .d (eSl 5 false (zb F4_ zG zD) ah)), (10, .own (.box (.agg [eOs 1 false F2_ ca, eSl 1 true (eI .u64) ar]))), (44, .d (eSl 1 false F4_ l_)), (45, .d (I ((l_.length : Nat) : Int))), (46, .d (I cp))]
def zA : XH Tryd.prog := ((z7C zC (.inl 99) [98]).or X0)
theorem Wh (hC : zP Tryd.prog ctr) (h03 : ctr.Has wi) (h04 : ctr.Has wT) (h02 : ctr.Has xI) (h0i : ctr.Has uC) (h0O : ctr.Has wI) (h01 : ctr.Has yn) (h00 : ctr.Has yu) : vM.Ok Tryd.prog := by
 refine y6 ?_
 rintro ⟨m_, l_, goal⟩ r0 aa
 try unfold zZ at aa
 refine yO false [(6, none), (7, none)] y4 104 Tryd.func19 fun E hE => ?_
 obtain ⟨r_, h0, aa⟩ := zl aa
 let Z0 : List HO := [Hc h03 (x := (m_, l_)) h0 (loC xH m_ <| loC F9_ l_ <| loN)]
 rcases y5 aa with ⟨c0, aa⟩ | ⟨c0, aa⟩
 ·obtain rfl := zg aa
  exact yEx zA hC hE (Z0 ++ [Hq c0, Hm (shM F4_ F4_ [])]) (.tup [eSl 1 true F1_ [], I r_]) (show LeV (.tup [eSl 1 true F1_ [], I r_]) (.tup [eSl 1 true F1_ ([] : List (List Int)), I r_]) from inferInstance)
 ·rcases y5 aa with ⟨c1, aa⟩ | ⟨c1, aa⟩
  ·obtain rfl := zg aa
   exact yEx zA hC hE (Z0 ++ [Hq c0, Hq c1, Hq c1, Hq c1, qT, Hm (shM F4_ F4_ [])]) (.tup [eSl 1 true F1_ [], I 1]) (show LeV (.tup [eSl 1 true F1_ [], I 1]) (.tup [eSl 1 true F1_ ([] : List (List Int)), I 1]) from inferInstance)
  ·let Z1 : List HO := (Z0 ++ [Hq c0, Hq c1, Hq c1, Hq c1])
   rcases y5 aa with ⟨c2, aa⟩ | ⟨c2, aa⟩
   ·obtain rfl := zg aa
    exact yEx zA hC hE (Z1 ++ [Hq c2, Hm (shM F4_ F4_ [])]) (.tup [eSl 1 true F1_ [], I 1]) (show LeV (.tup [eSl 1 true F1_ [], I 1]) (.tup [eSl 1 true F1_ ([] : List (List Int)), I 1]) from inferInstance)
   ·let Z2 : List HO := (Z1 ++ [Hq c2, Ha (lnM F4_ l_)])
    rcases y5 aa with ⟨c3, aa⟩ | ⟨c3, aa⟩
    ·obtain rfl := zg aa
     exact yEx zA hC hE (Z2 ++ [Hq c3, Hm (shM F4_ F4_ [])]) (.tup [eSl 1 true F1_ [], I 3]) (show LeV (.tup [eSl 1 true F1_ [], I 3]) (.tup [eSl 1 true F1_ ([] : List (List Int)), I 3]) from inferInstance)
    ·obtain ⟨ah, h1, aa⟩ := zl aa
     obtain ⟨ak, h2, aa⟩ := zl aa
     obtain ⟨ar, h3, aa⟩ := zl aa
     refine yJ ((ZD (P := Tryd.prog) ve 40 1 [] (fa := .fn 39 []) (r := eSl 1 true (eI .u64) ar) (xl := [(eSl 5 false (zb F4_ zG zD)) ah]) (xr := []) (qs := [(yg (zq (eI .i64) eB ak.states_)), (yg (zq F0_ eB ak.edges_)), (yg (zq zG eB ak.pairs_))]) (qs' := [(yg (zq (eI .i64) eB ak.states_)), (yg (zq F0_ eB ak.edges_)), (yg (zq zG eB ak.pairs_))]) (es := [(zq (eI .i64) eB ak.states_), (zq F0_ eB ak.edges_), (zq zG eB ak.pairs_)]) (es' := [(zq (eI .i64) eB ak.states_), (zq F0_ eB ak.edges_), (zq zG eB ak.pairs_)]) (.inl rfl) (z2A (by kernel_rfl)) (.cons (wx (zq (eI .i64) eB ak.states_)) (.cons (wx (zq F0_ eB ak.edges_)) (.cons (wx (zq zG eB ak.pairs_)) (.nil)))) (fun us hu => uQ hC _ _ _ h3 us hu) (some 41)).or zA) hC y4 [1,1,1,1,1,1] [] [1,9,10] (fun z : List (List Int) => vW l_ ah ar z = some r0) (fun z => YH l_ ah ar z) [(1, .d (eSl 1 false F4_ l_)), (3, .own (.box (xH m_))), (9, .d (eSl 5 false (zb F4_ zG zD) ah)), (10, .own (.box (.agg [eOs 1 true F5_ [], eSl 1 true (eI .u64) ar])))] (Z2 ++ [Hq c3, Hc h04 (x := (m_, goal)) h1 (loC xH m_ <| loC (eI .i64) goal <| loN), Hc h02 (x := (m_, l_)) h2 (loC xH m_ <| loC F9_ l_ <| loN), Hm (shM (zb F4_ zG zD) (zb F4_ zG zD) ah), Hn (⟨rfl, leP (show WG [(eSl 5 false (zb F4_ zG zD)) ah] [(eSl 5 false (zb F4_ zG zD)) ah] from inferInstance), leP (show WG [] [] from inferInstance), rfl, rfl⟩ : ([.fn 39 []] : List A) = [.fn 39 []] ∧ LeP [(eSl 5 false (zb F4_ zG zD)) ah] [(eSl 5 false (zb F4_ zG zD)) ah] ∧ LeP [] [] ∧ T.als 40 [] 1 1 = T.als 40 [] 1 1 ∧ (some (.agg [.opq (yg (zq (eI .i64) eB ak.states_)), .opq (yg (zq F0_ eB ak.edges_)), .opq (yg (zq zG eB ak.pairs_))]) : Option A) = some (.agg [.opq (yg (zq (eI .i64) eB ak.states_)), .opq (yg (zq F0_ eB ak.edges_)), .opq (yg (zq zG eB ak.pairs_))])), Hh (.cut 0)]) ?_ fun J1 a7 => ?_
     ·rintro bw aa
      unfold vW at aa
      refine yJ zA hC y4 [1,1,1,1,1,1,1] [] [] (fun z : Unit => vV = some r0) (fun z => YG) [(1, .d (eSl 1 false F4_ l_)), (9, .d (eSl 5 false (zb F4_ zG zD) ah)), (10, .own (.box (.agg [eOs 1 false F2_ bw, eSl 1 true (eI .u64) ar])))] [Hh (.cut 0)] ?_ fun J2 a8 => ?_
      ·rintro ⟨⟩ aa
       unfold vV at aa
       obtain rfl := zg aa
       exact yEx zA hC hE [Hm (shM F4_ F4_ [])] (.tup [eSl 1 true F1_ [], I 0]) (show LeV (.tup [eSl 1 true F1_ [], I 0]) (.tup [eSl 1 true F1_ ([] : List (List Int)), I 0]) from inferInstance)
      ·obtain ⟨t3, ht3, aa⟩ := zl aa
       refine yL zA hC y4 [1,1,1,1,1,1,1,2,1,0] [J2] (fun s => vS l_ ah ar bw s) (fun x => YD l_ ah ar bw x) 0 ht3  [Ha (lnM F4_ l_), Hh (.n 1 [10]), Hm (shM F2_ F2_ bw)] ?_
       rintro dn m3 bm ae hl1 J3 cj
       try unfold vS at ae
       rcases y5 ae with ⟨c4, ae⟩ | ⟨c4, ae⟩
       ·refine yJ zA hC y4 [1,1,1,1,1,1,1,2,1,0,0,1,1] [J2, J3] [1,9,10,68,69] (fun z : Unit => vU dn = some bm) (fun z => YF l_ ah ar bw dn) [(1, .d (eSl 1 false F4_ l_)), (9, .d (eSl 5 false (zb F4_ zG zD) ah)), (10, .d (.sptr (.agg [eSl 1 false F2_ bw, eSl 1 true (eI .u64) ar]))), (68, .d (I (w64 (((l_.length : Nat) : Int) + 1)))), (69, .d (I dn))] [Hq c4, Hh (.cut 0)] ?_ fun J4 dz => ?_
        ·rintro ⟨⟩ ae
         unfold vU at ae
         obtain rfl := zg ae
         exact yB zA hC cj (w64 (dn + 1)) hl1 []
        ·obtain ⟨aw, h4, ae⟩ := zl ae
         obtain ⟨bi, h5, ae⟩ := zl ae
         obtain ⟨ba, h6, ae⟩ := zl ae
         let Z3 : List HO := [Hc h0i (x := ()) h4 (loN), Hn (⟨rfl, leP (show WG [(eSl 5 false (zb F4_ zG zD)) ah] [(eSl 5 false (zb F4_ zG zD)) ah] from inferInstance), leP (show WG [] [] from inferInstance), rfl, rfl⟩ : ([.fn 39 []] : List A) = [.fn 39 []] ∧ LeP [(eSl 5 false (zb F4_ zG zD)) ah] [(eSl 5 false (zb F4_ zG zD)) ah] ∧ LeP [] [] ∧ T.als 75 [] 1 1 = T.als 75 [] 1 1 ∧ (some (.agg [.opq (yg (zq (eI .i64) eB aw.states_)), .opq (yg (zq F0_ eB aw.edges_)), .opq (yg (zq zG eB aw.pairs_))]) : Option A) = some (.agg [.opq (yg (zq (eI .i64) eB aw.states_)), .opq (yg (zq F0_ eB aw.edges_)), .opq (yg (zq zG eB aw.pairs_))])), Hc h0O (x := ((zz.mk bw ar), bi,0, dn)) h6 (loC (eSp (xe (eSl 1 false F2_) F2_)) (zz.mk bw ar) <| loC F2_ bi <| loC (eI .i64) 0 <| loC (eI .i64) dn <| loN)]
         rcases y5 ae with ⟨c5, ae⟩ | ⟨c5, ae⟩
         ·exact yB ((ZD (P := Tryd.prog) ve 75 1 [] (fa := .fn 39 []) (r := eSl 1 true (eI .u64) bi) (xl := [(eSl 5 false (zb F4_ zG zD)) ah]) (xr := []) (qs := [(yg (zq (eI .i64) eB aw.states_)), (yg (zq F0_ eB aw.edges_)), (yg (zq zG eB aw.pairs_))]) (qs' := [(yg (zq (eI .i64) eB aw.states_)), (yg (zq F0_ eB aw.edges_)), (yg (zq zG eB aw.pairs_))]) (es := [(zq (eI .i64) eB aw.states_), (zq F0_ eB aw.edges_), (zq zG eB aw.pairs_)]) (es' := [(zq (eI .i64) eB aw.states_), (zq F0_ eB aw.edges_), (zq zG eB aw.pairs_)]) (.inl rfl) (z2A (by kernel_rfl)) (.cons (wx (zq (eI .i64) eB aw.states_)) (.cons (wx (zq F0_ eB aw.edges_)) (.cons (wx (zq zG eB aw.pairs_)) (.nil)))) (fun us hu => uQ hC _ _ _ h5 us hu) (some 76)).or zA) hC dz () ae (Z3 ++ [Hq c5])
         ·obtain ⟨g0, ae⟩ := gdE ae
          refine yJ ((xCm zC 85 1).or ((ZD (P := Tryd.prog) ve 75 1 [] (fa := .fn 39 []) (r := eSl 1 true (eI .u64) bi) (xl := [(eSl 5 false (zb F4_ zG zD)) ah]) (xr := []) (qs := [(yg (zq (eI .i64) eB aw.states_)), (yg (zq F0_ eB aw.edges_)), (yg (zq zG eB aw.pairs_))]) (qs' := [(yg (zq (eI .i64) eB aw.states_)), (yg (zq F0_ eB aw.edges_)), (yg (zq zG eB aw.pairs_))]) (es := [(zq (eI .i64) eB aw.states_), (zq F0_ eB aw.edges_), (zq zG eB aw.pairs_)]) (es' := [(zq (eI .i64) eB aw.states_), (zq F0_ eB aw.edges_), (zq zG eB aw.pairs_)]) (.inl rfl) (z2A (by kernel_rfl)) (.cons (wx (zq (eI .i64) eB aw.states_)) (.cons (wx (zq F0_ eB aw.edges_)) (.cons (wx (zq zG eB aw.pairs_)) (.nil)))) (fun us hu => uQ hC _ _ _ h5 us hu) (some 76)).or zA)) hC y4 [1,1,1,1,1,1,1,2,1,0,0,1,1,2,0,1,1,1,1] [J2, J3, J4] [16] (fun z : List (List Int) => vT ba z = some bm) (fun z => YE ba z) [(1, .d (eSl 1 false F4_ l_)), (14, .d (eSl 1 false (eI .i64) ba.1)), (16, .own (z1a 1 ((ba.1.length : Nat) : Int).toNat F4_ ([] : List (List Int))))] (Z3 ++ [Hq c5, Ha (lnM (eI .i64) ba.1), Hn (zdh g0), Hh (.cut 0)]) ?_ fun J5 dp => ?_
          ·rintro out ae
           unfold vT at ae
           obtain ⟨g1, ae⟩ := gdE ae
           obtain rfl := zg ae
           obtain rfl := hl1
           obtain rfl := zg aa
           exact yE ((xCe Tryd.prog 6 1 (((ba.1.length : Nat) : Int).toNat) (out.map F1_)).or zA) hC hE [Hn (⟨rfl, zdj F1_ g1⟩ : z1a 1 (((ba.1.length : Nat) : Int).toNat) F1_ out = A.opq (Ki 1 (((ba.1.length : Nat) : Int).toNat) (out.map F1_)).q ∧ (out.map F1_).length = ((ba.1.length : Nat) : Int).toNat), Hm (shM F1_ F1_ out)]
          ·obtain ⟨t6, ht6, ae⟩ := zl ae
           refine yL zA hC y4 [1,1,1,1,1,1,1,2,1,0,0,1,1,2,0,1,1,1,1,2,1,0] [J2, J3, J4, J5] (fun s => vR l_ ba s.1 s.2) (fun x => YC l_ ba x.1 x.2) (([] : List (List Int)), 0) ht6  [Ha (lnM (eI .i64) ba.1)] ?_
           rintro ⟨am, fz⟩ m6 ep ai hl2 J6 fe
           try unfold vR at ai
           rcases y5 ai with ⟨c6, ai⟩ | ⟨c6, ai⟩
           ·obtain ⟨u_, h7, ai⟩ := zl ai
            obtain ⟨az, h8, ai⟩ := zl ai
            obtain ⟨da, h9, ai⟩ := zl ai
            obtain ⟨cr, h10, ai⟩ := zl ai
            obtain ⟨g2, ai⟩ := gdE ai
            obtain rfl := zg ai
            exact yB ((xCa zC 100 1 (((ba.1.length : Nat) : Int).toNat) (am.map F1_) ((am ++ ([cr] : List (List Int))).map F1_)).or zA) hC fe ((am ++ ([cr] : List (List Int))), w64 (fz + 1)) hl2 [Hq c6, Hi (eI .i64) h7, Hi F4_ h8, Hc h01 (x := az) h9 (loC F4_ az <| loN), Hg (Kd h00), Hm (shM (eI .i64) (eI .i64) da), Hs (Ke h00 (x := da) h10 (loC F4_ da <| loN)), Hm (shM (eI .i64) (eI .i64) da), Hn (⟨rfl, dM F1_ ([cr] : List (List Int)), rfl⟩ : 1 = 1 ∧ A.areD (([cr] : List (List Int)).map F1_) = true ∧ true = true), Hn (⟨rfl, zdi F1_ F1_ g2⟩ : z1a 1 (((ba.1.length : Nat) : Int).toNat) F1_ am = A.opq (Ki 1 (((ba.1.length : Nat) : Int).toNat) (am.map F1_)).q ∧ (am.map F1_).length + (([cr] : List (List Int)).map F1_).length ≤ ((ba.1.length : Nat) : Int).toNat), Hn (aM F1_ am ([cr] : List (List Int)))]
           ·obtain rfl := zg ai
            obtain rfl := hl2
            exact yB zA hC dp am ae [Hq c6]
       ·obtain rfl := zg ae
        obtain rfl := hl1
        exact yB zA hC a8 () aa [Hq c4]
     ·obtain ⟨t7, ht7, aa⟩ := zl aa
      refine yLx zA hC y4 [1,1,1,1,1,1,2,1,0] [J1] (fun s => vQ m_ l_ ah s.1 s.2) (fun x => YB m_ l_ ah ar x.1 x.2) (([] : List (List Int)), 0) ht7 [(1, .d (eSl 1 false F4_ l_)), (3, .own (.box (xH m_))), (9, .d (eSl 5 false (zb F4_ zG zD) ah)), (10, .own (.box (.agg [eOs 1 true F2_ [], eSl 1 true (eI .u64) ar]))), (44, .d (eSl 1 false F4_ l_)), (45, .d (I ((l_.length : Nat) : Int))), (46, .d (I 0))] inferInstance [Ha (lnM F4_ l_)] ?_
      rintro ⟨ca, cp⟩ m7 bm ae hl1 J7 gm
      try unfold vQ at ae
      rcases y5 ae with ⟨c7, ae⟩ | ⟨c7, ae⟩
      ·refine yA zA hC y4 [1,1,1,1,1,1,2,1,0,0,1,1] [J1, J7] [(1, .d (eSl 1 false F4_ l_)), (3, .own (.box (xH m_))), (9, .d (eSl 5 false (zb F4_ zG zD) ah)), (10, .own (.box (.agg [eOs 1 false F2_ ca, eSl 1 true (eI .u64) ar]))), (44, .d (eSl 1 false F4_ l_)), (45, .d (I ((l_.length : Nat) : Int))), (46, .d (I cp))] [Hq c7, Hh (.cut 0)] ?_
       obtain ⟨br, h11, ae⟩ := zl ae
       obtain ⟨bz, h12, ae⟩ := zl ae
       obtain ⟨de, h13, ae⟩ := zl ae
       obtain ⟨g3, ae⟩ := gdE ae
       refine z4M (by kernel_rfl) (x := (sub [1,1,1,1,1,1,2,1,0,0,1,1,0] y4)) (y := (sub [1,1,1,1,1,1,2,1,0,0,1,1,1] y4)) 10 (fun st1 => Own.canon [1,3,9,10,44,45,46] st1 = ofL [(1, .d (eSl 1 false F4_ l_)), (3, .own (.box (xH m_))), (9, .d (eSl 5 false (zb F4_ zG zD) ah)), (10, .own (.box (.agg [eOs 1 false F2_ (ca ++ ([de] : List (List Int))), eSl 1 true (eI .u64) ar]))), (44, .d (eSl 1 false F4_ l_)), (45, .d (I ((l_.length : Nat) : Int))), (46, .d (I cp))]) ⟨_, rfl⟩ (fun b10 => yF ((xNc Tryd.prog 63 10 (z3H b10)).or ((ZD (P := Tryd.prog) ve 59 1 [] (fa := .fn 39 []) (r := eSl 1 true (eI .u64) de) (xl := [(eSl 5 false (zb F4_ zG zD)) ah]) (xr := []) (qs := [(yg (zq (eI .i64) eB bz.states_)), (yg (zq F0_ eB bz.edges_)), (yg (zq zG eB bz.pairs_))]) (qs' := [(yg (zq (eI .i64) eB bz.states_)), (yg (zq F0_ eB bz.edges_)), (yg (zq zG eB bz.pairs_))]) (es := [(zq (eI .i64) eB bz.states_), (zq F0_ eB bz.edges_), (zq zG eB bz.pairs_)]) (es' := [(zq (eI .i64) eB bz.states_), (zq F0_ eB bz.edges_), (zq zG eB bz.pairs_)]) (.inl rfl) (z2A (by kernel_rfl)) (.cons (wx (zq (eI .i64) eB bz.states_)) (.cons (wx (zq F0_ eB bz.edges_)) (.cons (wx (zq zG eB bz.pairs_)) (.nil)))) (fun us hu => uQ hC _ _ _ h13 us hu) (some 60)).or ((xMv Tryd.prog 50 10 (z3H b10) rfl).or zA))) hC .normal [(1, .d (eSl 1 false F4_ l_)), (3, .own (.box (xH m_))), (9, .d (eSl 5 false (zb F4_ zG zD) ah)), (10, .own (.box (.agg [eOs 1 false F2_ (ca ++ ([de] : List (List Int))), eSl 1 true (eI .u64) ar]))), (44, .d (eSl 1 false F4_ l_)), (45, .d (I ((l_.length : Nat) : Int))), (46, .d (I cp))] [Hi F4_ h11, Hn (rfl : some (z3H b10) = some (z3H b10)), Hg (Kd h02), Hm (shM F4_ F4_ ([br])), Hs (Ke h02 (x := (m_, [br])) h12 (loC xH m_ <| loC F8_ ([br] : List (List Int)) <| loN)), Hm (shM F4_ F4_ ([br])), Hn (⟨rfl, leP (show WG [(eSl 5 false (zb F4_ zG zD)) ah] [(eSl 5 false (zb F4_ zG zD)) ah] from inferInstance), leP (show WG [] [] from inferInstance), rfl, rfl⟩ : ([.fn 39 []] : List A) = [.fn 39 []] ∧ LeP [(eSl 5 false (zb F4_ zG zD)) ah] [(eSl 5 false (zb F4_ zG zD)) ah] ∧ LeP [] [] ∧ T.als 59 [] 1 1 = T.als 59 [] 1 1 ∧ (some (.agg [.opq (yg (zq (eI .i64) eB bz.states_)), .opq (yg (zq F0_ eB bz.edges_)), .opq (yg (zq zG eB bz.pairs_))]) : Option A) = some (.agg [.opq (yg (zq (eI .i64) eB bz.states_)), .opq (yg (zq F0_ eB bz.edges_)), .opq (yg (zq zG eB bz.pairs_))])), Hq (dM F2_ ([de] : List (List Int))), Hn (dM F2_ ([de] : List (List Int))), Hn (aL F2_ F2_ g3), Hl (aM F2_ ca ([de] : List (List Int))), Hn (⟨rfl, rfl⟩ : T.d (.atom (z3H b10)) = T.d (.atom (z3H b10)) ∧ some (z3H b10) = some (z3H b10))] fun st0 h0 => ⟨rfl, h0⟩) fun st1 h1 => z4O h1 ?_
       obtain rfl := zg ae
       exact yB zA hC gm ((ca ++ ([de] : List (List Int))), w64 (cp + 1)) hl1 []
      ·obtain rfl := zg ae
       obtain rfl := hl1
       exact yB zA hC a7 ca aa [Hq c7]
def Qs : Code := (Tryd.f28.body).getD .skip
def kp : yD := spF (α := Unit) (ρ := z7) 28 (fun x => []) (fun r => z9D r) (fun x => X3) [] (fun _ _ _ => rfl)
theorem QD (hC : zP Tryd.prog ctr) : kp.Ok Tryd.prog := by
 refine y6 ?_
 rintro ⟨⟩ r0 aa
 try unfold X3 at aa
 refine yO false [(0, some 30)] Qs 9 Tryd.func28 fun E hE => ?_
 obtain rfl := zg aa
 exact yE X0 hC hE [Hm (shM (eOs 2 true F6_) zf8 ([[(zy.mk 1 0), (zy.mk 0 0)], [(zy.mk 0 1), (zy.mk 1 0)]]))]
def Zz : Code := (Tryd.f83.body).getD .skip
def vm : yD := spF (α := Int) (ρ := List UInt8) 83 (fun x => [(eI .i64) x]) (fun r => Um r) (fun x => uk x) [] (Jf)
theorem ZG (hC : zP Tryd.prog ctr) : vm.Ok Tryd.prog := by
 refine y6 ?_
 rintro i_ r0 aa
 try unfold uk at aa
 refine yO true [(2, none)] Zz 15 Tryd.func83 fun E hE => ?_
 rcases y5 aa with ⟨c0, aa⟩ | ⟨c0, aa⟩
 ·obtain ⟨g0, aa⟩ := gdE aa
  obtain rfl := zg aa
  exact yE ((ze4 zC 8).or X0) hC hE [Hq c0, Hn (stB (s := ([48,49,50,51,52,53,54,55,56,57,97,98,99,100,101,102,103,104,105,106,107,108,109,110,111,112,113,114,115,116,117,118,119,120,121,122] : List UInt8)) g0), Hx (.a (Um ((([48,49,50,51,52,53,54,55,56,57,97,98,99,100,101,102,103,104,105,106,107,108,109,110,111,112,113,114,115,116,117,118,119,120,121,122] : List UInt8).take (w64 (i_ + 1)).toNat).drop i_.toNat))) (za1 ([48,49,50,51,52,53,54,55,56,57,97,98,99,100,101,102,103,104,105,106,107,108,109,110,111,112,113,114,115,116,117,118,119,120,121,122] : List UInt8) i_ (w64 (i_ + 1)))]
 ·obtain ⟨g1, aa⟩ := gdE aa
  obtain rfl := zg aa
  exact yE ((ze4 zC 14).or X0) hC hE [Hq c0, Hn (stB (s := ([48,48,48,49,48,50,48,51,48,52,48,53,48,54,48,55,48,56,48,57,49,48,49,49,49,50,49,51,49,52,49,53,49,54,49,55,49,56,49,57,50,48,50,49,50,50,50,51,50,52,50,53,50,54,50,55,50,56,50,57,51,48,51,49,51,50,51,51,51,52,51,53,51,54,51,55,51,56,51,57,52,48,52,49,52,50,52,51,52,52,52,53,52,54,52,55,52,56,52,57,53,48,53,49,53,50,53,51,53,52,53,53,53,54,53,55,53,56,53,57,54,48,54,49,54,50,54,51,54,52,54,53,54,54,54,55,54,56,54,57,55,48,55,49,55,50,55,51,55,52,55,53,55,54,55,55,55,56,55,57,56,48,56,49,56,50,56,51,56,52,56,53,56,54,56,55,56,56,56,57,57,48,57,49,57,50,57,51,57,52,57,53,57,54,57,55,57,56,57,57] : List UInt8)) g1), Hx (.a (Um ((([48,48,48,49,48,50,48,51,48,52,48,53,48,54,48,55,48,56,48,57,49,48,49,49,49,50,49,51,49,52,49,53,49,54,49,55,49,56,49,57,50,48,50,49,50,50,50,51,50,52,50,53,50,54,50,55,50,56,50,57,51,48,51,49,51,50,51,51,51,52,51,53,51,54,51,55,51,56,51,57,52,48,52,49,52,50,52,51,52,52,52,53,52,54,52,55,52,56,52,57,53,48,53,49,53,50,53,51,53,52,53,53,53,54,53,55,53,56,53,57,54,48,54,49,54,50,54,51,54,52,54,53,54,54,54,55,54,56,54,57,55,48,55,49,55,50,55,51,55,52,55,53,55,54,55,55,55,56,55,57,56,48,56,49,56,50,56,51,56,52,56,53,56,54,56,55,56,56,56,57,57,48,57,49,57,50,57,51,57,52,57,53,57,54,57,55,57,56,57,57] : List UInt8).take (w64 ((w64 (i_ * 2)) + 2)).toNat).drop (w64 (i_ * 2)).toNat))) (za1 ([48,48,48,49,48,50,48,51,48,52,48,53,48,54,48,55,48,56,48,57,49,48,49,49,49,50,49,51,49,52,49,53,49,54,49,55,49,56,49,57,50,48,50,49,50,50,50,51,50,52,50,53,50,54,50,55,50,56,50,57,51,48,51,49,51,50,51,51,51,52,51,53,51,54,51,55,51,56,51,57,52,48,52,49,52,50,52,51,52,52,52,53,52,54,52,55,52,56,52,57,53,48,53,49,53,50,53,51,53,52,53,53,53,54,53,55,53,56,53,57,54,48,54,49,54,50,54,51,54,52,54,53,54,54,54,55,54,56,54,57,55,48,55,49,55,50,55,51,55,52,55,53,55,54,55,55,55,56,55,57,56,48,56,49,56,50,56,51,56,52,56,53,56,54,56,55,56,56,56,57,57,48,57,49,57,50,57,51,57,52,57,53,57,54,57,55,57,56,57,57] : List UInt8) (w64 (i_ * 2)) (w64 ((w64 (i_ * 2)) + 2)))]
def wv : Code := (Tryd.f72.body).getD .skip
def wp : yD := spF (α := Int × Int) (ρ := List UInt8) 72 (fun x => [(eI .i64) x.1, (eI .i64) x.2]) (fun r => Um r) (fun x => wR x.1 x.2) [] (V5)
abbrev qM (i_ : Int) (u_ : Int) : List (Nat × T) := [(0, .d (I i_)), (5, .own (.box (.agg [.atom (.int .u8 0), .atom (.int .u8 0), .atom (.int .u8 0), .atom (.int .u8 0), .atom (.int .u8 0), .atom (.int .u8 0), .atom (.int .u8 0), .atom (.int .u8 0), .atom (.int .u8 0), .atom (.int .u8 0), .atom (.int .u8 0), .atom (.int .u8 0), .atom (.int .u8 0), .atom (.int .u8 0), .atom (.int .u8 0), .atom (.int .u8 0), .atom (.int .u8 0), .atom (.int .u8 0), .atom (.int .u8 0), .atom (.int .u8 0), .atom (.int .u8 0), .atom (.int .u8 0), .atom (.int .u8 0), .atom (.int .u8 0)]))), (6, .d (.atom (.int .u64 u_)))]
abbrev qN (i_ : Int) : List (Nat × T) := [(0, .d (I i_))]
theorem jX (hC : zP Tryd.prog ctr) (h0P : ctr.Has vm) : wp.Ok Tryd.prog := by
 refine y6 ?_
 rintro ⟨i_, base⟩ r0 aa
 try unfold wR at aa
 refine yO true [(4, none)] wv 54 Tryd.func72 fun E hE => ?_
 rcases y5 aa with ⟨c0, aa⟩ | ⟨c0, aa⟩
 ·refine yJ X0 hC wv [1,0,1,0] [] [0] (fun z : Unit => x9 i_ = some r0) (fun z => qN i_) [(0, .d (I i_))] [Hq c0, Hh (.cut 0)] ?_ fun J1 a7 => ?_
  ·rintro ⟨⟩ aa
   unfold x9 at aa
   refine yJ X0 hC wv [1,0,1,0,1,1,1] [] [0,5,6] (fun z : Int => x6 z = some r0) (fun z => qM i_ z) [(0, .d (I i_)), (5, .own (.box (.agg [.atom (.int .u8 0), .atom (.int .u8 0), .atom (.int .u8 0), .atom (.int .u8 0), .atom (.int .u8 0), .atom (.int .u8 0), .atom (.int .u8 0), .atom (.int .u8 0), .atom (.int .u8 0), .atom (.int .u8 0), .atom (.int .u8 0), .atom (.int .u8 0), .atom (.int .u8 0), .atom (.int .u8 0), .atom (.int .u8 0), .atom (.int .u8 0), .atom (.int .u8 0), .atom (.int .u8 0), .atom (.int .u8 0), .atom (.int .u8 0), .atom (.int .u8 0), .atom (.int .u8 0), .atom (.int .u8 0), .atom (.int .u8 0)]))), (6, .d (.atom (.int .u64 (IntKind.u64.wrap (i_)))))] [Hh (.cut 2)] ?_ fun J2 a8 => ?_
   ·rintro u_ aa
    unfold x6 at aa
    cases aa
   ·rcases y5 aa with ⟨c1, aa⟩ | ⟨c1, aa⟩
    ·exact yB X0 hC a8 (IntKind.u64.wrap (0 - (IntKind.u64.wrap (i_)))) aa [Hq c1]
    ·exact yB X0 hC a8 (IntKind.u64.wrap (i_)) aa [Hq c1]
  ·rcases y5 aa with ⟨c2, aa⟩ | ⟨c2, aa⟩
   ·rcases y5 aa with ⟨c3, aa⟩ | ⟨c3, aa⟩
    ·obtain ⟨r_, h0, aa⟩ := zl aa
     obtain rfl := zg aa
     exact yE X0 hC hE [Hq c2, Hq c2, Hq c2, Hq c3, Hc h0P (x := i_) h0 (loC (eI .i64) i_ <| loN)]
    ·exact yB X0 hC a7 () aa [Hq c2, Hq c2, Hq c2, Hq c3]
   ·exact yB X0 hC a7 () aa [Hq c2, Hq c2, Hq c2, qF]
 ·cases aa
def ZR : Code := (Tryd.f52.body).getD .skip
def vD : yD := spF (α := Int) (ρ := List UInt8) 52 (fun x => [(eI .i64) x]) (fun r => Um r) (fun x => uz x) [] (Jf)
theorem ZX (hC : zP Tryd.prog ctr) (h0Q : ctr.Has wp) : vD.Ok Tryd.prog := by
 refine y6 ?_
 rintro i_ r0 aa
 try unfold uz at aa
 refine yO true [(2, none)] ZR 5 Tryd.func52 fun E hE => ?_
 obtain ⟨r_, h0, aa⟩ := zl aa
 obtain rfl := zg aa
 exact yE X0 hC hE [Hc h0Q (x := (i_, 10)) h0 (loC (eI .i64) i_ <| loC (eI .i64) 10 <| loN)]
def Qr : Code := (Tryd.f34.body).getD .skip
def ko : yD := spF (α := Int) (ρ := List UInt8) 34 (fun x => [(eI .i64) x]) (fun r => Um r) (fun x => vJ x) [] (Jf)
theorem QC (hC : zP Tryd.prog ctr) (h0R : ctr.Has vD) : ko.Ok Tryd.prog := by
 refine y6 ?_
 rintro i_ r0 aa
 try unfold vJ at aa
 refine yO true [(2, none)] Qr 5 Tryd.func34 fun E hE => ?_
 obtain ⟨r_, h0, aa⟩ := zl aa
 obtain rfl := zg aa
 exact yE X0 hC hE [Hc h0R (x := i_) h0 (loC (eI .i64) i_ <| loN)]
def ZT : Code := (Tryd.f13.body).getD .skip
def j4 : yD := spF (α := yb) (ρ := List UInt8) 13 (fun x => [zcx x]) (fun r => Um r) (fun x => Zs x) [] (Jf)
abbrev XB (s_ : List UInt8) : List (Nat × T) := [(3, .d (Um s_))]
theorem VN (hC : zP Tryd.prog ctr) (h05 : ctr.Has ko) : j4.Ok Tryd.prog := by
 refine y6 ?_
 rintro c_ r0 aa
 try unfold Zs at aa
 refine yO true [(2, none)] ZT 33 Tryd.func13 fun E hE => ?_
 refine yJ X0 hC ZT [1,1] [] [3] (fun z : List UInt8 => ja z = some r0) (fun z => XB z) [(1, .own (.box (zcx c_))), (3, .d (Um ([] : List UInt8)))] [Hh (.cut 2)] ?_ fun J1 a7 => ?_
 ·rintro s_ aa
  unfold ja at aa
  obtain rfl := zg aa
  exact yE X0 hC hE []
 ·obtain ⟨r_, h0, aa⟩ := zl aa
  obtain ⟨g0, aa⟩ := gdE aa
  obtain ⟨g1, aa⟩ := gdE aa
  obtain ⟨ah, h1, aa⟩ := zl aa
  obtain ⟨g2, aa⟩ := gdE aa
  obtain ⟨g3, aa⟩ := gdE aa
  obtain ⟨ak, h2, aa⟩ := zl aa
  obtain ⟨g4, aa⟩ := gdE aa
  obtain ⟨g5, aa⟩ := gdE aa
  obtain ⟨ar, h3, aa⟩ := zl aa
  obtain ⟨g6, aa⟩ := gdE aa
  obtain ⟨g7, aa⟩ := gdE aa
  obtain ⟨aw, h4, aa⟩ := zl aa
  obtain ⟨g8, aa⟩ := gdE aa
  obtain ⟨g9, aa⟩ := gdE aa
  obtain ⟨bi, h5, aa⟩ := zl aa
  obtain ⟨g10, aa⟩ := gdE aa
  obtain ⟨g11, aa⟩ := gdE aa
  exact yB ((z58 Tryd.prog 30).or ((z58 Tryd.prog 29).or ((z58 Tryd.prog 25).or ((z58 Tryd.prog 24).or X0)))) hC a7 (((([] : List UInt8) ++ (((([115,116,97,116,101,115,32] : List UInt8) ++ r_) ++ ([47] : List UInt8)) ++ ah)) ++ (((([44,32,101,100,103,101,115,32] : List UInt8) ++ ak) ++ ([47] : List UInt8)) ++ ar)) ++ (((([44,32,112,97,105,114,115,32] : List UInt8) ++ aw) ++ ([47] : List UInt8)) ++ bi)) aa [Hh (.u 70), qT, Hn (⟨rfl, by decide⟩ : true = true ∧ 0 < 2), Hc h05 (x := c_.States.e0) h0 (loC (eI .i64) c_.States.e0 <| loN), Hx (.a (Um (([115,116,97,116,101,115,32] : List UInt8) ++ r_))) (VO (l := ([115,116,97,116,101,115,32] : List UInt8)) (m := r_) g0), Hx (.a (Um ((([115,116,97,116,101,115,32] : List UInt8) ++ r_) ++ ([47] : List UInt8)))) (VO (l := (([115,116,97,116,101,115,32] : List UInt8) ++ r_)) (m := ([47] : List UInt8)) g1), Hn (⟨rfl, by decide⟩ : true = true ∧ 1 < 2), Hc h05 (x := c_.States.e1) h1 (loC (eI .i64) c_.States.e1 <| loN), Hx (.a (Um (((([115,116,97,116,101,115,32] : List UInt8) ++ r_) ++ ([47] : List UInt8)) ++ ah))) (VO (l := ((([115,116,97,116,101,115,32] : List UInt8) ++ r_) ++ ([47] : List UInt8))) (m := ah) g2), Hx (.a (Um (([] : List UInt8) ++ (((([115,116,97,116,101,115,32] : List UInt8) ++ r_) ++ ([47] : List UInt8)) ++ ah)))) (VO (l := ([] : List UInt8)) (m := (((([115,116,97,116,101,115,32] : List UInt8) ++ r_) ++ ([47] : List UInt8)) ++ ah)) g3), qT, Hn (⟨rfl, by decide⟩ : true = true ∧ 0 < 2), Hc h05 (x := c_.Edges.e0) h2 (loC (eI .i64) c_.Edges.e0 <| loN), Hx (.a (Um (([44,32,101,100,103,101,115,32] : List UInt8) ++ ak))) (VO (l := ([44,32,101,100,103,101,115,32] : List UInt8)) (m := ak) g4), Hx (.a (Um ((([44,32,101,100,103,101,115,32] : List UInt8) ++ ak) ++ ([47] : List UInt8)))) (VO (l := (([44,32,101,100,103,101,115,32] : List UInt8) ++ ak)) (m := ([47] : List UInt8)) g5), Hn (⟨rfl, by decide⟩ : true = true ∧ 1 < 2), Hc h05 (x := c_.Edges.e1) h3 (loC (eI .i64) c_.Edges.e1 <| loN), Hx (.a (Um (((([44,32,101,100,103,101,115,32] : List UInt8) ++ ak) ++ ([47] : List UInt8)) ++ ar))) (VO (l := ((([44,32,101,100,103,101,115,32] : List UInt8) ++ ak) ++ ([47] : List UInt8))) (m := ar) g6), Hx (.a (Um ((([] : List UInt8) ++ (((([115,116,97,116,101,115,32] : List UInt8) ++ r_) ++ ([47] : List UInt8)) ++ ah)) ++ (((([44,32,101,100,103,101,115,32] : List UInt8) ++ ak) ++ ([47] : List UInt8)) ++ ar)))) (VO (l := (([] : List UInt8) ++ (((([115,116,97,116,101,115,32] : List UInt8) ++ r_) ++ ([47] : List UInt8)) ++ ah))) (m := (((([44,32,101,100,103,101,115,32] : List UInt8) ++ ak) ++ ([47] : List UInt8)) ++ ar)) g7), qT, Hn (⟨rfl, by decide⟩ : true = true ∧ 0 < 2), Hc h05 (x := c_.Pairs.e0) h4 (loC (eI .i64) c_.Pairs.e0 <| loN), Hx (.a (Um (([44,32,112,97,105,114,115,32] : List UInt8) ++ aw))) (VO (l := ([44,32,112,97,105,114,115,32] : List UInt8)) (m := aw) g8), Hx (.a (Um ((([44,32,112,97,105,114,115,32] : List UInt8) ++ aw) ++ ([47] : List UInt8)))) (VO (l := (([44,32,112,97,105,114,115,32] : List UInt8) ++ aw)) (m := ([47] : List UInt8)) g9), Hn (⟨rfl, by decide⟩ : true = true ∧ 1 < 2), Hc h05 (x := c_.Pairs.e1) h5 (loC (eI .i64) c_.Pairs.e1 <| loN), Hx (.a (Um (((([44,32,112,97,105,114,115,32] : List UInt8) ++ aw) ++ ([47] : List UInt8)) ++ bi))) (VO (l := ((([44,32,112,97,105,114,115,32] : List UInt8) ++ aw) ++ ([47] : List UInt8))) (m := bi) g10), Hx (.a (Um (((([] : List UInt8) ++ (((([115,116,97,116,101,115,32] : List UInt8) ++ r_) ++ ([47] : List UInt8)) ++ ah)) ++ (((([44,32,101,100,103,101,115,32] : List UInt8) ++ ak) ++ ([47] : List UInt8)) ++ ar)) ++ (((([44,32,112,97,105,114,115,32] : List UInt8) ++ aw) ++ ([47] : List UInt8)) ++ bi)))) (VO (l := ((([] : List UInt8) ++ (((([115,116,97,116,101,115,32] : List UInt8) ++ r_) ++ ([47] : List UInt8)) ++ ah)) ++ (((([44,32,101,100,103,101,115,32] : List UInt8) ++ ak) ++ ([47] : List UInt8)) ++ ar))) (m := (((([44,32,112,97,105,114,115,32] : List UInt8) ++ aw) ++ ([47] : List UInt8)) ++ bi)) g11), qF]
def Yi : Code := (Tryd.f29.body).getD .skip
def Y3 : yD := spF (α := List (List Int) × List (List Int)) (ρ := Bool) 29 (fun x => [F9_ x.1, F9_ x.2]) (fun r => eB r) (fun x => Xi x.1 x.2) [] (V5)
abbrev VX : List (Nat × T) := []
abbrev VW (a_ : List (List Int)) (b_ : List (List Int)) (i_ : Int) : List (Nat × T) := [(0, .d (eSl 1 false F4_ a_)), (1, .d (eSl 1 false F4_ b_)), (5, .d (I i_))]
theorem KC (hC : zP Tryd.prog ctr) (h0e : ctr.Has uR) : Y3.Ok Tryd.prog := by
 refine y6 ?_
 rintro ⟨a_, b_⟩ r0 aa
 try unfold Xi at aa
 refine yO true [(4, none)] Yi 27 Tryd.func29 fun E hE => ?_
 let Z0 : List HO := [Ha (lnM F4_ a_), Ha (lnM F4_ b_)]
 rcases y5 aa with ⟨c0, aa⟩ | ⟨c0, aa⟩
 ·obtain rfl := zg aa
  exact yE X0 hC hE (Z0 ++ [Hq c0])
 ·refine yJ X0 hC Yi [1,1] [] [] (fun z : Unit => Y8 = some r0) (fun z => VX) [(0, .d (eSl 1 false F4_ a_)), (1, .d (eSl 1 false F4_ b_))] (Z0 ++ [Hq c0, Hh (.cut 0)]) ?_ fun J1 a7 => ?_
  ·rintro ⟨⟩ aa
   unfold Y8 at aa
   obtain rfl := zg aa
   exact yE X0 hC hE []
  ·obtain ⟨t2, ht2, aa⟩ := zl aa
   refine yL X0 hC Yi [1,1,2,1,0] [J1] (fun s => Y7 a_ b_ s) (fun x => VW a_ b_ x) 0 ht2  [] ?_
   rintro i_ m2 bm ae hl1 J2 a8
   try unfold Y7 at ae
   let Z1 : List HO := [Ha (lnM F4_ a_)]
   rcases y5 ae with ⟨c1, ae⟩ | ⟨c1, ae⟩
   ·obtain ⟨eu, h0, ae⟩ := zl ae
    obtain ⟨ew, h1, ae⟩ := zl ae
    obtain ⟨r_, h2, ae⟩ := zl ae
    let Z2 : List HO := (Z1 ++ [Hq c1, Hi F4_ h0, Hi F4_ h1, Hc h0e (x := (eu, ew)) h2 (loC F4_ eu <| loC F4_ ew <| loN)])
    rcases y5 ae with ⟨c2, ae⟩ | ⟨c2, ae⟩
    ·obtain rfl := zg ae
     obtain rfl := hl1
     obtain rfl := zg aa
     exact yE X0 hC hE (Z2 ++ [Hq c2])
    ·obtain rfl := zg ae
     exact yB X0 hC a8 (w64 (i_ + 1)) hl1 (Z2 ++ [Hq c2])
   ·obtain rfl := zg ae
    obtain rfl := hl1
    exact yB X0 hC a7 () aa (Z1 ++ [Hq c1])
def QL : Code := (Tryd.f10.body).getD .skip
def Zl : yD := spF (α := Unit) (ρ := Bool) 10 (fun x => []) (fun r => eB r) (fun x => uZ) [] (fun _ _ _ => rfl)
theorem JI (hC : zP Tryd.prog ctr) (h0S : ctr.Has kp) (h08 : ctr.Has qo) (h0a : ctr.Has um) (h0l : ctr.Has vN) (h0b : ctr.Has vM) (h0T : ctr.Has j4) (h0c : ctr.Has Y3) : Zl.Ok Tryd.prog := by
 refine y6 ?_
 rintro ⟨⟩ r0 aa
 try unfold uZ at aa
 refine yO true [(0, none)] QL 117 Tryd.func10 fun E hE => ?_
 obtain ⟨r_, h0, aa⟩ := zl aa
 obtain ⟨ah, h1, aa⟩ := zl aa
 obtain ⟨ak, h2, aa⟩ := zl aa
 obtain ⟨ar, h3, aa⟩ := zl aa
 obtain ⟨aw, h4, aa⟩ := zl aa
 obtain ⟨bi, h5, aa⟩ := zl aa
 let Z0 : List HO := [Hc h0S (x := ()) h0 (loN), Hc h08 (x := (r_, [])) h1 (loC z9D r_ <| loC F8_ ([] : List (List Int)) <| loN), Hg (Kd h08), Hm (shM F3_ F1_ ([[1], [0,0,1]])), Hs (Ke h08 (x := (r_, [[1], [0,0,1]])) h2 (loC z9D r_ <| loC F7_ ([[1], [0,0,1]] : List (List Int)) <| loN)), Hg (Kd h0a), Hm (shM F3_ F1_ ([[1], [0,0,1]])), Hs (Ke h0a (x := (r_, [[1], [0,0,1]])) h3 (loC z9D r_ <| loC F7_ ([[1], [0,0,1]] : List (List Int)) <| loN)), Hm (shM F3_ F1_ ([[1], [0,0,1]])), Hc h0l (x := (r_, [], 1)) h4 (loC z9D r_ <| loC F8_ ([] : List (List Int)) <| loC (eI .i64) 1 <| loN), Hg (Kd h0b), Hm (shM F3_ F1_ ([[0], [1], [0,0], [0,1,1]])), Hs (Ke h0b (x := (r_, [[0], [1], [0,0], [0,1,1]], 1)) h5 (loC z9D r_ <| loC F7_ ([[0], [1], [0,0], [0,1,1]] : List (List Int)) <| loC (eI .i64) 1 <| loN)), Hm (shM F3_ F1_ ([[0], [1], [0,0], [0,1,1]]))]
 rcases y5 aa with ⟨c0, aa⟩ | ⟨c0, aa⟩
 ·rcases y5 aa with ⟨c1, aa⟩ | ⟨c1, aa⟩
  ·let Z1 : List HO := (Z0 ++ [Hq c0, Hq c0, Hq c0, Hq c1, Hq c1, Hq c1])
   rcases y5 aa with ⟨c2, aa⟩ | ⟨c2, aa⟩
   ·rcases y5 aa with ⟨c3, aa⟩ | ⟨c3, aa⟩
    ·let Z2 : List HO := (Z1 ++ [Hq c2, Hq c2, Hq c2, Hq c3, Hq c3, Hq c3])
     rcases y5 aa with ⟨c4, aa⟩ | ⟨c4, aa⟩
     ·let Z3 : List HO := (Z2 ++ (rpN 7 (Hq c4) []))
      rcases y5 aa with ⟨c5, aa⟩ | ⟨c5, aa⟩
      ·obtain ⟨ba, h6, aa⟩ := zl aa
       let Z4 : List HO := (Z3 ++ [Hq c5, Hq c5, Hc h0T (x := ah.1) h6 (loC zcx ah.1 <| loN), Hq c5, Hx (.a (.atom (.bool (ba == ([115,116,97,116,101,115,32,49,47,50,44,32,101,100,103,101,115,32,48,47,52,44,32,112,97,105,114,115,32,48,47,56] : List UInt8))))) (zfi ba ([115,116,97,116,101,115,32,49,47,50,44,32,101,100,103,101,115,32,48,47,52,44,32,112,97,105,114,115,32,48,47,56] : List UInt8)), Hq c5])
       rcases y5 aa with ⟨c6, aa⟩ | ⟨c6, aa⟩
       ·let Z5 : List HO := (Z4 ++ (rpN 7 (Hq c6) []))
        rcases y5 aa with ⟨c7, aa⟩ | ⟨c7, aa⟩
        ·let Z6 : List HO := (Z5 ++ [Hq c7, Hq c7, Ha (lnM F0_ ar.1), Hq c7, Hq c7])
         rcases y5 aa with ⟨c8, aa⟩ | ⟨c8, aa⟩
         ·obtain ⟨u_, h7, aa⟩ := zl aa
          let Z7 : List HO := (Z6 ++ (Hq c8 :: Hq c8 :: Hi F0_ h7 :: (rpN 4 (Hq c8) [])))
          rcases y5 aa with ⟨c9, aa⟩ | ⟨c9, aa⟩
          ·obtain ⟨da, h8, aa⟩ := zl aa
           let Z8 : List HO := (Z7 ++ (rpN 7 (Hq c9) [Hg (Kd h0c), Hm (shM F3_ F1_ ([[0], [1], [0,0], [0,1]])), Hs (Ke h0c (x := (aw.1, [[0], [1], [0,0], [0,1]])) h8 (loC F7_ aw.1 <| loC F7_ ([[0], [1], [0,0], [0,1]] : List (List Int)) <| loN)), Hq c9]))
           rcases y5 aa with ⟨c10, aa⟩ | ⟨c10, aa⟩
           ·obtain ⟨cr, h9, aa⟩ := zl aa
            obtain rfl := zg aa
            exact yE ((z0G zC 86).or ((z58 Tryd.prog 78).or ((z0G zC 73).or X0))) hC hE (Z8 ++ (rpN 6 (Hq c10) [Hg (Kd h0c), Hm (shM F3_ F1_ ([[1], [0,0], [0,1,1]])), Hs (Ke h0c (x := (bi.1, [[1], [0,0], [0,1,1]])) h9 (loC F7_ bi.1 <| loC F7_ ([[1], [0,0], [0,1,1]] : List (List Int)) <| loN)), Hq c10]))
           ·obtain rfl := zg aa
            exact yE ((z0G zC 86).or ((z58 Tryd.prog 78).or ((z0G zC 73).or X0))) hC hE (Z8 ++ (rpN 7 (Hq c10) []))
          ·obtain rfl := zg aa
           exact yE ((z0G zC 86).or ((z58 Tryd.prog 78).or ((z0G zC 73).or X0))) hC hE (Z7 ++ (rpN 8 (Hq c9) (rpN 7 qF [])))
         ·obtain rfl := zg aa
          exact yE ((z0G zC 86).or ((z58 Tryd.prog 78).or ((z0G zC 73).or X0))) hC hE (Z6 ++ (rpN 6 (Hq c8) (rpN 15 qF [])))
        ·obtain rfl := zg aa
         exact yE ((z0G zC 86).or ((z58 Tryd.prog 78).or ((z0G zC 73).or X0))) hC hE (Z5 ++ (rpN 4 (Hq c7) (rpN 21 qF [])))
       ·obtain rfl := zg aa
        exact yE ((z58 Tryd.prog 78).or ((z0G zC 73).or X0)) hC hE (Z4 ++ (rpN 7 (Hq c6) (rpN 25 qF [])))
      ·obtain rfl := zg aa
       exact yE ((z0G zC 73).or X0) hC hE (Z3 ++ (rpN 4 (Hq c5) (rpN 32 qF [])))
     ·obtain rfl := zg aa
      exact yE X0 hC hE (Z2 ++ (rpN 7 (Hq c4) (rpN 36 qF [])))
    ·obtain rfl := zg aa
     exact yE X0 hC hE (Z1 ++ (Hq c2 :: Hq c2 :: Hq c2 :: Hq c3 :: Hq c3 :: Hq c3 :: (rpN 43 qF [])))
   ·obtain rfl := zg aa
    exact yE X0 hC hE (Z1 ++ (Hq c2 :: Hq c2 :: Hq c2 :: (rpN 46 qF [])))
  ·obtain rfl := zg aa
   exact yE X0 hC hE (Z0 ++ (Hq c0 :: Hq c0 :: Hq c0 :: Hq c1 :: Hq c1 :: Hq c1 :: (rpN 49 qF [])))
 ·obtain rfl := zg aa
  exact yE X0 hC hE (Z0 ++ (Hq c0 :: Hq c0 :: Hq c0 :: (rpN 52 qF [])))
set_option maxRecDepth 100000
set_option maxHeartbeats 8000000
def yx : Code := (Tryd.f5.body).getD .skip
def vC : yD := spF (α := z7 × List (List Int) × Int) (ρ := Bool) 5 (fun x => [xH x.1, F9_ x.2.1, (eI .i64) x.2.2]) (fun r => eB r) (fun x => v8 x.1 x.2.1 x.2.2) [] (zct)
abbrev kM (m_ : z7) (l_ : List (List Int)) (goal : Int) (want : Int) : List (Nat × T) := [(1, .d (eSl 1 false F4_ l_)), (2, .d (I goal)), (3, .own (.box (xH m_))), (9, .d (I want))]
abbrev kN (m_ : z7) (l_ : List (List Int)) (goal : Int) : List (Nat × T) := [(1, .d (eSl 1 false F4_ l_)), (2, .d (I goal)), (3, .own (.box (xH m_)))]
abbrev kL (m_ : z7) (l_ : List (List Int)) (goal : Int) (i_ : Int) : List (Nat × T) := [(1, .d (eSl 1 false F4_ l_)), (2, .d (I goal)), (3, .own (.box (xH m_))), (8, .d (I i_))]
abbrev kO (m_ : z7) (l_ : List (List Int)) (goal : Int) : List (Nat × T) := [(1, .d (eSl 1 false F4_ l_)), (2, .d (I goal)), (3, .own (.box (xH m_)))]
abbrev kK (m_ : z7) (l_ : List (List Int)) (goal : Int) (ga : Int) : List (Nat × T) := [(1, .d (eSl 1 false F4_ l_)), (2, .d (I goal)), (3, .own (.box (xH m_))), (7, .d (I ga))]
theorem ZW (hC : zP Tryd.prog ctr) (h0U : ctr.Has Zk) (h0V : ctr.Has Zj) (h08 : ctr.Has qo) (h0W : ctr.Has uY) (h0a : ctr.Has um) (h0X : ctr.Has qn) (h0l : ctr.Has vN) (h0b : ctr.Has vM) (h0d : ctr.Has Zl) : vC.Ok Tryd.prog := by
 refine y6 ?_
 rintro ⟨m_, l_, goal⟩ r0 aa
 try unfold v8 at aa
 refine yO true [(6, none)] yx 210 Tryd.func5 fun E hE => ?_
 let Z0 : List HO := [Ha (lnM jB m_.Rows)]
 rcases y5 aa with ⟨c0, aa⟩ | ⟨c0, aa⟩
 ·obtain rfl := zg aa
  exact yE X0 hC hE (Z0 ++ (rpN 4 (Hq c0) [qT]))
 ·let Z1 : List HO := (Z0 ++ [Hq c0, Hq c0, Ha (lnM F4_ l_), Hq c0, Hq c0])
  rcases y5 aa with ⟨c1, aa⟩ | ⟨c1, aa⟩
  ·obtain rfl := zg aa
   exact yE X0 hC hE (Z1 ++ [Hq c1])
  ·refine yJ X0 hC yx [1,1] [] [1,2,3] (fun z : Unit => wn m_ l_ goal = some r0) (fun z => kO m_ l_ goal) [(1, .d (eSl 1 false F4_ l_)), (2, .d (I goal)), (3, .own (.box (xH m_)))] (Z1 ++ [Hq c1, Hh (.cut 0)]) ?_ fun J1 a7 => ?_
   ·rintro ⟨⟩ aa
    unfold wn at aa
    refine yJ X0 hC yx [1,1,1] [] [1,2,3] (fun z : Unit => xm m_ l_ goal = some r0) (fun z => kN m_ l_ goal) [(1, .d (eSl 1 false F4_ l_)), (2, .d (I goal)), (3, .own (.box (xH m_)))] [Hh (.cut 0)] ?_ fun J2 a8 => ?_
    ·rintro ⟨⟩ aa
     unfold xm at aa
     obtain ⟨r_, h0, aa⟩ := zl aa
     refine yJ X0 hC yx [1,1,1,1,1] [] [1,2,3,9] (fun z : Int => ya m_ l_ goal z = some r0) (fun z => kM m_ l_ goal z) [(1, .d (eSl 1 false F4_ l_)), (2, .d (I goal)), (3, .own (.box (xH m_))), (9, .d (I r_))] [Hc h0U (x := m_) h0 (loC xH m_ <| loN), Hh (.cut 0)] ?_ fun J3 cj => ?_
     ·rintro want aa
      unfold ya at aa
      obtain ⟨ah, h1, aa⟩ := zl aa
      obtain ⟨ak, h2, aa⟩ := zl aa
      obtain ⟨ar, h3, aa⟩ := zl aa
      obtain ⟨aw, h4, aa⟩ := zl aa
      obtain ⟨bi, h5, aa⟩ := zl aa
      obtain ⟨ba, h6, aa⟩ := zl aa
      let Z2 : List HO := [Hc h08 (x := (m_, l_)) h1 (loC xH m_ <| loC F9_ l_ <| loN), Hc h0W (x := (m_, l_)) h2 (loC xH m_ <| loC F9_ l_ <| loN), Hc h0a (x := (m_, l_)) h3 (loC xH m_ <| loC F9_ l_ <| loN), Hc h0X (x := (m_, l_)) h4 (loC xH m_ <| loC F9_ l_ <| loN), Hc h0l (x := (m_, l_, goal)) h5 (loC xH m_ <| loC F9_ l_ <| loC (eI .i64) goal <| loN), Hc h0b (x := (m_, l_, goal)) h6 (loC xH m_ <| loC F9_ l_ <| loC (eI .i64) goal <| loN)]
      rcases y5 aa with ⟨c2, aa⟩ | ⟨c2, aa⟩
      ·rcases y5 aa with ⟨c3, aa⟩ | ⟨c3, aa⟩
       ·let Z3 : List HO := (Z2 ++ (Hq c2 :: (rpN 4 (Hq c3) [])))
        rcases y5 aa with ⟨c4, aa⟩ | ⟨c4, aa⟩
        ·let Z4 : List HO := (Z3 ++ (rpN 4 (Hq c4) []))
         rcases y5 aa with ⟨c5, aa⟩ | ⟨c5, aa⟩
         ·let Z5 : List HO := (Z4 ++ (rpN 4 (Hq c5) []))
          rcases y5 aa with ⟨c6, aa⟩ | ⟨c6, aa⟩
          ·let Z6 : List HO := (Z5 ++ (rpN 4 (Hq c6) []))
           rcases y5 aa with ⟨c7, aa⟩ | ⟨c7, aa⟩
           ·let Z7 : List HO := (Z6 ++ (rpN 4 (Hq c7) []))
            rcases y5 aa with ⟨c8, aa⟩ | ⟨c8, aa⟩
            ·let Z8 : List HO := (Z7 ++ (rpN 4 (Hq c8) []))
             rcases y5 aa with ⟨c9, aa⟩ | ⟨c9, aa⟩
             ·let Z9 : List HO := (Z8 ++ [Hq c9, Hq c9, Ha (lnM (eI .i64) ak.1), Hq c9, Hq c9, Ha (lnM F0_ ar.1), Hq c9, Hq c9, Hq c9, Ha (lnM zG aw.1), Hq c9, Hq c9, Hq c9, Ha (lnM F1_ bi.1), Hq c9, Hq c9, Hq c9, Ha (lnM F1_ ba.1), Hq c9, Hq c9, Hq c9])
              rcases y5 aa with ⟨c10, aa⟩ | ⟨c10, aa⟩
              ·obtain ⟨da, h7, aa⟩ := zl aa
               obtain rfl := zg aa
               exact yE ((z0G zC 136).or X0) hC hE (Z9 ++ [Hq c10, Hc h0d (x := ()) h7 (loN), Hq c10])
              ·obtain rfl := zg aa
               exact yE ((z0G zC 136).or X0) hC hE (Z9 ++ [Hq c10, Hq c10])
             ·obtain rfl := zg aa
              exact yE ((z0G zC 136).or X0) hC hE (Z8 ++ (rpN 16 (Hq c9) [qF, qF]))
            ·obtain rfl := zg aa
             exact yE X0 hC hE (Z7 ++ (rpN 4 (Hq c8) (rpN 18 qF [])))
           ·obtain rfl := zg aa
            exact yE X0 hC hE (Z6 ++ (rpN 4 (Hq c7) (rpN 22 qF [])))
          ·obtain rfl := zg aa
           exact yE X0 hC hE (Z5 ++ (rpN 4 (Hq c6) (rpN 26 qF [])))
         ·obtain rfl := zg aa
          exact yE X0 hC hE (Z4 ++ (rpN 4 (Hq c5) (rpN 30 qF [])))
        ·obtain rfl := zg aa
         exact yE X0 hC hE (Z3 ++ (rpN 4 (Hq c4) (rpN 34 qF [])))
       ·obtain rfl := zg aa
        exact yE X0 hC hE (Z2 ++ (Hq c2 :: (rpN 4 (Hq c3) (rpN 38 qF []))))
      ·rcases y5 aa with ⟨c11, aa⟩ | ⟨c11, aa⟩
       ·let Z10 : List HO := (Z2 ++ [Hq c2, Hq c11, Hq c11, Hq c11, qT])
        rcases y5 aa with ⟨c12, aa⟩ | ⟨c12, aa⟩
        ·rcases y5 aa with ⟨c13, aa⟩ | ⟨c13, aa⟩
         ·let Z11 : List HO := (Z10 ++ [Hq c12, Hq c12, Hq c12, Hq c13, Hq c13, Hq c13])
          rcases y5 aa with ⟨c14, aa⟩ | ⟨c14, aa⟩
          ·let Z12 : List HO := (Z11 ++ [Hq c14, Hq c14, Ha (lnM F1_ bi.1), Hq c14, Hq c14, Ha (lnM F1_ ba.1), Hq c14, Hq c14, Hq c14])
           rcases y5 aa with ⟨c15, aa⟩ | ⟨c15, aa⟩
           ·obtain ⟨cr, h8, aa⟩ := zl aa
            obtain rfl := zg aa
            exact yE X0 hC hE (Z12 ++ [Hq c15, Hc h0d (x := ()) h8 (loN), Hq c15])
           ·obtain rfl := zg aa
            exact yE X0 hC hE (Z12 ++ [Hq c15, Hq c15])
          ·obtain rfl := zg aa
           exact yE X0 hC hE (Z11 ++ (rpN 7 (Hq c14) [qF, qF]))
         ·obtain rfl := zg aa
          exact yE X0 hC hE (Z10 ++ (Hq c12 :: Hq c12 :: Hq c12 :: Hq c13 :: Hq c13 :: Hq c13 :: (rpN 9 qF [])))
        ·obtain rfl := zg aa
         exact yE X0 hC hE (Z10 ++ (Hq c12 :: Hq c12 :: Hq c12 :: (rpN 12 qF [])))
       ·let Z13 : List HO := (Z2 ++ [Hq c2, Hq c11, Hq c11, Hq c11])
        rcases y5 aa with ⟨c16, aa⟩ | ⟨c16, aa⟩
        ·rcases y5 aa with ⟨c17, aa⟩ | ⟨c17, aa⟩
         ·let Z14 : List HO := (Z13 ++ [Hq c16, Hq c17, Hq c17, Hq c17])
          rcases y5 aa with ⟨c18, aa⟩ | ⟨c18, aa⟩
          ·rcases y5 aa with ⟨c19, aa⟩ | ⟨c19, aa⟩
           ·let Z15 : List HO := (Z14 ++ [Hq c18, Hq c18, Hq c18, Hq c19, Hq c19, Ha (lnM F1_ bi.1), Hq c19, Hq c19, Ha (lnM F1_ ba.1), Hq c19, Hq c19, Hq c19])
            rcases y5 aa with ⟨c20, aa⟩ | ⟨c20, aa⟩
            ·obtain ⟨bz, h9, aa⟩ := zl aa
             obtain rfl := zg aa
             exact yE X0 hC hE (Z15 ++ [Hq c20, Hc h0d (x := ()) h9 (loN), Hq c20])
            ·obtain rfl := zg aa
             exact yE X0 hC hE (Z15 ++ [Hq c20, Hq c20])
           ·obtain rfl := zg aa
            exact yE X0 hC hE (Z14 ++ (Hq c18 :: Hq c18 :: Hq c18 :: (rpN 7 (Hq c19) [qF, qF])))
          ·obtain rfl := zg aa
           exact yE X0 hC hE (Z14 ++ (Hq c18 :: Hq c18 :: Hq c18 :: (rpN 9 qF [])))
         ·obtain rfl := zg aa
          exact yE X0 hC hE (Z13 ++ (Hq c16 :: Hq c17 :: Hq c17 :: Hq c17 :: (rpN 12 qF [])))
        ·rcases y5 aa with ⟨c21, aa⟩ | ⟨c21, aa⟩
         ·let Z16 : List HO := (Z13 ++ [Hq c16, Hq c21, Hq c21, Hq c21])
          rcases y5 aa with ⟨c22, aa⟩ | ⟨c22, aa⟩
          ·let Z17 : List HO := (Z16 ++ (rpN 4 (Hq c22) [Ha (lnM F4_ l_), Hq c22, Hq c22, Hq c22]))
           rcases y5 aa with ⟨c23, aa⟩ | ⟨c23, aa⟩
           ·let Z18 : List HO := (Z17 ++ (rpN 4 (Hq c23) [Ha (lnM F4_ l_), Hq c23, Hq c23, Hq c23]))
            rcases y5 aa with ⟨c24, aa⟩ | ⟨c24, aa⟩
            ·obtain ⟨de, h10, aa⟩ := zl aa
             obtain rfl := zg aa
             exact yE X0 hC hE (Z18 ++ [Hq c24, Hc h0d (x := ()) h10 (loN), Hq c24])
            ·obtain rfl := zg aa
             exact yE X0 hC hE (Z18 ++ [Hq c24, Hq c24])
           ·obtain rfl := zg aa
            exact yE X0 hC hE (Z17 ++ (rpN 7 (Hq c23) [qF, qF]))
          ·obtain rfl := zg aa
           exact yE X0 hC hE (Z16 ++ (rpN 7 (Hq c22) (rpN 9 qF [])))
         ·obtain rfl := zg aa
          exact yE X0 hC hE (Z13 ++ (Hq c16 :: Hq c21 :: Hq c21 :: Hq c21 :: (rpN 16 qF [])))
     ·rcases y5 aa with ⟨c25, aa⟩ | ⟨c25, aa⟩
      ·obtain ⟨gh, h11, aa⟩ := zl aa
       exact yB X0 hC cj gh aa [Hq c25, Hc h0V (x := (l_, m_.Inputs)) h11 (loC F9_ l_ <| loC (eI .i64) m_.Inputs <| loN)]
      ·exact yB X0 hC cj r_ aa [Hq c25]
    ·obtain ⟨t4, ht4, aa⟩ := zl aa
     refine yL X0 hC yx [1,1,1,2,1,0] [J2] (fun s => xk l_ s) (fun x => kL m_ l_ goal x) 0 ht4  [] ?_
     rintro i_ m4 bm ae hl1 J4 dz
     try unfold xk at ae
     let Z19 : List HO := [Ha (lnM F4_ l_)]
     rcases y5 ae with ⟨c26, ae⟩ | ⟨c26, ae⟩
     ·obtain ⟨az, h12, ae⟩ := zl ae
      let Z20 : List HO := (Z19 ++ [Hq c26, Hi F4_ h12, Ha (lnM (eI .i64) az)])
      rcases y5 ae with ⟨c27, ae⟩ | ⟨c27, ae⟩
      ·obtain rfl := zg ae
       obtain rfl := hl1
       obtain rfl := zg aa
       exact yE X0 hC hE (Z20 ++ [Hq c27])
      ·obtain rfl := zg ae
       exact yB X0 hC dz (w64 (i_ + 1)) hl1 (Z20 ++ [Hq c27])
     ·obtain rfl := zg ae
      obtain rfl := hl1
      exact yB X0 hC a8 () aa (Z19 ++ [Hq c26])
   ·obtain ⟨t5, ht5, aa⟩ := zl aa
    refine yL X0 hC yx [1,1,2,1,0] [J1] (fun s => xj m_ s) (fun x => kK m_ l_ goal x) 0 ht5  [] ?_
    rintro ga m5 bm ae hl1 J5 dp
    try unfold xj at ae
    let Z21 : List HO := [Ha (lnM jB m_.Rows)]
    rcases y5 ae with ⟨c28, ae⟩ | ⟨c28, ae⟩
    ·obtain ⟨au, h13, ae⟩ := zl ae
     let Z22 : List HO := (Z21 ++ [Hq c28, Hi jB h13, Ha (lnM F6_ au)])
     rcases y5 ae with ⟨c29, ae⟩ | ⟨c29, ae⟩
     ·obtain rfl := zg ae
      obtain rfl := hl1
      obtain rfl := zg aa
      exact yE X0 hC hE (Z22 ++ [Hq c29])
     ·obtain rfl := zg ae
      exact yB X0 hC dp (w64 (ga + 1)) hl1 (Z22 ++ [Hq c29])
    ·obtain rfl := zg ae
     obtain rfl := hl1
     exact yB X0 hC a7 () aa (Z21 ++ [Hq c28])
end Go.Own
end
