/- -/
import Derived.Test.YtmedkleidpbgpaaPartE
noncomputable section
set_option linter.unusedVariables false
set_option linter.unusedSimpArgs false
namespace Go.Own
open Go.Proofs
set_option maxRecDepth 100000
set_option maxHeartbeats 8000000
def X0 : XH Try.prog := xB zp
theorem YL : Try.prog.follows .mixedOrders = true := by kernel_rfl
section
variable {ctr : Ctr} {n : Fr} {Q : Exit → St → Prop} {c : Code} {fs : List Fm} {st : St}
theorem yE (X : XH Try.prog) (hC : zJ Try.prog ctr) {E : St → Prop} {r : A} {keep : Bool} {rs : List (Nat × Option Nat)} (hE : ∀ st x R U, z2T xp keep rs st = some (x, R, U) → LeV x r → E st) (L : List HO) (e : z83 X xp ctr n keep rs 4000 c fs st (hoH L) = some (r, hoO L) := by kernel_rfl) : AWP Try.prog n c st (Qf Try.prog n fs (z67 E)) := yE6 X zp hC YL hE L e
theorem yEx (X : XH Try.prog) (hC : zJ Try.prog ctr) {E : St → Prop} {r : A} {keep : Bool} {rs : List (Nat × Option Nat)} (hE : ∀ st x R U, z2T xp keep rs st = some (x, R, U) → LeV x r → E st) (L : List HO) (x : A) (hle : LeV x r) (e : z83 X xp ctr n keep rs 4000 c fs st (hoH L) = some (x, hoO L) := by kernel_rfl) : AWP Try.prog n c st (Qf Try.prog n fs (z67 E)) := zaN X zp hC YL hE L x hle e
theorem yB (X : XH Try.prog) (hC : zJ Try.prog ctr) {τ : Type} {J : St → Prop} {live : List Nat} {S : τ → List (Nat × T)} {Inv : τ → Prop} (hJ : ∀ st' l' z, Inv z → Own.canon live st' = ofL l' → LeL l' (S z) → J st') (z : τ) (hz : Inv z) (L : List HO) (e : Qj X xp ctr n live 4000 c fs st (hoH L) = some (.back J, ofL (S z), hoO L) := by kernel_rfl) : AWP Try.prog n c st (Qf Try.prog n fs Q) := yB6 X zp hC YL hJ z hz L e
theorem yBx (X : XH Try.prog) (hC : zJ Try.prog ctr) {τ : Type} {J : St → Prop} {live : List Nat} {S : τ → List (Nat × T)} {Inv : τ → Prop} (hJ : ∀ st' l' z, Inv z → Own.canon live st' = ofL l' → LeL l' (S z) → J st') (z : τ) (hz : Inv z) (l : List (Nat × T)) (hl : LeL l (S z)) (L : List HO) (e : Qj X xp ctr n live 4000 c fs st (hoH L) = some (.back J, ofL l, hoO L) := by kernel_rfl) : AWP Try.prog n c st (Qf Try.prog n fs Q) := zaO X zp hC YL hJ z hz l hl L e
theorem yA (X : XH Try.prog) (hC : zJ Try.prog ctr) (bd : Code) (path : List Nat) (Js : List (St → Prop)) (l : List (Nat × T)) (L : List HO) (h : AWP Try.prog n (sub path bd) (ofL l) (Qf Try.prog n (frs path Js bd []) Q)) (e : Qj X xp ctr n (X4 l) 4000 c fs st (hoH L) = some (.at (sub path bd) (frs path Js bd []), ofL l, hoO L) := by kernel_rfl) : AWP Try.prog n c st (Qf Try.prog n fs Q) := yA6 X zp hC YL bd path Js l L e h
theorem yAt (X : XH Try.prog) (hC : zJ Try.prog ctr) (c' : Code) (fs' : List Fm) (l : List (Nat × T)) (L : List HO) (h : ∀ st0, Own.canon (X4 l) st0 = ofL l → AWP Try.prog n c' st0 (Qf Try.prog n fs' Q)) (e : Qj X xp ctr n (X4 l) 4000 c fs st (hoH L) = some (.at c' fs', ofL l, hoO L) := by kernel_rfl) : AWP Try.prog n c st (Qf Try.prog n fs Q) := zaP X zp hC YL c' fs' l L e h
theorem yLx (X : XH Try.prog) (hC : zJ Try.prog ctr) (bd : Code) (path : List Nat) (Js : List (St → Prop)) {σ τ : Type} (f : σ → Option (LR σ τ)) (S : σ → List (Nat × T)) (x0 : σ) {t : τ} (ht : loop f x0 = some t) (l : List (Nat × T)) (hl : LeL l (S x0)) (L : List HO) (round : ∀ x m lr, f x = some lr → z9q f m t lr → ∀ J : St → Prop, (∀ st' l' x', ZY f m x' = some t → Own.canon (X4 l) st' = ofL l' → LeL l' (S x') → J st') → AWP Try.prog n (sub (path ++ [0]) bd) (ofL (S x)) (Qf Try.prog n (.pre J :: frs path Js bd []) Q)) (e : Qj X xp ctr n (X4 l) 4000 c fs st (hoH L) = some (.at (sub path bd) (frs path Js bd []), ofL l, hoO L) := by kernel_rfl) (e2 : sub path bd = .loop (sub (path ++ [0]) bd) := by kernel_rfl) (hk : ∀ x, X4 (S x) = X4 l := by exact fun _ => rfl) : AWP Try.prog n c st (Qf Try.prog n fs Q) := yL6 X zp hC YL bd path Js f S x0 ht l hl L hk e e2 round
theorem yL (X : XH Try.prog) (hC : zJ Try.prog ctr) (bd : Code) (path : List Nat) (Js : List (St → Prop)) {σ τ : Type} (f : σ → Option (LR σ τ)) (S : σ → List (Nat × T)) (x0 : σ) {t : τ} (ht : loop f x0 = some t) (L : List HO) (round : ∀ x m lr, f x = some lr → z9q f m t lr → ∀ J : St → Prop, (∀ st' l' x', ZY f m x' = some t → Own.canon (X4 (S x0)) st' = ofL l' → LeL l' (S x') → J st') → AWP Try.prog n (sub (path ++ [0]) bd) (ofL (S x)) (Qf Try.prog n (.pre J :: frs path Js bd []) Q)) (e : Qj X xp ctr n (X4 (S x0)) 4000 c fs st (hoH L) = some (.at (sub path bd) (frs path Js bd []), ofL (S x0), hoO L) := by kernel_rfl) (e2 : sub path bd = .loop (sub (path ++ [0]) bd) := by kernel_rfl) (hk : ∀ x, X4 (S x) = X4 (S x0) := by exact fun _ => rfl) : AWP Try.prog n c st (Qf Try.prog n fs Q) := yL6 X zp hC YL bd path Js f S x0 ht _ (LeL.refl _) L hk e e2 round
theorem yJ (X : XH Try.prog) (hC : zJ Try.prog ctr) (bd : Code) (path : List Nat) (Js : List (St → Prop)) {σ : Type} (live : List Nat) (Inv : σ → Prop) (S : σ → List (Nat × T)) (l : List (Nat × T)) (L : List HO) (h1 : ∀ z, Inv z → AWP Try.prog n (sub (path ++ [1]) bd) (ofL (S z)) (Qf Try.prog n (frs path Js bd []) Q)) (h2 : ∀ J : St → Prop, (∀ st' l' z, Inv z → Own.canon live st' = ofL l' → LeL l' (S z) → J st') → AWP Try.prog n (sub (path ++ [2]) bd) (ofL l) (Qf Try.prog n (.pre J :: frs path Js bd []) Q)) (e : Qj X xp ctr n (X4 l) 4000 c fs st (hoH L) = some (.at (sub path bd) (frs path Js bd []), ofL l, hoO L) := by kernel_rfl) (e2 : sub path bd = .seq (sub (path ++ [2]) bd) (sub (path ++ [1]) bd) := by kernel_rfl) : AWP Try.prog n c st (Qf Try.prog n fs Q) := yJ6 X zp hC YL bd path Js live Inv S l L e e2 h1 h2
theorem yF (X : XH Try.prog) (hC : zJ Try.prog ctr) (ex : Exit) (l : List (Nat × T)) (L : List HO) (h : ∀ st0, Own.canon (X4 l) st0 = ofL l → Q ex st0) (e : Qj X xp ctr n (X4 l) 4000 c fs st (hoH L) = some (.fin ex, ofL l, hoO L) := by kernel_rfl) : AWP Try.prog n c st (Qf Try.prog n fs Q) := yF6 X zp hC YL ex l L e h
theorem yO {k : Nat} {fn : Func} {r : A} {ls : List A} (keep : Bool) (rs : List (Nat × Option Nat)) (body : Code) (nt : Nat) (hf : Try.prog.funcs[k]? = some fn) (h : ∀ E : St → Prop, (∀ st x R U, z2T xp keep rs st = some (x, R, U) → LeV x r → E st) → AWP Try.prog ⟨nt, []⟩ body (ofL (z2m 0 ls)) (Qf Try.prog ⟨nt, []⟩ [] (z67 E))) (hb : fn.body = some body := by kernel_rfl) (hn : nt = fn.ntmps := by exact rfl) (hr : fn.results = (rs.map z4r).toArray := by exact rfl) (hnm : (fn.name == "runtime.NumGoroutine") = false := by exact rfl) (ha : Nat.ble ls.length nt = true := by kernel_rfl) : Yv Try.prog k ls r := yO6 zp keep rs body nt hf hb hn hr hnm ha h
end
theorem z7c : z9p Try.prog 99 9 := z6T (e := 5) Try.underlying99 Try.underlying5 Try.underlying9
theorem z7p : z7U Try.prog 63 9 4 Jn (.atom (.bool false)) := z52 Try.underlying63 Try.underlying9 ⟨.bool false, fun w => z4n (f := Try.t4) (by kernel_rfl) rfl w, fun S => wY.2 ⟨rfl, rfl⟩⟩ rfl
theorem z9C : z7T Try.prog 62 1 false := z4G zp (t := 29) Try.so62 rfl rfl (by kernel_rfl) (by decide)
def V5 : Code := (Try.f91.body).getD .skip
def qH : wD := spF (α := Int × Int) (ρ := Bool) 91 (fun x => [(eI .i64) x.1, (eSp (eI .i64)) x.2]) (fun r => eB r) (fun x => qP x.1 x.2) [] (Vt)
variable {ctr : Ctr}
theorem VA (hC : zJ Try.prog ctr) : qH.Ok Try.prog := by
 refine zX ?_
 rintro ⟨c_, x1⟩ r0 aa
 try unfold qP at aa
 refine yO true [(3, none)] V5 11 Try.func91 fun E hE => ?_
 rcases zD aa with ⟨c0, aa⟩ | ⟨c0, aa⟩
 ·obtain rfl := z8 aa
  exact yE X0 hC hE (rpN 4 (Hq c0) [])
 ·obtain rfl := z8 aa
  exact yE X0 hC hE (rpN 4 (Hq c0) [])
def xT : Code := (Try.f94.body).getD .skip
def xP : wD := spF (α := List Int × Int) (ρ := Int) 94 (fun x => [F2_ x.1, (z2n 91 (eSp (eI .i64))) x.2]) (fun r => (eI .i64) r) (fun x => xy x.1 x.2) [] (by
 rintro ⟨a0, a1⟩ ⟨b0, b1⟩ h
 have e0 := kP.inj (f := F2_) _ _ (List.cons.inj h).1
 replace h := (List.cons.inj h).2
 have e1 := kP.inj (f := (z2n 91 (eSp (eI .i64)))) _ _ (List.cons.inj h).1
 subst e0 e1
 rfl)
abbrev qB : List (Nat × T) := []
abbrev qA (s_ : List Int) (f_ : Int) (x8 : Int) : List (Nat × T) := [(0, .d (eSl 1 false (eI .i64) s_)), (1, .d (.fn 91 [.sptr (I f_)])), (7, .d (I ((s_.length : Nat) : Int))), (8, .d (I x8))]
theorem k0 (hC : zJ Try.prog ctr) (h0A : ctr.Has qH) : xP.Ok Try.prog := by
 refine zX ?_
 rintro ⟨s_, f_⟩ r0 aa
 try unfold xy at aa
 refine yO true [(4, none)] xT 19 Try.func94 fun E hE => ?_
 refine yJ X0 hC xT [1] [] [] (fun z : Unit => xQ = some r0) (fun z => qB) [(0, .d (eSl 1 false (eI .i64) s_)), (1, .d (.fn 91 [.sptr (I f_)]))] [Hh (.cut 1)] ?_ fun J1 a7 => ?_
 ·rintro ⟨⟩ aa
  unfold xQ at aa
  obtain rfl := z8 aa
  exact yE X0 hC hE []
 ·obtain ⟨t2, ht2, aa⟩ := zg aa
  refine yL X0 hC xT [1,2,1,0] [J1] (fun s => y5 s_ f_ s) (fun x => qA s_ f_ x) 0 ht2  [Ha (lnM (eI .i64) s_)] ?_
  rintro x8 m2 bi ae hl1 J2 bc
  try unfold y5 at ae
  rcases zD ae with ⟨c0, ae⟩ | ⟨c0, ae⟩
  ·obtain ⟨d0, h0, ae⟩ := zg ae
   obtain ⟨r_, h1, ae⟩ := zg ae
   let Z0 : List HO := [Hq c0, Hi (eI .i64) h0, Hc h0A (x := (d0, f_)) h1 (loC (eI .i64) d0 <| loC (eSp (eI .i64)) f_ <| loN)]
   rcases zD ae with ⟨c1, ae⟩ | ⟨c1, ae⟩
   ·obtain rfl := z8 ae
    obtain rfl := hl1
    obtain rfl := z8 aa
    exact yE X0 hC hE (Z0 ++ [Hq c1])
   ·obtain rfl := z8 ae
    exact yB X0 hC bc (w64 (x8 + 1)) hl1 (Z0 ++ [Hq c1])
  ·obtain rfl := z8 ae
   obtain rfl := hl1
   exact yB X0 hC a7 () aa [Hq c0]
def qw : Code := (Try.f73.body).getD .skip
def xi : wD := spF (α := List Int × Int) (ρ := Bool) 73 (fun x => [F2_ x.1, (z2n 91 (eSp (eI .i64))) x.2]) (fun r => eB r) (fun x => yN x.1 x.2) [] (by
 rintro ⟨a0, a1⟩ ⟨b0, b1⟩ h
 have e0 := kP.inj (f := F2_) _ _ (List.cons.inj h).1
 replace h := (List.cons.inj h).2
 have e1 := kP.inj (f := (z2n 91 (eSp (eI .i64)))) _ _ (List.cons.inj h).1
 subst e0 e1
 rfl)
theorem qD (hC : zJ Try.prog ctr) (h0B : ctr.Has xP) : xi.Ok Try.prog := by
 refine zX ?_
 rintro ⟨s_, f_⟩ r0 aa
 try unfold yN at aa
 refine yO true [(4, none)] qw 9 Try.func73 fun E hE => ?_
 obtain ⟨r_, h0, aa⟩ := zg aa
 obtain rfl := z8 aa
 exact yE X0 hC hE [Hc h0B (x := (s_, f_)) h0 (loC F2_ s_ <| loC (z2n 91 (eSp (eI .i64))) f_ <| loN)]
def Q0 : Code := (Try.f68.body).getD .skip
def kw : wD := spF (α := List Int × Int) (ρ := Int) 68 (fun x => [F2_ x.1, (eI .i64) x.2]) (fun r => (eI .i64) r) (fun x => uR x.1 x.2) [] (Vt)
theorem QJ (hC : zJ Try.prog ctr) (h0C : ctr.Has xi) : kw.Ok Try.prog := by
 refine zX ?_
 rintro ⟨w_, inputs⟩ r0 aa
 try unfold uR at aa
 refine yO true [(4, none)] Q0 19 Try.func68 fun E hE => ?_
 rcases zD aa with ⟨c0, aa⟩ | ⟨c0, aa⟩
 ·obtain rfl := z8 aa
  exact yE X0 hC hE (rpN 4 (Hq c0) [qT])
 ·let Z0 : List HO := [Hq c0, Hq c0, Ha (lnM (eI .i64) w_), Hq c0, Hq c0]
  rcases zD aa with ⟨c1, aa⟩ | ⟨c1, aa⟩
  ·obtain rfl := z8 aa
   exact yE X0 hC hE (Z0 ++ [Hq c1])
  ·rcases zD aa with ⟨c2, aa⟩ | ⟨c2, aa⟩
   ·obtain rfl := z8 aa
    exact yE X0 hC hE (Z0 ++ (Hq c1 :: (rpN 4 (Hq c2) [qT])))
   ·obtain ⟨r_, h0, aa⟩ := zg aa
    let Z1 : List HO := (Z0 ++ [Hq c1, Hq c2, Hq c2, Hq c2, Hc h0C (x := (w_, inputs)) h0 (loC F2_ w_ <| loC (z2n 91 (eSp (eI .i64))) inputs <| loN), Hq c2])
    rcases zD aa with ⟨c3, aa⟩ | ⟨c3, aa⟩
    ·obtain rfl := z8 aa
     exact yE X0 hC hE (Z1 ++ [Hq c3])
    ·obtain rfl := z8 aa
     exact yE X0 hC hE (Z1 ++ [Hq c3])
def kL : Code := (Try.f28.body).getD .skip
def qd : wD := spF (α := List (List Int) × Int) (ρ := Int) 28 (fun x => [F6_ x.1, (eI .i64) x.2]) (fun r => (eI .i64) r) (fun x => uS x.1 x.2) [] (Vt)
abbrev Wp : List (Nat × T) := []
abbrev Wo (l_ : List (List Int)) (inputs : Int) (da : Int) : List (Nat × T) := [(1, .d (I inputs)), (17, .d (eSl 1 false F2_ l_)), (18, .d (I ((l_.length : Nat) : Int))), (19, .d (I da))]
theorem QM (hC : zJ Try.prog ctr) (h0D : ctr.Has kw) : qd.Ok Try.prog := by
 refine zX ?_
 rintro ⟨l_, inputs⟩ r0 aa
 try unfold uS at aa
 refine yO true [(4, none)] kL 30 Try.func28 fun E hE => ?_
 rcases zD aa with ⟨c0, aa⟩ | ⟨c0, aa⟩
 ·obtain rfl := z8 aa
  exact yE X0 hC hE (rpN 4 (Hq c0) [qT])
 ·let Z0 : List HO := [Hq c0, Hq c0, Ha (lnM F2_ l_), Hq c0, Hq c0]
  rcases zD aa with ⟨c1, aa⟩ | ⟨c1, aa⟩
  ·obtain rfl := z8 aa
   exact yE X0 hC hE (Z0 ++ [Hq c1])
  ·rcases zD aa with ⟨c2, aa⟩ | ⟨c2, aa⟩
   ·obtain rfl := z8 aa
    exact yE X0 hC hE (Z0 ++ [Hq c1, Hq c2])
   ·refine yJ X0 hC kL [1,1,1] [] [] (fun z : Unit => kr = some r0) (fun z => Wp) [(0, .d (eSl 1 false F2_ l_)), (1, .d (I inputs))] (Z0 ++ [Hq c1, Hq c2, Hh (.cut 0)]) ?_ fun J1 a7 => ?_
    ·rintro ⟨⟩ aa
     unfold kr at aa
     obtain rfl := z8 aa
     exact yE X0 hC hE []
    ·obtain ⟨t2, ht2, aa⟩ := zg aa
     refine yL X0 hC kL [1,1,1,2,1,0] [J1] (fun s => vb l_ inputs s) (fun x => Wo l_ inputs x) 0 ht2  [Ha (lnM F2_ l_)] ?_
     rintro da m2 bi ae hl1 J2 bc
     try unfold vb at ae
     rcases zD ae with ⟨c3, ae⟩ | ⟨c3, ae⟩
     ·obtain ⟨cd, h0, ae⟩ := zg ae
      obtain ⟨r_, h1, ae⟩ := zg ae
      let Z1 : List HO := [Hq c3, Hi F2_ h0, Hc h0D (x := (cd, inputs)) h1 (loC F2_ cd <| loC (eI .i64) inputs <| loN)]
      rcases zD ae with ⟨c4, ae⟩ | ⟨c4, ae⟩
      ·obtain rfl := z8 ae
       obtain rfl := hl1
       obtain rfl := z8 aa
       exact yE X0 hC hE (Z1 ++ [Hq c4])
      ·obtain rfl := z8 ae
       exact yB X0 hC bc (w64 (da + 1)) hl1 (Z1 ++ [Hq c4])
     ·obtain rfl := z8 ae
      obtain rfl := hl1
      exact yB X0 hC a7 () aa [Hq c3]
def V6 : Code := (Try.f112.body).getD .skip
def qJ : wD := spF (α := Int) (ρ := Bool) 112 (fun x => [(eI .i64) x]) (fun r => eB r) (fun x => uz x) [] (UP)
theorem VD (hC : zJ Try.prog ctr) : qJ.Ok Try.prog := by
 refine zX ?_
 rintro x_ r0 aa
 try unfold uz at aa
 refine yO true [(2, none)] V6 6 Try.func112 fun E hE => ?_
 obtain rfl := z8 aa
 exact yE X0 hC hE []
def XI : Code := (Try.f89.body).getD .skip
def vo : wD := spF (α := Int × Int) (ρ := Int) 89 (fun x => [(eI .i64) x.1, (eI .i64) x.2]) (fun r => (eI .i64) r) (fun x => wB x.1 x.2) [] (Vt)
theorem W2 (hC : zJ Try.prog ctr) (h0t : ctr.Has qJ) : vo.Ok Try.prog := by
 refine zX ?_
 rintro ⟨x_, y_⟩ r0 aa
 try unfold wB at aa
 refine yO true [(4, none)] XI 20 Try.func89 fun E hE => ?_
 obtain ⟨r_, h0, aa⟩ := zg aa
 obtain ⟨ah, h1, aa⟩ := zg aa
 let Z0 : List HO := [Hc h0t (x := x_) h0 (loC (eI .i64) x_ <| loN), Hc h0t (x := y_) h1 (loC (eI .i64) y_ <| loN)]
 rcases zD aa with ⟨c0, aa⟩ | ⟨c0, aa⟩
 ·rcases zD aa with ⟨c1, aa⟩ | ⟨c1, aa⟩
  ·obtain rfl := z8 aa
   exact yE X0 hC hE (Z0 ++ [Hq c0, Hq c1])
  ·obtain rfl := z8 aa
   exact yE X0 hC hE (Z0 ++ [Hq c0, Hq c1])
 ·rcases zD aa with ⟨c2, aa⟩ | ⟨c2, aa⟩
  ·obtain rfl := z8 aa
   exact yE X0 hC hE (Z0 ++ [Hq c0, Hq c2])
  ·rcases zD aa with ⟨c3, aa⟩ | ⟨c3, aa⟩
   ·obtain rfl := z8 aa
    exact yE X0 hC hE (Z0 ++ [Hq c0, Hq c2, Hq c3])
   ·rcases zD aa with ⟨c4, aa⟩ | ⟨c4, aa⟩
    ·obtain rfl := z8 aa
     exact yE X0 hC hE (Z0 ++ [Hq c0, Hq c2, Hq c3, Hq c4])
    ·obtain rfl := z8 aa
     exact yE X0 hC hE (Z0 ++ [Hq c0, Hq c2, Hq c3, Hq c4])
def wk : Code := (Try.f90.body).getD .skip
def wj : wD := spF (α := List Int × List Int) (ρ := Int) 90 (fun x => [F2_ x.1, F2_ x.2]) (fun r => (eI .i64) r) (fun x => yX x.1 x.2) [] (Vt)
abbrev j9 (s1 : List Int) (s2 : List Int) : List (Nat × T) := [(0, .d (eSl 1 false (eI .i64) s1)), (1, .d (eSl 1 false (eI .i64) s2))]
abbrev j8 (s1 : List Int) (s2 : List Int) (dx : Int) : List (Nat × T) := [(0, .d (eSl 1 false (eI .i64) s1)), (1, .d (eSl 1 false (eI .i64) s2)), (9, .d (eSl 1 false (eI .i64) s1)), (10, .d (I ((s1.length : Nat) : Int))), (11, .d (I dx))]
theorem kQ (hC : zJ Try.prog ctr) (h0h : ctr.Has vo) : wj.Ok Try.prog := by
 refine zX ?_
 rintro ⟨s1, s2⟩ r0 aa
 try unfold yX at aa
 refine yO true [(4, none)] wk 36 Try.func90 fun E hE => ?_
 refine yJ X0 hC wk [1] [] [0,1] (fun z : Unit => x9 s1 s2 = some r0) (fun z => j9 s1 s2) [(0, .d (eSl 1 false (eI .i64) s1)), (1, .d (eSl 1 false (eI .i64) s2))] [Hh (.cut 1)] ?_ fun J1 a7 => ?_
 ·rintro ⟨⟩ aa
  unfold x9 at aa
  let Z0 : List HO := [Ha (lnM (eI .i64) s1), Ha (lnM (eI .i64) s2)]
  rcases zD aa with ⟨c0, aa⟩ | ⟨c0, aa⟩
  ·obtain rfl := z8 aa
   exact yE X0 hC hE (Z0 ++ [Hq c0])
  ·obtain rfl := z8 aa
   exact yE X0 hC hE (Z0 ++ [Hq c0])
 ·obtain ⟨t2, ht2, aa⟩ := zg aa
  refine yL X0 hC wk [1,2,1,0] [J1] (fun s => yd s1 s2 s) (fun x => j8 s1 s2 x) 0 ht2  [Ha (lnM (eI .i64) s1)] ?_
  rintro dx m2 bi ae hl1 J2 bc
  try unfold yd at ae
  rcases zD ae with ⟨c1, ae⟩ | ⟨c1, ae⟩
  ·obtain ⟨jg, h0, ae⟩ := zg ae
   let Z1 : List HO := [Hq c1, Hi (eI .i64) h0, Ha (lnM (eI .i64) s2)]
   rcases zD ae with ⟨c2, ae⟩ | ⟨c2, ae⟩
   ·obtain rfl := z8 ae
    obtain rfl := hl1
    obtain rfl := z8 aa
    exact yE X0 hC hE (Z1 ++ [Hq c2])
   ·obtain ⟨iu, h1, ae⟩ := zg ae
    obtain ⟨r_, h2, ae⟩ := zg ae
    let Z2 : List HO := (Z1 ++ [Hq c2, Hi (eI .i64) h1, Hc h0h (x := (jg, iu)) h2 (loC (eI .i64) jg <| loC (eI .i64) iu <| loN)])
    rcases zD ae with ⟨c3, ae⟩ | ⟨c3, ae⟩
    ·obtain rfl := z8 ae
     obtain rfl := hl1
     obtain rfl := z8 aa
     exact yE X0 hC hE (Z2 ++ [Hq c3])
    ·obtain rfl := z8 ae
     exact yB X0 hC bc (w64 (dx + 1)) hl1 (Z2 ++ [Hq c3])
  ·obtain rfl := z8 ae
   obtain rfl := hl1
   exact yB X0 hC a7 () aa [Hq c1]
def ZK : Code := (Try.f88.body).getD .skip
def Zr : wD := spF (α := List Int) (ρ := Int) 88 (fun x => [F2_ x]) (fun r => (eI .i64) r) (fun x => Za x) [] (UP)
abbrev Vm : List (Nat × T) := [(3, .d (I 0))]
abbrev Vl (vals : List Int) (x8 : Int) : List (Nat × T) := [(3, .d (I 0)), (6, .d (eSl 1 false (eI .i64) vals)), (7, .d (I ((vals.length : Nat) : Int))), (8, .d (I x8))]
theorem K8 (hC : zJ Try.prog ctr) : Zr.Ok Try.prog := by
 refine zX ?_
 rintro vals r0 aa
 try unfold Za at aa
 refine yO true [(2, none)] ZK 18 Try.func88 fun E hE => ?_
 refine yJ X0 hC ZK [1,1] [] [3] (fun z : Unit => j0 = some r0) (fun z => Vm) [(0, .d (eSl 1 false (eI .i64) vals)), (3, .d (I 0))] [Hh (.cut 2)] ?_ fun J1 a7 => ?_
 ·rintro ⟨⟩ aa
  unfold j0 at aa
  obtain rfl := z8 aa
  exact yE X0 hC hE []
 ·obtain ⟨t2, ht2, aa⟩ := zg aa
  refine yL X0 hC ZK [1,1,2,1,0] [J1] (fun s => vT vals s) (fun x => Vl vals x) 0 ht2  [Ha (lnM (eI .i64) vals)] ?_
  rintro x8 m2 bi ae hl1 J2 bc
  try unfold vT at ae
  rcases zD ae with ⟨c0, ae⟩ | ⟨c0, ae⟩
  ·obtain ⟨iv, h0, ae⟩ := zg ae
   rcases zD ae with ⟨c1, ae⟩ | ⟨c1, ae⟩
   ·obtain rfl := z8 ae
    obtain rfl := hl1
    obtain rfl := z8 aa
    exact yE X0 hC hE [Hq c0, Hi (eI .i64) h0, Hq c1]
   ·obtain rfl := z8 ae
    exact yB X0 hC bc (w64 (x8 + 1)) hl1 [Hq c0, Hi (eI .i64) h0, Hq c1]
  ·obtain rfl := z8 ae
   obtain rfl := hl1
   exact yB X0 hC a7 () aa [Hq c0]
def V4 : Code := (Try.f63.body).getD .skip
def wW : wD := spF (α := List Int × List Int) (ρ := Int) 63 (fun x => [F2_ x.1, F2_ x.2]) (fun r => (eI .i64) r) (fun x => yo x.1 x.2) [] (Vt)
theorem Vz (hC : zJ Try.prog ctr) (h0h : ctr.Has vo) (h0E : ctr.Has wj) (h0u : ctr.Has Zr) : wW.Ok Try.prog := by
 refine zX ?_
 rintro ⟨a_, b_⟩ r0 aa
 try unfold yo at aa
 refine yO true [(4, none)] V4 15 Try.func63 fun E hE => ?_
 obtain ⟨r_, h0, aa⟩ := zg aa
 obtain ⟨ah, h1, aa⟩ := zg aa
 obtain ⟨aq, h2, aa⟩ := zg aa
 obtain rfl := z8 aa
 exact yE X0 hC hE [Ha (lnM (eI .i64) a_), Ha (lnM (eI .i64) b_), Hc h0h (x := (((a_.length : Nat) : Int), ((b_.length : Nat) : Int))) h0 (loC (eI .i64) ((a_.length : Nat) : Int) <| loC (eI .i64) ((b_.length : Nat) : Int) <| loN), Hc h0E (x := (a_, b_)) h1 (loC F2_ a_ <| loC F2_ b_ <| loN), Hg (ZT h0u), Hm (shM (eI .i64) (eI .i64) ([r_, ah])), Hs (ZU h0u (x := [r_, ah]) h2 (loC F0_ [r_, ah] <| loN))]
def kM : Code := (Try.f29.body).getD .skip
def ky : wD := spF (α := List (List Int)) (ρ := Bool) 29 (fun x => [F6_ x]) (fun r => eB r) (fun x => jF x) [] (UP)
abbrev Wr : List (Nat × T) := []
abbrev Wq (l_ : List (List Int)) (i_ : Int) : List (Nat × T) := [(0, .d (eSl 1 false F2_ l_)), (3, .d (I i_))]
theorem QN (hC : zJ Try.prog ctr) (h0b : ctr.Has wW) : ky.Ok Try.prog := by
 refine zX ?_
 rintro l_ r0 aa
 try unfold jF at aa
 refine yO true [(2, none)] kM 21 Try.func29 fun E hE => ?_
 refine yJ X0 hC kM [1] [] [] (fun z : Unit => qb = some r0) (fun z => Wr) [(0, .d (eSl 1 false F2_ l_))] [Hh (.cut 1)] ?_ fun J1 a7 => ?_
 ·rintro ⟨⟩ aa
  unfold qb at aa
  obtain rfl := z8 aa
  exact yE X0 hC hE []
 ·obtain ⟨t2, ht2, aa⟩ := zg aa
  refine yL X0 hC kM [1,2,1,0] [J1] (fun s => vd l_ s) (fun x => Wq l_ x) 1 ht2  [] ?_
  rintro i_ m2 bi ae hl1 J2 bc
  try unfold vd at ae
  let Z0 : List HO := [Ha (lnM F2_ l_)]
  rcases zD ae with ⟨c0, ae⟩ | ⟨c0, ae⟩
  ·obtain ⟨cd, h0, ae⟩ := zg ae
   obtain ⟨gx, h1, ae⟩ := zg ae
   obtain ⟨r_, h2, ae⟩ := zg ae
   let Z1 : List HO := (Z0 ++ [Hq c0, Hi F2_ h0, Hi F2_ h1, Hc h0b (x := (cd, gx)) h2 (loC F2_ cd <| loC F2_ gx <| loN)])
   rcases zD ae with ⟨c1, ae⟩ | ⟨c1, ae⟩
   ·obtain rfl := z8 ae
    obtain rfl := hl1
    obtain rfl := z8 aa
    exact yE X0 hC hE (Z1 ++ [Hq c1])
   ·obtain rfl := z8 ae
    exact yB X0 hC bc (w64 (i_ + 1)) hl1 (Z1 ++ [Hq c1])
  ·obtain rfl := z8 ae
   obtain rfl := hl1
   exact yB X0 hC a7 () aa (Z0 ++ [Hq c0])
def kK : Code := (Try.f30.body).getD .skip
def vg : wD := spF (α := List (List Int)) (ρ := Int) 30 (fun x => [F6_ x]) (fun r => (eI .i64) r) (fun x => vz x) [] (UP)
abbrev Wn (n_ : Int) : List (Nat × T) := [(2, .d (I n_))]
abbrev Wm (l_ : List (List Int)) (bn : Int) (x7 : Int) : List (Nat × T) := [(2, .d (I bn)), (5, .d (eSl 1 false F2_ l_)), (6, .d (I ((l_.length : Nat) : Int))), (7, .d (I x7))]
theorem QL (hC : zJ Try.prog ctr) : vg.Ok Try.prog := by
 refine zX ?_
 rintro l_ r0 aa
 try unfold vz at aa
 refine yO true [(2, none)] kK 17 Try.func30 fun E hE => ?_
 refine yJ X0 hC kK [1] [] [2] (fun z : Int => kq z = some r0) (fun z => Wn z) [(0, .d (eSl 1 false F2_ l_)), (2, .d (I 0))] [Hh (.cut 1)] ?_ fun J1 a7 => ?_
 ·rintro n_ aa
  unfold kq at aa
  obtain rfl := z8 aa
  exact yE X0 hC hE []
 ·obtain ⟨t2, ht2, aa⟩ := zg aa
  refine yL X0 hC kK [1,2,1,0] [J1] (fun s => v8 l_ s.1 s.2) (fun x => Wm l_ x.1 x.2) (0,0) ht2  [Ha (lnM F2_ l_)] ?_
  rintro ⟨bn, x7⟩ m2 bi ae hl1 J2 bc
  try unfold v8 at ae
  rcases zD ae with ⟨c0, ae⟩ | ⟨c0, ae⟩
  ·obtain ⟨cd, h0, ae⟩ := zg ae
   obtain rfl := z8 ae
   exact yB X0 hC bc (w64 (bn + ((cd.length : Nat) : Int)), w64 (x7 + 1)) hl1 [Hq c0, Hi F2_ h0, Ha (lnM (eI .i64) cd)]
  ·obtain rfl := z8 ae
   obtain rfl := hl1
   exact yB X0 hC a7 bn aa [Hq c0]
def Q5 : Code := (Try.f9.body).getD .skip
def yI : wD := spF (α := List (List Int) × Int) (ρ := Int) 9 (fun x => [F6_ x.1, (eI .i64) x.2]) (fun r => (eI .i64) r) (fun x => y4 x.1 x.2) [] (Vt)
theorem QT (hC : zJ Try.prog ctr) (h0i : ctr.Has qd) (h0F : ctr.Has ky) (h07 : ctr.Has vg) : yI.Ok Try.prog := by
 refine zX ?_
 rintro ⟨l_, inputs⟩ r0 aa
 try unfold y4 at aa
 refine yO true [(4, none)] Q5 18 Try.func9 fun E hE => ?_
 obtain ⟨r_, h0, aa⟩ := zg aa
 let Z0 : List HO := [Hc h0i (x := (l_, inputs)) h0 (loC F6_ l_ <| loC (eI .i64) inputs <| loN)]
 rcases zD aa with ⟨c0, aa⟩ | ⟨c0, aa⟩
 ·obtain rfl := z8 aa
  exact yE X0 hC hE (Z0 ++ [Hq c0])
 ·obtain ⟨ah, h1, aa⟩ := zg aa
  let Z1 : List HO := (Z0 ++ [Hq c0, Hc h0F (x := l_) h1 (loC F6_ l_ <| loN)])
  rcases zD aa with ⟨c1, aa⟩ | ⟨c1, aa⟩
  ·obtain rfl := z8 aa
   exact yE X0 hC hE (Z1 ++ [Hq c1])
  ·obtain ⟨aq, h2, aa⟩ := zg aa
   let Z2 : List HO := (Z1 ++ [Hq c1, Hc h07 (x := l_) h2 (loC F6_ l_ <| loN)])
   rcases zD aa with ⟨c2, aa⟩ | ⟨c2, aa⟩
   ·obtain rfl := z8 aa
    exact yE X0 hC hE (Z2 ++ [Hq c2])
   ·obtain rfl := z8 aa
    exact yE X0 hC hE (Z2 ++ [Hq c2])
def vG : Code := (Try.f92.body).getD .skip
abbrev Ze (b_ : ze) (bp : List Int) : List (Nat × T) := [(0, .own (.box (z8b b_))), (3, .own (.box (.agg [eOs 1 true (eI .i64) bp, B false])))]
abbrev Zd (b_ : ze) (bg : List Int) (gh : Int) : List (Nat × T) := [(0, .own (.box (z8b b_))), (3, .own (.box (.agg [eOs 1 true (eI .i64) bg, B false]))), (13, .d (I (((List.replicate b_.inputs_.toNat (0 : Int)).length : Nat) : Int))), (14, .d (I gh))]
theorem qN (hC : zJ Try.prog ctr) (dj : Value) : ∀ (b_ : ze) (r0 : Int × ze), xw b_ = some r0 → u4 Try.prog (.fn 92 []) [.atom dj] ([dj].zip [.box (.agg [I b_.inputs_, eOs 2 false F8_ b_.nodes_])]) (I r0.1) [.box (.agg [I r0.2.inputs_, eOs 2 false F8_ r0.2.nodes_])] := by
 intro b_ r0 aa
 refine z5e (tt := xp) (nt := 38) (body := vG) [0] zp Try.func92 rfl (by kernel_rfl) rfl rfl (by show (1 : Nat) ≤ 38; decide) (by decide) rfl rfl rfl rfl (fun E hE => ?_) rfl
 unfold xw at aa
 refine z9a 0 (v := dj) (y := .box (.agg [I b_.inputs_, eOs 2 false F8_ b_.nodes_])) (by kernel_rfl) (by kernel_rfl) (by kernel_rfl) fun hv0 => ?_
 obtain ⟨g0, aa⟩ := gdE aa
 refine yJ X0 hC vG [1,1] [] [0,3] (fun z : List Int => w4 b_ z = some r0) (fun z => Ze b_ z) [(0, .own (.box (z8b b_))), (3, .own (.box (.agg [eOs 1 true (eI .i64) (List.replicate b_.inputs_.toNat (0 : Int)), B false])))] [Hn (rL g0), Ha (rM 1 (eI .i64) b_.inputs_ (0 : Int)), Hh (.cut 0)] ?_ fun J1 a7 => ?_
 ·rintro bp aa
  unfold w4 at aa
  obtain ⟨g1, aa⟩ := gdE aa
  obtain rfl := z8 aa
  exact yF ((xNc Try.prog 30 0 dj).or ((xMv Try.prog 22 0 dj hv0).or X0)) hC .ret [(0, .own (.box (.agg [I b_.inputs_, eOs 2 false F8_ (b_.nodes_ ++ [(z6.mk bp false)])]))), (2, .d (I (w64 ((((b_.nodes_ ++ [(z6.mk bp false)]).length : Nat) : Int) - 1))))] [Hn (rfl : some dj = some dj), Hq (oC F8_ (z6.mk bp false) []), Hn (aL F8_ F8_ g1), Hl (aM F8_ b_.nodes_ [(z6.mk bp false)]), Hn (⟨rfl, rfl⟩ : T.d (.atom dj) = T.d (.atom dj) ∧ some dj = some dj), Ha (lnM F8_ (b_.nodes_ ++ [(z6.mk bp false)]))] fun st0 h0 => hE _ st0 (.inr rfl) (z0v h0 ⟨⟨rfl, rfl⟩, trivial⟩) (zbb h0 rfl rfl)
 ·obtain ⟨t2, ht2, aa⟩ := zg aa
  refine yL X0 hC vG [1,1,2,1,0] [J1] (fun s => y6 b_ s.1 s.2) (fun x => Zd b_ x.1 x.2) ((List.replicate b_.inputs_.toNat (0 : Int)), 0) ht2  [Ha (lnM (eI .i64) (List.replicate b_.inputs_.toNat (0 : Int)))] ?_
  rintro ⟨bg, gh⟩ m2 bi ae hl1 J2 bc
  try unfold y6 at ae
  rcases zD ae with ⟨c0, ae⟩ | ⟨c0, ae⟩
  ·obtain ⟨fj, h0, ae⟩ := zg ae
   obtain rfl := z8 ae
   exact yB X0 hC bc ((bg.set gh.toNat (-1)), w64 (gh + 1)) hl1 [Hq c0, Hn (iL (eI .i64) h0), Hs (iM (eI .i64) h0), Hs (iM (eI .i64) h0), Hl (sM (eI .i64) bg gh (-1))]
  ·obtain rfl := z8 ae
   obtain rfl := hl1
   exact yB X0 hC a7 bg aa [Hq c0]
def xG : Code := (Try.f69.body).getD .skip
abbrev ZO (bq : Int) (bf : List z6) (at_ : Int) : List (Nat × T) := [(0, .own (.box (.agg [I bq, eOs 2 false F8_ bf]))), (4, .d (I at_))]
abbrev ZN (w_ : List Int) (dn : Int) (fk : Int) (cm : Int) (ew : Int) (eu : List z6) : List (Nat × T) := [(0, .own (.box (.agg [I ew, eOs 2 false F8_ eu]))), (4, .d (I dn)), (6, .d (I cm)), (16, .d (eSl 1 false (eI .i64) w_)), (17, .d (I ((w_.length : Nat) : Int))), (18, .d (I fk))]
abbrev ZM (w_ : List Int) (ck : Int) (cn : List z6) (dn : Int) (fk : Int) : List (Nat × T) := [(0, .own (.box (.agg [I ck, eOs 2 false F8_ cn]))), (4, .d (I dn)), (16, .d (eSl 1 false (eI .i64) w_)), (17, .d (I ((w_.length : Nat) : Int))), (18, .d (I fk))]
abbrev ZP (w_ : List Int) (co : Int) (av : List z6) : List (Nat × T) := [(0, .own (.box (.agg [I co, eOs 2 false F8_ av]))), (1, .d (eSl 1 false (eI .i64) w_)), (4, .d (I 0))]
theorem YR (hC : zJ Try.prog ctr) (dj : Value) : ∀ (w_ : List Int) (b_ : ze) (r0 : ze), wt w_ b_ = some r0 → u4 Try.prog (.fn 69 []) [.atom dj, eSl 1 false (eI .i64) w_] ([dj].zip [.box (.agg [I b_.inputs_, eOs 2 false F8_ b_.nodes_])]) (.tup []) [.box (.agg [I r0.inputs_, eOs 2 false F8_ r0.nodes_])] := by
 intro w_ b_ r0 aa
 refine z5f (tt := xp) (nt := 66) (body := xG) [0] zp Try.func69 rfl (by kernel_rfl) rfl rfl (by show (2 : Nat) ≤ 66; decide) (by decide) rfl rfl (fun E hE => ?_) rfl
 unfold wt at aa
 refine yJ X0 hC xG [1] [] [0,1,4] (fun z : Int × List z6 => yS w_ z.1 z.2 = some r0) (fun z => ZP w_ z.1 z.2) [(0, .own (.box (z8b b_))), (1, .d (eSl 1 false (eI .i64) w_)), (4, .d (I 0))] [Hh (.cut 1)] ?_ fun J1 a7 => ?_
 ·rintro ⟨co, av⟩ aa
  unfold yS at aa
  refine yJ X0 hC xG [1,1] [] [0,4] (fun z : Int × List z6 × Int => xF z.1 z.2.1 z.2.2 = some r0) (fun z => ZO z.1 z.2.1 z.2.2) [(0, .own (.box (.agg [I co, eOs 2 false F8_ av]))), (1, .d (eSl 1 false (eI .i64) w_)), (4, .d (I 0))] [Hh (.cut 0)] ?_ fun J2 bc => ?_
  ·rintro ⟨bq, bf, at_⟩ aa
   unfold xF at aa
   obtain ⟨am, h0, aa⟩ := zg aa
   obtain rfl := z8 aa
   exact yF X0 hC .normal [(0, .own (.box (.agg [I bq, eOs 2 false F8_ (bf.set at_.toNat (z6.mk am.Next true))])))] [Hn (iL F8_ h0), Hs (iM F8_ h0), Hs (iM F8_ h0), Hs (iM F8_ h0), Hl (sM F8_ bf at_ (z6.mk am.Next true))] fun st0 h0 => hE _ st0 (.inl rfl) (z0v h0 ⟨⟨rfl, rfl⟩, trivial⟩)
  ·obtain ⟨t3, ht3, aa⟩ := zg aa
   refine yL X0 hC xG [1,1,2,1,0] [J2] (fun s => xE w_ s.1 s.2.1 s.2.2.1 s.2.2.2) (fun x => ZM w_ x.1 x.2.1 x.2.2.1 x.2.2.2) (co, av, 0,0) ht3  [Ha (lnM (eI .i64) w_)] ?_
   rintro ⟨ck, cn, dn, fk⟩ m3 bi ae hl1 J3 dm
   try unfold xE at ae
   rcases zD ae with ⟨c0, ae⟩ | ⟨c0, ae⟩
   ·obtain ⟨cm, h1, ae⟩ := zg ae
    refine yJ X0 hC xG [1,1,2,1,0,0,1,1,0,0,1] [J2, J3] [0,4,6,16,17,18] (fun z : Int × List z6 => yR dn fk cm z.1 z.2 = some bi) (fun z => ZN w_ dn fk cm z.1 z.2) [(0, .own (.box (.agg [I ck, eOs 2 false F8_ cn]))), (4, .d (I dn)), (6, .d (I cm)), (16, .d (eSl 1 false (eI .i64) w_)), (17, .d (I ((w_.length : Nat) : Int))), (18, .d (I fk))] [Hq c0, Hi (eI .i64) h1, Hh (.cut 0)] ?_ fun J4 bu => ?_
    ·rintro ⟨ew, eu⟩ ae
     unfold yR at ae
     obtain ⟨gv, h2, ae⟩ := zg ae
     obtain ⟨bl, h3, ae⟩ := zg ae
     obtain rfl := z8 ae
     exact yB X0 hC dm (ew, eu, bl, w64 (fk + 1)) hl1 [Hn (iL F8_ h2), Hs (iM F8_ h2), Hs (iM F8_ h2), Hs (iM F8_ h2), Hn (iL (eI .i64) h3), Hs (iM F8_ h2), Hs (iM (eI .i64) h3)]
    ·obtain ⟨gw, h4, ae⟩ := zg ae
     obtain ⟨im, h5, ae⟩ := zg ae
     let Z0 : List HO := [Hn (iL F8_ h4), Hs (iM F8_ h4), Hs (iM F8_ h4), Hs (iM F8_ h4), Hn (iL (eI .i64) h5), Hs (iM F8_ h4), Hs (iM (eI .i64) h5)]
     rcases zD ae with ⟨c1, ae⟩ | ⟨c1, ae⟩
     ·obtain ⟨r_, h6, ae⟩ := zg ae
      obtain ⟨dp, h7, ae⟩ := zg ae
      obtain ⟨jj, h8, ae⟩ := zg ae
      exact yB ((zW (P := Try.prog) xp [0] (qN hC dj _ _ h6) 35).or X0) hC bu (r_.2.inputs_, (r_.2.nodes_.set dn.toNat (z6.mk (dp.Next.set cm.toNat r_.1) dp.End))) ae (Z0 ++ [Hq c1, Hn (uV (f := .fn 92 []) (xs := [.atom dj]) (ls := [(dj, .box (.agg [I ck, eOs 2 false F8_ cn]))]) (r := I r_.1) (ys := [.box (.agg [I r_.2.inputs_, eOs 2 false F8_ r_.2.nodes_])]) [.atom dj] (show US [.atom dj] [.atom dj] from inferInstance)), Hn (iL F8_ h7), Hs (iM F8_ h7), Hs (iM F8_ h7), Hs (iM F8_ h7), Hn (iL (eI .i64) h8), Hs (iM F8_ h7), Hs (iM (eI .i64) h8), Hs (iM F8_ h7), Hs (iM (eI .i64) h8), Hl (sM (eI .i64) dp.Next cm r_.1), Hl (sM F8_ r_.2.nodes_ dn (z6.mk (dp.Next.set cm.toNat r_.1) dp.End))])
     ·exact yB X0 hC bu (ck, cn) ae (Z0 ++ [Hq c1])
   ·obtain rfl := z8 ae
    obtain rfl := hl1
    exact yB X0 hC bc (ck, cn, dn) aa [Hq c0]
 ·let Z1 : List HO := [Ha (lnM F8_ b_.nodes_)]
  rcases zD aa with ⟨c2, aa⟩ | ⟨c2, aa⟩
  ·obtain ⟨ah, h9, aa⟩ := zg aa
   exact yB ((zW (P := Try.prog) xp [0] (qN hC dj _ _ h9) 15).or X0) hC a7 (ah.2.inputs_, ah.2.nodes_) aa (Z1 ++ [Hq c2, Hn (uV (f := .fn 92 []) (xs := [.atom dj]) (ls := [(dj, .box (.agg [I b_.inputs_, eOs 2 false F8_ b_.nodes_]))]) (r := I ah.1) (ys := [.box (.agg [I ah.2.inputs_, eOs 2 false F8_ ah.2.nodes_])]) [.atom dj] (show US [.atom dj] [.atom dj] from inferInstance))])
  ·exact yB X0 hC a7 (b_.inputs_, b_.nodes_) aa (Z1 ++ [Hq c2])
def ZE : Code := (Try.f33.body).getD .skip
def jH : wD := spF (α := List (List Int) × Int) (ρ := ze) 33 (fun x => [F6_ x.1, (eI .i64) x.2]) (fun r => (eBx z8b) r) (fun x => qQ x.1 x.2) [] (Vt)
abbrev Q7 (co : Int) (av : List z6) : List (Nat × T) := [(5, .own (.box (.agg [I co, eOs 2 false F8_ av])))]
abbrev Q6 (l_ : List (List Int)) (bq : Int) (bf : List z6) (ic : Int) : List (Nat × T) := [(5, .own (.box (.agg [I bq, eOs 2 false F8_ bf]))), (11, .d (eSl 1 false F2_ l_)), (12, .d (I ((l_.length : Nat) : Int))), (13, .d (I ic))]
theorem z1Q (hC : zJ Try.prog ctr) : jH.Ok Try.prog := by
 refine zX ?_
 rintro ⟨l_, inputs⟩ r0 aa
 try unfold qQ at aa
 refine yO true [(4, none)] ZE 22 Try.func33 fun E hE => ?_
 refine yA X0 hC ZE [1,1] [] [(0, .d (eSl 1 false F2_ l_)), (5, .own (.box (.agg [I inputs, eOs 2 true xD []])))] [Hh (.cut 2)] ?_
 refine z99 (by kernel_rfl) 5 fun ir => ?_
 refine yJ X0 hC ZE [1,1] [] [5] (fun z : Int × List z6 => jE z.1 z.2 = some r0) (fun z => Q7 z.1 z.2) [(0, .d (eSl 1 false F2_ l_)), (5, .own (.box (.agg [I inputs, eOs 2 true xD []])))] [Hh (.cut 0)] ?_ fun J1 a7 => ?_
 ·rintro ⟨co, av⟩ aa
  unfold jE at aa
  obtain rfl := z8 aa
  exact yE X0 hC hE []
 ·obtain ⟨t2, ht2, aa⟩ := zg aa
  refine yLx X0 hC ZE [1,1,2,1,0] [J1] (fun s => jD l_ s.1 s.2.1 s.2.2) (fun x => Q6 l_ x.1 x.2.1 x.2.2) (inputs, ([] : List z6), 0) ht2 [(5, .own (.box (.agg [I inputs, eOs 2 true F8_ []]))), (11, .d (eSl 1 false F2_ l_)), (12, .d (I ((l_.length : Nat) : Int))), (13, .d (I 0))] inferInstance [Ha (lnM F2_ l_)] ?_
  rintro ⟨bq, bf, ic⟩ m2 bi ae hl1 J2 bc
  try unfold jD at ae
  rcases zD ae with ⟨c0, ae⟩ | ⟨c0, ae⟩
  ·obtain ⟨cd, h0, ae⟩ := zg ae
   obtain ⟨r_, h1, ae⟩ := zg ae
   obtain rfl := z8 ae
   exact yB ((zW (P := Try.prog) xp [5] (YR hC ir _ _ _ h1) 19).or X0) hC bc (r_.inputs_, r_.nodes_, w64 (ic + 1)) hl1 [Hq c0, Hi F2_ h0, Hn (uV (f := .fn 69 []) (xs := [.atom ir, F2_ cd]) (ls := [(ir, .box (.agg [I bq, eOs 2 false F8_ bf]))]) (r := .tup []) (ys := [.box (.agg [I r_.inputs_, eOs 2 false F8_ r_.nodes_])]) [.atom ir, F2_ cd] (show US [.atom ir, F2_ cd] [.atom ir, F2_ cd] from inferInstance))]
  ·obtain rfl := z8 ae
   obtain rfl := hl1
   exact yB X0 hC a7 (bq, bf) aa [Hq c0]
def JH : Code := (Try.f70.body).getD .skip
def wN : wD := spF (α := List z6) (ρ := List z6) 70 (fun x => [z1O x]) (fun r => (z2n 93 (eSp z1O)) r) (fun x => vI x) [] (UP)
theorem JY (hC : zJ Try.prog ctr) : wN.Ok Try.prog := by
 refine zX ?_
 rintro a8 r0 aa
 try unfold vI at aa
 refine yO true [(2, none)] JH 4 Try.func70 fun E hE => ?_
 obtain rfl := z8 aa
 exact yE X0 hC hE []
def Y0 : Code := (Try.f31.body).getD .skip
def zF : wD := spF (α := List Int) (ρ := List Int) 31 (fun x => [F2_ x]) (fun r => F0_ r) (fun x => zN x) [] (UP)
theorem Y8 (hC : zJ Try.prog ctr) : zF.Ok Try.prog := by
 refine zX ?_
 rintro s_ r0 aa
 try unfold zN at aa
 refine yO true [(2, none)] Y0 9 Try.func31 fun E hE => ?_
 obtain ⟨g0, aa⟩ := gdE aa
 obtain rfl := z8 aa
 exact yE X0 hC hE [Ha (lnM (eI .i64) s_), Ha (lnM (eI .i64) s_), Hn (slB g0), Hn (slC g0), Hn (z6V (eI .i64) g0), Ha (z9D 1 (eI .i64) s_ 0 ((s_.length : Nat) : Int).toNat)]
def xm : Code := (Try.f93.body).getD .skip
variable {σ : Type}
abbrev XR (x0 : List z6) (YY : σ → JV) (iy : σ) (next : List z7) : List (Nat × T) := [(0, .own (.opq (YY iy).q)), (1, .d (.sptr (eSl 2 false xD x0))), (4, .own (eOs 2 false jZ next))]
abbrev XQ (x0 : List z6) (YY : σ → JV) (au : List z7) (da : Int) (iz : σ) (db : List z7) : List (Nat × T) := [(0, .own (.opq (YY iz).q)), (1, .d (.sptr (eSl 2 false xD x0))), (3, .own (eOs 2 false jZ au)), (4, .own (eOs 2 false jZ db)), (17, .als 3 [] 0 0), (18, .d (I ((au.length : Nat) : Int))), (19, .d (I da))]
abbrev XP (x0 : List z6) (YY : σ → JV) (au : List z7) (da : Int) (aw : z7) (yr : σ × Bool) (ez : z6) (dg : Int) (gm : List z7) : List (Nat × T) := [(0, .own (.opq (YY yr.1).q)), (1, .d (.sptr (eSl 2 false xD x0))), (3, .own (eOs 2 false jZ au)), (4, .own (eOs 2 false jZ gm)), (6, .own (.box (jZ aw))), (17, .als 3 [] 0 0), (18, .d (I ((au.length : Nat) : Int))), (19, .d (I da)), (32, .d (eSl 1 false (eI .i64) ez.Next)), (33, .d (I ((ez.Next.length : Nat) : Int))), (34, .d (I dg))]
abbrev XM (x0 : List z6) (YY : σ → JV) (au : List z7) (da : Int) (aw : z7) (yr : σ × Bool) (ez : z6) (bh : List z7) (dg : Int) : List (Nat × T) := [(0, .own (.opq (YY yr.1).q)), (1, .d (.sptr (eSl 2 false xD x0))), (3, .own (eOs 2 false jZ au)), (4, .own (eOs 2 false jZ bh)), (6, .own (.box (jZ aw))), (17, .als 3 [] 0 0), (18, .d (I ((au.length : Nat) : Int))), (19, .d (I da)), (32, .d (eSl 1 false (eI .i64) ez.Next)), (33, .d (I ((ez.Next.length : Nat) : Int))), (34, .d (I dg))]
abbrev XN (x0 : List z6) (YY : σ → JV) (au : List z7) (gi : σ) (bm : List z7) (da : Int) : List (Nat × T) := [(0, .own (.opq (YY gi).q)), (1, .d (.sptr (eSl 2 false xD x0))), (3, .own (eOs 2 false jZ au)), (4, .own (eOs 2 false jZ bm)), (17, .als 3 [] 0 0), (18, .d (I ((au.length : Nat) : Int))), (19, .d (I da))]
abbrev XO (x0 : List z6) (YY : σ → JV) (gn : σ) (au : List z7) : List (Nat × T) := [(0, .own (.opq (YY gn).q)), (1, .d (.sptr (eSl 2 false xD x0))), (3, .own (eOs 2 false jZ au))]
abbrev XS (x0 : List z6) (YY : σ → JV) (sg : σ) (al : List z7) : List (Nat × T) := [(0, .own (.opq (YY sg).q)), (1, .d (.sptr (eSl 2 false xD x0))), (3, .own (eOs 2 true z9s al))]
theorem qa (hC : zJ Try.prog ctr) (h02 : ctr.Has zF) (x0 : List z6) : z7Y Try.prog (.fn 93 [.sptr (eSl 2 false xD x0)]) (fun (x : z7) (_ : Bool) (_ : Value) => [jZ x]) (@yT x0) := by
 refine z7x (tt := xp) (nt := 55) (body := xm) zp Try.func93 rfl (by kernel_rfl) rfl rfl (by show (2 : Nat) ≤ 55; decide) ?_
 intro σ yv YY yy hy sg r0 aa E hE
 unfold yT at aa
 refine yJ ((wL zp (.inl 49) [48]).or ((wL zp (.inl 13) [12]).or X0)) hC xm [1] [] [0,1,3] (fun z : List z7 => wq x0 yy sg z = some r0) (fun z => XS x0 YY sg z) [(0, .own (.opq (YY sg).q)), (1, .d (.sptr (eSl 2 false xD x0))), (3, .own (eOs 2 true jZ []))] [Hh (.cut 1)] ?_ fun J1 a7 => ?_
 ·rintro al aa
  unfold wq at aa
  obtain ⟨t2, ht2, aa⟩ := zg aa
  refine yLx ((wL zp (.inl 49) [48]).or ((wL zp (.inl 13) [12]).or X0)) hC xm [1,1,0] [] (fun s => wo x0 yy s.1 s.2) (fun x => XO x0 YY x.1 x.2) (sg, al) ht2 [(0, .own (.opq (YY sg).q)), (1, .d (.sptr (eSl 2 false xD x0))), (3, .own (eOs 2 true z9s al))] inferInstance [] ?_
  rintro ⟨gn, au⟩ m2 bi ae hl1 J2 bc
  try unfold wo at ae
  let Z0 : List HO := [Ha (lnM jZ au)]
  rcases zD ae with ⟨c0, ae⟩ | ⟨c0, ae⟩
  ·refine yJ ((wL zp (.inl 49) [48]).or ((wL zp (.inl 13) [12]).or X0)) hC xm [1,1,0,0,1,0,1] [J2] [0,1,4] (fun z : σ × List z7 => um z.1 z.2 = some bi) (fun z => XR x0 YY z.1 z.2) [(0, .own (.opq (YY gn).q)), (1, .d (.sptr (eSl 2 false xD x0))), (3, .own (eOs 2 false jZ au)), (4, .own (eOs 2 true jZ []))] (Z0 ++ [Hq c0, Hh (.cut 1)]) ?_ fun J3 dm => ?_
   ·rintro ⟨iy, next⟩ ae
    unfold um at ae
    obtain rfl := z8 ae
    exact yB ((wL zp (.inl 49) [48]).or ((wL zp (.inl 13) [12]).or X0)) hC bc (iy, next) hl1 []
   ·obtain ⟨t4, ht4, ae⟩ := zg ae
    refine yLx ((wL zp (.inl 49) [48]).or ((wL zp (.inl 13) [12]).or X0)) hC xm [1,1,0,0,1,0,1,2,1,0] [J2, J3] (fun s => wn x0 yy au s.1 s.2.1 s.2.2) (fun x => XN x0 YY au x.1 x.2.1 x.2.2) (gn, ([] : List z7), 0) ht4 [(0, .own (.opq (YY gn).q)), (1, .d (.sptr (eSl 2 false xD x0))), (3, .own (eOs 2 false jZ au)), (4, .own (eOs 2 true jZ [])), (17, .als 3 [] 0 0), (18, .d (I ((au.length : Nat) : Int))), (19, .d (I 0))] inferInstance [Ha (lnM jZ au)] ?_
    rintro ⟨gi, bm, da⟩ m4 fh ai hl2 J4 bu
    try unfold wn at ai
    rcases zD ai with ⟨c1, ai⟩ | ⟨c1, ai⟩
    ·refine yJ ((wL zp (.inl 49) [48]).or ((wL zp (.inl 13) [12]).or X0)) hC xm [1,1,0,0,1,0,1,2,1,0,0,1,1] [J2, J3, J4] [0,1,3,4,17,18,19] (fun z : σ × List z7 => ul da z.1 z.2 = some fh) (fun z => XQ x0 YY au da z.1 z.2) [(0, .own (.opq (YY gi).q)), (1, .d (.sptr (eSl 2 false xD x0))), (3, .own (eOs 2 false jZ au)), (4, .own (eOs 2 false jZ bm)), (17, .als 3 [] 0 0), (18, .d (I ((au.length : Nat) : Int))), (19, .d (I da))] [Hq c1, Hh (.cut 0)] ?_ fun J5 ep => ?_
     ·rintro ⟨iz, db⟩ ai
      unfold ul at ai
      obtain rfl := z8 ai
      exact yB ((wL zp (.inl 49) [48]).or ((wL zp (.inl 13) [12]).or X0)) hC bu (iz, db, w64 (da + 1)) hl2 []
     ·obtain ⟨aw, h0, ai⟩ := zg ai
      obtain ⟨yr, h1, ai⟩ := zg ai
      let Z1 : List HO := [Hn (iL jZ h0), Hs (iM jZ h0), Hn (z6O (yv := yv) (Y := YY) (enc := (fun (x : z7) (_ : Bool) (_ : Value) => [jZ x])) (s := gi) (x := aw) (s' := yr.1) (b := yr.2) (v := .nilFunc) [jZ aw] (show US [jZ aw] [jZ aw] from inferInstance))]
      rcases zD ai with ⟨c2, ai⟩ | ⟨c2, ai⟩
      ·obtain rfl := z8 ai
       obtain rfl := hl2
       obtain rfl := z8 ae
       obtain rfl := hl1
       obtain rfl := z8 aa
       exact yF ((z5W (P := Try.prog) xp hy 25 (s := gi) (x := aw) (s' := yr.1) (b := yr.2) .nilFunc h1).or ((wL zp (.inl 49) [48]).or ((wL zp (.inl 13) [12]).or X0))) hC .ret [(0, .own (.opq (YY yr.1).q))] (Z1 ++ [Hq c2]) fun st0 h0 => hE _ st0 (.inr rfl) h0
      ·obtain ⟨ez, h2, ai⟩ := zg ai
       obtain ⟨t6, ht6, ai⟩ := zg ai
       refine yL ((z5W (P := Try.prog) xp hy 25 (s := gi) (x := aw) (s' := yr.1) (b := yr.2) .nilFunc h1).or ((wL zp (.inl 49) [48]).or ((wL zp (.inl 13) [12]).or X0))) hC xm [1,1,0,0,1,0,1,2,1,0,0,1,1,2,0,1,1,1,0] [J2, J3, J4, J5] (fun s => yK aw yr ez s.1 s.2) (fun x => XM x0 YY au da aw yr ez x.1 x.2) (bm,0) ht6  (Z1 ++ [Hq c2, Hi xD h2, Ha (lnM (eI .i64) ez.Next)]) ?_
       rintro ⟨bh, dg⟩ m6 jw bk hl3 J6 fz
       try unfold yK at bk
       rcases zD bk with ⟨c3, bk⟩ | ⟨c3, bk⟩
       ·refine yJ ((wL zp (.inl 49) [48]).or ((wL zp (.inl 13) [12]).or X0)) hC xm [1,1,0,0,1,0,1,2,1,0,0,1,1,2,0,1,1,1,0,0,1,1] [J2, J3, J4, J5, J6] [0,1,3,4,6,17,18,19,32,33,34] (fun z : List z7 => wp dg z = some jw) (fun z => XP x0 YY au da aw yr ez dg z) [(0, .own (.opq (YY yr.1).q)), (1, .d (.sptr (eSl 2 false xD x0))), (3, .own (eOs 2 false jZ au)), (4, .own (eOs 2 false jZ bh)), (6, .own (.box (jZ aw))), (17, .als 3 [] 0 0), (18, .d (I ((au.length : Nat) : Int))), (19, .d (I da)), (32, .d (eSl 1 false (eI .i64) ez.Next)), (33, .d (I ((ez.Next.length : Nat) : Int))), (34, .d (I dg))] [Hq c3, Hh (.cut 0)] ?_ fun J7 gt => ?_
        ·rintro gm bk
         unfold wp at bk
         obtain rfl := z8 bk
         exact yB ((wL zp (.inl 49) [48]).or ((wL zp (.inl 13) [12]).or X0)) hC fz (gm, w64 (dg + 1)) hl3 []
        ·obtain ⟨bl, h3, bk⟩ := zg bk
         rcases zD bk with ⟨c4, bk⟩ | ⟨c4, bk⟩
         ·obtain ⟨r_, h4, bk⟩ := zg bk
          obtain ⟨g0, bk⟩ := gdE bk
          obtain ⟨g1, bk⟩ := gdE bk
          exact yB ((wL zp (.inl 49) [48]).or ((wL zp (.inl 13) [12]).or X0)) hC gt (bh ++ [(z7.mk bl (r_ ++ [dg]))]) bk [Hi (eI .i64) h3, Hq c4, Hc h02 (x := aw.w_) h4 (loC F2_ aw.w_ <| loN), Hq (dM (eI .i64) [dg]), Hn (dM (eI .i64) [dg]), Hn (aN (eI .i64) (eI .i64) g0 (by simp)), Hl (aM (eI .i64) r_ [dg]), Hm (shM (eI .i64) (eI .i64) (r_ ++ [dg])), Hq (dM jZ [(z7.mk bl (r_ ++ [dg]))]), Hn (dM jZ [(z7.mk bl (r_ ++ [dg]))]), Hn (aL jZ jZ g1), Hl (aM jZ bh [(z7.mk bl (r_ ++ [dg]))])]
         ·exact yB ((wL zp (.inl 49) [48]).or ((wL zp (.inl 13) [12]).or X0)) hC gt bh bk [Hi (eI .i64) h3, Hq c4]
       ·obtain rfl := z8 bk
        obtain rfl := hl3
        exact yB ((wL zp (.inl 49) [48]).or ((wL zp (.inl 13) [12]).or X0)) hC ep (yr.1, bh) ai [Hq c3]
    ·obtain rfl := z8 ai
     obtain rfl := hl2
     exact yB ((wL zp (.inl 49) [48]).or ((wL zp (.inl 13) [12]).or X0)) hC dm (gi, bm) ae [Hq c1]
  ·obtain rfl := z8 ae
   obtain rfl := hl1
   obtain rfl := z8 aa
   exact yF ((wL zp (.inl 49) [48]).or ((wL zp (.inl 13) [12]).or X0)) hC .normal [(0, .own (.opq (YY gn).q))] (Z0 ++ [Hq c0]) fun st0 h0 => hE _ st0 (.inl rfl) h0
 ·let Z2 : List HO := [Ha (lnM xD x0)]
  rcases zD aa with ⟨c5, aa⟩ | ⟨c5, aa⟩
  ·exact yBx ((wL zp (.inl 49) [48]).or ((wL zp (.inl 13) [12]).or X0)) hC a7 ([(z7.mk 0 [])] : List z7) aa [(0, .own (.opq (YY sg).q)), (1, .d (.sptr (eSl 2 false xD x0))), (3, .own (eOs 2 true z9s ([(z7.mk 0 [])])))] inferInstance (Z2 ++ [Hq c5, Hm (shM (eI .i64) (eI .i64) [])])
  ·exact yBx ((wL zp (.inl 49) [48]).or ((wL zp (.inl 13) [12]).or X0)) hC a7 ([] : List z7) aa [(0, .own (.opq (YY sg).q)), (1, .d (.sptr (eSl 2 false xD x0))), (3, .own (eOs 2 true z9s []))] inferInstance (Z2 ++ [Hq c5])
def Uz : Code := (Try.f74.body).getD .skip
def vE : wD := spF (α := Int) (ρ := Bool) 74 (fun x => [(eI .i64) x]) (fun r => eB r) (fun x => kg x) [] (UP)
theorem UV (hC : zJ Try.prog ctr) : vE.Ok Try.prog := by
 refine zX ?_
 rintro k_ r0 aa
 try unfold kg at aa
 refine yO true [(2, none)] Uz 5 Try.func74 fun E hE => ?_
 obtain rfl := z8 aa
 exact yE X0 hC hE []
def xo : Code := (Try.f94.body).getD .skip
def wJ : wD := spF (α := List Int × Unit) (ρ := Int) 94 (fun x => [F2_ x.1, (JU 74) x.2]) (fun r => (eI .i64) r) (fun x => yM x.1 x.2) [] (by
 rintro ⟨a0, a1⟩ ⟨b0, b1⟩ h
 have e0 := kP.inj (f := F2_) _ _ (List.cons.inj h).1
 replace h := (List.cons.inj h).2
 have e1 := kP.inj (f := (JU 74)) _ _ (List.cons.inj h).1
 subst e0 e1
 rfl)
abbrev uE : List (Nat × T) := []
abbrev uD (s_ : List Int) (x8 : Int) : List (Nat × T) := [(0, .d (eSl 1 false (eI .i64) s_)), (1, .d (.fn 74 [])), (7, .d (I ((s_.length : Nat) : Int))), (8, .d (I x8))]
theorem qC (hC : zJ Try.prog ctr) (h0c : ctr.Has vE) : wJ.Ok Try.prog := by
 refine zX ?_
 rintro ⟨s_, f_⟩ r0 aa
 try unfold yM at aa
 refine yO true [(4, none)] xo 19 Try.func94 fun E hE => ?_
 refine yJ X0 hC xo [1] [] [] (fun z : Unit => xk = some r0) (fun z => uE) [(0, .d (eSl 1 false (eI .i64) s_)), (1, .d (.fn 74 []))] [Hh (.cut 1)] ?_ fun J1 a7 => ?_
 ·rintro ⟨⟩ aa
  unfold xk at aa
  obtain rfl := z8 aa
  exact yE X0 hC hE []
 ·obtain ⟨t2, ht2, aa⟩ := zg aa
  refine yL X0 hC xo [1,2,1,0] [J1] (fun s => zO s_ s) (fun x => uD s_ x) 0 ht2  [Ha (lnM (eI .i64) s_)] ?_
  rintro x8 m2 bi ae hl1 J2 bc
  try unfold zO at ae
  rcases zD ae with ⟨c0, ae⟩ | ⟨c0, ae⟩
  ·obtain ⟨d0, h0, ae⟩ := zg ae
   obtain ⟨r_, h1, ae⟩ := zg ae
   let Z0 : List HO := [Hq c0, Hi (eI .i64) h0, Hc h0c (x := d0) h1 (loC (eI .i64) d0 <| loN)]
   rcases zD ae with ⟨c1, ae⟩ | ⟨c1, ae⟩
   ·obtain rfl := z8 ae
    obtain rfl := hl1
    obtain rfl := z8 aa
    exact yE X0 hC hE (Z0 ++ [Hq c1])
   ·obtain rfl := z8 ae
    exact yB X0 hC bc (w64 (x8 + 1)) hl1 (Z0 ++ [Hq c1])
  ·obtain rfl := z8 ae
   obtain rfl := hl1
   exact yB X0 hC a7 () aa [Hq c0]
def uB : Code := (Try.f73.body).getD .skip
def w7 : wD := spF (α := List Int × Unit) (ρ := Bool) 73 (fun x => [F2_ x.1, (JU 74) x.2]) (fun r => eB r) (fun x => yj x.1 x.2) [] (by
 rintro ⟨a0, a1⟩ ⟨b0, b1⟩ h
 have e0 := kP.inj (f := F2_) _ _ (List.cons.inj h).1
 replace h := (List.cons.inj h).2
 have e1 := kP.inj (f := (JU 74)) _ _ (List.cons.inj h).1
 subst e0 e1
 rfl)
theorem uL (hC : zJ Try.prog ctr) (h0c : ctr.Has vE) : w7.Ok Try.prog := by
 refine zX ?_
 rintro ⟨s_, f_⟩ r0 aa
 try unfold yj at aa
 refine yO true [(4, none)] uB 9 Try.func73 fun E hE => ?_
 obtain ⟨r_, h0, aa⟩ := zg aa
 obtain rfl := z8 aa
 exact yE ((QH zp (qC hC h0c) 7).or X0) hC hE [Hc (Ctr.add_has UQ wJ) (x := (s_, ())) h0 (loC F2_ s_ <| loC (JU 74) () <| loN)]
def JI : Code := (Try.f39.body).getD .skip
def uq : wD := spF (α := z6) (ρ := Bool) 39 (fun x => [xD x]) (fun r => eB r) (fun x => uT x) [] (UP)
theorem K0 (hC : zJ Try.prog ctr) (h0c : ctr.Has vE) : uq.Ok Try.prog := by
 refine zX ?_
 rintro n_ r0 aa
 try unfold uT at aa
 refine yO true [(2, none)] JI 7 Try.func39 fun E hE => ?_
 obtain ⟨r_, h0, aa⟩ := zg aa
 obtain rfl := z8 aa
 exact yE ((QH zp (uL hC h0c) 5).or X0) hC hE [Hc (Ctr.add_has UQ w7) (x := (n_.Next, ())) h0 (loC F2_ n_.Next <| loC (JU 74) () <| loN)]
def ZG : Code := (Try.f67.body).getD .skip
def y9 : wD := spF (α := List Int) (ρ := List Int) 67 (fun x => [F2_ x]) (fun r => F3_ r) (fun x => zZ x) [] (UP)
theorem ZX (hC : zJ Try.prog ctr) : y9.Ok Try.prog := by
 refine zX ?_
 rintro s_ r0 aa
 try unfold zZ at aa
 refine yO true [(2, none)] ZG 8 Try.func67 fun E hE => ?_
 refine z3Y rfl 0 (sz := 1) (t := false) (es := s_.map (eI .i64)) (by kernel_rfl) fun ax hv0 hn => ?_
 rcases hn with ⟨hn0, he0⟩ | hn0
 ·obtain ⟨_, aa⟩ := gdE aa
  rw [show s_ = [] from List.map_eq_nil_iff.1 he0] at aa
  obtain rfl := z8 aa
  exact yEx ((z9j zp 4 29 (by kernel_rfl) hn0).or ((xMv Try.prog 3 0 ax hv0).or X0)) hC hE [Hn (rfl : some ax = some ax), Hn (⟨rfl, rfl⟩ : T.d (.atom ax) = T.d (.atom ax) ∧ T.d (.atom (.slice none 0 0)) = T.d (.atom (.slice none 0 0))), qT] (eOs 1 true (eI .i64) []) (show LeV (eOs 1 true (eI .i64) []) (eOs 1 false (eI .i64) ([] : List Int)) from inferInstance)
 ·obtain ⟨g0, aa⟩ := gdE aa
  obtain rfl := z8 aa
  exact yE ((z9j zp 4 29 (by kernel_rfl) hn0).or ((xMv Try.prog 3 0 ax hv0).or X0)) hC hE [Hn (rfl : some ax = some ax), Hn (⟨rfl, rfl⟩ : T.d (.atom ax) = T.d (.atom ax) ∧ T.d (.atom (.slice none 0 0)) = T.d (.atom (.slice none 0 0))), qF, Hn (dM (eI .i64) s_), Hn (aL (eI .i64) (eI .i64) g0), Hl (aM0 (eI .i64) s_)]
def ka : Code := (Try.f64.body).getD .skip
def yV : wD := spR (α := List (List Int)) (ρ := List (List Int)) 64 (fun x => [F5_ x]) (fun r => F4_ r) (fun x => zT x) [] (UP)
theorem xU : ∀ x r, (fun x => zT x) x = some r → (UQ.add yV).run 64 ((UQ.add yV).norm 64 ((fun x => [F5_ x]) x)) = some ((fun r => F4_ r) r) := fun x r h => zaF h rfl
theorem xV : (UQ.add yV).gives 64 = [] := z8Y
theorem wf (hC : zJ Try.prog ctr) : yV.Ok Try.prog := by
 refine z5Y ?_
 rintro s_ r0 aa
 try unfold zT at aa
 refine yO true [(2, none)] ka 9 Try.func64 fun E hE => ?_
 obtain ⟨g0, aa⟩ := gdE aa
 obtain rfl := z8 aa
 exact yE X0 hC hE [Ha (lnM F0_ s_), Ha (lnM F0_ s_), Hn (slB g0), Hn (slC g0), Hn (z6V F0_ g0), Ha (z9D 1 F0_ s_ 0 ((s_.length : Nat) : Int).toNat)]
def xX : Code := (Try.f35.body).getD .skip
def qI : wD := spF (α := List z6 × Unit) (ρ := List (List Int)) 35 (fun x => [z1O x.1, (JU 39) x.2]) (fun r => F4_ r) (fun x => Zk x.1 x.2) [] (by
 rintro ⟨a0, a1⟩ ⟨b0, b1⟩ h
 have e0 := kP.inj (f := z1O) _ _ (List.cons.inj h).1
 replace h := (List.cons.inj h).2
 have e1 := kP.inj (f := (JU 39)) _ _ (List.cons.inj h).1
 subst e0 e1
 rfl)
abbrev Xg (out : List (List Int)) : List (Nat × T) := [(4, .own (.box (eOs 1 false F0_ out)))]
abbrev uh (a8 : List z6) (ah : List z6) (ak : List (List Int)) : List (Nat × T) := [(2, .own (.box (eSl 2 false xD a8))), (3, .own (.box (.fn 39 []))), (4, .own (.box (eOs 1 false F0_ ak))), (7, .d (.fn 93 [.sptr (eSl 2 false xD ah)]))]
theorem VB (hC : zJ Try.prog ctr) (h05 : ctr.Has wN) (h02 : ctr.Has zF) (h0d : ctr.Has uq) (h06 : ctr.Has y9) : qI.Ok Try.prog := by
 refine zX ?_
 rintro ⟨a8, is⟩ r0 aa
 try unfold Zk at aa
 refine yO false [(4, some 22)] xX 25 Try.func35 fun E hE => ?_
 refine yJ X0 hC xX [1] [] [4] (fun z : List (List Int) => qG z = some r0) (fun z => Xg z) [(2, .own (.box (eSl 2 false xD a8))), (3, .own (.box (.fn 39 []))), (4, .own (.box (eOs 1 true F2_ [])))] [Hh (.cut 1)] ?_ fun J1 a7 => ?_
 ·rintro out aa
  unfold qG at aa
  obtain ⟨r_, h0, aa⟩ := zg aa
  obtain rfl := z8 aa
  exact yE ((QH zp (wf hC) 24).or X0) hC hE [Hh (.g []), Hn xV, Hm (shM F0_ F0_ out), Hx (.a (F4_ r_)) (xU out _ h0), Hm (shM F0_ F0_ out)]
 ·obtain ⟨ah, h1, aa⟩ := zg aa
  obtain ⟨t2, ht2, aa⟩ := zg aa
  refine yAt X0 hC (sub [1,2,1,0] xX) (frs [1,2,1,0] [J1] xX []) [(2, .own (.box (eSl 2 false xD a8))), (3, .own (.box (.fn 39 []))), (4, .own (.box (eOs 1 true F0_ []))), (7, .d (.fn 93 [.sptr (eSl 2 false xD ah)]))] [Hc h05 (x := a8) h1 (loC z1O a8 <| loN)] fun st0 h0 => ?_
  refine JM (g := .tmp 7) (ps := [8]) (assign := (sub [1,2,1,0,0] xX)) (body := (sub [1,2,1,0,1] xX)) (K := 93) (caps := [.sptr (eSl 2 false xD ah)]) (by kernel_rfl) [2,3,4,7] (fun s => uh a8 ah s) (fun z => nomatch z) (fun z => nomatch z) ((fun (x : z7) (_ : Bool) (_ : Value) => [jZ x])) (F := @yT ah) (fun s x => u6 a8 s x) ([] : List (List Int)) t2 _ h0 inferInstance (by kernel_rfl) (by decide) (fun _ => rfl) (by rintro ⟨⟩) (by kernel_rfl) (fun _ _ _ => rfl) (qa hC h02 ah) ht2 ?_ ?_
  ·rintro jy ak x8 vr bi ae
   replace ae : u6 a8 ak x8 = some bi := ae
   unfold u6 at ae
   refine yF X0 hC .normal [(2, .own (.box (eSl 2 false xD a8))), (3, .own (.box (.fn 39 []))), (4, .own (.box (eOs 1 false F0_ ak))), (5, .own (.box (jZ x8))), (7, .d (.fn 93 [.sptr (eSl 2 false xD ah)]))] [] fun st0 h0 => ⟨rfl, z0T h0 ?_⟩
   obtain ⟨d8, h2, ae⟩ := zg ae
   obtain ⟨aq, h3, ae⟩ := zg ae
   let Z0 : List HO := [Hi xD h2, Hc h0d (x := d8) h3 (loC xD d8 <| loN)]
   rcases zD ae with ⟨c0, ae⟩ | ⟨c0, ae⟩
   ·obtain ⟨ar, h4, ae⟩ := zg ae
    obtain ⟨br, h5, ae⟩ := zg ae
    obtain ⟨g0, ae⟩ := gdE ae
    obtain rfl := z8 ae
    exact yF X0 hC .normal (uh a8 ah (ak ++ [br])) (Z0 ++ [Hq c0, Hc h06 (x := x8.w_) h4 (loC F2_ x8.w_ <| loN), Hg (ZT h02), Hm (shM (eI .i64) (eI .i64) ar), Hs (ZU h02 (x := ar) h5 (loC F2_ ar <| loN)), Hm (shM (eI .i64) (eI .i64) ar), Hq (dM F0_ [br]), Hn (dM F0_ [br]), Hn (aL F0_ F0_ g0), Hl (aM F0_ ak [br])]) fun st0 h0 => ⟨rfl, _, h0, LeL.refl _⟩
   ·obtain rfl := z8 ae
    exact yF X0 hC .normal (uh a8 ah ak) (Z0 ++ [Hq c0]) fun st0 h0 => ⟨rfl, _, h0, LeL.refl _⟩
  ·rcases t2 with ak | z
   ·dsimp only at aa
    exact XJ (by kernel_rfl) (a7 _ [(4, .own (.box (eOs 1 false F0_ ak)))] ak aa (show Own.canon [4] _ = ofL _ by kernel_rfl) inferInstance)
   ·cases z
def UA : Code := (Try.f44.body).getD .skip
def jI : wD := spF (α := List (List Int) × Int) (ρ := List (List Int) × Int) 44 (fun x => [F6_ x.1, (eI .i64) x.2]) (fun r => .tup [F4_ r.1, (eI .i64) r.2]) (fun x => Yb x.1 x.2) [] (Vt)
theorem UW (hC : zJ Try.prog ctr) (h03 : ctr.Has yI) (h0e : ctr.Has jH) (h0v : ctr.Has qI) : jI.Ok Try.prog := by
 refine zX ?_
 rintro ⟨l_, inputs⟩ r0 aa
 try unfold Yb at aa
 refine yO false [(4, none), (5, none)] UA 20 Try.func44 fun E hE => ?_
 obtain ⟨r_, h0, aa⟩ := zg aa
 let Z0 : List HO := [Hc h03 (x := (l_, inputs)) h0 (loC F6_ l_ <| loC (eI .i64) inputs <| loN)]
 rcases zD aa with ⟨c0, aa⟩ | ⟨c0, aa⟩
 ·obtain rfl := z8 aa
  exact yEx X0 hC hE (Z0 ++ [Hq c0, Hm (shM F2_ F2_ [])]) (.tup [eSl 1 true F0_ [], I r_]) (show LeV (.tup [eSl 1 true F0_ [], I r_]) (.tup [eSl 1 true F0_ ([] : List (List Int)), I r_]) from inferInstance)
 ·obtain ⟨ah, h1, aa⟩ := zg aa
  obtain ⟨aq, h2, aa⟩ := zg aa
  obtain rfl := z8 aa
  exact yE X0 hC hE (Z0 ++ [Hq c0, Hc h0e (x := (l_, inputs)) h1 (loC F6_ l_ <| loC (eI .i64) inputs <| loN), Hg (ZT h0v), Hm (shM F8_ F9_ ah.nodes_), Hs (ZU h0v (x := (ah.nodes_, ())) h2 (loC (eSl 2 false F9_) ah.nodes_ <| loC (JU 39) () <| loN)), Hm (shM F8_ F9_ ah.nodes_)])
def Zc : Code := (Try.f27.body).getD .skip
def xx : wD := spF (α := List (List Int)) (ρ := List (List Int)) 27 (fun x => [F6_ x]) (fun r => F7_ r) (fun x => yD x) [] (UP)
theorem Zg (hC : zJ Try.prog ctr) : xx.Ok Try.prog := by
 refine zX ?_
 rintro s_ r0 aa
 try unfold yD at aa
 refine yO true [(2, none)] Zc 8 Try.func27 fun E hE => ?_
 refine z3Y rfl 0 (sz := 1) (t := false) (es := s_.map F2_) (by kernel_rfl) fun ax hv0 hn => ?_
 rcases hn with ⟨hn0, he0⟩ | hn0
 ·obtain ⟨_, aa⟩ := gdE aa
  rw [show s_ = [] from List.map_eq_nil_iff.1 he0] at aa
  obtain rfl := z8 aa
  exact yEx ((z9j zp 4 22 (by kernel_rfl) hn0).or ((xMv Try.prog 3 0 ax hv0).or X0)) hC hE [Hn (rfl : some ax = some ax), Hn (⟨rfl, rfl⟩ : T.d (.atom ax) = T.d (.atom ax) ∧ T.d (.atom (.slice none 0 0)) = T.d (.atom (.slice none 0 0))), qT] (eOs 1 true F2_ []) (show LeV (eOs 1 true F2_ []) (eOs 1 false F2_ ([] : List (List Int))) from inferInstance)
 ·obtain ⟨g0, aa⟩ := gdE aa
  obtain rfl := z8 aa
  exact yE ((z9j zp 4 22 (by kernel_rfl) hn0).or ((xMv Try.prog 3 0 ax hv0).or X0)) hC hE [Hn (rfl : some ax = some ax), Hn (⟨rfl, rfl⟩ : T.d (.atom ax) = T.d (.atom ax) ∧ T.d (.atom (.slice none 0 0)) = T.d (.atom (.slice none 0 0))), qF, Hn (dM F2_ s_), Hn (aL F2_ F2_ g0), Hl (aM0 F2_ s_)]
def Wj : Code := (Try.f66.body).getD .skip
def uW : wD := spF (α := List Int × List Int) (ρ := Bool) 66 (fun x => [F2_ x.1, F2_ x.2]) (fun r => eB r) (fun x => va x.1 x.2) [] (Vt)
theorem V0 (hC : zJ Try.prog ctr) (h0b : ctr.Has wW) : uW.Ok Try.prog := by
 refine zX ?_
 rintro ⟨a_, b_⟩ r0 aa
 try unfold va at aa
 refine yO true [(4, none)] Wj 9 Try.func66 fun E hE => ?_
 obtain ⟨r_, h0, aa⟩ := zg aa
 obtain rfl := z8 aa
 exact yE X0 hC hE [Hc h0b (x := (a_, b_)) h0 (loC F2_ a_ <| loC F2_ b_ <| loN)]
def zH : Code := (Try.f65.body).getD .skip
def xj : wD := spF (α := List (List Int) × Unit) (ρ := List (List Int)) 65 (fun x => [F7_ x.1, (JU 66) x.2]) (fun r => F7_ r) (fun x => yf x.1 x.2) [true, false] (by
 rintro ⟨a0, a1⟩ ⟨b0, b1⟩ h
 have e0 := kP.inj (f := F7_) _ _ (List.cons.inj h).1
 replace h := (List.cons.inj h).2
 have e1 := kP.inj (f := (JU 66)) _ _ (List.cons.inj h).1
 subst e0 e1
 rfl)
abbrev uK (s_ : List (List Int)) : List (Nat × T) := [(0, .own (eOs 1 false F2_ s_))]
abbrev uJ (s_ : List (List Int)) (k_ : Int) : List (Nat × T) := [(0, .own (eOs 1 false F2_ s_)), (1, .d (.fn 66 [])), (5, .d (I k_))]
abbrev uI (dh : List (List Int)) (de : Int) : List (Nat × T) := [(0, .own (eOs 1 false F2_ dh)), (5, .d (I de))]
abbrev uH (ax : Value) (k_ : Int) (k2 : Int) (i6 : List (List Int)) (i7 : Int) : List (Nat × T) := [(0, .own (eOs 1 false F2_ i6)), (1, .d (.fn 66 [])), (5, .d (I i7)), (6, .d (.atom (kJ 1 ax k_))), (7, .d (I k2))]
abbrev uF (ax : Value) (k_ : Int) (dy : List (List Int)) (fq : Int) (k2 : Int) : List (Nat × T) := [(0, .own (eOs 1 false F2_ dy)), (1, .d (.fn 66 [])), (5, .d (I fq)), (6, .d (.atom (kJ 1 ax k_))), (7, .d (I k2))]
abbrev uG (s_ : List (List Int)) (k_ : Int) : List (Nat × T) := [(0, .own (eOs 1 false F2_ s_)), (1, .d (.fn 66 [])), (5, .d (I k_))]
def zk : XH Try.prog := ((zaT zp 64).or X0)
theorem qE (hC : zJ Try.prog ctr) (h0w : ctr.Has uW) : xj.Ok Try.prog := by
 refine zX ?_
 rintro ⟨s_, eq⟩ r0 aa
 try unfold yf at aa
 refine yO true [(4, none)] zH 66 Try.func65 fun E hE => ?_
 refine z0R (y := eOs 1 false F2_ s_) rfl 0 (by kernel_rfl) (by kernel_rfl) fun ax hv0 => ?_
 let Z0 : List HO := [Ha (lnM F2_ s_)]
 rcases zD aa with ⟨c0, aa⟩ | ⟨c0, aa⟩
 ·obtain rfl := z8 aa
  exact yE zk hC hE (Z0 ++ [Hq c0])
 ·refine yJ zk hC zH [1,1] [] [0] (fun z : Unit => xl s_ = some r0) (fun z => uK s_) [(0, .own (eOs 1 false F2_ s_)), (1, .d (.fn 66 []))] (Z0 ++ [Hq c0, Hh (.cut 0)]) ?_ fun J1 a7 => ?_
  ·rintro ⟨⟩ aa
   unfold xl at aa
   obtain rfl := z8 aa
   exact yE zk hC hE []
  ·obtain ⟨t2, ht2, aa⟩ := zg aa
   refine yL zk hC zH [1,1,2,1,0] [J1] (fun s => y7 s_ s) (fun x => uG s_ x) 1 ht2  [] ?_
   rintro k_ m2 bi ae hl1 J2 bc
   try unfold y7 at ae
   let Z1 : List HO := [Ha (lnM F2_ s_)]
   rcases zD ae with ⟨c1, ae⟩ | ⟨c1, ae⟩
   ·refine yJ zk hC zH [1,1,2,1,0,0,1] [J1, J2] [0,1,5] (fun z : Unit => yk k_ = some bi) (fun z => uJ s_ k_) [(0, .own (eOs 1 false F2_ s_)), (1, .d (.fn 66 [])), (5, .d (I k_))] (Z1 ++ [Hq c1, Hh (.cut 0)]) ?_ fun J3 dm => ?_
    ·rintro ⟨⟩ ae
     unfold yk at ae
     obtain rfl := z8 ae
     exact yB zk hC bc (w64 (k_ + 1)) hl1 []
    ·obtain ⟨d0, h0, ae⟩ := zg ae
     obtain ⟨ib, h1, ae⟩ := zg ae
     obtain ⟨r_, h2, ae⟩ := zg ae
     let Z2 : List HO := [Hn (iL F2_ h0), Hs (iM F2_ h0), Hn (iL F2_ h1), Hs (iM F2_ h1), Hc h0w (x := (d0, ib)) h2 (loC F2_ d0 <| loC F2_ ib <| loN)]
     rcases zD ae with ⟨c2, ae⟩ | ⟨c2, ae⟩
     ·obtain ⟨g0, ae⟩ := gdE ae
      refine yJ ((xAs Try.prog 6 (kJ 1 ax k_)).or ((xVw zp 31 0 ax).or zk)) hC zH [1,1,2,1,0,0,1,2,0,1,0,1] [J1, J2, J3] [0,5] (fun z : List (List Int) × Int => zR z.1 z.2 = some bi) (fun z => uI z.1 z.2) [(0, .own (eOs 1 false F2_ s_)), (1, .d (.fn 66 [])), (5, .d (I k_)), (6, .d (.atom (kJ 1 ax k_)))] (Z2 ++ [Hq c2, Hn (⟨.inl rfl, rfl⟩ : (T.als 0 [] 0 0 = T.als 0 [] 0 0 ∨ T.als 0 [] 0 0 = T.d (.atom ax)) ∧ some ax = some ax), Hn (⟨g0.1, cuB F2_ g0⟩ : (0 : Int) ≤ k_ ∧ k_.toNat ≤ (s_.map F2_).length), Hn (rfl : T.d (.atom (kJ 1 ax k_)) = T.d (.atom (kJ 1 ax k_))), Hh (.cut 1)]) ?_ fun J4 bu => ?_
      ·rintro ⟨dh, de⟩ ae
       unfold zR at ae
       obtain ⟨g1, ae⟩ := gdE ae
       obtain ⟨g2, ae⟩ := gdE ae
       obtain ⟨g3, ae⟩ := gdE ae
       obtain rfl := z8 ae
       obtain rfl := hl1
       obtain rfl := z8 aa
       exact yE ((xVc zp 61 1 0 ax de).or ((xVw zp 61 0 ax).or zk)) hC hE [Hn (⟨.inl rfl, rfl⟩ : (T.als 0 [] 0 0 = T.als 0 [] 0 0 ∨ T.als 0 [] 0 0 = T.d (.atom ax)) ∧ some ax = some ax), Hn (⟨g1.1, cuB F2_ g1⟩ : (0 : Int) ≤ de ∧ de.toNat ≤ (dh.map F2_).length), Hn (⟨rfl, rfl⟩ : T.d (.atom (kJ 1 ax de)) = T.d (.atom (kJ 1 ax de)) ∧ some ax = some ax), Hn (⟨g2.1, cuB F2_ g2, dM F2_ dh⟩ : (0 : Int) ≤ de ∧ de.toNat ≤ (dh.map F2_).length ∧ A.areD (dh.map F2_) = true), Hx (.l ((dh.take de.toNat ++ List.replicate (dh.length - de.toNat) []).map F2_)) (vcM F2_ dh de.toNat ([] : List Int)), Hn g3.1, Hn (cuB F2_ g3), Hl (cuM F2_ (dh.take de.toNat ++ List.replicate (dh.length - de.toNat) []) de)]
      ·obtain ⟨t5, ht5, ae⟩ := zg ae
       refine yL zk hC zH [1,1,2,1,0,0,1,2,0,1,0,1,2,1,0] [J1, J2, J3, J4] (fun s => zP k_ s.1 s.2.1 s.2.2) (fun x => uF ax k_ x.1 x.2.1 x.2.2) (s_, k_, 1) ht5  [] ?_
       rintro ⟨dy, fq, k2⟩ m5 fh ai hl2 J5 ep
       try unfold zP at ai
       let Z3 : List HO := [Hn (⟨rfl, rfl⟩ : T.d (.atom (kJ 1 ax k_)) = T.d (.atom (kJ 1 ax k_)) ∧ some ax = some ax), Hx (.a (.atom (.int .i64 ((dy.length - k_.toNat : Nat) : Int)))) (vlM F2_ dy k_.toNat)]
       rcases zD ai with ⟨c3, ai⟩ | ⟨c3, ai⟩
       ·refine yJ ((xVl zp 34 22 1 0 ax k_ (by kernel_rfl)).or zk) hC zH [1,1,2,1,0,0,1,2,0,1,0,1,2,1,0,0,1] [J1, J2, J3, J4, J5] [0,1,5,6,7] (fun z : List (List Int) × Int => zQ k2 z.1 z.2 = some fh) (fun z => uH ax k_ k2 z.1 z.2) [(0, .own (eOs 1 false F2_ dy)), (1, .d (.fn 66 [])), (5, .d (I fq)), (6, .d (.atom (kJ 1 ax k_))), (7, .d (I k2))] (Z3 ++ [Hq c3, Hh (.cut 0)]) ?_ fun J6 fz => ?_
        ·rintro ⟨i6, i7⟩ ai
         unfold zQ at ai
         obtain rfl := z8 ai
         exact yB zk hC ep (i6, i7, w64 (k2 + 1)) hl2 []
        ·obtain ⟨g4, ai⟩ := gdE ai
         obtain ⟨gy, h3, ai⟩ := zg ai
         obtain ⟨g5, ai⟩ := gdE ai
         obtain ⟨gz, h4, ai⟩ := zg ai
         obtain ⟨ah, h5, ai⟩ := zg ai
         let Z4 : List HO := [Hn (⟨rfl, rfl⟩ : T.d (.atom (kJ 1 ax k_)) = T.d (.atom (kJ 1 ax k_)) ∧ some ax = some ax), Hn (⟨g4.1, g4.2, (iL F2_ h3).2⟩ : (0 : Int) ≤ k_ ∧ (0 : Int) ≤ k2 ∧ (k_ + k2).toNat < (dy.map F2_).length), Hs (iM F2_ h3), Hn (⟨rfl, rfl⟩ : T.d (.atom (kJ 1 ax k_)) = T.d (.atom (kJ 1 ax k_)) ∧ some ax = some ax), Hn (⟨g5.1, g5.2, (iL F2_ h4).2⟩ : (0 : Int) ≤ k_ ∧ (0 : Int) ≤ w64 (k2 - 1) ∧ (k_ + (w64 (k2 - 1))).toNat < (dy.map F2_).length), Hs (iM F2_ h4), Hc h0w (x := (gy, gz)) h5 (loC F2_ gy <| loC F2_ gz <| loN)]
         rcases zD ai with ⟨c4, ai⟩ | ⟨c4, ai⟩
         ·obtain ⟨g6, ai⟩ := gdE ai
          obtain ⟨ia, h6, ai⟩ := zg ai
          obtain ⟨jx, h7, ai⟩ := zg ai
          exact yB ((xVi zp 54 1 0 ax k_).or ((xVi zp 46 1 0 ax k_).or ((xVi zp 41 1 0 ax k_).or zk))) hC fz ((dy.set fq.toNat ia), w64 (fq + 1)) ai (Z4 ++ [Hq c4, Hn (⟨rfl, rfl⟩ : T.d (.atom (kJ 1 ax k_)) = T.d (.atom (kJ 1 ax k_)) ∧ some ax = some ax), Hn (⟨g6.1, g6.2, (iL F2_ h6).2⟩ : (0 : Int) ≤ k_ ∧ (0 : Int) ≤ k2 ∧ (k_ + k2).toNat < (dy.map F2_).length), Hs (iM F2_ h6), Hn (iL F2_ h7), Hs (iM F2_ h7), Hs (iM F2_ h7), Hl (sM F2_ dy fq ia)])
         ·exact yB ((xVi zp 46 1 0 ax k_).or ((xVi zp 41 1 0 ax k_).or zk)) hC fz (dy, fq) ai (Z4 ++ [Hq c4])
       ·obtain rfl := z8 ai
        obtain rfl := hl2
        exact yB ((xVl zp 34 22 1 0 ax k_ (by kernel_rfl)).or zk) hC bu (dy, fq) ae (Z3 ++ [Hq c3])
     ·exact yB zk hC dm () ae (Z2 ++ [Hq c2])
   ·obtain rfl := z8 ae
    obtain rfl := hl1
    exact yB zk hC a7 () aa (Z1 ++ [Hq c1])
def kb : Code := (Try.f64.body).getD .skip
def yW : wD := spR (α := List (List Int)) (ρ := List (List Int)) 64 (fun x => [F7_ x]) (fun r => (eOs 1 true F2_) r) (fun x => yP x) [true] (UP)
theorem k8 : ∀ x r, (fun x => yP x) x = some r → (UQ.add yW).run 64 ((UQ.add yW).norm 64 ((fun x => [F7_ x]) x)) = some ((fun r => (eOs 1 true F2_) r) r) := fun x r h => zaF h rfl
theorem k9 : (UQ.add yW).gives 64 = [true] := z8Y
theorem wg (hC : zJ Try.prog ctr) : yW.Ok Try.prog := by
 refine z5Y ?_
 rintro s_ r0 aa
 try unfold yP at aa
 refine yO true [(2, none)] kb 9 Try.func64 fun E hE => ?_
 obtain rfl := z8 aa
 exact yE ((xCl zp 8).or X0) hC hE [Ha (lnM F2_ s_), Ha (lnM F2_ s_), Hn (Int.natCast_nonneg _ : (0 : Int) ≤ ((s_.length : Nat) : Int)), Hn (Int.natCast_nonneg _ : (0 : Int) ≤ ((s_.length : Nat) : Int)), Hn (clB F2_ s_), Ha (clE 1 F2_ s_)]
def xS : Code := (Try.f26.body).getD .skip
def wx : wD := spF (α := List (List Int)) (ρ := List (List Int) × Int) 26 (fun x => [F6_ x]) (fun r => .tup [F4_ r.1, (eI .i64) r.2]) (fun x => yx x) [] (UP)
abbrev XU (out : List (List Int × Bool)) : List (Nat × T) := [(4, .own (eOs 1 true (eFl 1 (eI .i64)) out))]
abbrev XT (du : Value) (aq : List (List Int)) (ap : List (List Int × Bool)) (ft : Int) : List (Nat × T) := [(4, .own (eOs 1 true (eFl 1 (eI .i64)) ap)), (22, .d (.atom (kJ 1 du (0 : Int)))), (23, .d (I ((aq.length - (0 : Int).toNat : Nat) : Int))), (24, .d (I ft))]
theorem UU (hC : zJ Try.prog ctr) (h0j : ctr.Has xx) (h0b : ctr.Has wW) (h0G : ctr.Has xj) (h07 : ctr.Has vg) (h06 : ctr.Has y9) (h02 : ctr.Has zF) : wx.Ok Try.prog := by
 refine zX ?_
 rintro l_ r0 aa
 try unfold yx at aa
 refine yO false [(2, none), (3, none)] xS 37 Try.func26 fun E hE => ?_
 obtain ⟨r_, h0, aa⟩ := zg aa
 refine yA X0 hC xS [1,1] [] [(4, .own (eOs 1 false F2_ r_))] [Hc h0j (x := l_) h0 (loC F6_ l_ <| loN), Hh (.cut 0)] ?_
 obtain ⟨sorted, h1, aa⟩ := zg aa
 refine z3X (by kernel_rfl) (x := (sub [1,1,0] xS)) (y := (sub [1,1,1] xS)) 4 (fun st1 => Own.canon [4] st1 = ofL [(4, .own (eOs 1 false F2_ sorted))]) (fun du => yF ((zW (P := Try.prog) xp [4] (z2G z9C (f := F2_) (t := false) (v := du) (fun _ => rfl) (fun _ => rfl) (fun x y c h => zt hC h0b (x := (x, y)) h) h1) 10).or X0) hC .normal [(4, .own (eOs 1 false F2_ sorted))] [Hn (uV (f := .fn 62 []) (xs := [.atom du, .fn 63 []]) (ls := [(du, eOs 1 false F2_ r_)]) (r := .tup []) (ys := [eOs 1 false F2_ sorted]) [.atom du, .fn 63 []] (show US [.atom du, .fn 63 []] [.atom du, .fn 63 []] from inferInstance))] fun st0 h0 => ⟨rfl, h0⟩) fun st1 h1 => z0T h1 ?_
 obtain ⟨ah, h2, aa⟩ := zg aa
 obtain ⟨aq, h3, aa⟩ := zg aa
 let Z0 : List HO := [Hc h0G (x := (sorted, ())) h2 (loC F7_ sorted <| loC (JU 66) () <| loN), Hh (.g [true]), Hn k9, Hx (.a ((eOs 1 true F2_) aq)) (k8 ah _ h3), Ha (lnM F2_ aq)]
 rcases zD aa with ⟨c0, aa⟩ | ⟨c0, aa⟩
 ·obtain rfl := z8 aa
  exact yEx ((QH zp (wg hC) 13).or X0) hC hE (Z0 ++ (rpN 4 (Hq c0) [qT, Hm (shM F2_ F2_ [])])) (.tup [eSl 1 true F0_ [], I 3]) (show LeV (.tup [eSl 1 true F0_ [], I 3]) (.tup [eSl 1 true F0_ ([] : List (List Int)), I 3]) from inferInstance)
 ·obtain ⟨ar, h4, aa⟩ := zg aa
  let Z1 : List HO := (Z0 ++ [Hq c0, Hq c0, Hg (ZT h07), Hm (shM F2_ F2_ aq), Hs (ZU h07 (x := aq) h4 (loC (eSl 1 true F2_) aq <| loN)), Hq c0, Hq c0])
  rcases zD aa with ⟨c1, aa⟩ | ⟨c1, aa⟩
  ·obtain rfl := z8 aa
   exact yEx ((QH zp (wg hC) 13).or X0) hC hE (Z1 ++ [Hq c1, Hm (shM F2_ F2_ [])]) (.tup [eSl 1 true F0_ [], I 3]) (show LeV (.tup [eSl 1 true F0_ [], I 3]) (.tup [eSl 1 true F0_ ([] : List (List Int)), I 3]) from inferInstance)
  ·refine yA ((QH zp (wg hC) 13).or X0) hC xS [1,1,1,1,1] [] [(4, .own (eOs 1 true F2_ aq))] (Z1 ++ [Hq c1, Hh (.cut 0)]) ?_
   refine z0R (y := eOs 1 true F2_ aq) (by kernel_rfl) 4 (by kernel_rfl) (by kernel_rfl) fun du hv4 => ?_
   refine yJ X0 hC xS [1,1,1,1,1] [] [4] (fun z : List (List Int × Bool) => up z = some r0) (fun z => XU z) [(4, .own (eOs 1 true F2_ aq))] [Hh (.cut 0)] ?_ fun J1 a7 => ?_
   ·rintro out aa
    unfold up at aa
    obtain ⟨hfl0, aa⟩ := gdE aa
    obtain rfl := z8 aa
    exact yEx X0 hC hE [Hm (shM (eFl 1 (eI .i64)) (eFl 1 (eI .i64)) out)] (.tup [eSl 1 true (eFl 1 (eI .i64)) out, I 0]) (haveI := flA (s := 1) (t := 1) (b := true) (f := (eI .i64)) hfl0; show LeV (.tup [eSl 1 true (eFl 1 (eI .i64)) out, I 0]) (.tup [eSl 1 true F0_ (out.map (·.1)), I 0]) from inferInstance)
   ·obtain ⟨t2, ht2, aa⟩ := zg aa
    refine yLx ((xVl zp 23 22 1 4 du (0 : Int) (by kernel_rfl)).or ((xMw Try.prog 22 4 1 du).or X0)) hC xS [1,1,1,1,1,2,1,0] [J1] (fun s => xg aq s.1 s.2) (fun x => XT du aq x.1 x.2) ((aq.map fun q => (q, false)), 0) ht2 [(4, .own (eOs 1 true F2_ aq)), (22, .d (.atom (kJ 1 du (0 : Int)))), (23, .d (I ((aq.length - (0 : Int).toNat : Nat) : Int))), (24, .d (I 0))] inferInstance [Hn (rfl : some du = some du), Hn (⟨rfl, rfl⟩ : T.d (.atom (kJ 1 du (0 : Int))) = T.d (.atom (kJ 1 du (0 : Int))) ∧ some du = some du), Hx (.a (.atom (.int .i64 ((aq.length - (0 : Int).toNat : Nat) : Int)))) (vlM F2_ aq (0 : Int).toNat)] ?_
    rintro ⟨ap, ft⟩ m2 bi ae hl1 J2 bc
    try unfold xg at ae
    rcases zD ae with ⟨c2, ae⟩ | ⟨c2, ae⟩
    ·obtain ⟨g0, ae⟩ := gdE ae
     obtain ⟨cu, h5, ae⟩ := zg ae
     obtain ⟨br, h6, ae⟩ := zg ae
     obtain ⟨bj, h7, ae⟩ := zg ae
     obtain ⟨jl, h8, ae⟩ := zg ae
     obtain rfl := z8 ae
     exact yB ((xVi zp 27 1 4 du (0 : Int)).or X0) hC bc ((ap.set ft.toNat (bj, true)), w64 (ft + 1)) hl1 [Hq c2, Hn (⟨rfl, rfl⟩ : T.d (.atom (kJ 1 du (0 : Int))) = T.d (.atom (kJ 1 du (0 : Int))) ∧ some du = some du), Hn (⟨g0.1, g0.2, (iL (eFl 1 (eI .i64)) h5).2⟩ : (0 : Int) ≤ 0 ∧ (0 : Int) ≤ ft ∧ (0 + ft).toNat < (ap.map (eFl 1 (eI .i64))).length), Hs (iM (eFl 1 (eI .i64)) h5), Hc h06 (x := cu.1) h6 (loC (eSl 1 cu.2 (eI .i64)) cu.1 <| loN), Hg (ZT h02), Hm (shM (eI .i64) (eI .i64) br), Hs (ZU h02 (x := br) h7 (loC F2_ br <| loN)), Hm (shM (eI .i64) (eI .i64) br), Hn (iL (eFl 1 (eI .i64)) h8), Hs (iM (eFl 1 (eI .i64)) h8), Hs (iM (eFl 1 (eI .i64)) h8), Hl (sM (eFl 1 (eI .i64)) ap ft (bj, true))]
    ·obtain rfl := z8 ae
     obtain rfl := hl1
     exact yB X0 hC a7 ap aa [Hq c2]
def we : Code := (Try.f24.body).getD .skip
def kn : wD := spF (α := Int × Int × Int) (ρ := List (List Int) × Int) 24 (fun x => [(eI .i64) x.1, (eI .i64) x.2.1, (eI .i64) x.2.2]) (fun r => .tup [F4_ r.1, (eI .i64) r.2]) (fun x => wu x.1 x.2.1 x.2.2) [] (z9U)
abbrev UM (inputs : Int) (ba : Int) (to : Int) (k_ : Int) (ak : List (List Int)) (au : List (List Int)) (bn : Int) (jn : Int) (jo : Bool) (jp : Bool) : List (Nat × T) := [(0, .d (I inputs)), (1, .d (I ba)), (2, .d (I to)), (8, .own (eOs 1 false F2_ ak)), (9, .own (eOs 1 false F2_ au)), (10, .d (I bn)), (11, .d (I k_)), (45, .d (I jn)), (46, .d (B jo)), (49, .d (I k_)), (50, .d (I to)), (51, .d (B (decide (k_ < to)))), (52, .d (B (decide (k_ < to)))), (58, .d (B jp))]
abbrev UJ (inputs : Int) (ba : Int) (to : Int) (k_ : Int) (ap : List (List Int)) (ay : Int) (cp : Bool) (next : List (List Int)) : List (Nat × T) := [(0, .d (I inputs)), (1, .d (I ba)), (2, .d (I to)), (8, .own (eOs 1 false F2_ ap)), (10, .d (I ay)), (11, .d (I k_)), (12, .own (eOs 1 false F2_ next)), (45, .d (I ay)), (46, .d (B (decide (ay > 65536)))), (49, .d (I k_)), (50, .d (I to)), (51, .d (B (decide (k_ < to)))), (52, .d (B (decide (k_ < to)))), (58, .d (B cp))]
abbrev UI (inputs : Int) (ba : Int) (to : Int) (al : List (List Int)) (k_ : Int) (ap : List (List Int)) (ay : Int) (cp : Bool) (fc : Int) (db : List (List Int)) : List (Nat × T) := [(0, .d (I inputs)), (1, .d (I ba)), (2, .d (I to)), (8, .own (eOs 1 false F2_ ap)), (9, .own (eOs 1 false F2_ al)), (10, .d (I ay)), (11, .d (I k_)), (12, .own (eOs 1 false F2_ db)), (45, .d (I ay)), (46, .d (B (decide (ay > 65536)))), (49, .d (I k_)), (50, .d (I to)), (51, .d (B (decide (k_ < to)))), (52, .d (B (decide (k_ < to)))), (58, .d (B cp)), (67, .als 9 [] 0 0), (68, .d (I ((al.length : Nat) : Int))), (69, .d (I fc))]
abbrev UF (inputs : Int) (ba : Int) (to : Int) (al : List (List Int)) (k_ : Int) (ap : List (List Int)) (ay : Int) (cp : Bool) (fc : Int) (aw : List Int) (bh : List (List Int)) (fe : Int) : List (Nat × T) := [(0, .d (I inputs)), (1, .d (I ba)), (2, .d (I to)), (8, .own (eOs 1 false F2_ ap)), (9, .own (eOs 1 false F2_ al)), (10, .d (I ay)), (11, .d (I k_)), (12, .own (eOs 1 false F2_ bh)), (14, .d (eSl 1 false (eI .i64) aw)), (45, .d (I ay)), (46, .d (B (decide (ay > 65536)))), (49, .d (I k_)), (50, .d (I to)), (51, .d (B (decide (k_ < to)))), (52, .d (B (decide (k_ < to)))), (58, .d (B cp)), (67, .als 9 [] 0 0), (68, .d (I ((al.length : Nat) : Int))), (69, .d (I fc)), (73, .d (I inputs)), (74, .d (I fe))]
abbrev UG (inputs : Int) (ba : Int) (to : Int) (al : List (List Int)) (k_ : Int) (ap : List (List Int)) (ay : Int) (cp : Bool) (bm : List (List Int)) (fc : Int) : List (Nat × T) := [(0, .d (I inputs)), (1, .d (I ba)), (2, .d (I to)), (8, .own (eOs 1 false F2_ ap)), (9, .own (eOs 1 false F2_ al)), (10, .d (I ay)), (11, .d (I k_)), (12, .own (eOs 1 false F2_ bm)), (45, .d (I ay)), (46, .d (B (decide (ay > 65536)))), (49, .d (I k_)), (50, .d (I to)), (51, .d (B (decide (k_ < to)))), (52, .d (B (decide (k_ < to)))), (58, .d (B cp)), (67, .als 9 [] 0 0), (68, .d (I ((al.length : Nat) : Int))), (69, .d (I fc))]
abbrev UK (inputs : Int) (ba : Int) (to : Int) (al : List (List Int)) (k_ : Int) (ap : List (List Int)) (ay : Int) (cp : Bool) : List (Nat × T) := [(0, .d (I inputs)), (1, .d (I ba)), (2, .d (I to)), (8, .own (eOs 1 false F2_ ap)), (9, .own (eOs 1 false F2_ al)), (10, .d (I ay)), (11, .d (I k_)), (45, .d (I ay)), (46, .d (B (decide (ay > 65536)))), (49, .d (I k_)), (50, .d (I to)), (51, .d (B (decide (k_ < to)))), (52, .d (B (decide (k_ < to)))), (58, .d (B cp))]
abbrev UL (inputs : Int) (ba : Int) (to : Int) (al : List (List Int)) (k_ : Int) (ap : List (List Int)) (ay : Int) : List (Nat × T) := [(0, .d (I inputs)), (1, .d (I ba)), (2, .d (I to)), (8, .own (eOs 1 false F2_ ap)), (9, .own (eOs 1 false F2_ al)), (10, .d (I ay)), (11, .d (I k_))]
abbrev UH (inputs : Int) (ba : Int) (to : Int) (out : List (List Int)) (al : List (List Int)) (n_ : Int) (k_ : Int) : List (Nat × T) := [(0, .d (I inputs)), (1, .d (I ba)), (2, .d (I to)), (8, .own (eOs 1 false F2_ out)), (9, .own (eOs 1 false F2_ al)), (10, .d (I n_)), (11, .d (I k_))]
def zI : XH Try.prog := ((wL zp (.inl 83) [82]).or X0)
theorem z0g (hC : zJ Try.prog ctr) (h04 : ctr.Has wx) (h02 : ctr.Has zF) : kn.Ok Try.prog := by
 refine zX ?_
 rintro ⟨inputs, ba, to⟩ r0 aa
 try unfold wu at aa
 refine yO false [(6, none), (7, none)] we 88 Try.func24 fun E hE => ?_
 rcases zD aa with ⟨c0, aa⟩ | ⟨c0, aa⟩
 ·obtain rfl := z8 aa
  exact yEx zI hC hE [Hq c0, Hm (shM F2_ F2_ [])] (.tup [eSl 1 true F0_ [], I 3]) (show LeV (.tup [eSl 1 true F0_ [], I 3]) (.tup [eSl 1 true F0_ ([] : List (List Int)), I 3]) from inferInstance)
 ·rcases zD aa with ⟨c1, aa⟩ | ⟨c1, aa⟩
  ·obtain rfl := z8 aa
   exact yEx zI hC hE [Hq c0, Hq c1, Hq c1, Hq c1, qT, Hm (shM F2_ F2_ [])] (.tup [eSl 1 true F0_ [], I 1]) (show LeV (.tup [eSl 1 true F0_ [], I 1]) (.tup [eSl 1 true F0_ ([] : List (List Int)), I 1]) from inferInstance)
  ·let Z0 : List HO := [Hq c0, Hq c1, Hq c1, Hq c1]
   rcases zD aa with ⟨c2, aa⟩ | ⟨c2, aa⟩
   ·obtain rfl := z8 aa
    exact yEx zI hC hE (Z0 ++ [Hq c2, Hm (shM F2_ F2_ [])]) (.tup [eSl 1 true F0_ [], I 1]) (show LeV (.tup [eSl 1 true F0_ [], I 1]) (.tup [eSl 1 true F0_ ([] : List (List Int)), I 1]) from inferInstance)
   ·rcases zD aa with ⟨c3, aa⟩ | ⟨c3, aa⟩
    ·obtain rfl := z8 aa
     exact yEx zI hC hE (Z0 ++ [Hq c2, Hq c3, Hm (shM F2_ F2_ [])]) (.tup [eSl 1 true F0_ [], I 3]) (show LeV (.tup [eSl 1 true F0_ [], I 3]) (.tup [eSl 1 true F0_ ([] : List (List Int)), I 3]) from inferInstance)
    ·obtain ⟨t1, ht1, aa⟩ := zg aa
     refine yLx zI hC we [1,1,1,1,1,1,1,1,0] [] (fun s => wG inputs ba to s.1 s.2.1 s.2.2.1 s.2.2.2) (fun x => UH inputs ba to x.1 x.2.1 x.2.2.1 x.2.2.2) (([] : List (List Int)), ([[]] : List (List Int)), 0,0) ht1 [(0, .d (I inputs)), (1, .d (I ba)), (2, .d (I to)), (8, .own (eOs 1 true F2_ [])), (9, .own (eOs 1 true F0_ ([[]]))), (10, .d (I 0)), (11, .d (I 0))] inferInstance (Z0 ++ [Hq c2, Hq c3, Hh (.v 5 [9]), Hm (shM F1_ F0_ ([[]] : List (List Int)))]) ?_
     rintro ⟨out, al, n_, k_⟩ m1 bi ae hl1 J1 a7
     try unfold wG at ae
     refine yJ zI hC we [1,1,1,1,1,1,1,1,0,0] [J1] [0,1,2,8,9,10,11,45,46,49,50,51,52,58] (fun z : List (List Int) × List (List Int) × Int × Int × Bool × Bool => kj k_ z.1 z.2.1 z.2.2.1 z.2.2.2.1 z.2.2.2.2.1 z.2.2.2.2.2 = some bi) (fun z => UM inputs ba to k_ z.1 z.2.1 z.2.2.1 z.2.2.2.1 z.2.2.2.2.1 z.2.2.2.2.2) [(0, .d (I inputs)), (1, .d (I ba)), (2, .d (I to)), (8, .own (eOs 1 false F2_ out)), (9, .own (eOs 1 false F2_ al)), (10, .d (I n_)), (11, .d (I k_))] [Hh (.cut 0)] ?_ fun J2 bc => ?_
     ·rintro ⟨ak, au, bn, jn, jo, jp⟩ ae
      unfold kj at ae
      obtain rfl := z8 ae
      exact yB zI hC a7 (ak, au, bn, w64 (k_ + 1)) hl1 []
     ·refine yJ zI hC we [1,1,1,1,1,1,1,1,0,0,2,0] [J1, J2] [0,1,2,8,9,10,11] (fun z : List (List Int) × Int => uk inputs to al k_ z.1 z.2 = some bi) (fun z => UL inputs ba to al k_ z.1 z.2) [(0, .d (I inputs)), (1, .d (I ba)), (2, .d (I to)), (8, .own (eOs 1 false F2_ out)), (9, .own (eOs 1 false F2_ al)), (10, .d (I n_)), (11, .d (I k_))] [Hh (.cut 0)] ?_ fun J3 dm => ?_
      ·rintro ⟨ap, ay⟩ ae
       unfold uk at ae
       refine yJ zI hC we [1,1,1,1,1,1,1,1,0,0,2,0,1] [J1, J2] [0,1,2,8,9,10,11,45,46,49,50,51,52,58] (fun z : Bool => uj inputs to al k_ ap ay z = some bi) (fun z => UK inputs ba to al k_ ap ay z) [(0, .d (I inputs)), (1, .d (I ba)), (2, .d (I to)), (8, .own (eOs 1 false F2_ ap)), (9, .own (eOs 1 false F2_ al)), (10, .d (I ay)), (11, .d (I k_))] [Hh (.cut 0)] ?_ fun J4 bu => ?_
       ·rintro cp ae
        unfold uj at ae
        rcases zD ae with ⟨c4, ae⟩ | ⟨c4, ae⟩
        ·obtain ⟨r_, h0, ae⟩ := zg ae
         obtain rfl := z8 ae
         obtain rfl := hl1
         obtain rfl := z8 aa
         exact yE zI hC hE [Hq c4, Hg (ZT h04), Hm (shM F2_ F2_ ap), Hs (ZU h04 (x := ap) h0 (loC F6_ ap <| loN)), Hm (shM F2_ F2_ ap)]
        ·refine yJ zI hC we [1,1,1,1,1,1,1,1,0,0,2,0,1,1,1,1] [J1, J2] [0,1,2,8,10,11,12,45,46,49,50,51,52,58] (fun z : List (List Int) => ki k_ ap ay cp z = some bi) (fun z => UJ inputs ba to k_ ap ay cp z) [(0, .d (I inputs)), (1, .d (I ba)), (2, .d (I to)), (8, .own (eOs 1 false F2_ ap)), (9, .own (eOs 1 false F2_ al)), (10, .d (I ay)), (11, .d (I k_)), (12, .own (eOs 1 true F2_ [])), (45, .d (I ay)), (46, .d (B (decide (ay > 65536)))), (49, .d (I k_)), (50, .d (I to)), (51, .d (B (decide (k_ < to)))), (52, .d (B (decide (k_ < to)))), (58, .d (B cp))] [Hq c4, Hh (.cut 1)] ?_ fun J5 ep => ?_
         ·rintro next ae
          unfold ki at ae
          exact yB zI hC bc (ap, next, ay, ay, decide (ay > 65536), cp) ae []
         ·obtain ⟨t6, ht6, ae⟩ := zg ae
          refine yLx zI hC we [1,1,1,1,1,1,1,1,0,0,2,0,1,1,1,1,2,1,0] [J1, J2, J5] (fun s => w6 inputs al s.1 s.2) (fun x => UG inputs ba to al k_ ap ay cp x.1 x.2) (([] : List (List Int)), 0) ht6 [(0, .d (I inputs)), (1, .d (I ba)), (2, .d (I to)), (8, .own (eOs 1 false F2_ ap)), (9, .own (eOs 1 false F2_ al)), (10, .d (I ay)), (11, .d (I k_)), (12, .own (eOs 1 true F2_ [])), (45, .d (I ay)), (46, .d (B (decide (ay > 65536)))), (49, .d (I k_)), (50, .d (I to)), (51, .d (B (decide (k_ < to)))), (52, .d (B (decide (k_ < to)))), (58, .d (B cp)), (67, .als 9 [] 0 0), (68, .d (I ((al.length : Nat) : Int))), (69, .d (I 0))] inferInstance [Ha (lnM F2_ al)] ?_
          rintro ⟨bm, fc⟩ m6 fh ai hl2 J6 fz
          try unfold w6 at ai
          rcases zD ai with ⟨c5, ai⟩ | ⟨c5, ai⟩
          ·refine yJ zI hC we [1,1,1,1,1,1,1,1,0,0,2,0,1,1,1,1,2,1,0,0,1,1] [J1, J2, J5, J6] [0,1,2,8,9,10,11,12,45,46,49,50,51,52,58,67,68,69] (fun z : List (List Int) => kh fc z = some fh) (fun z => UI inputs ba to al k_ ap ay cp fc z) [(0, .d (I inputs)), (1, .d (I ba)), (2, .d (I to)), (8, .own (eOs 1 false F2_ ap)), (9, .own (eOs 1 false F2_ al)), (10, .d (I ay)), (11, .d (I k_)), (12, .own (eOs 1 false F2_ bm)), (45, .d (I ay)), (46, .d (B (decide (ay > 65536)))), (49, .d (I k_)), (50, .d (I to)), (51, .d (B (decide (k_ < to)))), (52, .d (B (decide (k_ < to)))), (58, .d (B cp)), (67, .als 9 [] 0 0), (68, .d (I ((al.length : Nat) : Int))), (69, .d (I fc))] [Hq c5, Hh (.cut 0)] ?_ fun J7 gt => ?_
           ·rintro db ai
            unfold kh at ai
            obtain rfl := z8 ai
            exact yB zI hC fz (db, w64 (fc + 1)) hl2 []
           ·obtain ⟨aw, h1, ai⟩ := zg ai
            obtain ⟨t8, ht8, ai⟩ := zg ai
            refine yL zI hC we [1,1,1,1,1,1,1,1,0,0,2,0,1,1,1,1,2,1,0,0,1,1,2,0,1,1,0] [J1, J2, J5, J6, J7] (fun s => w5 inputs aw s.1 s.2) (fun x => UF inputs ba to al k_ ap ay cp fc aw x.1 x.2) (bm,0) ht8  [Hn (iL F2_ h1), Hs (iM F2_ h1)] ?_
            rintro ⟨bh, fe⟩ m8 jw bk hl3 J8 jz
            try unfold w5 at bk
            rcases zD bk with ⟨c6, bk⟩ | ⟨c6, bk⟩
            ·obtain ⟨ah, h2, bk⟩ := zg bk
             obtain ⟨g0, bk⟩ := gdE bk
             obtain ⟨g1, bk⟩ := gdE bk
             obtain rfl := z8 bk
             exact yB zI hC jz ((bh ++ [(ah ++ [fe])]), w64 (fe + 1)) hl3 [Hq c6, Hc h02 (x := aw) h2 (loC F2_ aw <| loN), Hq (dM (eI .i64) [fe]), Hn (dM (eI .i64) [fe]), Hn (aN (eI .i64) (eI .i64) g0 (by simp)), Hl (aM (eI .i64) ah [fe]), Hm (shM (eI .i64) (eI .i64) (ah ++ [fe])), Hq (dM F2_ [(ah ++ [fe])]), Hn (dM F2_ [(ah ++ [fe])]), Hn (aL F2_ F2_ g1), Hl (aM F2_ bh [(ah ++ [fe])])]
            ·obtain rfl := z8 bk
             obtain rfl := hl3
             exact yB zI hC gt bh ai [Hq c6]
          ·obtain rfl := z8 ai
           obtain rfl := hl2
           exact yB zI hC ep bm ae [Hq c5]
       ·let Z1 : List HO := [Ha (lnM F2_ ap)]
        rcases zD ae with ⟨c7, ae⟩ | ⟨c7, ae⟩
        ·obtain rfl := z8 ae
         obtain rfl := hl1
         obtain rfl := z8 aa
         exact yEx zI hC hE (Z1 ++ (Hq c7 :: Hq c7 :: Hq c7 :: (rpN 7 qT [Hm (shM F2_ F2_ [])]))) (.tup [eSl 1 true F0_ [], I 3]) (show LeV (.tup [eSl 1 true F0_ [], I 3]) (.tup [eSl 1 true F0_ ([] : List (List Int)), I 3]) from inferInstance)
        ·rcases zD ae with ⟨c8, ae⟩ | ⟨c8, ae⟩
         ·obtain rfl := z8 ae
          obtain rfl := hl1
          obtain rfl := z8 aa
          exact yEx zI hC hE (Z1 ++ (Hq c7 :: Hq c7 :: Hq c7 :: (rpN 6 (Hq c8) [qT, Hm (shM F2_ F2_ [])]))) (.tup [eSl 1 true F0_ [], I 3]) (show LeV (.tup [eSl 1 true F0_ [], I 3]) (.tup [eSl 1 true F0_ ([] : List (List Int)), I 3]) from inferInstance)
         ·let Z2 : List HO := (Z1 ++ (Hq c7 :: Hq c7 :: Hq c7 :: (rpN 4 (Hq c8) [])))
          rcases zD ae with ⟨c9, ae⟩ | ⟨c9, ae⟩
          ·let Z3 : List HO := (Z2 ++ [Hq c9, Hq c9, Ha (lnM F2_ al), Hq c9, Hq c9, Hq c9, Hq c8, Hq c9, Hq c8])
           rcases zD ae with ⟨c10, ae⟩ | ⟨c10, ae⟩
           ·obtain rfl := z8 ae
            obtain rfl := hl1
            obtain rfl := z8 aa
            exact yEx zI hC hE (Z3 ++ [Hq c10, Hm (shM F2_ F2_ [])]) (.tup [eSl 1 true F0_ [], I 3]) (show LeV (.tup [eSl 1 true F0_ [], I 3]) (.tup [eSl 1 true F0_ ([] : List (List Int)), I 3]) from inferInstance)
           ·exact yB zI hC bu (decide ((w64 (((al.length : Nat) : Int) * inputs)) > 4096)) ae (Z3 ++ [Hq c10])
          ·exact yB zI hC bu false ae (Z2 ++ (rpN 5 (Hq c9) [Hq c8, Hq c9, Hq c8, qF]))
      ·rcases zD ae with ⟨c11, ae⟩ | ⟨c11, ae⟩
       ·obtain ⟨g2, ae⟩ := gdE ae
        exact yB zI hC dm ((out ++ al), w64 (n_ + (w64 (k_ * ((al.length : Nat) : Int))))) ae [Hq c11, Hq (dM F2_ al), Hn (dM F2_ al), Hn (aL F2_ F2_ g2), Hl (aM F2_ out al), Ha (lnM F2_ al)]
       ·exact yB zI hC dm (out, n_) ae [Hq c11]
def Q4 : Code := (Try.f5.body).getD .skip
def vY : wD := spF (α := Int × Int) (ρ := List (List Int) × Int) 5 (fun x => [(eI .i64) x.1, (eI .i64) x.2]) (fun r => .tup [F4_ r.1, (eI .i64) r.2]) (fun x => yi x.1 x.2) [] (Vt)
theorem QR (hC : zJ Try.prog ctr) (h0k : ctr.Has kn) : vY.Ok Try.prog := by
 refine zX ?_
 rintro ⟨inputs, k_⟩ r0 aa
 try unfold yi at aa
 refine yO false [(4, none), (5, none)] Q4 12 Try.func5 fun E hE => ?_
 obtain ⟨r_, h0, aa⟩ := zg aa
 obtain rfl := z8 aa
 exact yE X0 hC hE [Hc h0k (x := (inputs, k_, k_)) h0 (loC (eI .i64) inputs <| loC (eI .i64) k_ <| loC (eI .i64) k_ <| loN)]
def JL : Code := (Try.f7.body).getD .skip
def qV : wD := spF (α := List (List Int)) (ρ := List (List Int)) 7 (fun x => [F6_ x]) (fun r => F6_ r) (fun x => y8 x) [] (UP)
theorem K7 (hC : zJ Try.prog ctr) : qV.Ok Try.prog := by
 refine zX ?_
 rintro l_ r0 aa
 try unfold y8 at aa
 refine yO true [(2, none)] JL 4 Try.func7 fun E hE => ?_
 obtain rfl := z8 aa
 exact yE X0 hC hE []
def ZF : Code := (Try.f25.body).getD .skip
def qS : wD := spF (α := Int × List (List (List Int))) (ρ := Int) 25 (fun x => [(eI .i64) x.1, (eSl 1 false F6_) x.2]) (fun r => (eI .i64) r) (fun x => jA x.1 x.2) [] (Vt)
abbrev Ve : List (Nat × T) := []
abbrev Vd (inputs : Int) (l_ : List (List (List Int))) (ie : Int) : List (Nat × T) := [(0, .d (I inputs)), (8, .d (eSl 1 false F6_ l_)), (9, .d (I ((l_.length : Nat) : Int))), (10, .d (I ie))]
theorem K1 (hC : zJ Try.prog ctr) (h03 : ctr.Has yI) : qS.Ok Try.prog := by
 refine zX ?_
 rintro ⟨inputs, l_⟩ r0 aa
 try unfold jA at aa
 refine yO true [(4, none)] ZF 21 Try.func25 fun E hE => ?_
 refine yJ X0 hC ZF [1] [] [] (fun z : Unit => qR = some r0) (fun z => Ve) [(0, .d (I inputs)), (1, .d (eSl 1 false F6_ l_))] [Hh (.cut 1)] ?_ fun J1 a7 => ?_
 ·rintro ⟨⟩ aa
  unfold qR at aa
  obtain rfl := z8 aa
  exact yE X0 hC hE []
 ·obtain ⟨t2, ht2, aa⟩ := zg aa
  refine yL X0 hC ZF [1,2,1,0] [J1] (fun s => vM inputs l_ s) (fun x => Vd inputs l_ x) 0 ht2  [Ha (lnM F6_ l_)] ?_
  rintro ie m2 bi ae hl1 J2 bc
  try unfold vM at ae
  rcases zD ae with ⟨c0, ae⟩ | ⟨c0, ae⟩
  ·obtain ⟨cd, h0, ae⟩ := zg ae
   obtain ⟨r_, h1, ae⟩ := zg ae
   let Z0 : List HO := [Hq c0, Hi F6_ h0, Hc h03 (x := (cd, inputs)) h1 (loC F6_ cd <| loC (eI .i64) inputs <| loN)]
   rcases zD ae with ⟨c1, ae⟩ | ⟨c1, ae⟩
   ·obtain rfl := z8 ae
    obtain rfl := hl1
    obtain rfl := z8 aa
    exact yE X0 hC hE (Z0 ++ [Hq c1])
   ·obtain rfl := z8 ae
    exact yB X0 hC bc (w64 (ie + 1)) hl1 (Z0 ++ [Hq c1])
  ·obtain rfl := z8 ae
   obtain rfl := hl1
   exact yB X0 hC a7 () aa [Hq c0]
def Q2 : Code := (Try.f6.body).getD .skip
def kA : wD := spF (α := List (List Int) × List (List Int) × Int) (ρ := List (List Int) × Int) 6 (fun x => [F6_ x.1, F6_ x.2.1, (eI .i64) x.2.2]) (fun r => .tup [F4_ r.1, (eI .i64) r.2]) (fun x => wi x.1 x.2.1 x.2.2) [] (z9U)
theorem QP (hC : zJ Try.prog ctr) (h0f : ctr.Has qS) (h0j : ctr.Has xx) (h04 : ctr.Has wx) : kA.Ok Try.prog := by
 refine zX ?_
 rintro ⟨a_, b_, inputs⟩ r0 aa
 try unfold wi at aa
 refine yO false [(6, none), (7, none)] Q2 24 Try.func6 fun E hE => ?_
 obtain ⟨r_, h0, aa⟩ := zg aa
 let Z0 : List HO := [Hg (ZT h0f), Hm (shM F6_ F6_ ([a_, b_])), Hs (ZU h0f (x := (inputs, [a_, b_])) h0 (loC (eI .i64) inputs <| loC (eSl 1 true F6_) [a_, b_] <| loN))]
 rcases zD aa with ⟨c0, aa⟩ | ⟨c0, aa⟩
 ·obtain rfl := z8 aa
  exact yEx X0 hC hE (Z0 ++ [Hq c0, Hm (shM F2_ F2_ [])]) (.tup [eSl 1 true F0_ [], I r_]) (show LeV (.tup [eSl 1 true F0_ [], I r_]) (.tup [eSl 1 true F0_ ([] : List (List Int)), I r_]) from inferInstance)
 ·obtain ⟨ah, h1, aa⟩ := zg aa
  obtain ⟨g0, aa⟩ := gdE aa
  obtain ⟨aq, h2, aa⟩ := zg aa
  obtain rfl := z8 aa
  exact yE X0 hC hE (Z0 ++ [Hq c0, Hc h0j (x := a_) h1 (loC F6_ a_ <| loN), Hn (dM F2_ b_), Hn (aL F2_ F2_ g0), Hl (aM F2_ ah b_), Hg (ZT h04), Hm (shM F2_ F2_ (ah ++ b_)), Hs (ZU h04 (x := (ah ++ b_)) h2 (loC F6_ (ah ++ b_) <| loN)), Hm (shM F2_ F2_ (ah ++ b_))])
def JJ : Code := (Try.f8.body).getD .skip
def ur : wD := spF (α := Int × Int) (ρ := List (List Int) × Int) 8 (fun x => [(eI .i64) x.1, (eI .i64) x.2]) (fun r => .tup [F4_ r.1, (eI .i64) r.2]) (fun x => yl x.1 x.2) [] (Vt)
theorem K2 (hC : zJ Try.prog ctr) (h0k : ctr.Has kn) : ur.Ok Try.prog := by
 refine zX ?_
 rintro ⟨inputs, k_⟩ r0 aa
 try unfold yl at aa
 refine yO false [(4, none), (5, none)] JJ 11 Try.func8 fun E hE => ?_
 obtain ⟨r_, h0, aa⟩ := zg aa
 obtain rfl := z8 aa
 exact yE X0 hC hE [Hc h0k (x := (inputs, 0, k_)) h0 (loC (eI .i64) inputs <| loC (eI .i64) 0 <| loC (eI .i64) k_ <| loN)]
def Q3 : Code := (Try.f10.body).getD .skip
def kB : wD := spF (α := List (List Int) × Int) (ρ := Int × Int) 10 (fun x => [F6_ x.1, (eI .i64) x.2]) (fun r => .tup [(eI .i64) r.1, (eI .i64) r.2]) (fun x => uU x.1 x.2) [] (Vt)
theorem QQ (hC : zJ Try.prog ctr) (h03 : ctr.Has yI) (h07 : ctr.Has vg) : kB.Ok Try.prog := by
 refine zX ?_
 rintro ⟨l_, inputs⟩ r0 aa
 try unfold uU at aa
 refine yO false [(4, none), (5, none)] Q3 15 Try.func10 fun E hE => ?_
 obtain ⟨r_, h0, aa⟩ := zg aa
 let Z0 : List HO := [Hc h03 (x := (l_, inputs)) h0 (loC F6_ l_ <| loC (eI .i64) inputs <| loN)]
 rcases zD aa with ⟨c0, aa⟩ | ⟨c0, aa⟩
 ·obtain rfl := z8 aa
  exact yE X0 hC hE (Z0 ++ [Hq c0])
 ·obtain ⟨ah, h1, aa⟩ := zg aa
  obtain rfl := z8 aa
  exact yE X0 hC hE (Z0 ++ [Hq c0, Hc h07 (x := l_) h1 (loC F6_ l_ <| loN)])
def Yn : Code := (Try.f32.body).getD .skip
def Yd : wD := spF (α := List Int) (ρ := List UInt8) 32 (fun x => [F2_ x]) (fun r => YO r) (fun x => Ya x) [] (UP)
abbrev UE (b_ : List Int) : List (Nat × T) := [(3, .own (eOs 1 true (eI .u8) b_))]
abbrev UD (w_ : List Int) (gp : List Int) (dx : Int) : List (Nat × T) := [(3, .own (eOs 1 true (eI .u8) gp)), (9, .d (eSl 1 false (eI .i64) w_)), (10, .d (I ((w_.length : Nat) : Int))), (11, .d (I dx))]
theorem z0f (hC : zJ Try.prog ctr) : Yd.Ok Try.prog := by
 refine zX ?_
 rintro w_ r0 aa
 try unfold Ya at aa
 refine yO true [(2, none)] Yn 24 Try.func32 fun E hE => ?_
 obtain ⟨g0, aa⟩ := gdE aa
 refine yJ X0 hC Yn [1,1] [] [3] (fun z : List Int => Y9 z = some r0) (fun z => UE z) [(0, .d (eSl 1 false (eI .i64) w_)), (3, .own (eOs 1 true (eI .u8) (List.replicate ((w_.length : Nat) : Int).toNat (0 : Int))))] [Ha (lnM (eI .i64) w_), Hn (rL g0), Ha (rM 1 (eI .u8) ((w_.length : Nat) : Int) (0 : Int)), Hh (.cut 0)] ?_ fun J1 a7 => ?_
 ·rintro b_ aa
  unfold Y9 at aa
  obtain rfl := z8 aa
  exact yE ((zaR Try.prog z7c).or X0) hC hE [Hx (.a (YO (u8s b_))) (stM b_)]
 ·obtain ⟨t2, ht2, aa⟩ := zg aa
  refine yL X0 hC Yn [1,1,2,1,0] [J1] (fun s => wF w_ s.1 s.2) (fun x => UD w_ x.1 x.2) ((List.replicate ((w_.length : Nat) : Int).toNat (0 : Int)), 0) ht2  [Ha (lnM (eI .i64) w_)] ?_
  rintro ⟨gp, dx⟩ m2 bi ae hl1 J2 bc
  try unfold wF at ae
  rcases zD ae with ⟨c0, ae⟩ | ⟨c0, ae⟩
  ·obtain ⟨cm, h0, ae⟩ := zg ae
   obtain ⟨bz, h1, ae⟩ := zg ae
   obtain rfl := z8 ae
   exact yB X0 hC bc ((gp.set dx.toNat (IntKind.u8.wrap (cm))), w64 (dx + 1)) hl1 [Hq c0, Hi (eI .i64) h0, Hn (iL (eI .u8) h1), Hs (iM (eI .u8) h1), Hs (iM (eI .u8) h1), Hl (sM (eI .u8) gp dx (IntKind.u8.wrap (cm)))]
  ·obtain rfl := z8 ae
   obtain rfl := hl1
   exact yB X0 hC a7 gp aa [Hq c0]
def wC : Code := (Try.f11.body).getD .skip
def ut : wD := spF (α := List (List Int) × List (List Int) × Int) (ρ := List (List Int) × Int) 11 (fun x => [F6_ x.1, F6_ x.2.1, (eI .i64) x.2.2]) (fun r => .tup [F4_ r.1, (eI .i64) r.2]) (fun x => wH x.1 x.2.1 x.2.2) [] (z9U)
abbrev XZ (out : List (List Int)) : List (Nat × T) := [(11, .own (eOs 1 false F2_ out))]
abbrev XY (a_ : List (List Int)) (b_ : List (List Int)) (dz : Int) (d9 : List ((List UInt8) × Bool)) (bn : Int) (ap : List (List Int)) : List (Nat × T) := [(1, .d (eSl 1 false F2_ b_)), (9, .own (.opq (Vs (YH YO eB d9)))), (10, .d (I bn)), (11, .own (eOs 1 false F2_ ap)), (27, .d (eSl 1 false F2_ a_)), (28, .d (I ((a_.length : Nat) : Int))), (29, .d (I dz))]
abbrev XX (a_ : List (List Int)) (b_ : List (List Int)) (dz : Int) (ce : List Int) (eb : Int) (ee : List ((List UInt8) × Bool)) (io : Int) (gj : List (List Int)) : List (Nat × T) := [(1, .d (eSl 1 false F2_ b_)), (9, .own (.opq (Vs (YH YO eB ee)))), (10, .d (I io)), (11, .own (eOs 1 false F2_ gj)), (13, .d (eSl 1 false (eI .i64) ce)), (27, .d (eSl 1 false F2_ a_)), (28, .d (I ((a_.length : Nat) : Int))), (29, .d (I dz)), (33, .d (eSl 1 false F2_ b_)), (34, .d (I ((b_.length : Nat) : Int))), (35, .d (I eb))]
abbrev XV (a_ : List (List Int)) (b_ : List (List Int)) (dz : Int) (ce : List Int) (az : List ((List UInt8) × Bool)) (ay : Int) (ff : List (List Int)) (eb : Int) : List (Nat × T) := [(1, .d (eSl 1 false F2_ b_)), (9, .own (.opq (Vs (YH YO eB az)))), (10, .d (I ay)), (11, .own (eOs 1 false F2_ ff)), (13, .d (eSl 1 false (eI .i64) ce)), (27, .d (eSl 1 false F2_ a_)), (28, .d (I ((a_.length : Nat) : Int))), (29, .d (I dz)), (33, .d (eSl 1 false F2_ b_)), (34, .d (I ((b_.length : Nat) : Int))), (35, .d (I eb))]
abbrev XW (a_ : List (List Int)) (b_ : List (List Int)) (cx : List ((List UInt8) × Bool)) (n_ : Int) (ak : List (List Int)) (dz : Int) : List (Nat × T) := [(1, .d (eSl 1 false F2_ b_)), (9, .own (.opq (Vs (YH YO eB cx)))), (10, .d (I n_)), (11, .own (eOs 1 false F2_ ak)), (27, .d (eSl 1 false F2_ a_)), (28, .d (I ((a_.length : Nat) : Int))), (29, .d (I dz))]
theorem UX (hC : zJ Try.prog ctr) (h0f : ctr.Has qS) (h02 : ctr.Has zF) (h0H : ctr.Has Yd) (h04 : ctr.Has wx) : ut.Ok Try.prog := by
 refine zX ?_
 rintro ⟨a_, b_, inputs⟩ r0 aa
 try unfold wH at aa
 refine yO false [(6, none), (7, none)] wC 75 Try.func11 fun E hE => ?_
 obtain ⟨r_, h0, aa⟩ := zg aa
 let Z0 : List HO := [Hg (ZT h0f), Hm (shM F6_ F6_ ([a_, b_])), Hs (ZU h0f (x := (inputs, [a_, b_])) h0 (loC (eI .i64) inputs <| loC (eSl 1 true F6_) [a_, b_] <| loN))]
 rcases zD aa with ⟨c0, aa⟩ | ⟨c0, aa⟩
 ·obtain rfl := z8 aa
  exact yEx X0 hC hE (Z0 ++ [Hq c0, Hm (shM F2_ F2_ [])]) (.tup [eSl 1 true F0_ [], I r_]) (show LeV (.tup [eSl 1 true F0_ [], I r_]) (.tup [eSl 1 true F0_ ([] : List (List Int)), I r_]) from inferInstance)
 ·refine yJ ((z9t Try.prog 26).or X0) hC wC [1,1,1,1,1] [] [11] (fun z : List (List Int) => vD z = some r0) (fun z => XZ z) [(0, .d (eSl 1 false F2_ a_)), (1, .d (eSl 1 false F2_ b_)), (9, .own (.opq (Vs (YH YO eB ([] : List ((List UInt8) × Bool)))))), (10, .d (I 0)), (11, .own (eOs 1 true F2_ []))] (Z0 ++ [Hq c0, Hh (.cut 3)]) ?_ fun J1 a7 => ?_
  ·rintro out aa
   unfold vD at aa
   obtain ⟨ah, h1, aa⟩ := zg aa
   obtain rfl := z8 aa
   exact yE X0 hC hE [Hg (ZT h04), Hm (shM F2_ F2_ out), Hs (ZU h04 (x := out) h1 (loC F6_ out <| loN)), Hm (shM F2_ F2_ out)]
  ·obtain ⟨t2, ht2, aa⟩ := zg aa
   refine yLx X0 hC wC [1,1,1,1,1,2,1,0] [J1] (fun s => vB a_ b_ s.1 s.2.1 s.2.2.1 s.2.2.2) (fun x => XW a_ b_ x.1 x.2.1 x.2.2.1 x.2.2.2) (([] : List ((List UInt8) × Bool)), 0, ([] : List (List Int)), 0) ht2 [(1, .d (eSl 1 false F2_ b_)), (9, .own (.opq (Vs (YH YO eB ([] : List ((List UInt8) × Bool)))))), (10, .d (I 0)), (11, .own (eOs 1 true F2_ [])), (27, .d (eSl 1 false F2_ a_)), (28, .d (I ((a_.length : Nat) : Int))), (29, .d (I 0))] inferInstance [Ha (lnM F2_ a_)] ?_
   rintro ⟨cx, n_, ak, dz⟩ m2 bi ae hl1 J2 bc
   try unfold vB at ae
   rcases zD ae with ⟨c1, ae⟩ | ⟨c1, ae⟩
   ·refine yJ X0 hC wC [1,1,1,1,1,2,1,0,0,1,1] [J1, J2] [1,9,10,11,27,28,29] (fun z : (List ((List UInt8) × Bool)) × Int × List (List Int) => vC dz z.1 z.2.1 z.2.2 = some bi) (fun z => XY a_ b_ dz z.1 z.2.1 z.2.2) [(1, .d (eSl 1 false F2_ b_)), (9, .own (.opq (Vs (YH YO eB cx)))), (10, .d (I n_)), (11, .own (eOs 1 false F2_ ak)), (27, .d (eSl 1 false F2_ a_)), (28, .d (I ((a_.length : Nat) : Int))), (29, .d (I dz))] [Hq c1, Hh (.cut 0)] ?_ fun J3 dm => ?_
    ·rintro ⟨d9, bn, ap⟩ ae
     unfold vC at ae
     obtain rfl := z8 ae
     exact yB X0 hC bc (d9, bn, ap, w64 (dz + 1)) hl1 []
    ·obtain ⟨ce, h2, ae⟩ := zg ae
     obtain ⟨t4, ht4, ae⟩ := zg ae
     refine yL X0 hC wC [1,1,1,1,1,2,1,0,0,1,1,2,0,1,1,0] [J1, J2, J3] (fun s => wv b_ ce s.1 s.2.1 s.2.2.1 s.2.2.2) (fun x => XV a_ b_ dz ce x.1 x.2.1 x.2.2.1 x.2.2.2) (cx, n_, ak,0) ht4  [Hi F2_ h2, Ha (lnM F2_ b_)] ?_
     rintro ⟨az, ay, ff, eb⟩ m4 fh ai hl2 J4 bu
     try unfold wv at ai
     rcases zD ai with ⟨c2, ai⟩ | ⟨c2, ai⟩
     ·obtain ⟨bz, h3, ai⟩ := zg ai
      obtain ⟨aq, h4, ai⟩ := zg ai
      obtain ⟨g0, ai⟩ := gdE ai
      let Z1 : List HO := [Hq c2, Hi F2_ h3, Hc h02 (x := ce) h4 (loC F2_ ce <| loN), Hn (apM (eI .i64) g0), Hl (aM (eI .i64) aq bz), Ha (lnM (eI .i64) (aq ++ bz))]
      rcases zD ai with ⟨c3, ai⟩ | ⟨c3, ai⟩
      ·obtain rfl := z8 ai
       obtain rfl := hl2
       obtain rfl := z8 ae
       obtain rfl := hl1
       obtain rfl := z8 aa
       exact yEx ((xAp zp 42).or X0) hC hE (Z1 ++ [Hq c3, Hm (shM F2_ F2_ [])]) (.tup [eSl 1 true F0_ [], I 3]) (show LeV (.tup [eSl 1 true F0_ [], I 3]) (.tup [eSl 1 true F0_ ([] : List (List Int)), I 3]) from inferInstance)
      ·refine yJ ((xAp zp 42).or X0) hC wC [1,1,1,1,1,2,1,0,0,1,1,2,0,1,1,0,0,1,1,0,0,1,1,1] [J1, J2, J3, J4] [1,9,10,11,13,27,28,29,33,34,35] (fun z : (List ((List UInt8) × Bool)) × Int × List (List Int) => ww eb z.1 z.2.1 z.2.2 = some fh) (fun z => XX a_ b_ dz ce eb z.1 z.2.1 z.2.2) [(1, .d (eSl 1 false F2_ b_)), (9, .own (.opq (Vs (YH YO eB az)))), (10, .d (I ay)), (11, .own (eOs 1 false F2_ ff)), (13, .d (eSl 1 false (eI .i64) ce)), (16, .d (eSl 1 false (eI .i64) (aq ++ bz))), (27, .d (eSl 1 false F2_ a_)), (28, .d (I ((a_.length : Nat) : Int))), (29, .d (I dz)), (33, .d (eSl 1 false F2_ b_)), (34, .d (I ((b_.length : Nat) : Int))), (35, .d (I eb))] (Z1 ++ [Hq c3, Hh (.cut 0)]) ?_ fun J5 ep => ?_
       ·rintro ⟨ee, io, gj⟩ ai
        unfold ww at ai
        let Z2 : List HO := [Ha (lnM F2_ gj)]
        rcases zD ai with ⟨c4, ai⟩ | ⟨c4, ai⟩
        ·obtain rfl := z8 ai
         obtain rfl := hl2
         obtain rfl := z8 ae
         obtain rfl := hl1
         obtain rfl := z8 aa
         exact yEx X0 hC hE (Z2 ++ [Hq c4, Hq c4, Hq c4, qT, Hm (shM F2_ F2_ [])]) (.tup [eSl 1 true F0_ [], I 3]) (show LeV (.tup [eSl 1 true F0_ [], I 3]) (.tup [eSl 1 true F0_ ([] : List (List Int)), I 3]) from inferInstance)
        ·rcases zD ai with ⟨c5, ai⟩ | ⟨c5, ai⟩
         ·obtain rfl := z8 ai
          obtain rfl := hl2
          obtain rfl := z8 ae
          obtain rfl := hl1
          obtain rfl := z8 aa
          exact yEx X0 hC hE (Z2 ++ [Hq c4, Hq c4, Hq c4, Hq c5, Hm (shM F2_ F2_ [])]) (.tup [eSl 1 true F0_ [], I 3]) (show LeV (.tup [eSl 1 true F0_ [], I 3]) (.tup [eSl 1 true F0_ ([] : List (List Int)), I 3]) from inferInstance)
         ·obtain rfl := z8 ai
          exact yB X0 hC bu (ee, io, gj, w64 (eb + 1)) hl2 (Z2 ++ [Hq c4, Hq c4, Hq c4, Hq c5])
       ·obtain ⟨ar, h5, ai⟩ := zg ai
        obtain ⟨val, h6, ai⟩ := zg ai
        replace h6 := z8 h6
        let Z3 : List HO := [Hc h0H (x := (aq ++ bz)) h5 (loC F2_ (aq ++ bz) <| loN), Hn (⟨rfl, rfl, z6l (fun _ => rfl) az⟩ : A.opq (Vs (YH YO eB az)) = A.opq (Vs (YH YO eB az)) ∧ Jn (YO ar) = true ∧ ∀ p ∈ YH YO eB az, Jn p.1 = true), Hx (.a (eB val)) ((zba (f := YO) (g := eB) (z0 := false) (z := .atom (.bool false)) rfl ar az).trans (congrArg eB h6))]
        rcases zD ai with ⟨c6, ai⟩ | ⟨c6, ai⟩
        ·obtain ⟨g1, ai⟩ := gdE ai
         exact yB ((zaQ z7p 52 (YH YO eB az) (YH YO eB (z1o az ar true))).or ((z8e z7p 50 (YH YO eB az)).or X0)) hC ep ((z1o az ar true), w64 (ay + (((aq ++ bz).length : Nat) : Int)), (ff ++ [(aq ++ bz)])) ai (Z3 ++ [Hq c6, Hn (⟨rfl, rfl, rfl, rfl, z6l (fun _ => rfl) az⟩ : T.own (.opq (Vs (YH YO eB az))) = T.own (.opq (Vs (YH YO eB az))) ∧ 0 = 0 ∧ Jn (YO ar) = true ∧ (eB true).isD = true ∧ ∀ p ∈ YH YO eB az, Jn p.1 = true), Hn (z7h (f := YO) (g := eB) ar true az), Hq (dM F2_ [(aq ++ bz)]), Hn (dM F2_ [(aq ++ bz)]), Hn (aL F2_ F2_ g1), Hl (aM F2_ ff [(aq ++ bz)]), Ha (lnM (eI .i64) (aq ++ bz))])
        ·exact yB ((z8e z7p 50 (YH YO eB az)).or X0) hC ep (az, ay, ff) ai (Z3 ++ [Hq c6])
     ·obtain rfl := z8 ai
      obtain rfl := hl2
      exact yB X0 hC dm (az, ay, ff) ae [Hq c2]
   ·obtain rfl := z8 ae
    obtain rfl := hl1
    exact yB X0 hC a7 ak aa [Hq c1]
def Xb : Code := (Try.f36.body).getD .skip
def wO : wD := spF (α := z6) (ρ := Bool) 36 (fun x => [xD x]) (fun r => eB r) (fun x => u7 x) [] (UP)
theorem Xm (hC : zJ Try.prog ctr) : wO.Ok Try.prog := by
 refine zX ?_
 rintro x0 r0 aa
 try unfold u7 at aa
 refine yO true [(2, none)] Xb 3 Try.func36 fun E hE => ?_
 obtain rfl := z8 aa
 exact yE X0 hC hE []
def x5 : Code := (Try.f35.body).getD .skip
def ue : wD := spF (α := List z6 × Unit) (ρ := List (List Int)) 35 (fun x => [z1O x.1, (JU 36) x.2]) (fun r => F4_ r) (fun x => wV x.1 x.2) [] (by
 rintro ⟨a0, a1⟩ ⟨b0, b1⟩ h
 have e0 := kP.inj (f := z1O) _ _ (List.cons.inj h).1
 replace h := (List.cons.inj h).2
 have e1 := kP.inj (f := (JU 36)) _ _ (List.cons.inj h).1
 subst e0 e1
 rfl)
abbrev Y1 (out : List (List Int)) : List (Nat × T) := [(4, .own (.box (eOs 1 false F0_ out)))]
abbrev vn (a8 : List z6) (ah : List z6) (ak : List (List Int)) : List (Nat × T) := [(2, .own (.box (eSl 2 false xD a8))), (3, .own (.box (.fn 36 []))), (4, .own (.box (eOs 1 false F0_ ak))), (7, .d (.fn 93 [.sptr (eSl 2 false xD ah)]))]
theorem Xl (hC : zJ Try.prog ctr) (h05 : ctr.Has wN) (h02 : ctr.Has zF) (h0l : ctr.Has wO) (h06 : ctr.Has y9) : ue.Ok Try.prog := by
 refine zX ?_
 rintro ⟨a8, is⟩ r0 aa
 try unfold wV at aa
 refine yO false [(4, some 22)] x5 25 Try.func35 fun E hE => ?_
 refine yJ X0 hC x5 [1] [] [4] (fun z : List (List Int) => wM z = some r0) (fun z => Y1 z) [(2, .own (.box (eSl 2 false xD a8))), (3, .own (.box (.fn 36 []))), (4, .own (.box (eOs 1 true F2_ [])))] [Hh (.cut 1)] ?_ fun J1 a7 => ?_
 ·rintro out aa
  unfold wM at aa
  obtain ⟨r_, h0, aa⟩ := zg aa
  obtain rfl := z8 aa
  exact yE ((QH zp (wf hC) 24).or X0) hC hE [Hh (.g []), Hn xV, Hm (shM F0_ F0_ out), Hx (.a (F4_ r_)) (xU out _ h0), Hm (shM F0_ F0_ out)]
 ·obtain ⟨ah, h1, aa⟩ := zg aa
  obtain ⟨t2, ht2, aa⟩ := zg aa
  refine yAt X0 hC (sub [1,2,1,0] x5) (frs [1,2,1,0] [J1] x5 []) [(2, .own (.box (eSl 2 false xD a8))), (3, .own (.box (.fn 36 []))), (4, .own (.box (eOs 1 true F0_ []))), (7, .d (.fn 93 [.sptr (eSl 2 false xD ah)]))] [Hc h05 (x := a8) h1 (loC z1O a8 <| loN)] fun st0 h0 => ?_
  refine JM (g := .tmp 7) (ps := [8]) (assign := (sub [1,2,1,0,0] x5)) (body := (sub [1,2,1,0,1] x5)) (K := 93) (caps := [.sptr (eSl 2 false xD ah)]) (by kernel_rfl) [2,3,4,7] (fun s => vn a8 ah s) (fun z => nomatch z) (fun z => nomatch z) ((fun (x : z7) (_ : Bool) (_ : Value) => [jZ x])) (F := @yT ah) (fun s x => xO a8 s x) ([] : List (List Int)) t2 _ h0 inferInstance (by kernel_rfl) (by decide) (fun _ => rfl) (by rintro ⟨⟩) (by kernel_rfl) (fun _ _ _ => rfl) (qa hC h02 ah) ht2 ?_ ?_
  ·rintro jy ak x8 vr bi ae
   replace ae : xO a8 ak x8 = some bi := ae
   unfold xO at ae
   refine yF X0 hC .normal [(2, .own (.box (eSl 2 false xD a8))), (3, .own (.box (.fn 36 []))), (4, .own (.box (eOs 1 false F0_ ak))), (5, .own (.box (jZ x8))), (7, .d (.fn 93 [.sptr (eSl 2 false xD ah)]))] [] fun st0 h0 => ⟨rfl, z0T h0 ?_⟩
   obtain ⟨d8, h2, ae⟩ := zg ae
   obtain ⟨aq, h3, ae⟩ := zg ae
   let Z0 : List HO := [Hi xD h2, Hc h0l (x := d8) h3 (loC xD d8 <| loN)]
   rcases zD ae with ⟨c0, ae⟩ | ⟨c0, ae⟩
   ·obtain ⟨ar, h4, ae⟩ := zg ae
    obtain ⟨br, h5, ae⟩ := zg ae
    obtain ⟨g0, ae⟩ := gdE ae
    obtain rfl := z8 ae
    exact yF X0 hC .normal (vn a8 ah (ak ++ [br])) (Z0 ++ [Hq c0, Hc h06 (x := x8.w_) h4 (loC F2_ x8.w_ <| loN), Hg (ZT h02), Hm (shM (eI .i64) (eI .i64) ar), Hs (ZU h02 (x := ar) h5 (loC F2_ ar <| loN)), Hm (shM (eI .i64) (eI .i64) ar), Hq (dM F0_ [br]), Hn (dM F0_ [br]), Hn (aL F0_ F0_ g0), Hl (aM F0_ ak [br])]) fun st0 h0 => ⟨rfl, _, h0, LeL.refl _⟩
   ·obtain rfl := z8 ae
    exact yF X0 hC .normal (vn a8 ah ak) (Z0 ++ [Hq c0]) fun st0 h0 => ⟨rfl, _, h0, LeL.refl _⟩
  ·rcases t2 with ak | z
   ·dsimp only at aa
    exact XJ (by kernel_rfl) (a7 _ [(4, .own (.box (eOs 1 false F0_ ak)))] ak aa (show Own.canon [4] _ = ofL _ by kernel_rfl) inferInstance)
   ·cases z
def Q1 : Code := (Try.f34.body).getD .skip
def kx : wD := spF (α := List (List Int)) (ρ := List (List Int) × Int) 34 (fun x => [F4_ x]) (fun r => .tup [F4_ r.1, (eI .i64) r.2]) (fun x => Zi x) [] (UP)
theorem QK (hC : zJ Try.prog ctr) (h07 : ctr.Has vg) : kx.Ok Try.prog := by
 refine zX ?_
 rintro l_ r0 aa
 try unfold Zi at aa
 refine yO false [(2, none), (3, none)] Q1 13 Try.func34 fun E hE => ?_
 let Z0 : List HO := [Ha (lnM F0_ l_)]
 rcases zD aa with ⟨c0, aa⟩ | ⟨c0, aa⟩
 ·obtain rfl := z8 aa
  exact yEx X0 hC hE (Z0 ++ (rpN 4 (Hq c0) [qT, Hm (shM F2_ F2_ [])])) (.tup [eSl 1 true F0_ [], I 3]) (show LeV (.tup [eSl 1 true F0_ [], I 3]) (.tup [eSl 1 true F0_ ([] : List (List Int)), I 3]) from inferInstance)
 ·obtain ⟨r_, h0, aa⟩ := zg aa
  let Z1 : List HO := (Z0 ++ [Hq c0, Hq c0, Hc h07 (x := l_) h0 (loC F4_ l_ <| loN), Hq c0, Hq c0])
  rcases zD aa with ⟨c1, aa⟩ | ⟨c1, aa⟩
  ·obtain rfl := z8 aa
   exact yEx X0 hC hE (Z1 ++ [Hq c1, Hm (shM F2_ F2_ [])]) (.tup [eSl 1 true F0_ [], I 3]) (show LeV (.tup [eSl 1 true F0_ [], I 3]) (.tup [eSl 1 true F0_ ([] : List (List Int)), I 3]) from inferInstance)
  ·obtain rfl := z8 aa
   exact yE X0 hC hE (Z1 ++ [Hq c1])
def Wk : Code := (Try.f12.body).getD .skip
def vN : wD := spF (α := List (List Int) × Int) (ρ := List (List Int) × Int) 12 (fun x => [F6_ x.1, (eI .i64) x.2]) (fun r => .tup [F4_ r.1, (eI .i64) r.2]) (fun x => ym x.1 x.2) [] (Vt)
theorem V1 (hC : zJ Try.prog ctr) (h03 : ctr.Has yI) (h0e : ctr.Has jH) (h05 : ctr.Has wN) (h02 : ctr.Has zF) (h0l : ctr.Has wO) (h06 : ctr.Has y9) (h0I : ctr.Has kx) : vN.Ok Try.prog := by
 refine zX ?_
 rintro ⟨l_, inputs⟩ r0 aa
 try unfold ym at aa
 refine yO false [(4, none), (5, none)] Wk 31 Try.func12 fun E hE => ?_
 obtain ⟨r_, h0, aa⟩ := zg aa
 let Z0 : List HO := [Hc h03 (x := (l_, inputs)) h0 (loC F6_ l_ <| loC (eI .i64) inputs <| loN)]
 rcases zD aa with ⟨c0, aa⟩ | ⟨c0, aa⟩
 ·obtain rfl := z8 aa
  exact yEx X0 hC hE (Z0 ++ [Hq c0, Hm (shM F2_ F2_ [])]) (.tup [eSl 1 true F0_ [], I r_]) (show LeV (.tup [eSl 1 true F0_ [], I r_]) (.tup [eSl 1 true F0_ ([] : List (List Int)), I r_]) from inferInstance)
 ·obtain ⟨ah, h1, aa⟩ := zg aa
  let Z1 : List HO := (Z0 ++ [Hq c0, Hc h0e (x := (l_, inputs)) h1 (loC F6_ l_ <| loC (eI .i64) inputs <| loN), Ha (lnM F8_ ah.nodes_)])
  rcases zD aa with ⟨c1, aa⟩ | ⟨c1, aa⟩
  ·obtain rfl := z8 aa
   exact yEx X0 hC hE (Z1 ++ [Hq c1, Hm (shM F2_ F2_ [])]) (.tup [eSl 1 true F0_ [], I 3]) (show LeV (.tup [eSl 1 true F0_ [], I 3]) (.tup [eSl 1 true F0_ ([] : List (List Int)), I 3]) from inferInstance)
  ·obtain ⟨aq, h2, aa⟩ := zg aa
   obtain ⟨ar, h3, aa⟩ := zg aa
   obtain rfl := z8 aa
   exact yE ((zW (P := Try.prog) xp [] (lentCall (zt hC h0I (x := aq) h3)) 28).or ((QH zp (Xl hC h05 h02 h0l h06) 27).or X0)) hC hE (Z1 ++ [Hq c1, Hg (ZT (Ctr.add_has UQ ue)), Hm (shM F8_ F9_ ah.nodes_), Hs (ZU (Ctr.add_has UQ ue) (x := (ah.nodes_, ())) h2 (loC (eSl 2 false F9_) ah.nodes_ <| loC (JU 36) () <| loN)), Hm (shM F8_ F9_ ah.nodes_), Hn (uV (f := .fn 34 []) (xs := [F4_ aq]) (ls := []) (r := .tup [eSl 1 true F0_ ar.1, I ar.2]) (ys := []) [F4_ aq] (show US [F4_ aq] [F4_ aq] from inferInstance))])
def u3 : Code := (Try.f71.body).getD .skip
def yn : wD := spF (α := List z6) (ρ := List z6) 71 (fun x => [z1O x]) (fun r => za8 r) (fun x => zS x) [] (UP)
theorem ud (hC : zJ Try.prog ctr) : yn.Ok Try.prog := by
 refine zX ?_
 rintro s_ r0 aa
 try unfold zS at aa
 refine yO true [(2, none)] u3 9 Try.func71 fun E hE => ?_
 obtain ⟨g0, aa⟩ := gdE aa
 obtain rfl := z8 aa
 exact yE X0 hC hE [Ha (lnM xD s_), Ha (lnM xD s_), Hn (slB g0), Hn (slC g0), Hn (z6V xD g0), Ha (z9D 2 xD s_ 0 ((s_.length : Nat) : Int).toNat)]
def zu : Code := (Try.f37.body).getD .skip
def wy : wD := spF (α := ze) (ρ := List z6) 37 (fun x => [(eBx z8a) x]) (fun r => za8 r) (fun x => xh x) [true] (UP)
abbrev vH (b_ : ze) (r_ : List z6) (number : List Int) (order : List Int) : List (Nat × T) := [(0, .d (.sptr (z89 b_))), (3, .own (.box (eOs 1 true (eI .i64) number))), (4, .own (.box (eOs 1 false (eI .i64) order))), (22, .d (.fn 93 [.sptr (eSl 2 false xD r_)]))]
abbrev jY (out : List z6) : List (Nat × T) := [(6, .own (eOs 2 false Yu out))]
abbrev jX (b_ : ze) (bo : List Int × List Int) (dc : Int) (bf : List (Option z6)) (ap : List z6) : List (Nat × T) := [(0, .own (.box (.agg [I b_.inputs_, eOs 2 false (eOp 2 Yu) bf]))), (3, .own (.box (eOs 1 true (eI .i64) bo.1))), (6, .own (eOs 2 false Yu ap)), (35, .d (eSl 1 false (eI .i64) bo.2)), (36, .d (I ((bo.2.length : Nat) : Int))), (37, .d (I dc))]
abbrev jW (b_ : ze) (bo : List Int × List Int) (av : List (Option z6)) (ak : List z6) (dc : Int) (u_ : Int) (am : z6) (bp : List Int) : List (Nat × T) := [(0, .own (.box (.agg [I b_.inputs_, eOs 2 false (eOp 2 Yu) (av.set u_.toNat none)]))), (3, .own (.box (eOs 1 true (eI .i64) bo.1))), (6, .own (eOs 2 false Yu ak)), (9, .own (.box (.agg [eOs 1 false (eI .i64) bp, B am.End]))), (35, .d (eSl 1 false (eI .i64) bo.2)), (36, .d (I ((bo.2.length : Nat) : Int))), (37, .d (I dc))]
abbrev jV (b_ : ze) (bo : List Int × List Int) (av : List (Option z6)) (ak : List z6) (dc : Int) (u_ : Int) (am : z6) (eg : Int) (fx : List Int) : List (Nat × T) := [(0, .own (.box (.agg [I b_.inputs_, eOs 2 false (eOp 2 Yu) (av.set u_.toNat none)]))), (3, .own (.box (eOs 1 true (eI .i64) bo.1))), (6, .own (eOs 2 false Yu ak)), (9, .own (.box (.agg [eOs 1 false (eI .i64) fx, B am.End]))), (35, .d (eSl 1 false (eI .i64) bo.2)), (36, .d (I ((bo.2.length : Nat) : Int))), (37, .d (I dc)), (49, .als 9 [.deref, .fld 0] 0 0), (50, .d (I ((am.Next.length : Nat) : Int))), (51, .d (I eg))]
abbrev jT (b_ : ze) (bo : List Int × List Int) (av : List (Option z6)) (ak : List z6) (dc : Int) (u_ : Int) (am : z6) (bg : List Int) (eg : Int) : List (Nat × T) := [(0, .own (.box (.agg [I b_.inputs_, eOs 2 false (eOp 2 Yu) (av.set u_.toNat none)]))), (3, .own (.box (eOs 1 true (eI .i64) bo.1))), (6, .own (eOs 2 false Yu ak)), (9, .own (.box (.agg [eOs 1 false (eI .i64) bg, B am.End]))), (35, .d (eSl 1 false (eI .i64) bo.2)), (36, .d (I ((bo.2.length : Nat) : Int))), (37, .d (I dc)), (49, .als 9 [.deref, .fld 0] 0 0), (50, .d (I ((am.Next.length : Nat) : Int))), (51, .d (I eg))]
abbrev jU (b_ : ze) (bo : List Int × List Int) (av : List (Option z6)) (ak : List z6) (dc : Int) : List (Nat × T) := [(0, .own (.box (.agg [I b_.inputs_, eOs 2 false (eOp 2 Yu) av]))), (3, .own (.box (eOs 1 true (eI .i64) bo.1))), (6, .own (eOs 2 false Yu ak)), (35, .d (eSl 1 false (eI .i64) bo.2)), (36, .d (I ((bo.2.length : Nat) : Int))), (37, .d (I dc))]
theorem Zf (hC : zJ Try.prog ctr) (h05 : ctr.Has wN) (h02 : ctr.Has zF) (h0x : ctr.Has yn) : wy.Ok Try.prog := by
 refine zX ?_
 rintro b_ r0 aa
 try unfold xh at aa
 refine yO true [(2, none)] zu 74 Try.func37 fun E hE => ?_
 refine z0R (y := .box (.agg [I b_.inputs_, eOs 2 false Yu b_.nodes_])) rfl 0 (by kernel_rfl) (by kernel_rfl) fun ax hv0 => ?_
 obtain ⟨g0, aa⟩ := gdE aa
 refine yA X0 hC zu [1,1,1] [] [(0, .own (.box (z8a b_))), (3, .own (.box (eOs 1 true (eI .i64) (List.replicate ((b_.nodes_.length : Nat) : Int).toNat (0 : Int))))), (4, .own (.box (eOs 1 true (eI .i64) [])))] [Ha (lnM Yu b_.nodes_), Hn (rL g0), Ha (rM 1 (eI .i64) ((b_.nodes_.length : Nat) : Int) (0 : Int)), Hh (.cut 1)] ?_
 obtain ⟨bo, hq, aa⟩ := zg aa
 refine z3Z (a := (sub [1,1,1,0,0] zu)) (b := (sub [1,1,1,0,1] zu)) (y := (sub [1,1,1,1] zu)) (by kernel_rfl) 0 (v := ax) (x := .box (.agg [I b_.inputs_, eOs 2 false Yu b_.nodes_])) (x' := .sptr (.agg [I b_.inputs_, eSl 2 false xD b_.nodes_])) [0,3,4] [0,3,4] [(0, .d (.sptr (z89 b_))), (3, .own (.box (eOs 1 true (eI .i64) (List.replicate ((b_.nodes_.length : Nat) : Int).toNat (0 : Int))))), (4, .own (.box (eOs 1 true (eI .i64) [])))] [(0, .d (.sptr (z89 b_))), (3, .own (.box (eOs 1 true (eI .i64) bo.1))), (4, .own (.box (eOs 1 false (eI .i64) bo.2)))] [(0, .own (.box (z8a b_))), (3, .own (.box (eOs 1 true (eI .i64) bo.1))), (4, .own (.box (eOs 1 false (eI .i64) bo.2)))] (by kernel_rfl) ⟨z07.live (f := (eBx z8a)) b_, z07.sh (f := (eBx z8a)) b_⟩ (by kernel_rfl) (by kernel_rfl) (inE (.inl rfl) (inE (.inr (inB _ _ _ _)) (inE (.inr (inB _ _ _ _)) inN))) (by kernel_rfl) (by kernel_rfl) ?_ ?_
 ·unfold xq at hq
  obtain ⟨r_, h0, hq⟩ := zg hq
  refine yF X0 hC .normal [(0, .d (.sptr (z89 b_))), (3, .own (.box (eOs 1 true (eI .i64) (List.replicate ((b_.nodes_.length : Nat) : Int).toNat (0 : Int))))), (4, .own (.box (eOs 1 true (eI .i64) []))), (22, .d (.fn 93 [.sptr (eSl 2 false xD r_)]))] [Hc h05 (x := b_.nodes_) h0 (loC z1O b_.nodes_ <| loN)] fun st0 h0 => ⟨rfl, z0T h0 ?_⟩
  obtain ⟨t1, ht1, hq⟩ := zg hq
  refine yAt X0 hC (sub [1,1,1,0,1,0] zu) [.blk 0] [(0, .d (.sptr (z89 b_))), (3, .own (.box (eOs 1 true (eI .i64) (List.replicate ((b_.nodes_.length : Nat) : Int).toNat (0 : Int))))), (4, .own (.box (eOs 1 true (eI .i64) []))), (22, .d (.fn 93 [.sptr (eSl 2 false xD r_)]))] [] fun st0 h0 => ?_
  refine JM (g := .tmp 22) (ps := [23]) (assign := (sub [1,1,1,0,1,0,0] zu)) (body := (sub [1,1,1,0,1,0,1] zu)) (K := 93) (caps := [.sptr (eSl 2 false xD r_)]) (by kernel_rfl) [0,3,4,22] (fun s => vH b_ r_ s.1 s.2) (fun z => nomatch z) (fun z => nomatch z) ((fun (x : z7) (_ : Bool) (_ : Value) => [jZ x])) (F := @yT r_) (fun s x => y3 s.1 s.2 x) ((List.replicate ((b_.nodes_.length : Nat) : Int).toNat (0 : Int)), ([] : List Int)) t1 _ h0 inferInstance (by kernel_rfl) (by decide) (fun _ => rfl) (by rintro ⟨⟩) (by kernel_rfl) (fun _ _ _ => rfl) (qa hC h02 r_) ht1 ?_ ?_
  ·rintro j4 ⟨number, order⟩ fw vr fh ai
   replace ai : y3 number order fw = some fh := ai
   unfold y3 at ai
   refine yF X0 hC .normal [(0, .d (.sptr (z89 b_))), (3, .own (.box (eOs 1 true (eI .i64) number))), (4, .own (.box (eOs 1 false (eI .i64) order))), (5, .own (.box (jZ fw))), (22, .d (.fn 93 [.sptr (eSl 2 false xD r_)]))] [] fun st0 h0 => ⟨rfl, z0T h0 ?_⟩
   obtain ⟨jd, h1, ai⟩ := zg ai
   obtain ⟨g1, ai⟩ := gdE ai
   obtain rfl := z8 ai
   exact yF X0 hC .normal (vH b_ r_ (number.set fw.at_.toNat ((order.length : Nat) : Int)) (order ++ [fw.at_])) [Ha (lnM (eI .i64) order), Hn (iL (eI .i64) h1), Hs (iM (eI .i64) h1), Hs (iM (eI .i64) h1), Hl (sM (eI .i64) number fw.at_ ((order.length : Nat) : Int)), Hq (dM (eI .i64) [fw.at_]), Hn (dM (eI .i64) [fw.at_]), Hn (aL (eI .i64) (eI .i64) g1), Hl (aM (eI .i64) order [fw.at_])] fun st0 h0 => ⟨rfl, _, h0, LeL.refl _⟩
  ·rcases t1 with ⟨number, order⟩ | z
   ·dsimp only at hq
    obtain rfl := z8 hq
    exact z9M ⟨rfl, by kernel_rfl⟩
   ·cases z
 ·refine yJ X0 hC zu [1,1,1,1,1] [] [6] (fun z : List z6 => xv z = some r0) (fun z => jY z) [(0, .own (.box (z8a b_))), (3, .own (.box (eOs 1 true (eI .i64) bo.1))), (4, .own (.box (eSl 1 false (eI .i64) bo.2))), (6, .own (eOs 2 true xD []))] [Hh (.v 2 [4]), Hm (shM (eI .i64) (eI .i64) bo.2), Hh (.cut 0)] ?_ fun J2 bc => ?_
  ·rintro out aa
   unfold xv at aa
   obtain ⟨ah, h2, aa⟩ := zg aa
   obtain rfl := z8 aa
   exact yE X0 hC hE [Hg (ZT h0x), Hm (shM Yu xD out), Hs (ZU h0x (x := out) h2 (loC z1O out <| loN)), Hm (shM Yu xD out)]
  ·obtain ⟨t3, ht3, aa⟩ := zg aa
   refine yLx X0 hC zu [1,1,1,1,1,2,1,0] [J2] (fun s => yz bo s.1 s.2.1 s.2.2) (fun x => jU b_ bo x.1 x.2.1 x.2.2) ((b_.nodes_.map some), ([] : List z6), 0) ht3 [(0, .own (.box (.agg [I b_.inputs_, eOs 2 false Yu b_.nodes_]))), (3, .own (.box (eOs 1 true (eI .i64) bo.1))), (6, .own (eOs 2 true Yu [])), (35, .d (eSl 1 false (eI .i64) bo.2)), (36, .d (I ((bo.2.length : Nat) : Int))), (37, .d (I 0))] inferInstance [Ha (lnM (eI .i64) bo.2)] ?_
   rintro ⟨av, ak, dc⟩ m3 bi ae hl1 J3 dm
   try unfold yz at ae
   rcases zD ae with ⟨c0, ae⟩ | ⟨c0, ae⟩
   ·refine yJ X0 hC zu [1,1,1,1,1,2,1,0,0,1,1] [J2, J3] [0,3,6,35,36,37] (fun z : List (Option z6) × List z6 => xu dc z.1 z.2 = some bi) (fun z => jX b_ bo dc z.1 z.2) [(0, .own (.box (.agg [I b_.inputs_, eOs 2 false (eOp 2 Yu) av]))), (3, .own (.box (eOs 1 true (eI .i64) bo.1))), (6, .own (eOs 2 false Yu ak)), (35, .d (eSl 1 false (eI .i64) bo.2)), (36, .d (I ((bo.2.length : Nat) : Int))), (37, .d (I dc))] [Hq c0, Hh (.cut 0)] ?_ fun J4 bu => ?_
    ·rintro ⟨bf, ap⟩ ae
     unfold xu at ae
     obtain rfl := z8 ae
     exact yB X0 hC dm (bf, ap, w64 (dc + 1)) hl1 []
    ·obtain ⟨u_, h3, ae⟩ := zg ae
     obtain ⟨there, h4, ae⟩ := zg ae
     obtain ⟨am, h5, ae⟩ := zg ae
     refine yJ X0 hC zu [1,1,1,1,1,2,1,0,0,1,1,2,0,1,1] [J2, J3, J4] [0,3,6,9,35,36,37] (fun z : List Int => xr av ak dc u_ am z = some bi) (fun z => jW b_ bo av ak dc u_ am z) [(0, .own (.box (.agg [I b_.inputs_, eOs 2 false (eOp 2 Yu) (av.set u_.toNat none)]))), (3, .own (.box (eOs 1 true (eI .i64) bo.1))), (6, .own (eOs 2 false Yu ak)), (9, .own (.box (Yu am))), (35, .d (eSl 1 false (eI .i64) bo.2)), (36, .d (I ((bo.2.length : Nat) : Int))), (37, .d (I dc))] [Hi (eI .i64) h3, Hn (iL (eOp 2 Yu) h4), Hs (iMo 2 Yu h4 h5), Hs (iMo 2 Yu h4 h5), Hs (iMo 2 Yu h4 h5), Hl (sMn 2 Yu av u_), Hh (.cut 0)] ?_ fun J5 ep => ?_
     ·rintro bp ae
      unfold xr at ae
      obtain ⟨g2, ae⟩ := gdE ae
      exact yB X0 hC bu ((av.set u_.toNat none), (ak ++ [(z6.mk bp am.End)])) ae [Hq (oC Yu (z6.mk bp am.End) []), Hn (aL Yu Yu g2), Hl (aM Yu ak [(z6.mk bp am.End)])]
     ·obtain ⟨t6, ht6, ae⟩ := zg ae
      refine yL X0 hC zu [1,1,1,1,1,2,1,0,0,1,1,2,0,1,1,2,1,0] [J2, J3, J4, J5] (fun s => zK bo am s.1 s.2) (fun x => jT b_ bo av ak dc u_ am x.1 x.2) (am.Next, 0) ht6  [Ha (lnM (eI .i64) am.Next)] ?_
      rintro ⟨bg, eg⟩ m6 fh ai hl2 J6 fz
      try unfold zK at ai
      rcases zD ai with ⟨c1, ai⟩ | ⟨c1, ai⟩
      ·refine yJ X0 hC zu [1,1,1,1,1,2,1,0,0,1,1,2,0,1,1,2,1,0,0,1,1] [J2, J3, J4, J5, J6] [0,3,6,9,35,36,37,49,50,51] (fun z : List Int => yC eg z = some fh) (fun z => jV b_ bo av ak dc u_ am eg z) [(0, .own (.box (.agg [I b_.inputs_, eOs 2 false (eOp 2 Yu) (av.set u_.toNat none)]))), (3, .own (.box (eOs 1 true (eI .i64) bo.1))), (6, .own (eOs 2 false Yu ak)), (9, .own (.box (.agg [eOs 1 false (eI .i64) bg, B am.End]))), (35, .d (eSl 1 false (eI .i64) bo.2)), (36, .d (I ((bo.2.length : Nat) : Int))), (37, .d (I dc)), (49, .als 9 [.deref, .fld 0] 0 0), (50, .d (I ((am.Next.length : Nat) : Int))), (51, .d (I eg))] [Hq c1, Hh (.cut 0)] ?_ fun J7 gt => ?_
       ·rintro fx ai
        unfold yC at ai
        obtain rfl := z8 ai
        exact yB X0 hC fz (fx, w64 (eg + 1)) hl2 []
       ·obtain ⟨fj, h6, ai⟩ := zg ai
        let Z0 : List HO := [Hn (iL (eI .i64) h6), Hs (iM (eI .i64) h6)]
        rcases zD ai with ⟨c2, ai⟩ | ⟨c2, ai⟩
        ·obtain ⟨jh, h7, ai⟩ := zg ai
         obtain ⟨i8, h8, ai⟩ := zg ai
         exact yB ((xRf zp 65 9 0 49).or X0) hC gt (bg.set eg.toNat jh) ai (Z0 ++ [Hq c2, Hn (iL (eI .i64) h7), Hs (iM (eI .i64) h7), Hn (iL (eI .i64) h8), Hs (iM (eI .i64) h8), Hl (sM (eI .i64) bg eg jh)])
        ·exact yB X0 hC gt bg ai (Z0 ++ [Hq c2])
      ·obtain rfl := z8 ai
       obtain rfl := hl2
       exact yB X0 hC ep bg ae [Hq c1]
   ·obtain rfl := z8 ae
    obtain rfl := hl1
    exact yB X0 hC bc ak aa [Hq c0]
def z0Q : Code := (Try.f13.body).getD .skip
def Zo : wD := spF (α := List (List Int) × Int) (ρ := zh × Int) 13 (fun x => [F6_ x.1, (eI .i64) x.2]) (fun r => .tup [z9r r.1, (eI .i64) r.2]) (fun x => kl x.1 x.2) [] (Vt)
theorem z1R (hC : zJ Try.prog ctr) (h03 : ctr.Has yI) (h0e : ctr.Has jH) (h0J : ctr.Has wy) : Zo.Ok Try.prog := by
 refine zX ?_
 rintro ⟨l_, inputs⟩ r0 aa
 try unfold kl at aa
 refine yO false [(4, some 35), (5, none)] z0Q 20 Try.func13 fun E hE => ?_
 obtain ⟨r_, h0, aa⟩ := zg aa
 let Z0 : List HO := [Hc h03 (x := (l_, inputs)) h0 (loC F6_ l_ <| loC (eI .i64) inputs <| loN)]
 rcases zD aa with ⟨c0, aa⟩ | ⟨c0, aa⟩
 ·obtain rfl := z8 aa
  exact yE X0 hC hE (Z0 ++ [Hq c0, Hm (shM xD xD [])])
 ·obtain ⟨ah, h1, aa⟩ := zg aa
  obtain ⟨aq, h2, aa⟩ := zg aa
  obtain rfl := z8 aa
  exact yE X0 hC hE (Z0 ++ [Hq c0, Hc h0e (x := (l_, inputs)) h1 (loC F6_ l_ <| loC (eI .i64) inputs <| loN), Hc h0J (x := ah) h2 (loC (eBx z8b) ah <| loN)])
def wU : Code := (Try.f72.body).getD .skip
def Zm : wD := spF (α := zh) (ρ := Bool) 72 (fun x => [Xj x]) (fun r => eB r) (fun x => kS x) [] (UP)
abbrev Vc : List (Nat × T) := []
abbrev Vb (t_ : zh) (bt : Int) (d9 : List Bool) (bw : List Int) (jq : Int) (eb : Bool) : List (Nat × T) := [(1, .own (.box (Xj t_))), (3, .own (eOs 1 true eB d9)), (13, .d (eSl 2 false xD t_.Nodes)), (14, .d (I ((t_.Nodes.length : Nat) : Int))), (15, .d (I bt)), (31, .d (eSl 1 false (eI .i64) bw)), (32, .d (I jq)), (34, .d (I t_.Inputs)), (35, .d (B eb))]
abbrev V9 (t_ : zh) (bt : Int) (aj : z6) (fl : Int) (ee : List Bool) : List (Nat × T) := [(1, .own (.box (Xj t_))), (3, .own (eOs 1 true eB ee)), (4, .d (I bt)), (13, .d (eSl 2 false xD t_.Nodes)), (14, .d (I ((t_.Nodes.length : Nat) : Int))), (15, .d (I bt)), (31, .d (eSl 1 false (eI .i64) aj.Next)), (32, .d (I ((aj.Next.length : Nat) : Int))), (34, .d (I t_.Inputs)), (35, .d (B (((aj.Next.length : Nat) : Int) != t_.Inputs))), (38, .d (eSl 1 false (eI .i64) aj.Next)), (39, .d (I ((aj.Next.length : Nat) : Int))), (40, .d (I fl))]
abbrev V7 (t_ : zh) (bt : Int) (aj : z6) (az : List Bool) (fl : Int) : List (Nat × T) := [(1, .own (.box (Xj t_))), (3, .own (eOs 1 true eB az)), (4, .d (I bt)), (13, .d (eSl 2 false xD t_.Nodes)), (14, .d (I ((t_.Nodes.length : Nat) : Int))), (15, .d (I bt)), (31, .d (eSl 1 false (eI .i64) aj.Next)), (32, .d (I ((aj.Next.length : Nat) : Int))), (34, .d (I t_.Inputs)), (35, .d (B (((aj.Next.length : Nat) : Int) != t_.Inputs))), (38, .d (eSl 1 false (eI .i64) aj.Next)), (39, .d (I ((aj.Next.length : Nat) : Int))), (40, .d (I fl))]
abbrev Va (t_ : zh) (cx : List Bool) (bt : Int) (aj : z6) : List (Nat × T) := [(1, .own (.box (Xj t_))), (3, .own (eOs 1 true eB cx)), (4, .d (I bt)), (5, .own (.box (xD aj))), (13, .d (eSl 2 false xD t_.Nodes)), (14, .d (I ((t_.Nodes.length : Nat) : Int))), (15, .d (I bt)), (31, .d (eSl 1 false (eI .i64) aj.Next)), (32, .d (I ((aj.Next.length : Nat) : Int))), (34, .d (I t_.Inputs)), (35, .d (B (((aj.Next.length : Nat) : Int) != t_.Inputs)))]
abbrev V8 (t_ : zh) (cx : List Bool) (bt : Int) : List (Nat × T) := [(1, .own (.box (Xj t_))), (3, .own (eOs 1 true eB cx)), (13, .d (eSl 2 false xD t_.Nodes)), (14, .d (I ((t_.Nodes.length : Nat) : Int))), (15, .d (I bt))]
theorem JZ (hC : zJ Try.prog ctr) : Zm.Ok Try.prog := by
 refine zX ?_
 rintro t_ r0 aa
 try unfold kS at aa
 refine yO true [(2, none)] wU 67 Try.func72 fun E hE => ?_
 obtain ⟨g0, aa⟩ := gdE aa
 refine yJ X0 hC wU [1,1] [] [] (fun z : Unit => Zj = some r0) (fun z => Vc) [(1, .own (.box (Xj t_))), (3, .own (eOs 1 true eB (List.replicate ((t_.Nodes.length : Nat) : Int).toNat false)))] [Ha (lnM xD t_.Nodes), Hn (rL g0), Ha (rM 1 eB ((t_.Nodes.length : Nat) : Int) false), Hh (.cut 0)] ?_ fun J1 a7 => ?_
 ·rintro ⟨⟩ aa
  unfold Zj at aa
  obtain rfl := z8 aa
  exact yE X0 hC hE []
 ·obtain ⟨t2, ht2, aa⟩ := zg aa
  refine yL X0 hC wU [1,1,2,1,0] [J1] (fun s => un t_ s.1 s.2) (fun x => V8 t_ x.1 x.2) ((List.replicate ((t_.Nodes.length : Nat) : Int).toNat false), 0) ht2  [Ha (lnM xD t_.Nodes)] ?_
  rintro ⟨cx, bt⟩ m2 bi ae hl1 J2 bc
  try unfold un at ae
  rcases zD ae with ⟨c0, ae⟩ | ⟨c0, ae⟩
  ·refine yJ X0 hC wU [1,1,2,1,0,0,1,1] [J1, J2] [1,3,13,14,15,31,32,34,35] (fun z : List Bool × List Int × Int × Bool => uo bt z.1 z.2.1 z.2.2.1 z.2.2.2 = some bi) (fun z => Vb t_ bt z.1 z.2.1 z.2.2.1 z.2.2.2) [(1, .own (.box (Xj t_))), (3, .own (eOs 1 true eB cx)), (13, .d (eSl 2 false xD t_.Nodes)), (14, .d (I ((t_.Nodes.length : Nat) : Int))), (15, .d (I bt))] [Hq c0, Hh (.cut 0)] ?_ fun J3 dm => ?_
   ·rintro ⟨d9, bw, jq, eb⟩ ae
    unfold uo at ae
    obtain rfl := z8 ae
    exact yB X0 hC bc (d9, w64 (bt + 1)) hl1 []
   ·obtain ⟨aj, h0, ae⟩ := zg ae
    refine yJ X0 hC wU [1,1,2,1,0,0,1,1,2,0,1] [J1, J2, J3] [1,3,4,5,13,14,15,31,32,34,35] (fun z : Unit => vL t_ cx bt aj = some bi) (fun z => Va t_ cx bt aj) [(1, .own (.box (Xj t_))), (3, .own (eOs 1 true eB cx)), (4, .d (I bt)), (5, .own (.box (xD aj))), (13, .d (eSl 2 false xD t_.Nodes)), (14, .d (I ((t_.Nodes.length : Nat) : Int))), (15, .d (I bt))] [Hi xD h0, Hh (.cut 0)] ?_ fun J4 bu => ?_
    ·rintro ⟨⟩ ae
     unfold vL at ae
     obtain ⟨t5, ht5, ae⟩ := zg ae
     refine yL X0 hC wU [1,1,2,1,0,0,1,1,2,0,1,1,1,0] [J1, J2, J3] (fun s => vJ t_ bt aj s.1 s.2) (fun x => V7 t_ bt aj x.1 x.2) (cx, 0) ht5  [Ha (lnM (eI .i64) aj.Next)] ?_
     rintro ⟨az, fl⟩ m5 fh ai hl2 J5 ep
     try unfold vJ at ai
     rcases zD ai with ⟨c1, ai⟩ | ⟨c1, ai⟩
     ·refine yJ X0 hC wU [1,1,2,1,0,0,1,1,2,0,1,1,1,0,0,1,1] [J1, J2, J3, J5] [1,3,4,13,14,15,31,32,34,35,38,39,40] (fun z : List Bool => vK fl z = some fh) (fun z => V9 t_ bt aj fl z) [(1, .own (.box (Xj t_))), (3, .own (eOs 1 true eB az)), (4, .d (I bt)), (13, .d (eSl 2 false xD t_.Nodes)), (14, .d (I ((t_.Nodes.length : Nat) : Int))), (15, .d (I bt)), (31, .d (eSl 1 false (eI .i64) aj.Next)), (32, .d (I ((aj.Next.length : Nat) : Int))), (34, .d (I t_.Inputs)), (35, .d (B (((aj.Next.length : Nat) : Int) != t_.Inputs))), (38, .d (eSl 1 false (eI .i64) aj.Next)), (39, .d (I ((aj.Next.length : Nat) : Int))), (40, .d (I fl))] [Hq c1, Hh (.cut 0)] ?_ fun J6 fz => ?_
      ·rintro ee ai
       unfold vK at ai
       obtain rfl := z8 ai
       exact yB X0 hC ep (ee, w64 (fl + 1)) hl2 []
      ·obtain ⟨bl, h1, ai⟩ := zg ai
       rcases zD ai with ⟨c2, ai⟩ | ⟨c2, ai⟩
       ·exact yB X0 hC fz az ai [Hi (eI .i64) h1, Hq c2]
       ·rcases zD ai with ⟨c3, ai⟩ | ⟨c3, ai⟩
        ·obtain rfl := z8 ai
         obtain rfl := hl2
         obtain rfl := z8 ae
         obtain rfl := hl1
         obtain rfl := z8 aa
         exact yE X0 hC hE (Hi (eI .i64) h1 :: Hq c2 :: (rpN 6 (Hq c3) (rpN 6 qT [])))
        ·let Z0 : List HO := (Hi (eI .i64) h1 :: Hq c2 :: (rpN 4 (Hq c3) [Ha (lnM xD t_.Nodes), Hq c3, Hq c3]))
         rcases zD ai with ⟨c4, ai⟩ | ⟨c4, ai⟩
         ·obtain rfl := z8 ai
          obtain rfl := hl2
          obtain rfl := z8 ae
          obtain rfl := hl1
          obtain rfl := z8 aa
          exact yE X0 hC hE (Z0 ++ (rpN 5 (Hq c4) [qT]))
         ·obtain ⟨ja, h2, ai⟩ := zg ai
          let Z1 : List HO := (Z0 ++ [Hq c4, Hq c4, Hq c4, Hn (iL eB h2), Hq c4, Hs (iM eB h2), Hq c4])
          rcases zD ai with ⟨c5, ai⟩ | ⟨c5, ai⟩
          ·obtain rfl := z8 ai
           obtain rfl := hl2
           obtain rfl := z8 ae
           obtain rfl := hl1
           obtain rfl := z8 aa
           exact yE X0 hC hE (Z1 ++ [Hq c5])
          ·obtain ⟨jk, h3, ai⟩ := zg ai
           exact yB X0 hC fz (az.set bl.toNat true) ai (Z1 ++ [Hq c5, Hn (iL eB h3), Hs (iM eB h3), Hs (iM eB h3), Hl (sM eB az bl true)])
     ·obtain rfl := z8 ai
      obtain rfl := hl2
      exact yB X0 hC dm (az, aj.Next, ((aj.Next.length : Nat) : Int), ((aj.Next.length : Nat) : Int) != t_.Inputs) ae [Hq c1]
    ·rcases zD ae with ⟨c6, ae⟩ | ⟨c6, ae⟩
     ·obtain ⟨ip, h4, ae⟩ := zg ae
      let Z2 : List HO := [Hq c6, Hq c6, Hq c6, Hn (iL eB h4), Hq c6, Hs (iM eB h4), Hq c6, Hq c6]
      rcases zD ae with ⟨c7, ae⟩ | ⟨c7, ae⟩
      ·obtain rfl := z8 ae
       obtain rfl := hl1
       obtain rfl := z8 aa
       exact yE X0 hC hE (Z2 ++ (rpN 7 (Hq c7) [qT]))
      ·let Z3 : List HO := (Z2 ++ (Hq c7 :: Hq c7 :: Hq c7 :: Ha (lnM (eI .i64) aj.Next) :: (rpN 4 (Hq c7) [])))
       rcases zD ae with ⟨c8, ae⟩ | ⟨c8, ae⟩
       ·obtain rfl := z8 ae
        obtain rfl := hl1
        obtain rfl := z8 aa
        exact yE X0 hC hE (Z3 ++ [Hq c8])
       ·exact yB X0 hC bu () ae (Z3 ++ [Hq c8])
     ·let Z4 : List HO := (rpN 6 (Hq c6) (qF :: qF :: qF :: Ha (lnM (eI .i64) aj.Next) :: (rpN 4 qF [])))
      rcases zD ae with ⟨c9, ae⟩ | ⟨c9, ae⟩
      ·obtain rfl := z8 ae
       obtain rfl := hl1
       obtain rfl := z8 aa
       exact yE X0 hC hE (Z4 ++ [Hq c9])
      ·exact yB X0 hC bu () ae (Z4 ++ [Hq c9])
  ·obtain rfl := z8 ae
   obtain rfl := hl1
   exact yB X0 hC a7 () aa [Hq c0]
def xL : Code := (Try.f38.body).getD .skip
def kz : wD := spF (α := zh) (ρ := List (List Int) × Int) 38 (fun x => [Xj x]) (fun r => .tup [F4_ r.1, (eI .i64) r.2]) (fun x => jG x) [] (UP)
abbrev Wu (t_ : zh) (x3 : Int) (l_ : List (List Int)) : List (Nat × T) := [(1, .own (.box (Xj t_))), (2, .own (.box (eOs 1 true F2_ []))), (3, .own (.box (I x3))), (4, .own (.box (eOs 1 false F0_ l_)))]
abbrev xN (t_ : zh) (ar : List z6) (bw : Int) (cj : List (List Int)) (at_ : Int) : List (Nat × T) := [(1, .own (.box (Xj t_))), (2, .own (.box (eOs 1 true F2_ []))), (3, .own (.box (I bw))), (4, .own (.box (eOs 1 false F0_ cj))), (5, .own (.box (I at_))), (29, .d (.fn 93 [.sptr (eSl 2 false xD ar)]))]
abbrev Ws (t_ : zh) (ar : List z6) (bw : Int) (at_ : Int) (cw : z7) (aj : z6) (ig : Bool) (ii : Bool) (ij : Bool) (jb : List (List Int)) : List (Nat × T) := [(1, .own (.box (Xj t_))), (2, .own (.box (eOs 1 true F2_ []))), (3, .own (.box (I bw))), (4, .own (.box (eOs 1 false F0_ jb))), (5, .own (.box (I at_))), (29, .d (.fn 93 [.sptr (eSl 2 false xD ar)])), (43, .d (eSl 1 false (eI .i64) cw.w_)), (44, .d (I ((cw.w_.length : Nat) : Int))), (45, .d (B (decide (((cw.w_.length : Nat) : Int) > 256)))), (48, .d (xD aj)), (49, .d (B ig)), (50, .d (B ii)), (54, .d (B ij))]
abbrev Wt (t_ : zh) (ar : List z6) (bw : Int) (cj : List (List Int)) (at_ : Int) (cw : z7) (aj : z6) (ig : Bool) (ii : Bool) (ij : Bool) : List (Nat × T) := [(1, .own (.box (Xj t_))), (2, .own (.box (eOs 1 true F2_ []))), (3, .own (.box (I bw))), (4, .own (.box (eOs 1 false F0_ cj))), (5, .own (.box (I at_))), (6, .own (.box (jZ cw))), (7, .own (.box (xD aj))), (29, .d (.fn 93 [.sptr (eSl 2 false xD ar)])), (43, .d (eSl 1 false (eI .i64) cw.w_)), (44, .d (I ((cw.w_.length : Nat) : Int))), (45, .d (B (decide (((cw.w_.length : Nat) : Int) > 256)))), (48, .d (xD aj)), (49, .d (B ig)), (50, .d (B ii)), (54, .d (B ij))]
theorem QO (hC : zJ Try.prog ctr) (h0K : ctr.Has Zm) (h05 : ctr.Has wN) (h02 : ctr.Has zF) (h0d : ctr.Has uq) (h06 : ctr.Has y9) (h03 : ctr.Has yI) : kz.Ok Try.prog := by
 refine zX ?_
 rintro t_ r0 aa
 try unfold jG at aa
 refine yO false [(2, some 22), (3, some 23)] xL 74 Try.func38 fun E hE => ?_
 rcases zD aa with ⟨c0, aa⟩ | ⟨c0, aa⟩
 ·obtain rfl := z8 aa
  exact yEx X0 hC hE (rpN 4 (Hq c0) (rpN 10 qT [Hm (shM F2_ F2_ [])])) (.tup [eSl 1 true F0_ [], I 4]) (show LeV (.tup [eSl 1 true F0_ [], I 4]) (.tup [eSl 1 true F0_ ([] : List (List Int)), I 4]) from inferInstance)
 ·let Z0 : List HO := (rpN 4 (Hq c0) [])
  rcases zD aa with ⟨c1, aa⟩ | ⟨c1, aa⟩
  ·obtain rfl := z8 aa
   exact yEx X0 hC hE (Z0 ++ (rpN 5 (Hq c1) (rpN 5 qT [Hm (shM F2_ F2_ [])]))) (.tup [eSl 1 true F0_ [], I 4]) (show LeV (.tup [eSl 1 true F0_ [], I 4]) (.tup [eSl 1 true F0_ ([] : List (List Int)), I 4]) from inferInstance)
  ·let Z1 : List HO := (Z0 ++ [Hq c1, Hq c1, Hq c1, Ha (lnM xD t_.Nodes), Hq c1, Hq c1])
   rcases zD aa with ⟨c2, aa⟩ | ⟨c2, aa⟩
   ·obtain rfl := z8 aa
    exact yEx X0 hC hE (Z1 ++ (rpN 4 (Hq c2) [qT, Hm (shM F2_ F2_ [])])) (.tup [eSl 1 true F0_ [], I 4]) (show LeV (.tup [eSl 1 true F0_ [], I 4]) (.tup [eSl 1 true F0_ ([] : List (List Int)), I 4]) from inferInstance)
   ·obtain ⟨r_, h0, aa⟩ := zg aa
    let Z2 : List HO := (Z1 ++ [Hq c2, Hq c2, Hc h0K (x := t_) h0 (loC Xj t_ <| loN), Hq c2, Hq c2])
    rcases zD aa with ⟨c3, aa⟩ | ⟨c3, aa⟩
    ·obtain rfl := z8 aa
     exact yEx X0 hC hE (Z2 ++ [Hq c3, Hm (shM F2_ F2_ [])]) (.tup [eSl 1 true F0_ [], I 4]) (show LeV (.tup [eSl 1 true F0_ [], I 4]) (.tup [eSl 1 true F0_ ([] : List (List Int)), I 4]) from inferInstance)
    ·refine yJ X0 hC xL [1,1,1,1] [] [1,2,3,4] (fun z : Int × List (List Int) => vW t_ z.1 z.2 = some r0) (fun z => Wu t_ z.1 z.2) [(1, .own (.box (Xj t_))), (2, .own (.box (eOs 1 true F2_ []))), (3, .own (.box (I 0))), (4, .own (.box (eOs 1 true F2_ []))), (5, .own (.box (I 0)))] (Z2 ++ [Hq c3, Hh (.cut 2)]) ?_ fun J1 a7 => ?_
     ·rintro ⟨x3, l_⟩ aa
      unfold vW at aa
      obtain ⟨ah, h1, aa⟩ := zg aa
      let Z3 : List HO := [Hg (ZT h03), Hm (shM F0_ F0_ l_), Hs (ZU h03 (x := (l_, t_.Inputs)) h1 (loC F5_ l_ <| loC (eI .i64) t_.Inputs <| loN))]
      rcases zD aa with ⟨c4, aa⟩ | ⟨c4, aa⟩
      ·obtain rfl := z8 aa
       exact yEx X0 hC hE (Z3 ++ [Hq c4, Hm (shM F2_ F2_ [])]) (.tup [eSl 1 true F0_ [], I 4]) (show LeV (.tup [eSl 1 true F0_ [], I 4]) (.tup [eSl 1 true F0_ ([] : List (List Int)), I 4]) from inferInstance)
      ·obtain ⟨aq, h2, aa⟩ := zg aa
       obtain rfl := z8 aa
       exact yE ((QH zp (wf hC) 73).or X0) hC hE (Z3 ++ [Hq c4, Hh (.g []), Hn xV, Hm (shM F0_ F0_ l_), Hx (.a (F4_ aq)) (xU l_ _ h2), Hm (shM F0_ F0_ l_)])
     ·obtain ⟨ar, h3, aa⟩ := zg aa
      obtain ⟨t2, ht2, aa⟩ := zg aa
      refine yAt X0 hC (sub [1,1,1,1,2,1,0] xL) (frs [1,1,1,1,2,1,0] [J1] xL []) [(1, .own (.box (Xj t_))), (2, .own (.box (eOs 1 true F2_ []))), (3, .own (.box (I 0))), (4, .own (.box (eOs 1 true F0_ []))), (5, .own (.box (I 0))), (29, .d (.fn 93 [.sptr (eSl 2 false xD ar)]))] [Hc h05 (x := t_.Nodes) h3 (loC z1O t_.Nodes <| loN)] fun st0 h0 => ?_
      refine JM (g := .tmp 29) (ps := [30]) (assign := (sub [1,1,1,1,2,1,0,0] xL)) (body := (sub [1,1,1,1,2,1,0,1] xL)) (K := 93) (caps := [.sptr (eSl 2 false xD ar)]) (by kernel_rfl) [1,2,3,4,5,29] (fun s => xN t_ ar s.1 s.2.1 s.2.2) (fun s => xN t_ ar s.1 s.2.1 s.2.2) (fun s => Code.ret) ((fun (x : z7) (_ : Bool) (_ : Value) => [jZ x])) (F := @yT ar) (fun s x => wh t_ s.1 s.2.1 s.2.2 x) (0, ([] : List (List Int)), 0) t2 _ h0 inferInstance (by kernel_rfl) (by decide) (fun _ => rfl) (fun _ => rfl) (by kernel_rfl) (fun _ _ _ => rfl) (qa hC h02 ar) ht2 ?_ ?_
      ·rintro jy ⟨bw, cj, at_⟩ cw vr bi ae
       replace ae : wh t_ bw cj at_ cw = some bi := ae
       unfold wh at ae
       refine yF X0 hC .normal [(1, .own (.box (Xj t_))), (2, .own (.box (eOs 1 true F2_ []))), (3, .own (.box (I bw))), (4, .own (.box (eOs 1 false F0_ cj))), (5, .own (.box (I at_))), (6, .own (.box (jZ cw))), (29, .d (.fn 93 [.sptr (eSl 2 false xD ar)]))] [] fun st0 h0 => ⟨rfl, z0T h0 ?_⟩
       obtain ⟨aj, h4, ae⟩ := zg ae
       refine yJ X0 hC xL [1,1,1,1,2,1,0,1,0,1] [J1] [1,2,3,4,5,6,7,29,43,44,45,48,49,50,54] (fun z : Bool × Bool × Bool => ve bw cj at_ cw aj z.1 z.2.1 z.2.2 = some bi) (fun z => Wt t_ ar bw cj at_ cw aj z.1 z.2.1 z.2.2) [(1, .own (.box (Xj t_))), (2, .own (.box (eOs 1 true F2_ []))), (3, .own (.box (I bw))), (4, .own (.box (eOs 1 false F0_ cj))), (5, .own (.box (I at_))), (6, .own (.box (jZ cw))), (7, .own (.box (xD aj))), (29, .d (.fn 93 [.sptr (eSl 2 false xD ar)]))] [Hi xD h4, Hh (.cut 0)] ?_ fun J3 dm => ?_
       ·rintro ⟨ig, ii, ij⟩ ae
        unfold ve at ae
        refine yJ X0 hC xL [1,1,1,1,2,1,0,1,0,1,1] [J1] [1,2,3,4,5,29,43,44,45,48,49,50,54] (fun z : List (List Int) => vV bw at_ z = some bi) (fun z => Ws t_ ar bw at_ cw aj ig ii ij z) [(1, .own (.box (Xj t_))), (2, .own (.box (eOs 1 true F2_ []))), (3, .own (.box (I bw))), (4, .own (.box (eOs 1 false F0_ cj))), (5, .own (.box (I at_))), (6, .own (.box (jZ cw))), (7, .own (.box (xD aj))), (29, .d (.fn 93 [.sptr (eSl 2 false xD ar)])), (43, .d (eSl 1 false (eI .i64) cw.w_)), (44, .d (I ((cw.w_.length : Nat) : Int))), (45, .d (B (decide (((cw.w_.length : Nat) : Int) > 256)))), (48, .d (xD aj)), (49, .d (B ig)), (50, .d (B ii)), (54, .d (B ij))] [Hh (.cut 0)] ?_ fun J4 bu => ?_
        ·rintro jb ae
         unfold vV at ae
         obtain rfl := z8 ae
         exact yF X0 hC .normal (xN t_ ar bw jb (w64 (at_ + 1))) [] fun st0 h0 => ⟨rfl, _, h0, LeL.refl _⟩
        ·rcases zD ae with ⟨c5, ae⟩ | ⟨c5, ae⟩
         ·obtain ⟨br, h5, ae⟩ := zg ae
          obtain ⟨bj, h6, ae⟩ := zg ae
          obtain ⟨g0, ae⟩ := gdE ae
          exact yB X0 hC bu (cj ++ [bj]) ae [Hq c5, Hc h06 (x := cw.w_) h5 (loC F2_ cw.w_ <| loN), Hg (ZT h02), Hm (shM (eI .i64) (eI .i64) br), Hs (ZU h02 (x := br) h6 (loC F2_ br <| loN)), Hm (shM (eI .i64) (eI .i64) br), Hq (dM F0_ [bj]), Hn (dM F0_ [bj]), Hn (aL F0_ F0_ g0), Hl (aM F0_ cj [bj])]
         ·exact yB X0 hC bu cj ae [Hq c5]
       ·rcases zD ae with ⟨c6, ae⟩ | ⟨c6, ae⟩
        ·obtain rfl := z8 ae
         exact yF X0 hC .ret (xN t_ ar 4 cj at_) (rpN 5 (Hq c6) (rpN 6 qT [])) fun st0 h0 => ⟨rfl, _, h0, LeL.refl _⟩
        ·let Z4 : List HO := [Hq c6, Hq c6, Hq c6, Ha (lnM (eI .i64) cw.w_), Hq c6, Hq c6]
         rcases zD ae with ⟨c7, ae⟩ | ⟨c7, ae⟩
         ·obtain rfl := z8 ae
          exact yF X0 hC .ret (xN t_ ar 4 cj at_) (Z4 ++ (rpN 5 (Hq c7) [qT])) fun st0 h0 => ⟨rfl, _, h0, LeL.refl _⟩
         ·obtain ⟨dr, h7, ae⟩ := zg ae
          let Z5 : List HO := (Z4 ++ [Hq c7, Hq c7, Hc h0d (x := aj) h7 (loC xD aj <| loN), Hq c7])
          rcases zD ae with ⟨c8, ae⟩ | ⟨c8, ae⟩
          ·let Z6 : List HO := (Z5 ++ [Hq c8, Hq c8, Hq c8, Hq c7, Hq c8, Hq c7])
           rcases zD ae with ⟨c9, ae⟩ | ⟨c9, ae⟩
           ·obtain rfl := z8 ae
            exact yF X0 hC .ret (xN t_ ar 4 cj at_) (Z6 ++ [Hq c9]) fun st0 h0 => ⟨rfl, _, h0, LeL.refl _⟩
           ·exact yB X0 hC dm (dr, dr, !aj.End) ae (Z6 ++ [Hq c9])
          ·exact yB X0 hC dm (dr, dr, false) ae (Z5 ++ [Hq c8, Hq c8, Hq c8, Hq c7, Hq c8, Hq c7, qF])
      ·rcases t2 with ⟨bw, cj, at_⟩ | z
       ·dsimp only at aa
        exact XJ (by kernel_rfl) (a7 _ [(1, .own (.box (Xj t_))), (2, .own (.box (eOs 1 true F2_ []))), (3, .own (.box (I bw))), (4, .own (.box (eOs 1 false F0_ cj)))] (bw, cj) aa (show Own.canon [1,2,3,4] _ = ofL _ by kernel_rfl) inferInstance)
       ·obtain ⟨bw, cj, at_⟩ := z
        dsimp only at aa
        show AWP _ _ (Code.ret) _ _
        obtain rfl := z8 aa
        exact yEx X0 hC hE [Hm (shM F2_ F2_ [])] (.tup [eSl 1 true F0_ [], I bw]) (show LeV (.tup [eSl 1 true F0_ [], I bw]) (.tup [eSl 1 true F0_ ([] : List (List Int)), I bw]) from inferInstance)
def qr : Code := (Try.f14.body).getD .skip
def qe : wD := spF (α := zh) (ρ := Int × Int) 14 (fun x => [Xj x]) (fun r => .tup [(eI .i64) r.1, (eI .i64) r.2]) (fun x => vA x) [] (UP)
abbrev Wx (n_ : Int) : List (Nat × T) := [(6, .d (I n_))]
abbrev Ww (t_ : zh) (fm : Int) (ay : Int) : List (Nat × T) := [(6, .d (I ay)), (18, .d (eSl 2 false xD t_.Nodes)), (19, .d (I ((t_.Nodes.length : Nat) : Int))), (20, .d (I fm))]
abbrev Wv (t_ : zh) (bn : Int) (fm : Int) : List (Nat × T) := [(6, .d (I bn)), (18, .d (eSl 2 false xD t_.Nodes)), (19, .d (I ((t_.Nodes.length : Nat) : Int))), (20, .d (I fm))]
theorem QS (hC : zJ Try.prog ctr) (h0L : ctr.Has kz) (h0d : ctr.Has uq) : qe.Ok Try.prog := by
 refine zX ?_
 rintro t_ r0 aa
 try unfold vA at aa
 refine yO false [(2, none), (3, none)] qr 30 Try.func14 fun E hE => ?_
 obtain ⟨r_, h0, aa⟩ := zg aa
 let Z0 : List HO := [Hc h0L (x := t_) h0 (loC Xj t_ <| loN)]
 rcases zD aa with ⟨c0, aa⟩ | ⟨c0, aa⟩
 ·obtain rfl := z8 aa
  exact yE X0 hC hE (Z0 ++ [Hq c0])
 ·refine yJ X0 hC qr [1,1,1] [] [6] (fun z : Int => ku z = some r0) (fun z => Wx z) [(1, .own (.box (Xj t_))), (6, .d (I 0))] (Z0 ++ [Hq c0, Hh (.cut 1)]) ?_ fun J1 a7 => ?_
  ·rintro n_ aa
   unfold ku at aa
   obtain rfl := z8 aa
   exact yE X0 hC hE []
  ·obtain ⟨t2, ht2, aa⟩ := zg aa
   refine yL X0 hC qr [1,1,1,2,1,0] [J1] (fun s => xI t_ s.1 s.2) (fun x => Wv t_ x.1 x.2) (0,0) ht2  [Ha (lnM xD t_.Nodes)] ?_
   rintro ⟨bn, fm⟩ m2 bi ae hl1 J2 bc
   try unfold xI at ae
   rcases zD ae with ⟨c1, ae⟩ | ⟨c1, ae⟩
   ·refine yJ X0 hC qr [1,1,1,2,1,0,0,1,1] [J1, J2] [6,18,19,20] (fun z : Int => vX fm z = some bi) (fun z => Ww t_ fm z) [(6, .d (I bn)), (18, .d (eSl 2 false xD t_.Nodes)), (19, .d (I ((t_.Nodes.length : Nat) : Int))), (20, .d (I fm))] [Hq c1, Hh (.cut 0)] ?_ fun J3 dm => ?_
    ·rintro ay ae
     unfold vX at ae
     obtain rfl := z8 ae
     exact yB X0 hC bc (ay, w64 (fm + 1)) hl1 []
    ·obtain ⟨aj, h1, ae⟩ := zg ae
     obtain ⟨ah, h2, ae⟩ := zg ae
     let Z1 : List HO := [Hi xD h1, Hc h0d (x := aj) h2 (loC xD aj <| loN)]
     rcases zD ae with ⟨c2, ae⟩ | ⟨c2, ae⟩
     ·exact yB X0 hC dm (w64 (bn + 1)) ae (Z1 ++ [Hq c2])
     ·exact yB X0 hC dm bn ae (Z1 ++ [Hq c2])
   ·obtain rfl := z8 ae
    obtain rfl := hl1
    exact yB X0 hC a7 bn aa [Hq c1]
def JK : Code := (Try.f43.body).getD .skip
def Zn : wD := spF (α := List (List Int) × Int) (ρ := List (List Int) × Int) 43 (fun x => [F6_ x.1, (eI .i64) x.2]) (fun r => .tup [F4_ r.1, (eI .i64) r.2]) (fun x => W3 x.1 x.2) [] (Vt)
theorem K3 (hC : zJ Try.prog ctr) (h0i : ctr.Has qd) (h04 : ctr.Has wx) : Zn.Ok Try.prog := by
 refine zX ?_
 rintro ⟨l_, inputs⟩ r0 aa
 try unfold W3 at aa
 refine yO false [(4, none), (5, none)] JK 17 Try.func43 fun E hE => ?_
 obtain ⟨r_, h0, aa⟩ := zg aa
 let Z0 : List HO := [Hc h0i (x := (l_, inputs)) h0 (loC F6_ l_ <| loC (eI .i64) inputs <| loN)]
 rcases zD aa with ⟨c0, aa⟩ | ⟨c0, aa⟩
 ·obtain rfl := z8 aa
  exact yEx X0 hC hE (Z0 ++ [Hq c0, Hm (shM F2_ F2_ [])]) (.tup [eSl 1 true F0_ [], I r_]) (show LeV (.tup [eSl 1 true F0_ [], I r_]) (.tup [eSl 1 true F0_ ([] : List (List Int)), I r_]) from inferInstance)
 ·obtain ⟨ah, h1, aa⟩ := zg aa
  obtain rfl := z8 aa
  exact yE X0 hC hE (Z0 ++ [Hq c0, Hc h04 (x := l_) h1 (loC F6_ l_ <| loN)])
def qM : Code := (Try.f76.body).getD .skip
def u9 : wD := spF (α := List Int × List Int) (ρ := Int) 76 (fun x => [F2_ x.1, F2_ x.2]) (fun r => (eI .i64) r) (fun x => vO x.1 x.2) [] (Vt)
abbrev Xi : List (Nat × T) := []
abbrev Xh (a_ : List Int) (b_ : List Int) (i_ : Int) : List (Nat × T) := [(0, .d (eSl 1 false (eI .i64) a_)), (1, .d (eSl 1 false (eI .i64) b_)), (5, .d (I i_))]
theorem VC (hC : zJ Try.prog ctr) : u9.Ok Try.prog := by
 refine zX ?_
 rintro ⟨a_, b_⟩ r0 aa
 try unfold vO at aa
 refine yO true [(4, none)] qM 40 Try.func76 fun E hE => ?_
 let Z0 : List HO := [Ha (lnM (eI .i64) a_), Ha (lnM (eI .i64) b_)]
 rcases zD aa with ⟨c0, aa⟩ | ⟨c0, aa⟩
 ·let Z1 : List HO := (Z0 ++ [Hq c0, Ha (lnM (eI .i64) a_), Ha (lnM (eI .i64) b_)])
  rcases zD aa with ⟨c1, aa⟩ | ⟨c1, aa⟩
  ·obtain rfl := z8 aa
   exact yE X0 hC hE (Z1 ++ [Hq c1])
  ·obtain rfl := z8 aa
   exact yE X0 hC hE (Z1 ++ [Hq c1])
 ·refine yJ X0 hC qM [1,1] [] [] (fun z : Unit => qK = some r0) (fun z => Xi) [(0, .d (eSl 1 false (eI .i64) a_)), (1, .d (eSl 1 false (eI .i64) b_))] (Z0 ++ [Hq c0, Hh (.cut 0)]) ?_ fun J1 a7 => ?_
  ·rintro ⟨⟩ aa
   unfold qK at aa
   obtain rfl := z8 aa
   exact yE X0 hC hE []
  ·obtain ⟨t2, ht2, aa⟩ := zg aa
   refine yL X0 hC qM [1,1,2,1,0] [J1] (fun s => wZ a_ b_ s) (fun x => Xh a_ b_ x) 0 ht2  [] ?_
   rintro i_ m2 bi ae hl1 J2 bc
   try unfold wZ at ae
   rcases zD ae with ⟨c2, ae⟩ | ⟨c2, ae⟩
   ·obtain ⟨ce, h0, ae⟩ := zg ae
    obtain ⟨bz, h1, ae⟩ := zg ae
    let Z2 : List HO := [Ha (lnM (eI .i64) a_), Hq c2, Hi (eI .i64) h0, Hi (eI .i64) h1]
    rcases zD ae with ⟨c3, ae⟩ | ⟨c3, ae⟩
    ·obtain rfl := z8 ae
     obtain rfl := hl1
     obtain rfl := z8 aa
     exact yE X0 hC hE (Z2 ++ [Hq c3])
    ·obtain ⟨gc, h2, ae⟩ := zg ae
     obtain ⟨ji, h3, ae⟩ := zg ae
     let Z3 : List HO := (Z2 ++ [Hq c3, Hi (eI .i64) h2, Hi (eI .i64) h3])
     rcases zD ae with ⟨c4, ae⟩ | ⟨c4, ae⟩
     ·obtain rfl := z8 ae
      obtain rfl := hl1
      obtain rfl := z8 aa
      exact yE X0 hC hE (Z3 ++ [Hq c4])
     ·obtain rfl := z8 ae
      exact yB X0 hC bc (w64 (i_ + 1)) hl1 (Z3 ++ [Hq c4])
   ·obtain rfl := z8 ae
    obtain rfl := hl1
    exact yB X0 hC a7 () aa [Ha (lnM (eI .i64) a_), Hq c2]
def ZI : Code := (Try.f75.body).getD .skip
def Zq : wD := spF (α := List (List Int) × List (List Int)) (ρ := Bool) 75 (fun x => [F6_ x.1, F6_ x.2]) (fun r => eB r) (fun x => kU x.1 x.2) [] (Vt)
abbrev Vi : List (Nat × T) := []
abbrev Vh (a_ : List (List Int)) (b_ : List (List Int)) (i_ : Int) : List (Nat × T) := [(0, .d (eSl 1 false F2_ a_)), (1, .d (eSl 1 false F2_ b_)), (5, .d (I i_))]
theorem K5 (hC : zJ Try.prog ctr) (h0m : ctr.Has u9) : Zq.Ok Try.prog := by
 refine zX ?_
 rintro ⟨a_, b_⟩ r0 aa
 try unfold kU at aa
 refine yO true [(4, none)] ZI 27 Try.func75 fun E hE => ?_
 let Z0 : List HO := [Ha (lnM F2_ a_), Ha (lnM F2_ b_)]
 rcases zD aa with ⟨c0, aa⟩ | ⟨c0, aa⟩
 ·obtain rfl := z8 aa
  exact yE X0 hC hE (Z0 ++ [Hq c0])
 ·refine yJ X0 hC ZI [1,1] [] [] (fun z : Unit => qX = some r0) (fun z => Vi) [(0, .d (eSl 1 false F2_ a_)), (1, .d (eSl 1 false F2_ b_))] (Z0 ++ [Hq c0, Hh (.cut 0)]) ?_ fun J1 a7 => ?_
  ·rintro ⟨⟩ aa
   unfold qX at aa
   obtain rfl := z8 aa
   exact yE X0 hC hE []
  ·obtain ⟨t2, ht2, aa⟩ := zg aa
   refine yL X0 hC ZI [1,1,2,1,0] [J1] (fun s => vP a_ b_ s) (fun x => Vh a_ b_ x) 0 ht2  [] ?_
   rintro i_ m2 bi ae hl1 J2 bc
   try unfold vP at ae
   let Z1 : List HO := [Ha (lnM F2_ a_)]
   rcases zD ae with ⟨c1, ae⟩ | ⟨c1, ae⟩
   ·obtain ⟨ce, h0, ae⟩ := zg ae
    obtain ⟨bz, h1, ae⟩ := zg ae
    obtain ⟨r_, h2, ae⟩ := zg ae
    let Z2 : List HO := (Z1 ++ [Hq c1, Hi F2_ h0, Hi F2_ h1, Hc h0m (x := (ce, bz)) h2 (loC F2_ ce <| loC F2_ bz <| loN)])
    rcases zD ae with ⟨c2, ae⟩ | ⟨c2, ae⟩
    ·obtain rfl := z8 ae
     obtain rfl := hl1
     obtain rfl := z8 aa
     exact yE X0 hC hE (Z2 ++ [Hq c2])
    ·obtain rfl := z8 ae
     exact yB X0 hC bc (w64 (i_ + 1)) hl1 (Z2 ++ [Hq c2])
   ·obtain rfl := z8 ae
    obtain rfl := hl1
    exact yB X0 hC a7 () aa (Z1 ++ [Hq c1])
def ZJ : Code := (Try.f40.body).getD .skip
def qU : wD := spF (α := List (List Int) × List (List Int)) (ρ := Bool) 40 (fun x => [F4_ x.1, F6_ x.2]) (fun r => eB r) (fun x => xW x.1 x.2) [] (Vt)
abbrev Vk : List (Nat × T) := []
abbrev Vj (a_ : List (List Int)) (i_ : Int) : List (Nat × T) := [(0, .d (eSl 1 true F0_ a_)), (5, .d (I i_))]
theorem K6 (hC : zJ Try.prog ctr) (h0M : ctr.Has Zq) : qU.Ok Try.prog := by
 refine zX ?_
 rintro ⟨a_, b_⟩ r0 aa
 try unfold xW at aa
 refine yO true [(4, none)] ZJ 34 Try.func40 fun E hE => ?_
 obtain ⟨r_, h0, aa⟩ := zg aa
 let Z0 : List HO := [Hc h0M (x := (a_, b_)) h0 (loC F4_ a_ <| loC F6_ b_ <| loN)]
 rcases zD aa with ⟨c0, aa⟩ | ⟨c0, aa⟩
 ·obtain rfl := z8 aa
  exact yE X0 hC hE (Z0 ++ (rpN 6 (Hq c0) [qT]))
 ·let Z1 : List HO := (Z0 ++ [Hq c0, Hq c0, Ha (lnM F0_ a_), Hq c0, Hq c0, Ha (lnM F0_ a_), Hq c0, Hq c0])
  rcases zD aa with ⟨c1, aa⟩ | ⟨c1, aa⟩
  ·obtain rfl := z8 aa
   exact yE X0 hC hE (Z1 ++ [Hq c1])
  ·refine yJ X0 hC ZJ [1,1] [] [] (fun z : Unit => ZA = some r0) (fun z => Vk) [(0, .d (eSl 1 true F0_ a_))] (Z1 ++ [Hq c1, Hh (.cut 0)]) ?_ fun J1 a7 => ?_
   ·rintro ⟨⟩ aa
    unfold ZA at aa
    obtain rfl := z8 aa
    exact yE X0 hC hE []
   ·obtain ⟨t2, ht2, aa⟩ := zg aa
    refine yL X0 hC ZJ [1,1,2,1,0] [J1] (fun s => vS a_ s) (fun x => Vj a_ x) 0 ht2  [] ?_
    rintro i_ m2 bi ae hl1 J2 bc
    try unfold vS at ae
    let Z2 : List HO := [Ha (lnM F0_ a_)]
    rcases zD ae with ⟨c2, ae⟩ | ⟨c2, ae⟩
    ·obtain ⟨ce, h1, ae⟩ := zg ae
     obtain ⟨gc, h2, ae⟩ := zg ae
     let Z3 : List HO := (Z2 ++ [Hq c2, Hi F0_ h1, Ha (lnM (eI .i64) ce), Hi F0_ h2, Ha (lnM (eI .i64) gc)])
     rcases zD ae with ⟨c3, ae⟩ | ⟨c3, ae⟩
     ·obtain rfl := z8 ae
      obtain rfl := hl1
      obtain rfl := z8 aa
      exact yE X0 hC hE (Z3 ++ [Hq c3])
     ·obtain rfl := z8 ae
      exact yB X0 hC bc (w64 (i_ + 1)) hl1 (Z3 ++ [Hq c3])
    ·obtain rfl := z8 ae
     obtain rfl := hl1
     exact yB X0 hC a7 () aa (Z2 ++ [Hq c2])
def kN : Code := (Try.f45.body).getD .skip
def kC : wD := spF (α := zh × zh) (ρ := Bool) 45 (fun x => [Xj x.1, Xj x.2]) (fun r => eB r) (fun x => YZ x.1 x.2) [] (Vt)
abbrev WG : List (Nat × T) := []
abbrev WF (a_ : zh) (b_ : zh) (i_ : Int) : List (Nat × T) := [(2, .own (.box (Xj a_))), (3, .own (.box (Xj b_))), (5, .d (I i_))]
theorem QV (hC : zJ Try.prog ctr) (h0m : ctr.Has u9) : kC.Ok Try.prog := by
 refine zX ?_
 rintro ⟨a_, b_⟩ r0 aa
 try unfold YZ at aa
 refine yO true [(4, none)] kN 56 Try.func45 fun E hE => ?_
 rcases zD aa with ⟨c0, aa⟩ | ⟨c0, aa⟩
 ·obtain rfl := z8 aa
  exact yE X0 hC hE (rpN 8 (Hq c0) [qT])
 ·let Z0 : List HO := [Hq c0, Hq c0, Hq c0, Ha (lnM xD a_.Nodes), Hq c0, Hq c0, Hq c0, Ha (lnM xD b_.Nodes), Hq c0, Hq c0]
  rcases zD aa with ⟨c1, aa⟩ | ⟨c1, aa⟩
  ·obtain rfl := z8 aa
   exact yE X0 hC hE (Z0 ++ [Hq c1])
  ·refine yJ X0 hC kN [1,1] [] [] (fun z : Unit => kF = some r0) (fun z => WG) [(2, .own (.box (Xj a_))), (3, .own (.box (Xj b_)))] (Z0 ++ [Hq c1, Hh (.cut 0)]) ?_ fun J1 a7 => ?_
   ·rintro ⟨⟩ aa
    unfold kF at aa
    obtain rfl := z8 aa
    exact yE X0 hC hE []
   ·obtain ⟨t2, ht2, aa⟩ := zg aa
    refine yL X0 hC kN [1,1,2,1,0] [J1] (fun s => kE a_ b_ s) (fun x => WF a_ b_ x) 0 ht2  [] ?_
    rintro i_ m2 bi ae hl1 J2 bc
    try unfold kE at ae
    let Z1 : List HO := [Ha (lnM xD a_.Nodes)]
    rcases zD ae with ⟨c2, ae⟩ | ⟨c2, ae⟩
    ·obtain ⟨aj, h0, ae⟩ := zg ae
     obtain ⟨iq, h1, ae⟩ := zg ae
     let Z2 : List HO := (Z1 ++ [Hq c2, Hi xD h0, Hi xD h1])
     rcases zD ae with ⟨c3, ae⟩ | ⟨c3, ae⟩
     ·obtain rfl := z8 ae
      obtain rfl := hl1
      obtain rfl := z8 aa
      exact yE X0 hC hE (Z2 ++ (rpN 15 (Hq c3) [qT]))
     ·obtain ⟨ge, h2, ae⟩ := zg ae
      obtain ⟨gf, h3, ae⟩ := zg ae
      obtain ⟨r_, h4, ae⟩ := zg ae
      let Z3 : List HO := (Z2 ++ (rpN 4 (Hq c3) (Hi xD h2 :: (rpN 6 (Hq c3) [Hi xD h3, Hq c3, Hq c3, Hq c3, Hc h0m (x := (ge.Next, gf.Next)) h4 (loC F2_ ge.Next <| loC F2_ gf.Next <| loN), Hq c3, Hq c3]))))
      rcases zD ae with ⟨c4, ae⟩ | ⟨c4, ae⟩
      ·obtain rfl := z8 ae
       obtain rfl := hl1
       obtain rfl := z8 aa
       exact yE X0 hC hE (Z3 ++ [Hq c4])
      ·obtain rfl := z8 ae
       exact yB X0 hC bc (w64 (i_ + 1)) hl1 (Z3 ++ [Hq c4])
    ·obtain rfl := z8 ae
     obtain rfl := hl1
     exact yB X0 hC a7 () aa (Z1 ++ [Hq c2])
def YP : Code := (Try.f16.body).getD .skip
def qh : wD := spF (α := Unit) (ρ := Bool) 16 (fun x => []) (fun r => eB r) (fun x => wQ) [] (fun _ _ _ => rfl)
theorem QX (hC : zJ Try.prog ctr) (h01 : ctr.Has qV) (h0N : ctr.Has Zn) (h0O : ctr.Has jI) (h0g : ctr.Has vN) (h0n : ctr.Has ut) (h00 : ctr.Has qU) (h08 : ctr.Has ur) (h09 : ctr.Has vY) (h0o : ctr.Has Zo) (h0p : ctr.Has qe) (h0y : ctr.Has kC) (h03 : ctr.Has yI) : qh.Ok Try.prog := by
 refine zX ?_
 rintro ⟨⟩ r0 aa
 try unfold wQ at aa
 refine yO true [(0, none)] YP 214 Try.func16 fun E hE => ?_
 obtain ⟨r_, h0, aa⟩ := zg aa
 obtain ⟨ah, h1, aa⟩ := zg aa
 obtain ⟨aq, h2, aa⟩ := zg aa
 obtain ⟨ar, h3, aa⟩ := zg aa
 obtain ⟨br, h4, aa⟩ := zg aa
 obtain ⟨bj, h5, aa⟩ := zg aa
 obtain ⟨dr, h6, aa⟩ := zg aa
 obtain ⟨em, h7, aa⟩ := zg aa
 obtain ⟨cq, h8, aa⟩ := zg aa
 refine yA X0 hC YP [1,1,1,1,1,0] [] [(1, .d (eSl 1 true F0_ ah.1)), (2, .d (I ah.2)), (3, .d (eSl 1 true F0_ ar.1)), (4, .d (I ar.2)), (5, .d (eSl 1 true F0_ bj.1)), (6, .d (I bj.2)), (7, .d (eSl 1 true F0_ cq.1)), (8, .d (I cq.2))] [Hg (ZT h01), Hm (shM F1_ F0_ ([[1,0], [1], [0], [1]])), Hs (ZU h01 (x := [[1,0], [1], [0], [1]]) h0 (loC F4_ ([[1,0], [1], [0], [1]] : List (List Int)) <| loN)), Hm (shM F1_ F0_ ([[1,0], [1], [0], [1]])), Hc h0N (x := (r_, 2)) h1 (loC F6_ r_ <| loC (eI .i64) 2 <| loN), Hg (ZT h01), Hm (shM F1_ F0_ ([[], [0], [1], [1,0]])), Hs (ZU h01 (x := [[], [0], [1], [1,0]]) h2 (loC F4_ ([[], [0], [1], [1,0]] : List (List Int)) <| loN)), Hm (shM F1_ F0_ ([[], [0], [1], [1,0]])), Hc h0O (x := (aq,2)) h3 (loC F6_ aq <| loC (eI .i64) 2 <| loN), Hg (ZT h01), Hm (shM F1_ F0_ ([[1,0]])), Hs (ZU h01 (x := [[1,0]]) h4 (loC F4_ ([[1,0]] : List (List Int)) <| loN)), Hm (shM F1_ F0_ ([[1,0]])), Hc h0g (x := (br,2)) h5 (loC F6_ br <| loC (eI .i64) 2 <| loN), Hg (ZT h01), Hm (shM F1_ F0_ ([[], [0]])), Hs (ZU h01 (x := [[], [0]]) h6 (loC F4_ ([[], [0]] : List (List Int)) <| loN)), Hm (shM F1_ F0_ ([[], [0]])), Hg (ZT h01), Hm (shM F1_ F0_ ([[0], [1]])), Hs (ZU h01 (x := [[0], [1]]) h7 (loC F4_ ([[0], [1]] : List (List Int)) <| loN)), Hm (shM F1_ F0_ ([[0], [1]])), Hc h0n (x := (dr, em,2)) h8 (loC F6_ dr <| loC F6_ em <| loC (eI .i64) 2 <| loN), Hh (.cut 1)] ?_
 rcases zD aa with ⟨c0, aa⟩ | ⟨c0, aa⟩
 ·obtain rfl := z8 aa
  exact yE X0 hC hE (Hq c0 :: Hq c0 :: Hq c0 :: (rpN 42 qT []))
 ·rcases zD aa with ⟨c1, aa⟩ | ⟨c1, aa⟩
  ·obtain rfl := z8 aa
   exact yE X0 hC hE (Hq c0 :: Hq c0 :: Hq c0 :: Hq c1 :: Hq c1 :: Hq c1 :: (rpN 39 qT []))
  ·let Z0 : List HO := [Hq c0, Hq c0, Hq c0, Hq c1, Hq c1, Hq c1]
   rcases zD aa with ⟨c2, aa⟩ | ⟨c2, aa⟩
   ·obtain rfl := z8 aa
    exact yE X0 hC hE (Z0 ++ (Hq c2 :: Hq c2 :: Hq c2 :: (rpN 36 qT [])))
   ·rcases zD aa with ⟨c3, aa⟩ | ⟨c3, aa⟩
    ·obtain rfl := z8 aa
     exact yE X0 hC hE (Z0 ++ (Hq c2 :: Hq c2 :: Hq c2 :: (rpN 9 (Hq c3) (rpN 27 qT []))))
    ·obtain ⟨cr, h9, aa⟩ := zg aa
     obtain ⟨gk, h10, aa⟩ := zg aa
     let Z1 : List HO := (Z0 ++ (Hq c2 :: Hq c2 :: Hq c2 :: (rpN 6 (Hq c3) [Hg (ZT h01), Hm (shM F1_ F0_ ([[0], [1], [1,0]])), Hs (ZU h01 (x := [[0], [1], [1,0]]) h9 (loC F4_ ([[0], [1], [1,0]] : List (List Int)) <| loN)), Hm (shM F1_ F0_ ([[0], [1], [1,0]])), Hq c3, Hn (uV (f := .fn 40 []) (xs := [F4_ ah.1, F6_ cr]) (ls := []) (r := B gk) (ys := []) [F4_ ah.1, F6_ cr] (show US [F4_ ah.1, F6_ cr] [F4_ ah.1, F6_ cr] from inferInstance)), Hq c3, Hq c3])))
     rcases zD aa with ⟨c4, aa⟩ | ⟨c4, aa⟩
     ·obtain rfl := z8 aa
      exact yE ((zW (P := Try.prog) xp [] (lentCall (zt hC h00 (x := (ah.1, cr)) h10)) 72).or X0) hC hE (Z1 ++ (rpN 8 (Hq c4) (rpN 19 qT [])))
     ·obtain ⟨cb, h11, aa⟩ := zg aa
      obtain ⟨fu, h12, aa⟩ := zg aa
      let Z2 : List HO := (Z1 ++ (rpN 5 (Hq c4) [Hg (ZT h01), Hm (shM F1_ F0_ ([[0], [1,0]])), Hs (ZU h01 (x := [[0], [1,0]]) h11 (loC F4_ ([[0], [1,0]] : List (List Int)) <| loN)), Hm (shM F1_ F0_ ([[0], [1,0]])), Hq c4, Hn (uV (f := .fn 40 []) (xs := [F4_ ar.1, F6_ cb]) (ls := []) (r := B fu) (ys := []) [F4_ ar.1, F6_ cb] (show US [F4_ ar.1, F6_ cb] [F4_ ar.1, F6_ cb] from inferInstance)), Hq c4, Hq c4]))
      rcases zD aa with ⟨c5, aa⟩ | ⟨c5, aa⟩
      ·obtain rfl := z8 aa
       exact yE ((zW (P := Try.prog) xp [] (lentCall (zt hC h00 (x := (ar.1, cb)) h12)) 81).or ((zW (P := Try.prog) xp [] (lentCall (zt hC h00 (x := (ah.1, cr)) h10)) 72).or X0)) hC hE (Z2 ++ (rpN 8 (Hq c5) (rpN 11 qT [])))
      ·obtain ⟨ca, h13, aa⟩ := zg aa
       obtain ⟨ga, h14, aa⟩ := zg aa
       let Z3 : List HO := (Z2 ++ (rpN 5 (Hq c5) [Hg (ZT h01), Hm (shM F1_ F0_ ([[], [1], [1,0]])), Hs (ZU h01 (x := [[], [1], [1,0]]) h13 (loC F4_ ([[], [1], [1,0]] : List (List Int)) <| loN)), Hm (shM F1_ F0_ ([[], [1], [1,0]])), Hq c5, Hn (uV (f := .fn 40 []) (xs := [F4_ bj.1, F6_ ca]) (ls := []) (r := B ga) (ys := []) [F4_ bj.1, F6_ ca] (show US [F4_ bj.1, F6_ ca] [F4_ bj.1, F6_ ca] from inferInstance)), Hq c5, Hq c5]))
       rcases zD aa with ⟨c6, aa⟩ | ⟨c6, aa⟩
       ·obtain rfl := z8 aa
        exact yE ((zW (P := Try.prog) xp [] (lentCall (zt hC h00 (x := (bj.1, ca)) h14)) 90).or ((zW (P := Try.prog) xp [] (lentCall (zt hC h00 (x := (ar.1, cb)) h12)) 81).or ((zW (P := Try.prog) xp [] (lentCall (zt hC h00 (x := (ah.1, cr)) h10)) 72).or X0))) hC hE (Z3 ++ (rpN 10 (Hq c6) [qT]))
       ·obtain ⟨ct, h15, aa⟩ := zg aa
        obtain ⟨gb, h16, aa⟩ := zg aa
        let Z4 : List HO := (Z3 ++ (rpN 7 (Hq c6) [Hg (ZT h01), Hm (shM F1_ F0_ ([[0], [1], [0,0], [0,1]])), Hs (ZU h01 (x := [[0], [1], [0,0], [0,1]]) h15 (loC F4_ ([[0], [1], [0,0], [0,1]] : List (List Int)) <| loN)), Hm (shM F1_ F0_ ([[0], [1], [0,0], [0,1]])), Hq c6, Hn (uV (f := .fn 40 []) (xs := [F4_ cq.1, F6_ ct]) (ls := []) (r := B gb) (ys := []) [F4_ cq.1, F6_ ct] (show US [F4_ cq.1, F6_ ct] [F4_ cq.1, F6_ ct] from inferInstance)), Hq c6, Hq c6]))
        rcases zD aa with ⟨c7, aa⟩ | ⟨c7, aa⟩
        ·obtain rfl := z8 aa
         exact yE ((zW (P := Try.prog) xp [] (lentCall (zt hC h00 (x := (cq.1, ct)) h16)) 101).or ((zW (P := Try.prog) xp [] (lentCall (zt hC h00 (x := (bj.1, ca)) h14)) 90).or ((zW (P := Try.prog) xp [] (lentCall (zt hC h00 (x := (ar.1, cb)) h12)) 81).or ((zW (P := Try.prog) xp [] (lentCall (zt hC h00 (x := (ah.1, cr)) h10)) 72).or X0)))) hC hE (Z4 ++ [Hq c7])
        ·obtain ⟨dv, h17, aa⟩ := zg aa
         obtain ⟨dt, h18, aa⟩ := zg aa
         obtain ⟨ik, h19, aa⟩ := zg aa
         obtain ⟨gl, h20, aa⟩ := zg aa
         obtain ⟨fp, h21, aa⟩ := zg aa
         obtain ⟨gu, h22, aa⟩ := zg aa
         let Z5 : List HO := (Z4 ++ [Hq c7, Hc h08 (x := (2,1)) h17 (loC (eI .i64) 2 <| loC (eI .i64) 1 <| loN), Hc h09 (x := (2,2)) h18 (loC (eI .i64) 2 <| loC (eI .i64) 2 <| loN), Hc h08 (x := (2,12)) h19 (loC (eI .i64) 2 <| loC (eI .i64) 12 <| loN), Hg (ZT h01), Hm (shM F1_ F0_ ([[0], [1,0]])), Hs (ZU h01 (x := [[0], [1,0]]) h20 (loC F4_ ([[0], [1,0]] : List (List Int)) <| loN)), Hm (shM F1_ F0_ ([[0], [1,0]])), Hc h0o (x := (gl,2)) h21 (loC F6_ gl <| loC (eI .i64) 2 <| loN), Hc h0p (x := fp.1) h22 (loC z9r fp.1 <| loN)])
         rcases zD aa with ⟨c8, aa⟩ | ⟨c8, aa⟩
         ·obtain rfl := z8 aa
          exact yE ((zW (P := Try.prog) xp [] (lentCall (zt hC h00 (x := (cq.1, ct)) h16)) 101).or ((zW (P := Try.prog) xp [] (lentCall (zt hC h00 (x := (bj.1, ca)) h14)) 90).or ((zW (P := Try.prog) xp [] (lentCall (zt hC h00 (x := (ar.1, cb)) h12)) 81).or ((zW (P := Try.prog) xp [] (lentCall (zt hC h00 (x := (ah.1, cr)) h10)) 72).or X0)))) hC hE (Z5 ++ (Hq c8 :: Hq c8 :: Hq c8 :: (rpN 36 qT [])))
         ·rcases zD aa with ⟨c9, aa⟩ | ⟨c9, aa⟩
          ·obtain rfl := z8 aa
           exact yE ((zW (P := Try.prog) xp [] (lentCall (zt hC h00 (x := (cq.1, ct)) h16)) 101).or ((zW (P := Try.prog) xp [] (lentCall (zt hC h00 (x := (bj.1, ca)) h14)) 90).or ((zW (P := Try.prog) xp [] (lentCall (zt hC h00 (x := (ar.1, cb)) h12)) 81).or ((zW (P := Try.prog) xp [] (lentCall (zt hC h00 (x := (ah.1, cr)) h10)) 72).or X0)))) hC hE (Z5 ++ (Hq c8 :: Hq c8 :: Hq c8 :: Hq c9 :: Hq c9 :: Hq c9 :: (rpN 33 qT [])))
          ·let Z6 : List HO := (Z5 ++ [Hq c8, Hq c8, Hq c8, Hq c9, Hq c9, Hq c9])
           rcases zD aa with ⟨c10, aa⟩ | ⟨c10, aa⟩
           ·obtain rfl := z8 aa
            exact yE ((zW (P := Try.prog) xp [] (lentCall (zt hC h00 (x := (cq.1, ct)) h16)) 101).or ((zW (P := Try.prog) xp [] (lentCall (zt hC h00 (x := (bj.1, ca)) h14)) 90).or ((zW (P := Try.prog) xp [] (lentCall (zt hC h00 (x := (ar.1, cb)) h12)) 81).or ((zW (P := Try.prog) xp [] (lentCall (zt hC h00 (x := (ah.1, cr)) h10)) 72).or X0)))) hC hE (Z6 ++ (Hq c10 :: Hq c10 :: Hq c10 :: (rpN 30 qT [])))
           ·rcases zD aa with ⟨c11, aa⟩ | ⟨c11, aa⟩
            ·obtain rfl := z8 aa
             exact yE ((zW (P := Try.prog) xp [] (lentCall (zt hC h00 (x := (cq.1, ct)) h16)) 101).or ((zW (P := Try.prog) xp [] (lentCall (zt hC h00 (x := (bj.1, ca)) h14)) 90).or ((zW (P := Try.prog) xp [] (lentCall (zt hC h00 (x := (ar.1, cb)) h12)) 81).or ((zW (P := Try.prog) xp [] (lentCall (zt hC h00 (x := (ah.1, cr)) h10)) 72).or X0)))) hC hE (Z6 ++ (Hq c10 :: Hq c10 :: Hq c10 :: Hq c11 :: Hq c11 :: Hq c11 :: (rpN 27 qT [])))
            ·let Z7 : List HO := (Z6 ++ [Hq c10, Hq c10, Hq c10, Hq c11, Hq c11, Hq c11])
             rcases zD aa with ⟨c12, aa⟩ | ⟨c12, aa⟩
             ·obtain rfl := z8 aa
              exact yE ((zW (P := Try.prog) xp [] (lentCall (zt hC h00 (x := (cq.1, ct)) h16)) 101).or ((zW (P := Try.prog) xp [] (lentCall (zt hC h00 (x := (bj.1, ca)) h14)) 90).or ((zW (P := Try.prog) xp [] (lentCall (zt hC h00 (x := (ar.1, cb)) h12)) 81).or ((zW (P := Try.prog) xp [] (lentCall (zt hC h00 (x := (ah.1, cr)) h10)) 72).or X0)))) hC hE (Z7 ++ (Hq c12 :: Hq c12 :: Hq c12 :: (rpN 24 qT [])))
             ·rcases zD aa with ⟨c13, aa⟩ | ⟨c13, aa⟩
              ·obtain rfl := z8 aa
               exact yE ((zW (P := Try.prog) xp [] (lentCall (zt hC h00 (x := (cq.1, ct)) h16)) 101).or ((zW (P := Try.prog) xp [] (lentCall (zt hC h00 (x := (bj.1, ca)) h14)) 90).or ((zW (P := Try.prog) xp [] (lentCall (zt hC h00 (x := (ar.1, cb)) h12)) 81).or ((zW (P := Try.prog) xp [] (lentCall (zt hC h00 (x := (ah.1, cr)) h10)) 72).or X0)))) hC hE (Z7 ++ (Hq c12 :: Hq c12 :: Hq c12 :: (rpN 8 (Hq c13) (rpN 16 qT []))))
              ·obtain ⟨dw, h23, aa⟩ := zg aa
               obtain ⟨je, h24, aa⟩ := zg aa
               let Z8 : List HO := (Z7 ++ (Hq c12 :: Hq c12 :: Hq c12 :: (rpN 5 (Hq c13) [Hg (ZT h01), Hm (shM F1_ F0_ ([[], [0], [1]])), Hs (ZU h01 (x := [[], [0], [1]]) h23 (loC F4_ ([[], [0], [1]] : List (List Int)) <| loN)), Hm (shM F1_ F0_ ([[], [0], [1]])), Hq c13, Hn (uV (f := .fn 40 []) (xs := [F4_ dv.1, F6_ dw]) (ls := []) (r := B je) (ys := []) [F4_ dv.1, F6_ dw] (show US [F4_ dv.1, F6_ dw] [F4_ dv.1, F6_ dw] from inferInstance)), Hq c13, Hq c13])))
               rcases zD aa with ⟨c14, aa⟩ | ⟨c14, aa⟩
               ·obtain rfl := z8 aa
                exact yE ((zW (P := Try.prog) xp [] (lentCall (zt hC h00 (x := (dv.1, dw)) h24)) 172).or ((zW (P := Try.prog) xp [] (lentCall (zt hC h00 (x := (cq.1, ct)) h16)) 101).or ((zW (P := Try.prog) xp [] (lentCall (zt hC h00 (x := (bj.1, ca)) h14)) 90).or ((zW (P := Try.prog) xp [] (lentCall (zt hC h00 (x := (ar.1, cb)) h12)) 81).or ((zW (P := Try.prog) xp [] (lentCall (zt hC h00 (x := (ah.1, cr)) h10)) 72).or X0))))) hC hE (Z8 ++ (rpN 10 (Hq c14) (rpN 6 qT [])))
               ·obtain ⟨fg, h25, aa⟩ := zg aa
                obtain ⟨jf, h26, aa⟩ := zg aa
                let Z9 : List HO := (Z8 ++ (rpN 7 (Hq c14) [Hg (ZT h01), Hm (shM F1_ F0_ ([[0,0], [0,1], [1,0], [1,1]])), Hs (ZU h01 (x := [[0,0], [0,1], [1,0], [1,1]]) h25 (loC F4_ ([[0,0], [0,1], [1,0], [1,1]] : List (List Int)) <| loN)), Hm (shM F1_ F0_ ([[0,0], [0,1], [1,0], [1,1]])), Hq c14, Hn (uV (f := .fn 40 []) (xs := [F4_ dt.1, F6_ fg]) (ls := []) (r := B jf) (ys := []) [F4_ dt.1, F6_ fg] (show US [F4_ dt.1, F6_ fg] [F4_ dt.1, F6_ fg] from inferInstance)), Hq c14, Hq c14]))
                rcases zD aa with ⟨c15, aa⟩ | ⟨c15, aa⟩
                ·obtain rfl := z8 aa
                 exact yE ((zW (P := Try.prog) xp [] (lentCall (zt hC h00 (x := (dt.1, fg)) h26)) 183).or ((zW (P := Try.prog) xp [] (lentCall (zt hC h00 (x := (dv.1, dw)) h24)) 172).or ((zW (P := Try.prog) xp [] (lentCall (zt hC h00 (x := (cq.1, ct)) h16)) 101).or ((zW (P := Try.prog) xp [] (lentCall (zt hC h00 (x := (bj.1, ca)) h14)) 90).or ((zW (P := Try.prog) xp [] (lentCall (zt hC h00 (x := (ar.1, cb)) h12)) 81).or ((zW (P := Try.prog) xp [] (lentCall (zt hC h00 (x := (ah.1, cr)) h10)) 72).or X0)))))) hC hE (Z9 ++ (rpN 5 (Hq c15) [qT]))
                ·obtain ⟨jr, h27, aa⟩ := zg aa
                 let Z10 : List HO := (Z9 ++ [Hq c15, Hq c15, Hq c15, Hg (ZT h0y), Hm (shM F8_ F9_ ([(z6.mk ([1,2]) false), (z6.mk ([(-1), (-1)]) true), (z6.mk ([3, (-1)]) false), (z6.mk ([(-1), (-1)]) true)])), Hs (ZU h0y (x := (fp.1, (zh.mk 2 ([(z6.mk ([1,2]) false), (z6.mk ([(-1), (-1)]) true), (z6.mk ([3, (-1)]) false), (z6.mk ([(-1), (-1)]) true)])))) h27 (loC z9r fp.1 <| loC (wK (eI .i64) (eSl 2 true F9_)) (zh.mk 2 ([(z6.mk ([1,2]) false), (z6.mk ([(-1), (-1)]) true), (z6.mk ([3, (-1)]) false), (z6.mk ([(-1), (-1)]) true)])) <| loN)), Hq c15, Hq c15])
                 rcases zD aa with ⟨c16, aa⟩ | ⟨c16, aa⟩
                 ·obtain rfl := z8 aa
                  exact yE ((zW (P := Try.prog) xp [] (lentCall (zt hC h00 (x := (dt.1, fg)) h26)) 183).or ((zW (P := Try.prog) xp [] (lentCall (zt hC h00 (x := (dv.1, dw)) h24)) 172).or ((zW (P := Try.prog) xp [] (lentCall (zt hC h00 (x := (cq.1, ct)) h16)) 101).or ((zW (P := Try.prog) xp [] (lentCall (zt hC h00 (x := (bj.1, ca)) h14)) 90).or ((zW (P := Try.prog) xp [] (lentCall (zt hC h00 (x := (ar.1, cb)) h12)) 81).or ((zW (P := Try.prog) xp [] (lentCall (zt hC h00 (x := (ah.1, cr)) h10)) 72).or X0)))))) hC hE (Z10 ++ [Hq c16])
                 ·obtain ⟨iw, h28, aa⟩ := zg aa
                  obtain ⟨js, h29, aa⟩ := zg aa
                  let Z11 : List HO := (Z10 ++ [Hq c16, Hg (ZT h01), Hm (shM F1_ F0_ ([[1], [0]])), Hs (ZU h01 (x := [[1], [0]]) h28 (loC F4_ ([[1], [0]] : List (List Int)) <| loN)), Hm (shM F1_ F0_ ([[1], [0]])), Hc h03 (x := (iw,2)) h29 (loC F6_ iw <| loC (eI .i64) 2 <| loN)])
                  rcases zD aa with ⟨c17, aa⟩ | ⟨c17, aa⟩
                  ·obtain ⟨ix, h30, aa⟩ := zg aa
                   obtain ⟨jt, h31, aa⟩ := zg aa
                   let Z12 : List HO := (Z11 ++ (rpN 4 (Hq c17) [Hg (ZT h01), Hm (shM F1_ F0_ ([[0], [2]])), Hs (ZU h01 (x := [[0], [2]]) h30 (loC F4_ ([[0], [2]] : List (List Int)) <| loN)), Hm (shM F1_ F0_ ([[0], [2]])), Hq c17, Hc h03 (x := (ix,2)) h31 (loC F6_ ix <| loC (eI .i64) 2 <| loN), Hq c17, Hq c17]))
                   rcases zD aa with ⟨c18, aa⟩ | ⟨c18, aa⟩
                   ·obtain ⟨ju, h32, aa⟩ := zg aa
                    let Z13 : List HO := (Z12 ++ [Hq c18, Hc h03 (x := ([], 0)) h32 (loC (eSl 1 true F2_) ([] : List (List Int)) <| loC (eI .i64) 0 <| loN), Hq c18, Hq c18])
                    rcases zD aa with ⟨c19, aa⟩ | ⟨c19, aa⟩
                    ·obtain ⟨jv, h33, aa⟩ := zg aa
                     obtain rfl := z8 aa
                     exact yE ((zW (P := Try.prog) xp [] (lentCall (zt hC h00 (x := (dt.1, fg)) h26)) 183).or ((zW (P := Try.prog) xp [] (lentCall (zt hC h00 (x := (dv.1, dw)) h24)) 172).or ((zW (P := Try.prog) xp [] (lentCall (zt hC h00 (x := (cq.1, ct)) h16)) 101).or ((zW (P := Try.prog) xp [] (lentCall (zt hC h00 (x := (bj.1, ca)) h14)) 90).or ((zW (P := Try.prog) xp [] (lentCall (zt hC h00 (x := (ar.1, cb)) h12)) 81).or ((zW (P := Try.prog) xp [] (lentCall (zt hC h00 (x := (ah.1, cr)) h10)) 72).or X0)))))) hC hE (Z13 ++ [Hq c19, Hc h03 (x := ([], 17)) h33 (loC (eSl 1 true F2_) ([] : List (List Int)) <| loC (eI .i64) 17 <| loN), Hq c19, Hq c19])
                    ·obtain rfl := z8 aa
                     exact yE ((zW (P := Try.prog) xp [] (lentCall (zt hC h00 (x := (dt.1, fg)) h26)) 183).or ((zW (P := Try.prog) xp [] (lentCall (zt hC h00 (x := (dv.1, dw)) h24)) 172).or ((zW (P := Try.prog) xp [] (lentCall (zt hC h00 (x := (cq.1, ct)) h16)) 101).or ((zW (P := Try.prog) xp [] (lentCall (zt hC h00 (x := (bj.1, ca)) h14)) 90).or ((zW (P := Try.prog) xp [] (lentCall (zt hC h00 (x := (ar.1, cb)) h12)) 81).or ((zW (P := Try.prog) xp [] (lentCall (zt hC h00 (x := (ah.1, cr)) h10)) 72).or X0)))))) hC hE (Z13 ++ [Hq c19, Hq c19, Hq c19])
                   ·obtain rfl := z8 aa
                    exact yE ((zW (P := Try.prog) xp [] (lentCall (zt hC h00 (x := (dt.1, fg)) h26)) 183).or ((zW (P := Try.prog) xp [] (lentCall (zt hC h00 (x := (dv.1, dw)) h24)) 172).or ((zW (P := Try.prog) xp [] (lentCall (zt hC h00 (x := (cq.1, ct)) h16)) 101).or ((zW (P := Try.prog) xp [] (lentCall (zt hC h00 (x := (bj.1, ca)) h14)) 90).or ((zW (P := Try.prog) xp [] (lentCall (zt hC h00 (x := (ar.1, cb)) h12)) 81).or ((zW (P := Try.prog) xp [] (lentCall (zt hC h00 (x := (ah.1, cr)) h10)) 72).or X0)))))) hC hE (Z12 ++ [Hq c18, Hq c18, Hq c18, qF, qF, qF])
                  ·obtain rfl := z8 aa
                   exact yE ((zW (P := Try.prog) xp [] (lentCall (zt hC h00 (x := (dt.1, fg)) h26)) 183).or ((zW (P := Try.prog) xp [] (lentCall (zt hC h00 (x := (dv.1, dw)) h24)) 172).or ((zW (P := Try.prog) xp [] (lentCall (zt hC h00 (x := (cq.1, ct)) h16)) 101).or ((zW (P := Try.prog) xp [] (lentCall (zt hC h00 (x := (bj.1, ca)) h14)) 90).or ((zW (P := Try.prog) xp [] (lentCall (zt hC h00 (x := (ar.1, cb)) h12)) 81).or ((zW (P := Try.prog) xp [] (lentCall (zt hC h00 (x := (ah.1, cr)) h10)) 72).or X0)))))) hC hE (Z11 ++ (rpN 7 (Hq c17) (rpN 6 qF [])))
def xM : Code := (Try.f42.body).getD .skip
def qg : wD := spF (α := Int × Int) (ρ := List (List Int)) 42 (fun x => [(eI .i64) x.1, (eI .i64) x.2]) (fun r => (eOs 1 false F3_) r) (fun x => ug x.1 x.2) [] (Vt)
abbrev WE (out : List (List Int)) : List (Nat × T) := [(5, .own (eOs 1 false F3_ out))]
abbrev WD (inputs : Int) (k_ : Int) (n_ : Int) (ap : List (List Int)) : List (Nat × T) := [(0, .d (I inputs)), (1, .d (I k_)), (5, .own (eOs 1 false F3_ ap)), (6, .d (I n_))]
abbrev WC (inputs : Int) (k_ : Int) (n_ : Int) (next : List (List Int)) : List (Nat × T) := [(0, .d (I inputs)), (1, .d (I k_)), (6, .d (I n_)), (7, .own (eOs 1 false F3_ next))]
abbrev WB (inputs : Int) (k_ : Int) (ak : List (List Int)) (n_ : Int) (i_ : Int) (db : List (List Int)) : List (Nat × T) := [(0, .d (I inputs)), (1, .d (I k_)), (5, .own (eOs 1 false F3_ ak)), (6, .d (I n_)), (7, .own (eOs 1 false F3_ db)), (8, .d (I i_))]
abbrev Wy (inputs : Int) (k_ : Int) (ak : List (List Int)) (n_ : Int) (i_ : Int) (bh : List (List Int)) (s_ : Int) : List (Nat × T) := [(0, .d (I inputs)), (1, .d (I k_)), (5, .own (eOs 1 false F3_ ak)), (6, .d (I n_)), (7, .own (eOs 1 false F3_ bh)), (8, .d (I i_)), (9, .d (I s_))]
abbrev Wz (inputs : Int) (k_ : Int) (ak : List (List Int)) (n_ : Int) (bm : List (List Int)) (i_ : Int) : List (Nat × T) := [(0, .d (I inputs)), (1, .d (I k_)), (5, .own (eOs 1 false F3_ ak)), (6, .d (I n_)), (7, .own (eOs 1 false F3_ bm)), (8, .d (I i_))]
abbrev WA (inputs : Int) (k_ : Int) (ak : List (List Int)) (n_ : Int) : List (Nat × T) := [(0, .d (I inputs)), (1, .d (I k_)), (5, .own (eOs 1 false F3_ ak)), (6, .d (I n_))]
theorem QU (hC : zJ Try.prog ctr) : qg.Ok Try.prog := by
 refine zX ?_
 rintro ⟨inputs, k_⟩ r0 aa
 try unfold ug at aa
 refine yO true [(4, none)] xM 42 Try.func42 fun E hE => ?_
 refine yJ X0 hC xM [1,1] [] [5] (fun z : List (List Int) => kD z = some r0) (fun z => WE z) [(0, .d (I inputs)), (1, .d (I k_)), (5, .own (eOs 1 true F1_ ([[]])))] [Hh (.cut 2)] ?_ fun J1 a7 => ?_
 ·rintro out aa
  unfold kD at aa
  obtain rfl := z8 aa
  exact yE X0 hC hE []
 ·obtain ⟨t2, ht2, aa⟩ := zg aa
  refine yLx X0 hC xM [1,1,2,1,0] [J1] (fun s => xJ inputs k_ s.1 s.2) (fun x => WA inputs k_ x.1 x.2) (([[]] : List (List Int)), 0) ht2 [(0, .d (I inputs)), (1, .d (I k_)), (5, .own (eOs 1 true F1_ ([[]]))), (6, .d (I 0))] inferInstance [] ?_
  rintro ⟨ak, n_⟩ m2 bi ae hl1 J2 bc
  try unfold xJ at ae
  rcases zD ae with ⟨c0, ae⟩ | ⟨c0, ae⟩
  ·refine yJ X0 hC xM [1,1,2,1,0,0,1] [J1, J2] [0,1,5,6] (fun z : List (List Int) => qo n_ z = some bi) (fun z => WD inputs k_ n_ z) [(0, .d (I inputs)), (1, .d (I k_)), (5, .own (eOs 1 false F3_ ak)), (6, .d (I n_))] [Hq c0, Hh (.cut 0)] ?_ fun J3 dm => ?_
   ·rintro ap ae
    unfold qo at ae
    obtain rfl := z8 ae
    exact yB X0 hC bc (ap, w64 (n_ + 1)) hl1 []
   ·refine yJ X0 hC xM [1,1,2,1,0,0,1,2,0,1] [J1, J2, J3] [0,1,6,7] (fun z : List (List Int) => qn n_ z = some bi) (fun z => WC inputs k_ n_ z) [(0, .d (I inputs)), (1, .d (I k_)), (5, .own (eOs 1 false F3_ ak)), (6, .d (I n_)), (7, .own (eOs 1 true F2_ []))] [Hh (.cut 1)] ?_ fun J4 bu => ?_
    ·rintro next ae
     unfold qn at ae
     exact yB X0 hC dm next ae []
    ·obtain ⟨t5, ht5, ae⟩ := zg ae
     refine yLx X0 hC xM [1,1,2,1,0,0,1,2,0,1,2,1,0] [J1, J2, J3, J4] (fun s => xc inputs ak s.1 s.2) (fun x => Wz inputs k_ ak n_ x.1 x.2) (([] : List (List Int)), 0) ht5 [(0, .d (I inputs)), (1, .d (I k_)), (5, .own (eOs 1 false F3_ ak)), (6, .d (I n_)), (7, .own (eOs 1 true F3_ [])), (8, .d (I 0))] inferInstance [] ?_
     rintro ⟨bm, i_⟩ m5 fh ai hl2 J5 ep
     try unfold xc at ai
     let Z0 : List HO := [Ha (lnM F3_ ak)]
     rcases zD ai with ⟨c1, ai⟩ | ⟨c1, ai⟩
     ·refine yJ X0 hC xM [1,1,2,1,0,0,1,2,0,1,2,1,0,0,1] [J1, J2, J3, J4, J5] [0,1,5,6,7,8] (fun z : List (List Int) => qm i_ z = some fh) (fun z => WB inputs k_ ak n_ i_ z) [(0, .d (I inputs)), (1, .d (I k_)), (5, .own (eOs 1 false F3_ ak)), (6, .d (I n_)), (7, .own (eOs 1 false F3_ bm)), (8, .d (I i_))] (Z0 ++ [Hq c1, Hh (.cut 0)]) ?_ fun J6 fz => ?_
      ·rintro db ai
       unfold qm at ai
       obtain rfl := z8 ai
       exact yB X0 hC ep (db, w64 (i_ + 1)) hl2 []
      ·obtain ⟨t7, ht7, ai⟩ := zg ai
       refine yL X0 hC xM [1,1,2,1,0,0,1,2,0,1,2,1,0,0,1,2,0,1,0] [J1, J2, J3, J4, J5, J6] (fun s => xa inputs ak i_ s.1 s.2) (fun x => Wy inputs k_ ak n_ i_ x.1 x.2) (bm,0) ht7  [] ?_
       rintro ⟨bh, s_⟩ m7 jw bk hl3 J7 gt
       try unfold xa at bk
       rcases zD bk with ⟨c2, bk⟩ | ⟨c2, bk⟩
       ·obtain ⟨cu, h0, bk⟩ := zg bk
        obtain ⟨g0, bk⟩ := gdE bk
        obtain ⟨g1, bk⟩ := gdE bk
        obtain ⟨g2, bk⟩ := gdE bk
        obtain rfl := z8 bk
        exact yB X0 hC gt ((bh ++ [(cu ++ [s_])]), w64 (s_ + 1)) hl3 [Hq c2, Hn (iL F3_ h0), Hs (iM F3_ h0), Hs (iM F3_ h0), Hq (dM (eI .i64) cu), Hs (iM F3_ h0), Hn (dM (eI .i64) cu), Hn (aL (eI .i64) (eI .i64) g0), Hl (aM0 (eI .i64) cu), Hq (dM (eI .i64) [s_]), Hn (dM (eI .i64) [s_]), Hn (aL (eI .i64) (eI .i64) g1), Hl (aM (eI .i64) cu [s_]), Hq (oC F3_ (cu ++ [s_]) []), Hn (aL F3_ F3_ g2), Hl (aM F3_ bh [(cu ++ [s_])])]
       ·obtain rfl := z8 bk
        obtain rfl := hl3
        exact yB X0 hC fz bh ai [Hq c2]
     ·obtain rfl := z8 ai
      obtain rfl := hl2
      exact yB X0 hC bu bm ae (Z0 ++ [Hq c1])
  ·obtain rfl := z8 ae
   obtain rfl := hl1
   exact yB X0 hC a7 ak aa [Hq c0]
def ZH : Code := (Try.f41.body).getD .skip
def Zp : wD := spF (α := Int × Int) (ρ := List (List Int)) 41 (fun x => [(eI .i64) x.1, (eI .i64) x.2]) (fun r => F7_ r) (fun x => jB x.1 x.2) [] (Vt)
abbrev Vg (out : List (List Int)) : List (Nat × T) := [(5, .own (eOs 1 false F2_ out))]
abbrev Vf (inputs : Int) (k_ : Int) (ak : List (List Int)) (n_ : Int) : List (Nat × T) := [(0, .d (I inputs)), (1, .d (I k_)), (5, .own (eOs 1 false F2_ ak)), (6, .d (I n_))]
def qz : XH Try.prog := ((wL zp (.inl 16) [15]).or X0)
theorem K4 (hC : zJ Try.prog ctr) (h0q : ctr.Has qg) : Zp.Ok Try.prog := by
 refine zX ?_
 rintro ⟨inputs, k_⟩ r0 aa
 try unfold jB at aa
 refine yO true [(4, none)] ZH 18 Try.func41 fun E hE => ?_
 refine yJ qz hC ZH [1,1] [] [5] (fun z : List (List Int) => Zt z = some r0) (fun z => Vg z) [(0, .d (I inputs)), (1, .d (I k_)), (5, .own (eOs 1 true F2_ []))] [Hh (.cut 2)] ?_ fun J1 a7 => ?_
 ·rintro out aa
  unfold Zt at aa
  obtain rfl := z8 aa
  exact yE qz hC hE []
 ·obtain ⟨t2, ht2, aa⟩ := zg aa
  refine yLx qz hC ZH [1,1,2,1,0] [J1] (fun s => w9 inputs k_ s.1 s.2) (fun x => Vf inputs k_ x.1 x.2) (([] : List (List Int)), 0) ht2 [(0, .d (I inputs)), (1, .d (I k_)), (5, .own (eOs 1 true F2_ [])), (6, .d (I 0))] inferInstance [] ?_
  rintro ⟨ak, n_⟩ m2 bi ae hl1 J2 bc
  try unfold w9 at ae
  rcases zD ae with ⟨c0, ae⟩ | ⟨c0, ae⟩
  ·obtain ⟨r_, h0, ae⟩ := zg ae
   obtain ⟨g0, ae⟩ := gdE ae
   obtain rfl := z8 ae
   exact yB qz hC bc ((ak ++ r_), w64 (n_ + 1)) hl1 [Hq c0, Hc h0q (x := (inputs, n_)) h0 (loC (eI .i64) inputs <| loC (eI .i64) n_ <| loN), Hm (shM F3_ F2_ r_), Hn (dM F2_ r_), Hn (aL F2_ F2_ g0), Hl (aM F2_ ak r_)]
  ·obtain rfl := z8 ae
   obtain rfl := hl1
   exact yB qz hC a7 ak aa [Hq c0]
def xA : Code := (Try.f15.body).getD .skip
def uu : wD := spF (α := Int × Int) (ρ := Bool) 15 (fun x => [(eI .i64) x.1, (eI .i64) x.2]) (fun r => eB r) (fun x => xR x.1 x.2) [] (Vt)
abbrev Yq (inputs : Int) (k_ : Int) (r_ : List (List Int) × Int) (ah : List (List Int) × Int) : List (Nat × T) := [(0, .d (I inputs)), (1, .d (I k_)), (5, .d (eSl 1 true F0_ r_.1)), (6, .d (I r_.2)), (7, .d (eSl 1 true F0_ ah.1)), (8, .d (I ah.2))]
abbrev Yr (inputs : Int) (k_ : Int) (r_ : List (List Int) × Int) (ah : List (List Int) × Int) (n_ : Int) (m_ : Int) (s_ : Int) : List (Nat × T) := [(0, .d (I inputs)), (1, .d (I k_)), (5, .d (eSl 1 true F0_ r_.1)), (6, .d (I r_.2)), (7, .d (eSl 1 true F0_ ah.1)), (8, .d (I ah.2)), (10, .d (I n_)), (11, .d (I m_)), (12, .d (I s_))]
abbrev Yp (inputs : Int) (k_ : Int) (r_ : List (List Int) × Int) (ah : List (List Int) × Int) (bn : Int) (il : Int) (dh : Int) (i_ : Int) : List (Nat × T) := [(0, .d (I inputs)), (1, .d (I k_)), (5, .d (eSl 1 true F0_ r_.1)), (6, .d (I r_.2)), (7, .d (eSl 1 true F0_ ah.1)), (8, .d (I ah.2)), (10, .d (I bn)), (11, .d (I il)), (12, .d (I dh)), (13, .d (I i_))]
abbrev Ys (inputs : Int) (k_ : Int) (r_ : List (List Int) × Int) (ah : List (List Int) × Int) (gg : Int) : List (Nat × T) := [(0, .d (I inputs)), (1, .d (I k_)), (5, .d (eSl 1 true F0_ r_.1)), (6, .d (I r_.2)), (7, .d (eSl 1 true F0_ ah.1)), (8, .d (I ah.2)), (9, .d (I gg))]
abbrev Yt (inputs : Int) (k_ : Int) : List (Nat × T) := [(0, .d (I inputs)), (1, .d (I k_))]
theorem W1 (hC : zJ Try.prog ctr) (h08 : ctr.Has ur) (h09 : ctr.Has vY) (h0a : ctr.Has qh) (h0P : ctr.Has Zp) (h00 : ctr.Has qU) (h0q : ctr.Has qg) : uu.Ok Try.prog := by
 refine zX ?_
 rintro ⟨inputs, k_⟩ r0 aa
 try unfold xR at aa
 refine yO true [(4, none)] xA 171 Try.func15 fun E hE => ?_
 refine yJ X0 hC xA [1] [] [0,1] (fun z : Unit => zG inputs k_ = some r0) (fun z => Yt inputs k_) [(0, .d (I inputs)), (1, .d (I k_))] [Hh (.cut 1)] ?_ fun J1 a7 => ?_
 ·rintro ⟨⟩ aa
  unfold zG at aa
  obtain ⟨r_, h0, aa⟩ := zg aa
  obtain ⟨ah, h1, aa⟩ := zg aa
  refine yJ X0 hC xA [1,1,1,1,1] [] [0,1,5,6,7,8,9] (fun z : Int => zV inputs k_ r_ ah z = some r0) (fun z => Ys inputs k_ r_ ah z) [(0, .d (I inputs)), (1, .d (I k_)), (5, .d (eSl 1 true F0_ r_.1)), (6, .d (I r_.2)), (7, .d (eSl 1 true F0_ ah.1)), (8, .d (I ah.2)), (9, .d (I 0))] [Hc h08 (x := (inputs, k_)) h0 (loC (eI .i64) inputs <| loC (eI .i64) k_ <| loN), Hc h09 (x := (inputs, k_)) h1 (loC (eI .i64) inputs <| loC (eI .i64) k_ <| loN), Hh (.cut 1)] ?_ fun J2 bc => ?_
  ·rintro gg aa
   unfold zV at aa
   rcases zD aa with ⟨c0, aa⟩ | ⟨c0, aa⟩
   ·rcases zD aa with ⟨c1, aa⟩ | ⟨c1, aa⟩
    ·let Z0 : List HO := (Hq c0 :: (rpN 4 (Hq c1) []))
     rcases zD aa with ⟨c2, aa⟩ | ⟨c2, aa⟩
     ·let Z1 : List HO := (Z0 ++ [Hq c2, Hq c2, Ha (lnM F0_ r_.1), Hq c2, Hq c2, Ha (lnM F0_ ah.1), Hq c2, Hq c2, Hq c2])
      rcases zD aa with ⟨c3, aa⟩ | ⟨c3, aa⟩
      ·obtain ⟨aq, h2, aa⟩ := zg aa
       obtain rfl := z8 aa
       exact yE X0 hC hE (Z1 ++ [Hq c3, Hc h0a (x := ()) h2 (loN), Hq c3])
      ·obtain rfl := z8 aa
       exact yE X0 hC hE (Z1 ++ [Hq c3, Hq c3])
     ·obtain rfl := z8 aa
      exact yE X0 hC hE (Z0 ++ (rpN 7 (Hq c2) [qF, qF]))
    ·obtain rfl := z8 aa
     exact yE X0 hC hE (Hq c0 :: (rpN 4 (Hq c1) (rpN 9 qF [])))
   ·refine yJ X0 hC xA [1,1,1,1,1,1,1,1,1,1] [] [0,1,5,6,7,8,10,11,12] (fun z : Int × Int × Int => wc inputs k_ r_ ah z.1 z.2.1 z.2.2 = some r0) (fun z => Yr inputs k_ r_ ah z.1 z.2.1 z.2.2) [(0, .d (I inputs)), (1, .d (I k_)), (5, .d (eSl 1 true F0_ r_.1)), (6, .d (I r_.2)), (7, .d (eSl 1 true F0_ ah.1)), (8, .d (I ah.2)), (10, .d (I 1)), (11, .d (I 1)), (12, .d (I 0))] [Hq c0, Hh (.cut 3)] ?_ fun J3 dm => ?_
    ·rintro ⟨n_, m_, s_⟩ aa
     unfold wc at aa
     refine yJ X0 hC xA [1,1,1,1,1,1,1,1,1,1,1] [] [0,1,5,6,7,8] (fun z : Unit => zo inputs k_ r_ ah = some r0) (fun z => Yq inputs k_ r_ ah) [(0, .d (I inputs)), (1, .d (I k_)), (5, .d (eSl 1 true F0_ r_.1)), (6, .d (I r_.2)), (7, .d (eSl 1 true F0_ ah.1)), (8, .d (I ah.2)), (10, .d (I n_)), (11, .d (I m_)), (12, .d (I s_))] [Hh (.cut 0)] ?_ fun J4 bu => ?_
     ·rintro ⟨⟩ aa
      unfold zo at aa
      rcases zD aa with ⟨c4, aa⟩ | ⟨c4, aa⟩
      ·let Z2 : List HO := [Hq c4, Ha (lnM F0_ r_.1)]
       rcases zD aa with ⟨c5, aa⟩ | ⟨c5, aa⟩
       ·rcases zD aa with ⟨c6, aa⟩ | ⟨c6, aa⟩
        ·obtain ⟨ar, h3, aa⟩ := zg aa
         obtain rfl := z8 aa
         exact yE X0 hC hE (Z2 ++ [Hq c5, Hq c5, Hq c5, Hq c6, Hq c6, Hq c6, Hq c5, Hq c6, Hq c5, qT, Hc h0a (x := ()) h3 (loN), qT])
        ·let Z3 : List HO := (Z2 ++ [Hq c5, Hq c5, Hq c5, Hq c6, Hq c6, Ha (lnM F0_ ah.1), Hq c6, Hq c5, Hq c6, Hq c5])
         rcases zD aa with ⟨c7, aa⟩ | ⟨c7, aa⟩
         ·obtain ⟨br, h4, aa⟩ := zg aa
          obtain rfl := z8 aa
          exact yE X0 hC hE (Z3 ++ [Hq c7, Hc h0a (x := ()) h4 (loN), Hq c7])
         ·obtain rfl := z8 aa
          exact yE X0 hC hE (Z3 ++ [Hq c7, Hq c7])
       ·obtain rfl := z8 aa
        exact yE X0 hC hE (Z2 ++ (rpN 5 (Hq c5) [qF, qF]))
      ·obtain ⟨bj, h5, aa⟩ := zg aa
       obtain ⟨dr, h6, aa⟩ := zg aa
       let Z4 : List HO := [Hq c4, Hc h0P (x := (inputs, k_)) h5 (loC (eI .i64) inputs <| loC (eI .i64) k_ <| loN), Hm (shM F2_ F2_ bj), Hn (uV (f := .fn 40 []) (xs := [F4_ r_.1, F6_ bj]) (ls := []) (r := B dr) (ys := []) [F4_ r_.1, F6_ bj] (show US [F4_ r_.1, F6_ bj] [F4_ r_.1, F6_ bj] from inferInstance))]
       rcases zD aa with ⟨c8, aa⟩ | ⟨c8, aa⟩
       ·obtain ⟨em, h7, aa⟩ := zg aa
        obtain ⟨cq, h8, aa⟩ := zg aa
        let Z5 : List HO := (Z4 ++ (rpN 4 (Hq c8) [Hc h0q (x := (inputs, k_)) h7 (loC (eI .i64) inputs <| loC (eI .i64) k_ <| loN), Hq c8, Hm (shM F3_ F2_ em), Hn (uV (f := .fn 40 []) (xs := [F4_ ah.1, F6_ em]) (ls := []) (r := B cq) (ys := []) [F4_ ah.1, F6_ em] (show US [F4_ ah.1, F6_ em] [F4_ ah.1, F6_ em] from inferInstance)), Hq c8]))
        rcases zD aa with ⟨c9, aa⟩ | ⟨c9, aa⟩
        ·obtain ⟨cr, h9, aa⟩ := zg aa
         obtain rfl := z8 aa
         exact yE ((zW (P := Try.prog) xp [] (lentCall (zt hC h00 (x := (ah.1, em)) h8)) 166).or ((zW (P := Try.prog) xp [] (lentCall (zt hC h00 (x := (r_.1, bj)) h6)) 160).or X0)) hC hE (Z5 ++ [Hq c9, Hc h0a (x := ()) h9 (loN), Hq c9])
        ·obtain rfl := z8 aa
         exact yE ((zW (P := Try.prog) xp [] (lentCall (zt hC h00 (x := (ah.1, em)) h8)) 166).or ((zW (P := Try.prog) xp [] (lentCall (zt hC h00 (x := (r_.1, bj)) h6)) 160).or X0)) hC hE (Z5 ++ [Hq c9, Hq c9])
       ·obtain rfl := z8 aa
        exact yE ((zW (P := Try.prog) xp [] (lentCall (zt hC h00 (x := (r_.1, bj)) h6)) 160).or X0) hC hE (Z4 ++ (rpN 6 (Hq c8) [qF, qF]))
     ·rcases zD aa with ⟨c10, aa⟩ | ⟨c10, aa⟩
      ·rcases zD aa with ⟨c11, aa⟩ | ⟨c11, aa⟩
       ·obtain rfl := z8 aa
        exact yE X0 hC hE (Hq c10 :: Hq c10 :: Hq c10 :: (rpN 8 (Hq c11) (rpN 11 qT [])))
       ·let Z6 : List HO := (Hq c10 :: Hq c10 :: Hq c10 :: (rpN 5 (Hq c11) []))
        rcases zD aa with ⟨c12, aa⟩ | ⟨c12, aa⟩
        ·let Z7 : List HO := (Z6 ++ (rpN 4 (Hq c12) [Hq c11, Hq c12, Hq c11, Hq c11]))
         rcases zD aa with ⟨c13, aa⟩ | ⟨c13, aa⟩
         ·obtain rfl := z8 aa
          exact yE X0 hC hE (Z7 ++ (rpN 5 (Hq c13) (rpN 6 qT [])))
         ·rcases zD aa with ⟨c14, aa⟩ | ⟨c14, aa⟩
          ·let Z8 : List HO := (Z7 ++ [Hq c13, Hq c13, Hq c13, Hq c14, Hq c14, Hq c13, Hq c14, Hq c13])
           rcases zD aa with ⟨c15, aa⟩ | ⟨c15, aa⟩
           ·obtain rfl := z8 aa
            exact yE X0 hC hE (Z8 ++ (rpN 5 (Hq c15) [qT]))
           ·rcases zD aa with ⟨c16, aa⟩ | ⟨c16, aa⟩
            ·let Z9 : List HO := (Z8 ++ [Hq c15, Hq c15, Hq c15, Hq c16, Hq c16, Hq c15, Hq c16, Hq c15])
             rcases zD aa with ⟨c17, aa⟩ | ⟨c17, aa⟩
             ·obtain rfl := z8 aa
              exact yE X0 hC hE (Z9 ++ [Hq c17])
             ·exact yB X0 hC bu () aa (Z9 ++ [Hq c17])
            ·exact yB X0 hC bu () aa (Z8 ++ [Hq c15, Hq c15, Hq c15, Hq c16, Hq c16, Hq c15, Hq c16, Hq c15, qF])
          ·let Z10 : List HO := (Z7 ++ [Hq c13, Hq c13, Hq c13, Hq c14, Hq c14, Hq c13, Hq c14, Hq c13, qF, qF, qF])
           rcases zD aa with ⟨c18, aa⟩ | ⟨c18, aa⟩
           ·let Z11 : List HO := (Z10 ++ [Hq c18, Hq c18, qF, Hq c18, qF])
            rcases zD aa with ⟨c19, aa⟩ | ⟨c19, aa⟩
            ·obtain rfl := z8 aa
             exact yE X0 hC hE (Z11 ++ [Hq c19])
            ·exact yB X0 hC bu () aa (Z11 ++ [Hq c19])
           ·exact yB X0 hC bu () aa (Z10 ++ [Hq c18, Hq c18, qF, Hq c18, qF, qF])
        ·let Z12 : List HO := (Z6 ++ (rpN 4 (Hq c12) [Hq c11, Hq c12, Hq c11, Hq c11]))
         rcases zD aa with ⟨c20, aa⟩ | ⟨c20, aa⟩
         ·obtain rfl := z8 aa
          exact yE X0 hC hE (Z12 ++ (rpN 5 (Hq c20) (rpN 6 qT [])))
         ·rcases zD aa with ⟨c21, aa⟩ | ⟨c21, aa⟩
          ·let Z13 : List HO := (Z12 ++ [Hq c20, Hq c20, Hq c20, Hq c21, Hq c21, Hq c20, Hq c21, Hq c20])
           rcases zD aa with ⟨c22, aa⟩ | ⟨c22, aa⟩
           ·obtain rfl := z8 aa
            exact yE X0 hC hE (Z13 ++ (rpN 5 (Hq c22) [qT]))
           ·rcases zD aa with ⟨c23, aa⟩ | ⟨c23, aa⟩
            ·let Z14 : List HO := (Z13 ++ [Hq c22, Hq c22, Hq c22, Hq c23, Hq c23, Hq c22, Hq c23, Hq c22])
             rcases zD aa with ⟨c24, aa⟩ | ⟨c24, aa⟩
             ·obtain rfl := z8 aa
              exact yE X0 hC hE (Z14 ++ [Hq c24])
             ·exact yB X0 hC bu () aa (Z14 ++ [Hq c24])
            ·exact yB X0 hC bu () aa (Z13 ++ [Hq c22, Hq c22, Hq c22, Hq c23, Hq c23, Hq c22, Hq c23, Hq c22, qF])
          ·let Z15 : List HO := (Z12 ++ [Hq c20, Hq c20, Hq c20, Hq c21, Hq c21, Hq c20, Hq c21, Hq c20, qF, qF, qF])
           rcases zD aa with ⟨c25, aa⟩ | ⟨c25, aa⟩
           ·let Z16 : List HO := (Z15 ++ [Hq c25, Hq c25, qF, Hq c25, qF])
            rcases zD aa with ⟨c26, aa⟩ | ⟨c26, aa⟩
            ·obtain rfl := z8 aa
             exact yE X0 hC hE (Z16 ++ [Hq c26])
            ·exact yB X0 hC bu () aa (Z16 ++ [Hq c26])
           ·exact yB X0 hC bu () aa (Z15 ++ [Hq c25, Hq c25, qF, Hq c25, qF, qF])
      ·rcases zD aa with ⟨c27, aa⟩ | ⟨c27, aa⟩
       ·obtain rfl := z8 aa
        exact yE X0 hC hE (Hq c10 :: Hq c10 :: Hq c10 :: (rpN 8 (Hq c27) (rpN 11 qT [])))
       ·let Z17 : List HO := (Hq c10 :: Hq c10 :: Hq c10 :: (rpN 5 (Hq c27) []))
        rcases zD aa with ⟨c28, aa⟩ | ⟨c28, aa⟩
        ·let Z18 : List HO := (Z17 ++ (rpN 4 (Hq c28) [Hq c27, Hq c28, Hq c27, Hq c27]))
         rcases zD aa with ⟨c29, aa⟩ | ⟨c29, aa⟩
         ·obtain rfl := z8 aa
          exact yE X0 hC hE (Z18 ++ (rpN 5 (Hq c29) (rpN 6 qT [])))
         ·rcases zD aa with ⟨c30, aa⟩ | ⟨c30, aa⟩
          ·let Z19 : List HO := (Z18 ++ [Hq c29, Hq c29, Hq c29, Hq c30, Hq c30, Hq c29, Hq c30, Hq c29])
           rcases zD aa with ⟨c31, aa⟩ | ⟨c31, aa⟩
           ·obtain rfl := z8 aa
            exact yE X0 hC hE (Z19 ++ (rpN 5 (Hq c31) [qT]))
           ·rcases zD aa with ⟨c32, aa⟩ | ⟨c32, aa⟩
            ·let Z20 : List HO := (Z19 ++ [Hq c31, Hq c31, Hq c31, Hq c32, Hq c32, Hq c31, Hq c32, Hq c31])
             rcases zD aa with ⟨c33, aa⟩ | ⟨c33, aa⟩
             ·obtain rfl := z8 aa
              exact yE X0 hC hE (Z20 ++ [Hq c33])
             ·exact yB X0 hC bu () aa (Z20 ++ [Hq c33])
            ·exact yB X0 hC bu () aa (Z19 ++ [Hq c31, Hq c31, Hq c31, Hq c32, Hq c32, Hq c31, Hq c32, Hq c31, qF])
          ·let Z21 : List HO := (Z18 ++ [Hq c29, Hq c29, Hq c29, Hq c30, Hq c30, Hq c29, Hq c30, Hq c29, qF, qF, qF])
           rcases zD aa with ⟨c34, aa⟩ | ⟨c34, aa⟩
           ·let Z22 : List HO := (Z21 ++ [Hq c34, Hq c34, qF, Hq c34, qF])
            rcases zD aa with ⟨c35, aa⟩ | ⟨c35, aa⟩
            ·obtain rfl := z8 aa
             exact yE X0 hC hE (Z22 ++ [Hq c35])
            ·exact yB X0 hC bu () aa (Z22 ++ [Hq c35])
           ·exact yB X0 hC bu () aa (Z21 ++ [Hq c34, Hq c34, qF, Hq c34, qF, qF])
        ·let Z23 : List HO := (Z17 ++ (rpN 4 (Hq c28) [Hq c27, Hq c28, Hq c27, Hq c27]))
         rcases zD aa with ⟨c36, aa⟩ | ⟨c36, aa⟩
         ·obtain rfl := z8 aa
          exact yE X0 hC hE (Z23 ++ (rpN 5 (Hq c36) (rpN 6 qT [])))
         ·rcases zD aa with ⟨c37, aa⟩ | ⟨c37, aa⟩
          ·let Z24 : List HO := (Z23 ++ [Hq c36, Hq c36, Hq c36, Hq c37, Hq c37, Hq c36, Hq c37, Hq c36])
           rcases zD aa with ⟨c38, aa⟩ | ⟨c38, aa⟩
           ·obtain rfl := z8 aa
            exact yE X0 hC hE (Z24 ++ (rpN 5 (Hq c38) [qT]))
           ·rcases zD aa with ⟨c39, aa⟩ | ⟨c39, aa⟩
            ·let Z25 : List HO := (Z24 ++ [Hq c38, Hq c38, Hq c38, Hq c39, Hq c39, Hq c38, Hq c39, Hq c38])
             rcases zD aa with ⟨c40, aa⟩ | ⟨c40, aa⟩
             ·obtain rfl := z8 aa
              exact yE X0 hC hE (Z25 ++ [Hq c40])
             ·exact yB X0 hC bu () aa (Z25 ++ [Hq c40])
            ·exact yB X0 hC bu () aa (Z24 ++ [Hq c38, Hq c38, Hq c38, Hq c39, Hq c39, Hq c38, Hq c39, Hq c38, qF])
          ·let Z26 : List HO := (Z23 ++ [Hq c36, Hq c36, Hq c36, Hq c37, Hq c37, Hq c36, Hq c37, Hq c36, qF, qF, qF])
           rcases zD aa with ⟨c41, aa⟩ | ⟨c41, aa⟩
           ·let Z27 : List HO := (Z26 ++ [Hq c41, Hq c41, qF, Hq c41, qF])
            rcases zD aa with ⟨c42, aa⟩ | ⟨c42, aa⟩
            ·obtain rfl := z8 aa
             exact yE X0 hC hE (Z27 ++ [Hq c42])
            ·exact yB X0 hC bu () aa (Z27 ++ [Hq c42])
           ·exact yB X0 hC bu () aa (Z26 ++ [Hq c41, Hq c41, qF, Hq c41, qF, qF])
    ·obtain ⟨t5, ht5, aa⟩ := zg aa
     refine yL X0 hC xA [1,1,1,1,1,1,1,1,1,1,2,1,0] [J3] (fun s => vt inputs k_ s.1 s.2.1 s.2.2.1 s.2.2.2) (fun x => Yp inputs k_ r_ ah x.1 x.2.1 x.2.2.1 x.2.2.2) (1,1,0,1) ht5  [] ?_
     rintro ⟨bn, il, dh, i_⟩ m5 bi ae hl1 J5 ep
     try unfold vt at ae
     rcases zD ae with ⟨c43, ae⟩ | ⟨c43, ae⟩
     ·obtain rfl := z8 ae
      exact yB X0 hC ep ((mn (w64 (bn * inputs)) 100000), (mn (w64 (il + (mn (w64 (bn * inputs)) 100000))) 100000), (mn (w64 (dh + (w64 (i_ * (mn (w64 (bn * inputs)) 100000))))) 10000000), w64 (i_ + 1)) hl1 [Hq c43]
     ·obtain rfl := z8 ae
      obtain rfl := hl1
      exact yB X0 hC dm (bn, il, dh) aa [Hq c43]
  ·rcases zD aa with ⟨c44, aa⟩ | ⟨c44, aa⟩
   ·exact yB X0 hC bc 3 aa [Hq c44]
   ·rcases zD aa with ⟨c45, aa⟩ | ⟨c45, aa⟩
    ·exact yB X0 hC bc 1 aa [Hq c44, Hq c45, Hq c45, Hq c45, qT]
    ·let Z28 : List HO := [Hq c44, Hq c45, Hq c45, Hq c45]
     rcases zD aa with ⟨c46, aa⟩ | ⟨c46, aa⟩
     ·exact yB X0 hC bc 1 aa (Z28 ++ [Hq c46])
     ·rcases zD aa with ⟨c47, aa⟩ | ⟨c47, aa⟩
      ·exact yB X0 hC bc 3 aa (Z28 ++ [Hq c46, Hq c47])
      ·exact yB X0 hC bc 0 aa (Z28 ++ [Hq c46, Hq c47])
 ·rcases zD aa with ⟨c48, aa⟩ | ⟨c48, aa⟩
  ·rcases zD aa with ⟨c49, aa⟩ | ⟨c49, aa⟩
   ·let Z29 : List HO := [Hq c48, Hq c48, Hq c48, Hq c49, Hq c49, Hq c49]
    rcases zD aa with ⟨c50, aa⟩ | ⟨c50, aa⟩
    ·rcases zD aa with ⟨c51, aa⟩ | ⟨c51, aa⟩
     ·obtain rfl := z8 aa
      exact yE X0 hC hE (Z29 ++ (Hq c50 :: Hq c50 :: Hq c50 :: (rpN 4 (Hq c51) [Hq c50, Hq c51, Hq c50, qT])))
     ·let Z30 : List HO := (Z29 ++ [Hq c50, Hq c50, Hq c50, Hq c51, Hq c51, Hq c51])
      rcases zD aa with ⟨c52, aa⟩ | ⟨c52, aa⟩
      ·let Z31 : List HO := (Z30 ++ [Hq c52, Hq c52, Hq c51, Hq c52, Hq c50, Hq c51, Hq c50])
       rcases zD aa with ⟨c53, aa⟩ | ⟨c53, aa⟩
       ·obtain rfl := z8 aa
        exact yE X0 hC hE (Z31 ++ [Hq c53])
       ·exact yB X0 hC a7 () aa (Z31 ++ [Hq c53])
      ·exact yB X0 hC a7 () aa (Z30 ++ [Hq c52, Hq c52, Hq c51, Hq c52, Hq c50, Hq c51, Hq c50, qF])
    ·exact yB X0 hC a7 () aa (Z29 ++ (rpN 5 (Hq c50) [qF]))
   ·exact yB X0 hC a7 () aa (Hq c48 :: Hq c48 :: Hq c48 :: Hq c49 :: Hq c49 :: Hq c49 :: (rpN 6 qF []))
  ·exact yB X0 hC a7 () aa (Hq c48 :: Hq c48 :: Hq c48 :: (rpN 9 qF []))
def yw : Code := (Try.f3.body).getD .skip
def uf : wD := spF (α := Unit) (ρ := Bool) 3 (fun x => []) (fun r => eB r) (fun x => v7) [] (fun _ _ _ => rfl)
abbrev Y6 (long : List (List Int)) : List (Nat × T) := [(7, .own (eOs 1 false F1_ long))]
abbrev Y5 (i_ : Int) (gq : List (List Int)) : List (Nat × T) := [(7, .own (eOs 1 false F1_ gq)), (8, .d (I i_))]
abbrev Y4 (cg : List (List Int)) (i_ : Int) (w_ : List Int) : List (Nat × T) := [(7, .own (eOs 1 false F1_ cg)), (8, .d (I i_)), (9, .own (eOs 1 true (eI .i64) w_))]
abbrev Y2 (cg : List (List Int)) (i_ : Int) (gr : List Int) (k_ : Int) : List (Nat × T) := [(7, .own (eOs 1 false F1_ cg)), (8, .d (I i_)), (9, .own (eOs 1 true (eI .i64) gr)), (10, .d (I k_))]
abbrev Y3 (cg : List (List Int)) (i_ : Int) : List (Nat × T) := [(7, .own (eOs 1 false F1_ cg)), (8, .d (I i_))]
def za : XH Try.prog := ((wL zp (.inl 66) [65]).or X0)
theorem Xn (hC : zJ Try.prog ctr) (h09 : ctr.Has vY) (h01 : ctr.Has qV) (h0r : ctr.Has kA) (h08 : ctr.Has ur) (h03 : ctr.Has yI) (h0z : ctr.Has kB) (h0n : ctr.Has ut) (h0g : ctr.Has vN) (h0o : ctr.Has Zo) (h0p : ctr.Has qe) (h0s : ctr.Has uu) (h0a : ctr.Has qh) : uf.Ok Try.prog := by
 refine zX ?_
 rintro ⟨⟩ r0 aa
 try unfold v7 at aa
 refine yO true [(0, none)] yw 227 Try.func3 fun E hE => ?_
 obtain ⟨r_, h0, aa⟩ := zg aa
 obtain ⟨ah, h1, aa⟩ := zg aa
 obtain ⟨aq, h2, aa⟩ := zg aa
 obtain ⟨ar, h3, aa⟩ := zg aa
 let Z0 : List HO := [Hc h09 (x := (16,3)) h0 (loC (eI .i64) 16 <| loC (eI .i64) 3 <| loN), Hg (ZT h01), Hm (shM F1_ F0_ ([[]])), Hs (ZU h01 (x := [[]]) h1 (loC F4_ ([[]] : List (List Int)) <| loN)), Hm (shM F1_ F0_ ([[]])), Hc h0r (x := (r_.1, ah,16)) h2 (loC F4_ r_.1 <| loC F6_ ah <| loC (eI .i64) 16 <| loN), Hc h08 (x := (16,3)) h3 (loC (eI .i64) 16 <| loC (eI .i64) 3 <| loN)]
 rcases zD aa with ⟨c0, aa⟩ | ⟨c0, aa⟩
 ·obtain rfl := z8 aa
  exact yE za hC hE (Z0 ++ (rpN 4 (Hq c0) (rpN 24 qT [])))
 ·let Z1 : List HO := (Z0 ++ [Hq c0, Hq c0, Ha (lnM F0_ r_.1), Hq c0, Hq c0])
  rcases zD aa with ⟨c1, aa⟩ | ⟨c1, aa⟩
  ·obtain rfl := z8 aa
   exact yE za hC hE (Z1 ++ (Hq c1 :: Hq c1 :: Hq c1 :: (rpN 21 qT [])))
  ·rcases zD aa with ⟨c2, aa⟩ | ⟨c2, aa⟩
   ·obtain rfl := z8 aa
    exact yE za hC hE (Z1 ++ (Hq c1 :: Hq c1 :: Hq c1 :: (rpN 4 (Hq c2) (rpN 17 qT []))))
   ·let Z2 : List HO := (Z1 ++ [Hq c1, Hq c1, Hq c1, Hq c2, Hq c2, Ha (lnM F0_ aq.1), Hq c2, Hq c2])
    rcases zD aa with ⟨c3, aa⟩ | ⟨c3, aa⟩
    ·obtain rfl := z8 aa
     exact yE za hC hE (Z2 ++ (Hq c3 :: Hq c3 :: Hq c3 :: (rpN 14 qT [])))
    ·rcases zD aa with ⟨c4, aa⟩ | ⟨c4, aa⟩
     ·obtain rfl := z8 aa
      exact yE za hC hE (Z2 ++ (Hq c3 :: Hq c3 :: Hq c3 :: (rpN 4 (Hq c4) (rpN 10 qT []))))
     ·obtain ⟨br, h4, aa⟩ := zg aa
      let Z3 : List HO := (Z2 ++ [Hq c3, Hq c3, Hq c3, Hq c4, Hq c4, Hc h03 (x := (r_.1,16)) h4 (loC F4_ r_.1 <| loC (eI .i64) 16 <| loN), Hq c4, Hq c4])
      rcases zD aa with ⟨c5, aa⟩ | ⟨c5, aa⟩
      ·obtain rfl := z8 aa
       exact yE za hC hE (Z3 ++ (rpN 9 (Hq c5) [qT]))
      ·obtain ⟨g0, aa⟩ := gdE aa
       obtain ⟨g1, aa⟩ := gdE aa
       obtain ⟨bj, h5, aa⟩ := zg aa
       let Z4 : List HO := (Z3 ++ [Hq c5, Hq c5, Hq c5, Hn (dM F0_ r_.1), Hn (aL F0_ F0_ g0), Hl (aM0 F0_ r_.1), Hq c5, Hq c5, Hq c5, Hm (shM F1_ F0_ ([[0,0,0,0]])), Hn (dM F0_ ([[0,0,0,0]] : List (List Int))), Hn (aL F0_ F0_ g1), Hl (aM F0_ r_.1 ([[0,0,0,0]] : List (List Int))), Hq c5, Hg (ZT h03), Hm (shM F0_ F0_ (r_.1 ++ ([[0,0,0,0]] : List (List Int)))), Hs (ZU h03 (x := ((r_.1 ++ ([[0,0,0,0]] : List (List Int))), 16)) h5 (loC F5_ (r_.1 ++ ([[0,0,0,0]] : List (List Int))) <| loC (eI .i64) 16 <| loN)), Hq c5, Hq c5])
       rcases zD aa with ⟨c6, aa⟩ | ⟨c6, aa⟩
       ·obtain rfl := z8 aa
        exact yE za hC hE (Z4 ++ [Hq c6])
       ·refine yJ za hC yw [1,1,1,1,1,1] [] [7] (fun z : List (List Int) => x4 z = some r0) (fun z => Y6 z) [(7, .own (eOs 1 true F2_ []))] (Z4 ++ [Hq c6, Hh (.cut 1)]) ?_ fun J1 a7 => ?_
        ·rintro long aa
         unfold x4 at aa
         obtain ⟨dr, h6, aa⟩ := zg aa
         obtain ⟨em, h7, aa⟩ := zg aa
         obtain ⟨cq, h8, aa⟩ := zg aa
         obtain ⟨cr, h9, aa⟩ := zg aa
         obtain ⟨gk, h10, aa⟩ := zg aa
         obtain ⟨fy, h11, aa⟩ := zg aa
         obtain ⟨cb, h12, aa⟩ := zg aa
         obtain ⟨fu, h13, aa⟩ := zg aa
         obtain ⟨ca, h14, aa⟩ := zg aa
         obtain ⟨ga, h15, aa⟩ := zg aa
         refine yA za hC yw [1,1,1,1,1,1,1,1,1,1,1,1,1,0] [] [(2, .d (I dr.2)), (4, .d (I cq.2)), (6, .d (I gk.2)), (7, .d (eSl 1 false F0_ long)), (11, .d (I dr.1)), (12, .d (eSl 1 true F0_ fu.1)), (13, .d (I fu.2)), (15, .d (I ca.2)), (16, .d (I ga.1)), (17, .d (I ga.2))] [Hg (ZT h0z), Hm (shM F1_ F0_ long), Hs (ZU h0z (x := (long, 2)) h6 (loC F5_ long <| loC (eI .i64) 2 <| loN)), Hg (ZT h01), Hm (shM F1_ F0_ ([[1]])), Hs (ZU h01 (x := [[1]]) h7 (loC F4_ ([[1]] : List (List Int)) <| loN)), Hm (shM F1_ F0_ ([[1]])), Hg (ZT h0r), Hm (shM F1_ F0_ long), Hs (ZU h0r (x := (long, em,2)) h8 (loC F5_ long <| loC F6_ em <| loC (eI .i64) 2 <| loN)), Hm (shM F1_ F0_ long), Hg (ZT h01), Hm (shM F1_ F0_ ([[1]])), Hs (ZU h01 (x := [[1]]) h9 (loC F4_ ([[1]] : List (List Int)) <| loN)), Hm (shM F1_ F0_ ([[1]])), Hc h0n (x := (long, cr,2)) h10 (loC F5_ long <| loC F6_ cr <| loC (eI .i64) 2 <| loN), Hi F0_ h11, Hg (ZT h01), Hm (shM F0_ F0_ ([fy])), Hs (ZU h01 (x := [fy]) h12 (loC F4_ [fy] <| loN)), Hm (shM F0_ F0_ ([fy])), Hc h0g (x := (cb,2)) h13 (loC F6_ cb <| loC (eI .i64) 2 <| loN), Hc h0o (x := (long, 2)) h14 (loC F5_ long <| loC (eI .i64) 2 <| loN), Hc h0p (x := ca.1) h15 (loC z9r ca.1 <| loN), Hh (.cut 1)] ?_
         rcases zD aa with ⟨c7, aa⟩ | ⟨c7, aa⟩
         ·obtain rfl := z8 aa
          exact yE za hC hE (Hq c7 :: Hq c7 :: Hq c7 :: (rpN 23 qT []))
         ·rcases zD aa with ⟨c8, aa⟩ | ⟨c8, aa⟩
          ·obtain rfl := z8 aa
           exact yE za hC hE (Hq c7 :: Hq c7 :: Hq c7 :: Hq c8 :: Hq c8 :: Hq c8 :: (rpN 20 qT []))
          ·let Z5 : List HO := [Hq c7, Hq c7, Hq c7, Hq c8, Hq c8, Hq c8]
           rcases zD aa with ⟨c9, aa⟩ | ⟨c9, aa⟩
           ·obtain rfl := z8 aa
            exact yE za hC hE (Z5 ++ (Hq c9 :: Hq c9 :: Hq c9 :: (rpN 17 qT [])))
           ·rcases zD aa with ⟨c10, aa⟩ | ⟨c10, aa⟩
            ·obtain rfl := z8 aa
             exact yE za hC hE (Z5 ++ (Hq c9 :: Hq c9 :: Hq c9 :: Hq c10 :: Hq c10 :: Hq c10 :: (rpN 14 qT [])))
            ·let Z6 : List HO := (Z5 ++ [Hq c9, Hq c9, Hq c9, Hq c10, Hq c10, Hq c10])
             rcases zD aa with ⟨c11, aa⟩ | ⟨c11, aa⟩
             ·obtain rfl := z8 aa
              exact yE za hC hE (Z6 ++ (rpN 4 (Hq c11) (rpN 10 qT [])))
             ·let Z7 : List HO := (Z6 ++ [Hq c11, Hq c11, Ha (lnM F0_ fu.1), Hq c11, Hq c11])
              rcases zD aa with ⟨c12, aa⟩ | ⟨c12, aa⟩
              ·obtain rfl := z8 aa
               exact yE za hC hE (Z7 ++ (Hq c12 :: Hq c12 :: Hq c12 :: (rpN 7 qT [])))
              ·rcases zD aa with ⟨c13, aa⟩ | ⟨c13, aa⟩
               ·obtain rfl := z8 aa
                exact yE za hC hE (Z7 ++ (Hq c12 :: Hq c12 :: Hq c12 :: Hq c13 :: Hq c13 :: Hq c13 :: (rpN 4 qT [])))
               ·let Z8 : List HO := (Z7 ++ [Hq c12, Hq c12, Hq c12, Hq c13, Hq c13, Hq c13])
                rcases zD aa with ⟨c14, aa⟩ | ⟨c14, aa⟩
                ·obtain rfl := z8 aa
                 exact yE za hC hE (Z8 ++ [Hq c14, Hq c14, Hq c14, qT])
                ·rcases zD aa with ⟨c15, aa⟩ | ⟨c15, aa⟩
                 ·obtain rfl := z8 aa
                  exact yE za hC hE (Z8 ++ [Hq c14, Hq c14, Hq c14, Hq c15])
                 ·obtain ⟨ct, h16, aa⟩ := zg aa
                  obtain ⟨gb, h17, aa⟩ := zg aa
                  obtain ⟨dv, h18, aa⟩ := zg aa
                  obtain ⟨dt, h19, aa⟩ := zg aa
                  obtain ⟨ik, h20, aa⟩ := zg aa
                  let Z9 : List HO := (Z8 ++ [Hq c14, Hq c14, Hq c14, Hq c15, Hc h0g (x := (long, 2)) h16 (loC F5_ long <| loC (eI .i64) 2 <| loN), Hc h08 (x := (1,256)) h17 (loC (eI .i64) 1 <| loC (eI .i64) 256 <| loN), Hc h08 (x := (1,257)) h18 (loC (eI .i64) 1 <| loC (eI .i64) 257 <| loN), Hc h09 (x := (2,12)) h19 (loC (eI .i64) 2 <| loC (eI .i64) 12 <| loN), Hc h09 (x := (2,13)) h20 (loC (eI .i64) 2 <| loC (eI .i64) 13 <| loN)])
                  rcases zD aa with ⟨c16, aa⟩ | ⟨c16, aa⟩
                  ·rcases zD aa with ⟨c17, aa⟩ | ⟨c17, aa⟩
                   ·let Z10 : List HO := (Z9 ++ [Hq c16, Hq c16, Hq c16, Hq c17, Hq c17, Ha (lnM F0_ gb.1), Hq c17, Hq c17])
                    rcases zD aa with ⟨c18, aa⟩ | ⟨c18, aa⟩
                    ·rcases zD aa with ⟨c19, aa⟩ | ⟨c19, aa⟩
                     ·let Z11 : List HO := (Z10 ++ [Hq c18, Hq c18, Hq c18, Hq c19, Hq c19, Hq c19])
                      rcases zD aa with ⟨c20, aa⟩ | ⟨c20, aa⟩
                      ·let Z12 : List HO := (Z11 ++ [Hq c20, Hq c20, Ha (lnM F0_ dt.1), Hq c20, Hq c20])
                       rcases zD aa with ⟨c21, aa⟩ | ⟨c21, aa⟩
                       ·rcases zD aa with ⟨c22, aa⟩ | ⟨c22, aa⟩
                        ·obtain ⟨gl, h21, aa⟩ := zg aa
                         let Z13 : List HO := (Z12 ++ [Hq c21, Hq c21, Hq c21, Hq c22, Hc h0s (x := (16,1)) h21 (loC (eI .i64) 16 <| loC (eI .i64) 1 <| loN), Hq c22])
                         rcases zD aa with ⟨c23, aa⟩ | ⟨c23, aa⟩
                         ·obtain ⟨fp, h22, aa⟩ := zg aa
                          let Z14 : List HO := (Z13 ++ [Hq c23, Hc h0s (x := (17, (-1))) h22 (loC (eI .i64) 17 <| loC (eI .i64) (-1) <| loN), Hq c23])
                          rcases zD aa with ⟨c24, aa⟩ | ⟨c24, aa⟩
                          ·obtain ⟨gu, h23, aa⟩ := zg aa
                           let Z15 : List HO := (Z14 ++ [Hq c24, Hc h0s (x := (0,300)) h23 (loC (eI .i64) 0 <| loC (eI .i64) 300 <| loN), Hq c24])
                           rcases zD aa with ⟨c25, aa⟩ | ⟨c25, aa⟩
                           ·obtain ⟨dw, h24, aa⟩ := zg aa
                            obtain rfl := z8 aa
                            exact yE za hC hE (Z15 ++ [Hq c25, Hc h0a (x := ()) h24 (loN), Hq c25])
                           ·obtain rfl := z8 aa
                            exact yE za hC hE (Z15 ++ [Hq c25, Hq c25])
                          ·obtain rfl := z8 aa
                           exact yE za hC hE (Z14 ++ [Hq c24, Hq c24, qF, qF])
                         ·obtain rfl := z8 aa
                          exact yE za hC hE (Z13 ++ (Hq c23 :: Hq c23 :: (rpN 4 qF [])))
                        ·obtain rfl := z8 aa
                         exact yE za hC hE (Z12 ++ (Hq c21 :: Hq c21 :: Hq c21 :: Hq c22 :: Hq c22 :: (rpN 6 qF [])))
                       ·obtain rfl := z8 aa
                        exact yE za hC hE (Z12 ++ (Hq c21 :: Hq c21 :: Hq c21 :: (rpN 8 qF [])))
                      ·obtain rfl := z8 aa
                       exact yE za hC hE (Z11 ++ (rpN 4 (Hq c20) (rpN 11 qF [])))
                     ·obtain rfl := z8 aa
                      exact yE za hC hE (Z10 ++ (Hq c18 :: Hq c18 :: Hq c18 :: Hq c19 :: Hq c19 :: Hq c19 :: (rpN 15 qF [])))
                    ·obtain rfl := z8 aa
                     exact yE za hC hE (Z10 ++ (Hq c18 :: Hq c18 :: Hq c18 :: (rpN 18 qF [])))
                   ·obtain rfl := z8 aa
                    exact yE za hC hE (Z9 ++ (Hq c16 :: Hq c16 :: Hq c16 :: (rpN 4 (Hq c17) (rpN 21 qF []))))
                  ·obtain rfl := z8 aa
                   exact yE za hC hE (Z9 ++ (Hq c16 :: Hq c16 :: Hq c16 :: (rpN 25 qF [])))
        ·obtain ⟨t2, ht2, aa⟩ := zg aa
         refine yLx za hC yw [1,1,1,1,1,1,2,1,0] [J1] (fun s => yg s.1 s.2) (fun x => Y3 x.1 x.2) (([] : List (List Int)), 0) ht2 [(7, .own (eOs 1 true F1_ [])), (8, .d (I 0))] inferInstance [] ?_
         rintro ⟨cg, i_⟩ m2 bi ae hl1 J2 bc
         try unfold yg at ae
         rcases zD ae with ⟨c26, ae⟩ | ⟨c26, ae⟩
         ·refine yJ za hC yw [1,1,1,1,1,1,2,1,0,0,1] [J1, J2] [7,8] (fun z : List (List Int) => wS i_ z = some bi) (fun z => Y5 i_ z) [(7, .own (eOs 1 false F1_ cg)), (8, .d (I i_))] [Hq c26, Hh (.cut 0)] ?_ fun J3 dm => ?_
          ·rintro gq ae
           unfold wS at ae
           obtain rfl := z8 ae
           exact yB za hC bc (gq, w64 (i_ + 1)) hl1 []
          ·obtain ⟨g2, ae⟩ := gdE ae
           refine yJ za hC yw [1,1,1,1,1,1,2,1,0,0,1,2,0,1] [J1, J2, J3] [7,8,9] (fun z : List Int => wR cg i_ z = some bi) (fun z => Y4 cg i_ z) [(7, .own (eOs 1 false F1_ cg)), (8, .d (I i_)), (9, .own (eOs 1 true (eI .i64) (List.replicate (256 : Int).toNat (0 : Int))))] [Hn (rL g2), Ha (rM 1 (eI .i64) 256 (0 : Int)), Hh (.cut 0)] ?_ fun J4 bu => ?_
           ·rintro w_ ae
            unfold wR at ae
            obtain ⟨g3, ae⟩ := gdE ae
            exact yB za hC dm (cg ++ [w_]) ae [Hq (oC F1_ w_ []), Hn (aL F1_ F1_ g3), Hl (aM F1_ cg [w_])]
           ·obtain ⟨t5, ht5, ae⟩ := zg ae
            refine yL za hC yw [1,1,1,1,1,1,2,1,0,0,1,2,0,1,2,1,0] [J1, J2, J3, J4] (fun s => yu i_ s.1 s.2) (fun x => Y2 cg i_ x.1 x.2) ((List.replicate (256 : Int).toNat (0 : Int)), 0) ht5  [] ?_
            rintro ⟨gr, k_⟩ m5 fh ai hl2 J5 ep
            try unfold yu at ai
            rcases zD ai with ⟨c27, ai⟩ | ⟨c27, ai⟩
            ·obtain ⟨g4, ai⟩ := gdE ai
             obtain ⟨g5, ai⟩ := gdE ai
             obtain ⟨cm, h25, ai⟩ := zg ai
             obtain rfl := z8 ai
             exact yB ((zaS Try.prog).or za) hC ep ((gr.set k_.toNat (Int.tmod (Int.fdiv i_ (2 ^ (min (w64 (7 - k_)).toNat 64))) 2)), w64 (k_ + 1)) hl2 [Hq c27, Hn g4, Hn g5, Hn (iL (eI .i64) h25), Hs (iM (eI .i64) h25), Hs (iM (eI .i64) h25), Hl (sM (eI .i64) gr k_ (Int.tmod (Int.fdiv i_ (2 ^ (min (w64 (7 - k_)).toNat 64))) 2))]
            ·obtain rfl := z8 ai
             obtain rfl := hl2
             exact yB za hC bu gr ae [Hq c27]
         ·obtain rfl := z8 ae
          obtain rfl := hl1
          exact yB za hC a7 cg aa [Hq c26]
theorem z9T {l : List wD} {s : wD} (h : ((l.map wD.k).contains s.k) = false) : ∀ t ∈ l, t.k ≠ s.k := by
 intro t ht e
 have : (l.map wD.k).contains s.k = true := by
  rw [List.contains_iff_mem, ← e]
  exact List.mem_map_of_mem ht
 rw [h] at this
 cases this
theorem hat {l : List wD} {c : Ctr} (H : ∀ t ∈ l, c.Has t) (i : Nat) {s : wD} (h : l[i]? = some s := by rfl) : c.Has s := H _ (List.mem_of_getElem? h)
theorem spc {l : List wD} {s : wD} (w : ∀ {c : Ctr}, zJ Try.prog c → (∀ t ∈ l, c.Has t) → s.Ok Try.prog) (r : Wl Try.prog l) (h : ((l.map wD.k).contains s.k) = false := by kernel_rfl) : Wl Try.prog (s :: l) := ⟨fun _ a b => w a b, z9T h, r⟩
theorem z9g : Wl Try.prog [uf, uu, Zp, qg, qh, kC, qU, Zq, u9, Zn, qe, kz, Zm, Zo, wy, yn, vN, kx, wO, ut, Yd, kB, ur, kA, qS, qV, vY, kn, wx, xj, uW, xx, jI, qI, y9, uq, vE, zF, wN, jH, yI, vg, ky, wW, Zr, wj, vo, qJ, qd, kw, xi, xP, qH] :=
 spc (fun hC H => Xn hC (hat H 25) (hat H 24) (hat H 22) (hat H 21) (hat H 39) (hat H 20) (hat H 18) (hat H 15) (hat H 12) (hat H 9) (hat H 0) (hat H 3)) <|
 spc (fun hC H => W1 hC (hat H 20) (hat H 24) (hat H 2) (hat H 0) (hat H 4) (hat H 1)) <|
 spc (fun hC H => K4 hC (hat H 0)) <|
 spc (fun hC _ => QU hC) <|
 spc (fun hC H => QX hC (hat H 20) (hat H 4) (hat H 27) (hat H 11) (hat H 14) (hat H 1) (hat H 17) (hat H 21) (hat H 8) (hat H 5) (hat H 0) (hat H 35)) <|
 spc (fun hC H => QV hC (hat H 2)) <|
 spc (fun hC H => K6 hC (hat H 0)) <|
 spc (fun hC H => K5 hC (hat H 0)) <|
 spc (fun hC _ => VC hC) <|
 spc (fun hC H => K3 hC (hat H 38) (hat H 18)) <|
 spc (fun hC H => QS hC (hat H 0) (hat H 24)) <|
 spc (fun hC H => QO hC (hat H 0) (hat H 26) (hat H 25) (hat H 23) (hat H 22) (hat H 28)) <|
 spc (fun hC _ => JZ hC) <|
 spc (fun hC H => z1R hC (hat H 26) (hat H 25) (hat H 0)) <|
 spc (fun hC H => Zf hC (hat H 23) (hat H 22) (hat H 0)) <|
 spc (fun hC _ => ud hC) <|
 spc (fun hC H => V1 hC (hat H 23) (hat H 22) (hat H 21) (hat H 20) (hat H 1) (hat H 17) (hat H 0)) <|
 spc (fun hC H => QK hC (hat H 23)) <|
 spc (fun hC _ => Xm hC) <|
 spc (fun hC H => UX hC (hat H 4) (hat H 17) (hat H 0) (hat H 8)) <|
 spc (fun hC _ => z0f hC) <|
 spc (fun hC H => QQ hC (hat H 18) (hat H 19)) <|
 spc (fun hC H => K2 hC (hat H 4)) <|
 spc (fun hC H => QP hC (hat H 0) (hat H 7) (hat H 4)) <|
 spc (fun hC H => K1 hC (hat H 15)) <|
 spc (fun hC _ => K7 hC) <|
 spc (fun hC H => QR hC (hat H 0)) <|
 spc (fun hC H => z0g hC (hat H 0) (hat H 9)) <|
 spc (fun hC H => UU hC (hat H 2) (hat H 14) (hat H 0) (hat H 12) (hat H 5) (hat H 8)) <|
 spc (fun hC H => qE hC (hat H 0)) <|
 spc (fun hC H => V0 hC (hat H 12)) <|
 spc (fun hC _ => Zg hC) <|
 spc (fun hC H => UW hC (hat H 7) (hat H 6) (hat H 0)) <|
 spc (fun hC H => VB hC (hat H 4) (hat H 3) (hat H 1) (hat H 0)) <|
 spc (fun hC _ => ZX hC) <|
 spc (fun hC H => K0 hC (hat H 0)) <|
 spc (fun hC _ => UV hC) <|
 spc (fun hC _ => Y8 hC) <|
 spc (fun hC _ => JY hC) <|
 spc (fun hC _ => z1Q hC) <|
 spc (fun hC H => QT hC (hat H 7) (hat H 1) (hat H 0)) <|
 spc (fun hC _ => QL hC) <|
 spc (fun hC H => QN hC (hat H 0)) <|
 spc (fun hC H => Vz hC (hat H 2) (hat H 1) (hat H 0)) <|
 spc (fun hC _ => K8 hC) <|
 spc (fun hC H => kQ hC (hat H 0)) <|
 spc (fun hC H => W2 hC (hat H 0)) <|
 spc (fun hC _ => VD hC) <|
 spc (fun hC H => QM hC (hat H 0)) <|
 spc (fun hC H => QJ hC (hat H 0)) <|
 spc (fun hC H => qD hC (hat H 0)) <|
 spc (fun hC H => k0 hC (hat H 0)) <|
 spc (fun hC _ => VA hC) <|
 trivial
end Go.Own
end
