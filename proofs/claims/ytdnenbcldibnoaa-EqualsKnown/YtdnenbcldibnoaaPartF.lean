/- -/
import Derived.Test.YtdnenbcldibnoaaPartE
noncomputable section
set_option linter.unusedVariables false
set_option linter.unusedSimpArgs false
namespace Go.Own
open Go.Proofs
set_option maxRecDepth 100000
set_option maxHeartbeats 8000000
def X0 : XH Try.prog := xB xg
theorem Y1 : Try.prog.follows .mixedOrders = true := by kernel_rfl
section
variable {ctr : Ctr} {n : Fr} {Q : Exit → St → Prop} {c : Code} {fs : List Fm} {st : St}
theorem yE (X : XH Try.prog) (hC : zM Try.prog ctr) {E : St → Prop} {r : A} {keep : Bool} {rs : List (Nat × Option Nat)} (hE : ∀ st x R U, z5s x9 keep rs st = some (x, R, U) → LeV x r → E st) (L : List HO) (e : zao X x9 ctr n keep rs 4000 c fs st (hoH L) = some (r, hoO L) := by kernel_rfl) : AWP Try.prog n c st (Qf Try.prog n fs (z4I E)) := yE6 X xg hC Y1 hE L e
theorem yEx (X : XH Try.prog) (hC : zM Try.prog ctr) {E : St → Prop} {r : A} {keep : Bool} {rs : List (Nat × Option Nat)} (hE : ∀ st x R U, z5s x9 keep rs st = some (x, R, U) → LeV x r → E st) (L : List HO) (x : A) (hle : LeV x r) (e : zao X x9 ctr n keep rs 4000 c fs st (hoH L) = some (x, hoO L) := by kernel_rfl) : AWP Try.prog n c st (Qf Try.prog n fs (z4I E)) := zek X xg hC Y1 hE L x hle e
theorem yB (X : XH Try.prog) (hC : zM Try.prog ctr) {τ : Type} {J : St → Prop} {live : List Nat} {S : τ → List (Nat × T)} {Inv : τ → Prop} (hJ : ∀ st' l' z, Inv z → Own.canon live st' = ofL l' → LeL l' (S z) → J st') (z : τ) (hz : Inv z) (L : List HO) (e : KT X x9 ctr n live 4000 c fs st (hoH L) = some (.back J, ofL (S z), hoO L) := by kernel_rfl) : AWP Try.prog n c st (Qf Try.prog n fs Q) := yB6 X xg hC Y1 hJ z hz L e
theorem yBx (X : XH Try.prog) (hC : zM Try.prog ctr) {τ : Type} {J : St → Prop} {live : List Nat} {S : τ → List (Nat × T)} {Inv : τ → Prop} (hJ : ∀ st' l' z, Inv z → Own.canon live st' = ofL l' → LeL l' (S z) → J st') (z : τ) (hz : Inv z) (l : List (Nat × T)) (hl : LeL l (S z)) (L : List HO) (e : KT X x9 ctr n live 4000 c fs st (hoH L) = some (.back J, ofL l, hoO L) := by kernel_rfl) : AWP Try.prog n c st (Qf Try.prog n fs Q) := zel X xg hC Y1 hJ z hz l hl L e
theorem yA (X : XH Try.prog) (hC : zM Try.prog ctr) (bd : Code) (path : List Nat) (Js : List (St → Prop)) (l : List (Nat × T)) (L : List HO) (h : AWP Try.prog n (sub path bd) (ofL l) (Qf Try.prog n (frs path Js bd []) Q)) (e : KT X x9 ctr n (Wx l) 4000 c fs st (hoH L) = some (.at (sub path bd) (frs path Js bd []), ofL l, hoO L) := by kernel_rfl) : AWP Try.prog n c st (Qf Try.prog n fs Q) := yA6 X xg hC Y1 bd path Js l L e h
theorem yAt (X : XH Try.prog) (hC : zM Try.prog ctr) (c' : Code) (fs' : List Fm) (l : List (Nat × T)) (L : List HO) (h : ∀ st0, Own.canon (Wx l) st0 = ofL l → AWP Try.prog n c' st0 (Qf Try.prog n fs' Q)) (e : KT X x9 ctr n (Wx l) 4000 c fs st (hoH L) = some (.at c' fs', ofL l, hoO L) := by kernel_rfl) : AWP Try.prog n c st (Qf Try.prog n fs Q) := zem X xg hC Y1 c' fs' l L e h
theorem yLx (X : XH Try.prog) (hC : zM Try.prog ctr) (bd : Code) (path : List Nat) (Js : List (St → Prop)) {σ τ : Type} (f : σ → Option (LR σ τ)) (S : σ → List (Nat × T)) (x0 : σ) {t : τ} (ht : loop f x0 = some t) (l : List (Nat × T)) (hl : LeL l (S x0)) (L : List HO) (round : ∀ x m lr, f x = some lr → zcS f m t lr → ∀ J : St → Prop, (∀ st' l' x', Uj f m x' = some t → Own.canon (Wx l) st' = ofL l' → LeL l' (S x') → J st') → AWP Try.prog n (sub (path ++ [0]) bd) (ofL (S x)) (Qf Try.prog n (.pre J :: frs path Js bd []) Q)) (e : KT X x9 ctr n (Wx l) 4000 c fs st (hoH L) = some (.at (sub path bd) (frs path Js bd []), ofL l, hoO L) := by kernel_rfl) (e2 : sub path bd = .loop (sub (path ++ [0]) bd) := by kernel_rfl) (hk : ∀ x, Wx (S x) = Wx l := by exact fun _ => rfl) : AWP Try.prog n c st (Qf Try.prog n fs Q) := yL6 X xg hC Y1 bd path Js f S x0 ht l hl L hk e e2 round
theorem yL (X : XH Try.prog) (hC : zM Try.prog ctr) (bd : Code) (path : List Nat) (Js : List (St → Prop)) {σ τ : Type} (f : σ → Option (LR σ τ)) (S : σ → List (Nat × T)) (x0 : σ) {t : τ} (ht : loop f x0 = some t) (L : List HO) (round : ∀ x m lr, f x = some lr → zcS f m t lr → ∀ J : St → Prop, (∀ st' l' x', Uj f m x' = some t → Own.canon (Wx (S x0)) st' = ofL l' → LeL l' (S x') → J st') → AWP Try.prog n (sub (path ++ [0]) bd) (ofL (S x)) (Qf Try.prog n (.pre J :: frs path Js bd []) Q)) (e : KT X x9 ctr n (Wx (S x0)) 4000 c fs st (hoH L) = some (.at (sub path bd) (frs path Js bd []), ofL (S x0), hoO L) := by kernel_rfl) (e2 : sub path bd = .loop (sub (path ++ [0]) bd) := by kernel_rfl) (hk : ∀ x, Wx (S x) = Wx (S x0) := by exact fun _ => rfl) : AWP Try.prog n c st (Qf Try.prog n fs Q) := yL6 X xg hC Y1 bd path Js f S x0 ht _ (LeL.refl _) L hk e e2 round
theorem yJ (X : XH Try.prog) (hC : zM Try.prog ctr) (bd : Code) (path : List Nat) (Js : List (St → Prop)) {σ : Type} (live : List Nat) (Inv : σ → Prop) (S : σ → List (Nat × T)) (l : List (Nat × T)) (L : List HO) (h1 : ∀ z, Inv z → AWP Try.prog n (sub (path ++ [1]) bd) (ofL (S z)) (Qf Try.prog n (frs path Js bd []) Q)) (h2 : ∀ J : St → Prop, (∀ st' l' z, Inv z → Own.canon live st' = ofL l' → LeL l' (S z) → J st') → AWP Try.prog n (sub (path ++ [2]) bd) (ofL l) (Qf Try.prog n (.pre J :: frs path Js bd []) Q)) (e : KT X x9 ctr n (Wx l) 4000 c fs st (hoH L) = some (.at (sub path bd) (frs path Js bd []), ofL l, hoO L) := by kernel_rfl) (e2 : sub path bd = .seq (sub (path ++ [2]) bd) (sub (path ++ [1]) bd) := by kernel_rfl) : AWP Try.prog n c st (Qf Try.prog n fs Q) := yJ6 X xg hC Y1 bd path Js live Inv S l L e e2 h1 h2
theorem yF (X : XH Try.prog) (hC : zM Try.prog ctr) (ex : Exit) (l : List (Nat × T)) (L : List HO) (h : ∀ st0, Own.canon (Wx l) st0 = ofL l → Q ex st0) (e : KT X x9 ctr n (Wx l) 4000 c fs st (hoH L) = some (.fin ex, ofL l, hoO L) := by kernel_rfl) : AWP Try.prog n c st (Qf Try.prog n fs Q) := yF6 X xg hC Y1 ex l L e h
theorem yO {k : Nat} {fn : Func} {r : A} {ls : List A} (keep : Bool) (rs : List (Nat × Option Nat)) (body : Code) (nt : Nat) (hf : Try.prog.funcs[k]? = some fn) (h : ∀ E : St → Prop, (∀ st x R U, z5s x9 keep rs st = some (x, R, U) → LeV x r → E st) → AWP Try.prog ⟨nt, []⟩ body (ofL (z6E 0 ls)) (Qf Try.prog ⟨nt, []⟩ [] (z4I E))) (hb : fn.body = some body := by kernel_rfl) (hn : nt = fn.ntmps := by exact rfl) (hr : fn.results = (rs.map z1h).toArray := by exact rfl) (hnm : (fn.name == "runtime.NumGoroutine") = false := by exact rfl) (ha : Nat.ble ls.length nt = true := by kernel_rfl) : X9 Try.prog k ls r := yO6 xg keep rs body nt hf hb hn hr hnm ha h
end
theorem JR : zaj Try.prog 130 95 4 (Xp [.i64, .i64]) (.atom (.bool false)) := z7E Try.underlying130 _ Try.underlying95 (Go.Ex.z8L.eqn rfl) (z4V.eqn rfl) rfl ⟨.bool false, fun w => z6K (f := Try.t4) (by kernel_rfl) rfl w, fun S => ve.2 ⟨rfl, rfl⟩⟩ rfl
theorem za3 : z4g Try.prog 67 0 3 0 := z63 Try.underlying67 _ rfl rfl rfl
theorem zcX : zai Try.prog 78 2 true := z7d xg (t := 95) Try.so78 rfl rfl (by kernel_rfl) (by decide)
def z0V : Code := (Try.f48.body).getD .skip
def kh : yj := spF (α := Int × Int) (ρ := z7) 48 (fun x => [(eI .i64) x.1, (eI .i64) x.2]) (fun r => F7_ r) (fun x => y9 x.1 x.2) [] (Wf)
theorem z1b {ctr : Ctr} (hC : zM Try.prog ctr) : kh.Ok Try.prog := by
 refine zV ?_
 rintro ⟨to, out⟩ r0 hf0
 try unfold y9 at hf0
 refine yO false [(4, some 67)] z0V 8 Try.func48 fun E hE => ?_
 obtain rfl := zb hf0
 exact yE X0 hC hE []
def Qh : Code := (Try.f133.body).getD .skip
def jZ : yj := spF (α := Unit) (ρ := z7) 133 (fun x => []) (fun r => F7_ r) (fun x => km) [] (fun _ _ _ => rfl)
theorem Jd {ctr : Ctr} (hC : zM Try.prog ctr) : jZ.Ok Try.prog := by
 refine zV ?_
 rintro ⟨⟩ r0 hf0
 try unfold km at hf0
 refine yO false [(0, some 67)] Qh 2 Try.func133 fun E hE => ?_
 obtain rfl := zb hf0
 exact yE X0 hC hE []
def Qi : Code := (Try.f107.body).getD .skip
def k7 : yj := spF (α := z6 × z7) (ρ := Bool) 107 (fun x => [zl x.1, F7_ x.2]) (fun r => eB r) (fun x => jd x.1 x.2) [] (Wf)
theorem Je {ctr : Ctr} (hC : zM Try.prog ctr) (h0y : ctr.Has jZ) : k7.Ok Try.prog := by
 refine zV ?_
 rintro ⟨m_, x_⟩ r0 hf0
 try unfold jd at hf0
 refine yO true [(4, none)] Qi 33 Try.func107 fun E hE => ?_
 obtain ⟨r_, h0, hf0⟩ := ze hf0
 let Z0 : List HO := [Hc h0y (x := ()) h0 (loN)]
 rcases zD hf0 with ⟨c0, hf0⟩ | ⟨c0, hf0⟩
 ·obtain rfl := zb hf0
  exact yE X0 hC hE (Z0 ++ (rpN 10 (Hq c0) []))
 ·let Z1 : List HO := (Z0 ++ (rpN 4 (Hq c0) []))
  rcases zD hf0 with ⟨c1, hf0⟩ | ⟨c1, hf0⟩
  ·let Z2 : List HO := (Z1 ++ (rpN 5 (Hq c1) [Ha (lnM zP m_.Rows), Hq c1, Hq c0, Hq c1, Hq c0]))
   rcases zD hf0 with ⟨c2, hf0⟩ | ⟨c2, hf0⟩
   ·let Z3 : List HO := (Z2 ++ [Hq c2, Hq c2, Hq c2, Hq c0, Hq c2, Hq c0])
    rcases zD hf0 with ⟨c3, hf0⟩ | ⟨c3, hf0⟩
    ·obtain rfl := zb hf0
     exact yE X0 hC hE (Z3 ++ (rpN 5 (Hq c3) [Hq c0, Hq c3, Hq c0]))
    ·obtain rfl := zb hf0
     exact yE X0 hC hE (Z3 ++ (rpN 5 (Hq c3) [Hq c0, Hq c3, Hq c0]))
   ·obtain rfl := zb hf0
    exact yE X0 hC hE (Z2 ++ (Hq c2 :: Hq c2 :: Hq c2 :: Hq c0 :: Hq c2 :: Hq c0 :: (rpN 5 qF [Hq c0, qF, Hq c0])))
  ·obtain rfl := zb hf0
   exact yE X0 hC hE (Z1 ++ (rpN 6 (Hq c1) (Hq c0 :: Hq c1 :: Hq c0 :: qF :: qF :: qF :: Hq c0 :: qF :: Hq c0 :: (rpN 5 qF [Hq c0, qF, Hq c0]))))
def WD : Code := (Try.f106.body).getD .skip
def qa : yj := spF (α := z7 × z6) (ρ := Bool) 106 (fun x => [F7_ x.1, z6J x.2]) (fun r => eB r) (fun x => uY x.1 x.2) [] (Wf)
theorem WZ {ctr : Ctr} (hC : zM Try.prog ctr) (h0z : ctr.Has k7) : qa.Ok Try.prog := by
 refine zV ?_
 rintro ⟨x_, x1⟩ r0 hf0
 try unfold uY at hf0
 refine yO true [(3, none)] WD 8 Try.func106 fun E hE => ?_
 obtain ⟨r_, h0, hf0⟩ := ze hf0
 obtain rfl := zb hf0
 exact yE X0 hC hE [Hc h0z (x := (x1, x_)) h0 (loC zl x1 <| loC F7_ x_ <| loN)]
def yx : Code := (Try.f132.body).getD .skip
def yq : yj := spF (α := List z7 × z6) (ρ := Int) 132 (fun x => [zP x.1, (z6a 106 z6J) x.2]) (fun r => (eI .i64) r) (fun x => yd x.1 x.2) [] (by
 rintro ⟨a0, a1⟩ ⟨b0, b1⟩ h
 have e0 := kc.inj (f := zP) _ _ (List.cons.inj h).1
 replace h := (List.cons.inj h).2
 have e1 := kc.inj (f := (z6a 106 z6J)) _ _ (List.cons.inj h).1
 subst e0 e1
 rfl)
abbrev vP : List (Nat × T) := []
abbrev vO (s_ : List z7) (f_ : z6) (x8 : Int) : List (Nat × T) := [(0, .d (eSl 2 false F7_ s_)), (1, .d (.fn 106 [.sptr (.agg [I f_.Inputs, I f_.Outputs, eSl 1 false zP f_.Rows])])), (7, .d (I ((s_.length : Nat) : Int))), (8, .d (I x8))]
theorem uz {ctr : Ctr} (hC : zM Try.prog ctr) (h0A : ctr.Has qa) : yq.Ok Try.prog := by
 refine zV ?_
 rintro ⟨s_, f_⟩ r0 hf0
 try unfold yd at hf0
 refine yO true [(4, none)] yx 19 Try.func132 fun E hE => ?_
 refine yJ X0 hC yx [1] [] [] (fun z : Unit => yu = some r0) (fun z => vP) [(0, .d (eSl 2 false F7_ s_)), (1, .d (.fn 106 [.sptr (.agg [I f_.Inputs, I f_.Outputs, eSl 1 false zP f_.Rows])]))] [Hh (.cut 1)] ?_ fun J1 hJ1 => ?_
 ·rintro ⟨⟩ hf0
  unfold yu at hf0
  obtain rfl := zb hf0
  exact yE X0 hC hE []
 ·obtain ⟨t2, ht2, hf0⟩ := ze hf0
  refine yL X0 hC yx [1,2,1,0] [J1] (fun s => zJ s_ f_ s) (fun x => vO s_ f_ x) 0 ht2  [Ha (lnM F7_ s_)] ?_
  rintro x8 m2 lr1 hf1 hl1 J2 hJ2
  try unfold zJ at hf1
  rcases zD hf1 with ⟨c0, hf1⟩ | ⟨c0, hf1⟩
  ·obtain ⟨s__e, h0, hf1⟩ := ze hf1
   obtain ⟨r_, h1, hf1⟩ := ze hf1
   let Z0 : List HO := [Hq c0, Hi F7_ h0, Hc h0A (x := (s__e, f_)) h1 (loC F7_ s__e <| loC z6J f_ <| loN)]
   rcases zD hf1 with ⟨c1, hf1⟩ | ⟨c1, hf1⟩
   ·obtain rfl := zb hf1
    obtain rfl := hl1
    obtain rfl := zb hf0
    exact yE X0 hC hE (Z0 ++ [Hq c1])
   ·obtain rfl := zb hf1
    exact yB X0 hC hJ2 (w64 (x8 + 1)) hl1 (Z0 ++ [Hq c1])
  ·obtain rfl := zb hf1
   obtain rfl := hl1
   exact yB X0 hC hJ1 () hf0 [Hq c0]
def vN : Code := (Try.f105.body).getD .skip
def yi : yj := spF (α := List z7 × z6) (ρ := Bool) 105 (fun x => [zP x.1, (z6a 106 z6J) x.2]) (fun r => eB r) (fun x => zT x.1 x.2) [] (by
 rintro ⟨a0, a1⟩ ⟨b0, b1⟩ h
 have e0 := kc.inj (f := zP) _ _ (List.cons.inj h).1
 replace h := (List.cons.inj h).2
 have e1 := kc.inj (f := (z6a 106 z6J)) _ _ (List.cons.inj h).1
 subst e0 e1
 rfl)
theorem vQ {ctr : Ctr} (hC : zM Try.prog ctr) (h0B : ctr.Has yq) : yi.Ok Try.prog := by
 refine zV ?_
 rintro ⟨s_, f_⟩ r0 hf0
 try unfold zT at hf0
 refine yO true [(4, none)] vN 9 Try.func105 fun E hE => ?_
 obtain ⟨r_, h0, hf0⟩ := ze hf0
 obtain rfl := zb hf0
 exact yE X0 hC hE [Hc h0B (x := (s_, f_)) h0 (loC zP s_ <| loC (z6a 106 z6J) f_ <| loN)]
def jw : Code := (Try.f85.body).getD .skip
def jo : yj := spF (α := z6) (ρ := Int) 85 (fun x => [zl x]) (fun r => (eI .i64) r) (fun x => vz x) [] (z1T)
abbrev W5 : List (Nat × T) := []
abbrev W4 (m_ : z6) (x36 : Int) : List (Nat × T) := [(1, .d (.sptr (zl m_))), (34, .d (eSl 1 false zP m_.Rows)), (35, .d (I ((m_.Rows.length : Nat) : Int))), (36, .d (I x36))]
theorem Q8 {ctr : Ctr} (hC : zM Try.prog ctr) (h0C : ctr.Has yi) : jo.Ok Try.prog := by
 refine zV ?_
 rintro m_ r0 hf0
 try unfold vz at hf0
 refine yO true [(2, none)] jw 51 Try.func85 fun E hE => ?_
 rcases zD hf0 with ⟨c0, hf0⟩ | ⟨c0, hf0⟩
 ·obtain rfl := zb hf0
  exact yE X0 hC hE (rpN 4 (Hq c0) (rpN 6 qT []))
 ·let Z0 : List HO := (rpN 4 (Hq c0) [])
  rcases zD hf0 with ⟨c1, hf0⟩ | ⟨c1, hf0⟩
  ·obtain rfl := zb hf0
   exact yE X0 hC hE (Z0 ++ (rpN 5 (Hq c1) [qT]))
  ·let Z1 : List HO := (Z0 ++ [Hq c1, Hq c1, Hq c1, Ha (lnM zP m_.Rows), Hq c1, Hq c1])
   rcases zD hf0 with ⟨c2, hf0⟩ | ⟨c2, hf0⟩
   ·obtain rfl := zb hf0
    exact yE X0 hC hE (Z1 ++ [Hq c2])
   ·rcases zD hf0 with ⟨c3, hf0⟩ | ⟨c3, hf0⟩
    ·obtain rfl := zb hf0
     exact yE X0 hC hE (Z1 ++ (Hq c2 :: (rpN 4 (Hq c3) (rpN 6 qT []))))
    ·let Z2 : List HO := (Z1 ++ (Hq c2 :: (rpN 4 (Hq c3) [])))
     rcases zD hf0 with ⟨c4, hf0⟩ | ⟨c4, hf0⟩
     ·obtain rfl := zb hf0
      exact yE X0 hC hE (Z2 ++ (rpN 5 (Hq c4) [qT]))
     ·let Z3 : List HO := (Z2 ++ [Hq c4, Hq c4, Hq c4, Ha (lnM zP m_.Rows), Hq c4, Hq c4])
      rcases zD hf0 with ⟨c5, hf0⟩ | ⟨c5, hf0⟩
      ·obtain rfl := zb hf0
       exact yE X0 hC hE (Z3 ++ [Hq c5])
      ·refine yJ X0 hC jw [1,1,1] [] [] (fun z : Unit => jr = some r0) (fun z => W5) [(1, .own (.box (zl m_)))] (Z3 ++ [Hq c5, Hh (.cut 0)]) ?_ fun J1 hJ1 => ?_
       ·rintro ⟨⟩ hf0
        unfold jr at hf0
        obtain rfl := zb hf0
        exact yE X0 hC hE []
       ·obtain ⟨t2, ht2, hf0⟩ := ze hf0
        refine yL X0 hC jw [1,1,1,2,1,0] [J1] (fun s => xP m_ s) (fun x => W4 m_ x) 0 ht2  [Ha (lnM zP m_.Rows), Hh (.n 1 [1])] ?_
        rintro x36 m2 lr1 hf1 hl1 J2 hJ2
        try unfold xP at hf1
        rcases zD hf1 with ⟨c6, hf1⟩ | ⟨c6, hf1⟩
        ·obtain ⟨Row_e, h0, hf1⟩ := ze hf1
         let Z4 : List HO := [Hq c6, Hi zP h0, Ha (lnM F7_ Row_e)]
         rcases zD hf1 with ⟨c7, hf1⟩ | ⟨c7, hf1⟩
         ·obtain rfl := zb hf1
          obtain rfl := hl1
          obtain rfl := zb hf0
          exact yE X0 hC hE (Z4 ++ (rpN 4 (Hq c7) [qT]))
         ·obtain ⟨r_, h1, hf1⟩ := ze hf1
          let Z5 : List HO := (Z4 ++ [Hq c7, Hq c7, Hq c7, Hc h0C (x := (Row_e, m_)) h1 (loC zP Row_e <| loC (z6a 106 z6J) m_ <| loN), Hq c7])
          rcases zD hf1 with ⟨c8, hf1⟩ | ⟨c8, hf1⟩
          ·obtain rfl := zb hf1
           obtain rfl := hl1
           obtain rfl := zb hf0
           exact yE X0 hC hE (Z5 ++ [Hq c8])
          ·obtain rfl := zb hf1
           exact yB X0 hC hJ2 (w64 (x36 + 1)) hl1 (Z5 ++ [Hq c8])
        ·obtain rfl := zb hf1
         obtain rfl := hl1
         exact yB X0 hC hJ1 () hf0 [Hq c6]
def qg : Code := (Try.f95.body).getD .skip
def qb : yj := spF (α := List Int) (ρ := Int) 95 (fun x => [F2_ x]) (fun r => (eI .i64) r) (fun x => vo x) [] (z1T)
abbrev Xe : List (Nat × T) := [(3, .d (I 0))]
abbrev Xd (vals : List Int) (x8 : Int) : List (Nat × T) := [(3, .d (I 0)), (6, .d (eSl 1 false (eI .i64) vals)), (7, .d (I ((vals.length : Nat) : Int))), (8, .d (I x8))]
theorem V0 {ctr : Ctr} (hC : zM Try.prog ctr) : qb.Ok Try.prog := by
 refine zV ?_
 rintro vals r0 hf0
 try unfold vo at hf0
 refine yO true [(2, none)] qg 18 Try.func95 fun E hE => ?_
 refine yJ X0 hC qg [1,1] [] [3] (fun z : Unit => vd = some r0) (fun z => Xe) [(0, .d (eSl 1 false (eI .i64) vals)), (3, .d (I 0))] [Hh (.cut 2)] ?_ fun J1 hJ1 => ?_
 ·rintro ⟨⟩ hf0
  unfold vd at hf0
  obtain rfl := zb hf0
  exact yE X0 hC hE []
 ·obtain ⟨t2, ht2, hf0⟩ := ze hf0
  refine yL X0 hC qg [1,1,2,1,0] [J1] (fun s => w8 vals s) (fun x => Xd vals x) 0 ht2  [Ha (lnM (eI .i64) vals)] ?_
  rintro x8 m2 lr1 hf1 hl1 J2 hJ2
  try unfold w8 at hf1
  rcases zD hf1 with ⟨c0, hf1⟩ | ⟨c0, hf1⟩
  ·obtain ⟨val_e, h0, hf1⟩ := ze hf1
   rcases zD hf1 with ⟨c1, hf1⟩ | ⟨c1, hf1⟩
   ·obtain rfl := zb hf1
    obtain rfl := hl1
    obtain rfl := zb hf0
    exact yE X0 hC hE [Hq c0, Hi (eI .i64) h0, Hq c1]
   ·obtain rfl := zb hf1
    exact yB X0 hC hJ2 (w64 (x8 + 1)) hl1 [Hq c0, Hi (eI .i64) h0, Hq c1]
  ·obtain rfl := zb hf1
   obtain rfl := hl1
   exact yB X0 hC hJ1 () hf0 [Hq c0]
def Wh : Code := (Try.f70.body).getD .skip
def uA : yj := spF (α := z6 × z6) (ρ := Int) 70 (fun x => [zl x.1, zl x.2]) (fun r => (eI .i64) r) (fun x => qe x.1 x.2) [] (Wf)
abbrev UV (e_ : Int) : List (Nat × T) := [(5, .d (I e_))]
theorem z0r {ctr : Ctr} (hC : zM Try.prog ctr) (h0l : ctr.Has jo) (h0m : ctr.Has qb) : uA.Ok Try.prog := by
 refine zV ?_
 rintro ⟨a_, b_⟩ r0 hf0
 try unfold qe at hf0
 refine yO true [(4, none)] Wh 22 Try.func70 fun E hE => ?_
 obtain ⟨r_, h0, hf0⟩ := ze hf0
 obtain ⟨r_1, h1, hf0⟩ := ze hf0
 obtain ⟨r_2, h2, hf0⟩ := ze hf0
 refine yJ X0 hC Wh [1,1] [] [5] (fun z : Int => vB z = some r0) (fun z => UV z) [(2, .own (.box (zl a_))), (3, .own (.box (zl b_))), (5, .d (I r_2))] [Hc h0l (x := a_) h0 (loC zl a_ <| loN), Hc h0l (x := b_) h1 (loC zl b_ <| loN), Hg (Qd h0m), Hm (shM (eI .i64) (eI .i64) ([r_, r_1])), Hs (Qe h0m (x := [r_, r_1]) h2 (loC F1_ ([r_, r_1] : List Int) <| loN)), Hh (.cut 0)] ?_ fun J1 hJ1 => ?_
 ·rintro e_ hf0
  unfold vB at hf0
  obtain rfl := zb hf0
  exact yE X0 hC hE []
 ·rcases zD hf0 with ⟨c0, hf0⟩ | ⟨c0, hf0⟩
  ·let Z0 : List HO := (rpN 6 (Hq c0) [])
   rcases zD hf0 with ⟨c1, hf0⟩ | ⟨c1, hf0⟩
   ·exact yB X0 hC hJ1 5 hf0 (Z0 ++ [Hq c1])
   ·exact yB X0 hC hJ1 r_2 hf0 (Z0 ++ [Hq c1])
  ·exact yB X0 hC hJ1 r_2 hf0 (rpN 6 (Hq c0) [qF])
def Kb : Code := (Try.f96.body).getD .skip
def kQ : yj := spF (α := z6 × z6) (ρ := z6 × z6) 96 (fun x => [zl x.1, zl x.2]) (fun r => (zeO 117 z6J z6J) r) (fun x => ZD x.1 x.2) [] (Wf)
theorem Kx {ctr : Ctr} (hC : zM Try.prog ctr) : kQ.Ok Try.prog := by
 refine zV ?_
 rintro ⟨a_, b_⟩ r0 hf0
 try unfold ZD at hf0
 refine yO true [(4, none)] Kb 6 Try.func96 fun E hE => ?_
 obtain rfl := zb hf0
 exact yEx X0 hC hE [] (.fn 117 [.sptr (.agg [I a_.Inputs, I a_.Outputs, eSl 1 false zP a_.Rows]), .sptr (.agg [I b_.Inputs, I b_.Outputs, eSl 1 false zP b_.Rows])]) (show LeV (.fn 117 [.sptr (.agg [I a_.Inputs, I a_.Outputs, eSl 1 false zP a_.Rows]), .sptr (.agg [I b_.Inputs, I b_.Outputs, eSl 1 false zP b_.Rows])]) (.fn 117 [.sptr (.agg [I (((a_, b_).1).Inputs), I (((a_, b_).1).Outputs), eSl 1 false zP (((a_, b_).1).Rows)]), .sptr (.agg [I (((a_, b_).2).Inputs), I (((a_, b_).2).Outputs), eSl 1 false zP (((a_, b_).2).Rows)])]) from inferInstance)
def yg : Code := (Try.f117.body).getD .skip
abbrev W9 {σ : Type} (x0 : z6) (x1 : z6) (YY : σ → z4e) (at_ : Int) (sg2 : σ) (seen1 : List ((zh Int) × Bool)) (l_1 : List za) : List (Nat × T) := [(0, .own (.opq (YY sg2).q)), (1, .d (.sptr (zl x0))), (2, .d (.sptr (zl x1))), (4, .own (.opq (ZC (q9 F0_ eB seen1)))), (5, .own (eOs 4 false XN l_1)), (6, .d (I at_))]
abbrev W8 {σ : Type} (x0 : z6) (x1 : z6) (YY : σ → z4e) (at_ : Int) (l__e : za) (l__e1 : za) (x38 : Int) (sg4 : σ) (seen3 : List ((zh Int) × Bool)) (l_3 : List za) : List (Nat × T) := [(0, .own (.opq (YY sg4).q)), (1, .d (.sptr (zl x0))), (2, .d (.sptr (zl x1))), (4, .own (.opq (ZC (q9 F0_ eB seen3)))), (5, .own (eOs 4 false XN l_3)), (6, .d (I at_)), (7, .d (I l__e.pair_.e0)), (8, .d (I l__e1.pair_.e1)), (37, .d (I x0.Inputs)), (38, .d (I x38))]
abbrev W6 {σ : Type} (x0 : z6) (x1 : z6) (YY : σ → z4e) (at_ : Int) (l__e : za) (l__e1 : za) (sg3 : σ) (seen2 : List ((zh Int) × Bool)) (l_2 : List za) (x38 : Int) : List (Nat × T) := [(0, .own (.opq (YY sg3).q)), (1, .d (.sptr (zl x0))), (2, .d (.sptr (zl x1))), (4, .own (.opq (ZC (q9 F0_ eB seen2)))), (5, .own (eOs 4 false XN l_2)), (6, .d (I at_)), (7, .d (I l__e.pair_.e0)), (8, .d (I l__e1.pair_.e1)), (37, .d (I x0.Inputs)), (38, .d (I x38))]
abbrev W7 {σ : Type} (x0 : z6) (x1 : z6) (YY : σ → z4e) (sg1 : σ) (seen : List ((zh Int) × Bool)) (l_ : List za) (at_ : Int) : List (Nat × T) := [(0, .own (.opq (YY sg1).q)), (1, .d (.sptr (zl x0))), (2, .d (.sptr (zl x1))), (4, .own (.opq (ZC (q9 F0_ eB seen)))), (5, .own (eOs 4 false XN l_)), (6, .d (I at_))]
theorem Q9 {ctr : Ctr} (hC : zM Try.prog ctr) (x0 : z6) (x1 : z6) : z8g Try.prog (.fn 117 [.sptr (.agg [I x0.Inputs, I x0.Outputs, eSl 1 false zP x0.Rows]), .sptr (.agg [I x1.Inputs, I x1.Outputs, eSl 1 false zP x1.Rows])]) (fun (x : zR × List za) (bb : Bool) (vv : Value) => [z4O x.1, bif bb then .atom vv else z8h x.2]) (@uJ x0 x1) := by
 refine z9V (tt := x9) (nt := 95) (body := yg) xg Try.func117 rfl (by kernel_rfl) rfl rfl (by show (3 : Nat) ≤ 95; decide) ?_
 intro σ yv YY yy hy sg r0 hf0 E hE
 unfold uJ at hf0
 obtain ⟨t1, ht1, hf0⟩ := ze hf0
 refine yLx ((zcT JR 13 (q9 F0_ eB ([] : List ((zh Int) × Bool))) (q9 F0_ eB (KC ([] : List ((zh Int) × Bool)) (zh.mk 0 0) true))).or ((zaw Try.prog 13).or X0)) hC yg [1,1,1,0] [] (fun s => wZ x0 x1 yy s.1 s.2.1 s.2.2.1 s.2.2.2) (fun x => W7 x0 x1 YY x.1 x.2.1 x.2.2.1 x.2.2.2) (sg, (KC ([] : List ((zh Int) × Bool)) (zh.mk 0 0) true), ([(za.mk (zh.mk 0 0) (-1) 0)] : List za), 0) ht1 [(0, .own (.opq (YY sg).q)), (1, .d (.sptr (zl x0))), (2, .d (.sptr (zl x1))), (4, .own (.opq (ZC (q9 F0_ eB (KC ([] : List ((zh Int) × Bool)) (zh.mk 0 0) true))))), (5, .own (eOs 4 true XN ([(za.mk (zh.mk 0 0) (-1) 0)]))), (6, .d (I 0))] inferInstance [Hn (⟨rfl, rfl, rfl, rfl, z07 (fun _ => rfl) ([] : List ((zh Int) × Bool))⟩ : T.own (.opq (ZC (q9 F0_ eB ([] : List ((zh Int) × Bool))))) = T.own (.opq (ZC (q9 F0_ eB ([] : List ((zh Int) × Bool))))) ∧ 1 = 1 ∧ (Xp [.i64, .i64]) (F0_ (zh.mk 0 0)) = true ∧ (eB true).isD = true ∧ ∀ p ∈ q9 F0_ eB ([] : List ((zh Int) × Bool)), (Xp [.i64, .i64]) p.1 = true), Hn (z2H (f := F0_) (g := eB) (zh.mk 0 0) true ([] : List ((zh Int) × Bool)))] ?_
 rintro ⟨sg1, seen, l_, at_⟩ m1 lr1 hf1 hl1 J1 hJ1
 try unfold wZ at hf1
 let Z0 : List HO := [Ha (lnM XN l_)]
 rcases zD hf1 with ⟨c0, hf1⟩ | ⟨c0, hf1⟩
 ·refine yJ X0 hC yg [1,1,1,0,0,1] [J1] [0,1,2,4,5,6] (fun z : σ × (List ((zh Int) × Bool)) × List za => uq at_ z.1 z.2.1 z.2.2 = some lr1) (fun z => W9 x0 x1 YY at_ z.1 z.2.1 z.2.2) [(0, .own (.opq (YY sg1).q)), (1, .d (.sptr (zl x0))), (2, .d (.sptr (zl x1))), (4, .own (.opq (ZC (q9 F0_ eB seen)))), (5, .own (eOs 4 false XN l_)), (6, .d (I at_))] (Z0 ++ [Hq c0, Hh (.cut 0)]) ?_ fun J2 hJ2 => ?_
  ·rintro ⟨sg2, seen1, l_1⟩ hf1
   unfold uq at hf1
   obtain rfl := zb hf1
   exact yB X0 hC hJ1 (sg2, seen1, l_1, w64 (at_ + 1)) hl1 []
  ·obtain ⟨l__e, h0, hf1⟩ := ze hf1
   obtain ⟨l__e1, h1, hf1⟩ := ze hf1
   obtain ⟨t3, ht3, hf1⟩ := ze hf1
   refine yL X0 hC yg [1,1,1,0,0,1,2,0,1,1,0] [J1, J2] (fun s => wY x0 x1 yy at_ l__e l__e1 s.1 s.2.1 s.2.2.1 s.2.2.2) (fun x => W6 x0 x1 YY at_ l__e l__e1 x.1 x.2.1 x.2.2.1 x.2.2.2) (sg1, seen, l_, 0) ht3  [Hn (iL XN h0), Hs (iM XN h0), Hs (iM XN h0), Hn (⟨rfl, by decide⟩ : true = true ∧ 0 < 2), Hs (iM XN h0), Hn (iL XN h1), Hs (iM XN h1), Hs (iM XN h1), Hn (⟨rfl, by decide⟩ : true = true ∧ 1 < 2), Hs (iM XN h1)] ?_
   rintro ⟨sg3, seen2, l_2, x38⟩ m3 lr2 hf2 hl2 J3 hJ3
   try unfold wY at hf2
   rcases zD hf2 with ⟨c1, hf2⟩ | ⟨c1, hf2⟩
   ·refine yJ X0 hC yg [1,1,1,0,0,1,2,0,1,1,0,0,1,1] [J1, J2, J3] [0,1,2,4,5,6,7,8,37,38] (fun z : σ × (List ((zh Int) × Bool)) × List za => ym x38 z.1 z.2.1 z.2.2 = some lr2) (fun z => W8 x0 x1 YY at_ l__e l__e1 x38 z.1 z.2.1 z.2.2) [(0, .own (.opq (YY sg3).q)), (1, .d (.sptr (zl x0))), (2, .d (.sptr (zl x1))), (4, .own (.opq (ZC (q9 F0_ eB seen2)))), (5, .own (eOs 4 false XN l_2)), (6, .d (I at_)), (7, .d (I l__e.pair_.e0)), (8, .d (I l__e1.pair_.e1)), (37, .d (I x0.Inputs)), (38, .d (I x38))] [Hq c1, Hh (.cut 0)] ?_ fun J4 hJ4 => ?_
    ·rintro ⟨sg4, seen3, l_3⟩ hf2
     unfold ym at hf2
     obtain rfl := zb hf2
     exact yB X0 hC hJ3 (sg4, seen3, l_3, w64 (x38 + 1)) hl2 []
    ·obtain ⟨Row_e, h2, hf2⟩ := ze hf2
     obtain ⟨Row_e_e, h3, hf2⟩ := ze hf2
     obtain ⟨Row_e1, h4, hf2⟩ := ze hf2
     obtain ⟨Row_e_e1, h5, hf2⟩ := ze hf2
     refine yA X0 hC yg [1,1,1,0,0,1,2,0,1,1,0,0,1,1,2,0,1,1,0] [J1, J2, J3, J4] [(0, .own (.opq (YY sg3).q)), (1, .d (.sptr (zl x0))), (2, .d (.sptr (zl x1))), (4, .own (.opq (ZC (q9 F0_ eB seen2)))), (5, .own (eOs 4 false XN l_2)), (6, .d (I at_)), (7, .d (I l__e.pair_.e0)), (8, .d (I l__e1.pair_.e1)), (9, .d (I x38)), (10, .own (.box (F7_ Row_e_e))), (11, .own (.box (F7_ Row_e_e1))), (37, .d (I x0.Inputs)), (38, .d (I x38))] [Hi zP h2, Hi F7_ h3, Hi zP h4, Hi F7_ h5, Hh (.cut 1)] ?_
     obtain ⟨yr, h6, hf2⟩ := ze hf2
     rcases zD hf2 with ⟨c2, hf2⟩ | ⟨c2, hf2⟩
     ·refine z6m (by kernel_rfl) (x := (sub [1,1,1,0,0,1,2,0,1,1,0,0,1,1,2,0,1,1,0,0] yg)) (y := (sub [1,1,1,0,0,1,2,0,1,1,0,0,1,1,2,0,1,1,0,1] yg)) 5 (fun st1 => Own.canon [0,1,2,4,5,6,7,8,9,10,11,37,38,65] st1 = ofL [(0, .own (.opq (YY yr.1).q)), (1, .d (.sptr (zl x0))), (2, .d (.sptr (zl x1))), (4, .own (.opq (ZC (q9 F0_ eB seen2)))), (5, .own (eOs 4 false XN l_2)), (6, .d (I at_)), (7, .d (I l__e.pair_.e0)), (8, .d (I l__e1.pair_.e1)), (9, .d (I x38)), (10, .own (.box (F7_ Row_e_e))), (11, .own (.box (F7_ Row_e_e1))), (37, .d (I x0.Inputs)), (38, .d (I x38)), (65, .d (B (!true)))]) (fun pv5 => yF ((z8l (P := Try.prog) x9 hy 64 (s := sg3) (x := ((zR.mk at_ x38 Row_e_e Row_e_e1), l_2)) (s' := yr.1) (b := true) (pv5) (yrE h6 c2)).or X0) hC .normal [(0, .own (.opq (YY yr.1).q)), (1, .d (.sptr (zl x0))), (2, .d (.sptr (zl x1))), (4, .own (.opq (ZC (q9 F0_ eB seen2)))), (5, .own (eOs 4 false XN l_2)), (6, .d (I at_)), (7, .d (I l__e.pair_.e0)), (8, .d (I l__e1.pair_.e1)), (9, .d (I x38)), (10, .own (.box (F7_ Row_e_e))), (11, .own (.box (F7_ Row_e_e1))), (37, .d (I x0.Inputs)), (38, .d (I x38)), (65, .d (B (!true)))] [Hn (z4Y (yv := yv) (Y := YY) (enc := (fun (x : zR × List za) (bb : Bool) (vv : Value) => [z4O x.1, bif bb then .atom vv else z8h x.2])) (s := sg3) (x := ((zR.mk at_ x38 Row_e_e Row_e_e1), l_2)) (s' := yr.1) (b := true) (v := pv5) [z4O (zR.mk at_ x38 Row_e_e Row_e_e1), .atom pv5] (show z2i [z4O (zR.mk at_ x38 Row_e_e Row_e_e1), .atom pv5] [z4O (zR.mk at_ x38 Row_e_e Row_e_e1), .atom pv5] from inferInstance))] fun st0 h0 => ⟨rfl, h0⟩) fun st1 h1 => z6n h1 ?_
      let Z1 : List HO := [Hq (congrArg Bool.not (Eq.refl true))]
      rcases zD hf2 with ⟨c3, hf2⟩ | ⟨c3, hf2⟩
      ·let Z2 : List HO := (Z1 ++ (rpN 4 (Hq c3) []))
       rcases zD hf2 with ⟨c4, hf2⟩ | ⟨c4, hf2⟩
       ·obtain ⟨val, h7, hf2⟩ := ze hf2
        replace h7 := zb h7
        let Z3 : List HO := (Z2 ++ [Hq c4, Hq c4, Hq c4, Hn (⟨rfl, rfl, z07 (fun _ => rfl) seen2⟩ : A.opq (ZC (q9 F0_ eB seen2)) = A.opq (ZC (q9 F0_ eB seen2)) ∧ (Xp [.i64, .i64]) (F0_ (zh.mk Row_e_e.To Row_e_e1.To)) = true ∧ ∀ p ∈ q9 F0_ eB seen2, (Xp [.i64, .i64]) p.1 = true), Hx (.a (eB val)) ((zdi (f := F0_) (g := eB) (z0 := false) (z := .atom (.bool false)) rfl (zh.mk Row_e_e.To Row_e_e1.To) seen2).trans (congrArg eB h7)), Hq c4, Hq c4])
        rcases zD hf2 with ⟨c5, hf2⟩ | ⟨c5, hf2⟩
        ·obtain ⟨g0, hf2⟩ := gdE hf2
         exact yB ((zcT JR 85 (q9 F0_ eB seen2) (q9 F0_ eB (KC seen2 (zh.mk Row_e_e.To Row_e_e1.To) true))).or ((z6M JR 82 (q9 F0_ eB seen2)).or X0)) hC hJ4 (yr.1, (KC seen2 (zh.mk Row_e_e.To Row_e_e1.To) true), (l_2 ++ ([(za.mk (zh.mk Row_e_e.To Row_e_e1.To) at_ x38)] : List za))) hf2 (Z3 ++ [Hq c5, Hn (⟨rfl, rfl, rfl, rfl, z07 (fun _ => rfl) seen2⟩ : T.own (.opq (ZC (q9 F0_ eB seen2))) = T.own (.opq (ZC (q9 F0_ eB seen2))) ∧ 0 = 0 ∧ (Xp [.i64, .i64]) (F0_ (zh.mk Row_e_e.To Row_e_e1.To)) = true ∧ (eB true).isD = true ∧ ∀ p ∈ q9 F0_ eB seen2, (Xp [.i64, .i64]) p.1 = true), Hn (z2H (f := F0_) (g := eB) (zh.mk Row_e_e.To Row_e_e1.To) true seen2), Hq (dM XN ([(za.mk (zh.mk Row_e_e.To Row_e_e1.To) at_ x38)] : List za)), Hn (dM XN ([(za.mk (zh.mk Row_e_e.To Row_e_e1.To) at_ x38)] : List za)), Hn (aL XN XN g0), Hl (aM XN l_2 ([(za.mk (zh.mk Row_e_e.To Row_e_e1.To) at_ x38)] : List za))])
        ·exact yB ((z6M JR 82 (q9 F0_ eB seen2)).or X0) hC hJ4 (yr.1, seen2, l_2) hf2 (Z3 ++ [Hq c5])
       ·exact yB X0 hC hJ4 (yr.1, seen2, l_2) hf2 (Z2 ++ (rpN 5 (Hq c4) [qF]))
      ·exact yB X0 hC hJ4 (yr.1, seen2, l_2) hf2 (Z1 ++ (rpN 4 (Hq c3) (rpN 6 qF [])))
     ·refine z6l (by kernel_rfl) (x := (sub [1,1,1,0,0,1,2,0,1,1,0,0,1,1,2,0,1,1,0,0] yg)) (y := (sub [1,1,1,0,0,1,2,0,1,1,0,0,1,1,2,0,1,1,0,1] yg)) (fun st1 => Own.canon [0,1,2,4,5,6,7,8,9,10,11,37,38,65] st1 = ofL [(0, .own (.opq (YY yr.1).q)), (1, .d (.sptr (zl x0))), (2, .d (.sptr (zl x1))), (4, .own (.opq (ZC (q9 F0_ eB seen2)))), (5, .d (eSl 4 false XN l_2)), (6, .d (I at_)), (7, .d (I l__e.pair_.e0)), (8, .d (I l__e1.pair_.e1)), (9, .d (I x38)), (10, .own (.box (F7_ Row_e_e))), (11, .own (.box (F7_ Row_e_e1))), (37, .d (I x0.Inputs)), (38, .d (I x38)), (65, .d (B (!false)))]) (yF ((z8l (P := Try.prog) x9 hy 64 (s := sg3) (x := ((zR.mk at_ x38 Row_e_e Row_e_e1), l_2)) (s' := yr.1) (b := false) (.nilFunc) (yrE h6 c2)).or X0) hC .normal [(0, .own (.opq (YY yr.1).q)), (1, .d (.sptr (zl x0))), (2, .d (.sptr (zl x1))), (4, .own (.opq (ZC (q9 F0_ eB seen2)))), (5, .d (eSl 4 false XN l_2)), (6, .d (I at_)), (7, .d (I l__e.pair_.e0)), (8, .d (I l__e1.pair_.e1)), (9, .d (I x38)), (10, .own (.box (F7_ Row_e_e))), (11, .own (.box (F7_ Row_e_e1))), (37, .d (I x0.Inputs)), (38, .d (I x38)), (65, .d (B (!false)))] [Hm (shM XN XN l_2), Hn (z4Y (yv := yv) (Y := YY) (enc := (fun (x : zR × List za) (bb : Bool) (vv : Value) => [z4O x.1, bif bb then .atom vv else z8h x.2])) (s := sg3) (x := ((zR.mk at_ x38 Row_e_e Row_e_e1), l_2)) (s' := yr.1) (b := false) (v := .nilFunc) [z4O (zR.mk at_ x38 Row_e_e Row_e_e1), z8h l_2] (show z2i [z4O (zR.mk at_ x38 Row_e_e Row_e_e1), z8h l_2] [z4O (zR.mk at_ x38 Row_e_e Row_e_e1), z8h l_2] from inferInstance))] fun st0 h0 => ⟨rfl, h0⟩) fun st1 h1 => z6n h1 ?_
      obtain rfl := zb hf2
      obtain rfl := hl2
      obtain rfl := zb hf1
      obtain rfl := hl1
      obtain rfl := zb hf0
      exact yF X0 hC .ret [(0, .own (.opq (YY yr.1).q))] [Hq (congrArg Bool.not (Eq.refl false))] fun st0 h0 => hE _ st0 (.inr rfl) h0
   ·obtain rfl := zb hf2
    obtain rfl := hl2
    exact yB X0 hC hJ2 (sg3, seen2, l_2) hf1 [Hq c1]
 ·obtain rfl := zb hf1
  obtain rfl := hl1
  obtain rfl := zb hf0
  exact yF X0 hC .normal [(0, .own (.opq (YY sg1).q))] (Z0 ++ [Hq c0]) fun st0 h0 => hE _ st0 (.inl rfl) h0
def Xc : Code := (Try.f54.body).getD .skip
def vF : yj := spF (α := List Int) (ρ := List Int) 54 (fun x => [F2_ x]) (fun r => F1_ r) (fun x => xS x) [] (z1T)
theorem Xh {ctr : Ctr} (hC : zM Try.prog ctr) : vF.Ok Try.prog := by
 refine zV ?_
 rintro s_ r0 hf0
 try unfold xS at hf0
 refine yO true [(2, none)] Xc 9 Try.func54 fun E hE => ?_
 obtain ⟨g0, hf0⟩ := gdE hf0
 obtain rfl := zb hf0
 exact yE X0 hC hE [Ha (lnM (eI .i64) s_), Ha (lnM (eI .i64) s_), Hn (slB g0), Hn (slC g0), Hn (zaS (eI .i64) g0), Ha (ze9 1 (eI .i64) s_ 0 ((s_.length : Nat) : Int).toNat)]
def ZY : Code := (Try.f97.body).getD .skip
def ZP : yj := spF (α := List za × Int × List Int) (ρ := List Int) 97 (fun x => [z8h x.1, (eI .i64) x.2.1, F2_ x.2.2]) (fun r => F1_ r) (fun x => Zc x.1 x.2.1 x.2.2) [] (z8J)
abbrev UU (more1 : List Int) : List (Nat × T) := [(2, .d (eSl 1 false (eI .i64) more1))]
abbrev UT (l_ : List za) (at_1 : Int) (more2 : List Int) : List (Nat × T) := [(0, .d (eSl 4 false XN l_)), (1, .d (I at_1)), (2, .d (eSl 1 false (eI .i64) more2))]
theorem z0q {ctr : Ctr} (hC : zM Try.prog ctr) (h0D : ctr.Has vF) : ZP.Ok Try.prog := by
 refine zV ?_
 rintro ⟨l_, at_, more⟩ r0 hf0
 try unfold Zc at hf0
 refine yO true [(6, none)] ZY 28 Try.func97 fun E hE => ?_
 refine yJ X0 hC ZY [1] [] [2] (fun z : List Int => jG z = some r0) (fun z => UU z) [(0, .d (eSl 4 false XN l_)), (1, .d (I at_)), (2, .d (eSl 1 false (eI .i64) more))] [Hh (.cut 1)] ?_ fun J1 hJ1 => ?_
 ·rintro more1 hf0
  unfold jG at hf0
  obtain ⟨r_, h0, hf0⟩ := ze hf0
  obtain rfl := zb hf0
  exact yE X0 hC hE [Hc h0D (x := more1) h0 (loC F2_ more1 <| loN)]
 ·obtain ⟨t2, ht2, hf0⟩ := ze hf0
  refine yL X0 hC ZY [1,2,0] [J1] (fun s => uI l_ s.1 s.2) (fun x => UT l_ x.1 x.2) (at_, more) ht2  [] ?_
  rintro ⟨at_1, more2⟩ m2 lr1 hf1 hl1 J2 hJ2
  try unfold uI at hf1
  obtain ⟨l__e, h1, hf1⟩ := ze hf1
  let Z0 : List HO := [Hi XN h1]
  rcases zD hf1 with ⟨c0, hf1⟩ | ⟨c0, hf1⟩
  ·obtain ⟨l__e1, h2, hf1⟩ := ze hf1
   obtain ⟨g0, hf1⟩ := gdE hf1
   obtain ⟨l__e2, h3, hf1⟩ := ze hf1
   obtain rfl := zb hf1
   exact yB X0 hC hJ2 (l__e2.from_, (([l__e1.input_]) ++ more2)) hl1 (Z0 ++ [Hq c0, Hi XN h2, Hn (dM (eI .i64) more2), Hn (aL (eI .i64) (eI .i64) g0), Hl (aM (eI .i64) ([l__e1.input_] : List Int) more2), Hh (.n 0 [2]), Hm (shM (eI .i64) (eI .i64) (([l__e1.input_]) ++ more2)), Hi XN h3])
  ·obtain rfl := zb hf1
   obtain rfl := hl1
   exact yB X0 hC hJ1 more2 hf0 (Z0 ++ [Hq c0])
def w9 : Code := (Try.f118.body).getD .skip
def xR : yj := spF (α := List (zh Int) × zh Int) (ρ := Int) 118 (fun x => [F6_ x.1, F0_ x.2]) (fun r => (eI .i64) r) (fun x => xw x.1 x.2) [] (Wf)
abbrev jS : List (Nat × T) := []
abbrev jR (s_ : List (zh Int)) (v_ : zh Int) (x8 : Int) : List (Nat × T) := [(0, .d (eSl 2 false F0_ s_)), (3, .own (.box (F0_ v_))), (7, .d (I ((s_.length : Nat) : Int))), (8, .d (I x8))]
theorem Zh {ctr : Ctr} (hC : zM Try.prog ctr) : xR.Ok Try.prog := by
 refine zV ?_
 rintro ⟨s_, v_⟩ r0 hf0
 try unfold xw at hf0
 refine yO true [(4, none)] w9 19 Try.func118 fun E hE => ?_
 refine yJ X0 hC w9 [1] [] [] (fun z : Unit => yX = some r0) (fun z => jS) [(0, .d (eSl 2 false F0_ s_)), (3, .own (.box (F0_ v_)))] [Hh (.cut 1)] ?_ fun J1 hJ1 => ?_
 ·rintro ⟨⟩ hf0
  unfold yX at hf0
  obtain rfl := zb hf0
  exact yE X0 hC hE []
 ·obtain ⟨t2, ht2, hf0⟩ := ze hf0
  refine yL X0 hC w9 [1,2,1,0] [J1] (fun s => y8 s_ v_ s) (fun x => jR s_ v_ x) 0 ht2  [Ha (lnM F0_ s_)] ?_
  rintro x8 m2 lr1 hf1 hl1 J2 hJ2
  try unfold y8 at hf1
  rcases zD hf1 with ⟨c0, hf1⟩ | ⟨c0, hf1⟩
  ·obtain ⟨s__e, h0, hf1⟩ := ze hf1
   let Z0 : List HO := [Hq c0, Hi F0_ h0]
   rcases zD hf1 with ⟨c1, hf1⟩ | ⟨c1, hf1⟩
   ·obtain rfl := zb hf1
    obtain rfl := hl1
    obtain rfl := zb hf0
    exact yE X0 hC hE (Z0 ++ [Hq c1])
   ·obtain rfl := zb hf1
    exact yB X0 hC hJ2 (w64 (x8 + 1)) hl1 (Z0 ++ [Hq c1])
  ·obtain rfl := zb hf1
   obtain rfl := hl1
   exact yB X0 hC hJ1 () hf0 [Hq c0]
def jP : Code := (Try.f98.body).getD .skip
def xl : yj := spF (α := List (zh Int) × zh Int) (ρ := Bool) 98 (fun x => [F6_ x.1, F0_ x.2]) (fun r => eB r) (fun x => yk x.1 x.2) [] (Wf)
theorem jU {ctr : Ctr} (hC : zM Try.prog ctr) (h0E : ctr.Has xR) : xl.Ok Try.prog := by
 refine zV ?_
 rintro ⟨s_, v_⟩ r0 hf0
 try unfold yk at hf0
 refine yO true [(4, none)] jP 9 Try.func98 fun E hE => ?_
 obtain ⟨r_, h0, hf0⟩ := ze hf0
 obtain rfl := zb hf0
 exact yE X0 hC hE [Hc h0E (x := (s_, v_)) h0 (loC F6_ s_ <| loC F0_ v_ <| loN)]
def wo : Code := (Try.f71.body).getD .skip
def uL : yj := spF (α := z6 × z6) (ρ := List Int × List (zh Int)) 71 (fun x => [zl x.1, zl x.2]) (fun r => .opq (Qa [some (F1_ r.1), some ((eOs 2 false F0_) r.2)])) (fun x => ur x.1 x.2) [] (Wf)
abbrev WX (x4 : List Int) (pairs : List (zh Int)) : List (Nat × T) := [(4, .own (.box (eSl 1 true (eI .i64) x4))), (5, .own (.box (eOs 2 true F0_ []))), (6, .own (.box (eOs 2 false F0_ pairs)))]
abbrev xi (r_ : z6 × z6) (x41 : List Int) (pairs1 : List (zh Int)) : List (Nat × T) := [(4, .own (.box (eSl 1 true (eI .i64) x41))), (5, .own (.box (eOs 2 true F0_ []))), (6, .own (.box (eOs 2 false F0_ pairs1))), (14, .d (.fn 117 [.sptr (.agg [I r_.1.Inputs, I r_.1.Outputs, eSl 1 false zP r_.1.Rows]), .sptr (.agg [I r_.2.Inputs, I r_.2.Outputs, eSl 1 false zP r_.2.Rows])]))]
theorem Jf {ctr : Ctr} (hC : zM Try.prog ctr) (h0F : ctr.Has kQ) (h0n : ctr.Has ZP) (h0e : ctr.Has xl) : uL.Ok Try.prog := by
 refine zV ?_
 rintro ⟨a_, b_⟩ r0 hf0
 try unfold ur at hf0
 refine z42 (tt := x9) (rs := [(false, 4, some 45), (true, 5, some 89)]) (n := ⟨53, []⟩) (body := wo) xg Try.func71 rfl (by kernel_rfl) rfl rfl (by show (2 : Nat) ≤ 53; decide) fun E hE => ?_
 refine yJ X0 hC wo [1,1] [] [4,5,6] (fun z : List Int × List (zh Int) => q0 z.1 z.2 = some r0) (fun z => WX z.1 z.2) [(2, .own (.box (zl a_))), (3, .own (.box (zl b_))), (4, .own (.box (eSl 1 true (eI .i64) []))), (5, .own (.box (eOs 2 true F0_ []))), (6, .own (.box (eOs 2 true F0_ ([(zh.mk 0 0)]))))] [Hh (.v 2 [4]), Hm (shM (eI .i64) (eI .i64) []), Hh (.cut 1)] ?_ fun J1 hJ1 => ?_
 ·rintro ⟨x4, pairs⟩ hf0
  unfold q0 at hf0
  obtain rfl := zb hf0
  let ZE : List HO := [Hm (shM (eI .i64) (eI .i64) [])]
  exact z34 X0 xg hC Y1 hE 4000 (hs := hoH ZE) (x := (.opq (Qa [some (eSl 1 true (eI .i64) []), some (eOs 2 false F0_ pairs)]))) (hoB ZE) (by kernel_rfl) (show LeV (.opq (Qa [some (eSl 1 true (eI .i64) []), some (eOs 2 false F0_ pairs)])) (.opq (Qa [some (eSl 1 true (eI .i64) ([] : List Int)), some (eOs 2 false F0_ pairs)])) from inferInstance)
 ·obtain ⟨r_, h0, hf0⟩ := ze hf0
  obtain ⟨t2, ht2, hf0⟩ := ze hf0
  refine yAt X0 hC (sub [1,1,2,1,0] wo) (frs [1,1,2,1,0] [J1] wo []) [(4, .own (.box (eSl 1 true (eI .i64) []))), (5, .own (.box (eOs 2 true F0_ []))), (6, .own (.box (eOs 2 true F0_ ([(zh.mk 0 0)])))), (14, .d (.fn 117 [.sptr (.agg [I r_.1.Inputs, I r_.1.Outputs, eSl 1 false zP r_.1.Rows]), .sptr (.agg [I r_.2.Inputs, I r_.2.Outputs, eSl 1 false zP r_.2.Rows])]))] [Hc h0F (x := (a_, b_)) h0 (loC zl a_ <| loC zl b_ <| loN)] fun st0 h0 => ?_
  refine zae (g := .tmp 14) (ps := [15,16]) (assign := (sub [1,1,2,1,0,0] wo)) (body := (sub [1,1,2,1,0,1] wo)) (K := 117) (caps := [.sptr (.agg [I r_.1.Inputs, I r_.1.Outputs, eSl 1 false zP r_.1.Rows]), .sptr (.agg [I r_.2.Inputs, I r_.2.Outputs, eSl 1 false zP r_.2.Rows])]) (by kernel_rfl) [4,5,6,14] (fun s => xi r_ s.1 s.2) (fun s => xi r_ s.1 s.2) (fun s => Code.ret) ((fun (x : zR × List za) (bb : Bool) (vv : Value) => [z4O x.1, bif bb then .atom vv else z8h x.2])) (F := @uJ r_.1 r_.2) (fun s x => xG s.1 s.2 x.1 x.2) (([] : List Int), ([(zh.mk 0 0)] : List (zh Int))) t2 _ h0 inferInstance (by kernel_rfl) (by decide) (fun _ => rfl) (fun _ => rfl) (by kernel_rfl) (fun _ _ _ => rfl) (Q9 hC r_.1 r_.2) ht2 ?_ ?_
  ·rintro tv2 ⟨x41, pairs1⟩ ⟨x15, x16⟩ vr lr1 hf1
   replace hf1 : xG x41 pairs1 x15 x16 = some lr1 := hf1
   unfold xG at hf1
   generalize hnb : z8I lr1 = nb
   cases nb
   ·refine yF X0 hC .normal [(4, .own (.box (eSl 1 true (eI .i64) x41))), (5, .own (.box (eOs 2 true F0_ []))), (6, .own (.box (eOs 2 false F0_ pairs1))), (7, .own (.box (z4O x15))), (8, .d (eSl 4 false XN x16)), (14, .d (.fn 117 [.sptr (.agg [I r_.1.Inputs, I r_.1.Outputs, eSl 1 false zP r_.1.Rows]), .sptr (.agg [I r_.2.Inputs, I r_.2.Outputs, eSl 1 false zP r_.2.Rows])]))] [] fun st0 h0 => ⟨rfl, z6n h0 ?_⟩
    rcases zD hf1 with ⟨c0, hf1⟩ | ⟨c0, hf1⟩
    ·obtain ⟨r_1, h1, hf1⟩ := ze hf1
     obtain rfl := zb hf1
     exact yF X0 hC .ret (xi r_ r_1 pairs1) [Hq c0, Hg (Qd h0n), Hm (shM (eI .i64) (eI .i64) ([x15.input_])), Hs (Qe h0n (x := (x16, x15.at_, [x15.input_])) h1 (loC z8h x16 <| loC (eI .i64) x15.at_ <| loC F1_ ([x15.input_] : List Int) <| loN)), Hm (shM (eI .i64) (eI .i64) ([x15.input_]))] fun st0 h0 => ⟨rfl, _, h0, LeL.refl _⟩
    ·rcases zD hf1 with ⟨c1, hf1⟩ | ⟨c1, hf1⟩
     ·obtain ⟨r_2, h2, hf1⟩ := ze hf1
      let Z0 : List HO := [Hq c0, Hq c1, Hq c1, Hq c1, Hg (Qd h0e), Hm (shM F0_ F0_ pairs1), Hs (Qe h0e (x := (pairs1, (zh.mk x15.x_.To x15.y_.To))) h2 (loC F6_ pairs1 <| loC F0_ (zh.mk x15.x_.To x15.y_.To) <| loN)), Hq c1, Hq c1]
      rcases zD hf1 with ⟨c2, hf1⟩ | ⟨c2, hf1⟩
      ·obtain ⟨g0, hf1⟩ := gdE hf1
       obtain rfl := zb hf1
       cases hnb
      ·obtain rfl := zb hf1
       cases hnb
     ·obtain rfl := zb hf1
      cases hnb
   ·refine yF X0 hC .normal [(4, .own (.box (eSl 1 true (eI .i64) x41))), (5, .own (.box (eOs 2 true F0_ []))), (6, .own (.box (eOs 2 false F0_ pairs1))), (7, .own (.box (z4O x15))), (14, .d (.fn 117 [.sptr (.agg [I r_.1.Inputs, I r_.1.Outputs, eSl 1 false zP r_.1.Rows]), .sptr (.agg [I r_.2.Inputs, I r_.2.Outputs, eSl 1 false zP r_.2.Rows])]))] [] fun st0 h0 => ⟨rfl, z6n h0 ?_⟩
    rcases zD hf1 with ⟨c0, hf1⟩ | ⟨c0, hf1⟩
    ·refine absurd hnb (zeE ?_ hf1)
     repeat (first | with_reducible exact z9L _ | with_reducible exact zbe | with_reducible refine z9M fun _ => ?_ | with_reducible refine zd5 ?_ | with_reducible refine zbd ?_ ?_ | split)
    ·rcases zD hf1 with ⟨c1, hf1⟩ | ⟨c1, hf1⟩
     ·obtain ⟨r_1, h1, hf1⟩ := ze hf1
      let Z0 : List HO := [Hq c0, Hq c1, Hq c1, Hq c1, Hg (Qd h0e), Hm (shM F0_ F0_ pairs1), Hs (Qe h0e (x := (pairs1, (zh.mk x15.x_.To x15.y_.To))) h1 (loC F6_ pairs1 <| loC F0_ (zh.mk x15.x_.To x15.y_.To) <| loN)), Hq c1, Hq c1]
      rcases zD hf1 with ⟨c2, hf1⟩ | ⟨c2, hf1⟩
      ·obtain ⟨g0, hf1⟩ := gdE hf1
       obtain rfl := zb hf1
       exact yF X0 hC .normal (xi r_ x41 (pairs1 ++ ([(zh.mk x15.x_.To x15.y_.To)] : List (zh Int)))) (Z0 ++ [Hq c2, Hq (dM F0_ ([(zh.mk x15.x_.To x15.y_.To)] : List (zh Int))), Hn (dM F0_ ([(zh.mk x15.x_.To x15.y_.To)] : List (zh Int))), Hn (aL F0_ F0_ g0), Hl (aM F0_ pairs1 ([(zh.mk x15.x_.To x15.y_.To)] : List (zh Int)))]) fun st0 h0 => ⟨rfl, _, h0, LeL.refl _⟩
      ·obtain rfl := zb hf1
       exact yF X0 hC .normal (xi r_ x41 pairs1) (Z0 ++ [Hq c2]) fun st0 h0 => ⟨rfl, _, h0, LeL.refl _⟩
     ·obtain rfl := zb hf1
      exact yF X0 hC .normal (xi r_ x41 pairs1) (Hq c0 :: (rpN 5 (Hq c1) [qF])) fun st0 h0 => ⟨rfl, _, h0, LeL.refl _⟩
  ·rcases t2 with ⟨x41, pairs1⟩ | z
   ·dsimp only at hf0
    exact z2d (by kernel_rfl) (hJ1 _ [(4, .own (.box (eSl 1 true (eI .i64) x41))), (5, .own (.box (eOs 2 true F0_ []))), (6, .own (.box (eOs 2 false F0_ pairs1)))] (x41, pairs1) hf0 (show Own.canon [4,5,6] _ = ofL _ by kernel_rfl) inferInstance)
   ·obtain ⟨x41, pairs1⟩ := z
    dsimp only at hf0
    show AWP _ _ (Code.ret) _ _
    obtain rfl := zb hf0
    let ZE : List HO := []
    exact z34 X0 xg hC Y1 hE 4000 (hs := hoH ZE) (x := (.opq (Qa [some (eSl 1 true (eI .i64) x41), some (eOs 2 true F0_ [])]))) (hoB ZE) (by kernel_rfl) (show LeV (.opq (Qa [some (eSl 1 true (eI .i64) x41), some (eOs 2 true F0_ [])])) (.opq (Qa [some (eSl 1 true (eI .i64) x41), some (eOs 2 false F0_ ([] : List (zh Int)))])) from inferInstance)
def Qk : Code := (Try.f31.body).getD .skip
def xE : yj := spF (α := z6 × z6) (ρ := List Int × Bool × Int) 31 (fun x => [zl x.1, zl x.2]) (fun r => .tup [F1_ r.1, eB r.2.1, (eI .i64) r.2.2]) (fun x => yh x.1 x.2) [] (Wf)
theorem Ji {ctr : Ctr} (hC : zM Try.prog ctr) (h0a : ctr.Has uA) (h0g : ctr.Has uL) : xE.Ok Try.prog := by
 refine zV ?_
 rintro ⟨a_, b_⟩ r0 hf0
 try unfold yh at hf0
 refine yO false [(4, none), (5, none), (6, none)] Qk 26 Try.func31 fun E hE => ?_
 obtain ⟨r_, h0, hf0⟩ := ze hf0
 let Z0 : List HO := [Hc h0a (x := (a_, b_)) h0 (loC zl a_ <| loC zl b_ <| loN)]
 rcases zD hf0 with ⟨c0, hf0⟩ | ⟨c0, hf0⟩
 ·obtain rfl := zb hf0
  exact yEx X0 hC hE (Z0 ++ [Hq c0, Hm (shM (eI .i64) (eI .i64) [])]) (.tup [eSl 1 true (eI .i64) [], B false, I r_]) (show LeV (.tup [eSl 1 true (eI .i64) [], B false, I r_]) (.tup [eSl 1 true (eI .i64) ([] : List Int), B false, I r_]) from inferInstance)
 ·obtain ⟨r_1, h1, hf0⟩ := ze hf0
  obtain rfl := zb hf0
  exact yE ((z6N Try.prog 21 [some (eSl 1 true (eI .i64) r_1.1), some (eOs 2 false F0_ r_1.2)]).or ((z6N Try.prog 20 [some (eSl 1 true (eI .i64) r_1.1), some (eOs 2 false F0_ r_1.2)]).or X0)) hC hE (Z0 ++ [Hq c0, Hc h0g (x := (a_, b_)) h1 (loC zl a_ <| loC zl b_ <| loN), Hn (⟨rfl, rfl⟩ : T.own (.opq (Qa [some (eSl 1 true (eI .i64) r_1.1), some (eOs 2 false F0_ r_1.2)])) = T.own (.opq (Qa [some (eSl 1 true (eI .i64) r_1.1), some (eOs 2 false F0_ r_1.2)])) ∧ 1 = 1), Hn (⟨rfl, rfl⟩ : T.own (.opq (Qa [some (eSl 1 true (eI .i64) r_1.1), some (eOs 2 false F0_ r_1.2)])) = T.own (.opq (Qa [some (eSl 1 true (eI .i64) r_1.1), some (eOs 2 false F0_ r_1.2)])) ∧ 1 = 1), Ha (lnM (eI .i64) r_1.1)])
def yb : Code := (Try.f45.body).getD .skip
def yW : yj := spF (α := z6 × z6 × List (zh Int)) (ρ := Bool × Int) 45 (fun x => [zl x.1, zl x.2.1, F6_ x.2.2]) (fun r => .tup [eB r.1, (eI .i64) r.2]) (fun x => zw x.1 x.2.1 x.2.2) [] (z8J)
abbrev Zr (is : Bool) : List (Nat × T) := [(12, .d (B is))]
abbrev Zq (a_ : z6) (b_ : z6) (r_ : List (zh Int)) (in_ : List ((zh Int) × Bool)) (x64 : Int) (is2 : Bool) : List (Nat × T) := [(3, .own (.box (zl a_))), (4, .own (.box (zl b_))), (9, .own (.opq (ZC (q9 F0_ eB in_)))), (12, .d (B is2)), (62, .d (eSl 2 false F0_ r_)), (63, .d (I ((r_.length : Nat) : Int))), (64, .d (I x64))]
abbrev Zo (a_ : z6) (b_ : z6) (r_ : List (zh Int)) (in_ : List ((zh Int) × Bool)) (x64 : Int) (r__e : zh Int) (Row_e : List z7) (is3 : Bool) (x75 : Int) : List (Nat × T) := [(3, .own (.box (zl a_))), (4, .own (.box (zl b_))), (9, .own (.opq (ZC (q9 F0_ eB in_)))), (12, .d (B is3)), (14, .own (.box (F0_ r__e))), (62, .d (eSl 2 false F0_ r_)), (63, .d (I ((r_.length : Nat) : Int))), (64, .d (I x64)), (73, .d (eSl 2 false F7_ Row_e)), (74, .d (I ((Row_e.length : Nat) : Int))), (75, .d (I x75))]
abbrev Zp (a_ : z6) (b_ : z6) (r_ : List (zh Int)) (in_ : List ((zh Int) × Bool)) (is1 : Bool) (x64 : Int) : List (Nat × T) := [(3, .own (.box (zl a_))), (4, .own (.box (zl b_))), (9, .own (.opq (ZC (q9 F0_ eB in_)))), (12, .d (B is1)), (62, .d (eSl 2 false F0_ r_)), (63, .d (I ((r_.length : Nat) : Int))), (64, .d (I x64))]
abbrev Zs (a_ : z6) (b_ : z6) (r_ : List (zh Int)) (in_ : List ((zh Int) × Bool)) : List (Nat × T) := [(2, .d (eSl 2 false F0_ r_)), (3, .own (.box (zl a_))), (4, .own (.box (zl b_))), (9, .own (.opq (ZC (q9 F0_ eB in_))))]
abbrev Zn (a_ : z6) (b_ : z6) (r_ : List (zh Int)) (in_1 : List ((zh Int) × Bool)) (x30 : Int) : List (Nat × T) := [(2, .d (eSl 2 false F0_ r_)), (3, .own (.box (zl a_))), (4, .own (.box (zl b_))), (9, .own (.opq (ZC (q9 F0_ eB in_1)))), (28, .d (eSl 2 false F0_ r_)), (29, .d (I ((r_.length : Nat) : Int))), (30, .d (I x30))]
theorem Xa {ctr : Ctr} (hC : zM Try.prog ctr) (h0a : ctr.Has uA) : yW.Ok Try.prog := by
 refine zV ?_
 rintro ⟨a_, b_, r_⟩ r0 hf0
 try unfold zw at hf0
 refine yO false [(6, none), (7, none)] yb 114 Try.func45 fun E hE => ?_
 obtain ⟨r_1, h0, hf0⟩ := ze hf0
 let Z0 : List HO := [Hc h0a (x := (a_, b_)) h0 (loC zl a_ <| loC zl b_ <| loN)]
 rcases zD hf0 with ⟨c0, hf0⟩ | ⟨c0, hf0⟩
 ·obtain rfl := zb hf0
  exact yE X0 hC hE (Z0 ++ [Hq c0])
 ·let Z1 : List HO := (Z0 ++ [Hq c0, Ha (lnM F0_ r_)])
  rcases zD hf0 with ⟨c1, hf0⟩ | ⟨c1, hf0⟩
  ·obtain rfl := zb hf0
   exact yE X0 hC hE (Z1 ++ [Hq c1])
  ·refine yJ ((zaw Try.prog 27).or X0) hC yb [1,1,1,1] [] [2,3,4,9] (fun z : List ((zh Int) × Bool) => x5 a_ b_ r_ z = some r0) (fun z => Zs a_ b_ r_ z) [(2, .d (eSl 2 false F0_ r_)), (3, .own (.box (zl a_))), (4, .own (.box (zl b_))), (9, .own (.opq (ZC (q9 F0_ eB ([] : List ((zh Int) × Bool))))))] (Z1 ++ [Hq c1, Hh (.cut 1)]) ?_ fun J1 hJ1 => ?_
   ·rintro in_ hf0
    unfold x5 at hf0
    obtain ⟨val, h1, hf0⟩ := ze hf0
    replace h1 := zb h1
    refine yJ ((z6M JR 61 (q9 F0_ eB in_)).or X0) hC yb [1,1,1,1,1,1] [] [12] (fun z : Bool => xM z = some r0) (fun z => Zr z) [(2, .d (eSl 2 false F0_ r_)), (3, .own (.box (zl a_))), (4, .own (.box (zl b_))), (9, .own (.opq (ZC (q9 F0_ eB in_)))), (12, .d (B val))] [Hn (⟨rfl, rfl, z07 (fun _ => rfl) in_⟩ : A.opq (ZC (q9 F0_ eB in_)) = A.opq (ZC (q9 F0_ eB in_)) ∧ (Xp [.i64, .i64]) (F0_ (zh.mk 0 0)) = true ∧ ∀ p ∈ q9 F0_ eB in_, (Xp [.i64, .i64]) p.1 = true), Hx (.a (eB val)) ((zdi (f := F0_) (g := eB) (z0 := false) (z := .atom (.bool false)) rfl (zh.mk 0 0) in_).trans (congrArg eB h1)), Hh (.cut 0)] ?_ fun J2 hJ2 => ?_
    ·rintro is hf0
     unfold xM at hf0
     obtain rfl := zb hf0
     exact yE X0 hC hE []
    ·obtain ⟨t3, ht3, hf0⟩ := ze hf0
     refine yL X0 hC yb [1,1,1,1,1,1,2,1,0] [J2] (fun s => ya a_ b_ r_ in_ s.1 s.2) (fun x => Zp a_ b_ r_ in_ x.1 x.2) (val, 0) ht3  [Ha (lnM F0_ r_)] ?_
     rintro ⟨is1, x64⟩ m3 lr1 hf1 hl1 J3 hJ3
     try unfold ya at hf1
     rcases zD hf1 with ⟨c2, hf1⟩ | ⟨c2, hf1⟩
     ·refine yJ X0 hC yb [1,1,1,1,1,1,2,1,0,0,1,1] [J2, J3] [3,4,9,12,62,63,64] (fun z : Bool => yZ x64 z = some lr1) (fun z => Zq a_ b_ r_ in_ x64 z) [(3, .own (.box (zl a_))), (4, .own (.box (zl b_))), (9, .own (.opq (ZC (q9 F0_ eB in_)))), (12, .d (B is1)), (62, .d (eSl 2 false F0_ r_)), (63, .d (I ((r_.length : Nat) : Int))), (64, .d (I x64))] [Hq c2, Hh (.cut 0)] ?_ fun J4 hJ4 => ?_
      ·rintro is2 hf1
       unfold yZ at hf1
       obtain rfl := zb hf1
       exact yB X0 hC hJ3 (is2, w64 (x64 + 1)) hl1 []
      ·obtain ⟨r__e, h2, hf1⟩ := ze hf1
       obtain ⟨Row_e, h3, hf1⟩ := ze hf1
       obtain ⟨t5, ht5, hf1⟩ := ze hf1
       refine yL X0 hC yb [1,1,1,1,1,1,2,1,0,0,1,1,2,0,1,1,0] [J2, J3, J4] (fun s => yn b_ in_ r__e Row_e s.1 s.2) (fun x => Zo a_ b_ r_ in_ x64 r__e Row_e x.1 x.2) (is1,0) ht5  [Hi F0_ h2, Hn (⟨rfl, by decide⟩ : true = true ∧ 0 < 2), Hi zP h3, Ha (lnM F7_ Row_e)] ?_
       rintro ⟨is3, x75⟩ m5 lr2 hf2 hl2 J5 hJ5
       try unfold yn at hf2
       rcases zD hf2 with ⟨c3, hf2⟩ | ⟨c3, hf2⟩
       ·obtain ⟨Row_e_e, h4, hf2⟩ := ze hf2
        obtain ⟨Row_e1, h5, hf2⟩ := ze hf2
        obtain ⟨Row_e_e1, h6, hf2⟩ := ze hf2
        let Z2 : List HO := [Hq c3, Hi F7_ h4, Hn (⟨rfl, by decide⟩ : true = true ∧ 1 < 2), Hi zP h5, Hi F7_ h6]
        rcases zD hf2 with ⟨c4, hf2⟩ | ⟨c4, hf2⟩
        ·let Z3 : List HO := (Z2 ++ (rpN 6 (Hq c4) []))
         rcases zD hf2 with ⟨c5, hf2⟩ | ⟨c5, hf2⟩
         ·let Z4 : List HO := (Z3 ++ (rpN 4 (Hq c5) []))
          rcases zD hf2 with ⟨c6, hf2⟩ | ⟨c6, hf2⟩
          ·obtain rfl := zb hf2
           exact yB X0 hC hJ5 (true, w64 (x75 + 1)) hl2 (Z4 ++ (rpN 7 (Hq c6) [Hq c5, Hq c6, Hq c5]))
          ·obtain ⟨val1, h7, hf2⟩ := ze hf2
           replace h7 := zb h7
           obtain rfl := zb hf2
           exact yB ((z6M JR 108 (q9 F0_ eB in_)).or X0) hC hJ5 (val1, w64 (x75 + 1)) hl2 (Z4 ++ (rpN 7 (Hq c6) [Hn (⟨rfl, rfl, z07 (fun _ => rfl) in_⟩ : A.opq (ZC (q9 F0_ eB in_)) = A.opq (ZC (q9 F0_ eB in_)) ∧ (Xp [.i64, .i64]) (F0_ (zh.mk Row_e_e.To Row_e_e1.To)) = true ∧ ∀ p ∈ q9 F0_ eB in_, (Xp [.i64, .i64]) p.1 = true), Hx (.a (eB val1)) ((zdi (f := F0_) (g := eB) (z0 := false) (z := .atom (.bool false)) rfl (zh.mk Row_e_e.To Row_e_e1.To) in_).trans (congrArg eB h7)), Hq c5, Hq c6, Hq c5]))
         ·obtain rfl := zb hf2
          exact yB X0 hC hJ5 (false, w64 (x75 + 1)) hl2 (Z3 ++ (rpN 6 (Hq c5) []))
        ·obtain rfl := zb hf2
         exact yB X0 hC hJ5 (false, w64 (x75 + 1)) hl2 (Z2 ++ (rpN 6 (Hq c4) (rpN 6 qF [])))
       ·obtain rfl := zb hf2
        obtain rfl := hl2
        exact yB X0 hC hJ4 is3 hf1 [Hq c3]
     ·obtain rfl := zb hf1
      obtain rfl := hl1
      exact yB X0 hC hJ2 is1 hf0 [Hq c2]
   ·obtain ⟨t6, ht6, hf0⟩ := ze hf0
    refine yL X0 hC yb [1,1,1,1,2,1,0] [J1] (fun s => y5 a_ b_ r_ s.1 s.2) (fun x => Zn a_ b_ r_ x.1 x.2) (([] : List ((zh Int) × Bool)), 0) ht6  [Ha (lnM F0_ r_)] ?_
    rintro ⟨in_1, x30⟩ m6 lr1 hf1 hl1 J6 hJ6
    try unfold y5 at hf1
    rcases zD hf1 with ⟨c7, hf1⟩ | ⟨c7, hf1⟩
    ·obtain ⟨r__e1, h8, hf1⟩ := ze hf1
     let Z5 : List HO := [Hq c7, Hi F0_ h8, Hn (⟨rfl, by decide⟩ : true = true ∧ 0 < 2), Hn (⟨rfl, by decide⟩ : true = true ∧ 1 < 2)]
     rcases zD hf1 with ⟨c8, hf1⟩ | ⟨c8, hf1⟩
     ·obtain rfl := zb hf1
      obtain rfl := hl1
      obtain rfl := zb hf0
      exact yE X0 hC hE (Z5 ++ (rpN 7 (Hq c8) (rpN 8 qT [])))
     ·let Z6 : List HO := (Z5 ++ (Hq c8 :: Hn (⟨rfl, by decide⟩ : true = true ∧ 0 < 2) :: (rpN 4 (Hq c8) [Ha (lnM zP a_.Rows), Hq c8, Hq c8])))
      rcases zD hf1 with ⟨c9, hf1⟩ | ⟨c9, hf1⟩
      ·obtain rfl := zb hf1
       obtain rfl := hl1
       obtain rfl := zb hf0
       exact yE X0 hC hE (Z6 ++ (rpN 7 (Hq c9) [qT]))
      ·let Z7 : List HO := (Z6 ++ (Hq c9 :: Hn (⟨rfl, by decide⟩ : true = true ∧ 1 < 2) :: (rpN 4 (Hq c9) [Ha (lnM zP b_.Rows), Hq c9, Hq c9])))
       rcases zD hf1 with ⟨c10, hf1⟩ | ⟨c10, hf1⟩
       ·obtain rfl := zb hf1
        obtain rfl := hl1
        obtain rfl := zb hf0
        exact yE X0 hC hE (Z7 ++ [Hq c10])
       ·obtain rfl := zb hf1
        exact yB ((zcT JR 56 (q9 F0_ eB in_1) (q9 F0_ eB (KC in_1 r__e1 true))).or X0) hC hJ6 ((KC in_1 r__e1 true), w64 (x30 + 1)) hl1 (Z7 ++ [Hq c10, Hn (⟨rfl, rfl, rfl, rfl, z07 (fun _ => rfl) in_1⟩ : T.own (.opq (ZC (q9 F0_ eB in_1))) = T.own (.opq (ZC (q9 F0_ eB in_1))) ∧ 0 = 0 ∧ (Xp [.i64, .i64]) (F0_ r__e1) = true ∧ (eB true).isD = true ∧ ∀ p ∈ q9 F0_ eB in_1, (Xp [.i64, .i64]) p.1 = true), Hn (z2H (f := F0_) (g := eB) r__e1 true in_1)])
    ·obtain rfl := zb hf1
     obtain rfl := hl1
     exact yB X0 hC hJ1 in_1 hf0 [Hq c7]
def wE : Code := (Try.f11.body).getD .skip
def Yv : yj := spF (α := zp) (ρ := z6) 11 (fun x => [kK x]) (fun r => zl r) (fun x => kI x) [] (z1T)
abbrev QL (x_ : zp) (m_Rows : List (List z7)) : List (Nat × T) := [(2, .own (.box (.agg [I 0, I 0, eOs 1 true zP []]))), (4, .own (.box (.agg [I (w64 (1 + (w64 (Int.tmod x_.Inputs 3)))), I (w64 (1 + (w64 (Int.tmod x_.Outputs 3)))), eOs 1 false uv m_Rows])))]
abbrev QK (x_ : zp) (s_ : Int) (m_Rows2 : List (List z7)) : List (Nat × T) := [(1, .own (.box (kK x_))), (2, .own (.box (.agg [I 0, I 0, eOs 1 true zP []]))), (3, .d (I (w64 (1 + (w64 (Int.tmod x_.States 6)))))), (4, .own (.box (.agg [I (w64 (1 + (w64 (Int.tmod x_.Inputs 3)))), I (w64 (1 + (w64 (Int.tmod x_.Outputs 3)))), eOs 1 false uv m_Rows2]))), (5, .d (I s_))]
abbrev QJ (x_ : zp) (m_Rows1 : List (List z7)) (s_ : Int) (row : List z7) : List (Nat × T) := [(1, .own (.box (kK x_))), (2, .own (.box (.agg [I 0, I 0, eOs 1 true zP []]))), (3, .d (I (w64 (1 + (w64 (Int.tmod x_.States 6)))))), (4, .own (.box (.agg [I (w64 (1 + (w64 (Int.tmod x_.Inputs 3)))), I (w64 (1 + (w64 (Int.tmod x_.Outputs 3)))), eOs 1 false uv m_Rows1]))), (5, .d (I s_)), (6, .own (eOs 2 false F7_ row))]
abbrev QI (x_ : zp) (m_Rows1 : List (List z7)) (s_ : Int) (i_ : Int) (row2 : List z7) : List (Nat × T) := [(1, .own (.box (kK x_))), (2, .own (.box (.agg [I 0, I 0, eOs 1 true zP []]))), (3, .d (I (w64 (1 + (w64 (Int.tmod x_.States 6)))))), (4, .own (.box (.agg [I (w64 (1 + (w64 (Int.tmod x_.Inputs 3)))), I (w64 (1 + (w64 (Int.tmod x_.Outputs 3)))), eOs 1 false uv m_Rows1]))), (5, .d (I s_)), (6, .own (eOs 2 false F7_ row2)), (7, .d (I i_))]
abbrev QH (x_ : zp) (m_Rows1 : List (List z7)) (s_ : Int) (row1 : List z7) (i_ : Int) (v_ : Int) : List (Nat × T) := [(1, .own (.box (kK x_))), (2, .own (.box (.agg [I 0, I 0, eOs 1 true zP []]))), (3, .d (I (w64 (1 + (w64 (Int.tmod x_.States 6)))))), (4, .own (.box (.agg [I (w64 (1 + (w64 (Int.tmod x_.Inputs 3)))), I (w64 (1 + (w64 (Int.tmod x_.Outputs 3)))), eOs 1 false uv m_Rows1]))), (5, .d (I s_)), (6, .own (eOs 2 false F7_ row1)), (7, .d (I i_)), (8, .d (I v_))]
abbrev QF (x_ : zp) (m_Rows1 : List (List z7)) (s_ : Int) (row1 : List z7) (i_ : Int) : List (Nat × T) := [(1, .own (.box (kK x_))), (2, .own (.box (.agg [I 0, I 0, eOs 1 true zP []]))), (3, .d (I (w64 (1 + (w64 (Int.tmod x_.States 6)))))), (4, .own (.box (.agg [I (w64 (1 + (w64 (Int.tmod x_.Inputs 3)))), I (w64 (1 + (w64 (Int.tmod x_.Outputs 3)))), eOs 1 false uv m_Rows1]))), (5, .d (I s_)), (6, .own (eOs 2 false F7_ row1)), (7, .d (I i_))]
abbrev QG (x_ : zp) (m_Rows1 : List (List z7)) (s_ : Int) : List (Nat × T) := [(1, .own (.box (kK x_))), (2, .own (.box (.agg [I 0, I 0, eOs 1 true zP []]))), (3, .d (I (w64 (1 + (w64 (Int.tmod x_.States 6)))))), (4, .own (.box (.agg [I (w64 (1 + (w64 (Int.tmod x_.Inputs 3)))), I (w64 (1 + (w64 (Int.tmod x_.Outputs 3)))), eOs 1 false uv m_Rows1]))), (5, .d (I s_))]
theorem z1d {ctr : Ctr} (hC : zM Try.prog ctr) : Yv.Ok Try.prog := by
 refine zV ?_
 rintro x_ r0 hf0
 try unfold kI at hf0
 refine yO false [(2, some 34)] wE 87 Try.func11 fun E hE => ?_
 obtain ⟨g0, hf0⟩ := gdE hf0
 obtain ⟨g1, hf0⟩ := gdE hf0
 obtain ⟨g2, hf0⟩ := gdE hf0
 refine yJ X0 hC wE [1,1,1] [] [2,4] (fun z : List (List z7) => kw x_ z = some r0) (fun z => QL x_ z) [(1, .own (.box (kK x_))), (2, .own (.box (.agg [I 0, I 0, eOs 1 true zP []]))), (3, .d (I (w64 (1 + (w64 (Int.tmod x_.States 6)))))), (4, .own (.box (.agg [I (w64 (1 + (w64 (Int.tmod x_.Inputs 3)))), I (w64 (1 + (w64 (Int.tmod x_.Outputs 3)))), eOs 1 true zP []])))] [Hn g0, Hn g1, Hn g2, Hh (.cut 3)] ?_ fun J1 hJ1 => ?_
 ·rintro m_Rows hf0
  unfold kw at hf0
  obtain rfl := zb hf0
  exact yE X0 hC hE [Hm (shM uv zP m_Rows)]
 ·obtain ⟨t2, ht2, hf0⟩ := ze hf0
  refine yLx X0 hC wE [1,1,1,2,1,0] [J1] (fun s => kq x_ s.1 s.2) (fun x => QG x_ x.1 x.2) (([] : List (List z7)), 0) ht2 [(1, .own (.box (kK x_))), (2, .own (.box (.agg [I 0, I 0, eOs 1 true zP []]))), (3, .d (I (w64 (1 + (w64 (Int.tmod x_.States 6)))))), (4, .own (.box (.agg [I (w64 (1 + (w64 (Int.tmod x_.Inputs 3)))), I (w64 (1 + (w64 (Int.tmod x_.Outputs 3)))), eOs 1 true uv []]))), (5, .d (I 0))] inferInstance [] ?_
  rintro ⟨m_Rows1, s_⟩ m2 lr1 hf1 hl1 J2 hJ2
  try unfold kq at hf1
  rcases zD hf1 with ⟨c0, hf1⟩ | ⟨c0, hf1⟩
  ·refine yJ X0 hC wE [1,1,1,2,1,0,0,1] [J1, J2] [1,2,3,4,5] (fun z : List (List z7) => ku s_ z = some lr1) (fun z => QK x_ s_ z) [(1, .own (.box (kK x_))), (2, .own (.box (.agg [I 0, I 0, eOs 1 true zP []]))), (3, .d (I (w64 (1 + (w64 (Int.tmod x_.States 6)))))), (4, .own (.box (.agg [I (w64 (1 + (w64 (Int.tmod x_.Inputs 3)))), I (w64 (1 + (w64 (Int.tmod x_.Outputs 3)))), eOs 1 false uv m_Rows1]))), (5, .d (I s_))] [Hq c0, Hh (.cut 0)] ?_ fun J3 hJ3 => ?_
   ·rintro m_Rows2 hf1
    unfold ku at hf1
    obtain rfl := zb hf1
    exact yB X0 hC hJ2 (m_Rows2, w64 (s_ + 1)) hl1 []
   ·refine yJ X0 hC wE [1,1,1,2,1,0,0,1,2,0,1] [J1, J2, J3] [1,2,3,4,5,6] (fun z : List z7 => kr m_Rows1 s_ z = some lr1) (fun z => QJ x_ m_Rows1 s_ z) [(1, .own (.box (kK x_))), (2, .own (.box (.agg [I 0, I 0, eOs 1 true zP []]))), (3, .d (I (w64 (1 + (w64 (Int.tmod x_.States 6)))))), (4, .own (.box (.agg [I (w64 (1 + (w64 (Int.tmod x_.Inputs 3)))), I (w64 (1 + (w64 (Int.tmod x_.Outputs 3)))), eOs 1 false uv m_Rows1]))), (5, .d (I s_)), (6, .own (eOs 2 true F7_ []))] [Hh (.cut 1)] ?_ fun J4 hJ4 => ?_
    ·rintro row hf1
     unfold kr at hf1
     obtain ⟨g3, hf1⟩ := gdE hf1
     exact yB X0 hC hJ3 (m_Rows1 ++ ([row] : List (List z7))) hf1 [Hq (oC uv row []), Hn (aL uv uv g3), Hl (aM uv m_Rows1 ([row] : List (List z7)))]
    ·obtain ⟨t5, ht5, hf1⟩ := ze hf1
     refine yLx X0 hC wE [1,1,1,2,1,0,0,1,2,0,1,2,1,0] [J1, J2, J3, J4] (fun s => jh x_ s_ s.1 s.2) (fun x => QF x_ m_Rows1 s_ x.1 x.2) (([] : List z7), 0) ht5 [(1, .own (.box (kK x_))), (2, .own (.box (.agg [I 0, I 0, eOs 1 true zP []]))), (3, .d (I (w64 (1 + (w64 (Int.tmod x_.States 6)))))), (4, .own (.box (.agg [I (w64 (1 + (w64 (Int.tmod x_.Inputs 3)))), I (w64 (1 + (w64 (Int.tmod x_.Outputs 3)))), eOs 1 false uv m_Rows1]))), (5, .d (I s_)), (6, .own (eOs 2 true F7_ [])), (7, .d (I 0))] inferInstance [] ?_
     rintro ⟨row1, i_⟩ m5 lr2 hf2 hl2 J5 hJ5
     try unfold jh at hf2
     rcases zD hf2 with ⟨c1, hf2⟩ | ⟨c1, hf2⟩
     ·refine yJ X0 hC wE [1,1,1,2,1,0,0,1,2,0,1,2,1,0,0,1] [J1, J2, J3, J4, J5] [1,2,3,4,5,6,7] (fun z : List z7 => ji i_ z = some lr2) (fun z => QI x_ m_Rows1 s_ i_ z) [(1, .own (.box (kK x_))), (2, .own (.box (.agg [I 0, I 0, eOs 1 true zP []]))), (3, .d (I (w64 (1 + (w64 (Int.tmod x_.States 6)))))), (4, .own (.box (.agg [I (w64 (1 + (w64 (Int.tmod x_.Inputs 3)))), I (w64 (1 + (w64 (Int.tmod x_.Outputs 3)))), eOs 1 false uv m_Rows1]))), (5, .d (I s_)), (6, .own (eOs 2 false F7_ row1)), (7, .d (I i_))] [Hq c1, Hh (.cut 0)] ?_ fun J6 hJ6 => ?_
      ·rintro row2 hf2
       unfold ji at hf2
       obtain rfl := zb hf2
       exact yB X0 hC hJ5 (row2, w64 (i_ + 1)) hl2 []
      ·refine yJ X0 hC wE [1,1,1,2,1,0,0,1,2,0,1,2,1,0,0,1,2,0,1] [J1, J2, J3, J4, J5, J6] [1,2,3,4,5,6,7,8] (fun z : Int => v8 x_ row1 i_ z = some lr2) (fun z => QH x_ m_Rows1 s_ row1 i_ z) [(1, .own (.box (kK x_))), (2, .own (.box (.agg [I 0, I 0, eOs 1 true zP []]))), (3, .d (I (w64 (1 + (w64 (Int.tmod x_.States 6)))))), (4, .own (.box (.agg [I (w64 (1 + (w64 (Int.tmod x_.Inputs 3)))), I (w64 (1 + (w64 (Int.tmod x_.Outputs 3)))), eOs 1 false uv m_Rows1]))), (5, .d (I s_)), (6, .own (eOs 2 false F7_ row1)), (7, .d (I i_)), (8, .d (I 0))] [Hh (.cut 1)] ?_ fun J7 hJ7 => ?_
       ·rintro v_ hf2
        unfold v8 at hf2
        rcases zD hf2 with ⟨c2, hf2⟩ | ⟨c2, hf2⟩
        ·obtain ⟨g4, hf2⟩ := gdE hf2
         let Z0 : List HO := [Hq c2, Hq c2, Hn g4, Hq c2, Hq c2]
         rcases zD hf2 with ⟨c3, hf2⟩ | ⟨c3, hf2⟩
         ·obtain ⟨g5, hf2⟩ := gdE hf2
          exact yB X0 hC hJ6 (row1 ++ ([(z7.mk (-1) (-1))] : List z7)) hf2 (Z0 ++ [Hq c3, Hq (dM F7_ ([(z7.mk (-1) (-1))] : List z7)), Hn (dM F7_ ([(z7.mk (-1) (-1))] : List z7)), Hn (aL F7_ F7_ g5), Hl (aM F7_ row1 ([(z7.mk (-1) (-1))] : List z7))])
         ·obtain ⟨g6, hf2⟩ := gdE hf2
          obtain ⟨g7, hf2⟩ := gdE hf2
          obtain ⟨g8, hf2⟩ := gdE hf2
          obtain ⟨g9, hf2⟩ := gdE hf2
          obtain ⟨g10, hf2⟩ := gdE hf2
          obtain ⟨g11, hf2⟩ := gdE hf2
          exact yB X0 hC hJ6 (row1 ++ ([(z7.mk (Int.tmod (w64 (Int.tdiv v_ 4)) (w64 (1 + (w64 (Int.tmod x_.States 6))))) (Int.tmod (w64 (Int.tdiv (w64 (Int.tdiv v_ 4)) (w64 (1 + (w64 (Int.tmod x_.States 6)))))) (w64 (1 + (w64 (Int.tmod x_.Outputs 3))))))] : List z7)) hf2 (Z0 ++ [Hq c3, Hn g6, Hn g7, Hn g8, Hn g9, Hn g10, Hq (dM F7_ ([(z7.mk (Int.tmod (w64 (Int.tdiv v_ 4)) (w64 (1 + (w64 (Int.tmod x_.States 6))))) (Int.tmod (w64 (Int.tdiv (w64 (Int.tdiv v_ 4)) (w64 (1 + (w64 (Int.tmod x_.States 6)))))) (w64 (1 + (w64 (Int.tmod x_.Outputs 3))))))] : List z7)), Hn (dM F7_ ([(z7.mk (Int.tmod (w64 (Int.tdiv v_ 4)) (w64 (1 + (w64 (Int.tmod x_.States 6))))) (Int.tmod (w64 (Int.tdiv (w64 (Int.tdiv v_ 4)) (w64 (1 + (w64 (Int.tmod x_.States 6)))))) (w64 (1 + (w64 (Int.tmod x_.Outputs 3))))))] : List z7)), Hn (aL F7_ F7_ g11), Hl (aM F7_ row1 ([(z7.mk (Int.tmod (w64 (Int.tdiv v_ 4)) (w64 (1 + (w64 (Int.tmod x_.States 6))))) (Int.tmod (w64 (Int.tdiv (w64 (Int.tdiv v_ 4)) (w64 (1 + (w64 (Int.tmod x_.States 6)))))) (w64 (1 + (w64 (Int.tmod x_.Outputs 3))))))] : List z7))])
        ·obtain ⟨g12, hf2⟩ := gdE hf2
         obtain ⟨g13, hf2⟩ := gdE hf2
         obtain ⟨g14, hf2⟩ := gdE hf2
         obtain ⟨g15, hf2⟩ := gdE hf2
         obtain ⟨g16, hf2⟩ := gdE hf2
         obtain ⟨g17, hf2⟩ := gdE hf2
         exact yB X0 hC hJ6 (row1 ++ ([(z7.mk (Int.tmod (w64 (Int.tdiv v_ 4)) (w64 (1 + (w64 (Int.tmod x_.States 6))))) (Int.tmod (w64 (Int.tdiv (w64 (Int.tdiv v_ 4)) (w64 (1 + (w64 (Int.tmod x_.States 6)))))) (w64 (1 + (w64 (Int.tmod x_.Outputs 3))))))] : List z7)) hf2 (rpN 4 (Hq c2) [qF, Hn g12, Hn g13, Hn g14, Hn g15, Hn g16, Hq (dM F7_ ([(z7.mk (Int.tmod (w64 (Int.tdiv v_ 4)) (w64 (1 + (w64 (Int.tmod x_.States 6))))) (Int.tmod (w64 (Int.tdiv (w64 (Int.tdiv v_ 4)) (w64 (1 + (w64 (Int.tmod x_.States 6)))))) (w64 (1 + (w64 (Int.tmod x_.Outputs 3))))))] : List z7)), Hn (dM F7_ ([(z7.mk (Int.tmod (w64 (Int.tdiv v_ 4)) (w64 (1 + (w64 (Int.tmod x_.States 6))))) (Int.tmod (w64 (Int.tdiv (w64 (Int.tdiv v_ 4)) (w64 (1 + (w64 (Int.tmod x_.States 6)))))) (w64 (1 + (w64 (Int.tmod x_.Outputs 3))))))] : List z7)), Hn (aL F7_ F7_ g17), Hl (aM F7_ row1 ([(z7.mk (Int.tmod (w64 (Int.tdiv v_ 4)) (w64 (1 + (w64 (Int.tmod x_.States 6))))) (Int.tmod (w64 (Int.tdiv (w64 (Int.tdiv v_ 4)) (w64 (1 + (w64 (Int.tmod x_.States 6)))))) (w64 (1 + (w64 (Int.tmod x_.Outputs 3))))))] : List z7))])
       ·let Z1 : List HO := [Ha (lnM (eI .u16) x_.Edges)]
        rcases zD hf2 with ⟨c4, hf2⟩ | ⟨c4, hf2⟩
        ·obtain ⟨Edge_e, h0, hf2⟩ := ze hf2
         exact yB X0 hC hJ7 (w64 (Edge_e)) hf2 (Z1 ++ [Hq c4, Hi (eI .u16) h0])
        ·exact yB X0 hC hJ7 0 hf2 (Z1 ++ [Hq c4])
     ·obtain rfl := zb hf2
      obtain rfl := hl2
      exact yB X0 hC hJ4 row1 hf1 [Hq c1]
  ·obtain rfl := zb hf1
   obtain rfl := hl1
   exact yB X0 hC hJ1 m_Rows1 hf0 [Hq c0]
def YP : Code := (Try.f69.body).getD .skip
def Yu : yj := spF (α := z6) (ρ := z6) 69 (fun x => [zl x]) (fun r => (x6 (eI .i64) (eI .i64) (eOs 1 false uv)) r) (fun x => jq x) [] (z1T)
abbrev Qw (m_ : z6) (out_Rows : List (List z7)) : List (Nat × T) := [(2, .own (.box (.agg [I 0, I 0, eOs 1 true zP []]))), (3, .own (.box (.agg [I m_.Inputs, I m_.Outputs, eOs 1 false uv out_Rows])))]
abbrev Qv (m_ : z6) (out_Rows1 : List (List z7)) (s_ : Int) : List (Nat × T) := [(1, .own (.box (zl m_))), (2, .own (.box (.agg [I 0, I 0, eOs 1 true zP []]))), (3, .own (.box (.agg [I m_.Inputs, I m_.Outputs, eOs 1 false uv out_Rows1]))), (4, .d (I s_))]
theorem z18 {ctr : Ctr} (hC : zM Try.prog ctr) : Yu.Ok Try.prog := by
 refine zV ?_
 rintro m_ r0 hf0
 try unfold jq at hf0
 refine z42 (tt := x9) (rs := [(true, 2, some 34)]) (n := ⟨30, []⟩) (body := YP) xg Try.func69 rfl (by kernel_rfl) rfl rfl (by show (1 : Nat) ≤ 30; decide) fun E hE => ?_
 refine yJ X0 hC YP [1,1] [] [2,3] (fun z : List (List z7) => kj m_ z = some r0) (fun z => Qw m_ z) [(1, .own (.box (zl m_))), (2, .own (.box (.agg [I 0, I 0, eOs 1 true zP []]))), (3, .own (.box (.agg [I m_.Inputs, I m_.Outputs, eOs 1 true zP []])))] [Hh (.cut 2)] ?_ fun J1 hJ1 => ?_
 ·rintro out_Rows hf0
  unfold kj at hf0
  obtain rfl := zb hf0
  let ZE : List HO := []
  exact z34 X0 xg hC Y1 hE 4000 (hs := hoH ZE) (x := (.agg [I m_.Inputs, I m_.Outputs, eOs 1 false uv out_Rows])) (hoB ZE) (by kernel_rfl) (LeV.refl _)
 ·obtain ⟨t2, ht2, hf0⟩ := ze hf0
  refine yLx X0 hC YP [1,1,2,1,0] [J1] (fun s => ja m_ s.1 s.2) (fun x => Qv m_ x.1 x.2) (([] : List (List z7)), 0) ht2 [(1, .own (.box (zl m_))), (2, .own (.box (.agg [I 0, I 0, eOs 1 true zP []]))), (3, .own (.box (.agg [I m_.Inputs, I m_.Outputs, eOs 1 true uv []]))), (4, .d (I 0))] inferInstance [] ?_
  rintro ⟨out_Rows1, s_⟩ m2 lr1 hf1 hl1 J2 hJ2
  try unfold ja at hf1
  let Z0 : List HO := [Ha (lnM zP m_.Rows)]
  rcases zD hf1 with ⟨c0, hf1⟩ | ⟨c0, hf1⟩
  ·obtain ⟨Row_e, h0, hf1⟩ := ze hf1
   obtain ⟨g0, hf1⟩ := gdE hf1
   obtain ⟨g1, hf1⟩ := gdE hf1
   obtain rfl := zb hf1
   exact yB X0 hC hJ2 ((out_Rows1 ++ ([Row_e] : List (List z7))), w64 (s_ + 1)) hl1 (Z0 ++ [Hq c0, Hi zP h0, Hn (dM F7_ Row_e), Hn (aL F7_ F7_ g0), Hl (aM0 F7_ Row_e), Hq (oC uv Row_e []), Hn (aL uv uv g1), Hl (aM uv out_Rows1 ([Row_e] : List (List z7)))])
  ·obtain rfl := zb hf1
   obtain rfl := hl1
   exact yB X0 hC hJ1 out_Rows1 hf0 (Z0 ++ [Hq c0])
def wN : Code := (Try.f47.body).getD .skip
def ZN : yj := spF (α := z6) (ρ := Int) 47 (fun x => [zl x]) (fun r => (eI .i64) r) (fun x => kX x) [] (z1T)
abbrev UQ : List (Nat × T) := []
abbrev UP (m_ : z6) (s_ : Int) : List (Nat × T) := [(1, .own (.box (zl m_))), (3, .d (I s_))]
abbrev UO (m_ : z6) (s_ : Int) (i_ : Int) : List (Nat × T) := [(1, .own (.box (zl m_))), (3, .d (I s_)), (4, .d (I i_))]
abbrev UN (m_ : z6) (s_ : Int) (i_ : Int) (Row_e_e : z7) : List (Nat × T) := [(1, .own (.box (zl m_))), (3, .d (I s_)), (4, .d (I i_)), (5, .own (.box (F7_ Row_e_e)))]
abbrev UL (m_ : z6) (s_ : Int) (i_ : Int) : List (Nat × T) := [(1, .own (.box (zl m_))), (3, .d (I s_)), (4, .d (I i_))]
abbrev UM (m_ : z6) (s_ : Int) : List (Nat × T) := [(1, .own (.box (zl m_))), (3, .d (I s_))]
theorem z0m {ctr : Ctr} (hC : zM Try.prog ctr) : ZN.Ok Try.prog := by
 refine zV ?_
 rintro m_ r0 hf0
 try unfold kX at hf0
 refine yO true [(2, none)] wN 95 Try.func47 fun E hE => ?_
 rcases zD hf0 with ⟨c0, hf0⟩ | ⟨c0, hf0⟩
 ·obtain rfl := zb hf0
  exact yE X0 hC hE (rpN 4 (Hq c0) (rpN 6 qT []))
 ·let Z0 : List HO := (rpN 4 (Hq c0) [])
  rcases zD hf0 with ⟨c1, hf0⟩ | ⟨c1, hf0⟩
  ·obtain rfl := zb hf0
   exact yE X0 hC hE (Z0 ++ (rpN 5 (Hq c1) [qT]))
  ·let Z1 : List HO := (Z0 ++ [Hq c1, Hq c1, Hq c1, Ha (lnM zP m_.Rows), Hq c1, Hq c1])
   rcases zD hf0 with ⟨c2, hf0⟩ | ⟨c2, hf0⟩
   ·obtain rfl := zb hf0
    exact yE X0 hC hE (Z1 ++ [Hq c2])
   ·rcases zD hf0 with ⟨c3, hf0⟩ | ⟨c3, hf0⟩
    ·obtain rfl := zb hf0
     exact yE X0 hC hE (Z1 ++ (Hq c2 :: (rpN 4 (Hq c3) (rpN 6 qT []))))
    ·let Z2 : List HO := (Z1 ++ (Hq c2 :: (rpN 4 (Hq c3) [])))
     rcases zD hf0 with ⟨c4, hf0⟩ | ⟨c4, hf0⟩
     ·obtain rfl := zb hf0
      exact yE X0 hC hE (Z2 ++ (rpN 5 (Hq c4) [qT]))
     ·let Z3 : List HO := (Z2 ++ [Hq c4, Hq c4, Hq c4, Ha (lnM zP m_.Rows), Hq c4, Hq c4])
      rcases zD hf0 with ⟨c5, hf0⟩ | ⟨c5, hf0⟩
      ·obtain rfl := zb hf0
       exact yE X0 hC hE (Z3 ++ [Hq c5])
      ·refine yJ X0 hC wN [1,1,1] [] [] (fun z : Unit => ZT = some r0) (fun z => UQ) [(1, .own (.box (zl m_)))] (Z3 ++ [Hq c5, Hh (.cut 0)]) ?_ fun J1 hJ1 => ?_
       ·rintro ⟨⟩ hf0
        unfold ZT at hf0
        obtain rfl := zb hf0
        exact yE X0 hC hE []
       ·obtain ⟨t2, ht2, hf0⟩ := ze hf0
        refine yL X0 hC wN [1,1,1,2,1,0] [J1] (fun s => vw m_ s) (fun x => UM m_ x) 0 ht2  [] ?_
        rintro s_ m2 lr1 hf1 hl1 J2 hJ2
        try unfold vw at hf1
        let Z4 : List HO := [Ha (lnM zP m_.Rows)]
        rcases zD hf1 with ⟨c6, hf1⟩ | ⟨c6, hf1⟩
        ·refine yJ X0 hC wN [1,1,1,2,1,0,0,1] [J1, J2] [1,3] (fun z : Unit => ZS s_ = some lr1) (fun z => UP m_ s_) [(1, .own (.box (zl m_))), (3, .d (I s_))] (Z4 ++ [Hq c6, Hh (.cut 0)]) ?_ fun J3 hJ3 => ?_
         ·rintro ⟨⟩ hf1
          unfold ZS at hf1
          obtain rfl := zb hf1
          exact yB X0 hC hJ2 (w64 (s_ + 1)) hl1 []
         ·obtain ⟨Row_e, h0, hf1⟩ := ze hf1
          let Z5 : List HO := [Hi zP h0, Ha (lnM F7_ Row_e)]
          rcases zD hf1 with ⟨c7, hf1⟩ | ⟨c7, hf1⟩
          ·obtain rfl := zb hf1
           obtain rfl := hl1
           obtain rfl := zb hf0
           exact yE X0 hC hE (Z5 ++ [Hq c7])
          ·obtain ⟨t4, ht4, hf1⟩ := ze hf1
           refine yL X0 hC wN [1,1,1,2,1,0,0,1,2,0,1,1,0] [J1, J2, J3] (fun s => wK m_ s_ s) (fun x => UL m_ s_ x) 0 ht4  (Z5 ++ [Hq c7]) ?_
           rintro i_ m4 lr2 hf2 hl2 J4 hJ4
           try unfold wK at hf2
           rcases zD hf2 with ⟨c8, hf2⟩ | ⟨c8, hf2⟩
           ·refine yJ X0 hC wN [1,1,1,2,1,0,0,1,2,0,1,1,0,0,1] [J1, J2, J3, J4] [1,3,4] (fun z : Unit => uG i_ = some lr2) (fun z => UO m_ s_ i_) [(1, .own (.box (zl m_))), (3, .d (I s_)), (4, .d (I i_))] [Hq c8, Hh (.cut 0)] ?_ fun J5 hJ5 => ?_
            ·rintro ⟨⟩ hf2
             unfold uG at hf2
             obtain rfl := zb hf2
             exact yB X0 hC hJ4 (w64 (i_ + 1)) hl2 []
            ·obtain ⟨Row_e1, h1, hf2⟩ := ze hf2
             obtain ⟨Row_e_e, h2, hf2⟩ := ze hf2
             refine yJ X0 hC wN [1,1,1,2,1,0,0,1,2,0,1,1,0,0,1,2,0,1] [J1, J2, J3, J4, J5] [1,3,4,5] (fun z : Unit => uF m_ i_ Row_e_e = some lr2) (fun z => UN m_ s_ i_ Row_e_e) [(1, .own (.box (zl m_))), (3, .d (I s_)), (4, .d (I i_)), (5, .own (.box (F7_ Row_e_e)))] [Hi zP h1, Hi F7_ h2, Hh (.cut 0)] ?_ fun J6 hJ6 => ?_
             ·rintro ⟨⟩ hf2
              unfold uF at hf2
              rcases zD hf2 with ⟨c9, hf2⟩ | ⟨c9, hf2⟩
              ·obtain rfl := zb hf2
               obtain rfl := hl2
               obtain rfl := zb hf1
               obtain rfl := hl1
               obtain rfl := zb hf0
               exact yE X0 hC hE (rpN 7 (Hq c9) (rpN 11 qT []))
              ·let Z6 : List HO := (rpN 5 (Hq c9) [Ha (lnM zP m_.Rows), Hq c9, Hq c9])
               rcases zD hf2 with ⟨c10, hf2⟩ | ⟨c10, hf2⟩
               ·obtain rfl := zb hf2
                obtain rfl := hl2
                obtain rfl := zb hf1
                obtain rfl := hl1
                obtain rfl := zb hf0
                exact yE X0 hC hE (Z6 ++ (rpN 4 (Hq c10) (rpN 7 qT [])))
               ·let Z7 : List HO := (Z6 ++ (rpN 4 (Hq c10) []))
                rcases zD hf2 with ⟨c11, hf2⟩ | ⟨c11, hf2⟩
                ·obtain rfl := zb hf2
                 obtain rfl := hl2
                 obtain rfl := zb hf1
                 obtain rfl := hl1
                 obtain rfl := zb hf0
                 exact yE X0 hC hE (Z7 ++ (rpN 6 (Hq c11) [qT]))
                ·let Z8 : List HO := (Z7 ++ (rpN 6 (Hq c11) []))
                 rcases zD hf2 with ⟨c12, hf2⟩ | ⟨c12, hf2⟩
                 ·obtain rfl := zb hf2
                  obtain rfl := hl2
                  obtain rfl := zb hf1
                  obtain rfl := hl1
                  obtain rfl := zb hf0
                  exact yE X0 hC hE (Z8 ++ [Hq c12])
                 ·exact yB X0 hC hJ5 () hf2 (Z8 ++ [Hq c12])
             ·rcases zD hf2 with ⟨c13, hf2⟩ | ⟨c13, hf2⟩
              ·let Z9 : List HO := (rpN 4 (Hq c13) [])
               rcases zD hf2 with ⟨c14, hf2⟩ | ⟨c14, hf2⟩
               ·exact yB X0 hC hJ5 () hf2 (Z9 ++ [Hq c14])
               ·exact yB X0 hC hJ6 () hf2 (Z9 ++ [Hq c14])
              ·exact yB X0 hC hJ6 () hf2 (rpN 4 (Hq c13) [qF])
           ·obtain rfl := zb hf2
            obtain rfl := hl2
            exact yB X0 hC hJ3 () hf1 [Hq c8]
        ·obtain rfl := zb hf1
         obtain rfl := hl1
         exact yB X0 hC hJ1 () hf0 (Z4 ++ [Hq c6])
def xk : Code := (Try.f30.body).getD .skip
def ug : yj := spF (α := zB) (ρ := z6 × z6) 30 (fun x => [z4F x]) (fun r => .tup [zl r.1, zl r.2]) (fun x => qn x) [] (z1T)
abbrev QC (x_ : zB) (r_ : z6) (r_2 : z6) (b_Rows : List (List z7)) : List (Nat × T) := [(1, .own (.box (.agg [kK x_.M, kK x_.X, B x_.Alike, (yG (eI .u8)) x_.Swap, (yG (eI .u8)) x_.Place, F7_ x_.To]))), (2, .own (.box (.agg [I 0, I 0, eOs 1 true zP []]))), (3, .own (.box (.agg [I 0, I 0, eOs 1 true zP []]))), (4, .own (.box (zl r_))), (5, .d (I ((r_.Rows.length : Nat) : Int))), (10, .own (.box (.agg [I r_2.Inputs, I r_2.Outputs, eOs 1 false uv b_Rows])))]
abbrev QB (x_ : zB) (r_ : z6) (to1 : List Int) (r_2 : z6) (s_ : Int) (b_Rows2 : List (List z7)) : List (Nat × T) := [(1, .own (.box (.agg [kK x_.M, kK x_.X, B x_.Alike, (yG (eI .u8)) x_.Swap, (yG (eI .u8)) x_.Place, F7_ x_.To]))), (2, .own (.box (.agg [I 0, I 0, eOs 1 true zP []]))), (3, .own (.box (.agg [I 0, I 0, eOs 1 true zP []]))), (4, .own (.box (zl r_))), (5, .d (I ((r_.Rows.length : Nat) : Int))), (6, .own (eOs 1 false (eI .i64) to1)), (10, .own (.box (.agg [I r_2.Inputs, I r_2.Outputs, eOs 1 false uv b_Rows2]))), (11, .d (I s_))]
abbrev QA (x_ : zB) (r_ : z6) (to1 : List Int) (r_2 : z6) (s_ : Int) (b_Rows3 : List (List z7)) (i_ : Int) (Row_e_e1 : z7) (e_To : Int) : List (Nat × T) := [(1, .own (.box (.agg [kK x_.M, kK x_.X, B x_.Alike, (yG (eI .u8)) x_.Swap, (yG (eI .u8)) x_.Place, F7_ x_.To]))), (2, .own (.box (.agg [I 0, I 0, eOs 1 true zP []]))), (3, .own (.box (.agg [I 0, I 0, eOs 1 true zP []]))), (4, .own (.box (zl r_))), (5, .d (I ((r_.Rows.length : Nat) : Int))), (6, .own (eOs 1 false (eI .i64) to1)), (10, .own (.box (.agg [I r_2.Inputs, I r_2.Outputs, eOs 1 false uv b_Rows3]))), (11, .d (I s_)), (12, .d (I i_)), (13, .own (.box (.agg [I e_To, I Row_e_e1.Out])))]
abbrev Qy (x_ : zB) (r_ : z6) (to1 : List Int) (r_2 : z6) (s_ : Int) (b_Rows3 : List (List z7)) (i_ : Int) : List (Nat × T) := [(1, .own (.box (.agg [kK x_.M, kK x_.X, B x_.Alike, (yG (eI .u8)) x_.Swap, (yG (eI .u8)) x_.Place, F7_ x_.To]))), (2, .own (.box (.agg [I 0, I 0, eOs 1 true zP []]))), (3, .own (.box (.agg [I 0, I 0, eOs 1 true zP []]))), (4, .own (.box (zl r_))), (5, .d (I ((r_.Rows.length : Nat) : Int))), (6, .own (eOs 1 false (eI .i64) to1)), (10, .own (.box (.agg [I r_2.Inputs, I r_2.Outputs, eOs 1 false uv b_Rows3]))), (11, .d (I s_)), (12, .d (I i_))]
abbrev Qz (x_ : zB) (r_ : z6) (to1 : List Int) (r_2 : z6) (b_Rows1 : List (List z7)) (s_ : Int) : List (Nat × T) := [(1, .own (.box (.agg [kK x_.M, kK x_.X, B x_.Alike, (yG (eI .u8)) x_.Swap, (yG (eI .u8)) x_.Place, F7_ x_.To]))), (2, .own (.box (.agg [I 0, I 0, eOs 1 true zP []]))), (3, .own (.box (.agg [I 0, I 0, eOs 1 true zP []]))), (4, .own (.box (zl r_))), (5, .d (I ((r_.Rows.length : Nat) : Int))), (6, .own (eOs 1 false (eI .i64) to1)), (10, .own (.box (.agg [I r_2.Inputs, I r_2.Outputs, eOs 1 false uv b_Rows1]))), (11, .d (I s_))]
abbrev QD (x_ : zB) (r_ : z6) (to1 : List Int) : List (Nat × T) := [(1, .own (.box (.agg [kK x_.M, kK x_.X, B x_.Alike, (yG (eI .u8)) x_.Swap, (yG (eI .u8)) x_.Place, F7_ x_.To]))), (2, .own (.box (.agg [I 0, I 0, eOs 1 true zP []]))), (3, .own (.box (.agg [I 0, I 0, eOs 1 true zP []]))), (4, .own (.box (zl r_))), (5, .d (I ((r_.Rows.length : Nat) : Int))), (6, .own (eOs 1 false (eI .i64) to1))]
abbrev QE (x_ : zB) (r_ : z6) (to : List Int) : List (Nat × T) := [(1, .own (.box (.agg [kK x_.M, kK x_.X, B x_.Alike, (yG (eI .u8)) x_.Swap, (yG (eI .u8)) x_.Place, F7_ x_.To]))), (2, .own (.box (.agg [I 0, I 0, eOs 1 true zP []]))), (3, .own (.box (.agg [I 0, I 0, eOs 1 true zP []]))), (4, .own (.box (zl r_))), (5, .d (I ((r_.Rows.length : Nat) : Int))), (6, .own (eOs 1 false (eI .i64) to))]
abbrev Qx (x_ : zB) (r_ : z6) (to2 : List Int) (s_1 : Int) : List (Nat × T) := [(1, .own (.box (.agg [kK x_.M, kK x_.X, B x_.Alike, (yG (eI .u8)) x_.Swap, (yG (eI .u8)) x_.Place, F7_ x_.To]))), (2, .own (.box (.agg [I 0, I 0, eOs 1 true zP []]))), (3, .own (.box (.agg [I 0, I 0, eOs 1 true zP []]))), (4, .own (.box (zl r_))), (5, .d (I ((r_.Rows.length : Nat) : Int))), (6, .own (eOs 1 false (eI .i64) to2)), (7, .d (I s_1))]
theorem z1c {ctr : Ctr} (hC : zM Try.prog ctr) (h0o : ctr.Has Yv) (h0h : ctr.Has Yu) (h0p : ctr.Has ZN) : ug.Ok Try.prog := by
 refine zV ?_
 rintro x_ r0 hf0
 try unfold qn at hf0
 refine yO false [(2, some 34), (3, some 34)] xk 144 Try.func30 fun E hE => ?_
 obtain ⟨r_, h0, hf0⟩ := ze hf0
 let Z0 : List HO := [Hc h0o (x := x_.M) h0 (loC kK x_.M <| loN), Ha (lnM zP r_.Rows)]
 rcases zD hf0 with ⟨c0, hf0⟩ | ⟨c0, hf0⟩
 ·obtain ⟨r_1, h1, hf0⟩ := ze hf0
  obtain rfl := zb hf0
  exact yE X0 hC hE (Z0 ++ [Hq c0, Hc h0o (x := (zp.mk x_.X.States x_.M.Inputs x_.X.Outputs x_.X.Partial x_.X.Edges)) h1 (loC kK (zp.mk x_.X.States x_.M.Inputs x_.X.Outputs x_.X.Partial x_.X.Edges) <| loN)])
 ·refine yJ X0 hC xk [1,1,1,1,1] [] [1,2,3,4,5,6] (fun z : List Int => kp x_ r_ z = some r0) (fun z => QE x_ r_ z) [(1, .own (.box (.agg [kK x_.M, kK x_.X, B x_.Alike, (yG (eI .u8)) x_.Swap, (yG (eI .u8)) x_.Place, F7_ x_.To]))), (2, .own (.box (.agg [I 0, I 0, eOs 1 true zP []]))), (3, .own (.box (.agg [I 0, I 0, eOs 1 true zP []]))), (4, .own (.box (zl r_))), (5, .d (I ((r_.Rows.length : Nat) : Int))), (6, .own (eOs 1 true (eI .i64) []))] (Z0 ++ [Hq c0, Hh (.cut 1)]) ?_ fun J1 hJ1 => ?_
  ·rintro to hf0
   unfold kp at hf0
   refine yA X0 hC xk [1,1,1,1,1,1] [] [(1, .own (.box (.agg [kK x_.M, kK x_.X, B x_.Alike, (yG (eI .u8)) x_.Swap, (yG (eI .u8)) x_.Place, F7_ x_.To]))), (2, .own (.box (.agg [I 0, I 0, eOs 1 true zP []]))), (3, .own (.box (.agg [I 0, I 0, eOs 1 true zP []]))), (4, .own (.box (zl r_))), (5, .d (I ((r_.Rows.length : Nat) : Int))), (6, .own (eOs 1 false (eI .i64) to))] [Hh (.cut 0)] ?_
   refine zac (y := eOs 1 false (eI .i64) to) (by kernel_rfl) 6 (by kernel_rfl) (by kernel_rfl) fun pv6 hv6 => ?_
   refine yJ X0 hC xk [1,1,1,1,1,1] [] [1,2,3,4,5,6] (fun z : List Int => uo x_ r_ z = some r0) (fun z => QD x_ r_ z) [(1, .own (.box (.agg [kK x_.M, kK x_.X, B x_.Alike, (yG (eI .u8)) x_.Swap, (yG (eI .u8)) x_.Place, F7_ x_.To]))), (2, .own (.box (.agg [I 0, I 0, eOs 1 true zP []]))), (3, .own (.box (.agg [I 0, I 0, eOs 1 true zP []]))), (4, .own (.box (zl r_))), (5, .d (I ((r_.Rows.length : Nat) : Int))), (6, .own (eOs 1 false (eI .i64) to))] [Hh (.cut 0)] ?_ fun J2 hJ2 => ?_
   ·rintro to1 hf0
    unfold uo at hf0
    obtain ⟨r_2, h2, hf0⟩ := ze hf0
    refine yJ X0 hC xk [1,1,1,1,1,1,1,1] [] [1,2,3,4,5,10] (fun z : List (List z7) => ko x_ r_ r_2 z = some r0) (fun z => QC x_ r_ r_2 z) [(1, .own (.box (.agg [kK x_.M, kK x_.X, B x_.Alike, (yG (eI .u8)) x_.Swap, (yG (eI .u8)) x_.Place, F7_ x_.To]))), (2, .own (.box (.agg [I 0, I 0, eOs 1 true zP []]))), (3, .own (.box (.agg [I 0, I 0, eOs 1 true zP []]))), (4, .own (.box (zl r_))), (5, .d (I ((r_.Rows.length : Nat) : Int))), (6, .own (eOs 1 false (eI .i64) to1)), (10, .own (.box ((x6 (eI .i64) (eI .i64) (eOs 1 false uv)) r_2)))] [Hc h0h (x := r_) h2 (loC zl r_ <| loN), Hh (.cut 0)] ?_ fun J3 hJ3 => ?_
    ·rintro b_Rows hf0
     unfold ko at hf0
     obtain ⟨r_3, h3, hf0⟩ := ze hf0
     obtain ⟨g0, hf0⟩ := gdE hf0
     obtain ⟨Row_e, h4, hf0⟩ := ze hf0
     obtain ⟨g1, hf0⟩ := gdE hf0
     obtain ⟨Row_e_e, h5, hf0⟩ := ze hf0
     obtain ⟨r_4, h6, hf0⟩ := ze hf0
     let Z1 : List HO := [Hg (Qd h0h), Hm (shM uv zP b_Rows), Hs (Qe h0h (x := (z6.mk r_2.Inputs r_2.Outputs b_Rows)) h3 (loC zl (z6.mk r_2.Inputs r_2.Outputs b_Rows) <| loN)), Hm (shM uv zP b_Rows), Hn (⟨rfl, by decide⟩ : true = true ∧ 0 < 2), Hn g0, Hn (iL uv h4), Hs (iM uv h4), Hn (⟨rfl, by decide⟩ : true = true ∧ 1 < 2), Hn g1, Hs (iM uv h4), Hn (iL F7_ h5), Hs (iM uv h4), Hs (iM F7_ h5), Hs (iM uv h4), Hs (iM F7_ h5), Hl (sM F7_ Row_e (Int.tmod (w64 (x_.Place.e1)) r_.Inputs) x_.To), Hl (sM uv r_3.Rows (Int.tmod (w64 (x_.Place.e0)) ((r_.Rows.length : Nat) : Int)) (Row_e.set (Int.tmod (w64 (x_.Place.e1)) r_.Inputs).toNat x_.To)), Hg (Qd h0p), Hm (shM uv zP (r_3.Rows.set (Int.tmod (w64 (x_.Place.e0)) ((r_.Rows.length : Nat) : Int)).toNat (Row_e.set (Int.tmod (w64 (x_.Place.e1)) r_.Inputs).toNat x_.To))), Hs (Qe h0p (x := (z6.mk r_3.Inputs r_3.Outputs (r_3.Rows.set (Int.tmod (w64 (x_.Place.e0)) ((r_.Rows.length : Nat) : Int)).toNat (Row_e.set (Int.tmod (w64 (x_.Place.e1)) r_.Inputs).toNat x_.To)))) h6 (loC zl (z6.mk r_3.Inputs r_3.Outputs (r_3.Rows.set (Int.tmod (w64 (x_.Place.e0)) ((r_.Rows.length : Nat) : Int)).toNat (Row_e.set (Int.tmod (w64 (x_.Place.e1)) r_.Inputs).toNat x_.To))) <| loN))]
     rcases zD hf0 with ⟨c1, hf0⟩ | ⟨c1, hf0⟩
     ·obtain rfl := zb hf0
      exact yE X0 hC hE (Z1 ++ [Hq c1, Hm (shM uv zP (r_3.Rows.set (Int.tmod (w64 (x_.Place.e0)) ((r_.Rows.length : Nat) : Int)).toNat (Row_e.set (Int.tmod (w64 (x_.Place.e1)) r_.Inputs).toNat x_.To)))])
     ·obtain rfl := zb hf0
      exact yE X0 hC hE (Z1 ++ [Hq c1])
    ·obtain ⟨t4, ht4, hf0⟩ := ze hf0
     refine yL X0 hC xk [1,1,1,1,1,1,1,1,2,1,0] [J3] (fun s => jg r_ to1 s.1 s.2) (fun x => Qz x_ r_ to1 r_2 x.1 x.2) (r_2.Rows, 0) ht4  [] ?_
     rintro ⟨b_Rows1, s_⟩ m4 lr1 hf1 hl1 J4 hJ4
     try unfold jg at hf1
     rcases zD hf1 with ⟨c2, hf1⟩ | ⟨c2, hf1⟩
     ·refine yJ X0 hC xk [1,1,1,1,1,1,1,1,2,1,0,0,1] [J3, J4] [1,2,3,4,5,6,10,11] (fun z : List (List z7) => kn s_ z = some lr1) (fun z => QB x_ r_ to1 r_2 s_ z) [(1, .own (.box (.agg [kK x_.M, kK x_.X, B x_.Alike, (yG (eI .u8)) x_.Swap, (yG (eI .u8)) x_.Place, F7_ x_.To]))), (2, .own (.box (.agg [I 0, I 0, eOs 1 true zP []]))), (3, .own (.box (.agg [I 0, I 0, eOs 1 true zP []]))), (4, .own (.box (zl r_))), (5, .d (I ((r_.Rows.length : Nat) : Int))), (6, .own (eOs 1 false (eI .i64) to1)), (10, .own (.box (.agg [I r_2.Inputs, I r_2.Outputs, eOs 1 false uv b_Rows1]))), (11, .d (I s_))] [Hq c2, Hh (.cut 0)] ?_ fun J5 hJ5 => ?_
      ·rintro b_Rows2 hf1
       unfold kn at hf1
       obtain rfl := zb hf1
       exact yB X0 hC hJ4 (b_Rows2, w64 (s_ + 1)) hl1 []
      ·obtain ⟨t6, ht6, hf1⟩ := ze hf1
       refine yL X0 hC xk [1,1,1,1,1,1,1,1,2,1,0,0,1,2,0,1,0] [J3, J4, J5] (fun s => jf r_ to1 s_ s.1 s.2) (fun x => Qy x_ r_ to1 r_2 s_ x.1 x.2) (b_Rows1,0) ht6  [] ?_
       rintro ⟨b_Rows3, i_⟩ m6 lr2 hf2 hl2 J6 hJ6
       try unfold jf at hf2
       rcases zD hf2 with ⟨c3, hf2⟩ | ⟨c3, hf2⟩
       ·obtain ⟨Row_e1, h7, hf2⟩ := ze hf2
        obtain ⟨Row_e_e1, h8, hf2⟩ := ze hf2
        refine yJ X0 hC xk [1,1,1,1,1,1,1,1,2,1,0,0,1,2,0,1,0,0,1,0,0,1] [J3, J4, J5, J6] [1,2,3,4,5,6,10,11,12,13] (fun z : Int => un to1 s_ b_Rows3 i_ Row_e_e1 z = some lr2) (fun z => QA x_ r_ to1 r_2 s_ b_Rows3 i_ Row_e_e1 z) [(1, .own (.box (.agg [kK x_.M, kK x_.X, B x_.Alike, (yG (eI .u8)) x_.Swap, (yG (eI .u8)) x_.Place, F7_ x_.To]))), (2, .own (.box (.agg [I 0, I 0, eOs 1 true zP []]))), (3, .own (.box (.agg [I 0, I 0, eOs 1 true zP []]))), (4, .own (.box (zl r_))), (5, .d (I ((r_.Rows.length : Nat) : Int))), (6, .own (eOs 1 false (eI .i64) to1)), (10, .own (.box (.agg [I r_2.Inputs, I r_2.Outputs, eOs 1 false uv b_Rows3]))), (11, .d (I s_)), (12, .d (I i_)), (13, .own (.box (F7_ Row_e_e1)))] [Hq c3, Hi zP h7, Hi F7_ h8, Hh (.cut 0)] ?_ fun J7 hJ7 => ?_
        ·rintro e_To hf2
         unfold un at hf2
         obtain ⟨to_e, h9, hf2⟩ := ze hf2
         obtain ⟨b_Row_e, h10, hf2⟩ := ze hf2
         obtain ⟨b_Row_e_e, h11, hf2⟩ := ze hf2
         obtain rfl := zb hf2
         exact yB X0 hC hJ6 ((b_Rows3.set to_e.toNat (b_Row_e.set i_.toNat (z7.mk e_To Row_e_e1.Out))), w64 (i_ + 1)) hl2 [Hn (iL (eI .i64) h9), Hs (iM (eI .i64) h9), Hn (iL uv h10), Hs (iM uv h10), Hs (iM uv h10), Hn (iL F7_ h11), Hs (iM uv h10), Hs (iM F7_ h11), Hs (iM uv h10), Hs (iM F7_ h11), Hl (sM F7_ b_Row_e i_ (z7.mk e_To Row_e_e1.Out)), Hl (sM uv b_Rows3 to_e (b_Row_e.set i_.toNat (z7.mk e_To Row_e_e1.Out)))]
        ·rcases zD hf2 with ⟨c4, hf2⟩ | ⟨c4, hf2⟩
         ·obtain ⟨to_e1, h12, hf2⟩ := ze hf2
          exact yB X0 hC hJ7 to_e1 hf2 [Hq c4, Hn (iL (eI .i64) h12), Hs (iM (eI .i64) h12)]
         ·exact yB X0 hC hJ7 Row_e_e1.To hf2 [Hq c4]
       ·obtain rfl := zb hf2
        obtain rfl := hl2
        exact yB X0 hC hJ5 b_Rows3 hf1 [Hq c3]
     ·obtain rfl := zb hf1
      obtain rfl := hl1
      exact yB X0 hC hJ3 b_Rows1 hf0 [Hq c2]
   ·rcases zD hf0 with ⟨c5, hf0⟩ | ⟨c5, hf0⟩
    ·obtain ⟨g2, hf0⟩ := gdE hf0
     obtain ⟨g3, hf0⟩ := gdE hf0
     obtain ⟨to_e2, h13, hf0⟩ := ze hf0
     obtain ⟨to_e3, h14, hf0⟩ := ze hf0
     obtain ⟨to_e4, h15, hf0⟩ := ze hf0
     obtain ⟨u_e, h16, hf0⟩ := ze hf0
     exact yB ((xIx xg 73 6 pv6).or ((xMv Try.prog 62 6 pv6 hv6).or X0)) hC hJ2 ((to.set (w64 (1 + (Int.tmod (w64 (x_.Swap.e0)) (w64 (((r_.Rows.length : Nat) : Int) - 1))))).toNat to_e2).set (w64 (1 + (Int.tmod (w64 (x_.Swap.e1)) (w64 (((r_.Rows.length : Nat) : Int) - 1))))).toNat to_e3) hf0 [Hq c5, Hn (⟨rfl, by decide⟩ : true = true ∧ 0 < 2), Hn g2, Hn (⟨rfl, by decide⟩ : true = true ∧ 1 < 2), Hn g3, Hn (rfl : some pv6 = some pv6), Hn (iL (eI .i64) h13), Hs (iM (eI .i64) h13), Hn (iL (eI .i64) h14), Hs (iM (eI .i64) h14), Hn (iL (eI .i64) h15), Hs (iM (eI .i64) h15), Hs (iM (eI .i64) h15), Hl (sM (eI .i64) to (w64 (1 + (Int.tmod (w64 (x_.Swap.e0)) (w64 (((r_.Rows.length : Nat) : Int) - 1))))) to_e2), Hn (⟨rfl, rfl⟩ : T.d (.atom pv6) = T.d (.atom pv6) ∧ some pv6 = some pv6), Hn (iL (eI .i64) h16), Hs (iM (eI .i64) h16), Hs (iM (eI .i64) h16), Hl (sM (eI .i64) (to.set (w64 (1 + (Int.tmod (w64 (x_.Swap.e0)) (w64 (((r_.Rows.length : Nat) : Int) - 1))))).toNat to_e2) (w64 (1 + (Int.tmod (w64 (x_.Swap.e1)) (w64 (((r_.Rows.length : Nat) : Int) - 1))))) to_e3)]
    ·exact yB X0 hC hJ2 to hf0 [Hq c5]
  ·obtain ⟨t8, ht8, hf0⟩ := ze hf0
   refine yLx X0 hC xk [1,1,1,1,1,2,1,0] [J1] (fun s => je r_ s.1 s.2) (fun x => Qx x_ r_ x.1 x.2) (([] : List Int), 0) ht8 [(1, .own (.box (.agg [kK x_.M, kK x_.X, B x_.Alike, (yG (eI .u8)) x_.Swap, (yG (eI .u8)) x_.Place, F7_ x_.To]))), (2, .own (.box (.agg [I 0, I 0, eOs 1 true zP []]))), (3, .own (.box (.agg [I 0, I 0, eOs 1 true zP []]))), (4, .own (.box (zl r_))), (5, .d (I ((r_.Rows.length : Nat) : Int))), (6, .own (eOs 1 true (eI .i64) [])), (7, .d (I 0))] inferInstance [] ?_
   rintro ⟨to2, s_1⟩ m8 lr1 hf1 hl1 J8 hJ8
   try unfold je at hf1
   rcases zD hf1 with ⟨c6, hf1⟩ | ⟨c6, hf1⟩
   ·obtain ⟨g4, hf1⟩ := gdE hf1
    obtain rfl := zb hf1
    exact yB X0 hC hJ8 ((to2 ++ ([s_1] : List Int)), w64 (s_1 + 1)) hl1 [Hq c6, Hq (dM (eI .i64) ([s_1] : List Int)), Hn (dM (eI .i64) ([s_1] : List Int)), Hn (aL (eI .i64) (eI .i64) g4), Hl (aM (eI .i64) to2 ([s_1] : List Int))]
   ·obtain rfl := zb hf1
    obtain rfl := hl1
    exact yB X0 hC hJ1 to2 hf0 [Hq c6]
def x7 : Code := (Try.f72.body).getD .skip
def kN : yj := spF (α := z6 × z6) (ρ := z6) 72 (fun x => [zl x.1, zl x.2]) (fun r => zl r) (fun x => jJ x.1 x.2) [] (Wf)
abbrev VE (a_ : z6) (b_ : z6) (m_Rows1 : List (List z7)) : List (Nat × T) := [(4, .own (.box (.agg [I 0, I 0, eOs 1 true zP []]))), (5, .own (.box (.agg [I a_.Inputs, I (mx a_.Outputs b_.Outputs), eOs 1 false zP m_Rows1])))]
abbrev VD (a_ : z6) (b_ : z6) (s_ : Int) (m_Rows3 : List (List z7)) : List (Nat × T) := [(2, .own (.box (zl a_))), (3, .own (.box (zl b_))), (4, .own (.box (.agg [I 0, I 0, eOs 1 true zP []]))), (5, .own (.box (.agg [I a_.Inputs, I (mx a_.Outputs b_.Outputs), eOs 1 false zP m_Rows3]))), (7, .d (I s_))]
abbrev VC (a_ : z6) (b_ : z6) (m_Rows2 : List (List z7)) (s_ : Int) (row : List z7) : List (Nat × T) := [(2, .own (.box (zl a_))), (3, .own (.box (zl b_))), (4, .own (.box (.agg [I 0, I 0, eOs 1 true zP []]))), (5, .own (.box (.agg [I a_.Inputs, I (mx a_.Outputs b_.Outputs), eOs 1 false zP m_Rows2]))), (7, .d (I s_)), (8, .own (eOs 2 false F7_ row))]
abbrev VB (a_ : z6) (b_ : z6) (m_Rows2 : List (List z7)) (s_ : Int) (row1 : List z7) (i_ : Int) (Row_e_e : z7) (x_To : Int) : List (Nat × T) := [(2, .own (.box (zl a_))), (3, .own (.box (zl b_))), (4, .own (.box (.agg [I 0, I 0, eOs 1 true zP []]))), (5, .own (.box (.agg [I a_.Inputs, I (mx a_.Outputs b_.Outputs), eOs 1 false zP m_Rows2]))), (7, .d (I s_)), (8, .own (eOs 2 false F7_ row1)), (9, .d (I i_)), (10, .own (.box (.agg [I x_To, I Row_e_e.Out])))]
abbrev Vz (a_ : z6) (b_ : z6) (m_Rows2 : List (List z7)) (s_ : Int) (row1 : List z7) (i_ : Int) : List (Nat × T) := [(2, .own (.box (zl a_))), (3, .own (.box (zl b_))), (4, .own (.box (.agg [I 0, I 0, eOs 1 true zP []]))), (5, .own (.box (.agg [I a_.Inputs, I (mx a_.Outputs b_.Outputs), eOs 1 false zP m_Rows2]))), (7, .d (I s_)), (8, .own (eOs 2 false F7_ row1)), (9, .d (I i_))]
abbrev VA (a_ : z6) (b_ : z6) (m_Rows2 : List (List z7)) (s_ : Int) : List (Nat × T) := [(2, .own (.box (zl a_))), (3, .own (.box (zl b_))), (4, .own (.box (.agg [I 0, I 0, eOs 1 true zP []]))), (5, .own (.box (.agg [I a_.Inputs, I (mx a_.Outputs b_.Outputs), eOs 1 false zP m_Rows2]))), (7, .d (I s_))]
abbrev VF (a_ : z6) (b_ : z6) (m_Rows : List (List z7)) : List (Nat × T) := [(2, .own (.box (zl a_))), (3, .own (.box (zl b_))), (4, .own (.box (.agg [I 0, I 0, eOs 1 true zP []]))), (5, .own (.box (.agg [I a_.Inputs, I (mx a_.Outputs b_.Outputs), eOs 1 false zP m_Rows])))]
abbrev Vy (a_ : z6) (b_ : z6) (m_Rows4 : List (List z7)) (s_1 : Int) : List (Nat × T) := [(2, .own (.box (zl a_))), (3, .own (.box (zl b_))), (4, .own (.box (.agg [I 0, I 0, eOs 1 true zP []]))), (5, .own (.box (.agg [I a_.Inputs, I (mx a_.Outputs b_.Outputs), eOs 1 false zP m_Rows4]))), (6, .d (I s_1))]
def zS : XH Try.prog := ((z4Q xg (.inl 75) [74]).or X0)
theorem Ks {ctr : Ctr} (hC : zM Try.prog ctr) : kN.Ok Try.prog := by
 refine zV ?_
 rintro ⟨a_, b_⟩ r0 hf0
 try unfold jJ at hf0
 refine yO false [(4, some 34)] x7 78 Try.func72 fun E hE => ?_
 refine yJ zS hC x7 [1,1] [] [2,3,4,5] (fun z : List (List z7) => qO a_ b_ z = some r0) (fun z => VF a_ b_ z) [(2, .own (.box (zl a_))), (3, .own (.box (zl b_))), (4, .own (.box (.agg [I 0, I 0, eOs 1 true zP []]))), (5, .own (.box (.agg [I a_.Inputs, I (mx a_.Outputs b_.Outputs), eOs 1 true zP []])))] [Hh (.cut 2)] ?_ fun J1 hJ1 => ?_
 ·rintro m_Rows hf0
  unfold qO at hf0
  refine yJ zS hC x7 [1,1,1] [] [4,5] (fun z : List (List z7) => qN a_ b_ z = some r0) (fun z => VE a_ b_ z) [(2, .own (.box (zl a_))), (3, .own (.box (zl b_))), (4, .own (.box (.agg [I 0, I 0, eOs 1 true zP []]))), (5, .own (.box (.agg [I a_.Inputs, I (mx a_.Outputs b_.Outputs), eOs 1 false zP m_Rows])))] [Hh (.cut 0)] ?_ fun J2 hJ2 => ?_
  ·rintro m_Rows1 hf0
   unfold qN at hf0
   obtain rfl := zb hf0
   exact yE zS hC hE [Hm (shM zP zP m_Rows1)]
  ·obtain ⟨t3, ht3, hf0⟩ := ze hf0
   refine yL zS hC x7 [1,1,1,2,1,0] [J2] (fun s => xW a_ b_ s.1 s.2) (fun x => VA a_ b_ x.1 x.2) (m_Rows, 0) ht3  [] ?_
   rintro ⟨m_Rows2, s_⟩ m3 lr1 hf1 hl1 J3 hJ3
   try unfold xW at hf1
   let Z0 : List HO := [Ha (lnM zP b_.Rows)]
   rcases zD hf1 with ⟨c0, hf1⟩ | ⟨c0, hf1⟩
   ·refine yJ zS hC x7 [1,1,1,2,1,0,0,1] [J2, J3] [2,3,4,5,7] (fun z : List (List z7) => qM s_ z = some lr1) (fun z => VD a_ b_ s_ z) [(2, .own (.box (zl a_))), (3, .own (.box (zl b_))), (4, .own (.box (.agg [I 0, I 0, eOs 1 true zP []]))), (5, .own (.box (.agg [I a_.Inputs, I (mx a_.Outputs b_.Outputs), eOs 1 false zP m_Rows2]))), (7, .d (I s_))] (Z0 ++ [Hq c0, Hh (.cut 0)]) ?_ fun J4 hJ4 => ?_
    ·rintro m_Rows3 hf1
     unfold qM at hf1
     obtain rfl := zb hf1
     exact yB zS hC hJ3 (m_Rows3, w64 (s_ + 1)) hl1 []
    ·refine yJ zS hC x7 [1,1,1,2,1,0,0,1,2,0,1] [J2, J3, J4] [2,3,4,5,7,8] (fun z : List z7 => qL m_Rows2 s_ z = some lr1) (fun z => VC a_ b_ m_Rows2 s_ z) [(2, .own (.box (zl a_))), (3, .own (.box (zl b_))), (4, .own (.box (.agg [I 0, I 0, eOs 1 true zP []]))), (5, .own (.box (.agg [I a_.Inputs, I (mx a_.Outputs b_.Outputs), eOs 1 false zP m_Rows2]))), (7, .d (I s_)), (8, .own (eOs 2 true F7_ []))] [Hh (.cut 1)] ?_ fun J5 hJ5 => ?_
     ·rintro row hf1
      unfold qL at hf1
      obtain ⟨g0, hf1⟩ := gdE hf1
      exact yB zS hC hJ4 (m_Rows2 ++ ([row] : List (List z7))) hf1 [Hm (shM uv zP ([row])), Hn (dM zP ([row] : List (List z7))), Hn (aL zP zP g0), Hl (aM zP m_Rows2 ([row] : List (List z7)))]
     ·obtain ⟨t6, ht6, hf1⟩ := ze hf1
      refine yLx zS hC x7 [1,1,1,2,1,0,0,1,2,0,1,2,1,0] [J2, J3, J4, J5] (fun s => xV a_ b_ s_ s.1 s.2) (fun x => Vz a_ b_ m_Rows2 s_ x.1 x.2) (([] : List z7), 0) ht6 [(2, .own (.box (zl a_))), (3, .own (.box (zl b_))), (4, .own (.box (.agg [I 0, I 0, eOs 1 true zP []]))), (5, .own (.box (.agg [I a_.Inputs, I (mx a_.Outputs b_.Outputs), eOs 1 false zP m_Rows2]))), (7, .d (I s_)), (8, .own (eOs 2 true F7_ [])), (9, .d (I 0))] inferInstance [] ?_
      rintro ⟨row1, i_⟩ m6 lr2 hf2 hl2 J6 hJ6
      try unfold xV at hf2
      rcases zD hf2 with ⟨c1, hf2⟩ | ⟨c1, hf2⟩
      ·obtain ⟨Row_e, h0, hf2⟩ := ze hf2
       obtain ⟨Row_e_e, h1, hf2⟩ := ze hf2
       refine yJ zS hC x7 [1,1,1,2,1,0,0,1,2,0,1,2,1,0,0,1,0,0,1] [J2, J3, J4, J5, J6] [2,3,4,5,7,8,9,10] (fun z : Int => u6 row1 i_ Row_e_e z = some lr2) (fun z => VB a_ b_ m_Rows2 s_ row1 i_ Row_e_e z) [(2, .own (.box (zl a_))), (3, .own (.box (zl b_))), (4, .own (.box (.agg [I 0, I 0, eOs 1 true zP []]))), (5, .own (.box (.agg [I a_.Inputs, I (mx a_.Outputs b_.Outputs), eOs 1 false zP m_Rows2]))), (7, .d (I s_)), (8, .own (eOs 2 false F7_ row1)), (9, .d (I i_)), (10, .own (.box (F7_ Row_e_e)))] [Hq c1, Hi zP h0, Hi F7_ h1, Hh (.cut 0)] ?_ fun J7 hJ7 => ?_
       ·rintro x_To hf2
        unfold u6 at hf2
        obtain ⟨g1, hf2⟩ := gdE hf2
        obtain rfl := zb hf2
        exact yB zS hC hJ6 ((row1 ++ ([(z7.mk x_To Row_e_e.Out)] : List z7)), w64 (i_ + 1)) hl2 [Hq (dM F7_ ([(z7.mk x_To Row_e_e.Out)] : List z7)), Hn (dM F7_ ([(z7.mk x_To Row_e_e.Out)] : List z7)), Hn (aL F7_ F7_ g1), Hl (aM F7_ row1 ([(z7.mk x_To Row_e_e.Out)] : List z7))]
       ·rcases zD hf2 with ⟨c2, hf2⟩ | ⟨c2, hf2⟩
        ·exact yB zS hC hJ7 (w64 (Row_e_e.To + ((a_.Rows.length : Nat) : Int))) hf2 [Hq c2, Ha (lnM zP a_.Rows)]
        ·exact yB zS hC hJ7 Row_e_e.To hf2 [Hq c2]
      ·obtain rfl := zb hf2
       obtain rfl := hl2
       exact yB zS hC hJ5 row1 hf1 [Hq c1]
   ·obtain rfl := zb hf1
    obtain rfl := hl1
    exact yB zS hC hJ2 m_Rows2 hf0 (Z0 ++ [Hq c0])
 ·obtain ⟨t8, ht8, hf0⟩ := ze hf0
  refine yLx zS hC x7 [1,1,2,1,0] [J1] (fun s => xU a_ s.1 s.2) (fun x => Vy a_ b_ x.1 x.2) (([] : List (List z7)), 0) ht8 [(2, .own (.box (zl a_))), (3, .own (.box (zl b_))), (4, .own (.box (.agg [I 0, I 0, eOs 1 true zP []]))), (5, .own (.box (.agg [I a_.Inputs, I (mx a_.Outputs b_.Outputs), eOs 1 true zP []]))), (6, .d (I 0))] inferInstance [] ?_
  rintro ⟨m_Rows4, s_1⟩ m8 lr1 hf1 hl1 J8 hJ8
  try unfold xU at hf1
  let Z1 : List HO := [Ha (lnM zP a_.Rows)]
  rcases zD hf1 with ⟨c3, hf1⟩ | ⟨c3, hf1⟩
  ·obtain ⟨Row_e1, h2, hf1⟩ := ze hf1
   obtain ⟨g2, hf1⟩ := gdE hf1
   obtain rfl := zb hf1
   exact yB zS hC hJ8 ((m_Rows4 ++ ([Row_e1] : List (List z7))), w64 (s_1 + 1)) hl1 (Z1 ++ [Hq c3, Hi zP h2, Hq (dM zP ([Row_e1] : List (List z7))), Hn (dM zP ([Row_e1] : List (List z7))), Hn (aL zP zP g2), Hl (aM zP m_Rows4 ([Row_e1] : List (List z7)))])
  ·obtain rfl := zb hf1
   obtain rfl := hl1
   exact yB zS hC hJ1 m_Rows4 hf0 (Z1 ++ [Hq c3])
def jH : Code := (Try.f99.body).getD .skip
def ZK : yj := spF (α := z6 × List (List Bool) × Int × Int) (ρ := Int) 99 (fun x => [zl x.1, (eSl 1 false (eSl 1 false eB)) x.2.1, (eI .i64) x.2.2.1, (eI .i64) x.2.2.2]) (fun r => (eI .i64) r) (fun x => kU x.1 x.2.1 x.2.2.1 x.2.2.2) [] (zed)
abbrev UC : List (Nat × T) := []
abbrev UB (m_ : z6) (marked : List (List Bool)) (s_ : Int) (t_ : Int) (i_ : Int) (x41 : Int) (x42 : Bool) (x43 : Bool) (x47 : Bool) (x48 : Bool) (x58 : Bool) : List (Nat × T) := [(1, .d (eSl 1 false (eSl 1 false eB) marked)), (2, .d (I s_)), (3, .d (I t_)), (4, .own (.box (zl m_))), (9, .d (I i_)), (41, .d (I x41)), (42, .d (B x42)), (43, .d (B x43)), (47, .d (B x47)), (48, .d (B x48)), (58, .d (B x58))]
abbrev UA (m_ : z6) (marked : List (List Bool)) (s_ : Int) (t_ : Int) (i_ : Int) : List (Nat × T) := [(1, .d (eSl 1 false (eSl 1 false eB) marked)), (2, .d (I s_)), (3, .d (I t_)), (4, .own (.box (zl m_))), (9, .d (I i_))]
theorem z0j {ctr : Ctr} (hC : zM Try.prog ctr) : ZK.Ok Try.prog := by
 refine zV ?_
 rintro ⟨m_, marked, s_, t_⟩ r0 hf0
 try unfold kU at hf0
 refine yO true [(8, none)] jH 60 Try.func99 fun E hE => ?_
 refine yJ X0 hC jH [1] [] [] (fun z : Unit => ZQ = some r0) (fun z => UC) [(1, .d (eSl 1 false (eSl 1 false eB) marked)), (2, .d (I s_)), (3, .d (I t_)), (4, .own (.box (zl m_)))] [Hh (.cut 1)] ?_ fun J1 hJ1 => ?_
 ·rintro ⟨⟩ hf0
  unfold ZQ at hf0
  obtain rfl := zb hf0
  exact yE X0 hC hE []
 ·obtain ⟨t2, ht2, hf0⟩ := ze hf0
  refine yL X0 hC jH [1,2,1,0] [J1] (fun s => vq m_ marked s_ t_ s) (fun x => UA m_ marked s_ t_ x) 0 ht2  [] ?_
  rintro i_ m2 lr1 hf1 hl1 J2 hJ2
  try unfold vq at hf1
  rcases zD hf1 with ⟨c0, hf1⟩ | ⟨c0, hf1⟩
  ·refine yJ X0 hC jH [1,2,1,0,0,1] [J1, J2] [1,2,3,4,9,41,42,43,47,48,58] (fun z : Int × Bool × Bool × Bool × Bool × Bool => vt i_ z.1 z.2.1 z.2.2.1 z.2.2.2.1 z.2.2.2.2.1 z.2.2.2.2.2 = some lr1) (fun z => UB m_ marked s_ t_ i_ z.1 z.2.1 z.2.2.1 z.2.2.2.1 z.2.2.2.2.1 z.2.2.2.2.2) [(1, .d (eSl 1 false (eSl 1 false eB) marked)), (2, .d (I s_)), (3, .d (I t_)), (4, .own (.box (zl m_))), (9, .d (I i_))] [Hq c0, Hh (.cut 0)] ?_ fun J3 hJ3 => ?_
   ·rintro ⟨x41, x42, x43, x47, x48, x58⟩ hf1
    unfold vt at hf1
    obtain rfl := zb hf1
    exact yB X0 hC hJ2 (w64 (i_ + 1)) hl1 []
   ·obtain ⟨Row_e, h0, hf1⟩ := ze hf1
    obtain ⟨Row_e_e, h1, hf1⟩ := ze hf1
    obtain ⟨Row_e1, h2, hf1⟩ := ze hf1
    obtain ⟨Row_e_e1, h3, hf1⟩ := ze hf1
    let Z0 : List HO := [Hi zP h0, Hi F7_ h1, Hi zP h2, Hi F7_ h3]
    rcases zD hf1 with ⟨c1, hf1⟩ | ⟨c1, hf1⟩
    ·obtain rfl := zb hf1
     obtain rfl := hl1
     obtain rfl := zb hf0
     exact yE X0 hC hE (Z0 ++ (rpN 8 (Hq c1) [qT]))
    ·let Z1 : List HO := (Z0 ++ (rpN 4 (Hq c1) []))
     rcases zD hf1 with ⟨c2, hf1⟩ | ⟨c2, hf1⟩
     ·let Z2 : List HO := (Z1 ++ [Hq c2, Hq c2, Hq c2, Hq c1, Hq c2, Hq c1])
      rcases zD hf1 with ⟨c3, hf1⟩ | ⟨c3, hf1⟩
      ·obtain ⟨marked_e, h4, hf1⟩ := ze hf1
       obtain ⟨marked_e_e, h5, hf1⟩ := ze hf1
       let Z3 : List HO := (Z2 ++ (rpN 4 (Hq c3) (Hi (eSl 1 false eB) h4 :: (rpN 4 (Hq c3) [Hi eB h5, Hq c3, Hq c1, Hq c3, Hq c1]))))
       rcases zD hf1 with ⟨c4, hf1⟩ | ⟨c4, hf1⟩
       ·obtain rfl := zb hf1
        obtain rfl := hl1
        obtain rfl := zb hf0
        exact yE X0 hC hE (Z3 ++ [Hq c4])
       ·exact yB X0 hC hJ3 (Row_e_e.To, decide (Row_e_e.To ≥ 0), decide (Row_e_e.To ≥ 0), decide (Row_e_e1.To ≥ 0), decide (Row_e_e1.To ≥ 0), marked_e_e) hf1 (Z3 ++ [Hq c4])
      ·exact yB X0 hC hJ3 (Row_e_e.To, decide (Row_e_e.To ≥ 0), decide (Row_e_e.To ≥ 0), decide (Row_e_e1.To ≥ 0), decide (Row_e_e1.To ≥ 0), false) hf1 (Z2 ++ (rpN 9 (Hq c3) [Hq c1, Hq c3, Hq c1, qF]))
     ·exact yB X0 hC hJ3 (Row_e_e.To, decide (Row_e_e.To ≥ 0), decide (Row_e_e.To ≥ 0), false, false, false) hf1 (Z1 ++ (Hq c2 :: Hq c2 :: Hq c2 :: Hq c1 :: Hq c2 :: Hq c1 :: (rpN 9 qF [Hq c1, qF, Hq c1, qF])))
  ·obtain rfl := zb hf1
   obtain rfl := hl1
   exact yB X0 hC hJ1 () hf0 [Hq c0]
def yK : Code := (Try.f73.body).getD .skip
def qw : yj := spF (α := z6 × Int) (ρ := List (List Bool)) 73 (fun x => [zl x.1, (eI .i64) x.2]) (fun r => (eOs 1 false (eOs 1 true eB)) r) (fun x => uc x.1 x.2) [] (Wf)
abbrev VU (marked1 : List (List Bool)) : List (Nat × T) := [(6, .own (eOs 1 false (eOs 1 true eB) marked1))]
abbrev VT (m_ : z6) (k_ : Int) (round : Int) (marked3 : List (List Bool)) : List (Nat × T) := [(1, .d (I k_)), (2, .own (.box (zl m_))), (5, .d (I ((m_.Rows.length : Nat) : Int))), (6, .own (eOs 1 false (eOs 1 true eB) marked3)), (8, .d (I round))]
abbrev VS (m_ : z6) (k_ : Int) (round : Int) (next : List (List Bool)) : List (Nat × T) := [(1, .d (I k_)), (2, .own (.box (zl m_))), (5, .d (I ((m_.Rows.length : Nat) : Int))), (8, .d (I round)), (9, .own (eOs 1 false (eOs 1 true eB) next))]
abbrev VR (m_ : z6) (k_ : Int) (marked2 : List (List Bool)) (round : Int) (s_ : Int) (next2 : List (List Bool)) : List (Nat × T) := [(1, .d (I k_)), (2, .own (.box (zl m_))), (5, .d (I ((m_.Rows.length : Nat) : Int))), (6, .d (eSl 1 false (eSl 1 true eB) marked2)), (8, .d (I round)), (9, .own (eOs 1 false (eOs 1 true eB) next2)), (10, .d (I s_))]
abbrev VO (m_ : z6) (k_ : Int) (marked2 : List (List Bool)) (round : Int) (s_ : Int) (next3 : List (List Bool)) (t_ : Int) : List (Nat × T) := [(1, .d (I k_)), (2, .own (.box (zl m_))), (5, .d (I ((m_.Rows.length : Nat) : Int))), (6, .d (eSl 1 false (eSl 1 true eB) marked2)), (8, .d (I round)), (9, .own (eOs 1 false (eOs 1 true eB) next3)), (10, .d (I s_)), (11, .d (I t_))]
abbrev VP (m_ : z6) (k_ : Int) (marked2 : List (List Bool)) (round : Int) (next1 : List (List Bool)) (s_ : Int) : List (Nat × T) := [(1, .d (I k_)), (2, .own (.box (zl m_))), (5, .d (I ((m_.Rows.length : Nat) : Int))), (6, .d (eSl 1 false (eSl 1 true eB) marked2)), (8, .d (I round)), (9, .own (eOs 1 false (eOs 1 true eB) next1)), (10, .d (I s_))]
abbrev VQ (m_ : z6) (k_ : Int) (marked2 : List (List Bool)) (round : Int) : List (Nat × T) := [(1, .d (I k_)), (2, .own (.box (zl m_))), (5, .d (I ((m_.Rows.length : Nat) : Int))), (6, .own (eOs 1 false (eOs 1 true eB) marked2)), (8, .d (I round))]
abbrev VV (m_ : z6) (k_ : Int) (marked : List (List Bool)) : List (Nat × T) := [(1, .d (I k_)), (2, .own (.box (zl m_))), (5, .d (I ((m_.Rows.length : Nat) : Int))), (6, .own (eOs 1 false (eOs 1 true eB) marked))]
abbrev VN (m_ : z6) (k_ : Int) (marked4 : List (List Bool)) (s_1 : Int) : List (Nat × T) := [(1, .d (I k_)), (2, .own (.box (zl m_))), (5, .d (I ((m_.Rows.length : Nat) : Int))), (6, .own (eOs 1 false (eOs 1 true eB) marked4)), (7, .d (I s_1))]
theorem Kv {ctr : Ctr} (hC : zM Try.prog ctr) (h0G : ctr.Has ZK) : qw.Ok Try.prog := by
 refine zV ?_
 rintro ⟨m_, k_⟩ r0 hf0
 try unfold uc at hf0
 refine yO true [(4, none)] yK 68 Try.func73 fun E hE => ?_
 refine yJ X0 hC yK [1,1,1] [] [1,2,5,6] (fun z : List (List Bool) => qY m_ k_ z = some r0) (fun z => VV m_ k_ z) [(1, .d (I k_)), (2, .own (.box (zl m_))), (5, .d (I ((m_.Rows.length : Nat) : Int))), (6, .own (eOs 1 true (eSl 1 false eB) []))] [Ha (lnM zP m_.Rows), Hh (.cut 1)] ?_ fun J1 hJ1 => ?_
 ·rintro marked hf0
  unfold qY at hf0
  refine yJ X0 hC yK [1,1,1,1] [] [6] (fun z : List (List Bool) => qX z = some r0) (fun z => VU z) [(1, .d (I k_)), (2, .own (.box (zl m_))), (5, .d (I ((m_.Rows.length : Nat) : Int))), (6, .own (eOs 1 false (eOs 1 true eB) marked))] [Hh (.cut 0)] ?_ fun J2 hJ2 => ?_
  ·rintro marked1 hf0
   unfold qX at hf0
   obtain rfl := zb hf0
   exact yE X0 hC hE []
  ·obtain ⟨t3, ht3, hf0⟩ := ze hf0
   refine yL X0 hC yK [1,1,1,1,2,1,0] [J2] (fun s => w6 m_ k_ s.1 s.2) (fun x => VQ m_ k_ x.1 x.2) (marked, 0) ht3  [] ?_
   rintro ⟨marked2, round⟩ m3 lr1 hf1 hl1 J3 hJ3
   try unfold w6 at hf1
   rcases zD hf1 with ⟨c0, hf1⟩ | ⟨c0, hf1⟩
   ·refine yJ X0 hC yK [1,1,1,1,2,1,0,0,1] [J2, J3] [1,2,5,6,8] (fun z : List (List Bool) => qW round z = some lr1) (fun z => VT m_ k_ round z) [(1, .d (I k_)), (2, .own (.box (zl m_))), (5, .d (I ((m_.Rows.length : Nat) : Int))), (6, .own (eOs 1 false (eOs 1 true eB) marked2)), (8, .d (I round))] [Hq c0, Hh (.cut 0)] ?_ fun J4 hJ4 => ?_
    ·rintro marked3 hf1
     unfold qW at hf1
     obtain rfl := zb hf1
     exact yB X0 hC hJ3 (marked3, w64 (round + 1)) hl1 []
    ·refine yJ X0 hC yK [1,1,1,1,2,1,0,0,1,2,0,1] [J2, J3, J4] [1,2,5,8,9] (fun z : List (List Bool) => qV round z = some lr1) (fun z => VS m_ k_ round z) [(1, .d (I k_)), (2, .own (.box (zl m_))), (5, .d (I ((m_.Rows.length : Nat) : Int))), (6, .own (eOs 1 false (eOs 1 true eB) marked2)), (8, .d (I round)), (9, .own (eOs 1 true (eSl 1 false eB) []))] [Hh (.cut 1)] ?_ fun J5 hJ5 => ?_
     ·rintro next hf1
      unfold qV at hf1
      exact yB X0 hC hJ4 next hf1 []
     ·obtain ⟨t6, ht6, hf1⟩ := ze hf1
      refine yLx X0 hC yK [1,1,1,1,2,1,0,0,1,2,0,1,2,1,0] [J2, J3, J4, J5] (fun s => xZ m_ marked2 s.1 s.2) (fun x => VP m_ k_ marked2 round x.1 x.2) (([] : List (List Bool)), 0) ht6 [(1, .d (I k_)), (2, .own (.box (zl m_))), (5, .d (I ((m_.Rows.length : Nat) : Int))), (6, .d (eSl 1 false (eSl 1 true eB) marked2)), (8, .d (I round)), (9, .own (eOs 1 true (eOs 1 true eB) [])), (10, .d (I 0))] inferInstance [Hh (.n 3 [6]), Hm (shM (eOs 1 true eB) (eSl 1 true eB) marked2)] ?_
      rintro ⟨next1, s_⟩ m6 lr2 hf2 hl2 J6 hJ6
      try unfold xZ at hf2
      rcases zD hf2 with ⟨c1, hf2⟩ | ⟨c1, hf2⟩
      ·refine yJ X0 hC yK [1,1,1,1,2,1,0,0,1,2,0,1,2,1,0,0,1] [J2, J3, J4, J5, J6] [1,2,5,6,8,9,10] (fun z : List (List Bool) => qU s_ z = some lr2) (fun z => VR m_ k_ marked2 round s_ z) [(1, .d (I k_)), (2, .own (.box (zl m_))), (5, .d (I ((m_.Rows.length : Nat) : Int))), (6, .d (eSl 1 false (eSl 1 true eB) marked2)), (8, .d (I round)), (9, .own (eOs 1 false (eOs 1 true eB) next1)), (10, .d (I s_))] [Hq c1, Hh (.cut 0)] ?_ fun J7 hJ7 => ?_
       ·rintro next2 hf2
        unfold qU at hf2
        obtain rfl := zb hf2
        exact yB X0 hC hJ6 (next2, w64 (s_ + 1)) hl2 []
       ·obtain ⟨g0, hf2⟩ := gdE hf2
        obtain ⟨g1, hf2⟩ := gdE hf2
        obtain ⟨t8, ht8, hf2⟩ := ze hf2
        refine yL X0 hC yK [1,1,1,1,2,1,0,0,1,2,0,1,2,1,0,0,1,2,0,1,1,0] [J2, J3, J4, J5, J6, J7] (fun s => xY m_ marked2 s_ s.1 s.2) (fun x => VO m_ k_ marked2 round s_ x.1 x.2) ((next1 ++ ([(List.replicate ((m_.Rows.length : Nat) : Int).toNat false)] : List (List Bool))), 0) ht8  [Hn (rL g0), Ha (rM 1 eB ((m_.Rows.length : Nat) : Int) false), Hq (oC (eOs 1 true eB) (List.replicate ((m_.Rows.length : Nat) : Int).toNat false) []), Hn (aL (eOs 1 true eB) (eOs 1 true eB) g1), Hl (aM (eOs 1 true eB) next1 ([(List.replicate ((m_.Rows.length : Nat) : Int).toNat false)] : List (List Bool)))] ?_
        rintro ⟨next3, t_⟩ m8 lr3 hf3 hl3 J8 hJ8
        try unfold xY at hf3
        rcases zD hf3 with ⟨c2, hf3⟩ | ⟨c2, hf3⟩
        ·obtain ⟨next_e, h0, hf3⟩ := ze hf3
         obtain ⟨marked_e, h1, hf3⟩ := ze hf3
         obtain ⟨marked_e_e, h2, hf3⟩ := ze hf3
         let Z0 : List HO := [Hq c2, Hn (iL (eOs 1 true eB) h0), Hs (iM (eOs 1 true eB) h0), Hi (eSl 1 true eB) h1, Hi eB h2]
         rcases zD hf3 with ⟨c3, hf3⟩ | ⟨c3, hf3⟩
         ·obtain ⟨next_e_e, h3, hf3⟩ := ze hf3
          obtain rfl := zb hf3
          exact yB X0 hC hJ8 ((next3.set s_.toNat (next_e.set t_.toNat true)), w64 (t_ + 1)) hl3 (Z0 ++ (rpN 7 (Hq c3) [Hs (iM (eOs 1 true eB) h0), Hn (iL eB h3), Hs (iM (eOs 1 true eB) h0), Hs (iM eB h3), Hs (iM (eOs 1 true eB) h0), Hs (iM eB h3), Hl (sM eB next_e t_ true), Hl (sM (eOs 1 true eB) next3 s_ (next_e.set t_.toNat true))]))
         ·obtain ⟨r_, h4, hf3⟩ := ze hf3
          obtain ⟨next_e_e1, h5, hf3⟩ := ze hf3
          obtain rfl := zb hf3
          exact yB X0 hC hJ8 ((next3.set s_.toNat (next_e.set t_.toNat (r_ == 1))), w64 (t_ + 1)) hl3 (Z0 ++ (rpN 5 (Hq c3) [Hc h0G (x := (m_, marked2, s_, t_)) h4 (loC zl m_ <| loC (eSl 1 false (eSl 1 true eB)) marked2 <| loC (eI .i64) s_ <| loC (eI .i64) t_ <| loN), Hq c3, Hq c3, Hs (iM (eOs 1 true eB) h0), Hn (iL eB h5), Hs (iM (eOs 1 true eB) h0), Hs (iM eB h5), Hs (iM (eOs 1 true eB) h0), Hs (iM eB h5), Hl (sM eB next_e t_ (r_ == 1)), Hl (sM (eOs 1 true eB) next3 s_ (next_e.set t_.toNat (r_ == 1)))]))
        ·obtain rfl := zb hf3
         obtain rfl := hl3
         exact yB X0 hC hJ7 next3 hf2 [Hq c2]
      ·obtain rfl := zb hf2
       obtain rfl := hl2
       exact yB X0 hC hJ5 next1 hf1 [Hq c1]
   ·obtain rfl := zb hf1
    obtain rfl := hl1
    exact yB X0 hC hJ2 marked2 hf0 [Hq c0]
 ·obtain ⟨t9, ht9, hf0⟩ := ze hf0
  refine yLx X0 hC yK [1,1,1,2,1,0] [J1] (fun s => xX m_ s.1 s.2) (fun x => VN m_ k_ x.1 x.2) (([] : List (List Bool)), 0) ht9 [(1, .d (I k_)), (2, .own (.box (zl m_))), (5, .d (I ((m_.Rows.length : Nat) : Int))), (6, .own (eOs 1 true (eOs 1 true eB) [])), (7, .d (I 0))] inferInstance [] ?_
  rintro ⟨marked4, s_1⟩ m9 lr1 hf1 hl1 J9 hJ9
  try unfold xX at hf1
  rcases zD hf1 with ⟨c4, hf1⟩ | ⟨c4, hf1⟩
  ·obtain ⟨g2, hf1⟩ := gdE hf1
   obtain ⟨g3, hf1⟩ := gdE hf1
   obtain rfl := zb hf1
   exact yB X0 hC hJ9 ((marked4 ++ ([(List.replicate ((m_.Rows.length : Nat) : Int).toNat false)] : List (List Bool))), w64 (s_1 + 1)) hl1 [Hq c4, Hn (rL g2), Ha (rM 1 eB ((m_.Rows.length : Nat) : Int) false), Hq (oC (eOs 1 true eB) (List.replicate ((m_.Rows.length : Nat) : Int).toNat false) []), Hn (aL (eOs 1 true eB) (eOs 1 true eB) g3), Hl (aM (eOs 1 true eB) marked4 ([(List.replicate ((m_.Rows.length : Nat) : Int).toNat false)] : List (List Bool)))]
  ·obtain rfl := zb hf1
   obtain rfl := hl1
   exact yB X0 hC hJ1 marked4 hf0 [Hq c4]
def wa : Code := (Try.f32.body).getD .skip
def vR : yj := spF (α := z6 × z6) (ρ := List Int × Bool) 32 (fun x => [zl x.1, zl x.2]) (fun r => .tup [F2_ r.1, eB r.2]) (fun x => u3 x.1 x.2) [] (Wf)
abbrev Vw (w_ : List Int) : List (Nat × T) := [(10, .own (eOs 1 false (eI .i64) w_))]
abbrev Vv (r_ : z6) (s_ : Int) (t_ : Int) (n_1 : Int) (w_1 : List Int) (r_1 : List (List Bool)) (i_ : Int) (x82 : Int) (x83 : Bool) (x84 : Bool) (x88 : Bool) (x89 : Bool) (x99 : Bool) : List (Nat × T) := [(6, .own (.box (zl r_))), (7, .d (I s_)), (8, .d (I t_)), (9, .d (I (w64 (n_1 - 1)))), (10, .own (eOs 1 false (eI .i64) w_1)), (11, .own (eOs 1 false (eOs 1 true eB) r_1)), (12, .d (I i_)), (82, .d (I x82)), (83, .d (B x83)), (84, .d (B x84)), (88, .d (B x88)), (89, .d (B x89)), (99, .d (B x99))]
abbrev Vt (r_ : z6) (s_ : Int) (t_ : Int) (n_1 : Int) (w_1 : List Int) (r_1 : List (List Bool)) (i_ : Int) : List (Nat × T) := [(6, .own (.box (zl r_))), (7, .d (I s_)), (8, .d (I t_)), (9, .d (I (w64 (n_1 - 1)))), (10, .own (eOs 1 false (eI .i64) w_1)), (11, .own (eOs 1 false (eOs 1 true eB) r_1)), (12, .d (I i_))]
abbrev Vu (r_ : z6) (s_ : Int) (t_ : Int) (n_1 : Int) (w_1 : List Int) : List (Nat × T) := [(6, .own (.box (zl r_))), (7, .d (I s_)), (8, .d (I t_)), (9, .d (I n_1)), (10, .own (eOs 1 false (eI .i64) w_1))]
abbrev Vx (a_ : z6) (r_ : z6) (n_ : Int) : List (Nat × T) := [(6, .own (.box (zl r_))), (7, .d (I 0)), (8, .d (I ((a_.Rows.length : Nat) : Int))), (9, .d (I n_))]
abbrev Vs (a_ : z6) (r_ : z6) (n_2 : Int) : List (Nat × T) := [(6, .own (.box (zl r_))), (7, .d (I 0)), (8, .d (I ((a_.Rows.length : Nat) : Int))), (9, .d (I n_2))]
theorem Kr {ctr : Ctr} (hC : zM Try.prog ctr) (h0H : ctr.Has kN) (h0f : ctr.Has qw) : vR.Ok Try.prog := by
 refine zV ?_
 rintro ⟨a_, b_⟩ r0 hf0
 try unfold u3 at hf0
 refine yO false [(4, none), (5, none)] wa 110 Try.func32 fun E hE => ?_
 obtain ⟨r_, h0, hf0⟩ := ze hf0
 refine yJ X0 hC wa [1,1,1,1] [] [6,7,8,9] (fun z : Int => qJ a_ r_ z = some r0) (fun z => Vx a_ r_ z) [(6, .own (.box (zl r_))), (7, .d (I 0)), (8, .d (I ((a_.Rows.length : Nat) : Int))), (9, .d (I 0))] [Hc h0H (x := (a_, b_)) h0 (loC zl a_ <| loC zl b_ <| loN), Ha (lnM zP a_.Rows), Hh (.cut 1)] ?_ fun J1 hJ1 => ?_
 ·rintro n_ hf0
  unfold qJ at hf0
  let Z0 : List HO := [Ha (lnM zP r_.Rows)]
  rcases zD hf0 with ⟨c0, hf0⟩ | ⟨c0, hf0⟩
  ·obtain rfl := zb hf0
   exact yEx X0 hC hE (Z0 ++ [Hq c0, Hm (shM (eI .i64) (eI .i64) [])]) (.tup [eSl 1 true (eI .i64) [], B false]) (show LeV (.tup [eSl 1 true (eI .i64) [], B false]) (.tup [eSl 1 false (eI .i64) ([] : List Int), B false]) from inferInstance)
  ·refine yJ X0 hC wa [1,1,1,1,1,1,1] [] [10] (fun z : List Int => qI z = some r0) (fun z => Vw z) [(6, .own (.box (zl r_))), (7, .d (I 0)), (8, .d (I ((a_.Rows.length : Nat) : Int))), (9, .d (I n_)), (10, .own (eOs 1 true (eI .i64) []))] (Z0 ++ [Hq c0, Hh (.cut 1)]) ?_ fun J2 hJ2 => ?_
   ·rintro w_ hf0
    unfold qI at hf0
    obtain rfl := zb hf0
    exact yE X0 hC hE [Hm (shM (eI .i64) (eI .i64) w_)]
   ·obtain ⟨t3, ht3, hf0⟩ := ze hf0
    refine yLx X0 hC wa [1,1,1,1,1,1,1,2,0] [J2] (fun s => qH r_ s.1 s.2.1 s.2.2.1 s.2.2.2) (fun x => Vu r_ x.1 x.2.1 x.2.2.1 x.2.2.2) (0, ((a_.Rows.length : Nat) : Int), n_, ([] : List Int)) ht3 [(6, .own (.box (zl r_))), (7, .d (I 0)), (8, .d (I ((a_.Rows.length : Nat) : Int))), (9, .d (I n_)), (10, .own (eOs 1 true (eI .i64) []))] inferInstance [] ?_
    rintro ⟨s_, t_, n_1, w_1⟩ m3 lr1 hf1 hl1 J3 hJ3
    try unfold qH at hf1
    rcases zD hf1 with ⟨c1, hf1⟩ | ⟨c1, hf1⟩
    ·obtain ⟨r_1, h1, hf1⟩ := ze hf1
     obtain ⟨t4, ht4, hf1⟩ := ze hf1
     refine yL X0 hC wa [1,1,1,1,1,1,1,2,0,0,1,0,1,1,1,0] [J2, J3] (fun s => u0 r_ s_ t_ n_1 w_1 r_1 s) (fun x => Vt r_ s_ t_ n_1 w_1 r_1 x) 0 ht4  [Hq c1, Hc h0f (x := (r_, w64 (n_1 - 1))) h1 (loC zl r_ <| loC (eI .i64) (w64 (n_1 - 1)) <| loN)] ?_
     rintro i_ m4 lr2 hf2 hl2 J4 hJ4
     try unfold u0 at hf2
     rcases zD hf2 with ⟨c2, hf2⟩ | ⟨c2, hf2⟩
     ·refine yJ X0 hC wa [1,1,1,1,1,1,1,2,0,0,1,0,1,1,1,0,0,1] [J2, J3, J4] [6,7,8,9,10,11,12,82,83,84,88,89,99] (fun z : Int × Bool × Bool × Bool × Bool × Bool => wU i_ z.1 z.2.1 z.2.2.1 z.2.2.2.1 z.2.2.2.2.1 z.2.2.2.2.2 = some lr2) (fun z => Vv r_ s_ t_ n_1 w_1 r_1 i_ z.1 z.2.1 z.2.2.1 z.2.2.2.1 z.2.2.2.2.1 z.2.2.2.2.2) [(6, .own (.box (zl r_))), (7, .d (I s_)), (8, .d (I t_)), (9, .d (I (w64 (n_1 - 1)))), (10, .own (eOs 1 false (eI .i64) w_1)), (11, .own (eOs 1 false (eOs 1 true eB) r_1)), (12, .d (I i_))] [Hq c2, Hh (.cut 0)] ?_ fun J5 hJ5 => ?_
      ·rintro ⟨x82, x83, x84, x88, x89, x99⟩ hf2
       unfold wU at hf2
       obtain rfl := zb hf2
       exact yB X0 hC hJ4 (w64 (i_ + 1)) hl2 []
      ·obtain ⟨Row_e, h2, hf2⟩ := ze hf2
       obtain ⟨Row_e_e, h3, hf2⟩ := ze hf2
       obtain ⟨Row_e1, h4, hf2⟩ := ze hf2
       obtain ⟨Row_e_e1, h5, hf2⟩ := ze hf2
       let Z1 : List HO := [Hi zP h2, Hi F7_ h3, Hi zP h4, Hi F7_ h5]
       rcases zD hf2 with ⟨c3, hf2⟩ | ⟨c3, hf2⟩
       ·obtain ⟨g0, hf2⟩ := gdE hf2
        obtain rfl := zb hf2
        obtain rfl := hl2
        obtain rfl := zb hf1
        exact yB X0 hC hJ3 (Row_e_e.To, Row_e_e1.To, w64 (n_1 - 1), (w_1 ++ ([i_] : List Int))) hl1 (Z1 ++ (rpN 8 (Hq c3) [qT, Hq (dM (eI .i64) ([i_] : List Int)), Hn (dM (eI .i64) ([i_] : List Int)), Hn (aL (eI .i64) (eI .i64) g0), Hl (aM (eI .i64) w_1 ([i_] : List Int))]))
       ·let Z2 : List HO := (Z1 ++ (rpN 4 (Hq c3) []))
        rcases zD hf2 with ⟨c4, hf2⟩ | ⟨c4, hf2⟩
        ·let Z3 : List HO := (Z2 ++ [Hq c4, Hq c4, Hq c4, Hq c3, Hq c4, Hq c3])
         rcases zD hf2 with ⟨c5, hf2⟩ | ⟨c5, hf2⟩
         ·obtain ⟨r__e, h6, hf2⟩ := ze hf2
          obtain ⟨r__e_e, h7, hf2⟩ := ze hf2
          let Z4 : List HO := (Z3 ++ (rpN 4 (Hq c5) [Hn (iL (eOs 1 true eB) h6), Hq c5, Hs (iM (eOs 1 true eB) h6), Hq c5, Hq c5, Hq c5, Hs (iM (eOs 1 true eB) h6), Hn (iL eB h7), Hq c5, Hs (iM (eOs 1 true eB) h6), Hs (iM eB h7), Hq c3, Hq c5, Hq c3]))
          rcases zD hf2 with ⟨c6, hf2⟩ | ⟨c6, hf2⟩
          ·obtain ⟨g1, hf2⟩ := gdE hf2
           obtain rfl := zb hf2
           obtain rfl := hl2
           obtain rfl := zb hf1
           exact yB X0 hC hJ3 (Row_e_e.To, Row_e_e1.To, w64 (n_1 - 1), (w_1 ++ ([i_] : List Int))) hl1 (Z4 ++ [Hq c6, Hq (dM (eI .i64) ([i_] : List Int)), Hn (dM (eI .i64) ([i_] : List Int)), Hn (aL (eI .i64) (eI .i64) g1), Hl (aM (eI .i64) w_1 ([i_] : List Int))])
          ·exact yB X0 hC hJ5 (Row_e_e.To, decide (Row_e_e.To ≥ 0), decide (Row_e_e.To ≥ 0), decide (Row_e_e1.To ≥ 0), decide (Row_e_e1.To ≥ 0), r__e_e) hf2 (Z4 ++ [Hq c6])
         ·exact yB X0 hC hJ5 (Row_e_e.To, decide (Row_e_e.To ≥ 0), decide (Row_e_e.To ≥ 0), decide (Row_e_e1.To ≥ 0), decide (Row_e_e1.To ≥ 0), false) hf2 (Z3 ++ (rpN 9 (Hq c5) [Hq c3, Hq c5, Hq c3, qF]))
        ·exact yB X0 hC hJ5 (Row_e_e.To, decide (Row_e_e.To ≥ 0), decide (Row_e_e.To ≥ 0), false, false, false) hf2 (Z2 ++ (Hq c4 :: Hq c4 :: Hq c4 :: Hq c3 :: Hq c4 :: Hq c3 :: (rpN 9 qF [Hq c3, qF, Hq c3, qF])))
     ·obtain rfl := zb hf2
      obtain rfl := hl2
      obtain rfl := zb hf1
      exact yB X0 hC hJ3 (s_, t_, w64 (n_1 - 1), w_1) hl1 [Hq c2]
    ·obtain rfl := zb hf1
     obtain rfl := hl1
     exact yB X0 hC hJ2 w_1 hf0 [Hq c1]
 ·obtain ⟨t6, ht6, hf0⟩ := ze hf0
  refine yL X0 hC wa [1,1,1,1,2,0] [J1] (fun s => vZ a_ r_ s) (fun x => Vs a_ r_ x) 0 ht6  [] ?_
  rintro n_2 m6 lr1 hf1 hl1 J6 hJ6
  try unfold vZ at hf1
  let Z5 : List HO := [Ha (lnM zP r_.Rows)]
  rcases zD hf1 with ⟨c7, hf1⟩ | ⟨c7, hf1⟩
  ·obtain ⟨r_2, h8, hf1⟩ := ze hf1
   obtain ⟨r__e1, h9, hf1⟩ := ze hf1
   obtain ⟨r__e_e1, h10, hf1⟩ := ze hf1
   let Z6 : List HO := (Z5 ++ [Hq c7, Hq c7, Hq c7, Hc h0f (x := (r_, n_2)) h8 (loC zl r_ <| loC (eI .i64) n_2 <| loN), Hq c7, Hq c7, Hn (iL (eOs 1 true eB) h9), Hq c7, Hs (iM (eOs 1 true eB) h9), Hq c7, Hq c7, Hs (iM (eOs 1 true eB) h9), Hn (iL eB h10), Hq c7, Hs (iM (eOs 1 true eB) h9), Hs (iM eB h10), Hq c7, Hq c7])
   rcases zD hf1 with ⟨c8, hf1⟩ | ⟨c8, hf1⟩
   ·obtain rfl := zb hf1
    exact yB X0 hC hJ6 (w64 (n_2 + 1)) hl1 (Z6 ++ [Hq c8])
   ·obtain rfl := zb hf1
    obtain rfl := hl1
    exact yB X0 hC hJ1 n_2 hf0 (Z6 ++ [Hq c8])
  ·obtain rfl := zb hf1
   obtain rfl := hl1
   exact yB X0 hC hJ1 n_2 hf0 (Z5 ++ (rpN 11 (Hq c7) [qF]))
def ka : Code := (Try.f74.body).getD .skip
def jY : yj := spF (α := List Int × List Int) (ρ := Int) 74 (fun x => [F2_ x.1, F2_ x.2]) (fun r => (eI .i64) r) (fun x => kl x.1 x.2) [] (Wf)
abbrev WW : List (Nat × T) := []
abbrev WV (a_ : List Int) (b_ : List Int) (i_ : Int) : List (Nat × T) := [(0, .d (eSl 1 false (eI .i64) a_)), (1, .d (eSl 1 false (eI .i64) b_)), (5, .d (I i_))]
theorem Jc {ctr : Ctr} (hC : zM Try.prog ctr) : jY.Ok Try.prog := by
 refine zV ?_
 rintro ⟨a_, b_⟩ r0 hf0
 try unfold kl at hf0
 refine yO true [(4, none)] ka 40 Try.func74 fun E hE => ?_
 let Z0 : List HO := [Ha (lnM (eI .i64) a_), Ha (lnM (eI .i64) b_)]
 rcases zD hf0 with ⟨c0, hf0⟩ | ⟨c0, hf0⟩
 ·obtain rfl := zb hf0
  exact yE X0 hC hE (Z0 ++ [Hq c0])
 ·let Z1 : List HO := (Z0 ++ [Hq c0, Ha (lnM (eI .i64) a_), Ha (lnM (eI .i64) b_)])
  rcases zD hf0 with ⟨c1, hf0⟩ | ⟨c1, hf0⟩
  ·obtain rfl := zb hf0
   exact yE X0 hC hE (Z1 ++ [Hq c1])
  ·refine yJ X0 hC ka [1,1,1] [] [] (fun z : Unit => uV = some r0) (fun z => WW) [(0, .d (eSl 1 false (eI .i64) a_)), (1, .d (eSl 1 false (eI .i64) b_))] (Z1 ++ [Hq c1, Hh (.cut 0)]) ?_ fun J1 hJ1 => ?_
   ·rintro ⟨⟩ hf0
    unfold uV at hf0
    obtain rfl := zb hf0
    exact yE X0 hC hE []
   ·obtain ⟨t2, ht2, hf0⟩ := ze hf0
    refine yL X0 hC ka [1,1,1,2,1,0] [J1] (fun s => wk a_ b_ s) (fun x => WV a_ b_ x) 0 ht2  [] ?_
    rintro i_ m2 lr1 hf1 hl1 J2 hJ2
    try unfold wk at hf1
    rcases zD hf1 with ⟨c2, hf1⟩ | ⟨c2, hf1⟩
    ·obtain ⟨a__e, h0, hf1⟩ := ze hf1
     obtain ⟨b__e, h1, hf1⟩ := ze hf1
     let Z2 : List HO := [Ha (lnM (eI .i64) a_), Hq c2, Hi (eI .i64) h0, Hi (eI .i64) h1]
     rcases zD hf1 with ⟨c3, hf1⟩ | ⟨c3, hf1⟩
     ·obtain rfl := zb hf1
      obtain rfl := hl1
      obtain rfl := zb hf0
      exact yE X0 hC hE (Z2 ++ [Hq c3])
     ·obtain ⟨a__e1, h2, hf1⟩ := ze hf1
      obtain ⟨b__e1, h3, hf1⟩ := ze hf1
      let Z3 : List HO := (Z2 ++ [Hq c3, Hi (eI .i64) h2, Hi (eI .i64) h3])
      rcases zD hf1 with ⟨c4, hf1⟩ | ⟨c4, hf1⟩
      ·obtain rfl := zb hf1
       obtain rfl := hl1
       obtain rfl := zb hf0
       exact yE X0 hC hE (Z3 ++ [Hq c4])
      ·obtain rfl := zb hf1
       exact yB X0 hC hJ2 (w64 (i_ + 1)) hl1 (Z3 ++ [Hq c4])
    ·obtain rfl := zb hf1
     obtain rfl := hl1
     exact yB X0 hC hJ1 () hf0 [Ha (lnM (eI .i64) a_), Hq c2]
def z0T : Code := (Try.f34.body).getD .skip
def qA : yj := spF (α := List Int × List Int) (ρ := Bool) 34 (fun x => [F2_ x.1, F2_ x.2]) (fun r => eB r) (fun x => qm x.1 x.2) [] (Wf)
theorem z19 {ctr : Ctr} (hC : zM Try.prog ctr) (h0I : ctr.Has jY) : qA.Ok Try.prog := by
 refine zV ?_
 rintro ⟨a_, b_⟩ r0 hf0
 try unfold qm at hf0
 refine yO true [(4, none)] z0T 9 Try.func34 fun E hE => ?_
 obtain ⟨r_, h0, hf0⟩ := ze hf0
 obtain rfl := zb hf0
 exact yE X0 hC hE [Hc h0I (x := (a_, b_)) h0 (loC F2_ a_ <| loC F2_ b_ <| loN)]
def z0U : Code := (Try.f33.body).getD .skip
def kg : yj := spF (α := List Int × Int × List Int × Int) (ρ := Bool) 33 (fun x => [F1_ x.1, (eI .i64) x.2.1, F2_ x.2.2.1, (eI .i64) x.2.2.2]) (fun r => eB r) (fun x => ul x.1 x.2.1 x.2.2.1 x.2.2.2) [] (zed)
theorem z1a {ctr : Ctr} (hC : zM Try.prog ctr) (h06 : ctr.Has qA) : kg.Ok Try.prog := by
 refine zV ?_
 rintro ⟨l_, e_, want, f_⟩ r0 hf0
 try unfold ul at hf0
 refine yO true [(8, none)] z0U 24 Try.func33 fun E hE => ?_
 rcases zD hf0 with ⟨c0, hf0⟩ | ⟨c0, hf0⟩
 ·obtain ⟨r_, h0, hf0⟩ := ze hf0
  let Z0 : List HO := [Hq c0, Hq c0, Hq c0, Hc h06 (x := (l_, want)) h0 (loC F1_ l_ <| loC F2_ want <| loN), Hq c0]
  rcases zD hf0 with ⟨c1, hf0⟩ | ⟨c1, hf0⟩
  ·obtain rfl := zb hf0
   exact yE X0 hC hE (Z0 ++ [Hq c1, Hq c1, Ha (lnM (eI .i64) l_), Hq c1, Hq c1, Ha (lnM (eI .i64) l_), Hq c1, Hq c1])
  ·obtain rfl := zb hf0
   exact yE X0 hC hE (Z0 ++ (rpN 6 (Hq c1) []))
 ·obtain rfl := zb hf0
  exact yE X0 hC hE (rpN 4 (Hq c0) (rpN 6 qF []))
def z0S : Code := (Try.f75.body).getD .skip
def qz : yj := spF (α := z6 × Int × Int) (ρ := z7) 75 (fun x => [zl x.1, (eI .i64) x.2.1, (eI .i64) x.2.2]) (fun r => F7_ r) (fun x => kH x.1 x.2.1 x.2.2) [] (z8J)
theorem z17 {ctr : Ctr} (hC : zM Try.prog ctr) : qz.Ok Try.prog := by
 refine zV ?_
 rintro ⟨m_, s_, i_⟩ r0 hf0
 try unfold kH at hf0
 refine yO false [(6, some 67)] z0S 18 Try.func75 fun E hE => ?_
 rcases zD hf0 with ⟨c0, hf0⟩ | ⟨c0, hf0⟩
 ·obtain rfl := zb hf0
  exact yE X0 hC hE [Hq c0]
 ·obtain ⟨Row_e, h0, hf0⟩ := ze hf0
  obtain ⟨Row_e_e, h1, hf0⟩ := ze hf0
  obtain rfl := zb hf0
  exact yE X0 hC hE [Hq c0, Hi zP h0, Hi F7_ h1]
def Xy : Code := (Try.f35.body).getD .skip
def Zu : yj := spF (α := z6 × Int × List Int) (ρ := List Int) 35 (fun x => [zl x.1, (eI .i64) x.2.1, F2_ x.2.2]) (fun r => F4_ r) (fun x => wv x.1 x.2.1 x.2.2) [] (z8J)
abbrev Km (out : List Int) : List (Nat × T) := [(7, .own (eOs 1 false (eI .i64) out))]
abbrev Kl (m_ : z6) (w_ : List Int) (s_1 : Int) (out1 : List Int) (k_ : Int) : List (Nat × T) := [(1, .d (I s_1)), (2, .d (eSl 1 false (eI .i64) w_)), (3, .own (.box (zl m_))), (7, .own (eOs 1 false (eI .i64) out1)), (8, .d (I k_))]
theorem z2n {ctr : Ctr} (hC : zM Try.prog ctr) (h0b : ctr.Has qz) : Zu.Ok Try.prog := by
 refine zV ?_
 rintro ⟨m_, s_, w_⟩ r0 hf0
 try unfold wv at hf0
 refine yO true [(6, none)] Xy 31 Try.func35 fun E hE => ?_
 refine yJ X0 hC Xy [1,1] [] [7] (fun z : List Int => ZB z = some r0) (fun z => Km z) [(1, .d (I s_)), (2, .d (eSl 1 false (eI .i64) w_)), (3, .own (.box (zl m_))), (7, .own (eOs 1 true (eI .i64) []))] [Hh (.cut 2)] ?_ fun J1 hJ1 => ?_
 ·rintro out hf0
  unfold ZB at hf0
  obtain rfl := zb hf0
  exact yE X0 hC hE []
 ·obtain ⟨t2, ht2, hf0⟩ := ze hf0
  refine yLx X0 hC Xy [1,1,2,1,0] [J1] (fun s => jM m_ w_ s.1 s.2.1 s.2.2) (fun x => Kl m_ w_ x.1 x.2.1 x.2.2) (s_, ([] : List Int), 0) ht2 [(1, .d (I s_)), (2, .d (eSl 1 false (eI .i64) w_)), (3, .own (.box (zl m_))), (7, .own (eOs 1 true (eI .i64) [])), (8, .d (I 0))] inferInstance [] ?_
  rintro ⟨s_1, out1, k_⟩ m2 lr1 hf1 hl1 J2 hJ2
  try unfold jM at hf1
  rcases zD hf1 with ⟨c0, hf1⟩ | ⟨c0, hf1⟩
  ·obtain ⟨w__e, h0, hf1⟩ := ze hf1
   obtain ⟨r_, h1, hf1⟩ := ze hf1
   obtain ⟨g0, hf1⟩ := gdE hf1
   obtain rfl := zb hf1
   exact yB X0 hC hJ2 (r_.To, (out1 ++ ([r_.Out] : List Int)), w64 (k_ + 1)) hl1 [Ha (lnM (eI .i64) w_), Hq c0, Hi (eI .i64) h0, Hc h0b (x := (m_, s_1, w__e)) h1 (loC zl m_ <| loC (eI .i64) s_1 <| loC (eI .i64) w__e <| loN), Hq (dM (eI .i64) ([r_.Out] : List Int)), Hn (dM (eI .i64) ([r_.Out] : List Int)), Hn (aL (eI .i64) (eI .i64) g0), Hl (aM (eI .i64) out1 ([r_.Out] : List Int))]
  ·obtain rfl := zb hf1
   obtain rfl := hl1
   exact yB X0 hC hJ1 out1 hf0 [Ha (lnM (eI .i64) w_), Hq c0]
def Kc : Code := (Try.f38.body).getD .skip
def qC : yj := spF (α := z6 × z6) (ρ := Bool × Int) 38 (fun x => [zl x.1, zl x.2]) (fun r => .tup [eB r.1, (eI .i64) r.2]) (fun x => ud x.1 x.2) [] (Wf)
theorem Ky {ctr : Ctr} (hC : zM Try.prog ctr) (h04 : ctr.Has xE) : qC.Ok Try.prog := by
 refine zV ?_
 rintro ⟨a_, b_⟩ r0 hf0
 try unfold ud at hf0
 refine yO false [(4, none), (5, none)] Kc 23 Try.func38 fun E hE => ?_
 obtain ⟨r_, h0, hf0⟩ := ze hf0
 let Z0 : List HO := [Hc h04 (x := (a_, b_)) h0 (loC zl a_ <| loC zl b_ <| loN)]
 rcases zD hf0 with ⟨c0, hf0⟩ | ⟨c0, hf0⟩
 ·obtain rfl := zb hf0
  exact yE X0 hC hE (Z0 ++ [Hq c0, Hq c0, Hq c0])
 ·obtain rfl := zb hf0
  exact yE X0 hC hE (Z0 ++ [Hq c0, Hq c0, Hq c0])
def Ql : Code := (Try.f131.body).getD .skip
def k8 : yj := spF (α := Int) (ρ := Bool) 131 (fun x => [(eI .i64) x]) (fun r => eB r) (fun x => jl x) [] (z1T)
theorem Jj {ctr : Ctr} (hC : zM Try.prog ctr) : k8.Ok Try.prog := by
 refine zV ?_
 rintro x_ r0 hf0
 try unfold jl at hf0
 refine yO true [(2, none)] Ql 6 Try.func131 fun E hE => ?_
 obtain rfl := zb hf0
 exact yE X0 hC hE []
def Vj : Code := (Try.f104.body).getD .skip
def qD : yj := spF (α := Int × Int) (ρ := Int) 104 (fun x => [(eI .i64) x.1, (eI .i64) x.2]) (fun r => (eI .i64) r) (fun x => ue x.1 x.2) [] (Wf)
theorem U0 {ctr : Ctr} (hC : zM Try.prog ctr) (h0q : ctr.Has k8) : qD.Ok Try.prog := by
 refine zV ?_
 rintro ⟨x_, y_⟩ r0 hf0
 try unfold ue at hf0
 refine yO true [(4, none)] Vj 20 Try.func104 fun E hE => ?_
 obtain ⟨r_, h0, hf0⟩ := ze hf0
 obtain ⟨r_1, h1, hf0⟩ := ze hf0
 let Z0 : List HO := [Hc h0q (x := x_) h0 (loC (eI .i64) x_ <| loN), Hc h0q (x := y_) h1 (loC (eI .i64) y_ <| loN)]
 rcases zD hf0 with ⟨c0, hf0⟩ | ⟨c0, hf0⟩
 ·rcases zD hf0 with ⟨c1, hf0⟩ | ⟨c1, hf0⟩
  ·obtain rfl := zb hf0
   exact yE X0 hC hE (Z0 ++ [Hq c0, Hq c1])
  ·obtain rfl := zb hf0
   exact yE X0 hC hE (Z0 ++ [Hq c0, Hq c1])
 ·rcases zD hf0 with ⟨c2, hf0⟩ | ⟨c2, hf0⟩
  ·obtain rfl := zb hf0
   exact yE X0 hC hE (Z0 ++ [Hq c0, Hq c2])
  ·rcases zD hf0 with ⟨c3, hf0⟩ | ⟨c3, hf0⟩
   ·obtain rfl := zb hf0
    exact yE X0 hC hE (Z0 ++ [Hq c0, Hq c2, Hq c3])
   ·rcases zD hf0 with ⟨c4, hf0⟩ | ⟨c4, hf0⟩
    ·obtain rfl := zb hf0
     exact yE X0 hC hE (Z0 ++ [Hq c0, Hq c2, Hq c3, Hq c4])
    ·obtain rfl := zb hf0
     exact yE X0 hC hE (Z0 ++ [Hq c0, Hq c2, Hq c3, Hq c4])
def wM : Code := (Try.f80.body).getD .skip
def wF : yj := spF (α := List Int × List Int) (ρ := Int) 80 (fun x => [F2_ x.1, F2_ x.2]) (fun r => (eI .i64) r) (fun x => xh x.1 x.2) [] (Wf)
abbrev kC (s1 : List Int) (s2 : List Int) : List (Nat × T) := [(0, .d (eSl 1 false (eI .i64) s1)), (1, .d (eSl 1 false (eI .i64) s2))]
abbrev kB (s1 : List Int) (s2 : List Int) (x11 : Int) : List (Nat × T) := [(0, .d (eSl 1 false (eI .i64) s1)), (1, .d (eSl 1 false (eI .i64) s2)), (9, .d (eSl 1 false (eI .i64) s1)), (10, .d (I ((s1.length : Nat) : Int))), (11, .d (I x11))]
theorem ZZ {ctr : Ctr} (hC : zM Try.prog ctr) (h0J : ctr.Has qD) : wF.Ok Try.prog := by
 refine zV ?_
 rintro ⟨s1, s2⟩ r0 hf0
 try unfold xh at hf0
 refine yO true [(4, none)] wM 36 Try.func80 fun E hE => ?_
 refine yJ X0 hC wM [1] [] [0,1] (fun z : Unit => xj s1 s2 = some r0) (fun z => kC s1 s2) [(0, .d (eSl 1 false (eI .i64) s1)), (1, .d (eSl 1 false (eI .i64) s2))] [Hh (.cut 1)] ?_ fun J1 hJ1 => ?_
 ·rintro ⟨⟩ hf0
  unfold xj at hf0
  let Z0 : List HO := [Ha (lnM (eI .i64) s1), Ha (lnM (eI .i64) s2)]
  rcases zD hf0 with ⟨c0, hf0⟩ | ⟨c0, hf0⟩
  ·obtain rfl := zb hf0
   exact yE X0 hC hE (Z0 ++ [Hq c0])
  ·obtain rfl := zb hf0
   exact yE X0 hC hE (Z0 ++ [Hq c0])
 ·obtain ⟨t2, ht2, hf0⟩ := ze hf0
  refine yL X0 hC wM [1,2,1,0] [J1] (fun s => ye s1 s2 s) (fun x => kB s1 s2 x) 0 ht2  [Ha (lnM (eI .i64) s1)] ?_
  rintro x11 m2 lr1 hf1 hl1 J2 hJ2
  try unfold ye at hf1
  rcases zD hf1 with ⟨c1, hf1⟩ | ⟨c1, hf1⟩
  ·obtain ⟨s_e, h0, hf1⟩ := ze hf1
   let Z1 : List HO := [Hq c1, Hi (eI .i64) h0, Ha (lnM (eI .i64) s2)]
   rcases zD hf1 with ⟨c2, hf1⟩ | ⟨c2, hf1⟩
   ·obtain rfl := zb hf1
    obtain rfl := hl1
    obtain rfl := zb hf0
    exact yE X0 hC hE (Z1 ++ [Hq c2])
   ·obtain ⟨s_e1, h1, hf1⟩ := ze hf1
    obtain ⟨r_, h2, hf1⟩ := ze hf1
    let Z2 : List HO := (Z1 ++ [Hq c2, Hi (eI .i64) h1, Hc h0J (x := (s_e, s_e1)) h2 (loC (eI .i64) s_e <| loC (eI .i64) s_e1 <| loN)])
    rcases zD hf1 with ⟨c3, hf1⟩ | ⟨c3, hf1⟩
    ·obtain rfl := zb hf1
     obtain rfl := hl1
     obtain rfl := zb hf0
     exact yE X0 hC hE (Z2 ++ [Hq c3])
    ·obtain rfl := zb hf1
     exact yB X0 hC hJ2 (w64 (x11 + 1)) hl1 (Z2 ++ [Hq c3])
  ·obtain rfl := zb hf1
   obtain rfl := hl1
   exact yB X0 hC hJ1 () hf0 [Hq c1]
def Vi : Code := (Try.f79.body).getD .skip
def qB : yj := spF (α := zh Int × zh Int) (ρ := Int) 79 (fun x => [F0_ x.1, F0_ x.2]) (fun r => (eI .i64) r) (fun x => xu x.1 x.2) [] (Wf)
theorem VZ {ctr : Ctr} (hC : zM Try.prog ctr) (h0K : ctr.Has wF) : qB.Ok Try.prog := by
 refine zV ?_
 rintro ⟨p_, q_⟩ r0 hf0
 try unfold xu at hf0
 refine yO true [(4, none)] Vi 8 Try.func79 fun E hE => ?_
 obtain ⟨r_, h0, hf0⟩ := ze hf0
 obtain rfl := zb hf0
 exact yE ((zdR xg 6).or ((zdR xg 5).or X0)) hC hE [Hc h0K (x := ([p_.e0, p_.e1], [q_.e0, q_.e1])) h0 (loC F1_ ([p_.e0, p_.e1] : List Int) <| loC F1_ ([q_.e0, q_.e1] : List Int) <| loN)]
def Zl : Code := (Try.f81.body).getD .skip
def wf : yj := spF (α := List (zh Int)) (ρ := List (zh Int)) 81 (fun x => [F6_ x]) (fun r => F5_ r) (fun x => yY x) [] (z1T)
theorem ZI {ctr : Ctr} (hC : zM Try.prog ctr) : wf.Ok Try.prog := by
 refine zV ?_
 rintro s_ r0 hf0
 try unfold yY at hf0
 refine yO true [(2, none)] Zl 9 Try.func81 fun E hE => ?_
 obtain ⟨g0, hf0⟩ := gdE hf0
 obtain rfl := zb hf0
 exact yE X0 hC hE [Ha (lnM F0_ s_), Ha (lnM F0_ s_), Hn (slB g0), Hn (slC g0), Hn (zaS F0_ g0), Ha (ze9 2 F0_ s_ 0 ((s_.length : Nat) : Int).toNat)]
def X6 : Code := (Try.f42.body).getD .skip
def uN : yj := spF (α := z6 × z6) (ρ := List (zh Int) × Bool × Int) 42 (fun x => [zl x.1, zl x.2]) (fun r => .tup [F5_ r.1, eB r.2.1, (eI .i64) r.2.2]) (fun x => ut x.1 x.2) [] (Wf)
theorem Jh {ctr : Ctr} (hC : zM Try.prog ctr) (h0a : ctr.Has uA) (h0g : ctr.Has uL) (h0L : ctr.Has qB) (h0r : ctr.Has wf) : uN.Ok Try.prog := by
 refine zV ?_
 rintro ⟨a_, b_⟩ r0 hf0
 try unfold ut at hf0
 refine yO false [(4, none), (5, none), (6, none)] X6 29 Try.func42 fun E hE => ?_
 obtain ⟨r_, h0, hf0⟩ := ze hf0
 let Z0 : List HO := [Hc h0a (x := (a_, b_)) h0 (loC zl a_ <| loC zl b_ <| loN)]
 rcases zD hf0 with ⟨c0, hf0⟩ | ⟨c0, hf0⟩
 ·obtain rfl := zb hf0
  exact yEx X0 hC hE (Z0 ++ [Hq c0, Hm (shM F0_ F0_ [])]) (.tup [eSl 2 true F0_ [], B false, I r_]) (show LeV (.tup [eSl 2 true F0_ [], B false, I r_]) (.tup [eSl 2 true F0_ ([] : List (zh Int)), B false, I r_]) from inferInstance)
 ·obtain ⟨r_1, h1, hf0⟩ := ze hf0
  refine yA ((z6N Try.prog 21 [some (eSl 1 true (eI .i64) r_1.1), some (eOs 2 false F0_ r_1.2)]).or ((z6N Try.prog 20 [some (eSl 1 true (eI .i64) r_1.1), some (eOs 2 false F0_ r_1.2)]).or X0)) hC X6 [1,1,1] [] [(8, .d (eSl 1 true (eI .i64) r_1.1)), (9, .own (eOs 2 false F0_ r_1.2))] (Z0 ++ [Hq c0, Hc h0g (x := (a_, b_)) h1 (loC zl a_ <| loC zl b_ <| loN), Hn (⟨rfl, rfl⟩ : T.own (.opq (Qa [some (eSl 1 true (eI .i64) r_1.1), some (eOs 2 false F0_ r_1.2)])) = T.own (.opq (Qa [some (eSl 1 true (eI .i64) r_1.1), some (eOs 2 false F0_ r_1.2)])) ∧ 1 = 1), Hn (⟨rfl, rfl⟩ : T.own (.opq (Qa [some (eSl 1 true (eI .i64) r_1.1), some (eOs 2 false F0_ r_1.2)])) = T.own (.opq (Qa [some (eSl 1 true (eI .i64) r_1.1), some (eOs 2 false F0_ r_1.2)])) ∧ 1 = 1), Hh (.cut 0)]) ?_
  refine zbA (by kernel_rfl) 9 fun pv9 => ?_
  obtain ⟨sorted, h2, hf0⟩ := ze hf0
  obtain ⟨r_2, h3, hf0⟩ := ze hf0
  obtain rfl := zb hf0
  exact yE ((yP (P := Try.prog) x9 [9] (z57 zcX (f := F0_) (t := false) (v := pv9) (fun _ => rfl) (fun _ => rfl) (fun x y c h => zG hC h0L (x := (x, y)) h) h2) 23).or X0) hC hE [Hn (Wl (f := .fn 78 []) (xs := [.atom pv9, .fn 79 []]) (ls := [(pv9, eOs 2 false F0_ r_1.2)]) (r := .tup []) (ys := [eOs 2 false F0_ sorted]) [.atom pv9, .fn 79 []] (show z2i [.atom pv9, .fn 79 []] [.atom pv9, .fn 79 []] from inferInstance)), Hg (Qd h0r), Hm (shM F0_ F0_ sorted), Hs (Qe h0r (x := sorted) h3 (loC F6_ sorted <| loN)), Hm (shM F0_ F0_ sorted), Ha (lnM (eI .i64) r_1.1)]
def Qj : Code := (Try.f41.body).getD .skip
def uM : yj := spF (α := z6 × z6 × Int) (ρ := Bool × Int) 41 (fun x => [zl x.1, zl x.2.1, (eI .i64) x.2.2]) (fun r => .tup [eB r.1, (eI .i64) r.2]) (fun x => xL x.1 x.2.1 x.2.2) [] (z8J)
theorem Jg {ctr : Ctr} (hC : zM Try.prog ctr) (h04 : ctr.Has xE) : uM.Ok Try.prog := by
 refine zV ?_
 rintro ⟨a_, b_, k_⟩ r0 hf0
 try unfold xL at hf0
 refine yO false [(6, none), (7, none)] Qj 33 Try.func41 fun E hE => ?_
 obtain ⟨r_, h0, hf0⟩ := ze hf0
 let Z0 : List HO := [Hc h04 (x := (a_, b_)) h0 (loC zl a_ <| loC zl b_ <| loN)]
 rcases zD hf0 with ⟨c0, hf0⟩ | ⟨c0, hf0⟩
 ·obtain rfl := zb hf0
  exact yE X0 hC hE (Z0 ++ [Hq c0])
 ·rcases zD hf0 with ⟨c1, hf0⟩ | ⟨c1, hf0⟩
  ·obtain rfl := zb hf0
   exact yE X0 hC hE (Z0 ++ [Hq c0, Hq c1])
  ·rcases zD hf0 with ⟨c2, hf0⟩ | ⟨c2, hf0⟩
   ·obtain rfl := zb hf0
    exact yE X0 hC hE (Z0 ++ (Hq c0 :: Hq c1 :: (rpN 5 (Hq c2) [])))
   ·obtain rfl := zb hf0
    exact yE X0 hC hE (Z0 ++ [Hq c0, Hq c1, Hq c2, Hq c2, Ha (lnM (eI .i64) r_.1), Hq c2, Hq c2, Hq c2])
def ZX : Code := (Try.f43.body).getD .skip
def jx : yj := spF (α := List (zh Int) × List (zh Int)) (ρ := Bool) 43 (fun x => [F5_ x.1, F6_ x.2]) (fun r => eB r) (fun x => js x.1 x.2) [] (Wf)
abbrev US : List (Nat × T) := []
abbrev UR (a_ : List (zh Int)) (b_ : List (zh Int)) (k_ : Int) : List (Nat × T) := [(0, .d (eSl 2 true F0_ a_)), (1, .d (eSl 2 false F0_ b_)), (5, .d (I k_))]
theorem z0o {ctr : Ctr} (hC : zM Try.prog ctr) : jx.Ok Try.prog := by
 refine zV ?_
 rintro ⟨a_, b_⟩ r0 hf0
 try unfold js at hf0
 refine yO true [(4, none)] ZX 33 Try.func43 fun E hE => ?_
 let Z0 : List HO := [Ha (lnM F0_ a_), Ha (lnM F0_ b_)]
 rcases zD hf0 with ⟨c0, hf0⟩ | ⟨c0, hf0⟩
 ·obtain rfl := zb hf0
  exact yE X0 hC hE (Z0 ++ (rpN 6 (Hq c0) [qT]))
 ·let Z1 : List HO := (Z0 ++ [Hq c0, Hq c0, Ha (lnM F0_ a_), Hq c0, Hq c0, Ha (lnM F0_ a_), Hq c0, Hq c0])
  rcases zD hf0 with ⟨c1, hf0⟩ | ⟨c1, hf0⟩
  ·obtain rfl := zb hf0
   exact yE X0 hC hE (Z1 ++ [Hq c1])
  ·refine yJ X0 hC ZX [1,1] [] [] (fun z : Unit => ZW = some r0) (fun z => US) [(0, .d (eSl 2 true F0_ a_)), (1, .d (eSl 2 false F0_ b_))] (Z1 ++ [Hq c1, Hh (.cut 0)]) ?_ fun J1 hJ1 => ?_
   ·rintro ⟨⟩ hf0
    unfold ZW at hf0
    obtain rfl := zb hf0
    exact yE X0 hC hE []
   ·obtain ⟨t2, ht2, hf0⟩ := ze hf0
    refine yL X0 hC ZX [1,1,2,1,0] [J1] (fun s => vA a_ b_ s) (fun x => UR a_ b_ x) 0 ht2  [] ?_
    rintro k_ m2 lr1 hf1 hl1 J2 hJ2
    try unfold vA at hf1
    let Z2 : List HO := [Ha (lnM F0_ a_)]
    rcases zD hf1 with ⟨c2, hf1⟩ | ⟨c2, hf1⟩
    ·obtain ⟨a__e, h0, hf1⟩ := ze hf1
     obtain ⟨b__e, h1, hf1⟩ := ze hf1
     let Z3 : List HO := (Z2 ++ [Hq c2, Hi F0_ h0, Hi F0_ h1])
     rcases zD hf1 with ⟨c3, hf1⟩ | ⟨c3, hf1⟩
     ·obtain rfl := zb hf1
      obtain rfl := hl1
      obtain rfl := zb hf0
      exact yE X0 hC hE (Z3 ++ [Hq c3])
     ·obtain rfl := zb hf1
      exact yB X0 hC hJ2 (w64 (k_ + 1)) hl1 (Z3 ++ [Hq c3])
    ·obtain rfl := zb hf1
     obtain rfl := hl1
     exact yB X0 hC hJ1 () hf0 (Z2 ++ [Hq c2])
def Wg : Code := (Try.f36.body).getD .skip
def wG : yj := spF (α := Unit) (ρ := Bool) 36 (fun x => []) (fun r => eB r) (fun x => w7) [] (fun _ _ _ => rfl)
theorem z0p {ctr : Ctr} (hC : zM Try.prog ctr) (h02 : ctr.Has kh) (h04 : ctr.Has xE) (h0c : ctr.Has qC) (h0i : ctr.Has uN) (h09 : ctr.Has uM) (h03 : ctr.Has yW) (h00 : ctr.Has kg) (h01 : ctr.Has jx) : wG.Ok Try.prog := by
 refine zV ?_
 rintro ⟨⟩ r0 hf0
 try unfold w7 at hf0
 refine yO true [(0, none)] Wg 221 Try.func36 fun E hE => ?_
 obtain ⟨r_, h0, hf0⟩ := ze hf0
 obtain ⟨r_1, h1, hf0⟩ := ze hf0
 obtain ⟨r_2, h2, hf0⟩ := ze hf0
 obtain ⟨r_3, h3, hf0⟩ := ze hf0
 obtain ⟨r_4, h4, hf0⟩ := ze hf0
 obtain ⟨r_5, h5, hf0⟩ := ze hf0
 obtain ⟨r_6, h6, hf0⟩ := ze hf0
 obtain ⟨r_7, h7, hf0⟩ := ze hf0
 obtain ⟨r_8, h8, hf0⟩ := ze hf0
 obtain ⟨r_9, h9, hf0⟩ := ze hf0
 obtain ⟨r_10, h10, hf0⟩ := ze hf0
 obtain ⟨r_11, h11, hf0⟩ := ze hf0
 obtain ⟨r_12, h12, hf0⟩ := ze hf0
 obtain ⟨r_13, h13, hf0⟩ := ze hf0
 obtain ⟨r_14, h14, hf0⟩ := ze hf0
 obtain ⟨r_15, h15, hf0⟩ := ze hf0
 obtain ⟨r_16, h16, hf0⟩ := ze hf0
 obtain ⟨r_17, h17, hf0⟩ := ze hf0
 obtain ⟨r_18, h18, hf0⟩ := ze hf0
 obtain ⟨r_19, h19, hf0⟩ := ze hf0
 obtain ⟨r_20, h20, hf0⟩ := ze hf0
 obtain ⟨r_21, h21, hf0⟩ := ze hf0
 obtain ⟨r_22, h22, hf0⟩ := ze hf0
 refine yA X0 hC Wg [1,1,1,1,1,1,1,1,1,1,1,1,1,1,1,1] [] [(5, .d (eSl 1 true (eI .i64) r_12.1)), (6, .d (B r_12.2.1)), (7, .d (I r_12.2.2)), (8, .d (B r_13.1)), (9, .d (I r_13.2)), (10, .d (eSl 2 true F0_ r_14.1)), (11, .d (B r_14.2.1)), (12, .d (I r_14.2.2)), (13, .d (eSl 1 true (eI .i64) r_15.1)), (14, .d (B r_15.2.1)), (15, .d (I r_15.2.2)), (16, .d (B r_16.1)), (17, .d (I r_16.2)), (18, .d (B r_17.1)), (19, .d (I r_17.2)), (20, .d (B r_18.1)), (21, .d (I r_18.2)), (22, .d (B r_19.1)), (23, .d (I r_19.2)), (25, .d (I r_20.2)), (27, .d (I r_21.2)), (29, .d (I r_22.2))] [Hc h02 (x := (1,0)) h0 (loC (eI .i64) 1 <| loC (eI .i64) 0 <| loN), Hc h02 (x := (2,0)) h1 (loC (eI .i64) 2 <| loC (eI .i64) 0 <| loN), Hc h02 (x := (0,1)) h2 (loC (eI .i64) 0 <| loC (eI .i64) 1 <| loN), Hc h02 (x := (1,0)) h3 (loC (eI .i64) 1 <| loC (eI .i64) 0 <| loN), Hc h02 (x := (2,0)) h4 (loC (eI .i64) 2 <| loC (eI .i64) 0 <| loN), Hc h02 (x := (3,1)) h5 (loC (eI .i64) 3 <| loC (eI .i64) 1 <| loN), Hc h02 (x := (1,0)) h6 (loC (eI .i64) 1 <| loC (eI .i64) 0 <| loN), Hc h02 (x := (1,0)) h7 (loC (eI .i64) 1 <| loC (eI .i64) 0 <| loN), Hc h02 (x := (2,0)) h8 (loC (eI .i64) 2 <| loC (eI .i64) 0 <| loN), Hc h02 (x := (2,0)) h9 (loC (eI .i64) 2 <| loC (eI .i64) 0 <| loN), Hc h02 (x := (0,0)) h10 (loC (eI .i64) 0 <| loC (eI .i64) 0 <| loN), Hc h02 (x := (0,0)) h11 (loC (eI .i64) 0 <| loC (eI .i64) 0 <| loN), Hg (Qd h04), Hm (shM F8_ F9_ ([[r_], [r_1], [r_2]])), Hm (shM F8_ F9_ ([[r_3], [r_4], [r_5], [r_6]])), Hs (Qe h04 (x := ((z6.mk 1 2 ([[r_], [r_1], [r_2]])), (z6.mk 1 2 ([[r_3], [r_4], [r_5], [r_6]])))) h12 (loC Q6 (z6.mk 1 2 ([[r_], [r_1], [r_2]])) <| loC Q6 (z6.mk 1 2 ([[r_3], [r_4], [r_5], [r_6]])) <| loN)), Hm (shM F8_ F9_ ([[r_], [r_1], [r_2]])), Hm (shM F8_ F9_ ([[r_3], [r_4], [r_5], [r_6]])), Hc h0c (x := ((z6.mk 1 2 ([[r_], [r_1], [r_2]])), (z6.mk 1 2 ([[r_3], [r_4], [r_5], [r_6]])))) h13 (loC Q6 (z6.mk 1 2 ([[r_], [r_1], [r_2]])) <| loC Q6 (z6.mk 1 2 ([[r_3], [r_4], [r_5], [r_6]])) <| loN), Hc h0i (x := ((z6.mk 1 2 ([[r_], [r_1], [r_2]])), (z6.mk 1 2 ([[r_3], [r_4], [r_5], [r_6]])))) h14 (loC Q6 (z6.mk 1 2 ([[r_], [r_1], [r_2]])) <| loC Q6 (z6.mk 1 2 ([[r_3], [r_4], [r_5], [r_6]])) <| loN), Hg (Qd h04), Hm (shM F8_ F9_ ([[r_7], [r_8], [r_9]])), Hs (Qe h04 (x := ((z6.mk 1 2 ([[r_], [r_1], [r_2]])), (z6.mk 1 2 ([[r_7], [r_8], [r_9]])))) h15 (loC Q6 (z6.mk 1 2 ([[r_], [r_1], [r_2]])) <| loC Q6 (z6.mk 1 2 ([[r_7], [r_8], [r_9]])) <| loN)), Hm (shM F8_ F9_ ([[r_7], [r_8], [r_9]])), Hc h09 (x := ((z6.mk 1 2 ([[r_], [r_1], [r_2]])), (z6.mk 1 2 ([[r_7], [r_8], [r_9]])), 2)) h16 (loC Q6 (z6.mk 1 2 ([[r_], [r_1], [r_2]])) <| loC Q6 (z6.mk 1 2 ([[r_7], [r_8], [r_9]])) <| loC (eI .i64) 2 <| loN), Hc h09 (x := ((z6.mk 1 2 ([[r_], [r_1], [r_2]])), (z6.mk 1 2 ([[r_7], [r_8], [r_9]])), 3)) h17 (loC Q6 (z6.mk 1 2 ([[r_], [r_1], [r_2]])) <| loC Q6 (z6.mk 1 2 ([[r_7], [r_8], [r_9]])) <| loC (eI .i64) 3 <| loN), Hg (Qd h03), Hm (shM F0_ F0_ ([(zh.mk 0 0), (zh.mk 0 3), (zh.mk 1 1), (zh.mk 2 2)])), Hs (Qe h03 (x := ((z6.mk 1 2 ([[r_], [r_1], [r_2]])), (z6.mk 1 2 ([[r_3], [r_4], [r_5], [r_6]])), [(zh.mk 0 0), (zh.mk 0 3), (zh.mk 1 1), (zh.mk 2 2)])) h18 (loC Q6 (z6.mk 1 2 ([[r_], [r_1], [r_2]])) <| loC Q6 (z6.mk 1 2 ([[r_3], [r_4], [r_5], [r_6]])) <| loC F5_ ([(zh.mk 0 0), (zh.mk 0 3), (zh.mk 1 1), (zh.mk 2 2)] : List (zh Int)) <| loN)), Hg (Qd h03), Hm (shM F0_ F0_ ([(zh.mk 0 0), (zh.mk 1 1)])), Hs (Qe h03 (x := ((z6.mk 1 2 ([[r_], [r_1], [r_2]])), (z6.mk 1 2 ([[r_3], [r_4], [r_5], [r_6]])), [(zh.mk 0 0), (zh.mk 1 1)])) h19 (loC Q6 (z6.mk 1 2 ([[r_], [r_1], [r_2]])) <| loC Q6 (z6.mk 1 2 ([[r_3], [r_4], [r_5], [r_6]])) <| loC F5_ ([(zh.mk 0 0), (zh.mk 1 1)] : List (zh Int)) <| loN)), Hg (Qd h0c), Hm (shM F8_ F9_ ([[r_10, r_11]])), Hs (Qe h0c (x := ((z6.mk 1 2 ([[r_], [r_1], [r_2]])), (z6.mk 2 1 ([[r_10, r_11]])))) h20 (loC Q6 (z6.mk 1 2 ([[r_], [r_1], [r_2]])) <| loC Q6 (z6.mk 2 1 ([[r_10, r_11]])) <| loN)), Hc h09 (x := ((z6.mk 1 2 ([[r_], [r_1], [r_2]])), (z6.mk 1 2 ([[r_3], [r_4], [r_5], [r_6]])), (-1))) h21 (loC Q6 (z6.mk 1 2 ([[r_], [r_1], [r_2]])) <| loC Q6 (z6.mk 1 2 ([[r_3], [r_4], [r_5], [r_6]])) <| loC (eI .i64) (-1) <| loN), Hg (Qd h03), Hm (shM F0_ F0_ ([(zh.mk 0 4)])), Hs (Qe h03 (x := ((z6.mk 1 2 ([[r_], [r_1], [r_2]])), (z6.mk 1 2 ([[r_3], [r_4], [r_5], [r_6]])), [(zh.mk 0 4)])) h22 (loC Q6 (z6.mk 1 2 ([[r_], [r_1], [r_2]])) <| loC Q6 (z6.mk 1 2 ([[r_3], [r_4], [r_5], [r_6]])) <| loC F5_ ([(zh.mk 0 4)] : List (zh Int)) <| loN)), Hh (.cut 0)] ?_
 obtain ⟨r_23, h23, hf0⟩ := ze hf0
 let Z0 : List HO := [Hn (Wl (f := .fn 33 []) (xs := [F1_ r_12.1, (eI .i64) r_12.2.2, F2_ ([] : List Int), (eI .i64) 0]) (ls := []) (r := B r_23) (ys := []) [F1_ r_12.1, (eI .i64) r_12.2.2, F1_ ([] : List Int), (eI .i64) 0] (show z2i [F1_ r_12.1, (eI .i64) r_12.2.2, F1_ ([] : List Int), (eI .i64) 0] [F1_ r_12.1, (eI .i64) r_12.2.2, F2_ ([] : List Int), (eI .i64) 0] from inferInstance))]
 rcases zD hf0 with ⟨c0, hf0⟩ | ⟨c0, hf0⟩
 ·rcases zD hf0 with ⟨c1, hf0⟩ | ⟨c1, hf0⟩
  ·let Z1 : List HO := (Z0 ++ [Hq c0, Hq c0, Hq c0, Hq c1, Hq c1])
   rcases zD hf0 with ⟨c2, hf0⟩ | ⟨c2, hf0⟩
   ·rcases zD hf0 with ⟨c3, hf0⟩ | ⟨c3, hf0⟩
    ·obtain ⟨r_24, h24, hf0⟩ := ze hf0
     let Z2 : List HO := (Z1 ++ (Hq c2 :: Hq c2 :: Hq c2 :: (rpN 7 (Hq c3) [Hm (shM F0_ F0_ ([(zh.mk 0 0), (zh.mk 0 3), (zh.mk 1 1), (zh.mk 2 2)])), Hn (Wl (f := .fn 43 []) (xs := [F5_ r_14.1, F6_ ([(zh.mk 0 0), (zh.mk 0 3), (zh.mk 1 1), (zh.mk 2 2)] : List (zh Int))]) (ls := []) (r := B r_24) (ys := []) [F5_ r_14.1, F5_ ([(zh.mk 0 0), (zh.mk 0 3), (zh.mk 1 1), (zh.mk 2 2)] : List (zh Int))] (show z2i [F5_ r_14.1, F5_ ([(zh.mk 0 0), (zh.mk 0 3), (zh.mk 1 1), (zh.mk 2 2)] : List (zh Int))] [F5_ r_14.1, F6_ ([(zh.mk 0 0), (zh.mk 0 3), (zh.mk 1 1), (zh.mk 2 2)] : List (zh Int))] from inferInstance)), Hq c3])))
     rcases zD hf0 with ⟨c4, hf0⟩ | ⟨c4, hf0⟩
     ·rcases zD hf0 with ⟨c5, hf0⟩ | ⟨c5, hf0⟩
      ·let Z3 : List HO := (Z2 ++ [Hq c4, Hq c4, Hq c5, Hq c5, Hq c5])
       rcases zD hf0 with ⟨c6, hf0⟩ | ⟨c6, hf0⟩
       ·obtain ⟨r_25, h25, hf0⟩ := ze hf0
        let Z4 : List HO := (Z3 ++ (rpN 4 (Hq c6) [Hm (shM (eI .i64) (eI .i64) ([0,0,0])), Hn (Wl (f := .fn 33 []) (xs := [F1_ r_15.1, (eI .i64) r_15.2.2, F2_ ([0,0,0] : List Int), (eI .i64) 0]) (ls := []) (r := B r_25) (ys := []) [F1_ r_15.1, (eI .i64) r_15.2.2, F1_ ([0,0,0] : List Int), (eI .i64) 0] (show z2i [F1_ r_15.1, (eI .i64) r_15.2.2, F1_ ([0,0,0] : List Int), (eI .i64) 0] [F1_ r_15.1, (eI .i64) r_15.2.2, F2_ ([0,0,0] : List Int), (eI .i64) 0] from inferInstance)), Hq c6]))
        rcases zD hf0 with ⟨c7, hf0⟩ | ⟨c7, hf0⟩
        ·rcases zD hf0 with ⟨c8, hf0⟩ | ⟨c8, hf0⟩
         ·let Z5 : List HO := (Z4 ++ [Hq c7, Hq c7, Hq c8, Hq c8])
          rcases zD hf0 with ⟨c9, hf0⟩ | ⟨c9, hf0⟩
          ·rcases zD hf0 with ⟨c10, hf0⟩ | ⟨c10, hf0⟩
           ·let Z6 : List HO := (Z5 ++ [Hq c9, Hq c9, Hq c9, Hq c10, Hq c10, Hq c10])
            rcases zD hf0 with ⟨c11, hf0⟩ | ⟨c11, hf0⟩
            ·rcases zD hf0 with ⟨c12, hf0⟩ | ⟨c12, hf0⟩
             ·let Z7 : List HO := (Z6 ++ [Hq c11, Hq c11, Hq c11, Hq c12, Hq c12])
              rcases zD hf0 with ⟨c13, hf0⟩ | ⟨c13, hf0⟩
              ·rcases zD hf0 with ⟨c14, hf0⟩ | ⟨c14, hf0⟩
               ·let Z8 : List HO := (Z7 ++ [Hq c13, Hq c13, Hq c13, Hq c14, Hq c14, Hq c14])
                rcases zD hf0 with ⟨c15, hf0⟩ | ⟨c15, hf0⟩
                ·rcases zD hf0 with ⟨c16, hf0⟩ | ⟨c16, hf0⟩
                 ·let Z9 : List HO := (Z8 ++ [Hq c15, Hq c15, Hq c15, Hq c16, Hq c16, Hq c16])
                  rcases zD hf0 with ⟨c17, hf0⟩ | ⟨c17, hf0⟩
                  ·rcases zD hf0 with ⟨c18, hf0⟩ | ⟨c18, hf0⟩
                   ·obtain rfl := zb hf0
                    exact yE ((yP (P := Try.prog) x9 [] (lentCall (zG hC h00 (x := (r_15.1, r_15.2.2, ([0,0,0] : List Int), 0)) h25)) 174).or ((yP (P := Try.prog) x9 [] (lentCall (zG hC h01 (x := (r_14.1, ([(zh.mk 0 0), (zh.mk 0 3), (zh.mk 1 1), (zh.mk 2 2)] : List (zh Int)))) h24)) 161).or ((yP (P := Try.prog) x9 [] (lentCall (zG hC h00 (x := (r_12.1, r_12.2.2, ([] : List Int), 0)) h23)) 142).or X0))) hC hE (Z9 ++ [Hq c17, Hq c17, Hq c17, Hq c18, Hq c18, Hq c18])
                   ·obtain rfl := zb hf0
                    exact yE ((yP (P := Try.prog) x9 [] (lentCall (zG hC h00 (x := (r_15.1, r_15.2.2, ([0,0,0] : List Int), 0)) h25)) 174).or ((yP (P := Try.prog) x9 [] (lentCall (zG hC h01 (x := (r_14.1, ([(zh.mk 0 0), (zh.mk 0 3), (zh.mk 1 1), (zh.mk 2 2)] : List (zh Int)))) h24)) 161).or ((yP (P := Try.prog) x9 [] (lentCall (zG hC h00 (x := (r_12.1, r_12.2.2, ([] : List Int), 0)) h23)) 142).or X0))) hC hE (Z9 ++ [Hq c17, Hq c17, Hq c17, Hq c18, Hq c18, Hq c18])
                  ·obtain rfl := zb hf0
                   exact yE ((yP (P := Try.prog) x9 [] (lentCall (zG hC h00 (x := (r_15.1, r_15.2.2, ([0,0,0] : List Int), 0)) h25)) 174).or ((yP (P := Try.prog) x9 [] (lentCall (zG hC h01 (x := (r_14.1, ([(zh.mk 0 0), (zh.mk 0 3), (zh.mk 1 1), (zh.mk 2 2)] : List (zh Int)))) h24)) 161).or ((yP (P := Try.prog) x9 [] (lentCall (zG hC h00 (x := (r_12.1, r_12.2.2, ([] : List Int), 0)) h23)) 142).or X0))) hC hE (Z9 ++ [Hq c17, Hq c17, Hq c17, qF, qF, qF])
                 ·obtain rfl := zb hf0
                  exact yE ((yP (P := Try.prog) x9 [] (lentCall (zG hC h00 (x := (r_15.1, r_15.2.2, ([0,0,0] : List Int), 0)) h25)) 174).or ((yP (P := Try.prog) x9 [] (lentCall (zG hC h01 (x := (r_14.1, ([(zh.mk 0 0), (zh.mk 0 3), (zh.mk 1 1), (zh.mk 2 2)] : List (zh Int)))) h24)) 161).or ((yP (P := Try.prog) x9 [] (lentCall (zG hC h00 (x := (r_12.1, r_12.2.2, ([] : List Int), 0)) h23)) 142).or X0))) hC hE (Z8 ++ (Hq c15 :: Hq c15 :: Hq c15 :: Hq c16 :: Hq c16 :: Hq c16 :: (rpN 6 qF [])))
                ·obtain rfl := zb hf0
                 exact yE ((yP (P := Try.prog) x9 [] (lentCall (zG hC h00 (x := (r_15.1, r_15.2.2, ([0,0,0] : List Int), 0)) h25)) 174).or ((yP (P := Try.prog) x9 [] (lentCall (zG hC h01 (x := (r_14.1, ([(zh.mk 0 0), (zh.mk 0 3), (zh.mk 1 1), (zh.mk 2 2)] : List (zh Int)))) h24)) 161).or ((yP (P := Try.prog) x9 [] (lentCall (zG hC h00 (x := (r_12.1, r_12.2.2, ([] : List Int), 0)) h23)) 142).or X0))) hC hE (Z8 ++ (Hq c15 :: Hq c15 :: Hq c15 :: (rpN 9 qF [])))
               ·obtain rfl := zb hf0
                exact yE ((yP (P := Try.prog) x9 [] (lentCall (zG hC h00 (x := (r_15.1, r_15.2.2, ([0,0,0] : List Int), 0)) h25)) 174).or ((yP (P := Try.prog) x9 [] (lentCall (zG hC h01 (x := (r_14.1, ([(zh.mk 0 0), (zh.mk 0 3), (zh.mk 1 1), (zh.mk 2 2)] : List (zh Int)))) h24)) 161).or ((yP (P := Try.prog) x9 [] (lentCall (zG hC h00 (x := (r_12.1, r_12.2.2, ([] : List Int), 0)) h23)) 142).or X0))) hC hE (Z7 ++ (Hq c13 :: Hq c13 :: Hq c13 :: Hq c14 :: Hq c14 :: Hq c14 :: (rpN 12 qF [])))
              ·obtain rfl := zb hf0
               exact yE ((yP (P := Try.prog) x9 [] (lentCall (zG hC h00 (x := (r_15.1, r_15.2.2, ([0,0,0] : List Int), 0)) h25)) 174).or ((yP (P := Try.prog) x9 [] (lentCall (zG hC h01 (x := (r_14.1, ([(zh.mk 0 0), (zh.mk 0 3), (zh.mk 1 1), (zh.mk 2 2)] : List (zh Int)))) h24)) 161).or ((yP (P := Try.prog) x9 [] (lentCall (zG hC h00 (x := (r_12.1, r_12.2.2, ([] : List Int), 0)) h23)) 142).or X0))) hC hE (Z7 ++ (Hq c13 :: Hq c13 :: Hq c13 :: (rpN 15 qF [])))
             ·obtain rfl := zb hf0
              exact yE ((yP (P := Try.prog) x9 [] (lentCall (zG hC h00 (x := (r_15.1, r_15.2.2, ([0,0,0] : List Int), 0)) h25)) 174).or ((yP (P := Try.prog) x9 [] (lentCall (zG hC h01 (x := (r_14.1, ([(zh.mk 0 0), (zh.mk 0 3), (zh.mk 1 1), (zh.mk 2 2)] : List (zh Int)))) h24)) 161).or ((yP (P := Try.prog) x9 [] (lentCall (zG hC h00 (x := (r_12.1, r_12.2.2, ([] : List Int), 0)) h23)) 142).or X0))) hC hE (Z6 ++ (Hq c11 :: Hq c11 :: Hq c11 :: Hq c12 :: Hq c12 :: (rpN 18 qF [])))
            ·obtain rfl := zb hf0
             exact yE ((yP (P := Try.prog) x9 [] (lentCall (zG hC h00 (x := (r_15.1, r_15.2.2, ([0,0,0] : List Int), 0)) h25)) 174).or ((yP (P := Try.prog) x9 [] (lentCall (zG hC h01 (x := (r_14.1, ([(zh.mk 0 0), (zh.mk 0 3), (zh.mk 1 1), (zh.mk 2 2)] : List (zh Int)))) h24)) 161).or ((yP (P := Try.prog) x9 [] (lentCall (zG hC h00 (x := (r_12.1, r_12.2.2, ([] : List Int), 0)) h23)) 142).or X0))) hC hE (Z6 ++ (Hq c11 :: Hq c11 :: Hq c11 :: (rpN 20 qF [])))
           ·obtain rfl := zb hf0
            exact yE ((yP (P := Try.prog) x9 [] (lentCall (zG hC h00 (x := (r_15.1, r_15.2.2, ([0,0,0] : List Int), 0)) h25)) 174).or ((yP (P := Try.prog) x9 [] (lentCall (zG hC h01 (x := (r_14.1, ([(zh.mk 0 0), (zh.mk 0 3), (zh.mk 1 1), (zh.mk 2 2)] : List (zh Int)))) h24)) 161).or ((yP (P := Try.prog) x9 [] (lentCall (zG hC h00 (x := (r_12.1, r_12.2.2, ([] : List Int), 0)) h23)) 142).or X0))) hC hE (Z5 ++ (Hq c9 :: Hq c9 :: Hq c9 :: Hq c10 :: Hq c10 :: Hq c10 :: (rpN 23 qF [])))
          ·obtain rfl := zb hf0
           exact yE ((yP (P := Try.prog) x9 [] (lentCall (zG hC h00 (x := (r_15.1, r_15.2.2, ([0,0,0] : List Int), 0)) h25)) 174).or ((yP (P := Try.prog) x9 [] (lentCall (zG hC h01 (x := (r_14.1, ([(zh.mk 0 0), (zh.mk 0 3), (zh.mk 1 1), (zh.mk 2 2)] : List (zh Int)))) h24)) 161).or ((yP (P := Try.prog) x9 [] (lentCall (zG hC h00 (x := (r_12.1, r_12.2.2, ([] : List Int), 0)) h23)) 142).or X0))) hC hE (Z5 ++ (Hq c9 :: Hq c9 :: Hq c9 :: (rpN 26 qF [])))
         ·obtain rfl := zb hf0
          exact yE ((yP (P := Try.prog) x9 [] (lentCall (zG hC h00 (x := (r_15.1, r_15.2.2, ([0,0,0] : List Int), 0)) h25)) 174).or ((yP (P := Try.prog) x9 [] (lentCall (zG hC h01 (x := (r_14.1, ([(zh.mk 0 0), (zh.mk 0 3), (zh.mk 1 1), (zh.mk 2 2)] : List (zh Int)))) h24)) 161).or ((yP (P := Try.prog) x9 [] (lentCall (zG hC h00 (x := (r_12.1, r_12.2.2, ([] : List Int), 0)) h23)) 142).or X0))) hC hE (Z4 ++ (Hq c7 :: Hq c7 :: Hq c8 :: Hq c8 :: (rpN 29 qF [])))
        ·obtain rfl := zb hf0
         exact yE ((yP (P := Try.prog) x9 [] (lentCall (zG hC h00 (x := (r_15.1, r_15.2.2, ([0,0,0] : List Int), 0)) h25)) 174).or ((yP (P := Try.prog) x9 [] (lentCall (zG hC h01 (x := (r_14.1, ([(zh.mk 0 0), (zh.mk 0 3), (zh.mk 1 1), (zh.mk 2 2)] : List (zh Int)))) h24)) 161).or ((yP (P := Try.prog) x9 [] (lentCall (zG hC h00 (x := (r_12.1, r_12.2.2, ([] : List Int), 0)) h23)) 142).or X0))) hC hE (Z4 ++ (Hq c7 :: Hq c7 :: (rpN 31 qF [])))
       ·obtain rfl := zb hf0
        exact yE ((yP (P := Try.prog) x9 [] (lentCall (zG hC h01 (x := (r_14.1, ([(zh.mk 0 0), (zh.mk 0 3), (zh.mk 1 1), (zh.mk 2 2)] : List (zh Int)))) h24)) 161).or ((yP (P := Try.prog) x9 [] (lentCall (zG hC h00 (x := (r_12.1, r_12.2.2, ([] : List Int), 0)) h23)) 142).or X0)) hC hE (Z3 ++ (rpN 5 (Hq c6) (rpN 33 qF [])))
      ·obtain rfl := zb hf0
       exact yE ((yP (P := Try.prog) x9 [] (lentCall (zG hC h01 (x := (r_14.1, ([(zh.mk 0 0), (zh.mk 0 3), (zh.mk 1 1), (zh.mk 2 2)] : List (zh Int)))) h24)) 161).or ((yP (P := Try.prog) x9 [] (lentCall (zG hC h00 (x := (r_12.1, r_12.2.2, ([] : List Int), 0)) h23)) 142).or X0)) hC hE (Z2 ++ (Hq c4 :: Hq c4 :: Hq c5 :: Hq c5 :: Hq c5 :: (rpN 38 qF [])))
     ·obtain rfl := zb hf0
      exact yE ((yP (P := Try.prog) x9 [] (lentCall (zG hC h01 (x := (r_14.1, ([(zh.mk 0 0), (zh.mk 0 3), (zh.mk 1 1), (zh.mk 2 2)] : List (zh Int)))) h24)) 161).or ((yP (P := Try.prog) x9 [] (lentCall (zG hC h00 (x := (r_12.1, r_12.2.2, ([] : List Int), 0)) h23)) 142).or X0)) hC hE (Z2 ++ (Hq c4 :: Hq c4 :: (rpN 41 qF [])))
    ·obtain rfl := zb hf0
     exact yE ((yP (P := Try.prog) x9 [] (lentCall (zG hC h00 (x := (r_12.1, r_12.2.2, ([] : List Int), 0)) h23)) 142).or X0) hC hE (Z1 ++ (Hq c2 :: Hq c2 :: Hq c2 :: (rpN 8 (Hq c3) (rpN 43 qF []))))
   ·obtain rfl := zb hf0
    exact yE ((yP (P := Try.prog) x9 [] (lentCall (zG hC h00 (x := (r_12.1, r_12.2.2, ([] : List Int), 0)) h23)) 142).or X0) hC hE (Z1 ++ (Hq c2 :: Hq c2 :: Hq c2 :: (rpN 51 qF [])))
  ·obtain rfl := zb hf0
   exact yE ((yP (P := Try.prog) x9 [] (lentCall (zG hC h00 (x := (r_12.1, r_12.2.2, ([] : List Int), 0)) h23)) 142).or X0) hC hE (Z0 ++ (Hq c0 :: Hq c0 :: Hq c0 :: Hq c1 :: Hq c1 :: (rpN 54 qF [])))
 ·obtain rfl := zb hf0
  exact yE ((yP (P := Try.prog) x9 [] (lentCall (zG hC h00 (x := (r_12.1, r_12.2.2, ([] : List Int), 0)) h23)) 142).or X0) hC hE (Z0 ++ (Hq c0 :: Hq c0 :: Hq c0 :: (rpN 56 qF [])))
def jQ : Code := (Try.f5.body).getD .skip
def vU : yj := spF (α := zB) (ρ := Bool) 5 (fun x => [z4F x]) (fun r => eB r) (fun x => wC x) [] (z1T)
abbrev Ym : List (Nat × T) := []
theorem W1 {ctr : Ctr} (hC : zM Try.prog ctr) (h07 : ctr.Has ug) (h04 : ctr.Has xE) (h0d : ctr.Has vR) (h00 : ctr.Has kg) (h08 : ctr.Has Zu) (h06 : ctr.Has qA) (h05 : ctr.Has wG) : vU.Ok Try.prog := by
 refine zV ?_
 rintro x_ r0 hf0
 try unfold wC at hf0
 refine yO true [(2, none)] jQ 101 Try.func5 fun E hE => ?_
 obtain ⟨r_, h0, hf0⟩ := ze hf0
 obtain ⟨r_1, h1, hf0⟩ := ze hf0
 obtain ⟨r_2, h2, hf0⟩ := ze hf0
 obtain ⟨r_3, h3, hf0⟩ := ze hf0
 obtain ⟨r_4, h4, hf0⟩ := ze hf0
 let Z0 : List HO := [Hc h07 (x := (zB.mk x_.M x_.X x_.Alike x_.Swap x_.Place x_.To)) h0 (loC z4F (zB.mk x_.M x_.X x_.Alike x_.Swap x_.Place x_.To) <| loN), Hc h04 (x := (r_.1, r_.2)) h1 (loC zl r_.1 <| loC zl r_.2 <| loN), Hc h04 (x := (r_.2, r_.1)) h2 (loC zl r_.2 <| loC zl r_.1 <| loN), Hc h0d (x := (r_.1, r_.2)) h3 (loC zl r_.1 <| loC zl r_.2 <| loN), Hn (Wl (f := .fn 33 []) (xs := [F1_ r_1.1, (eI .i64) r_1.2.2, F2_ r_3.1, (eI .i64) 0]) (ls := []) (r := B r_4) (ys := []) [F1_ r_1.1, (eI .i64) r_1.2.2, F2_ r_3.1, (eI .i64) 0] (show z2i [F1_ r_1.1, (eI .i64) r_1.2.2, F2_ r_3.1, (eI .i64) 0] [F1_ r_1.1, (eI .i64) r_1.2.2, F2_ r_3.1, (eI .i64) 0] from inferInstance))]
 rcases zD hf0 with ⟨c0, hf0⟩ | ⟨c0, hf0⟩
 ·obtain rfl := zb hf0
  exact yE ((yP (P := Try.prog) x9 [] (lentCall (zG hC h00 (x := (r_1.1, r_1.2.2, r_3.1,0)) h4)) 41).or X0) hC hE (Z0 ++ (rpN 6 (Hq c0) (rpN 9 qT [])))
 ·obtain ⟨r_5, h5, hf0⟩ := ze hf0
  let Z1 : List HO := (Z0 ++ (rpN 4 (Hq c0) [Hn (Wl (f := .fn 33 []) (xs := [F1_ r_2.1, (eI .i64) r_2.2.2, F2_ r_3.1, (eI .i64) 0]) (ls := []) (r := B r_5) (ys := []) [F1_ r_2.1, (eI .i64) r_2.2.2, F2_ r_3.1, (eI .i64) 0] (show z2i [F1_ r_2.1, (eI .i64) r_2.2.2, F2_ r_3.1, (eI .i64) 0] [F1_ r_2.1, (eI .i64) r_2.2.2, F2_ r_3.1, (eI .i64) 0] from inferInstance)), Hq c0, Hq c0]))
  rcases zD hf0 with ⟨c1, hf0⟩ | ⟨c1, hf0⟩
  ·obtain rfl := zb hf0
   exact yE ((yP (P := Try.prog) x9 [] (lentCall (zG hC h00 (x := (r_2.1, r_2.2.2, r_3.1,0)) h5)) 47).or ((yP (P := Try.prog) x9 [] (lentCall (zG hC h00 (x := (r_1.1, r_1.2.2, r_3.1,0)) h4)) 41).or X0)) hC hE (Z1 ++ (rpN 4 (Hq c1) (rpN 5 qT [])))
  ·let Z2 : List HO := (Z1 ++ (rpN 4 (Hq c1) []))
   rcases zD hf0 with ⟨c2, hf0⟩ | ⟨c2, hf0⟩
   ·obtain rfl := zb hf0
    exact yE ((yP (P := Try.prog) x9 [] (lentCall (zG hC h00 (x := (r_2.1, r_2.2.2, r_3.1,0)) h5)) 47).or ((yP (P := Try.prog) x9 [] (lentCall (zG hC h00 (x := (r_1.1, r_1.2.2, r_3.1,0)) h4)) 41).or X0)) hC hE (Z2 ++ (rpN 4 (Hq c2) [qT]))
   ·let Z3 : List HO := (Z2 ++ (rpN 4 (Hq c2) []))
    rcases zD hf0 with ⟨c3, hf0⟩ | ⟨c3, hf0⟩
    ·obtain rfl := zb hf0
     exact yE ((yP (P := Try.prog) x9 [] (lentCall (zG hC h00 (x := (r_2.1, r_2.2.2, r_3.1,0)) h5)) 47).or ((yP (P := Try.prog) x9 [] (lentCall (zG hC h00 (x := (r_1.1, r_1.2.2, r_3.1,0)) h4)) 41).or X0)) hC hE (Z3 ++ [Hq c3])
    ·refine yJ ((yP (P := Try.prog) x9 [] (lentCall (zG hC h00 (x := (r_2.1, r_2.2.2, r_3.1,0)) h5)) 47).or ((yP (P := Try.prog) x9 [] (lentCall (zG hC h00 (x := (r_1.1, r_1.2.2, r_3.1,0)) h4)) 41).or X0)) hC jQ [1,1,1,1,1,1] [] [] (fun z : Unit => xr = some r0) (fun z => Ym) [(3, .own (.box (zl r_.1))), (4, .own (.box (zl r_.2))), (5, .d (eSl 1 true (eI .i64) r_1.1)), (6, .d (B r_1.2.1))] (Z3 ++ [Hq c3, Hh (.cut 0)]) ?_ fun J1 hJ1 => ?_
     ·rintro ⟨⟩ hf0
      unfold xr at hf0
      obtain ⟨r_6, h6, hf0⟩ := ze hf0
      obtain rfl := zb hf0
      exact yE X0 hC hE [Hc h05 (x := ()) h6 (loN)]
     ·rcases zD hf0 with ⟨c4, hf0⟩ | ⟨c4, hf0⟩
      ·obtain ⟨r_7, h7, hf0⟩ := ze hf0
       obtain ⟨r_8, h8, hf0⟩ := ze hf0
       obtain ⟨r_9, h9, hf0⟩ := ze hf0
       let Z4 : List HO := [Hq c4, Hq c4, Hq c4, Hc h08 (x := (r_.1,0, r_1.1)) h7 (loC zl r_.1 <| loC (eI .i64) 0 <| loC F1_ r_1.1 <| loN), Hq c4, Hq c4, Hq c4, Hc h08 (x := (r_.2,0, r_1.1)) h8 (loC zl r_.2 <| loC (eI .i64) 0 <| loC F1_ r_1.1 <| loN), Hq c4, Hg (Qd h06), Hm (shM (eI .i64) (eI .i64) r_7), Hm (shM (eI .i64) (eI .i64) r_8), Hs (Qe h06 (x := (r_7, r_8)) h9 (loC F2_ r_7 <| loC F2_ r_8 <| loN)), Hq c4]
       rcases zD hf0 with ⟨c5, hf0⟩ | ⟨c5, hf0⟩
       ·obtain rfl := zb hf0
        exact yE X0 hC hE (Z4 ++ (rpN 16 (Hq c5) (Hq c4 :: Hq c5 :: Hq c4 :: (rpN 10 qT [Hq c4, qT, Hq c4, qT]))))
       ·obtain ⟨g0, hf0⟩ := gdE hf0
        obtain ⟨r_10, h10, hf0⟩ := ze hf0
        obtain ⟨g1, hf0⟩ := gdE hf0
        obtain ⟨r_11, h11, hf0⟩ := ze hf0
        obtain ⟨r_12, h12, hf0⟩ := ze hf0
        let Z5 : List HO := (Z4 ++ (rpN 4 (Hq c5) (Ha (lnM (eI .i64) r_1.1) :: Hq c5 :: Hq c5 :: Hn (slB g0) :: Hn (z9i (eI .i64) g0) :: Ha (slM 1 (true && (w64 (((r_1.1.length : Nat) : Int) - 1)).toNat == (r_1.1.map (eI .i64)).length) (eI .i64) r_1.1 0 (w64 (((r_1.1.length : Nat) : Int) - 1)).toNat) :: Hq c5 :: Hc h08 (x := (r_.1,0, ((r_1.1.drop 0).take ((w64 (((r_1.1.length : Nat) : Int) - 1)).toNat - 0)))) h10 (loC zl r_.1 <| loC (eI .i64) 0 <| loC (eSl 1 (true && (w64 (((r_1.1.length : Nat) : Int) - 1)).toNat == (r_1.1.map (eI .i64)).length) (eI .i64)) ((r_1.1.drop 0).take ((w64 (((r_1.1.length : Nat) : Int) - 1)).toNat - 0)) <| loN) :: (rpN 4 (Hq c5) [Ha (lnM (eI .i64) r_1.1), Hq c5, Hq c5, Hn (slB g1), Hn (z9i (eI .i64) g1), Ha (slM 1 (true && (w64 (((r_1.1.length : Nat) : Int) - 1)).toNat == (r_1.1.map (eI .i64)).length) (eI .i64) r_1.1 0 (w64 (((r_1.1.length : Nat) : Int) - 1)).toNat), Hq c5, Hc h08 (x := (r_.2,0, ((r_1.1.drop 0).take ((w64 (((r_1.1.length : Nat) : Int) - 1)).toNat - 0)))) h11 (loC zl r_.2 <| loC (eI .i64) 0 <| loC (eSl 1 (true && (w64 (((r_1.1.length : Nat) : Int) - 1)).toNat == (r_1.1.map (eI .i64)).length) (eI .i64)) ((r_1.1.drop 0).take ((w64 (((r_1.1.length : Nat) : Int) - 1)).toNat - 0)) <| loN), Hq c5, Hg (Qd h06), Hm (shM (eI .i64) (eI .i64) r_10), Hm (shM (eI .i64) (eI .i64) r_11), Hs (Qe h06 (x := (r_10, r_11)) h12 (loC F2_ r_10 <| loC F2_ r_11 <| loN)), Hq c5, Hq c4, Hq c5, Hq c4]))))
        rcases zD hf0 with ⟨c6, hf0⟩ | ⟨c6, hf0⟩
        ·obtain rfl := zb hf0
         exact yE X0 hC hE (Z5 ++ (rpN 10 (Hq c6) [Hq c4, Hq c6, Hq c4, qT]))
        ·let Z6 : List HO := (Z5 ++ [Hq c6, Hq c6, Ha (lnM (eI .i64) r_1.1), Hq c6, Hq c6, Hq c6, Ha (lnM zP r_.1.Rows), Hq c6, Hq c6, Hq c6, Ha (lnM zP r_.2.Rows), Hq c6, Hq c6, Hq c4, Hq c6, Hq c4])
         rcases zD hf0 with ⟨c7, hf0⟩ | ⟨c7, hf0⟩
         ·obtain rfl := zb hf0
          exact yE X0 hC hE (Z6 ++ [Hq c7])
         ·exact yB X0 hC hJ1 () hf0 (Z6 ++ [Hq c7])
      ·exact yB X0 hC hJ1 () hf0 (rpN 12 (Hq c4) [qF])
def YQ : Code := (Try.f37.body).getD .skip
def Yw : yj := spF (α := v7 × Int) (ρ := List Int) 37 (fun x => [(jk (eSl 1 false (eI .u8))) x.1, (eI .i64) x.2]) (fun r => F4_ r) (fun x => Y5 x.1 x.2) [] (Wf)
abbrev QN (out : List Int) : List (Nat × T) := [(5, .own (eOs 1 false (eI .i64) out))]
abbrev QM (x_ : v7) (inputs : Int) (out1 : List Int) (i_ : Int) : List (Nat × T) := [(1, .d (I inputs)), (2, .own (.box (.agg [eSl 1 false (eI .u8) x_.Symbols]))), (5, .own (eOs 1 false (eI .i64) out1)), (6, .d (I i_))]
theorem z1e {ctr : Ctr} (hC : zM Try.prog ctr) : Yw.Ok Try.prog := by
 refine zV ?_
 rintro ⟨x_, inputs⟩ r0 hf0
 try unfold Y5 at hf0
 refine yO true [(4, none)] YQ 30 Try.func37 fun E hE => ?_
 refine yJ X0 hC YQ [1,1] [] [5] (fun z : List Int => ky z = some r0) (fun z => QN z) [(1, .d (I inputs)), (2, .own (.box (.agg [eSl 1 false (eI .u8) x_.Symbols]))), (5, .own (eOs 1 true (eI .i64) []))] [Hh (.cut 2)] ?_ fun J1 hJ1 => ?_
 ·rintro out hf0
  unfold ky at hf0
  obtain rfl := zb hf0
  exact yE X0 hC hE []
 ·obtain ⟨t2, ht2, hf0⟩ := ze hf0
  refine yLx X0 hC YQ [1,1,2,1,0] [J1] (fun s => kx x_ inputs s.1 s.2) (fun x => QM x_ inputs x.1 x.2) (([] : List Int), 0) ht2 [(1, .d (I inputs)), (2, .own (.box (.agg [eSl 1 false (eI .u8) x_.Symbols]))), (5, .own (eOs 1 true (eI .i64) [])), (6, .d (I 0))] inferInstance [] ?_
  rintro ⟨out1, i_⟩ m2 lr1 hf1 hl1 J2 hJ2
  try unfold kx at hf1
  let Z0 : List HO := [Ha (lnM (eI .u8) x_.Symbols)]
  rcases zD hf1 with ⟨c0, hf1⟩ | ⟨c0, hf1⟩
  ·rcases zD hf1 with ⟨c1, hf1⟩ | ⟨c1, hf1⟩
   ·obtain ⟨Symbol_e, h0, hf1⟩ := ze hf1
    obtain ⟨g0, hf1⟩ := gdE hf1
    obtain ⟨g1, hf1⟩ := gdE hf1
    obtain rfl := zb hf1
    exact yB X0 hC hJ2 ((out1 ++ ([Int.tmod (w64 (Symbol_e)) inputs] : List Int)), w64 (i_ + 1)) hl1 (Z0 ++ [Hq c0, Hq c0, Hq c0, Hq c1, Hi (eI .u8) h0, Hn g0, Hq (dM (eI .i64) ([Int.tmod (w64 (Symbol_e)) inputs] : List Int)), Hn (dM (eI .i64) ([Int.tmod (w64 (Symbol_e)) inputs] : List Int)), Hn (aL (eI .i64) (eI .i64) g1), Hl (aM (eI .i64) out1 ([Int.tmod (w64 (Symbol_e)) inputs] : List Int))])
   ·obtain rfl := zb hf1
    obtain rfl := hl1
    exact yB X0 hC hJ1 out1 hf0 (Z0 ++ [Hq c0, Hq c0, Hq c0, Hq c1])
  ·obtain rfl := zb hf1
   obtain rfl := hl1
   exact yB X0 hC hJ1 out1 hf0 (Z0 ++ [Hq c0, Hq c0, Hq c0, qF])
def yC : Code := (Try.f136.body).getD .skip
def qu : yj := spF (α := List (List Bool)) (ρ := List Int) 136 (fun x => [(eSl 1 false (eSl 1 false eB)) x]) (fun r => F4_ r) (fun x => ub x) [] (z1T)
abbrev XM (out : List Int) : List (Nat × T) := [(3, .own (eOs 1 false (eI .i64) out))]
abbrev XL (marked : List (List Bool)) (s_ : Int) (out2 : List Int) (n_1 : Int) : List (Nat × T) := [(0, .d (eSl 1 false (eSl 1 false eB) marked)), (3, .own (eOs 1 false (eI .i64) out2)), (4, .d (I n_1)), (5, .d (I s_))]
abbrev XJ (marked : List (List Bool)) (out1 : List Int) (s_ : Int) (n_2 : Int) (b_1 : Int) : List (Nat × T) := [(0, .d (eSl 1 false (eSl 1 false eB) marked)), (3, .own (eOs 1 false (eI .i64) out1)), (4, .d (I n_2)), (5, .d (I s_)), (6, .d (I b_1))]
abbrev XK (marked : List (List Bool)) (out1 : List Int) (n_ : Int) (s_ : Int) (b_ : Int) : List (Nat × T) := [(0, .d (eSl 1 false (eSl 1 false eB) marked)), (3, .own (eOs 1 false (eI .i64) out1)), (4, .d (I n_)), (5, .d (I s_)), (6, .d (I b_))]
abbrev XI (marked : List (List Bool)) (out1 : List Int) (n_ : Int) (s_ : Int) (t_ : Int) (b_3 : Int) : List (Nat × T) := [(0, .d (eSl 1 false (eSl 1 false eB) marked)), (3, .own (eOs 1 false (eI .i64) out1)), (4, .d (I n_)), (5, .d (I s_)), (6, .d (I b_3)), (7, .d (I t_))]
abbrev XF (marked : List (List Bool)) (out1 : List Int) (n_ : Int) (s_ : Int) (b_2 : Int) (t_ : Int) : List (Nat × T) := [(0, .d (eSl 1 false (eSl 1 false eB) marked)), (3, .own (eOs 1 false (eI .i64) out1)), (4, .d (I n_)), (5, .d (I s_)), (6, .d (I b_2)), (7, .d (I t_))]
abbrev XG (marked : List (List Bool)) (out1 : List Int) (n_ : Int) (s_ : Int) : List (Nat × T) := [(0, .d (eSl 1 false (eSl 1 false eB) marked)), (3, .own (eOs 1 false (eI .i64) out1)), (4, .d (I n_)), (5, .d (I s_))]
theorem VY {ctr : Ctr} (hC : zM Try.prog ctr) : qu.Ok Try.prog := by
 refine zV ?_
 rintro marked r0 hf0
 try unfold ub at hf0
 refine yO true [(2, none)] yC 41 Try.func136 fun E hE => ?_
 refine yJ X0 hC yC [1,1,1] [] [3] (fun z : List Int => qS z = some r0) (fun z => XM z) [(0, .d (eSl 1 false (eSl 1 false eB) marked)), (3, .own (eOs 1 true (eI .i64) [])), (4, .d (I 0))] [Hh (.cut 3)] ?_ fun J1 hJ1 => ?_
 ·rintro out hf0
  unfold qS at hf0
  obtain rfl := zb hf0
  exact yE X0 hC hE []
 ·obtain ⟨t2, ht2, hf0⟩ := ze hf0
  refine yLx X0 hC yC [1,1,1,2,1,0] [J1] (fun s => vI marked s.1 s.2.1 s.2.2) (fun x => XG marked x.1 x.2.1 x.2.2) (([] : List Int), 0,0) ht2 [(0, .d (eSl 1 false (eSl 1 false eB) marked)), (3, .own (eOs 1 true (eI .i64) [])), (4, .d (I 0)), (5, .d (I 0))] inferInstance [] ?_
  rintro ⟨out1, n_, s_⟩ m2 lr1 hf1 hl1 J2 hJ2
  try unfold vI at hf1
  let Z0 : List HO := [Ha (lnM (eSl 1 false eB) marked)]
  rcases zD hf1 with ⟨c0, hf1⟩ | ⟨c0, hf1⟩
  ·refine yJ X0 hC yC [1,1,1,2,1,0,0,1] [J1, J2] [0,3,4,5] (fun z : List Int × Int => vK s_ z.1 z.2 = some lr1) (fun z => XL marked s_ z.1 z.2) [(0, .d (eSl 1 false (eSl 1 false eB) marked)), (3, .own (eOs 1 false (eI .i64) out1)), (4, .d (I n_)), (5, .d (I s_))] (Z0 ++ [Hq c0, Hh (.cut 0)]) ?_ fun J3 hJ3 => ?_
   ·rintro ⟨out2, n_1⟩ hf1
    unfold vK at hf1
    obtain rfl := zb hf1
    exact yB X0 hC hJ2 (out2, n_1, w64 (s_ + 1)) hl1 []
   ·refine yJ X0 hC yC [1,1,1,2,1,0,0,1,2,0,1] [J1, J2, J3] [0,3,4,5,6] (fun z : Int => vJ out1 n_ s_ z = some lr1) (fun z => XK marked out1 n_ s_ z) [(0, .d (eSl 1 false (eSl 1 false eB) marked)), (3, .own (eOs 1 false (eI .i64) out1)), (4, .d (I n_)), (5, .d (I s_)), (6, .d (I (-1)))] [Hh (.cut 1)] ?_ fun J4 hJ4 => ?_
    ·rintro b_ hf1
     unfold vJ at hf1
     refine yJ X0 hC yC [1,1,1,2,1,0,0,1,2,0,1,1] [J1, J2, J3] [0,3,4,5,6] (fun z : Int × Int => xA out1 s_ z.1 z.2 = some lr1) (fun z => XJ marked out1 s_ z.1 z.2) [(0, .d (eSl 1 false (eSl 1 false eB) marked)), (3, .own (eOs 1 false (eI .i64) out1)), (4, .d (I n_)), (5, .d (I s_)), (6, .d (I b_))] [Hh (.cut 0)] ?_ fun J5 hJ5 => ?_
     ·rintro ⟨n_2, b_1⟩ hf1
      unfold xA at hf1
      obtain ⟨g0, hf1⟩ := gdE hf1
      exact yB X0 hC hJ3 ((out1 ++ ([b_1] : List Int)), n_2) hf1 [Hq (dM (eI .i64) ([b_1] : List Int)), Hn (dM (eI .i64) ([b_1] : List Int)), Hn (aL (eI .i64) (eI .i64) g0), Hl (aM (eI .i64) out1 ([b_1] : List Int))]
     ·rcases zD hf1 with ⟨c1, hf1⟩ | ⟨c1, hf1⟩
      ·exact yB X0 hC hJ5 (w64 (n_ + 1), n_) hf1 [Hq c1]
      ·exact yB X0 hC hJ5 (n_, b_) hf1 [Hq c1]
    ·obtain ⟨t6, ht6, hf1⟩ := ze hf1
     refine yL X0 hC yC [1,1,1,2,1,0,0,1,2,0,1,2,1,0] [J1, J2, J3, J4] (fun s => wt marked out1 s_ s.1 s.2) (fun x => XF marked out1 n_ s_ x.1 x.2) ((-1), 0) ht6  [] ?_
     rintro ⟨b_2, t_⟩ m6 lr2 hf2 hl2 J6 hJ6
     try unfold wt at hf2
     rcases zD hf2 with ⟨c2, hf2⟩ | ⟨c2, hf2⟩
     ·refine yJ X0 hC yC [1,1,1,2,1,0,0,1,2,0,1,2,1,0,0,1] [J1, J2, J3, J4, J6] [0,3,4,5,6,7] (fun z : Int => wu t_ z = some lr2) (fun z => XI marked out1 n_ s_ t_ z) [(0, .d (eSl 1 false (eSl 1 false eB) marked)), (3, .own (eOs 1 false (eI .i64) out1)), (4, .d (I n_)), (5, .d (I s_)), (6, .d (I b_2)), (7, .d (I t_))] [Hq c2, Hh (.cut 0)] ?_ fun J7 hJ7 => ?_
      ·rintro b_3 hf2
       unfold wu at hf2
       obtain rfl := zb hf2
       exact yB X0 hC hJ6 (b_3, w64 (t_ + 1)) hl2 []
      ·obtain ⟨marked_e, h0, hf2⟩ := ze hf2
       obtain ⟨marked_e_e, h1, hf2⟩ := ze hf2
       let Z1 : List HO := [Hi (eSl 1 false eB) h0, Hi eB h1]
       rcases zD hf2 with ⟨c3, hf2⟩ | ⟨c3, hf2⟩
       ·obtain ⟨out_e, h2, hf2⟩ := ze hf2
        exact yB X0 hC hJ7 out_e hf2 (Z1 ++ [Hq c3, Hn (iL (eI .i64) h2), Hs (iM (eI .i64) h2)])
       ·exact yB X0 hC hJ7 b_2 hf2 (Z1 ++ [Hq c3])
     ·obtain rfl := zb hf2
      obtain rfl := hl2
      exact yB X0 hC hJ4 b_2 hf1 [Hq c2]
  ·obtain rfl := zb hf1
   obtain rfl := hl1
   exact yB X0 hC hJ1 out1 hf0 (Z0 ++ [Hq c0])
def K9 : Code := (Try.f112.body).getD .skip
def kO : yj := spF (α := z6 × Int) (ρ := List Int) 112 (fun x => [zl x.1, (eI .i64) x.2]) (fun r => F4_ r) (fun x => ZA x.1 x.2) [] (Wf)
theorem Ku {ctr : Ctr} (hC : zM Try.prog ctr) (h0f : ctr.Has qw) (h0s : ctr.Has qu) : kO.Ok Try.prog := by
 refine zV ?_
 rintro ⟨m_, k_⟩ r0 hf0
 try unfold ZA at hf0
 refine yO true [(4, none)] K9 9 Try.func112 fun E hE => ?_
 obtain ⟨r_, h0, hf0⟩ := ze hf0
 obtain ⟨r_1, h1, hf0⟩ := ze hf0
 obtain rfl := zb hf0
 exact yE X0 hC hE [Hc h0f (x := (m_, k_)) h0 (loC zl m_ <| loC (eI .i64) k_ <| loN), Hg (Qd h0s), Hm (shM (eOs 1 true eB) (eSl 1 true eB) r_), Hs (Qe h0s (x := r_) h1 (loC (eSl 1 false (eSl 1 true eB)) r_ <| loN)), Hm (shM (eOs 1 true eB) (eSl 1 true eB) r_)]
def Qg : Code := (Try.f89.body).getD .skip
def uK : yj := spF (α := z6) (ρ := List Int) 89 (fun x => [zl x]) (fun r => F4_ r) (fun x => uj x) [] (z1T)
theorem J0 {ctr : Ctr} (hC : zM Try.prog ctr) (h0M : ctr.Has kO) : uK.Ok Try.prog := by
 refine zV ?_
 rintro m_ r0 hf0
 try unfold uj at hf0
 refine yO true [(2, none)] Qg 8 Try.func89 fun E hE => ?_
 obtain ⟨r_, h0, hf0⟩ := ze hf0
 obtain rfl := zb hf0
 exact yE X0 hC hE [Ha (lnM zP m_.Rows), Hc h0M (x := (m_, ((m_.Rows.length : Nat) : Int))) h0 (loC zl m_ <| loC (eI .i64) ((m_.Rows.length : Nat) : Int) <| loN)]
def KD : Code := (Try.f158.body).getD .skip
def ZO : yj := spF (α := z6 × Int × List Int) (ρ := Int) 158 (fun x => [zl x.1, (eI .i64) x.2.1, F2_ x.2.2]) (fun r => (eI .i64) r) (fun x => YD x.1 x.2.1 x.2.2) [] (z8J)
theorem V5 : ∀ (x y : z6 × Int × List Int), (fun x => [zl x.1, (eI .i64) x.2.1, F2_ x.2.2]) x = (fun x => [zl x.1, (eI .i64) x.2.1, F2_ x.2.2]) y → x = y := z8J
def jX (rc_ : z6 → Int → (List Int) → Option Int) : yj := spF (α := z6 × Int × List Int) (ρ := Int) 158 (fun x => [zl x.1, (eI .i64) x.2.1, F2_ x.2.2]) (fun r => (eI .i64) r) (fun x => rc_ x.1 x.2.1 x.2.2) [] (by
 intro x y h
 exact (congrArg (fun (p : z6 × Int × List Int) => p) (show x = y from V5 x y h)))
theorem Jb {ctr : Ctr} (hC : zM Try.prog ctr) (h0b : ctr.Has qz) (rc_ : z6 → Int → (List Int) → Option Int) (h0N : ctr.Has (jX rc_)) : (jX (uk rc_)).Ok Try.prog := by
 refine zV ?_
 rintro ⟨m_, s_, w_⟩ r0 hf0
 try unfold uk at hf0
 refine yO true [(6, none)] KD 22 Try.func158 fun E hE => ?_
 rcases zD hf0 with ⟨c0, hf0⟩ | ⟨c0, hf0⟩
 ·obtain rfl := zb hf0
  exact yE X0 hC hE [Ha (lnM (eI .i64) w_), Hq c0]
 ·obtain ⟨w__e, h0, hf0⟩ := ze hf0
  obtain ⟨r_, h1, hf0⟩ := ze hf0
  obtain ⟨g0, hf0⟩ := gdE hf0
  obtain ⟨r_1, h2, hf0⟩ := ze hf0
  obtain rfl := zb hf0
  exact yE ((zen xg za3).or X0) hC hE [Ha (lnM (eI .i64) w_), Hq c0, Hi (eI .i64) h0, Hc h0b (x := (m_, s_, w__e)) h1 (loC zl m_ <| loC (eI .i64) s_ <| loC (eI .i64) w__e <| loN), Hn (slA g0), Hn (z9h (eI .i64) g0), Ha (slE 1 false (eI .i64) w_ (1 : Int).toNat), Hc h0N (x := (m_, r_.To, (w_.drop (1 : Int).toNat))) h2 (loC zl m_ <| loC (eI .i64) r_.To <| loC F2_ (w_.drop (1 : Int).toNat) <| loN)]
theorem z0n {ctr : Ctr} (hC : zM Try.prog ctr) (h0b : ctr.Has qz) : ZO.Ok Try.prog := by
 have H : ∀ n, (jX (jb n)).Ok Try.prog := by
  intro n
  induction n with
  | zero => exact zV fun _ _ h => nomatch (show none = some _ from h)
  | succ n ih => exact Jb (Ctr.add_ok hC ih) (h0b.add (by show (75 : Nat) ≠ 158; decide)) _ (Ctr.add_has _ _)
 exact zV fun x r h => z54 (H _) h
def YN : Code := (Try.f157.body).getD .skip
def Yr : yj := spF (α := List Int × Int) (ρ := List Int) 157 (fun x => [F2_ x.1, (eI .i64) x.2]) (fun r => F4_ r) (fun x => kF x.1 x.2) [] (Wf)
abbrev Qo (out : List Int) : List (Nat × T) := [(5, .own (eOs 1 false (eI .i64) out))]
abbrev Qn (inputs : Int) (out1 : List Int) (k_ : Int) : List (Nat × T) := [(1, .d (I inputs)), (5, .own (eOs 1 false (eI .i64) out1)), (6, .d (I k_))]
theorem z14 {ctr : Ctr} (hC : zM Try.prog ctr) : Yr.Ok Try.prog := by
 refine zV ?_
 rintro ⟨w_, inputs⟩ r0 hf0
 try unfold kF at hf0
 refine yO true [(4, none)] YN 37 Try.func157 fun E hE => ?_
 obtain ⟨g0, hf0⟩ := gdE hf0
 refine yJ X0 hC YN [1,1] [] [5] (fun z : List Int => j0 z = some r0) (fun z => Qo z) [(1, .d (I inputs)), (5, .own (eOs 1 false (eI .i64) w_))] [Hn (dM (eI .i64) w_), Hn (aL (eI .i64) (eI .i64) g0), Hl (aM0 (eI .i64) w_), Hh (.cut 0)] ?_ fun J1 hJ1 => ?_
 ·rintro out hf0
  unfold j0 at hf0
  obtain ⟨g1, hf0⟩ := gdE hf0
  obtain rfl := zb hf0
  exact yE X0 hC hE [Hq (dM (eI .i64) ([0] : List Int)), Hn (dM (eI .i64) ([0] : List Int)), Hn (aL (eI .i64) (eI .i64) g1), Hl (aM (eI .i64) out ([0] : List Int))]
 ·obtain ⟨t2, ht2, hf0⟩ := ze hf0
  refine yL X0 hC YN [1,1,2,1,0] [J1] (fun s => qZ inputs s.1 s.2) (fun x => Qn inputs x.1 x.2) (w_, w64 (((w_.length : Nat) : Int) - 1)) ht2  [Ha (lnM (eI .i64) w_)] ?_
  rintro ⟨out1, k_⟩ m2 lr1 hf1 hl1 J2 hJ2
  try unfold qZ at hf1
  rcases zD hf1 with ⟨c0, hf1⟩ | ⟨c0, hf1⟩
  ·obtain ⟨out_e, h0, hf1⟩ := ze hf1
   let Z0 : List HO := [Hq c0, Hn (iL (eI .i64) h0), Hs (iM (eI .i64) h0)]
   rcases zD hf1 with ⟨c1, hf1⟩ | ⟨c1, hf1⟩
   ·obtain ⟨out_e1, h1, hf1⟩ := ze hf1
    obtain ⟨out_e2, h2, hf1⟩ := ze hf1
    obtain rfl := zb hf1
    obtain rfl := hl1
    obtain rfl := zb hf0
    exact yE X0 hC hE (Z0 ++ [Hq c1, Hn (iL (eI .i64) h1), Hs (iM (eI .i64) h1), Hn (iL (eI .i64) h2), Hs (iM (eI .i64) h2), Hs (iM (eI .i64) h2), Hl (sM (eI .i64) out1 k_ (w64 (out_e1 + 1)))])
   ·obtain ⟨out_e3, h3, hf1⟩ := ze hf1
    obtain rfl := zb hf1
    exact yB X0 hC hJ2 ((out1.set k_.toNat 0), w64 (k_ - 1)) hl1 (Z0 ++ [Hq c1, Hn (iL (eI .i64) h3), Hs (iM (eI .i64) h3), Hs (iM (eI .i64) h3), Hl (sM (eI .i64) out1 k_ 0)])
  ·obtain rfl := zb hf1
   obtain rfl := hl1
   exact yB X0 hC hJ1 out1 hf0 [Hq c0]
def jI : Code := (Try.f144.body).getD .skip
def ZL : yj := spF (α := z6 × Int) (ρ := List (List Int) × List Bool) 144 (fun x => [zl x.1, (eI .i64) x.2]) (fun r => .tup [(eSl 1 true F2_) r.1, (eSl 1 true eB) r.2]) (fun x => kV x.1 x.2) [] (Wf)
abbrev UF (l_ : List (List Int)) (is : List Bool) : List (Nat × T) := [(6, .own (eOs 1 true F2_ l_)), (7, .own (eOs 1 true eB is))]
abbrev UE (m_ : z6) (from_ : Int) (w_ : List Int) (l_2 : List (List Int)) (is2 : List Bool) : List (Nat × T) := [(1, .d (I from_)), (2, .own (.box (zl m_))), (6, .own (eOs 1 true F2_ l_2)), (7, .own (eOs 1 true eB is2)), (8, .d (eSl 1 false (eI .i64) w_))]
abbrev UD (m_ : z6) (from_ : Int) (l_1 : List (List Int)) (is1 : List Bool) (w_ : List Int) : List (Nat × T) := [(1, .d (I from_)), (2, .own (.box (zl m_))), (6, .own (eOs 1 true F2_ l_1)), (7, .own (eOs 1 true eB is1)), (8, .own (eOs 1 false (eI .i64) w_))]
def xO : XH Try.prog := ((z4Q xg (.inr 48) [8]).or X0)
theorem z0k {ctr : Ctr} (hC : zM Try.prog ctr) (h0O : ctr.Has ZO) (h0P : ctr.Has Yr) : ZL.Ok Try.prog := by
 refine zV ?_
 rintro ⟨m_, from_⟩ r0 hf0
 try unfold kV at hf0
 refine yO false [(4, none), (5, none)] jI 51 Try.func144 fun E hE => ?_
 obtain ⟨g0, hf0⟩ := gdE hf0
 obtain ⟨g1, hf0⟩ := gdE hf0
 refine yJ xO hC jI [1,1,1] [] [6,7] (fun z : List (List Int) × List Bool => jE z.1 z.2 = some r0) (fun z => UF z.1 z.2) [(1, .d (I from_)), (2, .own (.box (zl m_))), (6, .own (eOs 1 true F1_ (List.replicate ((m_.Rows.length : Nat) : Int).toNat ([] : List Int)))), (7, .own (eOs 1 true eB (List.replicate ((m_.Rows.length : Nat) : Int).toNat false)))] [Ha (lnM zP m_.Rows), Hn (rL g0), Ha (rM 1 (eOs 1 true (eI .i64)) ((m_.Rows.length : Nat) : Int) ([] : List Int)), Hh (.v 0 [6]), Hm (shM (eOs 1 true (eI .i64)) F1_ (List.replicate ((m_.Rows.length : Nat) : Int).toNat ([] : List Int))), Ha (lnM zP m_.Rows), Hn (rL g1), Ha (rM 1 eB ((m_.Rows.length : Nat) : Int) false), Hh (.cut 0)] ?_ fun J1 hJ1 => ?_
 ·rintro ⟨l_, is⟩ hf0
  unfold jE at hf0
  obtain rfl := zb hf0
  exact yE xO hC hE [Hm (shM F2_ F2_ l_), Hm (shM eB eB is)]
 ·obtain ⟨t2, ht2, hf0⟩ := ze hf0
  refine yLx xO hC jI [1,1,1,2,1,0] [J1] (fun s => jD m_ from_ s.1 s.2.1 s.2.2) (fun x => UD m_ from_ x.1 x.2.1 x.2.2) ((List.replicate ((m_.Rows.length : Nat) : Int).toNat ([] : List Int)), (List.replicate ((m_.Rows.length : Nat) : Int).toNat false), ([] : List Int)) ht2 [(1, .d (I from_)), (2, .own (.box (zl m_))), (6, .own (eOs 1 true F1_ (List.replicate ((m_.Rows.length : Nat) : Int).toNat ([] : List Int)))), (7, .own (eOs 1 true eB (List.replicate ((m_.Rows.length : Nat) : Int).toNat false))), (8, .own (eOs 1 true (eI .i64) []))] inferInstance [] ?_
  rintro ⟨l_1, is1, w_⟩ m2 lr1 hf1 hl1 J2 hJ2
  try unfold jD at hf1
  let Z0 : List HO := [Ha (lnM (eI .i64) w_), Ha (lnM zP m_.Rows)]
  rcases zD hf1 with ⟨c0, hf1⟩ | ⟨c0, hf1⟩
  ·refine yJ xO hC jI [1,1,1,2,1,0,0,1] [J1, J2] [1,2,6,7,8] (fun z : List (List Int) × List Bool => wJ m_ w_ z.1 z.2 = some lr1) (fun z => UE m_ from_ w_ z.1 z.2) [(1, .d (I from_)), (2, .own (.box (zl m_))), (6, .own (eOs 1 true F2_ l_1)), (7, .own (eOs 1 true eB is1)), (8, .d (eSl 1 false (eI .i64) w_))] (Z0 ++ [Hq c0, Hh (.n 1 [8]), Hm (shM (eI .i64) (eI .i64) w_), Hh (.cut 0)]) ?_ fun J3 hJ3 => ?_
   ·rintro ⟨l_2, is2⟩ hf1
    unfold wJ at hf1
    obtain ⟨r_, h0, hf1⟩ := ze hf1
    obtain rfl := zb hf1
    exact yB xO hC hJ2 (l_2, is2, r_) hl1 [Hc h0P (x := (w_, m_.Inputs)) h0 (loC F2_ w_ <| loC (eI .i64) m_.Inputs <| loN)]
   ·obtain ⟨r_1, h1, hf1⟩ := ze hf1
    let Z1 : List HO := [Hc h0O (x := (m_, from_, w_)) h1 (loC zl m_ <| loC (eI .i64) from_ <| loC F2_ w_ <| loN)]
    rcases zD hf1 with ⟨c1, hf1⟩ | ⟨c1, hf1⟩
    ·obtain ⟨is_e, h2, hf1⟩ := ze hf1
     let Z2 : List HO := (Z1 ++ [Hq c1, Hq c1, Hq c1, Hn (iL eB h2), Hq c1, Hs (iM eB h2), Hq c1, Hq c1])
     rcases zD hf1 with ⟨c2, hf1⟩ | ⟨c2, hf1⟩
     ·obtain ⟨is_e1, h3, hf1⟩ := ze hf1
      obtain ⟨l__e, h4, hf1⟩ := ze hf1
      exact yB xO hC hJ3 ((l_1.set r_1.toNat w_), (is1.set r_1.toNat true)) hf1 (Z2 ++ [Hq c2, Hn (iL eB h3), Hs (iM eB h3), Hs (iM eB h3), Hl (sM eB is1 r_1 true), Hn (iL F2_ h4), Hs (iM F2_ h4), Hs (iM F2_ h4), Hl (sM F2_ l_1 r_1 w_)])
     ·exact yB xO hC hJ3 (l_1, is1) hf1 (Z2 ++ [Hq c2])
    ·exact yB xO hC hJ3 (l_1, is1) hf1 (Z1 ++ (rpN 6 (Hq c1) [qF]))
  ·obtain rfl := zb hf1
   obtain rfl := hl1
   exact yB xO hC hJ1 (l_1, is1) hf0 (Z0 ++ [Hq c0])
def Ka : Code := (Try.f119.body).getD .skip
def kP : yj := spF (α := z6) (ρ := List (List Int) × List Bool) 119 (fun x => [zl x]) (fun r => .tup [(eSl 1 true F2_) r.1, (eSl 1 true eB) r.2]) (fun x => jL x) [] (z1T)
theorem Kw {ctr : Ctr} (hC : zM Try.prog ctr) (h0Q : ctr.Has ZL) : kP.Ok Try.prog := by
 refine zV ?_
 rintro m_ r0 hf0
 try unfold jL at hf0
 refine yO false [(2, none), (3, none)] Ka 8 Try.func119 fun E hE => ?_
 obtain ⟨r_, h0, hf0⟩ := ze hf0
 obtain rfl := zb hf0
 exact yE X0 hC hE [Hc h0Q (x := (m_, 0)) h0 (loC zl m_ <| loC (eI .i64) 0 <| loN)]
def YO : Code := (Try.f120.body).getD .skip
def Ys : yj := spF (α := List Int × List Int) (ρ := Int) 120 (fun x => [F2_ x.1, F2_ x.2]) (fun r => (eI .i64) r) (fun x => Y0 x.1 x.2) [] (Wf)
abbrev Qq : List (Nat × T) := []
abbrev Qp (a_ : List Int) (b_ : List Int) (i_ : Int) : List (Nat × T) := [(0, .d (eSl 1 false (eI .i64) a_)), (1, .d (eSl 1 false (eI .i64) b_)), (5, .d (I i_))]
theorem z15 {ctr : Ctr} (hC : zM Try.prog ctr) : Ys.Ok Try.prog := by
 refine zV ?_
 rintro ⟨a_, b_⟩ r0 hf0
 try unfold Y0 at hf0
 refine yO true [(4, none)] YO 40 Try.func120 fun E hE => ?_
 let Z0 : List HO := [Ha (lnM (eI .i64) a_), Ha (lnM (eI .i64) b_)]
 rcases zD hf0 with ⟨c0, hf0⟩ | ⟨c0, hf0⟩
 ·let Z1 : List HO := (Z0 ++ [Hq c0, Ha (lnM (eI .i64) a_), Ha (lnM (eI .i64) b_)])
  rcases zD hf0 with ⟨c1, hf0⟩ | ⟨c1, hf0⟩
  ·obtain rfl := zb hf0
   exact yE X0 hC hE (Z1 ++ [Hq c1])
  ·obtain rfl := zb hf0
   exact yE X0 hC hE (Z1 ++ [Hq c1])
 ·refine yJ X0 hC YO [1,1] [] [] (fun z : Unit => YB = some r0) (fun z => Qq) [(0, .d (eSl 1 false (eI .i64) a_)), (1, .d (eSl 1 false (eI .i64) b_))] (Z0 ++ [Hq c0, Hh (.cut 0)]) ?_ fun J1 hJ1 => ?_
  ·rintro ⟨⟩ hf0
   unfold YB at hf0
   obtain rfl := zb hf0
   exact yE X0 hC hE []
  ·obtain ⟨t2, ht2, hf0⟩ := ze hf0
   refine yL X0 hC YO [1,1,2,1,0] [J1] (fun s => j6 a_ b_ s) (fun x => Qp a_ b_ x) 0 ht2  [] ?_
   rintro i_ m2 lr1 hf1 hl1 J2 hJ2
   try unfold j6 at hf1
   rcases zD hf1 with ⟨c2, hf1⟩ | ⟨c2, hf1⟩
   ·obtain ⟨a__e, h0, hf1⟩ := ze hf1
    obtain ⟨b__e, h1, hf1⟩ := ze hf1
    let Z2 : List HO := [Ha (lnM (eI .i64) a_), Hq c2, Hi (eI .i64) h0, Hi (eI .i64) h1]
    rcases zD hf1 with ⟨c3, hf1⟩ | ⟨c3, hf1⟩
    ·obtain ⟨a__e1, h2, hf1⟩ := ze hf1
     obtain ⟨b__e1, h3, hf1⟩ := ze hf1
     let Z3 : List HO := (Z2 ++ [Hq c3, Hi (eI .i64) h2, Hi (eI .i64) h3])
     rcases zD hf1 with ⟨c4, hf1⟩ | ⟨c4, hf1⟩
     ·obtain rfl := zb hf1
      obtain rfl := hl1
      obtain rfl := zb hf0
      exact yE X0 hC hE (Z3 ++ [Hq c4])
     ·obtain rfl := zb hf1
      obtain rfl := hl1
      obtain rfl := zb hf0
      exact yE X0 hC hE (Z3 ++ [Hq c4])
    ·obtain rfl := zb hf1
     exact yB X0 hC hJ2 (w64 (i_ + 1)) hl1 (Z2 ++ [Hq c3])
   ·obtain rfl := zb hf1
    obtain rfl := hl1
    exact yB X0 hC hJ1 () hf0 [Ha (lnM (eI .i64) a_), Hq c2]
def vC : Code := (Try.f100.body).getD .skip
def ZM : yj := spF (α := z6) (ρ := List Int) 100 (fun x => [zl x]) (fun r => F4_ r) (fun x => kW x) [] (z1T)
abbrev UK (out : List Int) : List (Nat × T) := [(5, .own (eOs 1 false (eI .i64) out))]
abbrev UJ (r_ : List (List Int) × List Bool) (s_ : Int) (out2 : List Int) : List (Nat × T) := [(3, .d (eSl 1 true F2_ r_.1)), (4, .d (eSl 1 true eB r_.2)), (5, .own (eOs 1 false (eI .i64) out2)), (6, .d (I s_))]
abbrev UI (r_ : List (List Int) × List Bool) (out1 : List Int) (s_ : Int) (k_ : Int) : List (Nat × T) := [(3, .d (eSl 1 true F2_ r_.1)), (4, .d (eSl 1 true eB r_.2)), (5, .own (eOs 1 false (eI .i64) out1)), (6, .d (I s_)), (7, .d (I k_))]
abbrev UG (r_ : List (List Int) × List Bool) (out1 : List Int) (s_ : Int) (k_1 : Int) : List (Nat × T) := [(3, .d (eSl 1 true F2_ r_.1)), (4, .d (eSl 1 true eB r_.2)), (5, .own (eOs 1 false (eI .i64) out1)), (6, .d (I s_)), (7, .d (I k_1))]
abbrev UH (r_ : List (List Int) × List Bool) (out1 : List Int) (s_ : Int) : List (Nat × T) := [(3, .d (eSl 1 true F2_ r_.1)), (4, .d (eSl 1 true eB r_.2)), (5, .own (eOs 1 false (eI .i64) out1)), (6, .d (I s_))]
def yp : XH Try.prog := ((z4Q xg (.inl 49) []).or ((z4Q xg (.inl 47) [5]).or X0))
theorem z0l {ctr : Ctr} (hC : zM Try.prog ctr) (h0R : ctr.Has kP) (h0S : ctr.Has Ys) : ZM.Ok Try.prog := by
 refine zV ?_
 rintro m_ r0 hf0
 try unfold kW at hf0
 refine yO true [(2, none)] vC 61 Try.func100 fun E hE => ?_
 obtain ⟨r_, h0, hf0⟩ := ze hf0
 refine yJ yp hC vC [1,1,1] [] [5] (fun z : List Int => ZR z = some r0) (fun z => UK z) [(3, .d (eSl 1 true F2_ r_.1)), (4, .d (eSl 1 true eB r_.2)), (5, .own (eOs 1 true (eI .i64) []))] [Hc h0R (x := m_) h0 (loC zl m_ <| loN), Hh (.cut 1)] ?_ fun J1 hJ1 => ?_
 ·rintro out hf0
  unfold ZR at hf0
  obtain rfl := zb hf0
  exact yE yp hC hE []
 ·obtain ⟨t2, ht2, hf0⟩ := ze hf0
  refine yLx yp hC vC [1,1,1,2,1,0] [J1] (fun s => uE r_ s.1 s.2) (fun x => UH r_ x.1 x.2) (([] : List Int), 0) ht2 [(3, .d (eSl 1 true F2_ r_.1)), (4, .d (eSl 1 true eB r_.2)), (5, .own (eOs 1 true (eI .i64) [])), (6, .d (I 0))] inferInstance [] ?_
  rintro ⟨out1, s_⟩ m2 lr1 hf1 hl1 J2 hJ2
  try unfold uE at hf1
  let Z0 : List HO := [Ha (lnM F2_ r_.1)]
  rcases zD hf1 with ⟨c0, hf1⟩ | ⟨c0, hf1⟩
  ·refine yJ yp hC vC [1,1,1,2,1,0,0,1] [J1, J2] [3,4,5,6] (fun z : List Int => vu s_ z = some lr1) (fun z => UJ r_ s_ z) [(3, .d (eSl 1 true F2_ r_.1)), (4, .d (eSl 1 true eB r_.2)), (5, .own (eOs 1 false (eI .i64) out1)), (6, .d (I s_))] (Z0 ++ [Hq c0, Hh (.cut 0)]) ?_ fun J3 hJ3 => ?_
   ·rintro out2 hf1
    unfold vu at hf1
    obtain rfl := zb hf1
    exact yB yp hC hJ2 (out2, w64 (s_ + 1)) hl1 []
   ·obtain ⟨u_, h1, hf1⟩ := ze hf1
    rcases zD hf1 with ⟨c1, hf1⟩ | ⟨c1, hf1⟩
    ·exact yB yp hC hJ3 out1 hf1 [Hi eB h1, Hq c1]
    ·refine yJ yp hC vC [1,1,1,2,1,0,0,1,2,0,1,1] [J1, J2, J3] [3,4,5,6,7] (fun z : Int => jF out1 s_ z = some lr1) (fun z => UI r_ out1 s_ z) [(3, .d (eSl 1 true F2_ r_.1)), (4, .d (eSl 1 true eB r_.2)), (5, .own (eOs 1 false (eI .i64) out1)), (6, .d (I s_)), (7, .d (I 0))] [Hi eB h1, Hq c1, Hh (.cut 1)] ?_ fun J4 hJ4 => ?_
     ·rintro k_ hf1
      unfold jF at hf1
      obtain ⟨g0, hf1⟩ := gdE hf1
      obtain ⟨g1, hf1⟩ := gdE hf1
      obtain ⟨g2, hf1⟩ := gdE hf1
      obtain ⟨g3, hf1⟩ := gdE hf1
      obtain ⟨g4, hf1⟩ := gdE hf1
      exact yB yp hC hJ3 ((((out1.drop 0).take (k_.toNat - 0)) ++ ([s_] : List Int)) ++ (out1.drop k_.toNat)) hf1 [Hm (shM (eI .i64) (eI .i64) out1), Hn (slB g0), Hn (z9i (eI .i64) g0), Ha (slM 1 false (eI .i64) out1 0 k_.toNat), Hn (dM (eI .i64) ((out1.drop 0).take (k_.toNat - 0))), Hn (aL (eI .i64) (eI .i64) g1), Hl (aM0 (eI .i64) ((out1.drop 0).take (k_.toNat - 0))), Hq (dM (eI .i64) ([s_] : List Int)), Hn (dM (eI .i64) ([s_] : List Int)), Hn (aL (eI .i64) (eI .i64) g2), Hl (aM (eI .i64) ((out1.drop 0).take (k_.toNat - 0)) ([s_] : List Int)), Hn (slA g3), Hn (z9h (eI .i64) g3), Ha (slE 1 false (eI .i64) out1 k_.toNat), Hn (dM (eI .i64) (out1.drop k_.toNat)), Hn (aL (eI .i64) (eI .i64) g4), Hl (aM (eI .i64) (((out1.drop 0).take (k_.toNat - 0)) ++ ([s_] : List Int)) (out1.drop k_.toNat))]
     ·obtain ⟨t5, ht5, hf1⟩ := ze hf1
      refine yL yp hC vC [1,1,1,2,1,0,0,1,2,0,1,1,2,0] [J1, J2, J3, J4] (fun s => uD r_ out1 s_ s) (fun x => UG r_ out1 s_ x) 0 ht5  [] ?_
      rintro k_1 m5 lr2 hf2 hl2 J5 hJ5
      try unfold uD at hf2
      rcases zD hf2 with ⟨c2, hf2⟩ | ⟨c2, hf2⟩
      ·obtain ⟨out_e, h2, hf2⟩ := ze hf2
       obtain ⟨u_1, h3, hf2⟩ := ze hf2
       obtain ⟨u_2, h4, hf2⟩ := ze hf2
       obtain ⟨r_1, h5, hf2⟩ := ze hf2
       let Z1 : List HO := (Ha (lnM (eI .i64) out1) :: (rpN 4 (Hq c2) (Hn (iL (eI .i64) h2) :: Hq c2 :: Hs (iM (eI .i64) h2) :: Hq c2 :: Hi F2_ h3 :: (rpN 4 (Hq c2) [Hi F2_ h4, Hq c2, Hq c2, Hc h0S (x := (u_1, u_2)) h5 (loC F2_ u_1 <| loC F2_ u_2 <| loN), Hq c2, Hq c2]))))
       rcases zD hf2 with ⟨c3, hf2⟩ | ⟨c3, hf2⟩
       ·obtain rfl := zb hf2
        exact yB yp hC hJ5 (w64 (k_1 + 1)) hl2 (Z1 ++ [Hq c3])
       ·obtain rfl := zb hf2
        obtain rfl := hl2
        exact yB yp hC hJ4 k_1 hf1 (Z1 ++ [Hq c3])
      ·obtain rfl := zb hf2
       obtain rfl := hl2
       exact yB yp hC hJ4 k_1 hf1 (Ha (lnM (eI .i64) out1) :: (rpN 14 (Hq c2) [qF]))
  ·obtain rfl := zb hf1
   obtain rfl := hl1
   exact yB yp hC hJ1 out1 hf0 (Z0 ++ [Hq c0])
def wb : Code := (Try.f76.body).getD .skip
def qt : yj := spF (α := z6) (ρ := List Int) 76 (fun x => [zl x]) (fun r => F4_ r) (fun x => ua x) [] (z1T)
abbrev VL (out : List Int) : List (Nat × T) := [(5, .own (eOs 1 false (eI .i64) out))]
abbrev VK (r_ : List Int) (r_1 : List Int) (k_ : Int) (out2 : List Int) : List (Nat × T) := [(3, .own (eOs 1 false (eI .i64) r_)), (4, .own (eOs 1 false (eI .i64) r_1)), (5, .own (eOs 1 false (eI .i64) out2)), (6, .d (I k_))]
abbrev VJ (r_ : List Int) (r_1 : List Int) (out1 : List Int) (k_ : Int) (there : Int) : List (Nat × T) := [(3, .own (eOs 1 false (eI .i64) r_)), (4, .own (eOs 1 false (eI .i64) r_1)), (5, .own (eOs 1 false (eI .i64) out1)), (6, .d (I k_)), (7, .d (I there))]
abbrev VI (r_ : List Int) (r_1 : List Int) (out1 : List Int) (k_ : Int) (n_ : Int) (there2 : Int) : List (Nat × T) := [(3, .own (eOs 1 false (eI .i64) r_)), (4, .own (eOs 1 false (eI .i64) r_1)), (5, .own (eOs 1 false (eI .i64) out1)), (6, .d (I k_)), (7, .d (I there2)), (8, .d (I n_))]
abbrev VG (r_ : List Int) (r_1 : List Int) (out1 : List Int) (k_ : Int) (there1 : Int) (n_ : Int) : List (Nat × T) := [(3, .own (eOs 1 false (eI .i64) r_)), (4, .own (eOs 1 false (eI .i64) r_1)), (5, .own (eOs 1 false (eI .i64) out1)), (6, .d (I k_)), (7, .d (I there1)), (8, .d (I n_))]
abbrev VH (r_ : List Int) (r_1 : List Int) (out1 : List Int) (k_ : Int) : List (Nat × T) := [(3, .own (eOs 1 false (eI .i64) r_)), (4, .own (eOs 1 false (eI .i64) r_1)), (5, .own (eOs 1 false (eI .i64) out1)), (6, .d (I k_))]
theorem Kt {ctr : Ctr} (hC : zM Try.prog ctr) (h0j : ctr.Has uK) (h0T : ctr.Has ZM) : qt.Ok Try.prog := by
 refine zV ?_
 rintro m_ r0 hf0
 try unfold ua at hf0
 refine yO true [(2, none)] wb 49 Try.func76 fun E hE => ?_
 obtain ⟨r_, h0, hf0⟩ := ze hf0
 obtain ⟨r_1, h1, hf0⟩ := ze hf0
 refine yJ X0 hC wb [1,1,1,1] [] [5] (fun z : List Int => qR z = some r0) (fun z => VL z) [(3, .own (eOs 1 false (eI .i64) r_)), (4, .own (eOs 1 false (eI .i64) r_1)), (5, .own (eOs 1 true (eI .i64) []))] [Hc h0j (x := m_) h0 (loC zl m_ <| loN), Hc h0T (x := m_) h1 (loC zl m_ <| loN), Hh (.cut 1)] ?_ fun J1 hJ1 => ?_
 ·rintro out hf0
  unfold qR at hf0
  obtain rfl := zb hf0
  exact yE X0 hC hE []
 ·obtain ⟨t2, ht2, hf0⟩ := ze hf0
  refine yLx X0 hC wb [1,1,1,1,2,1,0] [J1] (fun s => qP r_ r_1 s.1 s.2) (fun x => VH r_ r_1 x.1 x.2) (([] : List Int), 0) ht2 [(3, .own (eOs 1 false (eI .i64) r_)), (4, .own (eOs 1 false (eI .i64) r_1)), (5, .own (eOs 1 true (eI .i64) [])), (6, .d (I 0))] inferInstance [] ?_
  rintro ⟨out1, k_⟩ m2 lr1 hf1 hl1 J2 hJ2
  try unfold qP at hf1
  rcases zD hf1 with ⟨c0, hf1⟩ | ⟨c0, hf1⟩
  ·refine yJ X0 hC wb [1,1,1,1,2,1,0,0,1] [J1, J2] [3,4,5,6] (fun z : List Int => wV k_ z = some lr1) (fun z => VK r_ r_1 k_ z) [(3, .own (eOs 1 false (eI .i64) r_)), (4, .own (eOs 1 false (eI .i64) r_1)), (5, .own (eOs 1 false (eI .i64) out1)), (6, .d (I k_))] [Ha (lnM (eI .i64) r_1), Hq c0, Hh (.cut 0)] ?_ fun J3 hJ3 => ?_
   ·rintro out2 hf1
    unfold wV at hf1
    obtain rfl := zb hf1
    exact yB X0 hC hJ2 (out2, w64 (k_ + 1)) hl1 []
   ·refine yJ X0 hC wb [1,1,1,1,2,1,0,0,1,2,0,1] [J1, J2, J3] [3,4,5,6,7] (fun z : Int => qQ r_1 out1 k_ z = some lr1) (fun z => VJ r_ r_1 out1 k_ z) [(3, .own (eOs 1 false (eI .i64) r_)), (4, .own (eOs 1 false (eI .i64) r_1)), (5, .own (eOs 1 false (eI .i64) out1)), (6, .d (I k_)), (7, .d (I 0))] [Hh (.cut 1)] ?_ fun J4 hJ4 => ?_
    ·rintro there hf1
     unfold qQ at hf1
     rcases zD hf1 with ⟨c1, hf1⟩ | ⟨c1, hf1⟩
     ·obtain ⟨r__e, h2, hf1⟩ := ze hf1
      obtain ⟨g0, hf1⟩ := gdE hf1
      exact yB X0 hC hJ3 (out1 ++ ([r__e] : List Int)) hf1 [Hq c1, Hn (iL (eI .i64) h2), Hs (iM (eI .i64) h2), Hq (dM (eI .i64) ([r__e] : List Int)), Hn (dM (eI .i64) ([r__e] : List Int)), Hn (aL (eI .i64) (eI .i64) g0), Hl (aM (eI .i64) out1 ([r__e] : List Int))]
     ·exact yB X0 hC hJ3 out1 hf1 [Hq c1]
    ·obtain ⟨t5, ht5, hf1⟩ := ze hf1
     refine yL X0 hC wb [1,1,1,1,2,1,0,0,1,2,0,1,2,1,0] [J1, J2, J3, J4] (fun s => u7 r_ r_1 k_ s.1 s.2) (fun x => VG r_ r_1 out1 k_ x.1 x.2) (0,0) ht5  [] ?_
     rintro ⟨there1, n_⟩ m5 lr2 hf2 hl2 J5 hJ5
     try unfold u7 at hf2
     rcases zD hf2 with ⟨c2, hf2⟩ | ⟨c2, hf2⟩
     ·refine yJ X0 hC wb [1,1,1,1,2,1,0,0,1,2,0,1,2,1,0,0,1] [J1, J2, J3, J4, J5] [3,4,5,6,7,8] (fun z : Int => u9 n_ z = some lr2) (fun z => VI r_ r_1 out1 k_ n_ z) [(3, .own (eOs 1 false (eI .i64) r_)), (4, .own (eOs 1 false (eI .i64) r_1)), (5, .own (eOs 1 false (eI .i64) out1)), (6, .d (I k_)), (7, .d (I there1)), (8, .d (I n_))] [Hq c2, Hh (.cut 0)] ?_ fun J6 hJ6 => ?_
      ·rintro there2 hf2
       unfold u9 at hf2
       obtain rfl := zb hf2
       exact yB X0 hC hJ5 (there2, w64 (n_ + 1)) hl2 []
      ·obtain ⟨r__e1, h3, hf2⟩ := ze hf2
       obtain ⟨r__e2, h4, hf2⟩ := ze hf2
       obtain ⟨r__e3, h5, hf2⟩ := ze hf2
       obtain ⟨r__e4, h6, hf2⟩ := ze hf2
       let Z0 : List HO := [Hn (iL (eI .i64) h3), Hs (iM (eI .i64) h3), Hn (iL (eI .i64) h4), Hs (iM (eI .i64) h4), Hn (iL (eI .i64) h5), Hs (iM (eI .i64) h5), Hn (iL (eI .i64) h6), Hs (iM (eI .i64) h6)]
       rcases zD hf2 with ⟨c3, hf2⟩ | ⟨c3, hf2⟩
       ·exact yB X0 hC hJ6 1 hf2 (Z0 ++ [Hq c3])
       ·exact yB X0 hC hJ6 there1 hf2 (Z0 ++ [Hq c3])
     ·obtain rfl := zb hf2
      obtain rfl := hl2
      exact yB X0 hC hJ4 there1 hf1 [Hq c2]
  ·obtain rfl := zb hf1
   obtain rfl := hl1
   exact yB X0 hC hJ1 out1 hf0 [Ha (lnM (eI .i64) r_1), Hq c0]
def xe : Code := (Try.f101.body).getD .skip
def jW : yj := spF (α := z6 × Int) (ρ := List Bool) 101 (fun x => [zl x.1, (eI .i64) x.2]) (fun r => (eOs 1 true eB) r) (fun x => j9 x.1 x.2) [] (Wf)
abbrev WU (out : List Bool) : List (Nat × T) := [(5, .own (eOs 1 true eB out))]
abbrev WT (m_ : z6) (round : Int) (out2 : List Bool) : List (Nat × T) := [(2, .own (.box (zl m_))), (5, .own (eOs 1 true eB out2)), (6, .d (I round))]
abbrev WS (m_ : z6) (round : Int) (s_ : Int) (out4 : List Bool) : List (Nat × T) := [(2, .own (.box (zl m_))), (5, .own (eOs 1 true eB out4)), (6, .d (I round)), (7, .d (I s_))]
abbrev WR (m_ : z6) (round : Int) (s_ : Int) (i_ : Int) (out6 : List Bool) : List (Nat × T) := [(2, .own (.box (zl m_))), (5, .own (eOs 1 true eB out6)), (6, .d (I round)), (7, .d (I s_)), (8, .d (I i_))]
abbrev WO (m_ : z6) (round : Int) (s_ : Int) (out5 : List Bool) (i_ : Int) : List (Nat × T) := [(2, .own (.box (zl m_))), (5, .own (eOs 1 true eB out5)), (6, .d (I round)), (7, .d (I s_)), (8, .d (I i_))]
abbrev WP (m_ : z6) (round : Int) (out3 : List Bool) (s_ : Int) : List (Nat × T) := [(2, .own (.box (zl m_))), (5, .own (eOs 1 true eB out3)), (6, .d (I round)), (7, .d (I s_))]
abbrev WQ (m_ : z6) (out1 : List Bool) (round : Int) : List (Nat × T) := [(2, .own (.box (zl m_))), (5, .own (eOs 1 true eB out1)), (6, .d (I round))]
theorem Ja {ctr : Ctr} (hC : zM Try.prog ctr) : jW.Ok Try.prog := by
 refine zV ?_
 rintro ⟨m_, from_⟩ r0 hf0
 try unfold j9 at hf0
 refine yO true [(4, none)] xe 58 Try.func101 fun E hE => ?_
 obtain ⟨g0, hf0⟩ := gdE hf0
 obtain ⟨u_e, h0, hf0⟩ := ze hf0
 refine yJ X0 hC xe [1,1,1] [] [5] (fun z : List Bool => uU z = some r0) (fun z => WU z) [(2, .own (.box (zl m_))), (5, .own (eOs 1 true eB ((List.replicate ((m_.Rows.length : Nat) : Int).toNat false).set from_.toNat true)))] [Ha (lnM zP m_.Rows), Hn (rL g0), Ha (rM 1 eB ((m_.Rows.length : Nat) : Int) false), Hn (iL eB h0), Hs (iM eB h0), Hs (iM eB h0), Hl (sM eB (List.replicate ((m_.Rows.length : Nat) : Int).toNat false) from_ true), Hh (.cut 0)] ?_ fun J1 hJ1 => ?_
 ·rintro out hf0
  unfold uU at hf0
  obtain rfl := zb hf0
  exact yE X0 hC hE []
 ·obtain ⟨t2, ht2, hf0⟩ := ze hf0
  refine yL X0 hC xe [1,1,1,2,1,0] [J1] (fun s => uR m_ s.1 s.2) (fun x => WQ m_ x.1 x.2) (((List.replicate ((m_.Rows.length : Nat) : Int).toNat false).set from_.toNat true), 0) ht2  [] ?_
  rintro ⟨out1, round⟩ m2 lr1 hf1 hl1 J2 hJ2
  try unfold uR at hf1
  let Z0 : List HO := [Ha (lnM zP m_.Rows)]
  rcases zD hf1 with ⟨c0, hf1⟩ | ⟨c0, hf1⟩
  ·refine yJ X0 hC xe [1,1,1,2,1,0,0,1] [J1, J2] [2,5,6] (fun z : List Bool => uT round z = some lr1) (fun z => WT m_ round z) [(2, .own (.box (zl m_))), (5, .own (eOs 1 true eB out1)), (6, .d (I round))] (Z0 ++ [Hq c0, Hh (.cut 0)]) ?_ fun J3 hJ3 => ?_
   ·rintro out2 hf1
    unfold uT at hf1
    obtain rfl := zb hf1
    exact yB X0 hC hJ2 (out2, w64 (round + 1)) hl1 []
   ·obtain ⟨t4, ht4, hf1⟩ := ze hf1
    refine yL X0 hC xe [1,1,1,2,1,0,0,1,2,0,1,0] [J1, J2, J3] (fun s => vm m_ s.1 s.2) (fun x => WP m_ round x.1 x.2) (out1,0) ht4  [] ?_
    rintro ⟨out3, s_⟩ m4 lr2 hf2 hl2 J4 hJ4
    try unfold vm at hf2
    let Z1 : List HO := [Ha (lnM zP m_.Rows)]
    rcases zD hf2 with ⟨c1, hf2⟩ | ⟨c1, hf2⟩
    ·refine yJ X0 hC xe [1,1,1,2,1,0,0,1,2,0,1,0,0,1] [J1, J2, J3, J4] [2,5,6,7] (fun z : List Bool => uS s_ z = some lr2) (fun z => WS m_ round s_ z) [(2, .own (.box (zl m_))), (5, .own (eOs 1 true eB out3)), (6, .d (I round)), (7, .d (I s_))] (Z1 ++ [Hq c1, Hh (.cut 0)]) ?_ fun J5 hJ5 => ?_
     ·rintro out4 hf2
      unfold uS at hf2
      obtain rfl := zb hf2
      exact yB X0 hC hJ4 (out4, w64 (s_ + 1)) hl2 []
     ·obtain ⟨t6, ht6, hf2⟩ := ze hf2
      refine yL X0 hC xe [1,1,1,2,1,0,0,1,2,0,1,0,0,1,2,0,1,0] [J1, J2, J3, J4, J5] (fun s => vj m_ s_ s.1 s.2) (fun x => WO m_ round s_ x.1 x.2) (out3,0) ht6  [] ?_
      rintro ⟨out5, i_⟩ m6 lr3 hf3 hl3 J6 hJ6
      try unfold vj at hf3
      rcases zD hf3 with ⟨c2, hf3⟩ | ⟨c2, hf3⟩
      ·refine yJ X0 hC xe [1,1,1,2,1,0,0,1,2,0,1,0,0,1,2,0,1,0,0,1] [J1, J2, J3, J4, J5, J6] [2,5,6,7,8] (fun z : List Bool => wj i_ z = some lr3) (fun z => WR m_ round s_ i_ z) [(2, .own (.box (zl m_))), (5, .own (eOs 1 true eB out5)), (6, .d (I round)), (7, .d (I s_)), (8, .d (I i_))] [Hq c2, Hh (.cut 0)] ?_ fun J7 hJ7 => ?_
       ·rintro out6 hf3
        unfold wj at hf3
        obtain rfl := zb hf3
        exact yB X0 hC hJ6 (out6, w64 (i_ + 1)) hl3 []
       ·obtain ⟨Row_e, h1, hf3⟩ := ze hf3
        obtain ⟨Row_e_e, h2, hf3⟩ := ze hf3
        obtain ⟨out_e, h3, hf3⟩ := ze hf3
        let Z2 : List HO := [Hi zP h1, Hi F7_ h2, Hn (iL eB h3), Hs (iM eB h3)]
        rcases zD hf3 with ⟨c3, hf3⟩ | ⟨c3, hf3⟩
        ·rcases zD hf3 with ⟨c4, hf3⟩ | ⟨c4, hf3⟩
         ·obtain ⟨out_e1, h4, hf3⟩ := ze hf3
          exact yB X0 hC hJ7 (out5.set Row_e_e.To.toNat true) hf3 (Z2 ++ [Hq c3, Hq c3, Hq c3, Hq c4, Hn (iL eB h4), Hs (iM eB h4), Hs (iM eB h4), Hl (sM eB out5 Row_e_e.To true)])
         ·exact yB X0 hC hJ7 out5 hf3 (Z2 ++ [Hq c3, Hq c3, Hq c3, Hq c4])
        ·exact yB X0 hC hJ7 out5 hf3 (Z2 ++ [Hq c3, Hq c3, Hq c3, qF])
      ·obtain rfl := zb hf3
       obtain rfl := hl3
       exact yB X0 hC hJ5 out5 hf2 [Hq c2]
    ·obtain rfl := zb hf2
     obtain rfl := hl2
     exact yB X0 hC hJ3 out3 hf1 (Z1 ++ [Hq c1])
  ·obtain rfl := zb hf1
   obtain rfl := hl1
   exact yB X0 hC hJ1 out1 hf0 (Z0 ++ [Hq c0])
def uf : Code := (Try.f77.body).getD .skip
def Xj : yj := spF (α := z6) (ρ := List Int) 77 (fun x => [zl x]) (fun r => F4_ r) (fun x => Xn x) [] (z1T)
abbrev Kk (out : List Int) : List (Nat × T) := [(6, .own (eOs 1 false (eI .i64) out))]
abbrev Kj (r_ : List Int) (r_1 : List Int) (r_2 : List Bool) (s_ : Int) (out2 : List Int) : List (Nat × T) := [(3, .own (eOs 1 false (eI .i64) r_)), (4, .own (eOs 1 false (eI .i64) r_1)), (5, .own (eOs 1 true eB r_2)), (6, .own (eOs 1 false (eI .i64) out2)), (7, .d (I s_))]
abbrev Ki (r_ : List Int) (r_1 : List Int) (r_2 : List Bool) (out1 : List Int) (s_ : Int) (k_ : Int) : List (Nat × T) := [(3, .own (eOs 1 false (eI .i64) r_)), (4, .own (eOs 1 false (eI .i64) r_1)), (5, .own (eOs 1 true eB r_2)), (6, .own (eOs 1 false (eI .i64) out1)), (7, .d (I s_)), (8, .d (I k_))]
abbrev Kh (r_ : List Int) (r_1 : List Int) (r_2 : List Bool) (out1 : List Int) (s_ : Int) (n_ : Int) (k_2 : Int) : List (Nat × T) := [(3, .own (eOs 1 false (eI .i64) r_)), (4, .own (eOs 1 false (eI .i64) r_1)), (5, .own (eOs 1 true eB r_2)), (6, .own (eOs 1 false (eI .i64) out1)), (7, .d (I s_)), (8, .d (I k_2)), (9, .d (I n_))]
abbrev Kf (r_ : List Int) (r_1 : List Int) (r_2 : List Bool) (out1 : List Int) (s_ : Int) (k_1 : Int) (n_ : Int) : List (Nat × T) := [(3, .own (eOs 1 false (eI .i64) r_)), (4, .own (eOs 1 false (eI .i64) r_1)), (5, .own (eOs 1 true eB r_2)), (6, .own (eOs 1 false (eI .i64) out1)), (7, .d (I s_)), (8, .d (I k_1)), (9, .d (I n_))]
abbrev Kg (r_ : List Int) (r_1 : List Int) (r_2 : List Bool) (out1 : List Int) (s_ : Int) : List (Nat × T) := [(3, .own (eOs 1 false (eI .i64) r_)), (4, .own (eOs 1 false (eI .i64) r_1)), (5, .own (eOs 1 true eB r_2)), (6, .own (eOs 1 false (eI .i64) out1)), (7, .d (I s_))]
theorem z2m {ctr : Ctr} (hC : zM Try.prog ctr) (h0j : ctr.Has uK) (h0k : ctr.Has qt) (h0U : ctr.Has jW) : Xj.Ok Try.prog := by
 refine zV ?_
 rintro m_ r0 hf0
 try unfold Xn at hf0
 refine yO true [(2, none)] uf 52 Try.func77 fun E hE => ?_
 obtain ⟨r_, h0, hf0⟩ := ze hf0
 obtain ⟨r_1, h1, hf0⟩ := ze hf0
 obtain ⟨r_2, h2, hf0⟩ := ze hf0
 refine yJ X0 hC uf [1,1,1,1,1] [] [6] (fun z : List Int => Zz z = some r0) (fun z => Kk z) [(3, .own (eOs 1 false (eI .i64) r_)), (4, .own (eOs 1 false (eI .i64) r_1)), (5, .own (eOs 1 true eB r_2)), (6, .own (eOs 1 true (eI .i64) []))] [Hc h0j (x := m_) h0 (loC zl m_ <| loN), Hc h0k (x := m_) h1 (loC zl m_ <| loN), Hc h0U (x := (m_, 0)) h2 (loC zl m_ <| loC (eI .i64) 0 <| loN), Hh (.cut 1)] ?_ fun J1 hJ1 => ?_
 ·rintro out hf0
  unfold Zz at hf0
  obtain rfl := zb hf0
  exact yE X0 hC hE []
 ·obtain ⟨t2, ht2, hf0⟩ := ze hf0
  refine yLx X0 hC uf [1,1,1,1,1,2,1,0] [J1] (fun s => Zw r_ r_1 r_2 s.1 s.2) (fun x => Kg r_ r_1 r_2 x.1 x.2) (([] : List Int), 0) ht2 [(3, .own (eOs 1 false (eI .i64) r_)), (4, .own (eOs 1 false (eI .i64) r_1)), (5, .own (eOs 1 true eB r_2)), (6, .own (eOs 1 true (eI .i64) [])), (7, .d (I 0))] inferInstance [] ?_
  rintro ⟨out1, s_⟩ m2 lr1 hf1 hl1 J2 hJ2
  try unfold Zw at hf1
  rcases zD hf1 with ⟨c0, hf1⟩ | ⟨c0, hf1⟩
  ·refine yJ X0 hC uf [1,1,1,1,1,2,1,0,0,1] [J1, J2] [3,4,5,6,7] (fun z : List Int => Zy s_ z = some lr1) (fun z => Kj r_ r_1 r_2 s_ z) [(3, .own (eOs 1 false (eI .i64) r_)), (4, .own (eOs 1 false (eI .i64) r_1)), (5, .own (eOs 1 true eB r_2)), (6, .own (eOs 1 false (eI .i64) out1)), (7, .d (I s_))] [Ha (lnM (eI .i64) r_), Hq c0, Hh (.cut 0)] ?_ fun J3 hJ3 => ?_
   ·rintro out2 hf1
    unfold Zy at hf1
    obtain rfl := zb hf1
    exact yB X0 hC hJ2 (out2, w64 (s_ + 1)) hl1 []
   ·refine yJ X0 hC uf [1,1,1,1,1,2,1,0,0,1,2,0,1] [J1, J2, J3] [3,4,5,6,7,8] (fun z : Int => Zx out1 s_ z = some lr1) (fun z => Ki r_ r_1 r_2 out1 s_ z) [(3, .own (eOs 1 false (eI .i64) r_)), (4, .own (eOs 1 false (eI .i64) r_1)), (5, .own (eOs 1 true eB r_2)), (6, .own (eOs 1 false (eI .i64) out1)), (7, .d (I s_)), (8, .d (I (-1)))] [Hh (.cut 1)] ?_ fun J4 hJ4 => ?_
    ·rintro k_ hf1
     unfold Zx at hf1
     obtain ⟨g0, hf1⟩ := gdE hf1
     exact yB X0 hC hJ3 (out1 ++ ([k_] : List Int)) hf1 [Hq (dM (eI .i64) ([k_] : List Int)), Hn (dM (eI .i64) ([k_] : List Int)), Hn (aL (eI .i64) (eI .i64) g0), Hl (aM (eI .i64) out1 ([k_] : List Int))]
    ·obtain ⟨t5, ht5, hf1⟩ := ze hf1
     refine yL X0 hC uf [1,1,1,1,1,2,1,0,0,1,2,0,1,2,1,0] [J1, J2, J3, J4] (fun s => jK r_ r_1 r_2 s_ s.1 s.2) (fun x => Kf r_ r_1 r_2 out1 s_ x.1 x.2) ((-1), 0) ht5  [] ?_
     rintro ⟨k_1, n_⟩ m5 lr2 hf2 hl2 J5 hJ5
     try unfold jK at hf2
     rcases zD hf2 with ⟨c1, hf2⟩ | ⟨c1, hf2⟩
     ·refine yJ X0 hC uf [1,1,1,1,1,2,1,0,0,1,2,0,1,2,1,0,0,1] [J1, J2, J3, J4, J5] [3,4,5,6,7,8,9] (fun z : Int => qj n_ z = some lr2) (fun z => Kh r_ r_1 r_2 out1 s_ n_ z) [(3, .own (eOs 1 false (eI .i64) r_)), (4, .own (eOs 1 false (eI .i64) r_1)), (5, .own (eOs 1 true eB r_2)), (6, .own (eOs 1 false (eI .i64) out1)), (7, .d (I s_)), (8, .d (I k_1)), (9, .d (I n_))] [Ha (lnM (eI .i64) r_1), Hq c1, Hh (.cut 0)] ?_ fun J6 hJ6 => ?_
      ·rintro k_2 hf2
       unfold qj at hf2
       obtain rfl := zb hf2
       exact yB X0 hC hJ5 (k_2, w64 (n_ + 1)) hl2 []
      ·obtain ⟨r__e, h3, hf2⟩ := ze hf2
       let Z0 : List HO := [Hn (iL eB h3), Hs (iM eB h3)]
       rcases zD hf2 with ⟨c2, hf2⟩ | ⟨c2, hf2⟩
       ·obtain ⟨r__e1, h4, hf2⟩ := ze hf2
        obtain ⟨r__e2, h5, hf2⟩ := ze hf2
        obtain ⟨r__e3, h6, hf2⟩ := ze hf2
        let Z1 : List HO := (Z0 ++ (rpN 4 (Hq c2) [Hn (iL (eI .i64) h4), Hq c2, Hs (iM (eI .i64) h4), Hq c2, Hn (iL (eI .i64) h5), Hq c2, Hs (iM (eI .i64) h5), Hq c2, Hq c2, Hq c2, Hn (iL (eI .i64) h6), Hq c2, Hs (iM (eI .i64) h6), Hq c2, Hq c2]))
        rcases zD hf2 with ⟨c3, hf2⟩ | ⟨c3, hf2⟩
        ·exact yB X0 hC hJ6 n_ hf2 (Z1 ++ [Hq c3])
        ·exact yB X0 hC hJ6 k_1 hf2 (Z1 ++ [Hq c3])
       ·exact yB X0 hC hJ6 k_1 hf2 (Z0 ++ (rpN 13 (Hq c2) [qF]))
     ·obtain rfl := zb hf2
      obtain rfl := hl2
      exact yB X0 hC hJ4 k_1 hf1 [Ha (lnM (eI .i64) r_1), Hq c1]
  ·obtain rfl := zb hf1
   obtain rfl := hl1
   exact yB X0 hC hJ1 out1 hf0 [Ha (lnM (eI .i64) r_), Hq c0]
end Go.Own
end
