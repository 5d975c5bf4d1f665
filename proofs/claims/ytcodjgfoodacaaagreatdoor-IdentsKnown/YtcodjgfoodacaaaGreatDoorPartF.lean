/- -/
import Derived.Test.YtcodjgfoodacaaaGreatDoorPartE
noncomputable section
set_option linter.unusedVariables false
set_option linter.unusedSimpArgs false
namespace Go.Own
open Go.Proofs
set_option maxRecDepth 100000
set_option maxHeartbeats 8000000
def X0 : XH Tryz.prog := xB zu
theorem Wu : Tryz.prog.follows .mixedOrders = true := by kernel_rfl
section
variable {ctr : Ctr} {n : Fr} {Q : Exit → St → Prop} {c : Code} {fs : List Fm} {st : St}
theorem yE (X : XH Tryz.prog) (hC : zx Tryz.prog ctr) {E : St → Prop} {r : A} {keep : Bool} {rs : List (Nat × Option Nat)} (hE : ∀ st x R U, z5l yD keep rs st = some (x, R, U) → LeV x r → E st) (L : List HO) (e : zaW X yD ctr n keep rs 4000 c fs st (hoH L) = some (r, hoO L) := by kernel_rfl) : AWP Tryz.prog n c st (Qf Tryz.prog n fs (z4l E)) := yE6 X zu hC Wu hE L e
theorem yEx (X : XH Tryz.prog) (hC : zx Tryz.prog ctr) {E : St → Prop} {r : A} {keep : Bool} {rs : List (Nat × Option Nat)} (hE : ∀ st x R U, z5l yD keep rs st = some (x, R, U) → LeV x r → E st) (L : List HO) (x : A) (hle : LeV x r) (e : zaW X yD ctr n keep rs 4000 c fs st (hoH L) = some (x, hoO L) := by kernel_rfl) : AWP Tryz.prog n c st (Qf Tryz.prog n fs (z4l E)) := zgO X zu hC Wu hE L x hle e
theorem yB (X : XH Tryz.prog) (hC : zx Tryz.prog ctr) {τ : Type} {J : St → Prop} {live : List Nat} {S : τ → List (Nat × T)} {Inv : τ → Prop} (hJ : ∀ st' l' z, Inv z → Own.canon live st' = ofL l' → LeL l' (S z) → J st') (z : τ) (hz : Inv z) (L : List HO) (e : z0c X yD ctr n live 4000 c fs st (hoH L) = some (.back J, ofL (S z), hoO L) := by kernel_rfl) : AWP Tryz.prog n c st (Qf Tryz.prog n fs Q) := yB6 X zu hC Wu hJ z hz L e
theorem yBx (X : XH Tryz.prog) (hC : zx Tryz.prog ctr) {τ : Type} {J : St → Prop} {live : List Nat} {S : τ → List (Nat × T)} {Inv : τ → Prop} (hJ : ∀ st' l' z, Inv z → Own.canon live st' = ofL l' → LeL l' (S z) → J st') (z : τ) (hz : Inv z) (l : List (Nat × T)) (hl : LeL l (S z)) (L : List HO) (e : z0c X yD ctr n live 4000 c fs st (hoH L) = some (.back J, ofL l, hoO L) := by kernel_rfl) : AWP Tryz.prog n c st (Qf Tryz.prog n fs Q) := zgP X zu hC Wu hJ z hz l hl L e
theorem yA (X : XH Tryz.prog) (hC : zx Tryz.prog ctr) (bd : Code) (path : List Nat) (Js : List (St → Prop)) (l : List (Nat × T)) (L : List HO) (h : AWP Tryz.prog n (sub path bd) (ofL l) (Qf Tryz.prog n (frs path Js bd []) Q)) (e : z0c X yD ctr n (VN l) 4000 c fs st (hoH L) = some (.at (sub path bd) (frs path Js bd []), ofL l, hoO L) := by kernel_rfl) : AWP Tryz.prog n c st (Qf Tryz.prog n fs Q) := yA6 X zu hC Wu bd path Js l L e h
theorem yAt (X : XH Tryz.prog) (hC : zx Tryz.prog ctr) (c' : Code) (fs' : List Fm) (l : List (Nat × T)) (L : List HO) (h : ∀ st0, Own.canon (VN l) st0 = ofL l → AWP Tryz.prog n c' st0 (Qf Tryz.prog n fs' Q)) (e : z0c X yD ctr n (VN l) 4000 c fs st (hoH L) = some (.at c' fs', ofL l, hoO L) := by kernel_rfl) : AWP Tryz.prog n c st (Qf Tryz.prog n fs Q) := zgQ X zu hC Wu c' fs' l L e h
theorem yLx (X : XH Tryz.prog) (hC : zx Tryz.prog ctr) (bd : Code) (path : List Nat) (Js : List (St → Prop)) {σ τ : Type} (f : σ → Option (LR σ τ)) (S : σ → List (Nat × T)) (x0 : σ) {t : τ} (ht : loop f x0 = some t) (l : List (Nat × T)) (hl : LeL l (S x0)) (L : List HO) (round : ∀ x m lr, f x = some lr → zex f m t lr → ∀ J : St → Prop, (∀ st' l' x', UH f m x' = some t → Own.canon (VN l) st' = ofL l' → LeL l' (S x') → J st') → AWP Tryz.prog n (sub (path ++ [0]) bd) (ofL (S x)) (Qf Tryz.prog n (.pre J :: frs path Js bd []) Q)) (e : z0c X yD ctr n (VN l) 4000 c fs st (hoH L) = some (.at (sub path bd) (frs path Js bd []), ofL l, hoO L) := by kernel_rfl) (e2 : sub path bd = .loop (sub (path ++ [0]) bd) := by kernel_rfl) (hk : ∀ x, VN (S x) = VN l := by exact fun _ => rfl) : AWP Tryz.prog n c st (Qf Tryz.prog n fs Q) := yL6 X zu hC Wu bd path Js f S x0 ht l hl L hk e e2 round
theorem yL (X : XH Tryz.prog) (hC : zx Tryz.prog ctr) (bd : Code) (path : List Nat) (Js : List (St → Prop)) {σ τ : Type} (f : σ → Option (LR σ τ)) (S : σ → List (Nat × T)) (x0 : σ) {t : τ} (ht : loop f x0 = some t) (L : List HO) (round : ∀ x m lr, f x = some lr → zex f m t lr → ∀ J : St → Prop, (∀ st' l' x', UH f m x' = some t → Own.canon (VN (S x0)) st' = ofL l' → LeL l' (S x') → J st') → AWP Tryz.prog n (sub (path ++ [0]) bd) (ofL (S x)) (Qf Tryz.prog n (.pre J :: frs path Js bd []) Q)) (e : z0c X yD ctr n (VN (S x0)) 4000 c fs st (hoH L) = some (.at (sub path bd) (frs path Js bd []), ofL (S x0), hoO L) := by kernel_rfl) (e2 : sub path bd = .loop (sub (path ++ [0]) bd) := by kernel_rfl) (hk : ∀ x, VN (S x) = VN (S x0) := by exact fun _ => rfl) : AWP Tryz.prog n c st (Qf Tryz.prog n fs Q) := yL6 X zu hC Wu bd path Js f S x0 ht _ (LeL.refl _) L hk e e2 round
theorem yJ (X : XH Tryz.prog) (hC : zx Tryz.prog ctr) (bd : Code) (path : List Nat) (Js : List (St → Prop)) {σ : Type} (live : List Nat) (Inv : σ → Prop) (S : σ → List (Nat × T)) (l : List (Nat × T)) (L : List HO) (h1 : ∀ z, Inv z → AWP Tryz.prog n (sub (path ++ [1]) bd) (ofL (S z)) (Qf Tryz.prog n (frs path Js bd []) Q)) (h2 : ∀ J : St → Prop, (∀ st' l' z, Inv z → Own.canon live st' = ofL l' → LeL l' (S z) → J st') → AWP Tryz.prog n (sub (path ++ [2]) bd) (ofL l) (Qf Tryz.prog n (.pre J :: frs path Js bd []) Q)) (e : z0c X yD ctr n (VN l) 4000 c fs st (hoH L) = some (.at (sub path bd) (frs path Js bd []), ofL l, hoO L) := by kernel_rfl) (e2 : sub path bd = .seq (sub (path ++ [2]) bd) (sub (path ++ [1]) bd) := by kernel_rfl) : AWP Tryz.prog n c st (Qf Tryz.prog n fs Q) := yJ6 X zu hC Wu bd path Js live Inv S l L e e2 h1 h2
theorem yF (X : XH Tryz.prog) (hC : zx Tryz.prog ctr) (ex : Exit) (l : List (Nat × T)) (L : List HO) (h : ∀ st0, Own.canon (VN l) st0 = ofL l → Q ex st0) (e : z0c X yD ctr n (VN l) 4000 c fs st (hoH L) = some (.fin ex, ofL l, hoO L) := by kernel_rfl) : AWP Tryz.prog n c st (Qf Tryz.prog n fs Q) := yF6 X zu hC Wu ex l L e h
theorem yO {k : Nat} {fn : Func} {r : A} {ls : List A} (keep : Bool) (rs : List (Nat × Option Nat)) (body : Code) (nt : Nat) (hf : Tryz.prog.funcs[k]? = some fn) (h : ∀ E : St → Prop, (∀ st x R U, z5l yD keep rs st = some (x, R, U) → LeV x r → E st) → AWP Tryz.prog ⟨nt, []⟩ body (ofL (z4q 0 ls)) (Qf Tryz.prog ⟨nt, []⟩ [] (z4l E))) (hb : fn.body = some body := by kernel_rfl) (hn : nt = fn.ntmps := by exact rfl) (hr : fn.results = (rs.map z1C).toArray := by exact rfl) (hnm : (fn.name == "runtime.NumGoroutine") = false := by exact rfl) (ha : Nat.ble ls.length nt = true := by kernel_rfl) : Xl Tryz.prog k ls r := yO6 zu keep rs body nt hf hb hn hr hnm ha h
end
theorem z27 : z8u Tryz.prog 188 193 3 (Ke [.i64, .i64, .i64, .i64, .i64, .i64, .i64, .i64, .i64, .i64, .i64, .i64, .i64, .i64, .i64, .i64, .i64, .i64, .i64, .i64, .i64, .i64, .i64, .i64, .i64, .i64, .i64, .i64, .i64, .i64, .i64, .i64, .i64]) (.atom (.int .i64 0)) := z7G Tryz.underlying188 _ Tryz.underlying193 (Go.Ex.z5Q.eqn rfl) (z3h.eqn rfl) rfl ⟨.int .i64 0, fun w => z6C (f := Tryz.t3) (by kernel_rfl) rfl w, fun S => vX.2 ⟨rfl, rfl⟩⟩ rfl
theorem zbK : zaQ Tryz.prog 118 1 false := z7j zu (t := 40) Tryz.so118 rfl rfl (by kernel_rfl) (by decide)
def Ji : Code := (Tryz.f125.body).getD .skip
def uJ : zS := spF (α := Unit) (ρ := z8) 125 (fun x => []) (fun r => F6_ r) (fun x => vA) [] (fun _ _ _ => rfl)
theorem JH {ctr : Ctr} (hC : zx Tryz.prog ctr) : uJ.Ok Tryz.prog := by
 refine zB ?_
 rintro ⟨⟩ r0 hf0
 try unfold vA at hf0
 refine yO false [(0, some 67)] Ji 2 Tryz.func125 fun E hE => ?_
 obtain rfl := zb hf0
 exact yE X0 hC hE []
def Jj : Code := (Tryz.f94.body).getD .skip
def Zk : zS := spF (α := z6 × z8) (ρ := Bool) 94 (fun x => [yq x.1, F6_ x.2]) (fun r => eB r) (fun x => k0 x.1 x.2) [] (Vt)
theorem JI {ctr : Ctr} (hC : zx Tryz.prog ctr) (h0d : ctr.Has uJ) : Zk.Ok Tryz.prog := by
 refine zB ?_
 rintro ⟨m_, x_⟩ r0 hf0
 try unfold k0 at hf0
 refine yO true [(4, none)] Jj 33 Tryz.func94 fun E hE => ?_
 obtain ⟨r_, h0, hf0⟩ := zg hf0
 let Z0 : List HO := [Hc h0d (x := ()) h0 (loN)]
 rcases zO hf0 with ⟨c0, hf0⟩ | ⟨c0, hf0⟩
 ·obtain rfl := zb hf0
  exact yE X0 hC hE (Z0 ++ (rpN 10 (Hq c0) []))
 ·let Z1 : List HO := (Z0 ++ (rpN 4 (Hq c0) []))
  rcases zO hf0 with ⟨c1, hf0⟩ | ⟨c1, hf0⟩
  ·let Z2 : List HO := (Z1 ++ (rpN 5 (Hq c1) [Ha (lnM uE m_.Rows), Hq c1, Hq c0, Hq c1, Hq c0]))
   rcases zO hf0 with ⟨c2, hf0⟩ | ⟨c2, hf0⟩
   ·let Z3 : List HO := (Z2 ++ [Hq c2, Hq c2, Hq c2, Hq c0, Hq c2, Hq c0])
    rcases zO hf0 with ⟨c3, hf0⟩ | ⟨c3, hf0⟩
    ·obtain rfl := zb hf0
     exact yE X0 hC hE (Z3 ++ (rpN 5 (Hq c3) [Hq c0, Hq c3, Hq c0]))
    ·obtain rfl := zb hf0
     exact yE X0 hC hE (Z3 ++ (rpN 5 (Hq c3) [Hq c0, Hq c3, Hq c0]))
   ·obtain rfl := zb hf0
    exact yE X0 hC hE (Z2 ++ (Hq c2 :: Hq c2 :: Hq c2 :: Hq c0 :: Hq c2 :: Hq c0 :: (rpN 5 qF [Hq c0, qF, Hq c0])))
  ·obtain rfl := zb hf0
   exact yE X0 hC hE (Z1 ++ (rpN 6 (Hq c1) (Hq c0 :: Hq c1 :: Hq c0 :: qF :: qF :: qF :: Hq c0 :: qF :: Hq c0 :: (rpN 5 qF [Hq c0, qF, Hq c0]))))
def VT : Code := (Tryz.f93.body).getD .skip
def jA : zS := spF (α := z8 × z6) (ρ := Bool) 93 (fun x => [F6_ x.1, Q6 x.2]) (fun r => eB r) (fun x => jt x.1 x.2) [] (Vt)
theorem Ut {ctr : Ctr} (hC : zx Tryz.prog ctr) (h0C : ctr.Has Zk) : jA.Ok Tryz.prog := by
 refine zB ?_
 rintro ⟨x_, x1⟩ r0 hf0
 try unfold jt at hf0
 refine yO true [(3, none)] VT 8 Tryz.func93 fun E hE => ?_
 obtain ⟨r_, h0, hf0⟩ := zg hf0
 obtain rfl := zb hf0
 exact yE X0 hC hE [Hc h0C (x := (x1, x_)) h0 (loC yq x1 <| loC F6_ x_ <| loN)]
def xe : Code := (Tryz.f124.body).getD .skip
def yZ : zS := spF (α := List z8 × z6) (ρ := Int) 124 (fun x => [uE x.1, (Vb 93 Q6) x.2]) (fun r => (eI .i64) r) (fun x => yj x.1 x.2) [] (by
 rintro ⟨a0, a1⟩ ⟨b0, b1⟩ h
 have e0 := Zt.inj (f := uE) _ _ (List.cons.inj h).1
 replace h := (List.cons.inj h).2
 have e1 := Zt.inj (f := (Vb 93 Q6)) _ _ (List.cons.inj h).1
 subst e0 e1
 rfl)
abbrev qp : List (Nat × T) := []
abbrev qo (s_ : List z8) (f_ : z6) (x8 : Int) : List (Nat × T) := [(0, .d (eSl 2 false F6_ s_)), (1, .d (.fn 93 [.sptr (.agg [I f_.Inputs, I f_.Outputs, eSl 1 false uE f_.Rows])])), (7, .d (I ((s_.length : Nat) : Int))), (8, .d (I x8))]
theorem jj {ctr : Ctr} (hC : zx Tryz.prog ctr) (h0D : ctr.Has jA) : yZ.Ok Tryz.prog := by
 refine zB ?_
 rintro ⟨s_, f_⟩ r0 hf0
 try unfold yj at hf0
 refine yO true [(4, none)] xe 19 Tryz.func124 fun E hE => ?_
 refine yJ X0 hC xe [1] [] [] (fun z : Unit => xa = some r0) (fun z => qp) [(0, .d (eSl 2 false F6_ s_)), (1, .d (.fn 93 [.sptr (.agg [I f_.Inputs, I f_.Outputs, eSl 1 false uE f_.Rows])]))] [Hh (.cut 1)] ?_ fun J1 hJ1 => ?_
 ·rintro ⟨⟩ hf0
  unfold xa at hf0
  obtain rfl := zb hf0
  exact yE X0 hC hE []
 ·obtain ⟨t2, ht2, hf0⟩ := zg hf0
  refine yL X0 hC xe [1,2,1,0] [J1] (fun s => zJ s_ f_ s) (fun x => qo s_ f_ x) 0 ht2  [Ha (lnM F6_ s_)] ?_
  rintro x8 m2 lr1 hf1 hl1 J2 hJ2
  try unfold zJ at hf1
  rcases zO hf1 with ⟨c0, hf1⟩ | ⟨c0, hf1⟩
  ·obtain ⟨s__e, h0, hf1⟩ := zg hf1
   obtain ⟨r_, h1, hf1⟩ := zg hf1
   let Z0 : List HO := [Hq c0, Hi F6_ h0, Hc h0D (x := (s__e, f_)) h1 (loC F6_ s__e <| loC Q6 f_ <| loN)]
   rcases zO hf1 with ⟨c1, hf1⟩ | ⟨c1, hf1⟩
   ·obtain rfl := zb hf1
    obtain rfl := hl1
    obtain rfl := zb hf0
    exact yE X0 hC hE (Z0 ++ [Hq c1])
   ·obtain rfl := zb hf1
    exact yB X0 hC hJ2 (w64 (x8 + 1)) hl1 (Z0 ++ [Hq c1])
  ·obtain rfl := zb hf1
   obtain rfl := hl1
   exact yB X0 hC hJ1 () hf0 [Hq c0]
def qn : Code := (Tryz.f92.body).getD .skip
def yu : zS := spF (α := List z8 × z6) (ρ := Bool) 92 (fun x => [uE x.1, (Vb 93 Q6) x.2]) (fun r => eB r) (fun x => zQ x.1 x.2) [] (by
 rintro ⟨a0, a1⟩ ⟨b0, b1⟩ h
 have e0 := Zt.inj (f := uE) _ _ (List.cons.inj h).1
 replace h := (List.cons.inj h).2
 have e1 := Zt.inj (f := (Vb 93 Q6)) _ _ (List.cons.inj h).1
 subst e0 e1
 rfl)
theorem qr {ctr : Ctr} (hC : zx Tryz.prog ctr) (h0E : ctr.Has yZ) : yu.Ok Tryz.prog := by
 refine zB ?_
 rintro ⟨s_, f_⟩ r0 hf0
 try unfold zQ at hf0
 refine yO true [(4, none)] qn 9 Tryz.func92 fun E hE => ?_
 obtain ⟨r_, h0, hf0⟩ := zg hf0
 obtain rfl := zb hf0
 exact yE X0 hC hE [Hc h0E (x := (s_, f_)) h0 (loC uE s_ <| loC (Vb 93 Q6) f_ <| loN)]
def kI : Code := (Tryz.f70.body).getD .skip
def xz : zS := spF (α := z6) (ρ := Int) 70 (fun x => [yq x]) (fun r => (eI .i64) r) (fun x => xF x) [] (WA)
abbrev Vm : List (Nat × T) := []
abbrev Vl (m_ : z6) (x36 : Int) : List (Nat × T) := [(1, .d (.sptr (yq m_))), (34, .d (eSl 1 false uE m_.Rows)), (35, .d (I ((m_.Rows.length : Nat) : Int))), (36, .d (I x36))]
theorem Jd {ctr : Ctr} (hC : zx Tryz.prog ctr) (h0F : ctr.Has yu) : xz.Ok Tryz.prog := by
 refine zB ?_
 rintro m_ r0 hf0
 try unfold xF at hf0
 refine yO true [(2, none)] kI 51 Tryz.func70 fun E hE => ?_
 rcases zO hf0 with ⟨c0, hf0⟩ | ⟨c0, hf0⟩
 ·obtain rfl := zb hf0
  exact yE X0 hC hE (rpN 4 (Hq c0) (rpN 6 qT []))
 ·let Z0 : List HO := (rpN 4 (Hq c0) [])
  rcases zO hf0 with ⟨c1, hf0⟩ | ⟨c1, hf0⟩
  ·obtain rfl := zb hf0
   exact yE X0 hC hE (Z0 ++ (rpN 5 (Hq c1) [qT]))
  ·let Z1 : List HO := (Z0 ++ [Hq c1, Hq c1, Hq c1, Ha (lnM uE m_.Rows), Hq c1, Hq c1])
   rcases zO hf0 with ⟨c2, hf0⟩ | ⟨c2, hf0⟩
   ·obtain rfl := zb hf0
    exact yE X0 hC hE (Z1 ++ [Hq c2])
   ·rcases zO hf0 with ⟨c3, hf0⟩ | ⟨c3, hf0⟩
    ·obtain rfl := zb hf0
     exact yE X0 hC hE (Z1 ++ (Hq c2 :: (rpN 4 (Hq c3) (rpN 6 qT []))))
    ·let Z2 : List HO := (Z1 ++ (Hq c2 :: (rpN 4 (Hq c3) [])))
     rcases zO hf0 with ⟨c4, hf0⟩ | ⟨c4, hf0⟩
     ·obtain rfl := zb hf0
      exact yE X0 hC hE (Z2 ++ (rpN 5 (Hq c4) [qT]))
     ·let Z3 : List HO := (Z2 ++ [Hq c4, Hq c4, Hq c4, Ha (lnM uE m_.Rows), Hq c4, Hq c4])
      rcases zO hf0 with ⟨c5, hf0⟩ | ⟨c5, hf0⟩
      ·obtain rfl := zb hf0
       exact yE X0 hC hE (Z3 ++ [Hq c5])
      ·refine yJ X0 hC kI [1,1,1] [] [] (fun z : Unit => kC = some r0) (fun z => Vm) [(1, .own (.box (yq m_)))] (Z3 ++ [Hq c5, Hh (.cut 0)]) ?_ fun J1 hJ1 => ?_
       ·rintro ⟨⟩ hf0
        unfold kC at hf0
        obtain rfl := zb hf0
        exact yE X0 hC hE []
       ·obtain ⟨t2, ht2, hf0⟩ := zg hf0
        refine yL X0 hC kI [1,1,1,2,1,0] [J1] (fun s => wR m_ s) (fun x => Vl m_ x) 0 ht2  [Ha (lnM uE m_.Rows), Hh (.n 1 [1])] ?_
        rintro x36 m2 lr1 hf1 hl1 J2 hJ2
        try unfold wR at hf1
        rcases zO hf1 with ⟨c6, hf1⟩ | ⟨c6, hf1⟩
        ·obtain ⟨Row_e, h0, hf1⟩ := zg hf1
         let Z4 : List HO := [Hq c6, Hi uE h0, Ha (lnM F6_ Row_e)]
         rcases zO hf1 with ⟨c7, hf1⟩ | ⟨c7, hf1⟩
         ·obtain rfl := zb hf1
          obtain rfl := hl1
          obtain rfl := zb hf0
          exact yE X0 hC hE (Z4 ++ (rpN 4 (Hq c7) [qT]))
         ·obtain ⟨r_, h1, hf1⟩ := zg hf1
          let Z5 : List HO := (Z4 ++ [Hq c7, Hq c7, Hq c7, Hc h0F (x := (Row_e, m_)) h1 (loC uE Row_e <| loC (Vb 93 Q6) m_ <| loN), Hq c7])
          rcases zO hf1 with ⟨c8, hf1⟩ | ⟨c8, hf1⟩
          ·obtain rfl := zb hf1
           obtain rfl := hl1
           obtain rfl := zb hf0
           exact yE X0 hC hE (Z5 ++ [Hq c8])
          ·obtain rfl := zb hf1
           exact yB X0 hC hJ2 (w64 (x36 + 1)) hl1 (Z5 ++ [Hq c8])
        ·obtain rfl := zb hf1
         obtain rfl := hl1
         exact yB X0 hC hJ1 () hf0 [Hq c6]
def UP : Code := (Tryz.f71.body).getD .skip
def jR : zS := spF (α := z6) (ρ := (Int × z6) × (Int × z6) × (Int × z6)) 71 (fun x => [yq x]) (fun r => (zho (zff (eI .i64) (Vb 95 Q6)) (zff (eI .i64) (Vb 97 Q6)) (zff (eI .i64) (Vb 99 Q6))) r) (fun x => jW x) [] (WA)
theorem Qb {ctr : Ctr} (hC : zx Tryz.prog ctr) : jR.Ok Tryz.prog := by
 refine zB ?_
 rintro m_ r0 hf0
 try unfold jW at hf0
 refine yO false [(2, some 96)] UP 10 Tryz.func71 fun E hE => ?_
 obtain rfl := zb hf0
 exact yEx X0 hC hE [] (.agg [.agg [I 9, .fn 95 [.sptr (.agg [I m_.Inputs, I m_.Outputs, eSl 1 false uE m_.Rows])]], .agg [I 11, .fn 97 [.sptr (.agg [I m_.Inputs, I m_.Outputs, eSl 1 false uE m_.Rows])]], .agg [I 12, .fn 99 [.sptr (.agg [I m_.Inputs, I m_.Outputs, eSl 1 false uE m_.Rows])]]]) (show LeV (.agg [.agg [I 9, .fn 95 [.sptr (.agg [I m_.Inputs, I m_.Outputs, eSl 1 false uE m_.Rows])]], .agg [I 11, .fn 97 [.sptr (.agg [I m_.Inputs, I m_.Outputs, eSl 1 false uE m_.Rows])]], .agg [I 12, .fn 99 [.sptr (.agg [I m_.Inputs, I m_.Outputs, eSl 1 false uE m_.Rows])]]]) (.agg [.agg [I ((((9, m_), (11, m_), (12, m_)).1).1), .fn 95 [.sptr (.agg [I (((((9, m_), (11, m_), (12, m_)).1).2).Inputs), I (((((9, m_), (11, m_), (12, m_)).1).2).Outputs), eSl 1 false uE (((((9, m_), (11, m_), (12, m_)).1).2).Rows)])]], .agg [I ((((9, m_), (11, m_), (12, m_)).2.1).1), .fn 97 [.sptr (.agg [I (((((9, m_), (11, m_), (12, m_)).2.1).2).Inputs), I (((((9, m_), (11, m_), (12, m_)).2.1).2).Outputs), eSl 1 false uE (((((9, m_), (11, m_), (12, m_)).2.1).2).Rows)])]], .agg [I ((((9, m_), (11, m_), (12, m_)).2.2).1), .fn 99 [.sptr (.agg [I (((((9, m_), (11, m_), (12, m_)).2.2).2).Inputs), I (((((9, m_), (11, m_), (12, m_)).2.2).2).Outputs), eSl 1 false uE (((((9, m_), (11, m_), (12, m_)).2.2).2).Rows)])]]]) from inferInstance)
def QA : Code := (Tryz.f144.body).getD .skip
def kA : zS := spF (α := z6) (ρ := z6) 144 (fun x => [yq x]) (fun r => (Vb 166 Q6) r) (fun x => kO x) [] (WA)
theorem Jc {ctr : Ctr} (hC : zx Tryz.prog ctr) : kA.Ok Tryz.prog := by
 refine zB ?_
 rintro m_ r0 hf0
 try unfold kO at hf0
 refine yO true [(2, none)] QA 4 Tryz.func144 fun E hE => ?_
 obtain rfl := zb hf0
 exact yE X0 hC hE []
def uB : Code := (Tryz.f166.body).getD .skip
abbrev Wc {σ : Type} (x0 : z6) (YY : σ → z0x) (x10 : Int) (sg2 : σ) : List (Nat × T) := [(0, .own (.opq (YY sg2).q)), (8, .d (eSl 1 false uE x0.Rows)), (9, .d (I ((x0.Rows.length : Nat) : Int))), (10, .d (I x10))]
abbrev Wa {σ : Type} (x0 : z6) (YY : σ → z0x) (x10 : Int) (Row_e : List z8) (sg3 : σ) (x17 : Int) : List (Nat × T) := [(0, .own (.opq (YY sg3).q)), (3, .d (I x10)), (8, .d (eSl 1 false uE x0.Rows)), (9, .d (I ((x0.Rows.length : Nat) : Int))), (10, .d (I x10)), (15, .d (eSl 2 false F6_ Row_e)), (16, .d (I ((Row_e.length : Nat) : Int))), (17, .d (I x17))]
abbrev Wb {σ : Type} (x0 : z6) (YY : σ → z0x) (sg1 : σ) (x10 : Int) : List (Nat × T) := [(0, .own (.opq (YY sg1).q)), (8, .d (eSl 1 false uE x0.Rows)), (9, .d (I ((x0.Rows.length : Nat) : Int))), (10, .d (I x10))]
theorem Us {ctr : Ctr} (hC : zx Tryz.prog ctr) (x0 : z6) : z3f Tryz.prog (.fn 166 [.sptr (.agg [I x0.Inputs, I x0.Outputs, eSl 1 false uE x0.Rows])]) (fun (x : wn Int × z8) (_ : Bool) (_ : Value) => [F0_ x.1, F6_ x.2]) (@uL x0) := by
 refine z17 (tt := yD) (nt := 31) (body := uB) zu Tryz.func166 rfl (by kernel_rfl) rfl rfl (by show (2 : Nat) ≤ 31; decide) ?_
 intro σ yv YY yy hy sg r0 hf0 E hE
 unfold uL at hf0
 obtain ⟨t1, ht1, hf0⟩ := zg hf0
 refine yL X0 hC uB [1,0] [] (fun s => wZ x0 yy s.1 s.2) (fun x => Wb x0 YY x.1 x.2) (sg, 0) ht1  [Ha (lnM uE x0.Rows)] ?_
 rintro ⟨sg1, x10⟩ m1 lr1 hf1 hl1 J1 hJ1
 try unfold wZ at hf1
 rcases zO hf1 with ⟨c0, hf1⟩ | ⟨c0, hf1⟩
 ·refine yJ X0 hC uB [1,0,0,1,1] [J1] [0,8,9,10] (fun z : σ => ur x10 z = some lr1) (fun z => Wc x0 YY x10 z) [(0, .own (.opq (YY sg1).q)), (8, .d (eSl 1 false uE x0.Rows)), (9, .d (I ((x0.Rows.length : Nat) : Int))), (10, .d (I x10))] [Hq c0, Hh (.cut 0)] ?_ fun J2 hJ2 => ?_
  ·rintro sg2 hf1
   unfold ur at hf1
   obtain rfl := zb hf1
   exact yB X0 hC hJ1 (sg2, w64 (x10 + 1)) hl1 []
  ·obtain ⟨Row_e, h0, hf1⟩ := zg hf1
   obtain ⟨t3, ht3, hf1⟩ := zg hf1
   refine yL X0 hC uB [1,0,0,1,1,2,0,1,1,0] [J1, J2] (fun s => xZ yy x10 Row_e s.1 s.2) (fun x => Wa x0 YY x10 Row_e x.1 x.2) (sg1,0) ht3  [Hi uE h0, Ha (lnM F6_ Row_e)] ?_
   rintro ⟨sg3, x17⟩ m3 lr2 hf2 hl2 J3 hJ3
   try unfold xZ at hf2
   rcases zO hf2 with ⟨c1, hf2⟩ | ⟨c1, hf2⟩
   ·obtain ⟨Row_e_e, h1, hf2⟩ := zg hf2
    obtain ⟨yr, h2, hf2⟩ := zg hf2
    let Z0 : List HO := [Hq c1, Hi F6_ h1, Hn (z0L (yv := yv) (Y := YY) (enc := (fun (x : wn Int × z8) (_ : Bool) (_ : Value) => [F0_ x.1, F6_ x.2])) (s := sg3) (x := ((wn.mk x10 x17), Row_e_e)) (s' := yr.1) (b := yr.2) (v := .nilFunc) [F0_ (wn.mk x10 x17), F6_ Row_e_e] (show Q4 [F0_ (wn.mk x10 x17), F6_ Row_e_e] [F0_ (wn.mk x10 x17), F6_ Row_e_e] from inferInstance))]
    rcases zO hf2 with ⟨c2, hf2⟩ | ⟨c2, hf2⟩
    ·obtain rfl := zb hf2
     obtain rfl := hl2
     obtain rfl := zb hf1
     obtain rfl := hl1
     obtain rfl := zb hf0
     exact yF ((Um (P := Tryz.prog) yD hy 27 (s := sg3) (x := ((wn.mk x10 x17), Row_e_e)) (s' := yr.1) (b := yr.2) .nilFunc h2).or X0) hC .ret [(0, .own (.opq (YY yr.1).q))] (Z0 ++ [Hq c2]) fun st0 h0 => hE _ st0 (.inr rfl) h0
    ·obtain rfl := zb hf2
     exact yB ((Um (P := Tryz.prog) yD hy 27 (s := sg3) (x := ((wn.mk x10 x17), Row_e_e)) (s' := yr.1) (b := yr.2) .nilFunc h2).or X0) hC hJ3 (yr.1, w64 (x17 + 1)) hl2 (Z0 ++ [Hq c2])
   ·obtain rfl := zb hf2
    obtain rfl := hl2
    exact yB X0 hC hJ2 sg3 hf1 [Hq c1]
 ·obtain rfl := zb hf1
  obtain rfl := hl1
  obtain rfl := zb hf0
  exact yF X0 hC .normal [(0, .own (.opq (YY sg1).q))] [Hq c0] fun st0 h0 => hE _ st0 (.inl rfl) h0
def YC : Code := (Tryz.f145.body).getD .skip
def ve : zS := spF (α := List (wn Int)) (ρ := List (wn Int)) 145 (fun x => [(eSl 2 false F0_) x]) (fun r => (eSl 2 true F0_) r) (fun x => wJ x) [] (WA)
theorem YT {ctr : Ctr} (hC : zx Tryz.prog ctr) : ve.Ok Tryz.prog := by
 refine zB ?_
 rintro s_ r0 hf0
 try unfold wJ at hf0
 refine yO true [(2, none)] YC 9 Tryz.func145 fun E hE => ?_
 obtain ⟨g0, hf0⟩ := gdE hf0
 obtain rfl := zb hf0
 exact yE X0 hC hE [Ha (lnM F0_ s_), Ha (lnM F0_ s_), Hn (slB g0), Hn (slC g0), Hn (zbN F0_ g0), Ha (zgl 2 F0_ s_ 0 ((s_.length : Nat) : Int).toNat)]
def xD : Code := (Tryz.f126.body).getD .skip
def qu : zS := spF (α := z6) (ρ := List (wn Int)) 126 (fun x => [yq x]) (fun r => (eSl 2 true F0_) r) (fun x => qd x) [] (WA)
abbrev Xk (out : List (wn Int)) : List (Nat × T) := [(3, .own (.box (eOs 2 false F0_ out)))]
abbrev uh (r_1 : z6) (out1 : List (wn Int)) : List (Nat × T) := [(3, .own (.box (eOs 2 false F0_ out1))), (7, .d (.fn 166 [.sptr (.agg [I r_1.Inputs, I r_1.Outputs, eSl 1 false uE r_1.Rows])]))]
theorem V5 {ctr : Ctr} (hC : zx Tryz.prog ctr) (h0G : ctr.Has kA) (h0d : ctr.Has uJ) (h0v : ctr.Has ve) : qu.Ok Tryz.prog := by
 refine zB ?_
 rintro m_ r0 hf0
 try unfold qd at hf0
 refine yO true [(2, none)] xD 19 Tryz.func126 fun E hE => ?_
 refine yJ X0 hC xD [1,1] [] [3] (fun z : List (wn Int) => vz z = some r0) (fun z => Xk z) [(1, .own (.box (yq m_))), (3, .own (.box (eOs 2 true F0_ [])))] [Hh (.cut 2)] ?_ fun J1 hJ1 => ?_
 ·rintro out hf0
  unfold vz at hf0
  obtain ⟨r_, h0, hf0⟩ := zg hf0
  obtain rfl := zb hf0
  exact yE X0 hC hE [Hg (Jx h0v), Hm (shM F0_ F0_ out), Hs (Jy h0v (x := out) h0 (loC (eSl 2 false F0_) out <| loN)), Hm (shM F0_ F0_ out)]
 ·obtain ⟨r_1, h1, hf0⟩ := zg hf0
  obtain ⟨t2, ht2, hf0⟩ := zg hf0
  refine yAt X0 hC (sub [1,1,2,1,0] xD) (frs [1,1,2,1,0] [J1] xD []) [(3, .own (.box (eOs 2 true F0_ []))), (7, .d (.fn 166 [.sptr (.agg [I r_1.Inputs, I r_1.Outputs, eSl 1 false uE r_1.Rows])]))] [Hc h0G (x := m_) h1 (loC yq m_ <| loN)] fun st0 h0 => ?_
  refine VX (g := .tmp 7) (ps := [8,9]) (assign := (sub [1,1,2,1,0,0] xD)) (body := (sub [1,1,2,1,0,1] xD)) (K := 166) (caps := [.sptr (.agg [I r_1.Inputs, I r_1.Outputs, eSl 1 false uE r_1.Rows])]) (by kernel_rfl) [3,7] (fun s => uh r_1 s) (fun z => nomatch z) (fun z => nomatch z) ((fun (x : wn Int × z8) (_ : Bool) (_ : Value) => [F0_ x.1, F6_ x.2])) (F := @uL r_1) (fun s x => yg s x.1 x.2) ([] : List (wn Int)) t2 _ h0 inferInstance (by kernel_rfl) (by decide) (fun _ => rfl) (by rintro ⟨⟩) (by kernel_rfl) (fun _ _ _ => rfl) (Us hC r_1) ht2 ?_ ?_
  ·rintro tv2 out1 ⟨x8, x9⟩ vr lr1 hf1
   replace hf1 : yg out1 x8 x9 = some lr1 := hf1
   unfold yg at hf1
   refine yF X0 hC .normal [(3, .own (.box (eOs 2 false F0_ out1))), (4, .own (.box (F0_ x8))), (5, .own (.box (F6_ x9))), (7, .d (.fn 166 [.sptr (.agg [I r_1.Inputs, I r_1.Outputs, eSl 1 false uE r_1.Rows])]))] [] fun st0 h0 => ⟨rfl, z1l h0 ?_⟩
   obtain ⟨r_2, h2, hf1⟩ := zg hf1
   let Z0 : List HO := [Hc h0d (x := ()) h2 (loN)]
   rcases zO hf1 with ⟨c0, hf1⟩ | ⟨c0, hf1⟩
   ·obtain ⟨g0, hf1⟩ := gdE hf1
    obtain rfl := zb hf1
    exact yF X0 hC .normal (uh r_1 (out1 ++ ([x8] : List (wn Int)))) (Z0 ++ [Hq c0, Hq (dM F0_ ([x8] : List (wn Int))), Hn (dM F0_ ([x8] : List (wn Int))), Hn (aL F0_ F0_ g0), Hl (aM F0_ out1 ([x8] : List (wn Int)))]) fun st0 h0 => ⟨rfl, _, h0, LeL.refl _⟩
   ·obtain rfl := zb hf1
    exact yF X0 hC .normal (uh r_1 out1) (Z0 ++ [Hq c0]) fun st0 h0 => ⟨rfl, _, h0, LeL.refl _⟩
  ·rcases t2 with out1 | z
   ·dsimp only at hf0
    exact Zb (by kernel_rfl) (hJ1 _ [(3, .own (.box (eOs 2 false F0_ out1)))] out1 hf0 (show Own.canon [3] _ = ofL _ by kernel_rfl) inferInstance)
   ·cases z
def Vf : Code := (Tryz.f96.body).getD .skip
def jh : zS := spF (α := z6) (ρ := Bool × Int) 96 (fun x => [yq x]) (fun r => .tup [eB r.1, (eI .i64) r.2]) (fun x => ub x) [] (WA)
theorem VA {ctr : Ctr} (hC : zx Tryz.prog ctr) (h02 : ctr.Has xz) (h0H : ctr.Has qu) : jh.Ok Tryz.prog := by
 refine zB ?_
 rintro m_ r0 hf0
 try unfold ub at hf0
 refine yO false [(2, none), (3, none)] Vf 14 Tryz.func96 fun E hE => ?_
 obtain ⟨r_, h0, hf0⟩ := zg hf0
 let Z0 : List HO := [Hc h02 (x := m_) h0 (loC yq m_ <| loN)]
 rcases zO hf0 with ⟨c0, hf0⟩ | ⟨c0, hf0⟩
 ·obtain rfl := zb hf0
  exact yE X0 hC hE (Z0 ++ [Hq c0])
 ·obtain ⟨r_1, h1, hf0⟩ := zg hf0
  obtain rfl := zb hf0
  exact yE X0 hC hE (Z0 ++ [Hq c0, Hc h0H (x := m_) h1 (loC yq m_ <| loN), Ha (lnM F0_ r_1)])
def Ve : Code := (Tryz.f95.body).getD .skip
def jg : zS := spF (α := z6) (ρ := Bool) 95 (fun x => [Q6 x]) (fun r => eB r) (fun x => qX x) [] (WA)
theorem Vz {ctr : Ctr} (hC : zx Tryz.prog ctr) (h0I : ctr.Has jh) : jg.Ok Tryz.prog := by
 refine zB ?_
 rintro x0 r0 hf0
 try unfold qX at hf0
 refine yO true [(1, none)] Ve 10 Tryz.func95 fun E hE => ?_
 obtain ⟨r_, h0, hf0⟩ := zg hf0
 obtain rfl := zb hf0
 exact yE X0 hC hE [Hc h0I (x := x0) h0 (loC yq x0 <| loN)]
def kh : Code := (Tryz.f127.body).getD .skip
abbrev YI (cv0 : Value) (cv1 : Value) (cv2 : Value) (Row_e : List z8) (x1 : List Bool) (x2_Inputs : Int) (x2_Outputs : Int) (x2_Rows : List (List z8)) (x24 : Int) : List (Nat × T) := [(1, .own (.box (eOs 1 true eB x1))), (2, .own (.box (.agg [I x2_Inputs, I x2_Outputs, eSl 1 false uE x2_Rows]))), (3, .own (.box (.fn 127 [.atom cv0, .atom cv1, .atom cv2]))), (22, .d (eSl 2 false F6_ Row_e)), (23, .d (I ((Row_e.length : Nat) : Int))), (24, .d (I x24))]
theorem XZ {ctr : Ctr} (hC : zx Tryz.prog ctr) (cv0 : Value) (cv1 : Value) (cv2 : Value) : ∀ (fu : Nat) (s_ : Int) (y0 : List Bool) (y1 : z6) (r0 : List Bool × z6), y7 fu s_ y0 y1 = some r0 → jd Tryz.prog (.fn 127 [.atom cv0, .atom cv1, .atom cv2]) [I s_] ([cv0, cv1, cv2].zip [.box (eOs 1 true eB y0), .box (.agg [I y1.Inputs, I y1.Outputs, eSl 1 false uE y1.Rows]), .box (.fn 127 [.atom cv0, .atom cv1, .atom cv2])]) (.tup []) [.box (eOs 1 true eB r0.1), .box (.agg [I r0.2.Inputs, I r0.2.Outputs, eSl 1 false uE r0.2.Rows]), .box (.fn 127 [.atom cv0, .atom cv1, .atom cv2])] := by
 intro fu
 induction fu with
 | zero => intro s_ y0 y1 r0 hf0; exact nomatch (show none = some r0 from hf0)
 | succ fu ih =>
  intro s_ y0 y1 r0 hf0
  replace hf0 : xU (y7 fu) s_ y0 y1 = some r0 := hf0
  generalize y7 fu = rc_ at ih hf0
  refine z3Q (tt := yD) (nt := 33) (body := kh) [1,2,3] zu Tryz.func127 rfl (by kernel_rfl) rfl rfl (by show (4 : Nat) ≤ 33; decide) (by decide) rfl rfl (fun E hE => ?_) rfl
  unfold xU at hf0
  rcases zO hf0 with ⟨c0, hf0⟩ | ⟨c0, hf0⟩
  ·obtain rfl := zb hf0
   exact yF X0 hC .ret [(1, .own (.box (eOs 1 true eB y0))), (2, .own (.box (.agg [I y1.Inputs, I y1.Outputs, eSl 1 false uE y1.Rows]))), (3, .own (.box (.fn 127 [.atom cv0, .atom cv1, .atom cv2])))] (rpN 5 (Hq c0) [qT]) fun st0 h0 => hE _ st0 (.inr rfl) (VJ h0 ⟨⟨rfl, rfl⟩, ⟨⟨rfl, rfl⟩, ⟨⟨rfl, rfl⟩, trivial⟩⟩⟩)
  ·obtain ⟨y_e, h0, hf0⟩ := zg hf0
   let Z0 : List HO := [Hq c0, Hq c0, Hq c0, Hn (iL eB h0), Hq c0, Hs (iM eB h0), Hq c0]
   rcases zO hf0 with ⟨c1, hf0⟩ | ⟨c1, hf0⟩
   ·obtain rfl := zb hf0
    exact yF X0 hC .ret [(1, .own (.box (eOs 1 true eB y0))), (2, .own (.box (.agg [I y1.Inputs, I y1.Outputs, eSl 1 false uE y1.Rows]))), (3, .own (.box (.fn 127 [.atom cv0, .atom cv1, .atom cv2])))] (Z0 ++ [Hq c1]) fun st0 h0 => hE _ st0 (.inr rfl) (VJ h0 ⟨⟨rfl, rfl⟩, ⟨⟨rfl, rfl⟩, ⟨⟨rfl, rfl⟩, trivial⟩⟩⟩)
   ·obtain ⟨y_e1, h1, hf0⟩ := zg hf0
    obtain ⟨Row_e, h2, hf0⟩ := zg hf0
    obtain ⟨t1, ht1, hf0⟩ := zg hf0
    refine yL X0 hC kh [1,1,1,0] [] (fun s => yT rc_ Row_e s.1 s.2.1 s.2.2.1 s.2.2.2.1 s.2.2.2.2) (fun x => YI cv0 cv1 cv2 Row_e x.1 x.2.1 x.2.2.1 x.2.2.2.1 x.2.2.2.2) ((y0.set s_.toNat true), y1.Inputs, y1.Outputs, y1.Rows, 0) ht1  (Z0 ++ [Hq c1, Hn (iL eB h1), Hs (iM eB h1), Hs (iM eB h1), Hl (sM eB y0 s_ true), Hi uE h2, Ha (lnM F6_ Row_e)]) ?_
    rintro ⟨x1, x2_Inputs, x2_Outputs, x2_Rows, x24⟩ m1 lr1 hf1 hl1 J1 hJ1
    try unfold yT at hf1
    rcases zO hf1 with ⟨c2, hf1⟩ | ⟨c2, hf1⟩
    ·obtain ⟨Row_e_e, h3, hf1⟩ := zg hf1
     obtain ⟨r_, h4, hf1⟩ := zg hf1
     obtain rfl := zb hf1
     exact yB ((uV (P := Tryz.prog) yD [1,2,3] (ih _ _ _ _ h4) 31).or X0) hC hJ1 (r_.1, r_.2.Inputs, r_.2.Outputs, r_.2.Rows, w64 (x24 + 1)) hl1 [Hq c2, Hi F6_ h3, Hn (Zh (f := .fn 127 [.atom cv0, .atom cv1, .atom cv2]) (xs := [(eI .i64) Row_e_e.To]) (ls := [(cv0, .box (eOs 1 true eB x1)), (cv1, .box (.agg [I x2_Inputs, I x2_Outputs, eSl 1 false uE x2_Rows])), (cv2, .box (.fn 127 [.atom cv0, .atom cv1, .atom cv2]))]) (r := .tup []) (ys := [.box (eOs 1 true eB r_.1), .box (.agg [I r_.2.Inputs, I r_.2.Outputs, eSl 1 false uE r_.2.Rows]), .box (.fn 127 [.atom cv0, .atom cv1, .atom cv2])]) [(eI .i64) Row_e_e.To] (show Q4 [(eI .i64) Row_e_e.To] [(eI .i64) Row_e_e.To] from inferInstance))]
    ·obtain rfl := zb hf1
     obtain rfl := hl1
     obtain rfl := zb hf0
     exact yF X0 hC .normal [(1, .own (.box (eOs 1 true eB x1))), (2, .own (.box (.agg [I x2_Inputs, I x2_Outputs, eSl 1 false uE x2_Rows]))), (3, .own (.box (.fn 127 [.atom cv0, .atom cv1, .atom cv2])))] [Hq c2] fun st0 h0 => hE _ st0 (.inl rfl) (VJ h0 ⟨⟨rfl, rfl⟩, ⟨⟨rfl, rfl⟩, ⟨⟨rfl, rfl⟩, trivial⟩⟩⟩)
def vJ : Code := (Tryz.f146.body).getD .skip
def vG : zS := spF (α := List Bool × Bool) (ρ := Int) 146 (fun x => [(eSl 1 false eB) x.1, eB x.2]) (fun r => (eI .i64) r) (fun x => va x.1 x.2) [] (Vt)
abbrev ZH : List (Nat × T) := []
abbrev ZG (s_ : List Bool) (v_ : Bool) (x8 : Int) : List (Nat × T) := [(0, .d (eSl 1 false eB s_)), (1, .d (B v_)), (7, .d (I ((s_.length : Nat) : Int))), (8, .d (I x8))]
theorem X9 {ctr : Ctr} (hC : zx Tryz.prog ctr) : vG.Ok Tryz.prog := by
 refine zB ?_
 rintro ⟨s_, v_⟩ r0 hf0
 try unfold va at hf0
 refine yO true [(4, none)] vJ 19 Tryz.func146 fun E hE => ?_
 refine yJ X0 hC vJ [1] [] [] (fun z : Unit => vI = some r0) (fun z => ZH) [(0, .d (eSl 1 false eB s_)), (1, .d (B v_))] [Hh (.cut 1)] ?_ fun J1 hJ1 => ?_
 ·rintro ⟨⟩ hf0
  unfold vI at hf0
  obtain rfl := zb hf0
  exact yE X0 hC hE []
 ·obtain ⟨t2, ht2, hf0⟩ := zg hf0
  refine yL X0 hC vJ [1,2,1,0] [J1] (fun s => yk s_ v_ s) (fun x => ZG s_ v_ x) 0 ht2  [Ha (lnM eB s_)] ?_
  rintro x8 m2 lr1 hf1 hl1 J2 hJ2
  try unfold yk at hf1
  rcases zO hf1 with ⟨c0, hf1⟩ | ⟨c0, hf1⟩
  ·obtain ⟨s__e, h0, hf1⟩ := zg hf1
   rcases zO hf1 with ⟨c1, hf1⟩ | ⟨c1, hf1⟩
   ·obtain rfl := zb hf1
    obtain rfl := hl1
    obtain rfl := zb hf0
    exact yE X0 hC hE [Hq c0, Hi eB h0, Hq c1]
   ·obtain rfl := zb hf1
    exact yB X0 hC hJ2 (w64 (x8 + 1)) hl1 [Hq c0, Hi eB h0, Hq c1]
  ·obtain rfl := zb hf1
   obtain rfl := hl1
   exact yB X0 hC hJ1 () hf0 [Hq c0]
def ZD : Code := (Tryz.f128.body).getD .skip
def wF : zS := spF (α := List Bool × Bool) (ρ := Bool) 128 (fun x => [(eSl 1 false eB) x.1, eB x.2]) (fun r => eB r) (fun x => xp x.1 x.2) [] (Vt)
theorem ZO {ctr : Ctr} (hC : zx Tryz.prog ctr) (h0J : ctr.Has vG) : wF.Ok Tryz.prog := by
 refine zB ?_
 rintro ⟨s_, v_⟩ r0 hf0
 try unfold xp at hf0
 refine yO true [(4, none)] ZD 9 Tryz.func128 fun E hE => ?_
 obtain ⟨r_, h0, hf0⟩ := zg hf0
 obtain rfl := zb hf0
 exact yE X0 hC hE [Hc h0J (x := (s_, v_)) h0 (loC (eSl 1 false eB) s_ <| loC eB v_ <| loN)]
def Za : Code := (Tryz.f98.body).getD .skip
def qw : zS := spF (α := z6) (ρ := Bool × Int) 98 (fun x => [yq x]) (fun r => .tup [eB r.1, (eI .i64) r.2]) (fun x => vB x) [] (WA)
theorem V6 {ctr : Ctr} (hC : zx Tryz.prog ctr) (h02 : ctr.Has xz) (h0w : ctr.Has wF) : qw.Ok Tryz.prog := by
 refine zB ?_
 rintro m_ r0 hf0
 try unfold vB at hf0
 refine yO false [(2, none), (3, none)] Za 22 Tryz.func98 fun E hE => ?_
 obtain ⟨r_, h0, hf0⟩ := zg hf0
 let Z0 : List HO := [Hc h02 (x := m_) h0 (loC yq m_ <| loN)]
 rcases zO hf0 with ⟨c0, hf0⟩ | ⟨c0, hf0⟩
 ·obtain rfl := zb hf0
  exact yE X0 hC hE (Z0 ++ [Hq c0])
 ·obtain ⟨g0, hf0⟩ := gdE hf0
  refine yA X0 hC Za [1,1,1,1] [] [(1, .own (.box (yq m_))), (5, .own (.box (eOs 1 true eB (List.replicate ((m_.Rows.length : Nat) : Int).toNat false)))), (6, .own (.box (.atom .nilFunc)))] (Z0 ++ [Hq c0, Ha (lnM uE m_.Rows), Hn (rL g0), Ha (rM 1 eB ((m_.Rows.length : Nat) : Int) false), Hh (.cut 1)]) ?_
  refine z6j (by kernel_rfl) 5 fun pv5 => ?_
  refine z6j (by kernel_rfl) 1 fun pv1 => ?_
  refine z6j (by kernel_rfl) 6 fun pv6 => ?_
  obtain ⟨r_1, h1, hf0⟩ := zg hf0
  obtain ⟨r_2, h2, hf0⟩ := zg hf0
  obtain rfl := zb hf0
  exact yE ((uV (P := Tryz.prog) yD [5,1,6] (XZ hC pv5 pv1 pv6 fuel _ _ _ _ h1) 18).or ((xMk Tryz.prog yD).or X0)) hC hE [Hn (Zh (f := .fn 127 [.atom pv5, .atom pv1, .atom pv6]) (xs := [(eI .i64) 0]) (ls := [(pv5, .box (eOs 1 true eB (List.replicate ((m_.Rows.length : Nat) : Int).toNat false))), (pv1, .box (.agg [I m_.Inputs, I m_.Outputs, eSl 1 false uE m_.Rows])), (pv6, .box (.fn 127 [.atom pv5, .atom pv1, .atom pv6]))]) (r := .tup []) (ys := [.box (eOs 1 true eB r_1.1), .box (.agg [I r_1.2.Inputs, I r_1.2.Outputs, eSl 1 false uE r_1.2.Rows]), .box (.fn 127 [.atom pv5, .atom pv1, .atom pv6])]) [(eI .i64) 0] (show Q4 [(eI .i64) 0] [(eI .i64) 0] from inferInstance)), Hg (Jx h0w), Hm (shM eB eB r_1.1), Hs (Jy h0w (x := (r_1.1, false)) h2 (loC (eSl 1 true eB) r_1.1 <| loC eB false <| loN))]
def Vd : Code := (Tryz.f97.body).getD .skip
def jf : zS := spF (α := z6) (ρ := Bool) 97 (fun x => [Q6 x]) (fun r => eB r) (fun x => qW x) [] (WA)
theorem Vy {ctr : Ctr} (hC : zx Tryz.prog ctr) (h0K : ctr.Has qw) : jf.Ok Tryz.prog := by
 refine zB ?_
 rintro x0 r0 hf0
 try unfold qW at hf0
 refine yO true [(1, none)] Vd 10 Tryz.func97 fun E hE => ?_
 obtain ⟨r_, h0, hf0⟩ := zg hf0
 obtain rfl := zb hf0
 exact yE X0 hC hE [Hc h0K (x := x0) h0 (loC yq x0 <| loN)]
def Qy : Code := (Tryz.f129.body).getD .skip
def ky : zS := spF (α := z6) (ρ := z6) 129 (fun x => [yq x]) (fun r => (Vb 147 Q6) r) (fun x => kN x) [] (WA)
theorem Ja {ctr : Ctr} (hC : zx Tryz.prog ctr) : ky.Ok Tryz.prog := by
 refine zB ?_
 rintro m_ r0 hf0
 try unfold kN at hf0
 refine yO true [(2, none)] Qy 4 Tryz.func129 fun E hE => ?_
 obtain rfl := zb hf0
 exact yE X0 hC hE []
def ke : Code := (Tryz.f167.body).getD .skip
def ZU : zS := spF (α := z6 × List Int × Int) (ρ := yW (wn Int)) 167 (fun x => [yq x.1, F3_ x.2.1, (eI .i64) x.2.2]) (fun r => F5_ r) (fun x => qE x.1 x.2.1 x.2.2) [] (z8W)
abbrev UW (out : yW (wn Int)) : List (Nat × T) := [(6, .own (.box (.agg [.agg [I 0, I 0], .agg [I 0, I 0], .agg [I 0, I 0], .agg [I 0, I 0], .agg [I 0, I 0], .agg [I 0, I 0], .agg [I 0, I 0], .agg [I 0, I 0], .agg [I 0, I 0], .agg [I 0, I 0], .agg [I 0, I 0], .agg [I 0, I 0], .agg [I 0, I 0], .agg [I 0, I 0], .agg [I 0, I 0], .agg [I 0, I 0]]))), (7, .own (.box (F5_ out)))]
abbrev UV (p_ : List Int) (Row_e : List z8) (x16 : Int) (out2 : yW (wn Int)) : List (Nat × T) := [(1, .d (eSl 1 false (eI .i64) p_)), (6, .own (.box (.agg [.agg [I 0, I 0], .agg [I 0, I 0], .agg [I 0, I 0], .agg [I 0, I 0], .agg [I 0, I 0], .agg [I 0, I 0], .agg [I 0, I 0], .agg [I 0, I 0], .agg [I 0, I 0], .agg [I 0, I 0], .agg [I 0, I 0], .agg [I 0, I 0], .agg [I 0, I 0], .agg [I 0, I 0], .agg [I 0, I 0], .agg [I 0, I 0]]))), (7, .own (.box (F5_ out2))), (14, .d (eSl 2 false F6_ Row_e)), (15, .d (I ((Row_e.length : Nat) : Int))), (16, .d (I x16))]
abbrev UU (p_ : List Int) (Row_e : List z8) (out1 : yW (wn Int)) (x16 : Int) : List (Nat × T) := [(1, .d (eSl 1 false (eI .i64) p_)), (6, .own (.box (.agg [.agg [I 0, I 0], .agg [I 0, I 0], .agg [I 0, I 0], .agg [I 0, I 0], .agg [I 0, I 0], .agg [I 0, I 0], .agg [I 0, I 0], .agg [I 0, I 0], .agg [I 0, I 0], .agg [I 0, I 0], .agg [I 0, I 0], .agg [I 0, I 0], .agg [I 0, I 0], .agg [I 0, I 0], .agg [I 0, I 0], .agg [I 0, I 0]]))), (7, .own (.box (F5_ out1))), (14, .d (eSl 2 false F6_ Row_e)), (15, .d (I ((Row_e.length : Nat) : Int))), (16, .d (I x16))]
theorem KO {ctr : Ctr} (hC : zx Tryz.prog ctr) : ZU.Ok Tryz.prog := by
 refine zB ?_
 rintro ⟨m_, p_, s_⟩ r0 hf0
 try unfold qE at hf0
 refine yO false [(6, some 190)] ke 39 Tryz.func167 fun E hE => ?_
 refine yJ X0 hC ke [1,1] [] [6,7] (fun z : yW (wn Int) => jV z = some r0) (fun z => UW z) [(1, .d (eSl 1 false (eI .i64) p_)), (2, .d (I s_)), (3, .own (.box (yq m_))), (6, .own (.box (.agg [.agg [I 0, I 0], .agg [I 0, I 0], .agg [I 0, I 0], .agg [I 0, I 0], .agg [I 0, I 0], .agg [I 0, I 0], .agg [I 0, I 0], .agg [I 0, I 0], .agg [I 0, I 0], .agg [I 0, I 0], .agg [I 0, I 0], .agg [I 0, I 0], .agg [I 0, I 0], .agg [I 0, I 0], .agg [I 0, I 0], .agg [I 0, I 0]]))), (7, .own (.box (.agg [.agg [I 0, I 0], .agg [I 0, I 0], .agg [I 0, I 0], .agg [I 0, I 0], .agg [I 0, I 0], .agg [I 0, I 0], .agg [I 0, I 0], .agg [I 0, I 0], .agg [I 0, I 0], .agg [I 0, I 0], .agg [I 0, I 0], .agg [I 0, I 0], .agg [I 0, I 0], .agg [I 0, I 0], .agg [I 0, I 0], .agg [I 0, I 0]])))] [Hh (.cut 2)] ?_ fun J1 hJ1 => ?_
 ·rintro out hf0
  unfold jV at hf0
  obtain rfl := zb hf0
  exact yE X0 hC hE []
 ·obtain ⟨Row_e, h0, hf0⟩ := zg hf0
  obtain ⟨t2, ht2, hf0⟩ := zg hf0
  refine yL X0 hC ke [1,1,2,1,0] [J1] (fun s => qC p_ Row_e s.1 s.2) (fun x => UU p_ Row_e x.1 x.2) ((yW.mk (wn.mk 0 0) (wn.mk 0 0) (wn.mk 0 0) (wn.mk 0 0) (wn.mk 0 0) (wn.mk 0 0) (wn.mk 0 0) (wn.mk 0 0) (wn.mk 0 0) (wn.mk 0 0) (wn.mk 0 0) (wn.mk 0 0) (wn.mk 0 0) (wn.mk 0 0) (wn.mk 0 0) (wn.mk 0 0)), 0) ht2  [Hi uE h0, Ha (lnM F6_ Row_e)] ?_
  rintro ⟨out1, x16⟩ m2 lr1 hf1 hl1 J2 hJ2
  try unfold qC at hf1
  rcases zO hf1 with ⟨c0, hf1⟩ | ⟨c0, hf1⟩
  ·refine yJ X0 hC ke [1,1,2,1,0,0,1,1] [J1, J2] [1,6,7,14,15,16] (fun z : yW (wn Int) => qD x16 z = some lr1) (fun z => UV p_ Row_e x16 z) [(1, .d (eSl 1 false (eI .i64) p_)), (6, .own (.box (.agg [.agg [I 0, I 0], .agg [I 0, I 0], .agg [I 0, I 0], .agg [I 0, I 0], .agg [I 0, I 0], .agg [I 0, I 0], .agg [I 0, I 0], .agg [I 0, I 0], .agg [I 0, I 0], .agg [I 0, I 0], .agg [I 0, I 0], .agg [I 0, I 0], .agg [I 0, I 0], .agg [I 0, I 0], .agg [I 0, I 0], .agg [I 0, I 0]]))), (7, .own (.box (F5_ out1))), (14, .d (eSl 2 false F6_ Row_e)), (15, .d (I ((Row_e.length : Nat) : Int))), (16, .d (I x16))] [Hq c0, Hh (.cut 0)] ?_ fun J3 hJ3 => ?_
   ·rintro out2 hf1
    unfold qD at hf1
    obtain rfl := zb hf1
    exact yB X0 hC hJ2 (out2, w64 (x16 + 1)) hl1 []
   ·obtain ⟨Row_e_e, h1, hf1⟩ := zg hf1
    obtain ⟨cell, h2, hf1⟩ := zg hf1
    obtain ⟨arr, h3, hf1⟩ := zg hf1
    replace h3 := zb h3
    let Z0 : List HO := [Hi F6_ h1, Hn (⟨arJ (by kernel_rfl) (i0 h2), (iL F0_ h2).2⟩ : kp yD 190 ((yW.toL out1).map F0_) x16 = true ∧ x16.toNat < ((yW.toL out1).map F0_).length), Hh (.op 9), Hh (.f), Hs (iM F0_ h2), Hh (.f), Hs (iM F0_ h2), Hx (.l ((yW.toL arr).map F0_)) ((yW.setL F0_ out1 x16 (wn.mk Row_e_e.Out (-1))).trans (congrArg (fun q => (yW.toL q).map F0_) h3))]
    rcases zO hf1 with ⟨c1, hf1⟩ | ⟨c1, hf1⟩
    ·obtain ⟨p__e, h4, hf1⟩ := zg hf1
     obtain ⟨cell1, h5, hf1⟩ := zg hf1
     obtain ⟨arr1, h6, hf1⟩ := zg hf1
     replace h6 := zb h6
     exact yB X0 hC hJ3 arr1 hf1 (Z0 ++ [Hq c1, Hi (eI .i64) h4, Hn (⟨arJ (by kernel_rfl) (i0 h5), (iL F0_ h5).2⟩ : kp yD 190 ((yW.toL arr).map F0_) x16 = true ∧ x16.toNat < ((yW.toL arr).map F0_).length), Hh (.op 2), Hh (.f), Hs (iM F0_ h5), Hn (⟨rfl, by decide⟩ : true = true ∧ 1 < 2), Hh (.op 0), Hh (.f), Hs (iM F0_ h5), Hh (.f), Hx (.a (I cell1.e1)) (rfl : some (I cell1.e1 : A) = some (I cell1.e1)), Hh (.f), Hs (iM F0_ h5), Hh (.f), Hx (.a (I cell1.e1)) (rfl : some (I cell1.e1 : A) = some (I cell1.e1)), Hx (.l [I cell1.e0, I p__e]) (rfl : ([I cell1.e0, I p__e] : List A) = [I cell1.e0, I p__e]), Hx (.l ((yW.toL arr1).map F0_)) ((yW.setL F0_ arr x16 (wn.mk cell1.e0 p__e)).trans (congrArg (fun q => (yW.toL q).map F0_) h6))])
    ·exact yB X0 hC hJ3 arr hf1 (Z0 ++ [Hq c1])
  ·obtain rfl := zb hf1
   obtain rfl := hl1
   exact yB X0 hC hJ1 out1 hf0 [Hq c0]
def qh : Code := (Tryz.f148.body).getD .skip
def uX : zS := spF (α := z6 × List Int) (ρ := List Int) 148 (fun x => [yq x.1, F3_ x.2]) (fun r => F1_ r) (fun x => qG x.1 x.2) [] (Vt)
abbrev WJ (out : List Int) : List (Nat × T) := [(6, .own (eOs 1 true (eI .i64) out))]
abbrev WI (m_ : z6) (p_ : List Int) (out1 : List Int) (x18 : Int) (p__e : Int) (r_ : yW (wn Int)) (names1 : List (zw × Int)) : List (Nat × T) := [(1, .d (eSl 1 false (eI .i64) p_)), (2, .own (.box (yq m_))), (5, .own (.opq (QN (Xf Q7 (eI .i64) names1)))), (6, .own (eOs 1 true (eI .i64) out1)), (7, .d (I x18)), (9, .own (.box (.agg [I p__e, F5_ r_]))), (16, .d (eSl 1 false (eI .i64) p_)), (17, .d (I ((p_.length : Nat) : Int))), (18, .d (I x18))]
abbrev WH (m_ : z6) (p_ : List Int) (names : List (zw × Int)) (out1 : List Int) (x18 : Int) : List (Nat × T) := [(1, .d (eSl 1 false (eI .i64) p_)), (2, .own (.box (yq m_))), (5, .own (.opq (QN (Xf Q7 (eI .i64) names)))), (6, .own (eOs 1 true (eI .i64) out1)), (16, .d (eSl 1 false (eI .i64) p_)), (17, .d (I ((p_.length : Nat) : Int))), (18, .d (I x18))]
theorem Q9 {ctr : Ctr} (hC : zx Tryz.prog ctr) (h0L : ctr.Has ZU) : uX.Ok Tryz.prog := by
 refine zB ?_
 rintro ⟨m_, p_⟩ r0 hf0
 try unfold qG at hf0
 refine yO true [(4, none)] qh 49 Tryz.func148 fun E hE => ?_
 obtain ⟨g0, hf0⟩ := gdE hf0
 refine yJ ((zeA Tryz.prog 12).or X0) hC qh [1,1,1] [] [6] (fun z : List Int => q9 z = some r0) (fun z => WJ z) [(1, .d (eSl 1 false (eI .i64) p_)), (2, .own (.box (yq m_))), (5, .own (.opq (QN (Xf Q7 (eI .i64) ([] : List (zw × Int)))))), (6, .own (eOs 1 true (eI .i64) (List.replicate ((p_.length : Nat) : Int).toNat (0 : Int))))] [Ha (lnM (eI .i64) p_), Hn (rL g0), Ha (rM 1 (eI .i64) ((p_.length : Nat) : Int) (0 : Int)), Hh (.cut 0)] ?_ fun J1 hJ1 => ?_
 ·rintro out hf0
  unfold q9 at hf0
  obtain rfl := zb hf0
  exact yE X0 hC hE []
 ·obtain ⟨t2, ht2, hf0⟩ := zg hf0
  refine yL X0 hC qh [1,1,1,2,1,0] [J1] (fun s => vw m_ p_ s.1 s.2.1 s.2.2) (fun x => WH m_ p_ x.1 x.2.1 x.2.2) (([] : List (zw × Int)), (List.replicate ((p_.length : Nat) : Int).toNat (0 : Int)), 0) ht2  [Ha (lnM (eI .i64) p_)] ?_
  rintro ⟨names, out1, x18⟩ m2 lr1 hf1 hl1 J2 hJ2
  try unfold vw at hf1
  rcases zO hf1 with ⟨c0, hf1⟩ | ⟨c0, hf1⟩
  ·obtain ⟨p__e, h0, hf1⟩ := zg hf1
   obtain ⟨r_, h1, hf1⟩ := zg hf1
   refine yJ X0 hC qh [1,1,1,2,1,0,0,1,1,0,0,1,1] [J1, J2] [1,2,5,6,7,9,16,17,18] (fun z : List (zw × Int) => wu out1 x18 p__e r_ z = some lr1) (fun z => WI m_ p_ out1 x18 p__e r_ z) [(1, .d (eSl 1 false (eI .i64) p_)), (2, .own (.box (yq m_))), (5, .own (.opq (QN (Xf Q7 (eI .i64) names)))), (6, .own (eOs 1 true (eI .i64) out1)), (7, .d (I x18)), (9, .own (.box (.agg [I p__e, F5_ r_]))), (16, .d (eSl 1 false (eI .i64) p_)), (17, .d (I ((p_.length : Nat) : Int))), (18, .d (I x18))] [Hq c0, Hi (eI .i64) h0, Hc h0L (x := (m_, p_, x18)) h1 (loC yq m_ <| loC F3_ p_ <| loC (eI .i64) x18 <| loN), Hh (.cut 0)] ?_ fun J3 hJ3 => ?_
   ·rintro names1 hf1
    unfold wu at hf1
    obtain ⟨val, h2, hf1⟩ := zg hf1
    replace h2 := zb h2
    obtain ⟨out_e, h3, hf1⟩ := zg hf1
    obtain rfl := zb hf1
    exact yB ((z9b z27 45 (Xf Q7 (eI .i64) names1)).or X0) hC hJ2 (names1, (out1.set x18.toNat val), w64 (x18 + 1)) hl1 [Hn (⟨rfl, rfl, z63 (fun _ => rfl) names1⟩ : A.opq (QN (Xf Q7 (eI .i64) names1)) = A.opq (QN (Xf Q7 (eI .i64) names1)) ∧ (Ke [.i64, .i64, .i64, .i64, .i64, .i64, .i64, .i64, .i64, .i64, .i64, .i64, .i64, .i64, .i64, .i64, .i64, .i64, .i64, .i64, .i64, .i64, .i64, .i64, .i64, .i64, .i64, .i64, .i64, .i64, .i64, .i64, .i64]) (Q7 (zw.mk p__e r_)) = true ∧ ∀ p ∈ Xf Q7 (eI .i64) names1, (Ke [.i64, .i64, .i64, .i64, .i64, .i64, .i64, .i64, .i64, .i64, .i64, .i64, .i64, .i64, .i64, .i64, .i64, .i64, .i64, .i64, .i64, .i64, .i64, .i64, .i64, .i64, .i64, .i64, .i64, .i64, .i64, .i64, .i64]) p.1 = true), Hx (.a ((eI .i64) val)) ((zhn (f := Q7) (g := (eI .i64)) (z0 := 0) (z := .atom (.int .i64 0)) rfl (zw.mk p__e r_) names1).trans (congrArg (eI .i64) h2)), Hn (iL (eI .i64) h3), Hs (iM (eI .i64) h3), Hs (iM (eI .i64) h3), Hl (sM (eI .i64) out1 x18 val)]
   ·obtain ⟨val1, h4, hf1⟩ := zg hf1
    replace h4 := zb h4
    let Z0 : List HO := [Hn (⟨rfl, rfl, z63 (fun _ => rfl) names⟩ : A.opq (QN (Xf Q7 (eI .i64) names)) = A.opq (QN (Xf Q7 (eI .i64) names)) ∧ (Ke [.i64, .i64, .i64, .i64, .i64, .i64, .i64, .i64, .i64, .i64, .i64, .i64, .i64, .i64, .i64, .i64, .i64, .i64, .i64, .i64, .i64, .i64, .i64, .i64, .i64, .i64, .i64, .i64, .i64, .i64, .i64, .i64, .i64]) (Q7 (zw.mk p__e r_)) = true ∧ ∀ p ∈ Xf Q7 (eI .i64) names, (Ke [.i64, .i64, .i64, .i64, .i64, .i64, .i64, .i64, .i64, .i64, .i64, .i64, .i64, .i64, .i64, .i64, .i64, .i64, .i64, .i64, .i64, .i64, .i64, .i64, .i64, .i64, .i64, .i64, .i64, .i64, .i64, .i64, .i64]) p.1 = true), Hx (.a (.tup [I val1, B ((QM names (zw.mk p__e r_)).isSome)])) ((zhm (f := Q7) (g := (eI .i64)) (z0 := 0) (z := .atom (.int .i64 0)) rfl (zw.mk p__e r_) names).trans (congrArg (fun x => A.tup [(eI .i64) x, .atom (.bool (QM names (zw.mk p__e r_)).isSome)]) h4))]
    rcases zO hf1 with ⟨c1, hf1⟩ | ⟨c1, hf1⟩
    ·exact yB ((zgR z27 37 (Xf Q7 (eI .i64) names) (Xf Q7 (eI .i64) (z4n names (zw.mk p__e r_) ((names.length : Nat) : Int)))).or ((zeB z27 40 (Xf Q7 (eI .i64) names)).or ((z9b z27 32 (Xf Q7 (eI .i64) names)).or X0))) hC hJ3 (z4n names (zw.mk p__e r_) ((names.length : Nat) : Int)) hf1 (Z0 ++ [Hq c1, Hn (rfl : A.opq (QN (Xf Q7 (eI .i64) names)) = A.opq (QN (Xf Q7 (eI .i64) names))), Hx (aLn names.length) (zax Q7 (eI .i64) names), Hn (⟨rfl, rfl, rfl, rfl, z63 (fun _ => rfl) names⟩ : T.own (.opq (QN (Xf Q7 (eI .i64) names))) = T.own (.opq (QN (Xf Q7 (eI .i64) names))) ∧ 0 = 0 ∧ (Ke [.i64, .i64, .i64, .i64, .i64, .i64, .i64, .i64, .i64, .i64, .i64, .i64, .i64, .i64, .i64, .i64, .i64, .i64, .i64, .i64, .i64, .i64, .i64, .i64, .i64, .i64, .i64, .i64, .i64, .i64, .i64, .i64, .i64]) (Q7 (zw.mk p__e r_)) = true ∧ ((eI .i64) ((names.length : Nat) : Int)).isD = true ∧ ∀ p ∈ Xf Q7 (eI .i64) names, (Ke [.i64, .i64, .i64, .i64, .i64, .i64, .i64, .i64, .i64, .i64, .i64, .i64, .i64, .i64, .i64, .i64, .i64, .i64, .i64, .i64, .i64, .i64, .i64, .i64, .i64, .i64, .i64, .i64, .i64, .i64, .i64, .i64, .i64]) p.1 = true), Hn (zab (f := Q7) (g := (eI .i64)) (zw.mk p__e r_) ((names.length : Nat) : Int) names)])
    ·exact yB ((z9b z27 32 (Xf Q7 (eI .i64) names)).or X0) hC hJ3 names hf1 (Z0 ++ [Hq c1])
  ·obtain rfl := zb hf1
   obtain rfl := hl1
   exact yB X0 hC hJ1 out1 hf0 [Hq c0]
def uA : Code := (Tryz.f82.body).getD .skip
def xH : zS := spF (α := List Int × List Int) (ρ := Bool) 82 (fun x => [F3_ x.1, F3_ x.2]) (fun r => eB r) (fun x => xN x.1 x.2) [] (Vt)
abbrev YH : List (Nat × T) := []
abbrev YG (s1 : List Int) (s2 : List Int) (x13 : Int) : List (Nat × T) := [(0, .d (eSl 1 false (eI .i64) s1)), (1, .d (eSl 1 false (eI .i64) s2)), (12, .d (I ((s1.length : Nat) : Int))), (13, .d (I x13))]
theorem XX {ctr : Ctr} (hC : zx Tryz.prog ctr) : xH.Ok Tryz.prog := by
 refine zB ?_
 rintro ⟨s1, s2⟩ r0 hf0
 try unfold xN at hf0
 refine yO true [(4, none)] uA 26 Tryz.func82 fun E hE => ?_
 let Z0 : List HO := [Ha (lnM (eI .i64) s1), Ha (lnM (eI .i64) s2)]
 rcases zO hf0 with ⟨c0, hf0⟩ | ⟨c0, hf0⟩
 ·obtain rfl := zb hf0
  exact yE X0 hC hE (Z0 ++ [Hq c0])
 ·refine yJ X0 hC uA [1,1] [] [] (fun z : Unit => wI = some r0) (fun z => YH) [(0, .d (eSl 1 false (eI .i64) s1)), (1, .d (eSl 1 false (eI .i64) s2))] (Z0 ++ [Hq c0, Hh (.cut 0)]) ?_ fun J1 hJ1 => ?_
  ·rintro ⟨⟩ hf0
   unfold wI at hf0
   obtain rfl := zb hf0
   exact yE X0 hC hE []
  ·obtain ⟨t2, ht2, hf0⟩ := zg hf0
   refine yL X0 hC uA [1,1,2,1,0] [J1] (fun s => yR s1 s2 s) (fun x => YG s1 s2 x) 0 ht2  [Ha (lnM (eI .i64) s1)] ?_
   rintro x13 m2 lr1 hf1 hl1 J2 hJ2
   try unfold yR at hf1
   rcases zO hf1 with ⟨c1, hf1⟩ | ⟨c1, hf1⟩
   ·obtain ⟨s_e, h0, hf1⟩ := zg hf1
    obtain ⟨s_e1, h1, hf1⟩ := zg hf1
    let Z1 : List HO := [Hq c1, Hi (eI .i64) h0, Hi (eI .i64) h1]
    rcases zO hf1 with ⟨c2, hf1⟩ | ⟨c2, hf1⟩
    ·obtain rfl := zb hf1
     obtain rfl := hl1
     obtain rfl := zb hf0
     exact yE X0 hC hE (Z1 ++ [Hq c2])
    ·obtain rfl := zb hf1
     exact yB X0 hC hJ2 (w64 (x13 + 1)) hl1 (Z1 ++ [Hq c2])
   ·obtain rfl := zb hf1
    obtain rfl := hl1
    exact yB X0 hC hJ1 () hf0 [Hq c1]
def Yh : Code := (Tryz.f147.body).getD .skip
abbrev W8 {σ : Type} (x0 : z6) (YY : σ → z0x) (sg1 : σ) (p_ : List Int) : List (Nat × T) := [(0, .own (.opq (YY sg1).q)), (1, .d (.sptr (yq x0))), (3, .own (eOs 1 true (eI .i64) p_))]
theorem Uq {ctr : Ctr} (hC : zx Tryz.prog ctr) (h0p : ctr.Has uX) (h0a : ctr.Has xH) (x0 : z6) : z3f Tryz.prog (.fn 147 [.sptr (.agg [I x0.Inputs, I x0.Outputs, eSl 1 false uE x0.Rows])]) (fun (x : List Int) (_ : Bool) (_ : Value) => [F3_ x]) (@uK x0) := by
 refine z17 (tt := yD) (nt := 19) (body := Yh) zu Tryz.func147 rfl (by kernel_rfl) rfl rfl (by show (2 : Nat) ≤ 19; decide) ?_
 intro σ yv YY yy hy sg r0 hf0 E hE
 unfold uK at hf0
 obtain ⟨g0, hf0⟩ := gdE hf0
 obtain ⟨t1, ht1, hf0⟩ := zg hf0
 refine yL X0 hC Yh [1,0] [] (fun s => wY x0 yy s.1 s.2) (fun x => W8 x0 YY x.1 x.2) (sg, (List.replicate ((x0.Rows.length : Nat) : Int).toNat (0 : Int))) ht1  [Ha (lnM uE x0.Rows), Hn (rL g0), Ha (rM 1 (eI .i64) ((x0.Rows.length : Nat) : Int) (0 : Int))] ?_
 rintro ⟨sg1, p_⟩ m1 lr1 hf1 hl1 J1 hJ1
 try unfold wY at hf1
 obtain ⟨yr, h0, hf1⟩ := zg hf1
 let Z0 : List HO := [Hm (shM (eI .i64) (eI .i64) p_), Hn (z0L (yv := yv) (Y := YY) (enc := (fun (x : List Int) (_ : Bool) (_ : Value) => [F3_ x])) (s := sg1) (x := p_) (s' := yr.1) (b := yr.2) (v := .nilFunc) [F2_ p_] (show Q4 [F2_ p_] [F3_ p_] from inferInstance))]
 rcases zO hf1 with ⟨c0, hf1⟩ | ⟨c0, hf1⟩
 ·obtain ⟨r_, h1, hf1⟩ := zg hf1
  obtain ⟨r_1, h2, hf1⟩ := zg hf1
  let Z1 : List HO := (Z0 ++ [Hq c0, Hc h0p (x := (x0, p_)) h1 (loC yq x0 <| loC F2_ p_ <| loN), Hg (Jx h0a), Hm (shM (eI .i64) (eI .i64) r_), Hs (Jy h0a (x := (p_, r_)) h2 (loC F2_ p_ <| loC F2_ r_ <| loN))])
  rcases zO hf1 with ⟨c1, hf1⟩ | ⟨c1, hf1⟩
  ·obtain rfl := zb hf1
   obtain rfl := hl1
   obtain rfl := zb hf0
   exact yF ((Um (P := Tryz.prog) yD hy 11 (s := sg1) (x := p_) (s' := yr.1) (b := yr.2) .nilFunc h0).or X0) hC .ret [(0, .own (.opq (YY yr.1).q))] (Z1 ++ [Hq c1]) fun st0 h0 => hE _ st0 (.inr rfl) h0
  ·obtain rfl := zb hf1
   exact yB ((Um (P := Tryz.prog) yD hy 11 (s := sg1) (x := p_) (s' := yr.1) (b := yr.2) .nilFunc h0).or X0) hC hJ1 (yr.1, r_) hl1 (Z1 ++ [Hq c1])
 ·obtain rfl := zb hf1
  obtain rfl := hl1
  obtain rfl := zb hf0
  exact yF ((Um (P := Tryz.prog) yD hy 11 (s := sg1) (x := p_) (s' := yr.1) (b := yr.2) .nilFunc h0).or X0) hC .normal [(0, .own (.opq (YY yr.1).q))] (Z0 ++ [Hq c0]) fun st0 h0 => hE _ st0 (.inl rfl) h0
def ww : Code := (Tryz.f100.body).getD .skip
def jQ : zS := spF (α := z6) (ρ := List Int × Int × Int) 100 (fun x => [yq x]) (fun r => .tup [F3_ r.1, (eI .i64) r.2.1, (eI .i64) r.2.2]) (fun x => qH x) [] (WA)
abbrev WK (p_ : List Int) (n_ : Int) : List (Nat × T) := [(2, .own (.box (eSl 1 false (eI .i64) p_))), (3, .own (.box (I n_)))]
abbrev Ze (r_1 : z6) (p_1 : List Int) (n_1 : Int) : List (Nat × T) := [(2, .own (.box (eSl 1 false (eI .i64) p_1))), (3, .own (.box (I n_1))), (13, .d (.fn 147 [.sptr (.agg [I r_1.Inputs, I r_1.Outputs, eSl 1 false uE r_1.Rows])]))]
theorem Qa {ctr : Ctr} (hC : zx Tryz.prog ctr) (h02 : ctr.Has xz) (h0M : ctr.Has ky) (h0p : ctr.Has uX) (h0a : ctr.Has xH) : jQ.Ok Tryz.prog := by
 refine zB ?_
 rintro m_ r0 hf0
 try unfold qH at hf0
 refine yO false [(2, some 40), (3, some 3), (4, none)] ww 20 Tryz.func100 fun E hE => ?_
 obtain ⟨r_, h0, hf0⟩ := zg hf0
 let Z0 : List HO := [Hh (.v 2 [2]), Hm (shM (eI .i64) (eI .i64) []), Hc h02 (x := m_) h0 (loC yq m_ <| loN)]
 rcases zO hf0 with ⟨c0, hf0⟩ | ⟨c0, hf0⟩
 ·obtain rfl := zb hf0
  exact yEx X0 hC hE (Z0 ++ [Hq c0, Hm (shM (eI .i64) (eI .i64) [])]) (.tup [eSl 1 true (eI .i64) [], I 0, I r_]) (show LeV (.tup [eSl 1 true (eI .i64) [], I 0, I r_]) (.tup [eSl 1 false (eI .i64) ([] : List Int), I 0, I r_]) from inferInstance)
 ·refine yJ X0 hC ww [1,1,1] [] [2,3] (fun z : List Int × Int => qa z.1 z.2 = some r0) (fun z => WK z.1 z.2) [(1, .own (.box (yq m_))), (2, .own (.box (eSl 1 true (eI .i64) []))), (3, .own (.box (I (-1))))] (Z0 ++ [Hq c0, Hh (.cut 1)]) ?_ fun J1 hJ1 => ?_
  ·rintro ⟨p_, n_⟩ hf0
   unfold qa at hf0
   obtain rfl := zb hf0
   exact yE X0 hC hE []
  ·obtain ⟨r_1, h1, hf0⟩ := zg hf0
   obtain ⟨t2, ht2, hf0⟩ := zg hf0
   refine yAt X0 hC (sub [1,1,1,2,1,0] ww) (frs [1,1,1,2,1,0] [J1] ww []) [(2, .own (.box (eSl 1 true (eI .i64) []))), (3, .own (.box (I (-1)))), (13, .d (.fn 147 [.sptr (.agg [I r_1.Inputs, I r_1.Outputs, eSl 1 false uE r_1.Rows])]))] [Hc h0M (x := m_) h1 (loC yq m_ <| loN)] fun st0 h0 => ?_
   refine VX (g := .tmp 13) (ps := [14]) (assign := (sub [1,1,1,2,1,0,0] ww)) (body := (sub [1,1,1,2,1,0,1] ww)) (K := 147) (caps := [.sptr (.agg [I r_1.Inputs, I r_1.Outputs, eSl 1 false uE r_1.Rows])]) (by kernel_rfl) [2,3,13] (fun s => Ze r_1 s.1 s.2) (fun z => nomatch z) (fun z => nomatch z) ((fun (x : List Int) (_ : Bool) (_ : Value) => [F3_ x])) (F := @uK r_1) (fun s x => wv s.1 s.2 x) (([] : List Int), (-1)) t2 _ h0 inferInstance (by kernel_rfl) (by decide) (fun _ => rfl) (by rintro ⟨⟩) (by kernel_rfl) (fun _ _ _ => rfl) (Uq hC h0p h0a r_1) ht2 ?_ ?_
   ·rintro tv2 ⟨p_1, n_1⟩ x14 vr lr1 hf1
    replace hf1 : wv p_1 n_1 x14 = some lr1 := hf1
    unfold wv at hf1
    refine yF X0 hC .normal [(2, .own (.box (eSl 1 false (eI .i64) p_1))), (3, .own (.box (I n_1))), (6, .d (eSl 1 false (eI .i64) x14)), (13, .d (.fn 147 [.sptr (.agg [I r_1.Inputs, I r_1.Outputs, eSl 1 false uE r_1.Rows])]))] [] fun st0 h0 => ⟨rfl, z1l h0 ?_⟩
    obtain rfl := zb hf1
    exact yF X0 hC .normal (Ze r_1 x14 (w64 (n_1 + 1))) [] fun st0 h0 => ⟨rfl, _, h0, LeL.refl _⟩
   ·rcases t2 with ⟨p_1, n_1⟩ | z
    ·dsimp only at hf0
     exact Zb (by kernel_rfl) (hJ1 _ [(2, .own (.box (eSl 1 false (eI .i64) p_1))), (3, .own (.box (I n_1)))] (p_1, n_1) hf0 (show Own.canon [2,3] _ = ofL _ by kernel_rfl) inferInstance)
    ·cases z
def qO : Code := (Tryz.f101.body).getD .skip
def qt : zS := spF (α := List Int) (ρ := Int) 101 (fun x => [F3_ x]) (fun r => (eI .i64) r) (fun x => vt x) [] (WA)
abbrev Xj (m_ : Int) : List (Nat × T) := [(3, .d (I m_))]
abbrev Xi (x_ : List Int) (m_1 : Int) (i_ : Int) : List (Nat × T) := [(0, .d (eSl 1 false (eI .i64) x_)), (3, .d (I m_1)), (4, .d (I i_))]
theorem V4 {ctr : Ctr} (hC : zx Tryz.prog ctr) : qt.Ok Tryz.prog := by
 refine zB ?_
 rintro x_ r0 hf0
 try unfold vt at hf0
 refine yO true [(2, none)] qO 25 Tryz.func101 fun E hE => ?_
 rcases zO hf0 with ⟨c0, hf0⟩ | ⟨c0, hf0⟩
 ·cases hf0
 ·obtain ⟨x__e, h0, hf0⟩ := zg hf0
  refine yJ X0 hC qO [1,1,1] [] [3] (fun z : Int => vq z = some r0) (fun z => Xj z) [(0, .d (eSl 1 false (eI .i64) x_)), (3, .d (I x__e))] [Ha (lnM (eI .i64) x_), Hq c0, Hi (eI .i64) h0, Hh (.cut 0)] ?_ fun J1 hJ1 => ?_
  ·rintro m_ hf0
   unfold vq at hf0
   obtain rfl := zb hf0
   exact yE X0 hC hE []
  ·obtain ⟨t2, ht2, hf0⟩ := zg hf0
   refine yL X0 hC qO [1,1,1,2,1,0] [J1] (fun s => wg x_ s.1 s.2) (fun x => Xi x_ x.1 x.2) (x__e, 1) ht2  [] ?_
   rintro ⟨m_1, i_⟩ m2 lr1 hf1 hl1 J2 hJ2
   try unfold wg at hf1
   rcases zO hf1 with ⟨c1, hf1⟩ | ⟨c1, hf1⟩
   ·obtain ⟨x__e1, h1, hf1⟩ := zg hf1
    obtain rfl := zb hf1
    exact yB X0 hC hJ2 ((mx m_1 x__e1), w64 (i_ + 1)) hl1 [Ha (lnM (eI .i64) x_), Hq c1, Hi (eI .i64) h1]
   ·obtain rfl := zb hf1
    obtain rfl := hl1
    exact yB X0 hC hJ1 m_1 hf0 [Ha (lnM (eI .i64) x_), Hq c1]
def Vc : Code := (Tryz.f99.body).getD .skip
def je : zS := spF (α := z6) (ρ := Bool) 99 (fun x => [Q6 x]) (fun r => eB r) (fun x => qV x) [] (WA)
theorem Vx {ctr : Ctr} (hC : zx Tryz.prog ctr) (h0N : ctr.Has jQ) (h0O : ctr.Has qt) : je.Ok Tryz.prog := by
 refine zB ?_
 rintro x0 r0 hf0
 try unfold qV at hf0
 refine yO true [(1, none)] Vc 17 Tryz.func99 fun E hE => ?_
 obtain ⟨r_, h0, hf0⟩ := zg hf0
 obtain ⟨r_1, h1, hf0⟩ := zg hf0
 obtain rfl := zb hf0
 exact yE X0 hC hE [Hc h0N (x := x0) h0 (loC yq x0 <| loN), Hc h0O (x := r_.1) h1 (loC F3_ r_.1 <| loN), Ha (lnM (eI .i64) r_.1)]
def Yi : Code := (Tryz.f36.body).getD .skip
def wU : zS := spF (α := z6) (ρ := Int) 36 (fun x => [yq x]) (fun r => (eI .i64) r) (fun x => xQ x) [] (WA)
abbrev W9 : List (Nat × T) := []
theorem Ur {ctr : Ctr} (hC : zx Tryz.prog ctr) (h02 : ctr.Has xz) (h0P : ctr.Has jR) (h0Q : ctr.Has jg) (h0R : ctr.Has jf) (h0S : ctr.Has je) : wU.Ok Tryz.prog := by
 refine zB ?_
 rintro m_ r0 hf0
 try unfold xQ at hf0
 refine yO true [(2, none)] Yi 23 Tryz.func36 fun E hE => ?_
 obtain ⟨r_, h0, hf0⟩ := zg hf0
 let Z0 : List HO := [Hc h02 (x := m_) h0 (loC yq m_ <| loN)]
 rcases zO hf0 with ⟨c0, hf0⟩ | ⟨c0, hf0⟩
 ·obtain rfl := zb hf0
  exact yE X0 hC hE (Z0 ++ [Hq c0])
 ·refine yJ X0 hC Yi [1,1] [] [] (fun z : Unit => uq = some r0) (fun z => W9) [(1, .own (.box (yq m_)))] (Z0 ++ [Hq c0, Hh (.cut 0)]) ?_ fun J1 hJ1 => ?_
  ·rintro ⟨⟩ hf0
   unfold uq at hf0
   obtain rfl := zb hf0
   exact yE X0 hC hE []
  ·obtain ⟨r_1, h1, hf0⟩ := zg hf0
   obtain ⟨r_2, h2, hf0⟩ := zg hf0
   let Z1 : List HO := [Hc h0P (x := m_) h1 (loC yq m_ <| loN), Hh (.u 70), qT, Hc h0Q (x := r_1.1.2) h2 (loC Q6 r_1.1.2 <| loN)]
   rcases zO hf0 with ⟨c1, hf0⟩ | ⟨c1, hf0⟩
   ·obtain rfl := zb hf0
    exact yE X0 hC hE (Z1 ++ [Hq c1])
   ·obtain ⟨r_3, h3, hf0⟩ := zg hf0
    let Z2 : List HO := (Z1 ++ [Hq c1, qT, Hc h0R (x := r_1.2.1.2) h3 (loC Q6 r_1.2.1.2 <| loN)])
    rcases zO hf0 with ⟨c2, hf0⟩ | ⟨c2, hf0⟩
    ·obtain rfl := zb hf0
     exact yE X0 hC hE (Z2 ++ [Hq c2])
    ·obtain ⟨r_4, h4, hf0⟩ := zg hf0
     let Z3 : List HO := (Z2 ++ [Hq c2, qT, Hc h0S (x := r_1.2.2.2) h4 (loC Q6 r_1.2.2.2 <| loN)])
     rcases zO hf0 with ⟨c3, hf0⟩ | ⟨c3, hf0⟩
     ·obtain rfl := zb hf0
      exact yE X0 hC hE (Z3 ++ [Hq c3])
     ·exact yB X0 hC hJ1 () hf0 (Z3 ++ [Hq c3, qF])
def KA : Code := (Tryz.f51.body).getD .skip
def wV : zS := spF (α := Int) (ρ := Int) 51 (fun x => [(eI .i64) x]) (fun r => (Vb 80 (eSp (eI .i64))) r) (fun x => vC x) [] (WA)
theorem KT {ctr : Ctr} (hC : zx Tryz.prog ctr) : wV.Ok Tryz.prog := by
 refine zB ?_
 rintro n_ r0 hf0
 try unfold vC at hf0
 refine yO true [(2, none)] KA 4 Tryz.func51 fun E hE => ?_
 obtain rfl := zb hf0
 exact yE X0 hC hE []
def ja : Code := (Tryz.f80.body).getD .skip
abbrev Vp {σ : Type} (x0 : Int) (YY : σ → z0x) (x6 : Int) (sg2 : σ) : List (Nat × T) := [(0, .own (.opq (YY sg2).q)), (1, .d (.sptr (I x0))), (5, .d (I x0)), (6, .d (I x6))]
abbrev Vn {σ : Type} (x0 : Int) (YY : σ → z0x) (x6 : Int) (sg3 : σ) (b_ : Int) : List (Nat × T) := [(0, .own (.opq (YY sg3).q)), (1, .d (.sptr (I x0))), (3, .d (I x6)), (4, .d (I b_)), (5, .d (I x0)), (6, .d (I x6))]
abbrev Vo {σ : Type} (x0 : Int) (YY : σ → z0x) (sg1 : σ) (x6 : Int) : List (Nat × T) := [(0, .own (.opq (YY sg1).q)), (1, .d (.sptr (I x0))), (5, .d (I x0)), (6, .d (I x6))]
theorem jp {ctr : Ctr} (hC : zx Tryz.prog ctr) (x0 : Int) : z3f Tryz.prog (.fn 80 [.sptr (I x0)]) (fun (x : Int × Int) (_ : Bool) (_ : Value) => [(eI .i64) x.1, (eI .i64) x.2]) (@yP x0) := by
 refine z17 (tt := yD) (nt := 22) (body := ja) zu Tryz.func80 rfl (by kernel_rfl) rfl rfl (by show (2 : Nat) ≤ 22; decide) ?_
 intro σ yv YY yy hy sg r0 hf0 E hE
 unfold yP at hf0
 obtain ⟨t1, ht1, hf0⟩ := zg hf0
 refine yL X0 hC ja [1,0] [] (fun s => j4 x0 yy s.1 s.2) (fun x => Vo x0 YY x.1 x.2) (sg, 0) ht1  [] ?_
 rintro ⟨sg1, x6⟩ m1 lr1 hf1 hl1 J1 hJ1
 try unfold j4 at hf1
 rcases zO hf1 with ⟨c0, hf1⟩ | ⟨c0, hf1⟩
 ·refine yJ X0 hC ja [1,0,0,1,1] [J1] [0,1,5,6] (fun z : σ => j5 x6 z = some lr1) (fun z => Vp x0 YY x6 z) [(0, .own (.opq (YY sg1).q)), (1, .d (.sptr (I x0))), (5, .d (I x0)), (6, .d (I x6))] [Hq c0, Hh (.cut 0)] ?_ fun J2 hJ2 => ?_
  ·rintro sg2 hf1
   unfold j5 at hf1
   obtain rfl := zb hf1
   exact yB X0 hC hJ1 (sg2, w64 (x6 + 1)) hl1 []
  ·obtain ⟨t3, ht3, hf1⟩ := zg hf1
   refine yL X0 hC ja [1,0,0,1,1,2,0,1,1,0] [J1, J2] (fun s => ud x0 yy x6 s.1 s.2) (fun x => Vn x0 YY x6 x.1 x.2) (sg1, w64 (x6 + 1)) ht3  [] ?_
   rintro ⟨sg3, b_⟩ m3 lr2 hf2 hl2 J3 hJ3
   try unfold ud at hf2
   rcases zO hf2 with ⟨c1, hf2⟩ | ⟨c1, hf2⟩
   ·obtain ⟨yr, h0, hf2⟩ := zg hf2
    let Z0 : List HO := [Hq c1, Hn (z0L (yv := yv) (Y := YY) (enc := (fun (x : Int × Int) (_ : Bool) (_ : Value) => [(eI .i64) x.1, (eI .i64) x.2])) (s := sg3) (x := (x6, b_)) (s' := yr.1) (b := yr.2) (v := .nilFunc) [(eI .i64) x6, (eI .i64) b_] (show Q4 [(eI .i64) x6, (eI .i64) b_] [(eI .i64) x6, (eI .i64) b_] from inferInstance))]
    rcases zO hf2 with ⟨c2, hf2⟩ | ⟨c2, hf2⟩
    ·obtain rfl := zb hf2
     obtain rfl := hl2
     obtain rfl := zb hf1
     obtain rfl := hl1
     obtain rfl := zb hf0
     exact yF ((Um (P := Tryz.prog) yD hy 19 (s := sg3) (x := (x6, b_)) (s' := yr.1) (b := yr.2) .nilFunc h0).or X0) hC .ret [(0, .own (.opq (YY yr.1).q))] (Z0 ++ [Hq c2]) fun st0 h0 => hE _ st0 (.inr rfl) h0
    ·obtain rfl := zb hf2
     exact yB ((Um (P := Tryz.prog) yD hy 19 (s := sg3) (x := (x6, b_)) (s' := yr.1) (b := yr.2) .nilFunc h0).or X0) hC hJ3 (yr.1, w64 (b_ + 1)) hl2 (Z0 ++ [Hq c2])
   ·obtain rfl := zb hf2
    obtain rfl := hl2
    exact yB X0 hC hJ2 sg3 hf1 [Hq c1]
 ·obtain rfl := zb hf1
  obtain rfl := hl1
  obtain rfl := zb hf0
  exact yF X0 hC .normal [(0, .own (.opq (YY sg1).q))] [Hq c0] fun st0 h0 => hE _ st0 (.inl rfl) h0
def KC : Code := (Tryz.f38.body).getD .skip
def Y0 : zS := spF (α := Int × Int) (ρ := Bool) 38 (fun x => [(eI .i64) x.1, (eI .i64) x.2]) (fun r => eB r) (fun x => YO x.1 x.2) [] (Vt)
theorem KW {ctr : Ctr} (hC : zx Tryz.prog ctr) : Y0.Ok Tryz.prog := by
 refine zB ?_
 rintro ⟨a_, b_⟩ r0 hf0
 try unfold YO at hf0
 refine yO true [(4, none)] KC 5 Tryz.func38 fun E hE => ?_
 obtain rfl := zb hf0
 exact yE X0 hC hE []
def Qx : Code := (Tryz.f131.body).getD .skip
def vT : zS := spF (α := Int × z6) (ρ := Bool) 131 (fun x => [(eI .i64) x.1, Q6 x.2]) (fun r => eB r) (fun x => jk x.1 x.2) [] (Vt)
theorem QZ {ctr : Ctr} (hC : zx Tryz.prog ctr) : vT.Ok Tryz.prog := by
 refine zB ?_
 rintro ⟨s_, x1⟩ r0 hf0
 try unfold jk at hf0
 refine yO true [(3, none)] Qx 13 Tryz.func131 fun E hE => ?_
 rcases zO hf0 with ⟨c0, hf0⟩ | ⟨c0, hf0⟩
 ·obtain rfl := zb hf0
  exact yE X0 hC hE (rpN 6 (Hq c0) [])
 ·obtain rfl := zb hf0
  exact yE X0 hC hE (rpN 4 (Hq c0) [Ha (lnM uE x1.Rows), Hq c0, Hq c0])
def w5 : Code := (Tryz.f149.body).getD .skip
def vU : zS := spF (α := List Int × z6) (ρ := Int) 149 (fun x => [F3_ x.1, (Vb 131 Q6) x.2]) (fun r => (eI .i64) r) (fun x => yo x.1 x.2) [] (by
 rintro ⟨a0, a1⟩ ⟨b0, b1⟩ h
 have e0 := Zt.inj (f := F3_) _ _ (List.cons.inj h).1
 replace h := (List.cons.inj h).2
 have e1 := Zt.inj (f := (Vb 131 Q6)) _ _ (List.cons.inj h).1
 subst e0 e1
 rfl)
abbrev jM : List (Nat × T) := []
abbrev jL (s_ : List Int) (f_ : z6) (x8 : Int) : List (Nat × T) := [(0, .d (eSl 1 false (eI .i64) s_)), (1, .d (.fn 131 [.sptr (.agg [I f_.Inputs, I f_.Outputs, eSl 1 false uE f_.Rows])])), (7, .d (I ((s_.length : Nat) : Int))), (8, .d (I x8))]
theorem kP {ctr : Ctr} (hC : zx Tryz.prog ctr) (h0b : ctr.Has vT) : vU.Ok Tryz.prog := by
 refine zB ?_
 rintro ⟨s_, f_⟩ r0 hf0
 try unfold yo at hf0
 refine yO true [(4, none)] w5 19 Tryz.func149 fun E hE => ?_
 refine yJ X0 hC w5 [1] [] [] (fun z : Unit => xY = some r0) (fun z => jM) [(0, .d (eSl 1 false (eI .i64) s_)), (1, .d (.fn 131 [.sptr (.agg [I f_.Inputs, I f_.Outputs, eSl 1 false uE f_.Rows])]))] [Hh (.cut 1)] ?_ fun J1 hJ1 => ?_
 ·rintro ⟨⟩ hf0
  unfold xY at hf0
  obtain rfl := zb hf0
  exact yE X0 hC hE []
 ·obtain ⟨t2, ht2, hf0⟩ := zg hf0
  refine yL X0 hC w5 [1,2,1,0] [J1] (fun s => zR s_ f_ s) (fun x => jL s_ f_ x) 0 ht2  [Ha (lnM (eI .i64) s_)] ?_
  rintro x8 m2 lr1 hf1 hl1 J2 hJ2
  try unfold zR at hf1
  rcases zO hf1 with ⟨c0, hf1⟩ | ⟨c0, hf1⟩
  ·obtain ⟨s__e, h0, hf1⟩ := zg hf1
   obtain ⟨r_, h1, hf1⟩ := zg hf1
   let Z0 : List HO := [Hq c0, Hi (eI .i64) h0, Hc h0b (x := (s__e, f_)) h1 (loC (eI .i64) s__e <| loC Q6 f_ <| loN)]
   rcases zO hf1 with ⟨c1, hf1⟩ | ⟨c1, hf1⟩
   ·obtain rfl := zb hf1
    obtain rfl := hl1
    obtain rfl := zb hf0
    exact yE X0 hC hE (Z0 ++ [Hq c1])
   ·obtain rfl := zb hf1
    exact yB X0 hC hJ2 (w64 (x8 + 1)) hl1 (Z0 ++ [Hq c1])
  ·obtain rfl := zb hf1
   obtain rfl := hl1
   exact yB X0 hC hJ1 () hf0 [Hq c0]
def jJ : Code := (Tryz.f130.body).getD .skip
def vd : zS := spF (α := List Int × z6) (ρ := Bool) 130 (fun x => [F3_ x.1, (Vb 131 Q6) x.2]) (fun r => eB r) (fun x => yS x.1 x.2) [] (by
 rintro ⟨a0, a1⟩ ⟨b0, b1⟩ h
 have e0 := Zt.inj (f := F3_) _ _ (List.cons.inj h).1
 replace h := (List.cons.inj h).2
 have e1 := Zt.inj (f := (Vb 131 Q6)) _ _ (List.cons.inj h).1
 subst e0 e1
 rfl)
theorem vn {ctr : Ctr} (hC : zx Tryz.prog ctr) (h0b : ctr.Has vT) : vd.Ok Tryz.prog := by
 refine zB ?_
 rintro ⟨s_, f_⟩ r0 hf0
 try unfold yS at hf0
 refine yO true [(4, none)] jJ 9 Tryz.func130 fun E hE => ?_
 obtain ⟨r_, h0, hf0⟩ := zg hf0
 obtain rfl := zb hf0
 exact yE ((QX zu (kP hC h0b) 7).or X0) hC hE [Hc (Ctr.add_has Vu vU) (x := (s_, f_)) h0 (loC F3_ s_ <| loC (Vb 131 Q6) f_ <| loN)]
def Kw : Code := (Tryz.f102.body).getD .skip
def ZS : zS := spF (α := z6 × List Int) (ρ := Int) 102 (fun x => [yq x.1, F3_ x.2]) (fun r => (eI .i64) r) (fun x => kR x.1 x.2) [] (Vt)
theorem KL {ctr : Ctr} (hC : zx Tryz.prog ctr) (h02 : ctr.Has xz) (h0b : ctr.Has vT) : ZS.Ok Tryz.prog := by
 refine zB ?_
 rintro ⟨m_, l_⟩ r0 hf0
 try unfold kR at hf0
 refine yO true [(4, none)] Kw 14 Tryz.func102 fun E hE => ?_
 obtain ⟨r_, h0, hf0⟩ := zg hf0
 let Z0 : List HO := [Hc h02 (x := m_) h0 (loC yq m_ <| loN)]
 rcases zO hf0 with ⟨c0, hf0⟩ | ⟨c0, hf0⟩
 ·obtain rfl := zb hf0
  exact yE X0 hC hE (Z0 ++ [Hq c0])
 ·obtain ⟨r_1, h1, hf0⟩ := zg hf0
  let Z1 : List HO := (Z0 ++ [Hq c0, Hc (Ctr.add_has Vu vd) (x := (l_, m_)) h1 (loC F3_ l_ <| loC (Vb 131 Q6) m_ <| loN)])
  rcases zO hf0 with ⟨c1, hf0⟩ | ⟨c1, hf0⟩
  ·obtain rfl := zb hf0
   exact yE ((QX zu (vn hC h0b) 13).or X0) hC hE (Z1 ++ [Hq c1])
  ·obtain rfl := zb hf0
   exact yE ((QX zu (vn hC h0b) 13).or X0) hC hE (Z1 ++ [Hq c1])
def Kx : Code := (Tryz.f132.body).getD .skip
def ZT : zS := spF (α := z6) (ρ := z6) 132 (fun x => [yq x]) (fun r => (Vb 150 Q6) r) (fun x => YJ x) [] (WA)
theorem KN {ctr : Ctr} (hC : zx Tryz.prog ctr) : ZT.Ok Tryz.prog := by
 refine zB ?_
 rintro m_ r0 hf0
 try unfold YJ at hf0
 refine yO true [(2, none)] Kx 4 Tryz.func132 fun E hE => ?_
 obtain rfl := zb hf0
 exact yE X0 hC hE []
def j9 : Code := (Tryz.f150.body).getD .skip
abbrev Vk {σ : Type} (x0 : z6) (YY : σ → z0x) (x8 : Int) (sg2 : σ) : List (Nat × T) := [(0, .own (.opq (YY sg2).q)), (1, .d (.sptr (yq x0))), (7, .d (I ((x0.Rows.length : Nat) : Int))), (8, .d (I x8))]
abbrev Vi {σ : Type} (x0 : z6) (YY : σ → z0x) (x8 : Int) (sg3 : σ) (t_ : Int) : List (Nat × T) := [(0, .own (.opq (YY sg3).q)), (1, .d (.sptr (yq x0))), (3, .d (I x8)), (4, .d (I t_)), (7, .d (I ((x0.Rows.length : Nat) : Int))), (8, .d (I x8))]
abbrev Vj {σ : Type} (x0 : z6) (YY : σ → z0x) (sg1 : σ) (x8 : Int) : List (Nat × T) := [(0, .own (.opq (YY sg1).q)), (1, .d (.sptr (yq x0))), (7, .d (I ((x0.Rows.length : Nat) : Int))), (8, .d (I x8))]
theorem J0 {ctr : Ctr} (hC : zx Tryz.prog ctr) (x0 : z6) : z3f Tryz.prog (.fn 150 [.sptr (.agg [I x0.Inputs, I x0.Outputs, eSl 1 false uE x0.Rows])]) (fun (x : Int × Int) (_ : Bool) (_ : Value) => [(eI .i64) x.1, (eI .i64) x.2]) (@vF x0) := by
 refine z17 (tt := yD) (nt := 26) (body := j9) zu Tryz.func150 rfl (by kernel_rfl) rfl rfl (by show (2 : Nat) ≤ 26; decide) ?_
 intro σ yv YY yy hy sg r0 hf0 E hE
 unfold vF at hf0
 obtain ⟨t1, ht1, hf0⟩ := zg hf0
 refine yL X0 hC j9 [1,0] [] (fun s => qR x0 yy s.1 s.2) (fun x => Vj x0 YY x.1 x.2) (sg, 0) ht1  [Ha (lnM uE x0.Rows)] ?_
 rintro ⟨sg1, x8⟩ m1 lr1 hf1 hl1 J1 hJ1
 try unfold qR at hf1
 rcases zO hf1 with ⟨c0, hf1⟩ | ⟨c0, hf1⟩
 ·refine yJ X0 hC j9 [1,0,0,1,1] [J1] [0,1,7,8] (fun z : σ => qS x8 z = some lr1) (fun z => Vk x0 YY x8 z) [(0, .own (.opq (YY sg1).q)), (1, .d (.sptr (yq x0))), (7, .d (I ((x0.Rows.length : Nat) : Int))), (8, .d (I x8))] [Hq c0, Hh (.cut 0)] ?_ fun J2 hJ2 => ?_
  ·rintro sg2 hf1
   unfold qS at hf1
   obtain rfl := zb hf1
   exact yB X0 hC hJ1 (sg2, w64 (x8 + 1)) hl1 []
  ·obtain ⟨t3, ht3, hf1⟩ := zg hf1
   refine yL X0 hC j9 [1,0,0,1,1,2,0,1,1,0] [J1, J2] (fun s => vQ x0 yy x8 s.1 s.2) (fun x => Vi x0 YY x8 x.1 x.2) (sg1, w64 (x8 + 1)) ht3  [] ?_
   rintro ⟨sg3, t_⟩ m3 lr2 hf2 hl2 J3 hJ3
   try unfold vQ at hf2
   let Z0 : List HO := [Ha (lnM uE x0.Rows)]
   rcases zO hf2 with ⟨c1, hf2⟩ | ⟨c1, hf2⟩
   ·obtain ⟨yr, h0, hf2⟩ := zg hf2
    let Z1 : List HO := (Z0 ++ [Hq c1, Hn (z0L (yv := yv) (Y := YY) (enc := (fun (x : Int × Int) (_ : Bool) (_ : Value) => [(eI .i64) x.1, (eI .i64) x.2])) (s := sg3) (x := (x8, t_)) (s' := yr.1) (b := yr.2) (v := .nilFunc) [(eI .i64) x8, (eI .i64) t_] (show Q4 [(eI .i64) x8, (eI .i64) t_] [(eI .i64) x8, (eI .i64) t_] from inferInstance))])
    rcases zO hf2 with ⟨c2, hf2⟩ | ⟨c2, hf2⟩
    ·obtain rfl := zb hf2
     obtain rfl := hl2
     obtain rfl := zb hf1
     obtain rfl := hl1
     obtain rfl := zb hf0
     exact yF ((Um (P := Tryz.prog) yD hy 23 (s := sg3) (x := (x8, t_)) (s' := yr.1) (b := yr.2) .nilFunc h0).or X0) hC .ret [(0, .own (.opq (YY yr.1).q))] (Z1 ++ [Hq c2]) fun st0 h0 => hE _ st0 (.inr rfl) h0
    ·obtain rfl := zb hf2
     exact yB ((Um (P := Tryz.prog) yD hy 23 (s := sg3) (x := (x8, t_)) (s' := yr.1) (b := yr.2) .nilFunc h0).or X0) hC hJ3 (yr.1, w64 (t_ + 1)) hl2 (Z1 ++ [Hq c2])
   ·obtain rfl := zb hf2
    obtain rfl := hl2
    exact yB X0 hC hJ2 sg3 hf1 (Z0 ++ [Hq c1])
 ·obtain rfl := zb hf1
  obtain rfl := hl1
  obtain rfl := zb hf0
  exact yF X0 hC .normal [(0, .own (.opq (YY sg1).q))] [Hq c0] fun st0 h0 => hE _ st0 (.inl rfl) h0
def yX : zS := spR (α := List Int × Int) (ρ := List Int) 168 (fun x : List Int × Int => [F2_ x.1, (eI .i64) x.2]) (fun r : List Int => F4_ r) (fun x : List Int × Int => xI x.1 x.2) [] (Vt)
theorem Yy : ∀ x r, (fun x : List Int × Int => xI x.1 x.2) x = some r → (Vu.add yX).run 168 ((Vu.add yX).norm 168 ((fun x : List Int × Int => [F2_ x.1, (eI .i64) x.2]) x)) = some ((fun r : List Int => F4_ r) r) := fun x r h => zfc (F := fun x : List Int × Int => xI x.1 x.2) (x := x) h rfl
theorem YA : (Vu.add yX).lend 168 = none ∧ (Vu.add yX).gives 168 = [] := zat
theorem YS {ctr : Ctr} (hC : zx Tryz.prog ctr) : yX.Ok Tryz.prog := by
 refine z4V ?_
 rintro ⟨l, n⟩ r0 hf0
 cases l with
 | cons a l => cases hf0
 | nil =>
  have h1 : 0 < n ∧ n ≤ 1000000 := by
   have h2 : (decide (0 < n) && decide (n ≤ 1000000)) = true := by
    cases h : (decide (0 < n) && decide (n ≤ 1000000)) with
    | true => rfl
    | false => have h3 : (bif (true && (decide (0 < n) && decide (n ≤ 1000000))) then some [] else none) = some r0 := hf0; rw [h] at h3; cases h3
   simpa using h2
  have h3 : (bif (true && (decide (0 < n) && decide (n ≤ 1000000))) then some ([] : List Int) else none) = some r0 := hf0
  rw [decide_eq_true h1.1, decide_eq_true h1.2] at h3
  cases h3
  exact z5T n h1.1 h1.2
def xC : Code := (Tryz.f151.body).getD .skip
def wp : zS := spF (α := List (List Int)) (ρ := List Int) 151 (fun x => [vL x]) (fun r => F4_ r) (fun x => wh x) [] (WA)
abbrev Yn (newslice : List Int) : List (Nat × T) := [(6, .own (eOs 1 false (eI .i64) newslice))]
abbrev Ym (slices : List (List Int)) (newslice1 : List Int) (x27 : Int) : List (Nat × T) := [(6, .own (eOs 1 false (eI .i64) newslice1)), (25, .d (eSl 1 false F3_ slices)), (26, .d (I ((slices.length : Nat) : Int))), (27, .d (I x27))]
abbrev Yo (slices : List (List Int)) (size : Int) : List (Nat × T) := [(0, .d (eSl 1 false F3_ slices)), (3, .d (I size))]
abbrev Yl (slices : List (List Int)) (size1 : Int) (x11 : Int) : List (Nat × T) := [(0, .d (eSl 1 false F3_ slices)), (3, .d (I size1)), (9, .d (eSl 1 false F3_ slices)), (10, .d (I ((slices.length : Nat) : Int))), (11, .d (I x11))]
theorem Xm {ctr : Ctr} (hC : zx Tryz.prog ctr) : wp.Ok Tryz.prog := by
 refine zB ?_
 rintro slices r0 hf0
 try unfold wh at hf0
 refine yO true [(2, none)] xC 36 Tryz.func151 fun E hE => ?_
 refine yJ X0 hC xC [1,1] [] [0,3] (fun z : Int => ws slices z = some r0) (fun z => Yo slices z) [(0, .d (eSl 1 false F3_ slices)), (3, .d (I 0))] [Hh (.cut 2)] ?_ fun J1 hJ1 => ?_
 ·rintro size hf0
  unfold ws at hf0
  obtain ⟨r_, h0, hf0⟩ := zg hf0
  refine yJ ((QX zu (YS hC) 24).or X0) hC xC [1,1,1,1] [] [6] (fun z : List Int => wr z = some r0) (fun z => Yn z) [(0, .d (eSl 1 false F3_ slices)), (6, .own (eOs 1 false (eI .i64) r_))] [Hh (.g []), Hn YA, Hx (.a (F4_ r_)) (Yy ([], size) _ h0), Hh (.cut 0)] ?_ fun J2 hJ2 => ?_
  ·rintro newslice hf0
   unfold wr at hf0
   obtain rfl := zb hf0
   exact yE X0 hC hE []
  ·obtain ⟨t3, ht3, hf0⟩ := zg hf0
   refine yL X0 hC xC [1,1,1,1,2,1,0] [J2] (fun s => zF slices s.1 s.2) (fun x => Ym slices x.1 x.2) (r_, 0) ht3  [Ha (lnM F3_ slices)] ?_
   rintro ⟨newslice1, x27⟩ m3 lr1 hf1 hl1 J3 hJ3
   try unfold zF at hf1
   rcases zO hf1 with ⟨c0, hf1⟩ | ⟨c0, hf1⟩
   ·obtain ⟨slice_e, h1, hf1⟩ := zg hf1
    obtain ⟨g0, hf1⟩ := gdE hf1
    obtain rfl := zb hf1
    exact yB X0 hC hJ3 ((newslice1 ++ slice_e), w64 (x27 + 1)) hl1 [Hq c0, Hi F3_ h1, Hn (dM (eI .i64) slice_e), Hn (aL (eI .i64) (eI .i64) g0), Hl (aM (eI .i64) newslice1 slice_e)]
   ·obtain rfl := zb hf1
    obtain rfl := hl1
    exact yB X0 hC hJ2 newslice1 hf0 [Hq c0]
 ·obtain ⟨t4, ht4, hf0⟩ := zg hf0
  refine yL X0 hC xC [1,1,2,1,0] [J1] (fun s => zD slices s.1 s.2) (fun x => Yl slices x.1 x.2) (0,0) ht4  [Ha (lnM F3_ slices)] ?_
  rintro ⟨size1, x11⟩ m4 lr1 hf1 hl1 J4 hJ4
  try unfold zD at hf1
  rcases zO hf1 with ⟨c1, hf1⟩ | ⟨c1, hf1⟩
  ·obtain ⟨slice_e1, h2, hf1⟩ := zg hf1
   let Z0 : List HO := [Hq c1, Hi F3_ h2, Ha (lnM (eI .i64) slice_e1)]
   rcases zO hf1 with ⟨c2, hf1⟩ | ⟨c2, hf1⟩
   ·cases hf1
   ·obtain rfl := zb hf1
    exact yB X0 hC hJ4 (w64 (size1 + ((slice_e1.length : Nat) : Int)), w64 (x11 + 1)) hl1 (Z0 ++ [Hq c2])
  ·obtain rfl := zb hf1
   obtain rfl := hl1
   exact yB X0 hC hJ1 size1 hf0 [Hq c1]
def W1 : Code := (Tryz.f58.body).getD .skip
def yn : zS := spF (α := List Int) (ρ := List Int) 58 (fun x => [F3_ x]) (fun r => F2_ r) (fun x => y4 x) [] (WA)
theorem Wn {ctr : Ctr} (hC : zx Tryz.prog ctr) : yn.Ok Tryz.prog := by
 refine zB ?_
 rintro s_ r0 hf0
 try unfold y4 at hf0
 refine yO true [(2, none)] W1 9 Tryz.func58 fun E hE => ?_
 obtain ⟨g0, hf0⟩ := gdE hf0
 obtain rfl := zb hf0
 exact yE X0 hC hE [Ha (lnM (eI .i64) s_), Ha (lnM (eI .i64) s_), Hn (slB g0), Hn (slC g0), Hn (zbN (eI .i64) g0), Ha (zgl 1 (eI .i64) s_ 0 ((s_.length : Nat) : Int).toNat)]
def xP : Code := (Tryz.f133.body).getD .skip
abbrev XO (n_ : Int) (f_ : ArN 64 (ArN 64 (List Int))) (out : List Int) : List (Nat × T) := [(0, .own (.box (xG 64 (xG 64 (eNl 1 (eI .i64))) f_))), (4, .d (I n_)), (11, .own (eOs 1 false (eI .i64) out))]
abbrev XN (m_ : z6) (t_ : Int) (n_ : Int) (f_ : ArN 64 (ArN 64 (List Int))) (Row_e : List z8) (x21 : Int) : List (Nat × T) := [(0, .own (.box (xG 64 (xG 64 (eNl 1 (eI .i64))) f_))), (3, .d (I t_)), (4, .d (I n_)), (6, .own (.box (yq m_))), (11, .own (eOs 1 true (eI .i64) [])), (19, .d (eSl 2 false F6_ Row_e)), (20, .d (I ((Row_e.length : Nat) : Int))), (21, .d (I x21))]
abbrev XM (m_ : z6) (t_ : Int) (n_ : Int) (f_ : ArN 64 (ArN 64 (List Int))) (Row_e : List z8) (x21 : Int) : List (Nat × T) := [(0, .own (.box (xG 64 (xG 64 (eNl 1 (eI .i64))) f_))), (3, .d (I t_)), (4, .d (I n_)), (6, .own (.box (yq m_))), (11, .own (eOs 1 true (eI .i64) [])), (19, .d (eSl 2 false F6_ Row_e)), (20, .d (I ((Row_e.length : Nat) : Int))), (21, .d (I x21))]
theorem ZN {ctr : Ctr} (hC : zx Tryz.prog ctr) (h0e : ctr.Has wp) (h01 : ctr.Has yn) (cv0 : Value) : ∀ (m_ : z6) (s_ : Int) (t_ : Int) (n_ : Int) (f_ : ArN 64 (ArN 64 (List Int))) (r0 : List Int × ArN 64 (ArN 64 (List Int))), vR m_ s_ t_ n_ f_ = some r0 → jd Tryz.prog (.fn 133 []) [.atom cv0, .agg [I m_.Inputs, I m_.Outputs, eSl 1 false uE m_.Rows], I s_, I t_, I n_] ([cv0].zip [.box (xG 64 (xG 64 (eNl 1 (eI .i64))) f_)]) (eNl 1 (eI .i64) r0.1) [.box (xG 64 (xG 64 (eNl 1 (eI .i64))) r0.2)] := by
 intro m_ s_ t_ n_ f_ r0 hf0
 refine z5J (tt := yD) (nt := 85) (body := xP) [0] zu Tryz.func133 rfl (by kernel_rfl) rfl rfl (by show (5 : Nat) ≤ 85; decide) (by decide) rfl rfl rfl rfl (fun E hG hE => ?_) rfl
 unfold vR at hf0
 refine yA ((xRe Tryz.prog 10 (.atom (.slice none 0 0)) (eNl 1 (eI .i64) ([] : List Int)) (z8K 1)).or ((Un zu (.inl 76) [66]).or X0)) hC xP [1] [] [(0, .own (.box (xG 64 (xG 64 (eNl 1 (eI .i64))) f_))), (2, .d (I s_)), (3, .d (I t_)), (4, .d (I n_)), (6, .own (.box (yq m_)))] [Hn (rfl : T.d (.atom (.slice none 0 0)) = T.d (.atom (.slice none 0 0)))] ?_
 refine z48 (c' := (sub [1,0] xP)) (by kernel_rfl) hG ?_
 refine yJ ((Un zu (.inl 76) [66]).or X0) hC xP [1,0,1,1] [] [0,4,11] (fun z : List Int => vM n_ f_ z = some r0) (fun z => XO n_ f_ z) [(0, .own (.box (xG 64 (xG 64 (eNl 1 (eI .i64))) f_))), (2, .d (I s_)), (3, .d (I t_)), (4, .d (I n_)), (6, .own (.box (yq m_))), (11, .own (eOs 1 true (eI .i64) []))] [Hh (.cut 2)] ?_ fun J1 hJ1 => ?_
 ·rintro out hf0
  unfold vM at hf0
  rcases zO hf0 with ⟨c0, hf0⟩ | ⟨c0, hf0⟩
  ·obtain rfl := zb hf0
   exact yF ((xRe Tryz.prog 10 (.atom (.slice none 0 0)) (eNl 1 (eI .i64) ([] : List Int)) (z8K 1)).or ((Un zu (.inl 76) [66]).or X0)) hC .ret [(0, .own (.box (xG 64 (xG 64 (eNl 1 (eI .i64))) f_))), (10, .d (eNl 1 (eI .i64) ([] : List Int)))] [Ha (lnM (eI .i64) out), Hq c0, Hn (rfl : T.d (.atom (.slice none 0 0)) = T.d (.atom (.slice none 0 0)))] fun st0 h0 => hE _ st0 (.inr rfl) (VJ h0 ⟨⟨rfl, rfl⟩, trivial⟩) (zgJ h0 rfl rfl)
  ·obtain ⟨r_, h0, hf0⟩ := zg hf0
   obtain ⟨g0, hf0⟩ := gdE hf0
   obtain rfl := zb hf0
   exact yF ((xRe Tryz.prog 10 (eSl 1 true (eI .i64) r_) (eNl 1 (eI .i64) r_) (fun S v q => (LeA.slNl 1 true (eI .i64) g0).repV q)).or ((Un zu (.inl 76) [66]).or X0)) hC .ret [(0, .own (.box (xG 64 (xG 64 (eNl 1 (eI .i64))) f_))), (10, .d (eNl 1 (eI .i64) r_))] [Ha (lnM (eI .i64) out), Hq c0, Hg (Jx h01), Hm (shM (eI .i64) (eI .i64) out), Hs (Jy h01 (x := out) h0 (loC F3_ out <| loN)), Hm (shM (eI .i64) (eI .i64) out), Hn (rfl : T.d (eSl 1 true (eI .i64) r_) = T.d (eSl 1 true (eI .i64) r_))] fun st0 h0 => hE _ st0 (.inr rfl) (VJ h0 ⟨⟨rfl, rfl⟩, trivial⟩) (zgJ h0 rfl rfl)
 ·obtain ⟨Row_e, h1, hf0⟩ := zg hf0
  obtain ⟨t2, ht2, hf0⟩ := zg hf0
  refine yL ((Un zu (.inl 76) [66]).or X0) hC xP [1,0,1,1,2,1,0] [J1] (fun s => wC m_ t_ n_ f_ Row_e s) (fun x => XM m_ t_ n_ f_ Row_e x) 0 ht2  [Hi uE h1, Ha (lnM F6_ Row_e)] ?_
  rintro x21 m2 lr1 hf1 hl1 J2 hJ2
  try unfold wC at hf1
  rcases zO hf1 with ⟨c1, hf1⟩ | ⟨c1, hf1⟩
  ·refine yJ ((Un zu (.inl 76) [66]).or X0) hC xP [1,0,1,1,2,1,0,0,1,1] [J1, J2] [0,3,4,6,11,19,20,21] (fun z : Unit => xM x21 = some lr1) (fun z => XN m_ t_ n_ f_ Row_e x21) [(0, .own (.box (xG 64 (xG 64 (eNl 1 (eI .i64))) f_))), (3, .d (I t_)), (4, .d (I n_)), (6, .own (.box (yq m_))), (11, .own (eOs 1 true (eI .i64) [])), (19, .d (eSl 2 false F6_ Row_e)), (20, .d (I ((Row_e.length : Nat) : Int))), (21, .d (I x21))] [Hq c1, Hh (.cut 0)] ?_ fun J3 hJ3 => ?_
   ·rintro ⟨⟩ hf1
    unfold xM at hf1
    obtain rfl := zb hf1
    exact yB ((Un zu (.inl 76) [66]).or X0) hC hJ2 (w64 (x21 + 1)) hl1 []
   ·obtain ⟨Row_e_e, h2, hf1⟩ := zg hf1
    obtain ⟨Row_e1, h3, hf1⟩ := zg hf1
    obtain ⟨Row_e_e1, h4, hf1⟩ := zg hf1
    let Z0 : List HO := [Hi F6_ h2, Hi uE h3, Hi F6_ h4]
    rcases zO hf1 with ⟨c2, hf1⟩ | ⟨c2, hf1⟩
    ·obtain rfl := zb hf1
     obtain rfl := hl1
     exact yBx ((Un zu (.inl 76) [66]).or X0) hC hJ1 ([x21] : List Int) hf0 [(0, .own (.box (xG 64 (xG 64 (eNl 1 (eI .i64))) f_))), (4, .d (I n_)), (11, .own (eOs 1 true (eI .i64) ([x21])))] inferInstance (Z0 ++ [Hq c2])
    ·rcases zO hf1 with ⟨c3, hf1⟩ | ⟨c3, hf1⟩
     ·let Z1 : List HO := (Z0 ++ (Hq c2 :: (rpN 4 (Hq c3) [])))
      rcases zO hf1 with ⟨c4, hf1⟩ | ⟨c4, hf1⟩
      ·obtain ⟨cell, h5, hf1⟩ := zg hf1
       obtain ⟨cell1, h6, hf1⟩ := zg hf1
       let Z2 : List HO := (Z1 ++ (rpN 7 (Hq c4) (Hn (⟨XW (by kernel_rfl) f_ (i0 h5), (iL (xG 64 (eNl 1 (eI .i64))) h5).2⟩ : kp yD 154 ((f_.l).map (xG 64 (eNl 1 (eI .i64)))) Row_e_e.To = true ∧ Row_e_e.To.toNat < ((f_.l).map (xG 64 (eNl 1 (eI .i64)))).length) :: Hq c4 :: Hh (.f) :: Hs (iM (xG 64 (eNl 1 (eI .i64))) h5) :: Hn (⟨XW (by kernel_rfl) cell (i0 h6), (iL (eNl 1 (eI .i64)) h6).2⟩ : kp yD 125 ((cell.l).map (eNl 1 (eI .i64))) Row_e_e1.To = true ∧ Row_e_e1.To.toNat < ((cell.l).map (eNl 1 (eI .i64))).length) :: Hq c4 :: Hh (.f) :: Hs (iM (xG 64 (eNl 1 (eI .i64))) h5) :: Hh (.f) :: Hs (iM (eNl 1 (eI .i64)) h6) :: Hn (rfl : T.d (eNl 1 (eI .i64) cell1) = T.d (eNl 1 (eI .i64) cell1)) :: Hq c4 :: Ha (lnM (eI .i64) cell1) :: (rpN 4 (Hq c4) []))))
       rcases zO hf1 with ⟨c5, hf1⟩ | ⟨c5, hf1⟩
       ·obtain ⟨cell2, h7, hf1⟩ := zg hf1
        obtain ⟨cell3, h8, hf1⟩ := zg hf1
        obtain ⟨r_1, h9, hf1⟩ := zg hf1
        obtain rfl := zb hf1
        obtain rfl := hl1
        exact yB ((xLs zu 75 (eNl 1 (eI .i64) cell3) (eSl 1 false (eI .i64) cell3) inferInstance).or ((xBl zu 66).or ((xLs zu 59 (eNl 1 (eI .i64) cell1) (eSl 1 false (eI .i64) cell1) inferInstance).or ((Un zu (.inl 76) [66]).or X0)))) hC hJ1 r_1 hf0 (Z2 ++ [Hq c5, Hn (⟨XW (by kernel_rfl) f_ (i0 h7), (iL (xG 64 (eNl 1 (eI .i64))) h7).2⟩ : kp yD 154 ((f_.l).map (xG 64 (eNl 1 (eI .i64)))) Row_e_e.To = true ∧ Row_e_e.To.toNat < ((f_.l).map (xG 64 (eNl 1 (eI .i64)))).length), Hh (.op 9), Hh (.f), Hs (iM (xG 64 (eNl 1 (eI .i64))) h7), Hn (⟨XW (by kernel_rfl) cell2 (i0 h8), (iL (eNl 1 (eI .i64)) h8).2⟩ : kp yD 125 ((cell2.l).map (eNl 1 (eI .i64))) Row_e_e1.To = true ∧ Row_e_e1.To.toNat < ((cell2.l).map (eNl 1 (eI .i64))).length), Hh (.op 0), Hh (.f), Hs (iM (xG 64 (eNl 1 (eI .i64))) h7), Hh (.f), Hs (iM (eNl 1 (eI .i64)) h8), Hn (rfl : T.d (eNl 1 (eI .i64) cell3) = T.d (eNl 1 (eI .i64) cell3)), Hm (shM (eI .i64) (eI .i64) ([x21])), Hg (Jx h0e), Hm (shM F3_ F3_ ([[x21], cell3])), Hs (Jy h0e (x := [[x21], cell3]) h9 (loC F9_ ([[x21], cell3] : List (List Int)) <| loN)), Hm (shM F3_ F3_ ([[x21], cell3]))])
       ·exact yB ((xLs zu 59 (eNl 1 (eI .i64) cell1) (eSl 1 false (eI .i64) cell1) inferInstance).or ((Un zu (.inl 76) [66]).or X0)) hC hJ3 () hf1 (Z2 ++ [Hq c5])
      ·exact yB ((Un zu (.inl 76) [66]).or X0) hC hJ3 () hf1 (Z1 ++ (rpN 14 (Hq c4) [qF]))
     ·exact yB ((Un zu (.inl 76) [66]).or X0) hC hJ3 () hf1 (Z0 ++ (Hq c2 :: (rpN 4 (Hq c3) (rpN 15 qF []))))
  ·obtain rfl := zb hf1
   obtain rfl := hl1
   exact yBx ((Un zu (.inl 76) [66]).or X0) hC hJ1 ([] : List Int) hf0 [(0, .own (.box (xG 64 (xG 64 (eNl 1 (eI .i64))) f_))), (4, .d (I n_)), (11, .own (eOs 1 true (eI .i64) []))] inferInstance [Hq c1]
def VS : Code := (Tryz.f134.body).getD .skip
theorem Up {ctr : Ctr} (hC : zx Tryz.prog ctr) (cv0 : Value) : ∀ (s_ : Int) (t_ : Int) (w_ : List Int) (f_ : ArN 64 (ArN 64 (List Int))) (r0 : ArN 64 (ArN 64 (List Int))), uG s_ t_ w_ f_ = some r0 → jd Tryz.prog (.fn 134 []) [.atom cv0, I s_, I t_, eNl 1 (eI .i64) w_] ([cv0].zip [.box (xG 64 (xG 64 (eNl 1 (eI .i64))) f_)]) (.tup []) [.box (xG 64 (xG 64 (eNl 1 (eI .i64))) r0)] := by
 intro s_ t_ w_ f_ r0 hf0
 refine z3Q (tt := yD) (nt := 22) (body := VS) [0] zu Tryz.func134 rfl (by kernel_rfl) rfl rfl (by show (4 : Nat) ≤ 22; decide) (by decide) rfl rfl (fun E hE => ?_) rfl
 unfold uG at hf0
 refine zaL 0 (v := cv0) ⟨_, rfl⟩ (by kernel_rfl) fun b0 hb0 => ?_
 subst hb0
 obtain ⟨cell, h0, hf0⟩ := zg hf0
 obtain ⟨cell1, h1, hf0⟩ := zg hf0
 obtain ⟨arr, h2, hf0⟩ := zg hf0
 replace h2 := zb h2
 obtain ⟨arr1, h3, hf0⟩ := zg hf0
 replace h3 := zb h3
 obtain ⟨cell2, h4, hf0⟩ := zg hf0
 obtain ⟨cell3, h5, hf0⟩ := zg hf0
 obtain ⟨arr2, h6, hf0⟩ := zg hf0
 replace h6 := zb h6
 obtain ⟨arr3, h7, hf0⟩ := zg hf0
 replace h7 := zb h7
 obtain rfl := zb hf0
 exact yF ((xIr zu 21 0 t_.toNat b0).or ((xRi zu 20 64 64 b0).or ((xNr Tryz.prog 19 b0).or ((xMv Tryz.prog 11 0 (K5 b0) rfl).or X0)))) hC .normal [(0, .own (.box (xG 64 (xG 64 (eNl 1 (eI .i64))) arr3)))] [Hn (rfl : some (K5 b0) = some (K5 b0)), Hn (⟨XW (by kernel_rfl) f_ (i0 h0), (iL (xG 64 (eNl 1 (eI .i64))) h0).2⟩ : kp yD 154 ((f_.l).map (xG 64 (eNl 1 (eI .i64)))) s_ = true ∧ s_.toNat < ((f_.l).map (xG 64 (eNl 1 (eI .i64)))).length), Hh (.op 10), Hh (.f), Hs (iM (xG 64 (eNl 1 (eI .i64))) h0), Hn (⟨XW (by kernel_rfl) cell (i0 h1), (iL (eNl 1 (eI .i64)) h1).2⟩ : kp yD 125 ((cell.l).map (eNl 1 (eI .i64))) t_ = true ∧ t_.toNat < ((cell.l).map (eNl 1 (eI .i64))).length), Hh (.op 0), Hh (.f), Hs (iM (xG 64 (eNl 1 (eI .i64))) h0), Hh (.f), Hs (iM (eNl 1 (eI .i64)) h1), Hh (.f), Hs (iM (xG 64 (eNl 1 (eI .i64))) h0), Hh (.f), Hs (iM (eNl 1 (eI .i64)) h1), Hx (.l ((arr.l).map (eNl 1 (eI .i64)))) ((ArN.setL (eNl 1 (eI .i64)) cell t_ w_).trans (congrArg (fun q => (ArN.l q).map (eNl 1 (eI .i64))) h2)), Hx (.l ((arr1.l).map (xG 64 (eNl 1 (eI .i64))))) ((ArN.setL (xG 64 (eNl 1 (eI .i64))) f_ s_ arr).trans (congrArg (fun q => (ArN.l q).map (xG 64 (eNl 1 (eI .i64)))) h3)), Hn (rfl : T.d (.atom (K5 b0)) = T.d (.atom (K5 b0))), Hn (⟨rfl, i0 h4, z92 (x := arr1) h4⟩ : T.d (.atom (K5 b0)) = T.d (.atom (K5 b0)) ∧ 0 ≤ t_ ∧ t_.toNat < 64), Hn (⟨⟨congrArg (fun k => T.d (.atom (.pointer (some ⟨b0, k, none⟩)))) (zaO (f := (xG 64 (eNl 1 (eI .i64)))) arr1 h4).symm, (iL (xG 64 (eNl 1 (eI .i64))) h4).2⟩, rfl⟩ : (T.d (.atom (.pointer (some ⟨b0, t_.toNat * 64, none⟩))) = T.d (.atom (.pointer (some ⟨b0, A.sizes (((arr1.l).map (xG 64 (eNl 1 (eI .i64)))).take t_.toNat), none⟩))) ∧ t_.toNat < ((arr1.l).map (xG 64 (eNl 1 (eI .i64)))).length) ∧ some (K5 b0) = some (K5 b0)), Hh (.op 2), Hh (.f), Hs (iM (xG 64 (eNl 1 (eI .i64))) h4), Hn (⟨XW (by kernel_rfl) cell2 (i0 h5), (iL (eNl 1 (eI .i64)) h5).2⟩ : kp yD 125 ((cell2.l).map (eNl 1 (eI .i64))) s_ = true ∧ s_.toNat < ((cell2.l).map (eNl 1 (eI .i64))).length), Hh (.op 0), Hh (.f), Hs (iM (xG 64 (eNl 1 (eI .i64))) h4), Hh (.f), Hs (iM (eNl 1 (eI .i64)) h5), Hh (.f), Hs (iM (xG 64 (eNl 1 (eI .i64))) h4), Hh (.f), Hs (iM (eNl 1 (eI .i64)) h5), Hx (.l ((arr2.l).map (eNl 1 (eI .i64)))) ((ArN.setL (eNl 1 (eI .i64)) cell2 s_ w_).trans (congrArg (fun q => (ArN.l q).map (eNl 1 (eI .i64))) h6)), Hx (.l ((arr3.l).map (xG 64 (eNl 1 (eI .i64))))) ((ArN.setL (xG 64 (eNl 1 (eI .i64))) arr1 t_ arr2).trans (congrArg (fun q => (ArN.l q).map (xG 64 (eNl 1 (eI .i64)))) h7))] fun st0 h0 => hE _ st0 (.inl rfl) (VJ h0 ⟨⟨rfl, rfl⟩, trivial⟩)
def y6 : Code := (Tryz.f104.body).getD .skip
def jz : zS := spF (α := z6) (ρ := ArN 64 (ArN 64 (List Int))) 104 (fun x => [yq x]) (fun r => (eBx (xG 64 (xG 64 (eNl 1 (eI .i64))))) r) (fun x => uF x) [] (WA)
abbrev W7 (f_ : ArN 64 (ArN 64 (List Int))) : List (Nat × T) := [(3, .own (.box (.box (xG 64 (xG 64 (eNl 1 (eI .i64))) f_))))]
abbrev W6 (m_ : z6) (n_ : Int) (f_2 : ArN 64 (ArN 64 (List Int))) : List (Nat × T) := [(1, .own (.box (yq m_))), (3, .own (.box (.box (xG 64 (xG 64 (eNl 1 (eI .i64))) f_2)))), (4, .own (.box (I n_)))]
abbrev W3 (m_ : z6) (n_ : Int) (now : List zA) (f_4 : ArN 64 (ArN 64 (List Int))) (x50 : Int) : List (Nat × T) := [(1, .own (.box (yq m_))), (3, .own (.box (.box (xG 64 (xG 64 (eNl 1 (eI .i64))) f_4)))), (4, .own (.box (I n_))), (48, .d (eSl 4 false (zL (eI .i64) (eI .i64) (eNl 1 (eI .i64)) eB) now)), (49, .d (I ((now.length : Nat) : Int))), (50, .d (I x50))]
abbrev W5 (m_ : z6) (n_ : Int) (f_3 : ArN 64 (ArN 64 (List Int))) (now : List zA) : List (Nat × T) := [(1, .own (.box (yq m_))), (3, .own (.box (.box (xG 64 (xG 64 (eNl 1 (eI .i64))) f_3)))), (4, .own (.box (I n_))), (5, .own (.box (eOs 4 false (zL (eI .i64) (eI .i64) (eNl 1 (eI .i64)) eB) now)))]
abbrev vb (m_ : z6) (n_ : Int) (r_1 : z6) (f_5 : ArN 64 (ArN 64 (List Int))) (now1 : List zA) : List (Nat × T) := [(1, .own (.box (yq m_))), (3, .own (.box (.box (xG 64 (xG 64 (eNl 1 (eI .i64))) f_5)))), (4, .own (.box (I n_))), (5, .own (.box (eOs 4 false (zL (eI .i64) (eI .i64) (eNl 1 (eI .i64)) eB) now1))), (22, .d (.fn 150 [.sptr (.agg [I r_1.Inputs, I r_1.Outputs, eSl 1 false uE r_1.Rows])]))]
abbrev W4 (m_ : z6) (f_1 : ArN 64 (ArN 64 (List Int))) (n_ : Int) : List (Nat × T) := [(1, .own (.box (yq m_))), (3, .own (.box (.box (xG 64 (xG 64 (eNl 1 (eI .i64))) f_1)))), (4, .own (.box (I n_)))]
theorem Uo {ctr : Ctr} (hC : zx Tryz.prog ctr) (h0T : ctr.Has ZT) (h0e : ctr.Has wp) (h01 : ctr.Has yn) : jz.Ok Tryz.prog := by
 refine zB ?_
 rintro m_ r0 hf0
 try unfold uF at hf0
 refine z8i (tt := yD) (rs := [(true, 2, none)]) (n := ⟨65, []⟩) (body := y6) zu Tryz.func104 rfl (by kernel_rfl) rfl rfl (by show (1 : Nat) ≤ 65; decide) fun E hE => ?_
 refine yJ X0 hC y6 [1,1] [] [3] (fun z : ArN 64 (ArN 64 (List Int)) => uo z = some r0) (fun z => W7 z) [(1, .own (.box (yq m_))), (3, .own (.box (.box (xG 64 (xG 64 (eNl 1 (eI .i64))) (ArN.rep 64 (ArN.rep 64 ([] : List Int)))))))] [Hh (.cut 2)] ?_ fun J1 hJ1 => ?_
 ·rintro f_ hf0
  unfold uo at hf0
  obtain rfl := zb hf0
  let ZE : List HO := []
  exact zaN X0 zu hC Wu hE 4000 (hs := hoH ZE) (x := (.box (xG 64 (xG 64 (eNl 1 (eI .i64))) f_))) (hoB ZE) (by kernel_rfl) (LeV.refl _)
 ·obtain ⟨t2, ht2, hf0⟩ := zg hf0
  refine yL X0 hC y6 [1,1,2,1,0] [J1] (fun s => uk m_ s.1 s.2) (fun x => W4 m_ x.1 x.2) ((ArN.rep 64 (ArN.rep 64 ([] : List Int))), 1) ht2  [] ?_
  rintro ⟨f_1, n_⟩ m2 lr1 hf1 hl1 J2 hJ2
  try unfold uk at hf1
  let Z0 : List HO := [Ha (lnM uE m_.Rows)]
  rcases zO hf1 with ⟨c0, hf1⟩ | ⟨c0, hf1⟩
  ·refine yJ X0 hC y6 [1,1,2,1,0,0,1] [J1, J2] [1,3,4] (fun z : ArN 64 (ArN 64 (List Int)) => um n_ z = some lr1) (fun z => W6 m_ n_ z) [(1, .own (.box (yq m_))), (3, .own (.box (.box (xG 64 (xG 64 (eNl 1 (eI .i64))) f_1)))), (4, .own (.box (I n_)))] (Z0 ++ [Hq c0, Hh (.cut 0)]) ?_ fun J3 hJ3 => ?_
   ·rintro f_2 hf1
    unfold um at hf1
    obtain rfl := zb hf1
    exact yB X0 hC hJ2 (f_2, w64 (n_ + 1)) hl1 []
   ·refine yJ X0 hC y6 [1,1,2,1,0,0,1,2,0,1] [J1, J2, J3] [1,3,4,5] (fun z : ArN 64 (ArN 64 (List Int)) × List zA => ul n_ z.1 z.2 = some lr1) (fun z => W5 m_ n_ z.1 z.2) [(1, .own (.box (yq m_))), (3, .own (.box (.box (xG 64 (xG 64 (eNl 1 (eI .i64))) f_1)))), (4, .own (.box (I n_))), (5, .own (.box (eOs 4 true (zL (eI .i64) (eI .i64) F3_ eB) [])))] [Hh (.cut 1)] ?_ fun J4 hJ4 => ?_
    ·rintro ⟨f_3, now⟩ hf1
     unfold ul at hf1
     obtain ⟨t5, ht5, hf1⟩ := zg hf1
     refine yL X0 hC y6 [1,1,2,1,0,0,1,2,0,1,1,1,0] [J1, J2, J3] (fun s => wS now s.1 s.2) (fun x => W3 m_ n_ now x.1 x.2) (f_3,0) ht5  [Hh (.v 0 [5]), Hm (shM (zL (eI .i64) (eI .i64) (eNl 1 (eI .i64)) eB) (zL (eI .i64) (eI .i64) (eNl 1 (eI .i64)) eB) now), Hh (.v 1 [5]), Ha (lnM (zL (eI .i64) (eI .i64) (eNl 1 (eI .i64)) eB) now)] ?_
     rintro ⟨f_4, x50⟩ m5 lr2 hf2 hl2 J5 hJ5
     try unfold wS at hf2
     rcases zO hf2 with ⟨c1, hf2⟩ | ⟨c1, hf2⟩
     ·obtain ⟨now_e, h0, hf2⟩ := zg hf2
      obtain ⟨r_, h1, hf2⟩ := zg hf2
      obtain rfl := zb hf2
      exact yB ((z4H (P := Tryz.prog) yD 3 0 (fa := .fn 134 []) (z := .box (xG 64 (xG 64 (eNl 1 (eI .i64))) f_4)) (z' := .box (xG 64 (xG 64 (eNl 1 (eI .i64))) r_)) (r := .tup []) (xl := []) (xr := [(eI .i64) now_e.S, (eI .i64) now_e.T, (eNl 1 (eI .i64)) now_e.Word]) rfl rfl (fun v => Up hC v _ _ _ _ _ h1) 61).or X0) hC hJ5 (r_, w64 (x50 + 1)) hl2 [Hq c1, Hi (zL (eI .i64) (eI .i64) (eNl 1 (eI .i64)) eB) h0, Hn (⟨rfl, leP (show Q4 [] [] from inferInstance), leP (show Q4 [(eI .i64) now_e.S, (eI .i64) now_e.T, (eNl 1 (eI .i64)) now_e.Word] [(eI .i64) now_e.S, (eI .i64) now_e.T, (eNl 1 (eI .i64)) now_e.Word] from inferInstance), rfl, rfl⟩ : ([.fn 134 []] : List A) = [.fn 134 []] ∧ LeP [] [] ∧ LeP [(eI .i64) now_e.S, (eI .i64) now_e.T, (eNl 1 (eI .i64)) now_e.Word] [(eI .i64) now_e.S, (eI .i64) now_e.T, (eNl 1 (eI .i64)) now_e.Word] ∧ T.als 3 [.deref] 0 0 = T.als 3 [.deref] 0 0 ∧ T.own (.box (.box (xG 64 (xG 64 (eNl 1 (eI .i64))) f_4))) = T.own (.box (.box (xG 64 (xG 64 (eNl 1 (eI .i64))) f_4))))]
     ·obtain rfl := zb hf2
      obtain rfl := hl2
      exact yB X0 hC hJ3 f_4 hf1 [Hq c1]
    ·obtain ⟨r_1, h2, hf1⟩ := zg hf1
     obtain ⟨t6, ht6, hf1⟩ := zg hf1
     refine yAt X0 hC (sub [1,1,2,1,0,0,1,2,0,1,2,1,0] y6) (frs [1,1,2,1,0,0,1,2,0,1,2,1,0] [J1, J2, J3, J4] y6 []) [(1, .own (.box (yq m_))), (3, .own (.box (.box (xG 64 (xG 64 (eNl 1 (eI .i64))) f_1)))), (4, .own (.box (I n_))), (5, .own (.box (eOs 4 true (zL (eI .i64) (eI .i64) (eNl 1 (eI .i64)) eB) []))), (22, .d (.fn 150 [.sptr (.agg [I r_1.Inputs, I r_1.Outputs, eSl 1 false uE r_1.Rows])]))] [Hc h0T (x := m_) h2 (loC yq m_ <| loN)] fun st0 h0 => ?_
     refine VX (g := .tmp 22) (ps := [23,24]) (assign := (sub [1,1,2,1,0,0,1,2,0,1,2,1,0,0] y6)) (body := (sub [1,1,2,1,0,0,1,2,0,1,2,1,0,1] y6)) (K := 150) (caps := [.sptr (.agg [I r_1.Inputs, I r_1.Outputs, eSl 1 false uE r_1.Rows])]) (by kernel_rfl) [1,3,4,5,22] (fun s => vb m_ n_ r_1 s.1 s.2) (fun z => nomatch z) (fun z => nomatch z) ((fun (x : Int × Int) (_ : Bool) (_ : Value) => [(eI .i64) x.1, (eI .i64) x.2])) (F := @vF r_1) (fun s x => xy m_ n_ s.1 s.2 x.1 x.2) (f_1, ([] : List zA)) t6 _ h0 inferInstance (by kernel_rfl) (by decide) (fun _ => rfl) (by rintro ⟨⟩) (by kernel_rfl) (fun _ _ _ => rfl) (J0 hC r_1) ht6 ?_ ?_
     ·rintro tv6 ⟨f_5, now1⟩ ⟨x23, x24⟩ vr lr2 hf2
      replace hf2 : xy m_ n_ f_5 now1 x23 x24 = some lr2 := hf2
      unfold xy at hf2
      refine yF X0 hC .normal [(1, .own (.box (yq m_))), (3, .own (.box (.box (xG 64 (xG 64 (eNl 1 (eI .i64))) f_5)))), (4, .own (.box (I n_))), (5, .own (.box (eOs 4 false (zL (eI .i64) (eI .i64) (eNl 1 (eI .i64)) eB) now1))), (6, .d (I x23)), (7, .d (I x24)), (22, .d (.fn 150 [.sptr (.agg [I r_1.Inputs, I r_1.Outputs, eSl 1 false uE r_1.Rows])]))] [] fun st0 h0 => ⟨rfl, z1l h0 ?_⟩
      obtain ⟨cell, h3, hf2⟩ := zg hf2
      obtain ⟨cell1, h4, hf2⟩ := zg hf2
      let Z1 : List HO := [Hn (⟨XW (by kernel_rfl) f_5 (i0 h3), (iL (xG 64 (eNl 1 (eI .i64))) h3).2⟩ : kp yD 154 ((f_5.l).map (xG 64 (eNl 1 (eI .i64)))) x23 = true ∧ x23.toNat < ((f_5.l).map (xG 64 (eNl 1 (eI .i64)))).length), Hh (.op 5), Hh (.f), Hs (iM (xG 64 (eNl 1 (eI .i64))) h3), Hn (⟨XW (by kernel_rfl) cell (i0 h4), (iL (eNl 1 (eI .i64)) h4).2⟩ : kp yD 125 ((cell.l).map (eNl 1 (eI .i64))) x24 = true ∧ x24.toNat < ((cell.l).map (eNl 1 (eI .i64))).length), Hh (.op 0), Hh (.f), Hs (iM (xG 64 (eNl 1 (eI .i64))) h3), Hh (.f), Hs (iM (eNl 1 (eI .i64)) h4), Hn (⟨rfl, rfl⟩ : T.d (eNl 1 (eI .i64) cell1) = T.d (eNl 1 (eI .i64) cell1) ∧ T.d (.atom (.slice none 0 0)) = T.d (.atom (.slice none 0 0)))]
      rcases zO hf2 with ⟨c2, hf2⟩ | ⟨c2, hf2⟩
      ·obtain rfl := zb hf2
       exact yF ((zb4 zu 32 40 1 (cell1.map (eI .i64)) true (!cell1.isEmpty) (by kernel_rfl) (nlB true (eI .i64) cell1)).or X0) hC .normal (vb m_ n_ r_1 f_5 now1) (Z1 ++ [Hq c2]) fun st0 h0 => ⟨rfl, _, h0, LeL.refl _⟩
      ·obtain ⟨r_2, h5, hf2⟩ := zg hf2
       let Z2 : List HO := (Z1 ++ [Hq c2, Hn (⟨rfl, leP (show Q4 [] [] from inferInstance), leP (show Q4 [yq m_, (eI .i64) x23, (eI .i64) x24, (eI .i64) n_] [yq m_, (eI .i64) x23, (eI .i64) x24, (eI .i64) n_] from inferInstance), rfl, rfl⟩ : ([.fn 133 []] : List A) = [.fn 133 []] ∧ LeP [] [] ∧ LeP [yq m_, (eI .i64) x23, (eI .i64) x24, (eI .i64) n_] [yq m_, (eI .i64) x23, (eI .i64) x24, (eI .i64) n_] ∧ T.als 3 [.deref] 0 0 = T.als 3 [.deref] 0 0 ∧ T.own (.box (.box (xG 64 (xG 64 (eNl 1 (eI .i64))) f_5))) = T.own (.box (.box (xG 64 (xG 64 (eNl 1 (eI .i64))) f_5)))), Hn (⟨rfl, rfl⟩ : T.d (eNl 1 (eI .i64) r_2.1) = T.d (eNl 1 (eI .i64) r_2.1) ∧ T.d (.atom (.slice none 0 0)) = T.d (.atom (.slice none 0 0)))])
       rcases zO hf2 with ⟨c3, hf2⟩ | ⟨c3, hf2⟩
       ·obtain ⟨g0, hf2⟩ := gdE hf2
        obtain rfl := zb hf2
        exact yF ((zb4 zu 40 40 1 (r_2.1.map (eI .i64)) true (!r_2.1.isEmpty) (by kernel_rfl) (nlB true (eI .i64) r_2.1)).or ((z4H (P := Tryz.prog) yD 3 0 (fa := .fn 133 []) (z := .box (xG 64 (xG 64 (eNl 1 (eI .i64))) f_5)) (z' := .box (xG 64 (xG 64 (eNl 1 (eI .i64))) r_2.2)) (r := eNl 1 (eI .i64) r_2.1) (xl := []) (xr := [yq m_, (eI .i64) x23, (eI .i64) x24, (eI .i64) n_]) rfl rfl (fun v => ZN hC h0e h01 v _ _ _ _ _ _ h5) 38).or ((zb4 zu 32 40 1 (cell1.map (eI .i64)) true (!cell1.isEmpty) (by kernel_rfl) (nlB true (eI .i64) cell1)).or X0))) hC .normal (vb m_ n_ r_1 r_2.2 (now1 ++ ([(zA.mk x23 x24 r_2.1 false)] : List zA))) (Z2 ++ [Hq c3, Hq (dM (zL (eI .i64) (eI .i64) (eNl 1 (eI .i64)) eB) ([(zA.mk x23 x24 r_2.1 false)] : List zA)), Hn (dM (zL (eI .i64) (eI .i64) (eNl 1 (eI .i64)) eB) ([(zA.mk x23 x24 r_2.1 false)] : List zA)), Hn (aL (zL (eI .i64) (eI .i64) (eNl 1 (eI .i64)) eB) (zL (eI .i64) (eI .i64) (eNl 1 (eI .i64)) eB) g0), Hl (aM (zL (eI .i64) (eI .i64) (eNl 1 (eI .i64)) eB) now1 ([(zA.mk x23 x24 r_2.1 false)] : List zA))]) fun st0 h0 => ⟨rfl, _, h0, LeL.refl _⟩
       ·obtain rfl := zb hf2
        exact yF ((zb4 zu 40 40 1 (r_2.1.map (eI .i64)) true (!r_2.1.isEmpty) (by kernel_rfl) (nlB true (eI .i64) r_2.1)).or ((z4H (P := Tryz.prog) yD 3 0 (fa := .fn 133 []) (z := .box (xG 64 (xG 64 (eNl 1 (eI .i64))) f_5)) (z' := .box (xG 64 (xG 64 (eNl 1 (eI .i64))) r_2.2)) (r := eNl 1 (eI .i64) r_2.1) (xl := []) (xr := [yq m_, (eI .i64) x23, (eI .i64) x24, (eI .i64) n_]) rfl rfl (fun v => ZN hC h0e h01 v _ _ _ _ _ _ h5) 38).or ((zb4 zu 32 40 1 (cell1.map (eI .i64)) true (!cell1.isEmpty) (by kernel_rfl) (nlB true (eI .i64) cell1)).or X0))) hC .normal (vb m_ n_ r_1 r_2.2 now1) (Z2 ++ [Hq c3]) fun st0 h0 => ⟨rfl, _, h0, LeL.refl _⟩
     ·rcases t6 with ⟨f_5, now1⟩ | z
      ·dsimp only at hf1
       exact Zb (by kernel_rfl) (hJ4 _ [(1, .own (.box (yq m_))), (3, .own (.box (.box (xG 64 (xG 64 (eNl 1 (eI .i64))) f_5)))), (4, .own (.box (I n_))), (5, .own (.box (eOs 4 false (zL (eI .i64) (eI .i64) (eNl 1 (eI .i64)) eB) now1)))] (f_5, now1) hf1 (show Own.canon [1,3,4,5] _ = ofL _ by kernel_rfl) inferInstance)
      ·cases z
  ·obtain rfl := zb hf1
   obtain rfl := hl1
   exact yB X0 hC hJ1 f_1 hf0 (Z0 ++ [Hq c0])
def XJ : Code := (Tryz.f103.body).getD .skip
def wG : zS := spF (α := List Int) (ρ := List Int) 103 (fun x => [F3_ x]) (fun r => F4_ r) (fun x => ym x) [] (WA)
theorem XY {ctr : Ctr} (hC : zx Tryz.prog ctr) : wG.Ok Tryz.prog := by
 refine zB ?_
 rintro s_ r0 hf0
 try unfold ym at hf0
 refine yO true [(2, none)] XJ 8 Tryz.func103 fun E hE => ?_
 refine z6h rfl 0 (sz := 1) (t := false) (es := s_.map (eI .i64)) (by kernel_rfl) fun pv0 hv0 hn => ?_
 rcases hn with ⟨hn0, he0⟩ | hn0
 ·obtain ⟨_, hf0⟩ := gdE hf0
  rw [show s_ = [] from List.map_eq_nil_iff.1 he0] at hf0
  obtain rfl := zb hf0
  exact yEx ((zer zu 4 40 (by kernel_rfl) hn0).or ((xMv Tryz.prog 3 0 pv0 hv0).or X0)) hC hE [Hn (rfl : some pv0 = some pv0), Hn (⟨rfl, rfl⟩ : T.d (.atom pv0) = T.d (.atom pv0) ∧ T.d (.atom (.slice none 0 0)) = T.d (.atom (.slice none 0 0))), qT] (eOs 1 true (eI .i64) []) (show LeV (eOs 1 true (eI .i64) []) (eOs 1 false (eI .i64) ([] : List Int)) from inferInstance)
 ·obtain ⟨g0, hf0⟩ := gdE hf0
  obtain rfl := zb hf0
  exact yE ((zer zu 4 40 (by kernel_rfl) hn0).or ((xMv Tryz.prog 3 0 pv0 hv0).or X0)) hC hE [Hn (rfl : some pv0 = some pv0), Hn (⟨rfl, rfl⟩ : T.d (.atom pv0) = T.d (.atom pv0) ∧ T.d (.atom (.slice none 0 0)) = T.d (.atom (.slice none 0 0))), qF, Hn (dM (eI .i64) s_), Hn (aL (eI .i64) (eI .i64) g0), Hl (aM0 (eI .i64) s_)]
def UO : Code := (Tryz.f72.body).getD .skip
def vp : zS := spF (α := z6 × Int × Int) (ρ := List Int × Bool × Int) 72 (fun x => [yq x.1, (eI .i64) x.2.1, (eI .i64) x.2.2]) (fun r => .tup [F2_ r.1, eB r.2.1, (eI .i64) r.2.2]) (fun x => vS x.1 x.2.1 x.2.2) [] (z8W)
theorem Q8 {ctr : Ctr} (hC : zx Tryz.prog ctr) (h0x : ctr.Has ZS) (h0U : ctr.Has jz) (h0q : ctr.Has wG) (h01 : ctr.Has yn) : vp.Ok Tryz.prog := by
 refine zB ?_
 rintro ⟨m_, s_, t_⟩ r0 hf0
 try unfold vS at hf0
 refine yO false [(6, none), (7, none), (8, none)] UO 33 Tryz.func72 fun E hE => ?_
 obtain ⟨r_, h0, hf0⟩ := zg hf0
 let Z0 : List HO := [Hg (Jx h0x), Hm (shM (eI .i64) (eI .i64) ([s_, t_])), Hs (Jy h0x (x := (m_, [s_, t_])) h0 (loC yq m_ <| loC F2_ ([s_, t_] : List Int) <| loN))]
 rcases zO hf0 with ⟨c0, hf0⟩ | ⟨c0, hf0⟩
 ·obtain rfl := zb hf0
  exact yEx X0 hC hE (Z0 ++ [Hq c0, Hm (shM (eI .i64) (eI .i64) [])]) (.tup [eSl 1 true (eI .i64) [], B false, I r_]) (show LeV (.tup [eSl 1 true (eI .i64) [], B false, I r_]) (.tup [eSl 1 true (eI .i64) ([] : List Int), B false, I r_]) from inferInstance)
 ·obtain ⟨r_1, h1, hf0⟩ := zg hf0
  obtain ⟨cell, h2, hf0⟩ := zg hf0
  obtain ⟨cell1, h3, hf0⟩ := zg hf0
  obtain ⟨r_2, h4, hf0⟩ := zg hf0
  obtain ⟨r_3, h5, hf0⟩ := zg hf0
  obtain rfl := zb hf0
  exact yE ((xLs zu 26 (eNl 1 (eI .i64) cell1) (eSl 1 false (eI .i64) cell1) inferInstance).or X0) hC hE (Z0 ++ [Hq c0, Hc h0U (x := m_) h1 (loC yq m_ <| loN), Hn (⟨XW (by kernel_rfl) r_1 (i0 h2), (iL (xG 64 (eNl 1 (eI .i64))) h2).2⟩ : kp yD 154 ((r_1.l).map (xG 64 (eNl 1 (eI .i64)))) s_ = true ∧ s_.toNat < ((r_1.l).map (xG 64 (eNl 1 (eI .i64)))).length), Hh (.op 4), Hh (.f), Hs (iM (xG 64 (eNl 1 (eI .i64))) h2), Hn (⟨XW (by kernel_rfl) cell (i0 h3), (iL (eNl 1 (eI .i64)) h3).2⟩ : kp yD 125 ((cell.l).map (eNl 1 (eI .i64))) t_ = true ∧ t_.toNat < ((cell.l).map (eNl 1 (eI .i64))).length), Hh (.op 0), Hh (.f), Hs (iM (xG 64 (eNl 1 (eI .i64))) h2), Hh (.f), Hs (iM (eNl 1 (eI .i64)) h3), Hn (rfl : T.d (eNl 1 (eI .i64) cell1) = T.d (eNl 1 (eI .i64) cell1)), Hc h0q (x := cell1) h4 (loC F3_ cell1 <| loN), Hg (Jx h01), Hm (shM (eI .i64) (eI .i64) r_2), Hs (Jy h01 (x := r_2) h5 (loC F3_ r_2 <| loN)), Hm (shM (eI .i64) (eI .i64) r_2), Ha (lnM (eI .i64) r_3)])
def Jh : Code := (Tryz.f136.body).getD .skip
def Zi : zS := spF (α := Int × Int) (ρ := Bool) 136 (fun x => [(eI .i64) x.1, (eSp (eI .i64)) x.2]) (fun r => eB r) (fun x => Zw x.1 x.2) [] (Vt)
theorem JF {ctr : Ctr} (hC : zx Tryz.prog ctr) : Zi.Ok Tryz.prog := by
 refine zB ?_
 rintro ⟨c_, x1⟩ r0 hf0
 try unfold Zw at hf0
 refine yO true [(3, none)] Jh 11 Tryz.func136 fun E hE => ?_
 rcases zO hf0 with ⟨c0, hf0⟩ | ⟨c0, hf0⟩
 ·obtain rfl := zb hf0
  exact yE X0 hC hE (rpN 4 (Hq c0) [])
 ·obtain rfl := zb hf0
  exact yE X0 hC hE (rpN 4 (Hq c0) [])
def v8 : Code := (Tryz.f149.body).getD .skip
def wT : zS := spF (α := List Int × Int) (ρ := Int) 149 (fun x => [F3_ x.1, (Vb 136 (eSp (eI .i64))) x.2]) (fun r => (eI .i64) r) (fun x => wq x.1 x.2) [] (by
 rintro ⟨a0, a1⟩ ⟨b0, b1⟩ h
 have e0 := Zt.inj (f := F3_) _ _ (List.cons.inj h).1
 replace h := (List.cons.inj h).2
 have e1 := Zt.inj (f := (Vb 136 (eSp (eI .i64)))) _ _ (List.cons.inj h).1
 subst e0 e1
 rfl)
abbrev Zd : List (Nat × T) := []
abbrev Zc (s_ : List Int) (f_ : Int) (x8 : Int) : List (Nat × T) := [(0, .d (eSl 1 false (eI .i64) s_)), (1, .d (.fn 136 [.sptr (I f_)])), (7, .d (I ((s_.length : Nat) : Int))), (8, .d (I x8))]
theorem Yw {ctr : Ctr} (hC : zx Tryz.prog ctr) (h0V : ctr.Has Zi) : wT.Ok Tryz.prog := by
 refine zB ?_
 rintro ⟨s_, f_⟩ r0 hf0
 try unfold wq at hf0
 refine yO true [(4, none)] v8 19 Tryz.func149 fun E hE => ?_
 refine yJ X0 hC v8 [1] [] [] (fun z : Unit => wX = some r0) (fun z => Zd) [(0, .d (eSl 1 false (eI .i64) s_)), (1, .d (.fn 136 [.sptr (I f_)]))] [Hh (.cut 1)] ?_ fun J1 hJ1 => ?_
 ·rintro ⟨⟩ hf0
  unfold wX at hf0
  obtain rfl := zb hf0
  exact yE X0 hC hE []
 ·obtain ⟨t2, ht2, hf0⟩ := zg hf0
  refine yL X0 hC v8 [1,2,1,0] [J1] (fun s => ya s_ f_ s) (fun x => Zc s_ f_ x) 0 ht2  [Ha (lnM (eI .i64) s_)] ?_
  rintro x8 m2 lr1 hf1 hl1 J2 hJ2
  try unfold ya at hf1
  rcases zO hf1 with ⟨c0, hf1⟩ | ⟨c0, hf1⟩
  ·obtain ⟨s__e, h0, hf1⟩ := zg hf1
   obtain ⟨r_, h1, hf1⟩ := zg hf1
   let Z0 : List HO := [Hq c0, Hi (eI .i64) h0, Hc h0V (x := (s__e, f_)) h1 (loC (eI .i64) s__e <| loC (eSp (eI .i64)) f_ <| loN)]
   rcases zO hf1 with ⟨c1, hf1⟩ | ⟨c1, hf1⟩
   ·obtain rfl := zb hf1
    obtain rfl := hl1
    obtain rfl := zb hf0
    exact yE X0 hC hE (Z0 ++ [Hq c1])
   ·obtain rfl := zb hf1
    exact yB X0 hC hJ2 (w64 (x8 + 1)) hl1 (Z0 ++ [Hq c1])
  ·obtain rfl := zb hf1
   obtain rfl := hl1
   exact yB X0 hC hJ1 () hf0 [Hq c0]
def kZ : Code := (Tryz.f130.body).getD .skip
def we : zS := spF (α := List Int × Int) (ρ := Bool) 130 (fun x => [F3_ x.1, (Vb 136 (eSp (eI .i64))) x.2]) (fun r => eB r) (fun x => xJ x.1 x.2) [] (by
 rintro ⟨a0, a1⟩ ⟨b0, b1⟩ h
 have e0 := Zt.inj (f := F3_) _ _ (List.cons.inj h).1
 replace h := (List.cons.inj h).2
 have e1 := Zt.inj (f := (Vb 136 (eSp (eI .i64)))) _ _ (List.cons.inj h).1
 subst e0 e1
 rfl)
theorem Zf {ctr : Ctr} (hC : zx Tryz.prog ctr) (h0W : ctr.Has wT) : we.Ok Tryz.prog := by
 refine zB ?_
 rintro ⟨s_, f_⟩ r0 hf0
 try unfold xJ at hf0
 refine yO true [(4, none)] kZ 9 Tryz.func130 fun E hE => ?_
 obtain ⟨r_, h0, hf0⟩ := zg hf0
 obtain rfl := zb hf0
 exact yE X0 hC hE [Hc h0W (x := (s_, f_)) h0 (loC F3_ s_ <| loC (Vb 136 (eSp (eI .i64))) f_ <| loN)]
def KZ : Code := (Tryz.f113.body).getD .skip
def kJ : zS := spF (α := List Int × Int) (ρ := Int) 113 (fun x => [F3_ x.1, (eI .i64) x.2]) (fun r => (eI .i64) r) (fun x => qq x.1 x.2) [] (Vt)
theorem z0C {ctr : Ctr} (hC : zx Tryz.prog ctr) (h0X : ctr.Has we) : kJ.Ok Tryz.prog := by
 refine zB ?_
 rintro ⟨w_, inputs⟩ r0 hf0
 try unfold qq at hf0
 refine yO true [(4, none)] KZ 19 Tryz.func113 fun E hE => ?_
 rcases zO hf0 with ⟨c0, hf0⟩ | ⟨c0, hf0⟩
 ·obtain rfl := zb hf0
  exact yE X0 hC hE (rpN 4 (Hq c0) [qT])
 ·let Z0 : List HO := [Hq c0, Hq c0, Ha (lnM (eI .i64) w_), Hq c0, Hq c0]
  rcases zO hf0 with ⟨c1, hf0⟩ | ⟨c1, hf0⟩
  ·obtain rfl := zb hf0
   exact yE X0 hC hE (Z0 ++ [Hq c1])
  ·rcases zO hf0 with ⟨c2, hf0⟩ | ⟨c2, hf0⟩
   ·obtain rfl := zb hf0
    exact yE X0 hC hE (Z0 ++ (Hq c1 :: (rpN 4 (Hq c2) [qT])))
   ·obtain ⟨r_, h0, hf0⟩ := zg hf0
    let Z1 : List HO := (Z0 ++ [Hq c1, Hq c2, Hq c2, Hq c2, Hc h0X (x := (w_, inputs)) h0 (loC F3_ w_ <| loC (Vb 136 (eSp (eI .i64))) inputs <| loN), Hq c2])
    rcases zO hf0 with ⟨c3, hf0⟩ | ⟨c3, hf0⟩
    ·obtain rfl := zb hf0
     exact yE X0 hC hE (Z1 ++ [Hq c3])
    ·obtain rfl := zb hf0
     exact yE X0 hC hE (Z1 ++ [Hq c3])
def X7 : Code := (Tryz.f105.body).getD .skip
def kL : zS := spF (α := List (List Int) × Int) (ρ := Int) 105 (fun x => [vL x.1, (eI .i64) x.2]) (fun r => (eI .i64) r) (fun x => ku x.1 x.2) [] (Vt)
abbrev QF : List (Nat × T) := []
abbrev QE (l_ : List (List Int)) (inputs : Int) (x19 : Int) : List (Nat × T) := [(1, .d (I inputs)), (17, .d (eSl 1 false F3_ l_)), (18, .d (I ((l_.length : Nat) : Int))), (19, .d (I x19))]
theorem z0E {ctr : Ctr} (hC : zx Tryz.prog ctr) (h0r : ctr.Has kJ) : kL.Ok Tryz.prog := by
 refine zB ?_
 rintro ⟨l_, inputs⟩ r0 hf0
 try unfold ku at hf0
 refine yO true [(4, none)] X7 30 Tryz.func105 fun E hE => ?_
 rcases zO hf0 with ⟨c0, hf0⟩ | ⟨c0, hf0⟩
 ·obtain rfl := zb hf0
  exact yE X0 hC hE (rpN 4 (Hq c0) [qT])
 ·let Z0 : List HO := [Hq c0, Hq c0, Ha (lnM F3_ l_), Hq c0, Hq c0]
  rcases zO hf0 with ⟨c1, hf0⟩ | ⟨c1, hf0⟩
  ·obtain rfl := zb hf0
   exact yE X0 hC hE (Z0 ++ [Hq c1])
  ·rcases zO hf0 with ⟨c2, hf0⟩ | ⟨c2, hf0⟩
   ·obtain rfl := zb hf0
    exact yE X0 hC hE (Z0 ++ [Hq c1, Hq c2])
   ·refine yJ X0 hC X7 [1,1,1] [] [] (fun z : Unit => YW = some r0) (fun z => QF) [(0, .d (eSl 1 false F3_ l_)), (1, .d (I inputs))] (Z0 ++ [Hq c1, Hq c2, Hh (.cut 0)]) ?_ fun J1 hJ1 => ?_
    ·rintro ⟨⟩ hf0
     unfold YW at hf0
     obtain rfl := zb hf0
     exact yE X0 hC hE []
    ·obtain ⟨t2, ht2, hf0⟩ := zg hf0
     refine yL X0 hC X7 [1,1,1,2,1,0] [J1] (fun s => uT l_ inputs s) (fun x => QE l_ inputs x) 0 ht2  [Ha (lnM F3_ l_)] ?_
     rintro x19 m2 lr1 hf1 hl1 J2 hJ2
     try unfold uT at hf1
     rcases zO hf1 with ⟨c3, hf1⟩ | ⟨c3, hf1⟩
     ·obtain ⟨l__e, h0, hf1⟩ := zg hf1
      obtain ⟨r_, h1, hf1⟩ := zg hf1
      let Z1 : List HO := [Hq c3, Hi F3_ h0, Hc h0r (x := (l__e, inputs)) h1 (loC F3_ l__e <| loC (eI .i64) inputs <| loN)]
      rcases zO hf1 with ⟨c4, hf1⟩ | ⟨c4, hf1⟩
      ·obtain rfl := zb hf1
       obtain rfl := hl1
       obtain rfl := zb hf0
       exact yE X0 hC hE (Z1 ++ [Hq c4])
      ·obtain rfl := zb hf1
       exact yB X0 hC hJ2 (w64 (x19 + 1)) hl1 (Z1 ++ [Hq c4])
     ·obtain rfl := zb hf1
      obtain rfl := hl1
      exact yB X0 hC hJ1 () hf0 [Hq c3]
def Xh : Code := (Tryz.f117.body).getD .skip
def vV : zS := spF (α := List (List Int)) (ρ := List (List Int)) 117 (fun x => [vL x]) (fun r => zaR r) (fun x => vu x) [] (WA)
theorem Xn {ctr : Ctr} (hC : zx Tryz.prog ctr) : vV.Ok Tryz.prog := by
 refine zB ?_
 rintro s_ r0 hf0
 try unfold vu at hf0
 refine yO true [(2, none)] Xh 8 Tryz.func117 fun E hE => ?_
 refine z6h rfl 0 (sz := 1) (t := false) (es := s_.map F3_) (by kernel_rfl) fun pv0 hv0 hn => ?_
 rcases hn with ⟨hn0, he0⟩ | hn0
 ·obtain ⟨_, hf0⟩ := gdE hf0
  rw [show s_ = [] from List.map_eq_nil_iff.1 he0] at hf0
  obtain rfl := zb hf0
  exact yEx ((zer zu 4 32 (by kernel_rfl) hn0).or ((xMv Tryz.prog 3 0 pv0 hv0).or X0)) hC hE [Hn (rfl : some pv0 = some pv0), Hn (⟨rfl, rfl⟩ : T.d (.atom pv0) = T.d (.atom pv0) ∧ T.d (.atom (.slice none 0 0)) = T.d (.atom (.slice none 0 0))), qT] (eOs 1 true F3_ []) (show LeV (eOs 1 true F3_ []) (eOs 1 false F3_ ([] : List (List Int))) from inferInstance)
 ·obtain ⟨g0, hf0⟩ := gdE hf0
  obtain rfl := zb hf0
  exact yE ((zer zu 4 32 (by kernel_rfl) hn0).or ((xMv Tryz.prog 3 0 pv0 hv0).or X0)) hC hE [Hn (rfl : some pv0 = some pv0), Hn (⟨rfl, rfl⟩ : T.d (.atom pv0) = T.d (.atom pv0) ∧ T.d (.atom (.slice none 0 0)) = T.d (.atom (.slice none 0 0))), qF, Hn (dM F3_ s_), Hn (aL F3_ F3_ g0), Hl (aM0 F3_ s_)]
def Jl : Code := (Tryz.f163.body).getD .skip
def Zm : zS := spF (α := Int) (ρ := Bool) 163 (fun x => [(eI .i64) x]) (fun r => eB r) (fun x => kc x) [] (WA)
theorem JL {ctr : Ctr} (hC : zx Tryz.prog ctr) : Zm.Ok Tryz.prog := by
 refine zB ?_
 rintro x_ r0 hf0
 try unfold kc at hf0
 refine yO true [(2, none)] Jl 6 Tryz.func163 fun E hE => ?_
 obtain rfl := zb hf0
 exact yE X0 hC hE []
def UQ : Code := (Tryz.f141.body).getD .skip
def uZ : zS := spF (α := Int × Int) (ρ := Int) 141 (fun x => [(eI .i64) x.1, (eI .i64) x.2]) (fun r => (eI .i64) r) (fun x => uf x.1 x.2) [] (Vt)
theorem Qd {ctr : Ctr} (hC : zx Tryz.prog ctr) (h0y : ctr.Has Zm) : uZ.Ok Tryz.prog := by
 refine zB ?_
 rintro ⟨x_, y_⟩ r0 hf0
 try unfold uf at hf0
 refine yO true [(4, none)] UQ 20 Tryz.func141 fun E hE => ?_
 obtain ⟨r_, h0, hf0⟩ := zg hf0
 obtain ⟨r_1, h1, hf0⟩ := zg hf0
 let Z0 : List HO := [Hc h0y (x := x_) h0 (loC (eI .i64) x_ <| loN), Hc h0y (x := y_) h1 (loC (eI .i64) y_ <| loN)]
 rcases zO hf0 with ⟨c0, hf0⟩ | ⟨c0, hf0⟩
 ·rcases zO hf0 with ⟨c1, hf0⟩ | ⟨c1, hf0⟩
  ·obtain rfl := zb hf0
   exact yE X0 hC hE (Z0 ++ [Hq c0, Hq c1])
  ·obtain rfl := zb hf0
   exact yE X0 hC hE (Z0 ++ [Hq c0, Hq c1])
 ·rcases zO hf0 with ⟨c2, hf0⟩ | ⟨c2, hf0⟩
  ·obtain rfl := zb hf0
   exact yE X0 hC hE (Z0 ++ [Hq c0, Hq c2])
  ·rcases zO hf0 with ⟨c3, hf0⟩ | ⟨c3, hf0⟩
   ·obtain rfl := zb hf0
    exact yE X0 hC hE (Z0 ++ [Hq c0, Hq c2, Hq c3])
   ·rcases zO hf0 with ⟨c4, hf0⟩ | ⟨c4, hf0⟩
    ·obtain rfl := zb hf0
     exact yE X0 hC hE (Z0 ++ [Hq c0, Hq c2, Hq c3, Hq c4])
    ·obtain rfl := zb hf0
     exact yE X0 hC hE (Z0 ++ [Hq c0, Hq c2, Hq c3, Hq c4])
def vK : Code := (Tryz.f142.body).getD .skip
def vH : zS := spF (α := List Int × List Int) (ρ := Int) 142 (fun x => [F3_ x.1, F3_ x.2]) (fun r => (eI .i64) r) (fun x => xT x.1 x.2) [] (Vt)
abbrev ZJ (s1 : List Int) (s2 : List Int) : List (Nat × T) := [(0, .d (eSl 1 false (eI .i64) s1)), (1, .d (eSl 1 false (eI .i64) s2))]
abbrev ZI (s1 : List Int) (s2 : List Int) (x11 : Int) : List (Nat × T) := [(0, .d (eSl 1 false (eI .i64) s1)), (1, .d (eSl 1 false (eI .i64) s2)), (9, .d (eSl 1 false (eI .i64) s1)), (10, .d (I ((s1.length : Nat) : Int))), (11, .d (I x11))]
theorem Xa {ctr : Ctr} (hC : zx Tryz.prog ctr) (h0s : ctr.Has uZ) : vH.Ok Tryz.prog := by
 refine zB ?_
 rintro ⟨s1, s2⟩ r0 hf0
 try unfold xT at hf0
 refine yO true [(4, none)] vK 36 Tryz.func142 fun E hE => ?_
 refine yJ X0 hC vK [1] [] [0,1] (fun z : Unit => w8 s1 s2 = some r0) (fun z => ZJ s1 s2) [(0, .d (eSl 1 false (eI .i64) s1)), (1, .d (eSl 1 false (eI .i64) s2))] [Hh (.cut 1)] ?_ fun J1 hJ1 => ?_
 ·rintro ⟨⟩ hf0
  unfold w8 at hf0
  let Z0 : List HO := [Ha (lnM (eI .i64) s1), Ha (lnM (eI .i64) s2)]
  rcases zO hf0 with ⟨c0, hf0⟩ | ⟨c0, hf0⟩
  ·obtain rfl := zb hf0
   exact yE X0 hC hE (Z0 ++ [Hq c0])
  ·obtain rfl := zb hf0
   exact yE X0 hC hE (Z0 ++ [Hq c0])
 ·obtain ⟨t2, ht2, hf0⟩ := zg hf0
  refine yL X0 hC vK [1,2,1,0] [J1] (fun s => yl s1 s2 s) (fun x => ZI s1 s2 x) 0 ht2  [Ha (lnM (eI .i64) s1)] ?_
  rintro x11 m2 lr1 hf1 hl1 J2 hJ2
  try unfold yl at hf1
  rcases zO hf1 with ⟨c1, hf1⟩ | ⟨c1, hf1⟩
  ·obtain ⟨s_e, h0, hf1⟩ := zg hf1
   let Z1 : List HO := [Hq c1, Hi (eI .i64) h0, Ha (lnM (eI .i64) s2)]
   rcases zO hf1 with ⟨c2, hf1⟩ | ⟨c2, hf1⟩
   ·obtain rfl := zb hf1
    obtain rfl := hl1
    obtain rfl := zb hf0
    exact yE X0 hC hE (Z1 ++ [Hq c2])
   ·obtain ⟨s_e1, h1, hf1⟩ := zg hf1
    obtain ⟨r_, h2, hf1⟩ := zg hf1
    let Z2 : List HO := (Z1 ++ [Hq c2, Hi (eI .i64) h1, Hc h0s (x := (s_e, s_e1)) h2 (loC (eI .i64) s_e <| loC (eI .i64) s_e1 <| loN)])
    rcases zO hf1 with ⟨c3, hf1⟩ | ⟨c3, hf1⟩
    ·obtain rfl := zb hf1
     obtain rfl := hl1
     obtain rfl := zb hf0
     exact yE X0 hC hE (Z2 ++ [Hq c3])
    ·obtain rfl := zb hf1
     exact yB X0 hC hJ2 (w64 (x11 + 1)) hl1 (Z2 ++ [Hq c3])
  ·obtain rfl := zb hf1
   obtain rfl := hl1
   exact yB X0 hC hJ1 () hf0 [Hq c1]
def XL : Code := (Tryz.f140.body).getD .skip
def Xt : zS := spF (α := List Int) (ρ := Int) 140 (fun x => [F3_ x]) (fun r => (eI .i64) r) (fun x => Xg x) [] (WA)
abbrev Jp : List (Nat × T) := [(3, .d (I 0))]
abbrev Jo (vals : List Int) (x8 : Int) : List (Nat × T) := [(3, .d (I 0)), (6, .d (eSl 1 false (eI .i64) vals)), (7, .d (I ((vals.length : Nat) : Int))), (8, .d (I x8))]
theorem z1z {ctr : Ctr} (hC : zx Tryz.prog ctr) : Xt.Ok Tryz.prog := by
 refine zB ?_
 rintro vals r0 hf0
 try unfold Xg at hf0
 refine yO true [(2, none)] XL 18 Tryz.func140 fun E hE => ?_
 refine yJ X0 hC XL [1,1] [] [3] (fun z : Unit => ZB = some r0) (fun z => Jp) [(0, .d (eSl 1 false (eI .i64) vals)), (3, .d (I 0))] [Hh (.cut 2)] ?_ fun J1 hJ1 => ?_
 ·rintro ⟨⟩ hf0
  unfold ZB at hf0
  obtain rfl := zb hf0
  exact yE X0 hC hE []
 ·obtain ⟨t2, ht2, hf0⟩ := zg hf0
  refine yL X0 hC XL [1,1,2,1,0] [J1] (fun s => j8 vals s) (fun x => Jo vals x) 0 ht2  [Ha (lnM (eI .i64) vals)] ?_
  rintro x8 m2 lr1 hf1 hl1 J2 hJ2
  try unfold j8 at hf1
  rcases zO hf1 with ⟨c0, hf1⟩ | ⟨c0, hf1⟩
  ·obtain ⟨val_e, h0, hf1⟩ := zg hf1
   rcases zO hf1 with ⟨c1, hf1⟩ | ⟨c1, hf1⟩
   ·obtain rfl := zb hf1
    obtain rfl := hl1
    obtain rfl := zb hf0
    exact yE X0 hC hE [Hq c0, Hi (eI .i64) h0, Hq c1]
   ·obtain rfl := zb hf1
    exact yB X0 hC hJ2 (w64 (x8 + 1)) hl1 [Hq c0, Hi (eI .i64) h0, Hq c1]
  ·obtain rfl := zb hf1
   obtain rfl := hl1
   exact yB X0 hC hJ1 () hf0 [Hq c0]
def Jg : Code := (Tryz.f119.body).getD .skip
def uH : zS := spF (α := List Int × List Int) (ρ := Int) 119 (fun x => [F3_ x.1, F3_ x.2]) (fun r => (eI .i64) r) (fun x => xw x.1 x.2) [] (Vt)
theorem JE {ctr : Ctr} (hC : zx Tryz.prog ctr) (h0s : ctr.Has uZ) (h0Y : ctr.Has vH) (h0z : ctr.Has Xt) : uH.Ok Tryz.prog := by
 refine zB ?_
 rintro ⟨a_, b_⟩ r0 hf0
 try unfold xw at hf0
 refine yO true [(4, none)] Jg 15 Tryz.func119 fun E hE => ?_
 obtain ⟨r_, h0, hf0⟩ := zg hf0
 obtain ⟨r_1, h1, hf0⟩ := zg hf0
 obtain ⟨r_2, h2, hf0⟩ := zg hf0
 obtain rfl := zb hf0
 exact yE X0 hC hE [Ha (lnM (eI .i64) a_), Ha (lnM (eI .i64) b_), Hc h0s (x := (((a_.length : Nat) : Int), ((b_.length : Nat) : Int))) h0 (loC (eI .i64) ((a_.length : Nat) : Int) <| loC (eI .i64) ((b_.length : Nat) : Int) <| loN), Hc h0Y (x := (a_, b_)) h1 (loC F3_ a_ <| loC F3_ b_ <| loN), Hg (Jx h0z), Hm (shM (eI .i64) (eI .i64) ([r_, r_1])), Hs (Jy h0z (x := [r_, r_1]) h2 (loC F2_ ([r_, r_1] : List Int) <| loN))]
def Qw : Code := (Tryz.f121.body).getD .skip
def kx : zS := spF (α := List Int × List Int) (ρ := Bool) 121 (fun x => [F3_ x.1, F3_ x.2]) (fun r => eB r) (fun x => uS x.1 x.2) [] (Vt)
theorem QY {ctr : Ctr} (hC : zx Tryz.prog ctr) (h0f : ctr.Has uH) : kx.Ok Tryz.prog := by
 refine zB ?_
 rintro ⟨a_, b_⟩ r0 hf0
 try unfold uS at hf0
 refine yO true [(4, none)] Qw 9 Tryz.func121 fun E hE => ?_
 obtain ⟨r_, h0, hf0⟩ := zg hf0
 obtain rfl := zb hf0
 exact yE X0 hC hE [Hc h0f (x := (a_, b_)) h0 (loC F3_ a_ <| loC F3_ b_ <| loN)]
def zM : Code := (Tryz.f120.body).getD .skip
def wf : zS := spF (α := List (List Int) × Unit) (ρ := List (List Int)) 120 (fun x => [zaR x.1, (z35 121) x.2]) (fun r => zaR r) (fun x => yI x.1 x.2) [true, false] (by
 rintro ⟨a0, a1⟩ ⟨b0, b1⟩ h
 have e0 := Zt.inj (f := zaR) _ _ (List.cons.inj h).1
 replace h := (List.cons.inj h).2
 have e1 := Zt.inj (f := (z35 121)) _ _ (List.cons.inj h).1
 subst e0 e1
 rfl)
abbrev ko (s_ : List (List Int)) : List (Nat × T) := [(0, .own (eOs 1 false F3_ s_))]
abbrev kn (s_ : List (List Int)) (k_ : Int) : List (Nat × T) := [(0, .own (eOs 1 false F3_ s_)), (1, .d (.fn 121 [])), (5, .d (I k_))]
abbrev km (s_1 : List (List Int)) (k_1 : Int) : List (Nat × T) := [(0, .own (eOs 1 false F3_ s_1)), (5, .d (I k_1))]
abbrev kl (pv0 : Value) (k_ : Int) (k2 : Int) (s_3 : List (List Int)) (k_3 : Int) : List (Nat × T) := [(0, .own (eOs 1 false F3_ s_3)), (1, .d (.fn 121 [])), (5, .d (I k_3)), (6, .d (.atom (X5 1 pv0 k_))), (7, .d (I k2))]
abbrev ki (pv0 : Value) (k_ : Int) (s_2 : List (List Int)) (k_2 : Int) (k2 : Int) : List (Nat × T) := [(0, .own (eOs 1 false F3_ s_2)), (1, .d (.fn 121 [])), (5, .d (I k_2)), (6, .d (.atom (X5 1 pv0 k_))), (7, .d (I k2))]
abbrev kj (s_ : List (List Int)) (k_ : Int) : List (Nat × T) := [(0, .own (eOs 1 false F3_ s_)), (1, .d (.fn 121 [])), (5, .d (I k_))]
def zk : XH Tryz.prog := ((zgS zu 64).or X0)
theorem Zg {ctr : Ctr} (hC : zx Tryz.prog ctr) (h0A : ctr.Has kx) : wf.Ok Tryz.prog := by
 refine zB ?_
 rintro ⟨s_, eq⟩ r0 hf0
 try unfold yI at hf0
 refine yO true [(4, none)] zM 66 Tryz.func120 fun E hE => ?_
 refine z6i (y := eOs 1 false F3_ s_) rfl 0 (by kernel_rfl) (by kernel_rfl) fun pv0 hv0 => ?_
 let Z0 : List HO := [Ha (lnM F3_ s_)]
 rcases zO hf0 with ⟨c0, hf0⟩ | ⟨c0, hf0⟩
 ·obtain rfl := zb hf0
  exact yE zk hC hE (Z0 ++ [Hq c0])
 ·refine yJ zk hC zM [1,1] [] [0] (fun z : Unit => wi s_ = some r0) (fun z => ko s_) [(0, .own (eOs 1 false F3_ s_)), (1, .d (.fn 121 []))] (Z0 ++ [Hq c0, Hh (.cut 0)]) ?_ fun J1 hJ1 => ?_
  ·rintro ⟨⟩ hf0
   unfold wi at hf0
   obtain rfl := zb hf0
   exact yE zk hC hE []
  ·obtain ⟨t2, ht2, hf0⟩ := zg hf0
   refine yL zk hC zM [1,1,2,1,0] [J1] (fun s => yf s_ s) (fun x => kj s_ x) 1 ht2  [] ?_
   rintro k_ m2 lr1 hf1 hl1 J2 hJ2
   try unfold yf at hf1
   let Z1 : List HO := [Ha (lnM F3_ s_)]
   rcases zO hf1 with ⟨c1, hf1⟩ | ⟨c1, hf1⟩
   ·refine yJ zk hC zM [1,1,2,1,0,0,1] [J1, J2] [0,1,5] (fun z : Unit => xh k_ = some lr1) (fun z => kn s_ k_) [(0, .own (eOs 1 false F3_ s_)), (1, .d (.fn 121 [])), (5, .d (I k_))] (Z1 ++ [Hq c1, Hh (.cut 0)]) ?_ fun J3 hJ3 => ?_
    ·rintro ⟨⟩ hf1
     unfold xh at hf1
     obtain rfl := zb hf1
     exact yB zk hC hJ2 (w64 (k_ + 1)) hl1 []
    ·obtain ⟨s__e, h0, hf1⟩ := zg hf1
     obtain ⟨s__e1, h1, hf1⟩ := zg hf1
     obtain ⟨r_, h2, hf1⟩ := zg hf1
     let Z2 : List HO := [Hn (iL F3_ h0), Hs (iM F3_ h0), Hn (iL F3_ h1), Hs (iM F3_ h1), Hc h0A (x := (s__e, s__e1)) h2 (loC F3_ s__e <| loC F3_ s__e1 <| loN)]
     rcases zO hf1 with ⟨c2, hf1⟩ | ⟨c2, hf1⟩
     ·obtain ⟨g0, hf1⟩ := gdE hf1
      refine yJ ((xAs Tryz.prog 6 (X5 1 pv0 k_)).or ((xVw zu 31 0 pv0).or zk)) hC zM [1,1,2,1,0,0,1,2,0,1,0,1] [J1, J2, J3] [0,5] (fun z : List (List Int) × Int => zV z.1 z.2 = some lr1) (fun z => km z.1 z.2) [(0, .own (eOs 1 false F3_ s_)), (1, .d (.fn 121 [])), (5, .d (I k_)), (6, .d (.atom (X5 1 pv0 k_)))] (Z2 ++ [Hq c2, Hn (⟨.inl rfl, rfl⟩ : (T.als 0 [] 0 0 = T.als 0 [] 0 0 ∨ T.als 0 [] 0 0 = T.d (.atom pv0)) ∧ some pv0 = some pv0), Hn (⟨g0.1, cuB F3_ g0⟩ : (0 : Int) ≤ k_ ∧ k_.toNat ≤ (s_.map F3_).length), Hn (rfl : T.d (.atom (X5 1 pv0 k_)) = T.d (.atom (X5 1 pv0 k_))), Hh (.cut 1)]) ?_ fun J4 hJ4 => ?_
      ·rintro ⟨s_1, k_1⟩ hf1
       unfold zV at hf1
       obtain ⟨g1, hf1⟩ := gdE hf1
       obtain ⟨g2, hf1⟩ := gdE hf1
       obtain ⟨g3, hf1⟩ := gdE hf1
       obtain rfl := zb hf1
       obtain rfl := hl1
       obtain rfl := zb hf0
       exact yE ((xVc zu 61 1 0 pv0 k_1).or ((xVw zu 61 0 pv0).or zk)) hC hE [Hn (⟨.inl rfl, rfl⟩ : (T.als 0 [] 0 0 = T.als 0 [] 0 0 ∨ T.als 0 [] 0 0 = T.d (.atom pv0)) ∧ some pv0 = some pv0), Hn (⟨g1.1, cuB F3_ g1⟩ : (0 : Int) ≤ k_1 ∧ k_1.toNat ≤ (s_1.map F3_).length), Hn (⟨rfl, rfl⟩ : T.d (.atom (X5 1 pv0 k_1)) = T.d (.atom (X5 1 pv0 k_1)) ∧ some pv0 = some pv0), Hn (⟨g2.1, cuB F3_ g2, dM F3_ s_1⟩ : (0 : Int) ≤ k_1 ∧ k_1.toNat ≤ (s_1.map F3_).length ∧ A.areD (s_1.map F3_) = true), Hx (.l ((s_1.take k_1.toNat ++ List.replicate (s_1.length - k_1.toNat) []).map F3_)) (vcM F3_ s_1 k_1.toNat ([] : List Int)), Hn g3.1, Hn (cuB F3_ g3), Hl (cuM F3_ (s_1.take k_1.toNat ++ List.replicate (s_1.length - k_1.toNat) []) k_1)]
      ·obtain ⟨t5, ht5, hf1⟩ := zg hf1
       refine yL zk hC zM [1,1,2,1,0,0,1,2,0,1,0,1,2,1,0] [J1, J2, J3, J4] (fun s => zT k_ s.1 s.2.1 s.2.2) (fun x => ki pv0 k_ x.1 x.2.1 x.2.2) (s_, k_, 1) ht5  [] ?_
       rintro ⟨s_2, k_2, k2⟩ m5 lr2 hf2 hl2 J5 hJ5
       try unfold zT at hf2
       let Z3 : List HO := [Hn (⟨rfl, rfl⟩ : T.d (.atom (X5 1 pv0 k_)) = T.d (.atom (X5 1 pv0 k_)) ∧ some pv0 = some pv0), Hx (.a (.atom (.int .i64 ((s_2.length - k_.toNat : Nat) : Int)))) (vlM F3_ s_2 k_.toNat)]
       rcases zO hf2 with ⟨c3, hf2⟩ | ⟨c3, hf2⟩
       ·refine yJ ((xVl zu 34 32 1 0 pv0 k_ (by kernel_rfl)).or zk) hC zM [1,1,2,1,0,0,1,2,0,1,0,1,2,1,0,0,1] [J1, J2, J3, J4, J5] [0,1,5,6,7] (fun z : List (List Int) × Int => zU k2 z.1 z.2 = some lr2) (fun z => kl pv0 k_ k2 z.1 z.2) [(0, .own (eOs 1 false F3_ s_2)), (1, .d (.fn 121 [])), (5, .d (I k_2)), (6, .d (.atom (X5 1 pv0 k_))), (7, .d (I k2))] (Z3 ++ [Hq c3, Hh (.cut 0)]) ?_ fun J6 hJ6 => ?_
        ·rintro ⟨s_3, k_3⟩ hf2
         unfold zU at hf2
         obtain rfl := zb hf2
         exact yB zk hC hJ5 (s_3, k_3, w64 (k2 + 1)) hl2 []
        ·obtain ⟨g4, hf2⟩ := gdE hf2
         obtain ⟨s__e2, h3, hf2⟩ := zg hf2
         obtain ⟨g5, hf2⟩ := gdE hf2
         obtain ⟨s__e3, h4, hf2⟩ := zg hf2
         obtain ⟨r_1, h5, hf2⟩ := zg hf2
         let Z4 : List HO := [Hn (⟨rfl, rfl⟩ : T.d (.atom (X5 1 pv0 k_)) = T.d (.atom (X5 1 pv0 k_)) ∧ some pv0 = some pv0), Hn (⟨g4.1, g4.2, (iL F3_ h3).2⟩ : (0 : Int) ≤ k_ ∧ (0 : Int) ≤ k2 ∧ (k_ + k2).toNat < (s_2.map F3_).length), Hs (iM F3_ h3), Hn (⟨rfl, rfl⟩ : T.d (.atom (X5 1 pv0 k_)) = T.d (.atom (X5 1 pv0 k_)) ∧ some pv0 = some pv0), Hn (⟨g5.1, g5.2, (iL F3_ h4).2⟩ : (0 : Int) ≤ k_ ∧ (0 : Int) ≤ w64 (k2 - 1) ∧ (k_ + (w64 (k2 - 1))).toNat < (s_2.map F3_).length), Hs (iM F3_ h4), Hc h0A (x := (s__e2, s__e3)) h5 (loC F3_ s__e2 <| loC F3_ s__e3 <| loN)]
         rcases zO hf2 with ⟨c4, hf2⟩ | ⟨c4, hf2⟩
         ·obtain ⟨g6, hf2⟩ := gdE hf2
          obtain ⟨s__e4, h6, hf2⟩ := zg hf2
          obtain ⟨s__e5, h7, hf2⟩ := zg hf2
          exact yB ((xVi zu 54 1 0 pv0 k_).or ((xVi zu 46 1 0 pv0 k_).or ((xVi zu 41 1 0 pv0 k_).or zk))) hC hJ6 ((s_2.set k_2.toNat s__e4), w64 (k_2 + 1)) hf2 (Z4 ++ [Hq c4, Hn (⟨rfl, rfl⟩ : T.d (.atom (X5 1 pv0 k_)) = T.d (.atom (X5 1 pv0 k_)) ∧ some pv0 = some pv0), Hn (⟨g6.1, g6.2, (iL F3_ h6).2⟩ : (0 : Int) ≤ k_ ∧ (0 : Int) ≤ k2 ∧ (k_ + k2).toNat < (s_2.map F3_).length), Hs (iM F3_ h6), Hn (iL F3_ h7), Hs (iM F3_ h7), Hs (iM F3_ h7), Hl (sM F3_ s_2 k_2 s__e4)])
         ·exact yB ((xVi zu 46 1 0 pv0 k_).or ((xVi zu 41 1 0 pv0 k_).or zk)) hC hJ6 (s_2, k_2) hf2 (Z4 ++ [Hq c4])
       ·obtain rfl := zb hf2
        obtain rfl := hl2
        exact yB ((xVl zu 34 32 1 0 pv0 k_ (by kernel_rfl)).or zk) hC hJ4 (s_2, k_2) hf1 (Z3 ++ [Hq c3])
     ·exact yB zk hC hJ3 () hf1 (Z2 ++ [Hq c2])
   ·obtain rfl := zb hf1
    obtain rfl := hl1
    exact yB zk hC hJ1 () hf0 (Z1 ++ [Hq c1])
def YD : Code := (Tryz.f48.body).getD .skip
def yY : zS := spR (α := List (List Int)) (ρ := List (List Int)) 48 (fun x => [zaR x]) (fun r => (eOs 1 true F3_) r) (fun x => xK x) [true] (WA)
theorem Yz : ∀ x r, (fun x => xK x) x = some r → (Vu.add yY).run 48 ((Vu.add yY).norm 48 ((fun x => [zaR x]) x)) = some ((fun r => (eOs 1 true F3_) r) r) := fun x r h => zfc h rfl
theorem YB : (Vu.add yY).lend 48 = none ∧ (Vu.add yY).gives 48 = [true] := zat
theorem vE {ctr : Ctr} (hC : zx Tryz.prog ctr) : yY.Ok Tryz.prog := by
 refine z4V ?_
 rintro s_ r0 hf0
 try unfold xK at hf0
 refine yO true [(2, none)] YD 9 Tryz.func48 fun E hE => ?_
 obtain rfl := zb hf0
 exact yE ((xCl zu 8).or X0) hC hE [Ha (lnM F3_ s_), Ha (lnM F3_ s_), Hn (Int.natCast_nonneg _ : (0 : Int) ≤ ((s_.length : Nat) : Int)), Hn (Int.natCast_nonneg _ : (0 : Int) ≤ ((s_.length : Nat) : Int)), Hn (clB F3_ s_), Ha (clE 1 F3_ s_)]
def X6 : Code := (Tryz.f111.body).getD .skip
def kK : zS := spF (α := List (List Int)) (ρ := Int) 111 (fun x => [vL x]) (fun r => (eI .i64) r) (fun x => kr x) [] (WA)
abbrev QD (n_ : Int) : List (Nat × T) := [(2, .d (I n_))]
abbrev QC (l_ : List (List Int)) (n_1 : Int) (x7 : Int) : List (Nat × T) := [(2, .d (I n_1)), (5, .d (eSl 1 false F3_ l_)), (6, .d (I ((l_.length : Nat) : Int))), (7, .d (I x7))]
theorem z0D {ctr : Ctr} (hC : zx Tryz.prog ctr) : kK.Ok Tryz.prog := by
 refine zB ?_
 rintro l_ r0 hf0
 try unfold kr at hf0
 refine yO true [(2, none)] X6 17 Tryz.func111 fun E hE => ?_
 refine yJ X0 hC X6 [1] [] [2] (fun z : Int => YV z = some r0) (fun z => QD z) [(0, .d (eSl 1 false F3_ l_)), (2, .d (I 0))] [Hh (.cut 1)] ?_ fun J1 hJ1 => ?_
 ·rintro n_ hf0
  unfold YV at hf0
  obtain rfl := zb hf0
  exact yE X0 hC hE []
 ·obtain ⟨t2, ht2, hf0⟩ := zg hf0
  refine yL X0 hC X6 [1,2,1,0] [J1] (fun s => uR l_ s.1 s.2) (fun x => QC l_ x.1 x.2) (0,0) ht2  [Ha (lnM F3_ l_)] ?_
  rintro ⟨n_1, x7⟩ m2 lr1 hf1 hl1 J2 hJ2
  try unfold uR at hf1
  rcases zO hf1 with ⟨c0, hf1⟩ | ⟨c0, hf1⟩
  ·obtain ⟨l__e, h0, hf1⟩ := zg hf1
   obtain rfl := zb hf1
   exact yB X0 hC hJ2 (w64 (n_1 + ((l__e.length : Nat) : Int)), w64 (x7 + 1)) hl1 [Hq c0, Hi F3_ h0, Ha (lnM (eI .i64) l__e)]
  ·obtain rfl := zb hf1
   obtain rfl := hl1
   exact yB X0 hC hJ1 n_1 hf0 [Hq c0]
def v7 : Code := (Tryz.f90.body).getD .skip
def ZR : zS := spF (α := List (List Int)) (ρ := List (List Int) × Int) 90 (fun x => [vL x]) (fun r => .tup [F7_ r.1, (eI .i64) r.2]) (fun x => kQ x) [] (WA)
abbrev UT (out : List (List Int × Bool)) : List (Nat × T) := [(4, .own (eOs 1 true (eFl 1 (eI .i64)) out))]
abbrev US (pv4 : Value) (r_2 : List (List Int)) (out2 : List (List Int × Bool)) (x24 : Int) : List (Nat × T) := [(4, .own (eOs 1 true (eFl 1 (eI .i64)) out2)), (22, .d (.atom (X5 1 pv4 (0 : Int)))), (23, .d (I ((r_2.length - (0 : Int).toNat : Nat) : Int))), (24, .d (I x24))]
theorem KK {ctr : Ctr} (hC : zx Tryz.prog ctr) (h0Z : ctr.Has vV) (h0f : ctr.Has uH) (h1a : ctr.Has wf) (h0k : ctr.Has kK) (h0q : ctr.Has wG) (h01 : ctr.Has yn) : ZR.Ok Tryz.prog := by
 refine zB ?_
 rintro l_ r0 hf0
 try unfold kQ at hf0
 refine yO false [(2, none), (3, none)] v7 37 Tryz.func90 fun E hE => ?_
 obtain ⟨r_, h0, hf0⟩ := zg hf0
 refine yA X0 hC v7 [1,1] [] [(4, .own (eOs 1 false F3_ r_))] [Hc h0Z (x := l_) h0 (loC vL l_ <| loN), Hh (.cut 0)] ?_
 obtain ⟨sorted, h1, hf0⟩ := zg hf0
 refine z6g (by kernel_rfl) (x := (sub [1,1,0] v7)) (y := (sub [1,1,1] v7)) 4 (fun st1 => Own.canon [4] st1 = ofL [(4, .own (eOs 1 false F3_ sorted))]) (fun pv4 => yF ((uV (P := Tryz.prog) yD [4] (z4X zbK (f := F3_) (t := false) (v := pv4) (fun _ => rfl) (fun _ => rfl) (fun x y c h => yN hC h0f (x := (x, y)) h) h1) 10).or X0) hC .normal [(4, .own (eOs 1 false F3_ sorted))] [Hn (Zh (f := .fn 118 []) (xs := [.atom pv4, .fn 119 []]) (ls := [(pv4, eOs 1 false F3_ r_)]) (r := .tup []) (ys := [eOs 1 false F3_ sorted]) [.atom pv4, .fn 119 []] (show Q4 [.atom pv4, .fn 119 []] [.atom pv4, .fn 119 []] from inferInstance))] fun st0 h0 => ⟨rfl, h0⟩) fun st1 h1 => z1l h1 ?_
 obtain ⟨r_1, h2, hf0⟩ := zg hf0
 obtain ⟨r_2, h3, hf0⟩ := zg hf0
 let Z0 : List HO := [Hc h1a (x := (sorted, ())) h2 (loC zaR sorted <| loC (z35 121) () <| loN), Hh (.g [true]), Hn YB, Hx (.a ((eOs 1 true F3_) r_2)) (Yz r_1 _ h3), Ha (lnM F3_ r_2)]
 rcases zO hf0 with ⟨c0, hf0⟩ | ⟨c0, hf0⟩
 ·obtain rfl := zb hf0
  exact yEx ((QX zu (vE hC) 13).or X0) hC hE (Z0 ++ (rpN 4 (Hq c0) [qT, Hm (shM F3_ F3_ [])])) (.tup [eSl 1 true F2_ [], I 3]) (show LeV (.tup [eSl 1 true F2_ [], I 3]) (.tup [eSl 1 true F2_ ([] : List (List Int)), I 3]) from inferInstance)
 ·obtain ⟨r_3, h4, hf0⟩ := zg hf0
  let Z1 : List HO := (Z0 ++ [Hq c0, Hq c0, Hg (Jx h0k), Hm (shM F3_ F3_ r_2), Hs (Jy h0k (x := r_2) h4 (loC F9_ r_2 <| loN)), Hq c0, Hq c0])
  rcases zO hf0 with ⟨c1, hf0⟩ | ⟨c1, hf0⟩
  ·obtain rfl := zb hf0
   exact yEx ((QX zu (vE hC) 13).or X0) hC hE (Z1 ++ [Hq c1, Hm (shM F3_ F3_ [])]) (.tup [eSl 1 true F2_ [], I 3]) (show LeV (.tup [eSl 1 true F2_ [], I 3]) (.tup [eSl 1 true F2_ ([] : List (List Int)), I 3]) from inferInstance)
  ·refine yA ((QX zu (vE hC) 13).or X0) hC v7 [1,1,1,1,1] [] [(4, .own (eOs 1 true F3_ r_2))] (Z1 ++ [Hq c1, Hh (.cut 0)]) ?_
   refine z6i (y := eOs 1 true F3_ r_2) (by kernel_rfl) 4 (by kernel_rfl) (by kernel_rfl) fun pv4 hv4 => ?_
   refine yJ X0 hC v7 [1,1,1,1,1] [] [4] (fun z : List (List Int × Bool) => jO z = some r0) (fun z => UT z) [(4, .own (eOs 1 true F3_ r_2))] [Hh (.cut 0)] ?_ fun J1 hJ1 => ?_
   ·rintro out hf0
    unfold jO at hf0
    obtain ⟨hfl0, hf0⟩ := gdE hf0
    obtain rfl := zb hf0
    exact yEx X0 hC hE [Hm (shM (eFl 1 (eI .i64)) (eFl 1 (eI .i64)) out)] (.tup [eSl 1 true (eFl 1 (eI .i64)) out, I 0]) (haveI := flA (s := 1) (t := 1) (b := true) (f := (eI .i64)) hfl0; show LeV (.tup [eSl 1 true (eFl 1 (eI .i64)) out, I 0]) (.tup [eSl 1 true F2_ (out.map (·.1)), I 0]) from inferInstance)
   ·obtain ⟨t2, ht2, hf0⟩ := zg hf0
    refine yLx ((xVl zu 23 32 1 4 pv4 (0 : Int) (by kernel_rfl)).or ((xMw Tryz.prog 22 4 1 pv4).or X0)) hC v7 [1,1,1,1,1,2,1,0] [J1] (fun s => wc r_2 s.1 s.2) (fun x => US pv4 r_2 x.1 x.2) ((r_2.map fun q => (q, false)), 0) ht2 [(4, .own (eOs 1 true F3_ r_2)), (22, .d (.atom (X5 1 pv4 (0 : Int)))), (23, .d (I ((r_2.length - (0 : Int).toNat : Nat) : Int))), (24, .d (I 0))] inferInstance [Hn (rfl : some pv4 = some pv4), Hn (⟨rfl, rfl⟩ : T.d (.atom (X5 1 pv4 (0 : Int))) = T.d (.atom (X5 1 pv4 (0 : Int))) ∧ some pv4 = some pv4), Hx (.a (.atom (.int .i64 ((r_2.length - (0 : Int).toNat : Nat) : Int)))) (vlM F3_ r_2 (0 : Int).toNat)] ?_
    rintro ⟨out2, x24⟩ m2 lr1 hf1 hl1 J2 hJ2
    try unfold wc at hf1
    rcases zO hf1 with ⟨c2, hf1⟩ | ⟨c2, hf1⟩
    ·obtain ⟨g0, hf1⟩ := gdE hf1
     obtain ⟨out_e, h5, hf1⟩ := zg hf1
     obtain ⟨r_4, h6, hf1⟩ := zg hf1
     obtain ⟨r_5, h7, hf1⟩ := zg hf1
     obtain ⟨out_e1, h8, hf1⟩ := zg hf1
     obtain rfl := zb hf1
     exact yB ((xVi zu 27 1 4 pv4 (0 : Int)).or X0) hC hJ2 ((out2.set x24.toNat (r_5, true)), w64 (x24 + 1)) hl1 [Hq c2, Hn (⟨rfl, rfl⟩ : T.d (.atom (X5 1 pv4 (0 : Int))) = T.d (.atom (X5 1 pv4 (0 : Int))) ∧ some pv4 = some pv4), Hn (⟨g0.1, g0.2, (iL (eFl 1 (eI .i64)) h5).2⟩ : (0 : Int) ≤ 0 ∧ (0 : Int) ≤ x24 ∧ (0 + x24).toNat < (out2.map (eFl 1 (eI .i64))).length), Hs (iM (eFl 1 (eI .i64)) h5), Hc h0q (x := out_e.1) h6 (loC (eSl 1 out_e.2 (eI .i64)) out_e.1 <| loN), Hg (Jx h01), Hm (shM (eI .i64) (eI .i64) r_4), Hs (Jy h01 (x := r_4) h7 (loC F3_ r_4 <| loN)), Hm (shM (eI .i64) (eI .i64) r_4), Hn (iL (eFl 1 (eI .i64)) h8), Hs (iM (eFl 1 (eI .i64)) h8), Hs (iM (eFl 1 (eI .i64)) h8), Hl (sM (eFl 1 (eI .i64)) out2 x24 (r_5, true))]
    ·obtain rfl := zb hf1
     obtain rfl := hl1
     exact yB X0 hC hJ1 out2 hf0 [Hq c2]
def z1g : Code := (Tryz.f73.body).getD .skip
def jP : zS := spF (α := List (List Int) × Int) (ρ := List (List Int) × Int) 73 (fun x => [vL x.1, (eI .i64) x.2]) (fun r => .tup [F7_ r.1, (eI .i64) r.2]) (fun x => ZL x.1 x.2) [] (Vt)
theorem z1t {ctr : Ctr} (hC : zx Tryz.prog ctr) (h0t : ctr.Has kL) (h1b : ctr.Has ZR) : jP.Ok Tryz.prog := by
 refine zB ?_
 rintro ⟨l_, inputs⟩ r0 hf0
 try unfold ZL at hf0
 refine yO false [(4, none), (5, none)] z1g 17 Tryz.func73 fun E hE => ?_
 obtain ⟨r_, h0, hf0⟩ := zg hf0
 let Z0 : List HO := [Hc h0t (x := (l_, inputs)) h0 (loC vL l_ <| loC (eI .i64) inputs <| loN)]
 rcases zO hf0 with ⟨c0, hf0⟩ | ⟨c0, hf0⟩
 ·obtain rfl := zb hf0
  exact yEx X0 hC hE (Z0 ++ [Hq c0, Hm (shM F3_ F3_ [])]) (.tup [eSl 1 true F2_ [], I r_]) (show LeV (.tup [eSl 1 true F2_ [], I r_]) (.tup [eSl 1 true F2_ ([] : List (List Int)), I r_]) from inferInstance)
 ·obtain ⟨r_1, h1, hf0⟩ := zg hf0
  obtain rfl := zb hf0
  exact yE X0 hC hE (Z0 ++ [Hq c0, Hc h1b (x := l_) h1 (loC vL l_ <| loN)])
def ug : Code := (Tryz.f37.body).getD .skip
def ZY : zS := spF (α := z6 × Unit) (ρ := List (List Int) × Int) 37 (fun x => [yq x.1, (z35 38) x.2]) (fun r => .tup [F7_ r.1, (eI .i64) r.2]) (fun x => kU x.1 x.2) [] (by
 rintro ⟨a0, a1⟩ ⟨b0, b1⟩ h
 have e0 := Zt.inj (f := yq) _ _ (List.cons.inj h).1
 replace h := (List.cons.inj h).2
 have e1 := Zt.inj (f := (z35 38)) _ _ (List.cons.inj h).1
 subst e0 e1
 rfl)
abbrev Q0 (m_ : z6) (x5 : Int) (out : List (List Int)) : List (Nat × T) := [(2, .own (.box (yq m_))), (4, .own (.box (eOs 1 true F3_ []))), (5, .own (.box (I x5))), (6, .own (.box (eOs 1 false F2_ out)))]
abbrev vD (m_ : z6) (r_1 : Int) (x51 : Int) (out1 : List (List Int)) : List (Nat × T) := [(2, .own (.box (yq m_))), (3, .own (.box (.fn 38 []))), (4, .own (.box (eOs 1 true F3_ []))), (5, .own (.box (I x51))), (6, .own (.box (eOs 1 false F2_ out1))), (15, .d (.fn 80 [.sptr (I r_1)]))]
theorem KR {ctr : Ctr} (hC : zx Tryz.prog ctr) (h05 : ctr.Has wV) (h1d : ctr.Has Y0) (h0g : ctr.Has vp) (h08 : ctr.Has jP) : ZY.Ok Tryz.prog := by
 refine zB ?_
 rintro ⟨m_, is⟩ r0 hf0
 try unfold kU at hf0
 refine yO false [(4, some 32), (5, some 33)] ug 44 Tryz.func37 fun E hE => ?_
 refine yJ X0 hC ug [1,1] [] [2,4,5,6] (fun z : Int × List (List Int) => k7 m_ z.1 z.2 = some r0) (fun z => Q0 m_ z.1 z.2) [(2, .own (.box (yq m_))), (3, .own (.box (.fn 38 []))), (4, .own (.box (eOs 1 true F3_ []))), (5, .own (.box (I 0))), (6, .own (.box (eOs 1 true F3_ [])))] [Hh (.cut 2)] ?_ fun J1 hJ1 => ?_
 ·rintro ⟨x5, out⟩ hf0
  unfold k7 at hf0
  obtain ⟨r_, h0, hf0⟩ := zg hf0
  obtain rfl := zb hf0
  exact yE X0 hC hE [Hg (Jx h08), Hm (shM F2_ F2_ out), Hs (Jy h08 (x := (out, m_.Inputs)) h0 (loC (eSl 1 false F2_) out <| loC (eI .i64) m_.Inputs <| loN)), Hm (shM F2_ F2_ out)]
 ·obtain ⟨r_1, h1, hf0⟩ := zg hf0
  obtain ⟨t2, ht2, hf0⟩ := zg hf0
  refine yAt X0 hC (sub [1,1,2,1,0] ug) (frs [1,1,2,1,0] [J1] ug []) [(2, .own (.box (yq m_))), (3, .own (.box (.fn 38 []))), (4, .own (.box (eOs 1 true F3_ []))), (5, .own (.box (I 0))), (6, .own (.box (eOs 1 true F2_ []))), (15, .d (.fn 80 [.sptr (I r_1)]))] [Ha (lnM uE m_.Rows), Hc h05 (x := ((m_.Rows.length : Nat) : Int)) h1 (loC (eI .i64) ((m_.Rows.length : Nat) : Int) <| loN)] fun st0 h0 => ?_
  refine VX (g := .tmp 15) (ps := [16,17]) (assign := (sub [1,1,2,1,0,0] ug)) (body := (sub [1,1,2,1,0,1] ug)) (K := 80) (caps := [.sptr (I r_1)]) (by kernel_rfl) [2,3,4,5,6,15] (fun s => vD m_ r_1 s.1 s.2) (fun s => vD m_ r_1 s.1 s.2) (fun s => Code.ret) ((fun (x : Int × Int) (_ : Bool) (_ : Value) => [(eI .i64) x.1, (eI .i64) x.2])) (F := @yP r_1) (fun s x => uc m_ s.1 s.2 x.1 x.2) (0, ([] : List (List Int))) t2 _ h0 inferInstance (by kernel_rfl) (by decide) (fun _ => rfl) (fun _ => rfl) (by kernel_rfl) (fun _ _ _ => rfl) (jp hC r_1) ht2 ?_ ?_
  ·rintro tv2 ⟨x51, out1⟩ ⟨x16, x17⟩ vr lr1 hf1
   replace hf1 : uc m_ x51 out1 x16 x17 = some lr1 := hf1
   unfold uc at hf1
   refine yF X0 hC .normal [(2, .own (.box (yq m_))), (3, .own (.box (.fn 38 []))), (4, .own (.box (eOs 1 true F3_ []))), (5, .own (.box (I x51))), (6, .own (.box (eOs 1 false F2_ out1))), (7, .d (I x16)), (8, .d (I x17)), (15, .d (.fn 80 [.sptr (I r_1)]))] [] fun st0 h0 => ⟨rfl, z1l h0 ?_⟩
   obtain ⟨r_2, h2, hf1⟩ := zg hf1
   let Z0 : List HO := [Hc h1d (x := (x16, x17)) h2 (loC (eI .i64) x16 <| loC (eI .i64) x17 <| loN)]
   rcases zO hf1 with ⟨c0, hf1⟩ | ⟨c0, hf1⟩
   ·obtain rfl := zb hf1
    exact yF X0 hC .normal (vD m_ r_1 x51 out1) (Z0 ++ [Hq c0]) fun st0 h0 => ⟨rfl, _, h0, LeL.refl _⟩
   ·obtain ⟨r_3, h3, hf1⟩ := zg hf1
    let Z1 : List HO := (Z0 ++ [Hq c0, Hc h0g (x := (m_, x16, x17)) h3 (loC yq m_ <| loC (eI .i64) x16 <| loC (eI .i64) x17 <| loN)])
    rcases zO hf1 with ⟨c1, hf1⟩ | ⟨c1, hf1⟩
    ·obtain rfl := zb hf1
     exact yF X0 hC .ret (vD m_ r_1 r_3.2.2 out1) (Z1 ++ [Hq c1]) fun st0 h0 => ⟨rfl, _, h0, LeL.refl _⟩
    ·obtain ⟨g0, hf1⟩ := gdE hf1
     obtain rfl := zb hf1
     exact yF X0 hC .normal (vD m_ r_1 x51 (out1 ++ ([r_3.1] : List (List Int)))) (Z1 ++ [Hq c1, Hq (dM F2_ ([r_3.1] : List (List Int))), Hn (dM F2_ ([r_3.1] : List (List Int))), Hn (aL F2_ F2_ g0), Hl (aM F2_ out1 ([r_3.1] : List (List Int)))]) fun st0 h0 => ⟨rfl, _, h0, LeL.refl _⟩
  ·rcases t2 with ⟨x51, out1⟩ | z
   ·dsimp only at hf0
    exact Zb (by kernel_rfl) (hJ1 _ [(2, .own (.box (yq m_))), (4, .own (.box (eOs 1 true F3_ []))), (5, .own (.box (I x51))), (6, .own (.box (eOs 1 false F2_ out1)))] (x51, out1) hf0 (show Own.canon [2,4,5,6] _ = ofL _ by kernel_rfl) inferInstance)
   ·obtain ⟨x51, out1⟩ := z
    dsimp only at hf0
    show AWP _ _ (Code.ret) _ _
    obtain rfl := zb hf0
    exact yEx X0 hC hE [Hm (shM F3_ F3_ [])] (.tup [eSl 1 true F2_ [], I x51]) (show LeV (.tup [eSl 1 true F2_ [], I x51]) (.tup [eSl 1 true F2_ ([] : List (List Int)), I x51]) from inferInstance)
def z1k : Code := (Tryz.f10.body).getD .skip
def jT : zS := spF (α := z6) (ρ := List (List Int) × Int) 10 (fun x => [yq x]) (fun r => .tup [F7_ r.1, (eI .i64) r.2]) (fun x => j6 x) [] (WA)
theorem z1y {ctr : Ctr} (hC : zx Tryz.prog ctr) (h0h : ctr.Has wU) (h1e : ctr.Has ZY) : jT.Ok Tryz.prog := by
 refine zB ?_
 rintro m_ r0 hf0
 try unfold j6 at hf0
 refine yO false [(2, none), (3, none)] z1k 14 Tryz.func10 fun E hE => ?_
 obtain ⟨r_, h0, hf0⟩ := zg hf0
 let Z0 : List HO := [Hc h0h (x := m_) h0 (loC yq m_ <| loN)]
 rcases zO hf0 with ⟨c0, hf0⟩ | ⟨c0, hf0⟩
 ·obtain rfl := zb hf0
  exact yEx X0 hC hE (Z0 ++ [Hq c0, Hm (shM F3_ F3_ [])]) (.tup [eSl 1 true F2_ [], I r_]) (show LeV (.tup [eSl 1 true F2_ [], I r_]) (.tup [eSl 1 true F2_ ([] : List (List Int)), I r_]) from inferInstance)
 ·obtain ⟨r_1, h1, hf0⟩ := zg hf0
  obtain rfl := zb hf0
  exact yE X0 hC hE (Z0 ++ [Hq c0, Hc h1e (x := (m_, ())) h1 (loC yq m_ <| loC (z35 38) () <| loN)])
def Qz : Code := (Tryz.f112.body).getD .skip
def kz : zS := spF (α := z6 × Int) (ρ := Int) 112 (fun x => [yq x.1, (eI .i64) x.2]) (fun r => (eI .i64) r) (fun x => jn x.1 x.2) [] (Vt)
theorem Jb {ctr : Ctr} (hC : zx Tryz.prog ctr) (h02 : ctr.Has xz) : kz.Ok Tryz.prog := by
 refine zB ?_
 rintro ⟨m_, s_⟩ r0 hf0
 try unfold jn at hf0
 refine yO true [(4, none)] Qz 20 Tryz.func112 fun E hE => ?_
 obtain ⟨r_, h0, hf0⟩ := zg hf0
 let Z0 : List HO := [Hc h02 (x := m_) h0 (loC yq m_ <| loN)]
 rcases zO hf0 with ⟨c0, hf0⟩ | ⟨c0, hf0⟩
 ·obtain rfl := zb hf0
  exact yE X0 hC hE (Z0 ++ [Hq c0])
 ·rcases zO hf0 with ⟨c1, hf0⟩ | ⟨c1, hf0⟩
  ·obtain rfl := zb hf0
   exact yE X0 hC hE (Z0 ++ (Hq c0 :: (rpN 6 (Hq c1) [qT])))
  ·let Z1 : List HO := (Z0 ++ (Hq c0 :: (rpN 4 (Hq c1) [Ha (lnM uE m_.Rows), Hq c1, Hq c1])))
   rcases zO hf0 with ⟨c2, hf0⟩ | ⟨c2, hf0⟩
   ·obtain rfl := zb hf0
    exact yE X0 hC hE (Z1 ++ [Hq c2])
   ·obtain rfl := zb hf0
    exact yE X0 hC hE (Z1 ++ [Hq c2])
def kg : Code := (Tryz.f114.body).getD .skip
def ZV : zS := spF (α := z6 × Int × List Int) (ρ := List Int × Int) 114 (fun x => [yq x.1, (eI .i64) x.2.1, F3_ x.2.2]) (fun r => .tup [F2_ r.1, (eI .i64) r.2]) (fun x => kS x.1 x.2.1 x.2.2) [] (z8W)
abbrev UZ (s_1 : Int) (out : List Int) : List (Nat × T) := [(1, .d (I s_1)), (8, .own (eOs 1 true (eI .i64) out))]
abbrev UY (m_ : z6) (w_ : List Int) (out1 : List Int) (x17 : Int) (x_To : Int) (x_Out : Int) : List (Nat × T) := [(3, .own (.box (yq m_))), (8, .own (eOs 1 true (eI .i64) out1)), (9, .d (I x17)), (11, .own (.box (.agg [I x_To, I x_Out]))), (15, .d (eSl 1 false (eI .i64) w_)), (16, .d (I ((w_.length : Nat) : Int))), (17, .d (I x17))]
abbrev UX (m_ : z6) (w_ : List Int) (s_2 : Int) (out1 : List Int) (x17 : Int) : List (Nat × T) := [(1, .d (I s_2)), (3, .own (.box (yq m_))), (8, .own (eOs 1 true (eI .i64) out1)), (15, .d (eSl 1 false (eI .i64) w_)), (16, .d (I ((w_.length : Nat) : Int))), (17, .d (I x17))]
theorem KP {ctr : Ctr} (hC : zx Tryz.prog ctr) (h0d : ctr.Has uJ) : ZV.Ok Tryz.prog := by
 refine zB ?_
 rintro ⟨m_, s_, w_⟩ r0 hf0
 try unfold kS at hf0
 refine yO false [(6, none), (7, none)] kg 43 Tryz.func114 fun E hE => ?_
 obtain ⟨g0, hf0⟩ := gdE hf0
 refine yJ X0 hC kg [1,1] [] [1,8] (fun z : Int × List Int => jZ z.1 z.2 = some r0) (fun z => UZ z.1 z.2) [(1, .d (I s_)), (2, .d (eSl 1 false (eI .i64) w_)), (3, .own (.box (yq m_))), (8, .own (eOs 1 true (eI .i64) (List.replicate ((w_.length : Nat) : Int).toNat (0 : Int))))] [Ha (lnM (eI .i64) w_), Hn (rL g0), Ha (rM 1 (eI .i64) ((w_.length : Nat) : Int) (0 : Int)), Hh (.cut 0)] ?_ fun J1 hJ1 => ?_
 ·rintro ⟨s_1, out⟩ hf0
  unfold jZ at hf0
  obtain rfl := zb hf0
  exact yE X0 hC hE [Hm (shM (eI .i64) (eI .i64) out)]
 ·obtain ⟨t2, ht2, hf0⟩ := zg hf0
  refine yL X0 hC kg [1,1,2,1,0] [J1] (fun s => jY m_ w_ s.1 s.2.1 s.2.2) (fun x => UX m_ w_ x.1 x.2.1 x.2.2) (s_, (List.replicate ((w_.length : Nat) : Int).toNat (0 : Int)), 0) ht2  [Ha (lnM (eI .i64) w_)] ?_
  rintro ⟨s_2, out1, x17⟩ m2 lr1 hf1 hl1 J2 hJ2
  try unfold jY at hf1
  rcases zO hf1 with ⟨c0, hf1⟩ | ⟨c0, hf1⟩
  ·obtain ⟨w__e, h0, hf1⟩ := zg hf1
   obtain ⟨r_, h1, hf1⟩ := zg hf1
   refine yJ X0 hC kg [1,1,2,1,0,0,1,1,0,0,1,1] [J1, J2] [3,8,9,11,15,16,17] (fun z : Int × Int => qJ out1 x17 z.1 z.2 = some lr1) (fun z => UY m_ w_ out1 x17 z.1 z.2) [(1, .d (I s_2)), (3, .own (.box (yq m_))), (8, .own (eOs 1 true (eI .i64) out1)), (9, .d (I x17)), (10, .d (I w__e)), (11, .own (.box (F6_ r_))), (15, .d (eSl 1 false (eI .i64) w_)), (16, .d (I ((w_.length : Nat) : Int))), (17, .d (I x17))] [Hq c0, Hi (eI .i64) h0, Hc h0d (x := ()) h1 (loN), Hh (.cut 0)] ?_ fun J3 hJ3 => ?_
   ·rintro ⟨x_To, x_Out⟩ hf1
    unfold qJ at hf1
    obtain ⟨out_e, h2, hf1⟩ := zg hf1
    obtain rfl := zb hf1
    exact yB X0 hC hJ2 (x_To, (out1.set x17.toNat x_Out), w64 (x17 + 1)) hl1 [Hn (iL (eI .i64) h2), Hs (iM (eI .i64) h2), Hs (iM (eI .i64) h2), Hl (sM (eI .i64) out1 x17 x_Out)]
   ·rcases zO hf1 with ⟨c1, hf1⟩ | ⟨c1, hf1⟩
    ·obtain ⟨Row_e, h3, hf1⟩ := zg hf1
     obtain ⟨Row_e_e, h4, hf1⟩ := zg hf1
     exact yB X0 hC hJ3 (Row_e_e.To, Row_e_e.Out) hf1 [Hq c1, Hi uE h3, Hi F6_ h4]
    ·exact yB X0 hC hJ3 (r_.To, r_.Out) hf1 [Hq c1]
  ·obtain rfl := zb hf1
   obtain rfl := hl1
   exact yB X0 hC hJ1 (s_2, out1) hf0 [Hq c0]
def Ky : Code := (Tryz.f79.body).getD .skip
def ZW : zS := spF (α := z6 × Int × List Int) (ρ := List Int × Int) 79 (fun x => [yq x.1, (eI .i64) x.2.1, F3_ x.2.2]) (fun r => .tup [F2_ r.1, (eI .i64) r.2]) (fun x => kT x.1 x.2.1 x.2.2) [] (z8W)
theorem KQ {ctr : Ctr} (hC : zx Tryz.prog ctr) (h1f : ctr.Has kz) (h0r : ctr.Has kJ) (h1g : ctr.Has ZV) : ZW.Ok Tryz.prog := by
 refine zB ?_
 rintro ⟨m_, s_, w_⟩ r0 hf0
 try unfold kT at hf0
 refine yO false [(6, none), (7, none)] Ky 33 Tryz.func79 fun E hE => ?_
 obtain ⟨r_, h0, hf0⟩ := zg hf0
 let Z0 : List HO := [Hc h1f (x := (m_, s_)) h0 (loC yq m_ <| loC (eI .i64) s_ <| loN)]
 rcases zO hf0 with ⟨c0, hf0⟩ | ⟨c0, hf0⟩
 ·obtain rfl := zb hf0
  exact yEx X0 hC hE (Z0 ++ [Hq c0, Hm (shM (eI .i64) (eI .i64) [])]) (.tup [eSl 1 true (eI .i64) [], I r_]) (show LeV (.tup [eSl 1 true (eI .i64) [], I r_]) (.tup [eSl 1 true (eI .i64) ([] : List Int), I r_]) from inferInstance)
 ·obtain ⟨r_1, h1, hf0⟩ := zg hf0
  let Z1 : List HO := (Z0 ++ [Hq c0, Hc h0r (x := (w_, m_.Inputs)) h1 (loC F3_ w_ <| loC (eI .i64) m_.Inputs <| loN)])
  rcases zO hf0 with ⟨c1, hf0⟩ | ⟨c1, hf0⟩
  ·obtain rfl := zb hf0
   exact yEx X0 hC hE (Z1 ++ [Hq c1, Hm (shM (eI .i64) (eI .i64) [])]) (.tup [eSl 1 true (eI .i64) [], I r_1]) (show LeV (.tup [eSl 1 true (eI .i64) [], I r_1]) (.tup [eSl 1 true (eI .i64) ([] : List Int), I r_1]) from inferInstance)
  ·obtain ⟨r_2, h2, hf0⟩ := zg hf0
   obtain rfl := zb hf0
   exact yE X0 hC hE (Z1 ++ [Hq c1, Hc h1g (x := (m_, s_, w_)) h2 (loC yq m_ <| loC (eI .i64) s_ <| loC F3_ w_ <| loN)])
def Yg : Code := (Tryz.f48.body).getD .skip
def yH : zS := spR (α := List (List Int)) (ρ := List (List Int)) 48 (fun x => [(eOs 1 false F2_) x]) (fun r => F8_ r) (fun x => yb x) [true] (WA)
theorem qM : ∀ x r, (fun x => yb x) x = some r → (Vu.add yH).run 48 ((Vu.add yH).norm 48 ((fun x => [(eOs 1 false F2_) x]) x)) = some ((fun r => F8_ r) r) := fun x r h => zfc h rfl
theorem qN : (Vu.add yH).lend 48 = none ∧ (Vu.add yH).gives 48 = [true] := zat
theorem jb {ctr : Ctr} (hC : zx Tryz.prog ctr) : yH.Ok Tryz.prog := by
 refine z4V ?_
 rintro s_ r0 hf0
 try unfold yb at hf0
 refine yO true [(2, none)] Yg 9 Tryz.func48 fun E hE => ?_
 obtain rfl := zb hf0
 exact yE ((xCl zu 8).or X0) hC hE [Ha (lnM F2_ s_), Ha (lnM F2_ s_), Hn (Int.natCast_nonneg _ : (0 : Int) ≤ ((s_.length : Nat) : Int)), Hn (Int.natCast_nonneg _ : (0 : Int) ≤ ((s_.length : Nat) : Int)), Hn (clB F2_ s_), Ha (clE 1 F2_ s_)]
def jF : Code := (Tryz.f50.body).getD .skip
def xX : zS := spF (α := z6 × List (List Int) × Int) (ρ := List (List Int)) 50 (fun x => [yq x.1, vL x.2.1, (eI .i64) x.2.2]) (fun r => F8_ r) (fun x => xx x.1 x.2.1 x.2.2) [] (z8W)
abbrev Wg (out : List (List Int)) : List (Nat × T) := [(7, .own (eOs 1 false F2_ out))]
abbrev Wf (m_ : z6) (l_ : List (List Int)) (s_ : Int) (out1 : List (List Int)) (x14 : Int) : List (Nat × T) := [(2, .d (I s_)), (3, .own (.box (yq m_))), (7, .own (eOs 1 false F2_ out1)), (12, .d (eSl 1 false F3_ l_)), (13, .d (I ((l_.length : Nat) : Int))), (14, .d (I x14))]
theorem Uv {ctr : Ctr} (hC : zx Tryz.prog ctr) (h1h : ctr.Has ZW) : xX.Ok Tryz.prog := by
 refine zB ?_
 rintro ⟨m_, l_, s_⟩ r0 hf0
 try unfold xx at hf0
 refine yO true [(6, none)] jF 32 Tryz.func50 fun E hE => ?_
 refine yJ X0 hC jF [1,1] [] [7] (fun z : List (List Int) => uu z = some r0) (fun z => Wg z) [(1, .d (eSl 1 false F3_ l_)), (2, .d (I s_)), (3, .own (.box (yq m_))), (7, .own (eOs 1 true F3_ []))] [Hh (.cut 2)] ?_ fun J1 hJ1 => ?_
 ·rintro out hf0
  unfold uu at hf0
  obtain ⟨r_, h0, hf0⟩ := zg hf0
  obtain rfl := zb hf0
  exact yE ((QX zu (jb hC) 31).or X0) hC hE [Hh (.g [true]), Hn qN, Hx (.a (F8_ r_)) (qM out _ h0)]
 ·obtain ⟨t2, ht2, hf0⟩ := zg hf0
  refine yLx X0 hC jF [1,1,2,1,0] [J1] (fun s => yM m_ l_ s_ s.1 s.2) (fun x => Wf m_ l_ s_ x.1 x.2) (([] : List (List Int)), 0) ht2 [(2, .d (I s_)), (3, .own (.box (yq m_))), (7, .own (eOs 1 true F2_ [])), (12, .d (eSl 1 false F3_ l_)), (13, .d (I ((l_.length : Nat) : Int))), (14, .d (I 0))] inferInstance [Ha (lnM F3_ l_)] ?_
  rintro ⟨out1, x14⟩ m2 lr1 hf1 hl1 J2 hJ2
  try unfold yM at hf1
  rcases zO hf1 with ⟨c0, hf1⟩ | ⟨c0, hf1⟩
  ·obtain ⟨l__e, h1, hf1⟩ := zg hf1
   obtain ⟨r_1, h2, hf1⟩ := zg hf1
   obtain ⟨g0, hf1⟩ := gdE hf1
   obtain rfl := zb hf1
   exact yB X0 hC hJ2 ((out1 ++ ([r_1.1] : List (List Int))), w64 (x14 + 1)) hl1 [Hq c0, Hi F3_ h1, Hc h1h (x := (m_, s_, l__e)) h2 (loC yq m_ <| loC (eI .i64) s_ <| loC F3_ l__e <| loN), Hq (dM F2_ ([r_1.1] : List (List Int))), Hn (dM F2_ ([r_1.1] : List (List Int))), Hn (aL F2_ F2_ g0), Hl (aM F2_ out1 ([r_1.1] : List (List Int)))]
  ·obtain rfl := zb hf1
   obtain rfl := hl1
   exact yB X0 hC hJ1 out1 hf0 [Hq c0]
def WG : Code := (Tryz.f81.body).getD .skip
def qA : zS := spF (α := List Int × List Int) (ρ := Bool) 81 (fun x => [F3_ x.1, F3_ x.2]) (fun r => eB r) (fun x => qe x.1 x.2) [] (Vt)
theorem V7 {ctr : Ctr} (hC : zx Tryz.prog ctr) (h0a : ctr.Has xH) : qA.Ok Tryz.prog := by
 refine zB ?_
 rintro ⟨x_, y_⟩ r0 hf0
 try unfold qe at hf0
 refine yO true [(4, none)] WG 8 Tryz.func81 fun E hE => ?_
 obtain ⟨r_, h0, hf0⟩ := zg hf0
 obtain rfl := zb hf0
 exact yE X0 hC hE [Hc h0a (x := (x_, y_)) h0 (loC F3_ x_ <| loC F3_ y_ <| loN)]
def xv : Code := (Tryz.f56.body).getD .skip
def xm : zS := spF (α := List (List Int) × List (List Int) × Unit) (ρ := Bool) 56 (fun x => [vL x.1, vL x.2.1, (z35 81) x.2.2]) (fun r => eB r) (fun x => yp x.1 x.2.1 x.2.2) [] (by
 rintro ⟨a0, a1, a2⟩ ⟨b0, b1, b2⟩ h
 have e0 := Zt.inj (f := vL) _ _ (List.cons.inj h).1
 replace h := (List.cons.inj h).2
 have e1 := Zt.inj (f := vL) _ _ (List.cons.inj h).1
 replace h := (List.cons.inj h).2
 have e2 := Zt.inj (f := (z35 81)) _ _ (List.cons.inj h).1
 subst e0 e1 e2
 rfl)
abbrev qQ : List (Nat × T) := []
abbrev qP (s1 : List (List Int)) (s2 : List (List Int)) (x17 : Int) : List (Nat × T) := [(1, .d (eSl 1 false F3_ s2)), (2, .d (.fn 81 [])), (15, .d (eSl 1 false F3_ s1)), (16, .d (I ((s1.length : Nat) : Int))), (17, .d (I x17))]
theorem jy {ctr : Ctr} (hC : zx Tryz.prog ctr) (h1i : ctr.Has qA) : xm.Ok Tryz.prog := by
 refine zB ?_
 rintro ⟨s1, s2, eq⟩ r0 hf0
 try unfold yp at hf0
 refine yO true [(6, none)] xv 32 Tryz.func56 fun E hE => ?_
 let Z0 : List HO := [Ha (lnM F3_ s1), Ha (lnM F3_ s2)]
 rcases zO hf0 with ⟨c0, hf0⟩ | ⟨c0, hf0⟩
 ·obtain rfl := zb hf0
  exact yE X0 hC hE (Z0 ++ [Hq c0])
 ·refine yJ X0 hC xv [1,1] [] [] (fun z : Unit => xo = some r0) (fun z => qQ) [(0, .d (eSl 1 false F3_ s1)), (1, .d (eSl 1 false F3_ s2)), (2, .d (.fn 81 []))] (Z0 ++ [Hq c0, Hh (.cut 0)]) ?_ fun J1 hJ1 => ?_
  ·rintro ⟨⟩ hf0
   unfold xo at hf0
   obtain rfl := zb hf0
   exact yE X0 hC hE []
  ·obtain ⟨t2, ht2, hf0⟩ := zg hf0
   refine yL X0 hC xv [1,1,2,1,0] [J1] (fun s => zK s1 s2 s) (fun x => qP s1 s2 x) 0 ht2  [Ha (lnM F3_ s1)] ?_
   rintro x17 m2 lr1 hf1 hl1 J2 hJ2
   try unfold zK at hf1
   rcases zO hf1 with ⟨c1, hf1⟩ | ⟨c1, hf1⟩
   ·obtain ⟨s_e, h0, hf1⟩ := zg hf1
    obtain ⟨s_e1, h1, hf1⟩ := zg hf1
    obtain ⟨r_, h2, hf1⟩ := zg hf1
    let Z1 : List HO := [Hq c1, Hi F3_ h0, Hi F3_ h1, Hc h1i (x := (s_e, s_e1)) h2 (loC F3_ s_e <| loC F3_ s_e1 <| loN)]
    rcases zO hf1 with ⟨c2, hf1⟩ | ⟨c2, hf1⟩
    ·obtain rfl := zb hf1
     obtain rfl := hl1
     obtain rfl := zb hf0
     exact yE X0 hC hE (Z1 ++ [Hq c2])
    ·obtain rfl := zb hf1
     exact yB X0 hC hJ2 (w64 (x17 + 1)) hl1 (Z1 ++ [Hq c2])
   ·obtain rfl := zb hf1
    obtain rfl := hl1
    exact yB X0 hC hJ1 () hf0 [Hq c1]
def VU : Code := (Tryz.f52.body).getD .skip
def wW : zS := spF (α := List (List Int) × List (List Int)) (ρ := Bool) 52 (fun x => [vL x.1, vL x.2]) (fun r => eB r) (fun x => wy x.1 x.2) [] (Vt)
theorem Ux {ctr : Ctr} (hC : zx Tryz.prog ctr) (h1j : ctr.Has xm) : wW.Ok Tryz.prog := by
 refine zB ?_
 rintro ⟨a_, b_⟩ r0 hf0
 try unfold wy at hf0
 refine yO true [(4, none)] VU 8 Tryz.func52 fun E hE => ?_
 obtain ⟨r_, h0, hf0⟩ := zg hf0
 obtain rfl := zb hf0
 exact yE X0 hC hE [Hc h1j (x := (a_, b_, ())) h0 (loC vL a_ <| loC vL b_ <| loC (z35 81) () <| loN)]
def yh : Code := (Tryz.f45.body).getD .skip
def jB : zS := spF (α := z6 × List (List Int)) (ρ := List Int) 45 (fun x => [yq x.1, vL x.2]) (fun r => (eSl 1 false (eI .u64)) r) (fun x => uM x.1 x.2) [] (Vt)
abbrev Wk (out : List Int) : List (Nat × T) := [(4, .own (.box (eOs 1 false (eI .u64) out)))]
abbrev kq (m_ : z6) (w_ : List (List Int)) (r_ : Int) (out1 : List Int) : List (Nat × T) := [(2, .own (.box (yq m_))), (3, .own (.box (eSl 1 false F3_ w_))), (4, .own (.box (eOs 1 false (eI .u64) out1))), (12, .d (.fn 80 [.sptr (I r_)]))]
abbrev Wj (m_ : z6) (w_ : List (List Int)) (r_ : Int) (out1 : List Int) (set_ : Int) : List (Nat × T) := [(2, .own (.box (yq m_))), (3, .own (.box (eSl 1 false F3_ w_))), (4, .own (.box (eOs 1 false (eI .u64) out1))), (7, .d (.atom (.int .u64 set_))), (12, .d (.fn 80 [.sptr (I r_)]))]
abbrev Wi (m_ : z6) (w_ : List (List Int)) (r_ : Int) (out1 : List Int) (x13 : Int) (x14 : Int) (x17 : Int) (set_2 : Int) : List (Nat × T) := [(2, .own (.box (yq m_))), (3, .own (.box (eSl 1 false F3_ w_))), (4, .own (.box (eOs 1 false (eI .u64) out1))), (5, .d (I x13)), (6, .d (I x14)), (7, .d (.atom (.int .u64 set_2))), (12, .d (.fn 80 [.sptr (I r_)])), (16, .d (I ((w_.length : Nat) : Int))), (17, .d (I x17))]
abbrev Wh (m_ : z6) (w_ : List (List Int)) (r_ : Int) (out1 : List Int) (x13 : Int) (x14 : Int) (set_1 : Int) (x17 : Int) : List (Nat × T) := [(2, .own (.box (yq m_))), (3, .own (.box (eSl 1 false F3_ w_))), (4, .own (.box (eOs 1 false (eI .u64) out1))), (5, .d (I x13)), (6, .d (I x14)), (7, .d (.atom (.int .u64 set_1))), (12, .d (.fn 80 [.sptr (I r_)])), (16, .d (I ((w_.length : Nat) : Int))), (17, .d (I x17))]
theorem Uw {ctr : Ctr} (hC : zx Tryz.prog ctr) (h05 : ctr.Has wV) (h06 : ctr.Has xX) (h09 : ctr.Has wW) : jB.Ok Tryz.prog := by
 refine zB ?_
 rintro ⟨m_, w_⟩ r0 hf0
 try unfold uM at hf0
 refine yO false [(4, some 76)] yh 48 Tryz.func45 fun E hE => ?_
 refine yJ X0 hC yh [1] [] [4] (fun z : List Int => jD z = some r0) (fun z => Wk z) [(2, .own (.box (yq m_))), (3, .own (.box (eSl 1 false F3_ w_))), (4, .own (.box (eOs 1 true (eI .u64) [])))] [Hh (.cut 1)] ?_ fun J1 hJ1 => ?_
 ·rintro out hf0
  unfold jD at hf0
  obtain rfl := zb hf0
  exact yE X0 hC hE [Hh (.v 0 [4]), Hm (shM (eI .u64) (eI .u64) out), Hh (.v 1 [4])]
 ·obtain ⟨r_, h0, hf0⟩ := zg hf0
  obtain ⟨t2, ht2, hf0⟩ := zg hf0
  refine yAt X0 hC (sub [1,2,1,0] yh) (frs [1,2,1,0] [J1] yh []) [(2, .own (.box (yq m_))), (3, .own (.box (eSl 1 false F3_ w_))), (4, .own (.box (eOs 1 true (eI .u64) []))), (12, .d (.fn 80 [.sptr (I r_)]))] [Ha (lnM uE m_.Rows), Hc h05 (x := ((m_.Rows.length : Nat) : Int)) h0 (loC (eI .i64) ((m_.Rows.length : Nat) : Int) <| loN)] fun st0 h0 => ?_
  refine VX (g := .tmp 12) (ps := [13,14]) (assign := (sub [1,2,1,0,0] yh)) (body := (sub [1,2,1,0,1] yh)) (K := 80) (caps := [.sptr (I r_)]) (by kernel_rfl) [2,3,4,12] (fun s => kq m_ w_ r_ s) (fun z => nomatch z) (fun z => nomatch z) ((fun (x : Int × Int) (_ : Bool) (_ : Value) => [(eI .i64) x.1, (eI .i64) x.2])) (F := @yP r_) (fun s x => w4 m_ w_ s x.1 x.2) ([] : List Int) t2 _ h0 inferInstance (by kernel_rfl) (by decide) (fun _ => rfl) (by rintro ⟨⟩) (by kernel_rfl) (fun _ _ _ => rfl) (jp hC r_) ht2 ?_ ?_
  ·rintro tv2 out1 ⟨x13, x14⟩ vr lr1 hf1
   replace hf1 : w4 m_ w_ out1 x13 x14 = some lr1 := hf1
   unfold w4 at hf1
   refine yF X0 hC .normal [(2, .own (.box (yq m_))), (3, .own (.box (eSl 1 false F3_ w_))), (4, .own (.box (eOs 1 false (eI .u64) out1))), (5, .d (I x13)), (6, .d (I x14)), (12, .d (.fn 80 [.sptr (I r_)]))] [] fun st0 h0 => ⟨rfl, z1l h0 ?_⟩
   refine yJ X0 hC yh [1,2,1,0,1,0,1] [J1] [2,3,4,7,12] (fun z : Int => uw out1 z = some lr1) (fun z => Wj m_ w_ r_ out1 z) [(2, .own (.box (yq m_))), (3, .own (.box (eSl 1 false F3_ w_))), (4, .own (.box (eOs 1 false (eI .u64) out1))), (5, .d (I x13)), (6, .d (I x14)), (7, .d (.atom (.int .u64 0))), (12, .d (.fn 80 [.sptr (I r_)]))] [Hh (.cut 1)] ?_ fun J3 hJ3 => ?_
   ·rintro set_ hf1
    unfold uw at hf1
    obtain ⟨g0, hf1⟩ := gdE hf1
    obtain rfl := zb hf1
    exact yF X0 hC .normal (kq m_ w_ r_ (out1 ++ ([set_] : List Int))) [Hq (dM (eI .u64) ([set_] : List Int)), Hn (dM (eI .u64) ([set_] : List Int)), Hn (aL (eI .u64) (eI .u64) g0), Hl (aM (eI .u64) out1 ([set_] : List Int))] fun st0 h0 => ⟨rfl, _, h0, LeL.refl _⟩
   ·obtain ⟨t4, ht4, hf1⟩ := zg hf1
    refine yL X0 hC yh [1,2,1,0,1,0,1,2,1,0] [J1, J3] (fun s => uv m_ w_ x13 x14 s.1 s.2) (fun x => Wh m_ w_ r_ out1 x13 x14 x.1 x.2) (0,0) ht4  [Ha (lnM F3_ w_)] ?_
    rintro ⟨set_1, x17⟩ m4 lr2 hf2 hl2 J4 hJ4
    try unfold uv at hf2
    rcases zO hf2 with ⟨c0, hf2⟩ | ⟨c0, hf2⟩
    ·refine yJ X0 hC yh [1,2,1,0,1,0,1,2,1,0,0,1,1] [J1, J3, J4] [2,3,4,5,6,7,12,16,17] (fun z : Int => v6 x17 z = some lr2) (fun z => Wi m_ w_ r_ out1 x13 x14 x17 z) [(2, .own (.box (yq m_))), (3, .own (.box (eSl 1 false F3_ w_))), (4, .own (.box (eOs 1 false (eI .u64) out1))), (5, .d (I x13)), (6, .d (I x14)), (7, .d (.atom (.int .u64 set_1))), (12, .d (.fn 80 [.sptr (I r_)])), (16, .d (I ((w_.length : Nat) : Int))), (17, .d (I x17))] [Hq c0, Hh (.cut 0)] ?_ fun J5 hJ5 => ?_
     ·rintro set_2 hf2
      unfold v6 at hf2
      obtain rfl := zb hf2
      exact yB X0 hC hJ4 (set_2, w64 (x17 + 1)) hl2 []
     ·obtain ⟨g1, hf2⟩ := gdE hf2
      obtain ⟨r_1, h1, hf2⟩ := zg hf2
      obtain ⟨g2, hf2⟩ := gdE hf2
      obtain ⟨r_2, h2, hf2⟩ := zg hf2
      obtain ⟨r_3, h3, hf2⟩ := zg hf2
      let Z0 : List HO := [Hn (slA g1), Hn (slB g1), Hn (zbM F3_ g1), Ha (slM 1 false F3_ w_ x17.toNat (w64 (x17 + 1)).toNat), Hc h06 (x := (m_, ((w_.drop x17.toNat).take ((w64 (x17 + 1)).toNat - x17.toNat)), x13)) h1 (loC yq m_ <| loC vL ((w_.drop x17.toNat).take ((w64 (x17 + 1)).toNat - x17.toNat)) <| loC (eI .i64) x13 <| loN), Hn (slA g2), Hn (slB g2), Hn (zbM F3_ g2), Ha (slM 1 false F3_ w_ x17.toNat (w64 (x17 + 1)).toNat), Hc h06 (x := (m_, ((w_.drop x17.toNat).take ((w64 (x17 + 1)).toNat - x17.toNat)), x14)) h2 (loC yq m_ <| loC vL ((w_.drop x17.toNat).take ((w64 (x17 + 1)).toNat - x17.toNat)) <| loC (eI .i64) x14 <| loN), Hg (Jx h09), Hm (shM F2_ F2_ r_1), Hm (shM F2_ F2_ r_2), Hs (Jy h09 (x := (r_1, r_2)) h3 (loC F7_ r_1 <| loC F7_ r_2 <| loN))]
      rcases zO hf2 with ⟨c1, hf2⟩ | ⟨c1, hf2⟩
      ·obtain ⟨g3, hf2⟩ := gdE hf2
       exact yB ((z3g Tryz.prog).or ((zez Tryz.prog).or X0)) hC hJ5 (orK .u64 set_1 (Je .u64 1 x17)) hf2 (Z0 ++ [Hq c1, Hn g3])
      ·exact yB X0 hC hJ5 set_1 hf2 (Z0 ++ [Hq c1])
    ·obtain rfl := zb hf2
     obtain rfl := hl2
     exact yB X0 hC hJ3 set_1 hf1 [Hq c0]
  ·rcases t2 with out1 | z
   ·dsimp only at hf0
    exact Zb (by kernel_rfl) (hJ1 _ [(4, .own (.box (eOs 1 false (eI .u64) out1)))] out1 hf0 (show Own.canon [4] _ = ofL _ by kernel_rfl) inferInstance)
   ·cases z
def yd : Code := (Tryz.f76.body).getD .skip
def vW : zS := spF (α := Int) (ρ := Int) 76 (fun x => [(eI .u64) x]) (fun r => (eI .i64) r) (fun x => qI x) [] (WA)
abbrev Yp (x_6 : Int) : List (Nat × T) := [(0, .d (.atom (.int .u64 x_6)))]
abbrev Yq (x_5 : Int) : List (Nat × T) := [(0, .d (.atom (.int .u64 x_5)))]
abbrev Yr (x_4 : Int) : List (Nat × T) := [(0, .d (.atom (.int .u64 x_4)))]
abbrev Ys (x_3 : Int) : List (Nat × T) := [(0, .d (.atom (.int .u64 x_3)))]
abbrev Yt (x_2 : Int) : List (Nat × T) := [(0, .d (.atom (.int .u64 x_2)))]
abbrev Yu (x_1 : Int) : List (Nat × T) := [(0, .d (.atom (.int .u64 x_1)))]
theorem Xo {ctr : Ctr} (hC : zx Tryz.prog ctr) : vW.Ok Tryz.prog := by
 refine zB ?_
 rintro x_ r0 hf0
 try unfold qI at hf0
 refine yO true [(2, none)] yd 35 Tryz.func76 fun E hE => ?_
 refine yJ X0 hC yd [1] [] [0] (fun z : Int => ua z = some r0) (fun z => Yu z) [(0, .d (.atom (.int .u64 x_)))] [Hh (.cut 1)] ?_ fun J1 hJ1 => ?_
 ·rintro x_1 hf0
  unfold ua at hf0
  refine yJ X0 hC yd [1,1] [] [0] (fun z : Int => u9 z = some r0) (fun z => Yt z) [(0, .d (.atom (.int .u64 x_1)))] [Hh (.cut 0)] ?_ fun J2 hJ2 => ?_
  ·rintro x_2 hf0
   unfold u9 at hf0
   refine yJ X0 hC yd [1,1,1] [] [0] (fun z : Int => u7 z = some r0) (fun z => Ys z) [(0, .d (.atom (.int .u64 x_2)))] [Hh (.cut 0)] ?_ fun J3 hJ3 => ?_
   ·rintro x_3 hf0
    unfold u7 at hf0
    refine yJ X0 hC yd [1,1,1,1] [] [0] (fun z : Int => u6 z = some r0) (fun z => Yr z) [(0, .d (.atom (.int .u64 x_3)))] [Hh (.cut 0)] ?_ fun J4 hJ4 => ?_
    ·rintro x_4 hf0
     unfold u6 at hf0
     refine yJ X0 hC yd [1,1,1,1,1] [] [0] (fun z : Int => vZ z = some r0) (fun z => Yq z) [(0, .d (.atom (.int .u64 x_4)))] [Hh (.cut 0)] ?_ fun J5 hJ5 => ?_
     ·rintro x_5 hf0
      unfold vZ at hf0
      refine yJ X0 hC yd [1,1,1,1,1,1] [] [0] (fun z : Int => vY z = some r0) (fun z => Yp z) [(0, .d (.atom (.int .u64 x_5)))] [Hh (.cut 0)] ?_ fun J6 hJ6 => ?_
      ·rintro x_6 hf0
       unfold vY at hf0
       obtain rfl := zb hf0
       exact yE ((z3g Tryz.prog).or X0) hC hE []
      ·exact yB ((z9a Tryz.prog).or X0) hC hJ6 (IntKind.u64.wrap (x_5 + (Int.fdiv x_5 (2 ^ 32)))) hf0 []
     ·exact yB ((z9a Tryz.prog).or X0) hC hJ5 (IntKind.u64.wrap (x_4 + (Int.fdiv x_4 (2 ^ 16)))) hf0 []
    ·exact yB ((z9a Tryz.prog).or X0) hC hJ4 (IntKind.u64.wrap (x_3 + (Int.fdiv x_3 (2 ^ 8)))) hf0 []
   ·exact yB ((z3g Tryz.prog).or ((z9a Tryz.prog).or X0)) hC hJ3 (Wl .u64 (IntKind.u64.wrap ((Int.fdiv x_2 (2 ^ 4)) + x_2)) 1085102592571150095) hf0 []
  ·exact yB ((z3g Tryz.prog).or ((z3g Tryz.prog).or ((z9a Tryz.prog).or X0))) hC hJ2 (IntKind.u64.wrap ((Wl .u64 (Int.fdiv x_1 (2 ^ 2)) 3689348814741910323) + (Wl .u64 x_1 3689348814741910323))) hf0 []
 ·exact yB ((z3g Tryz.prog).or ((z3g Tryz.prog).or ((z9a Tryz.prog).or X0))) hC hJ1 (IntKind.u64.wrap ((Wl .u64 (Int.fdiv x_ (2 ^ 1)) 6148914691236517205) + (Wl .u64 x_ 6148914691236517205))) hf0 []
def W2 : Code := (Tryz.f46.body).getD .skip
def uW : zS := spF (α := Int) (ρ := Int) 46 (fun x => [(eI .u64) x]) (fun r => (eI .i64) r) (fun x => y5 x) [] (WA)
theorem Wo {ctr : Ctr} (hC : zx Tryz.prog ctr) (h1k : ctr.Has vW) : uW.Ok Tryz.prog := by
 refine zB ?_
 rintro x_ r0 hf0
 try unfold y5 at hf0
 refine yO true [(2, none)] W2 8 Tryz.func46 fun E hE => ?_
 obtain ⟨r_, h0, hf0⟩ := zg hf0
 obtain rfl := zb hf0
 exact yE X0 hC hE [qF, Hc h1k (x := x_) h0 (loC (eI .u64) x_ <| loN)]
def ZF : Code := (Tryz.f109.body).getD .skip
def wH : zS := spF (α := Int) (ρ := Int) 109 (fun x => [(eI .u64) x]) (fun r => (eI .i64) r) (fun x => xq x) [] (WA)
theorem ZP {ctr : Ctr} (hC : zx Tryz.prog ctr) : wH.Ok Tryz.prog := by
 refine zB ?_
 rintro x_ r0 hf0
 try unfold xq at hf0
 refine yO true [(2, none)] ZF 14 Tryz.func109 fun E hE => ?_
 rcases zO hf0 with ⟨c0, hf0⟩ | ⟨c0, hf0⟩
 ·obtain rfl := zb hf0
  exact yE X0 hC hE [Hq c0]
 ·obtain ⟨cell, h0, hf0⟩ := zg hf0
  obtain rfl := zb hf0
  exact yE ((z9a Tryz.prog).or ((z3g Tryz.prog).or X0)) hC hE [Hq c0, Hs (iM (eI .u8) h0), Hn (XW (by kernel_rfl) z4u (i0 h0) : kp yD 162 ((z4u.l).map (eI .u8)) (Int.fdiv (IntKind.u64.wrap ((Wl .u64 x_ (IntKind.u64.wrap (0 - x_))) * 285870213051353865)) (2 ^ 58)) = true)]
def YE : Code := (Tryz.f77.body).getD .skip
def vg : zS := spF (α := Int) (ρ := Int) 77 (fun x => [(eI .u64) x]) (fun r => (eI .i64) r) (fun x => wL x) [] (WA)
theorem YU {ctr : Ctr} (hC : zx Tryz.prog ctr) (h1l : ctr.Has wH) : vg.Ok Tryz.prog := by
 refine zB ?_
 rintro x_ r0 hf0
 try unfold wL at hf0
 refine yO true [(2, none)] YE 8 Tryz.func77 fun E hE => ?_
 obtain ⟨r_, h0, hf0⟩ := zg hf0
 obtain rfl := zb hf0
 exact yE X0 hC hE [qF, Hc h1l (x := x_) h0 (loC (eI .u64) x_ <| loN)]
def KB : Code := (Tryz.f47.body).getD .skip
def ZZ : zS := spF (α := Int × Int) (ρ := Bool) 47 (fun x => [(eI .u64) x.1, (eI .u64) x.2]) (fun r => eB r) (fun x => kW x.1 x.2) [] (Vt)
theorem KU {ctr : Ctr} (hC : zx Tryz.prog ctr) (h1m : ctr.Has vg) : ZZ.Ok Tryz.prog := by
 refine zB ?_
 rintro ⟨a_, b_⟩ r0 hf0
 try unfold kW at hf0
 refine yO true [(4, none)] KB 13 Tryz.func47 fun E hE => ?_
 obtain ⟨r_, h0, hf0⟩ := zg hf0
 obtain ⟨g0, hf0⟩ := gdE hf0
 obtain rfl := zb hf0
 exact yE ((z3g Tryz.prog).or ((zey Tryz.prog).or ((z3g Tryz.prog).or X0))) hC hE [Hc h1m (x := zb3 .u64 a_ b_) h0 (loC (eI .u64) (zb3 .u64 a_ b_) <| loN), Hn g0]
def y9 : Code := (Tryz.f17.body).getD .skip
def jq : zS := spF (α := z6) (ρ := List (List Int) × Int) 17 (fun x => [yq x]) (fun r => .tup [F7_ r.1, (eI .i64) r.2]) (fun x => w9 x) [] (WA)
abbrev Uj (out : List (List Int)) : List (Nat × T) := [(13, .own (eOs 1 false F2_ out))]
abbrev Ui (r_ : List (List Int) × Int) (best : Int) (x78 : Int) (out2 : List (List Int)) : List (Nat × T) := [(7, .d (.atom (.int .u64 best))), (13, .own (eOs 1 false F2_ out2)), (76, .d (eSl 1 true F2_ r_.1)), (77, .d (I ((r_.1.length : Nat) : Int))), (78, .d (I x78))]
abbrev Ue (r_ : List (List Int) × Int) (best : Int) (out1 : List (List Int)) (x78 : Int) : List (Nat × T) := [(7, .d (.atom (.int .u64 best))), (13, .own (eOs 1 false F2_ out1)), (76, .d (eSl 1 true F2_ r_.1)), (77, .d (I ((r_.1.length : Nat) : Int))), (78, .d (I x78))]
abbrev Uk (r_ : List (List Int) × Int) (best : Int) : List (Nat × T) := [(4, .d (eSl 1 true F2_ r_.1)), (7, .d (.atom (.int .u64 best)))]
abbrev Uh (r_ : List (List Int) × Int) (r_1 : List Int) (x37 : Int) (best2 : Int) : List (Nat × T) := [(4, .d (eSl 1 true F2_ r_.1)), (6, .d (eSl 1 false (eI .u64) r_1)), (7, .d (.atom (.int .u64 best2))), (36, .d (.atom (.int .u64 (Je .u64 1 ((r_.1.length : Nat) : Int))))), (37, .d (.atom (.int .u64 x37)))]
abbrev Uf (r_ : List (List Int) × Int) (r_1 : List Int) (x37 : Int) (r_3 : Int) (r_4 : Int) (x61 : Bool) : List (Nat × T) := [(4, .d (eSl 1 true F2_ r_.1)), (6, .d (eSl 1 false (eI .u64) r_1)), (8, .d (.atom (.int .u64 x37))), (36, .d (.atom (.int .u64 (Je .u64 1 ((r_.1.length : Nat) : Int))))), (37, .d (.atom (.int .u64 x37))), (48, .d (I r_3)), (49, .d (I r_4)), (50, .d (B (r_3 == r_4))), (51, .d (B (r_3 == r_4))), (61, .d (B x61))]
abbrev Uc (r_ : List (List Int) × Int) (r_1 : List Int) (best1 : Int) (x37 : Int) (r_3 : Int) (r_4 : Int) (x61 : Bool) (x65 : Int) : List (Nat × T) := [(4, .d (eSl 1 true F2_ r_.1)), (6, .d (eSl 1 false (eI .u64) r_1)), (7, .d (.atom (.int .u64 best1))), (8, .d (.atom (.int .u64 x37))), (36, .d (.atom (.int .u64 (Je .u64 1 ((r_.1.length : Nat) : Int))))), (37, .d (.atom (.int .u64 x37))), (48, .d (I r_3)), (49, .d (I r_4)), (50, .d (B (r_3 == r_4))), (51, .d (B (r_3 == r_4))), (61, .d (B x61)), (63, .d (eSl 1 false (eI .u64) r_1)), (64, .d (I ((r_1.length : Nat) : Int))), (65, .d (I x65))]
abbrev Ug (r_ : List (List Int) × Int) (r_1 : List Int) (best1 : Int) (x37 : Int) (r_3 : Int) (r_4 : Int) (x61 : Bool) : List (Nat × T) := [(4, .d (eSl 1 true F2_ r_.1)), (6, .d (eSl 1 false (eI .u64) r_1)), (7, .d (.atom (.int .u64 best1))), (8, .d (.atom (.int .u64 x37))), (36, .d (.atom (.int .u64 (Je .u64 1 ((r_.1.length : Nat) : Int))))), (37, .d (.atom (.int .u64 x37))), (48, .d (I r_3)), (49, .d (I r_4)), (50, .d (B (r_3 == r_4))), (51, .d (B (r_3 == r_4))), (61, .d (B x61))]
abbrev Ud (r_ : List (List Int) × Int) (r_1 : List Int) (best1 : Int) (x37 : Int) : List (Nat × T) := [(4, .d (eSl 1 true F2_ r_.1)), (6, .d (eSl 1 false (eI .u64) r_1)), (7, .d (.atom (.int .u64 best1))), (36, .d (.atom (.int .u64 (Je .u64 1 ((r_.1.length : Nat) : Int))))), (37, .d (.atom (.int .u64 x37)))]
theorem JK {ctr : Ctr} (hC : zx Tryz.prog ctr) (h07 : ctr.Has jT) (h1n : ctr.Has jB) (h0B : ctr.Has uW) (h1o : ctr.Has ZZ) : jq.Ok Tryz.prog := by
 refine zB ?_
 rintro m_ r0 hf0
 try unfold w9 at hf0
 refine yO false [(2, none), (3, none)] y9 95 Tryz.func17 fun E hE => ?_
 refine yA X0 hC y9 [1] [] [(1, .own (.box (yq m_)))] [] ?_
 refine z48 (c' := (sub [1,0] y9)) (by kernel_rfl) (za3 _) ?_
 obtain ⟨r_, h0, hf0⟩ := zg hf0
 let Z0 : List HO := [Hc h07 (x := m_) h0 (loC yq m_ <| loN)]
 rcases zO hf0 with ⟨c0, hf0⟩ | ⟨c0, hf0⟩
 ·obtain rfl := zb hf0
  exact yEx X0 hC hE (Z0 ++ [Hq c0, Hm (shM F3_ F3_ [])]) (.tup [eSl 1 true F2_ [], I r_.2]) (show LeV (.tup [eSl 1 true F2_ [], I r_.2]) (.tup [eSl 1 true F2_ ([] : List (List Int)), I r_.2]) from inferInstance)
 ·let Z1 : List HO := (Z0 ++ [Hq c0, Ha (lnM F2_ r_.1)])
  rcases zO hf0 with ⟨c1, hf0⟩ | ⟨c1, hf0⟩
  ·obtain rfl := zb hf0
   exact yEx X0 hC hE (Z1 ++ [Hq c1, Hm (shM F3_ F3_ [])]) (.tup [eSl 1 true F2_ [], I 3]) (show LeV (.tup [eSl 1 true F2_ [], I 3]) (.tup [eSl 1 true F2_ ([] : List (List Int)), I 3]) from inferInstance)
  ·obtain ⟨r_1, h1, hf0⟩ := zg hf0
   obtain ⟨g0, hf0⟩ := gdE hf0
   refine yJ ((zez Tryz.prog).or X0) hC y9 [1,0,1,1,1,1,1,1] [] [4,7] (fun z : Int => jw r_ z = some r0) (fun z => Uk r_ z) [(4, .d (eSl 1 true F2_ r_.1)), (6, .d (eSl 1 false (eI .u64) r_1)), (7, .d (.atom (.int .u64 (IntKind.u64.wrap ((Je .u64 1 ((r_.1.length : Nat) : Int)) - 1)))))] (Z1 ++ [Hq c1, Hc h1n (x := (m_, r_.1)) h1 (loC yq m_ <| loC F7_ r_.1 <| loN), Ha (lnM F2_ r_.1), Hn g0, Hh (.cut 1)]) ?_ fun J1 hJ1 => ?_
   ·rintro best hf0
    unfold jw at hf0
    refine yJ X0 hC y9 [1,0,1,1,1,1,1,1,1,1] [] [13] (fun z : List (List Int) => jv z = some r0) (fun z => Uj z) [(4, .d (eSl 1 true F2_ r_.1)), (7, .d (.atom (.int .u64 best))), (13, .own (eOs 1 true F3_ []))] [Hh (.cut 1)] ?_ fun J2 hJ2 => ?_
    ·rintro out hf0
     unfold jv at hf0
     obtain ⟨r_2, h2, hf0⟩ := zg hf0
     obtain rfl := zb hf0
     exact yE ((QX zu (jb hC) 94).or X0) hC hE [Hh (.g [true]), Hn qN, Hx (.a (F8_ r_2)) (qM out _ h2), Hm (shM F2_ F2_ r_2)]
    ·obtain ⟨t3, ht3, hf0⟩ := zg hf0
     refine yLx X0 hC y9 [1,0,1,1,1,1,1,1,1,1,2,1,0] [J2] (fun s => xR r_ best s.1 s.2) (fun x => Ue r_ best x.1 x.2) (([] : List (List Int)), 0) ht3 [(7, .d (.atom (.int .u64 best))), (13, .own (eOs 1 true F2_ [])), (76, .d (eSl 1 true F2_ r_.1)), (77, .d (I ((r_.1.length : Nat) : Int))), (78, .d (I 0))] inferInstance [Ha (lnM F2_ r_.1)] ?_
     rintro ⟨out1, x78⟩ m3 lr1 hf1 hl1 J3 hJ3
     try unfold xR at hf1
     rcases zO hf1 with ⟨c2, hf1⟩ | ⟨c2, hf1⟩
     ·refine yJ X0 hC y9 [1,0,1,1,1,1,1,1,1,1,2,1,0,0,1,1] [J2, J3] [7,13,76,77,78] (fun z : List (List Int) => uO x78 z = some lr1) (fun z => Ui r_ best x78 z) [(7, .d (.atom (.int .u64 best))), (13, .own (eOs 1 false F2_ out1)), (76, .d (eSl 1 true F2_ r_.1)), (77, .d (I ((r_.1.length : Nat) : Int))), (78, .d (I x78))] [Hq c2, Hh (.cut 0)] ?_ fun J4 hJ4 => ?_
      ·rintro out2 hf1
       unfold uO at hf1
       obtain rfl := zb hf1
       exact yB X0 hC hJ3 (out2, w64 (x78 + 1)) hl1 []
      ·obtain ⟨u_, h3, hf1⟩ := zg hf1
       obtain ⟨g1, hf1⟩ := gdE hf1
       let Z2 : List HO := [Hi F2_ h3, Hn g1]
       rcases zO hf1 with ⟨c3, hf1⟩ | ⟨c3, hf1⟩
       ·obtain ⟨g2, hf1⟩ := gdE hf1
        exact yB ((z3g Tryz.prog).or ((zey Tryz.prog).or X0)) hC hJ4 (out1 ++ ([u_] : List (List Int))) hf1 (Z2 ++ [Hq c3, Hq (dM F2_ ([u_] : List (List Int))), Hn (dM F2_ ([u_] : List (List Int))), Hn (aL F2_ F2_ g2), Hl (aM F2_ out1 ([u_] : List (List Int)))])
       ·exact yB ((z3g Tryz.prog).or ((zey Tryz.prog).or X0)) hC hJ4 out1 hf1 (Z2 ++ [Hq c3])
     ·obtain rfl := zb hf1
      obtain rfl := hl1
      exact yB X0 hC hJ2 out1 hf0 [Hq c2]
   ·obtain ⟨g3, hf0⟩ := gdE hf0
    obtain ⟨t5, ht5, hf0⟩ := zg hf0
    refine yL ((zez Tryz.prog).or X0) hC y9 [1,0,1,1,1,1,1,1,2,1,0] [J1] (fun s => uN r_ r_1 s.1 s.2) (fun x => Ud r_ r_1 x.1 x.2) (IntKind.u64.wrap ((Je .u64 1 ((r_.1.length : Nat) : Int)) - 1), 0) ht5  [Ha (lnM F2_ r_.1), Hn g3] ?_
    rintro ⟨best1, x37⟩ m5 lr1 hf1 hl1 J5 hJ5
    try unfold uN at hf1
    rcases zO hf1 with ⟨c4, hf1⟩ | ⟨c4, hf1⟩
    ·refine yJ X0 hC y9 [1,0,1,1,1,1,1,1,2,1,0,0,1,1] [J1, J5] [4,6,7,36,37] (fun z : Int => yi x37 z = some lr1) (fun z => Uh r_ r_1 x37 z) [(4, .d (eSl 1 true F2_ r_.1)), (6, .d (eSl 1 false (eI .u64) r_1)), (7, .d (.atom (.int .u64 best1))), (36, .d (.atom (.int .u64 (Je .u64 1 ((r_.1.length : Nat) : Int))))), (37, .d (.atom (.int .u64 x37)))] [Hq c4, Hh (.cut 0)] ?_ fun J6 hJ6 => ?_
     ·rintro best2 hf1
      unfold yi at hf1
      obtain rfl := zb hf1
      exact yB X0 hC hJ5 (best2, IntKind.u64.wrap (x37 + 1)) hl1 []
     ·obtain ⟨r_3, h4, hf1⟩ := zg hf1
      obtain ⟨r_4, h5, hf1⟩ := zg hf1
      refine yJ X0 hC y9 [1,0,1,1,1,1,1,1,2,1,0,0,1,1,2,0,1,1] [J1, J5, J6] [4,6,7,8,36,37,48,49,50,51,61] (fun z : Bool => wz r_1 best1 x37 z = some lr1) (fun z => Ug r_ r_1 best1 x37 r_3 r_4 z) [(4, .d (eSl 1 true F2_ r_.1)), (6, .d (eSl 1 false (eI .u64) r_1)), (7, .d (.atom (.int .u64 best1))), (8, .d (.atom (.int .u64 x37))), (9, .d (I r_3)), (10, .d (I r_4)), (36, .d (.atom (.int .u64 (Je .u64 1 ((r_.1.length : Nat) : Int))))), (37, .d (.atom (.int .u64 x37)))] [Hc h0B (x := x37) h4 (loC (eI .u64) x37 <| loN), Hc h0B (x := best1) h5 (loC (eI .u64) best1 <| loN), Hh (.cut 0)] ?_ fun J7 hJ7 => ?_
      ·rintro x61 hf1
       unfold wz at hf1
       refine yJ X0 hC y9 [1,0,1,1,1,1,1,1,2,1,0,0,1,1,2,0,1,1,1] [J1, J5, J6] [4,6,8,36,37,48,49,50,51,61] (fun z : Unit => ju x37 = some lr1) (fun z => Uf r_ r_1 x37 r_3 r_4 x61) [(4, .d (eSl 1 true F2_ r_.1)), (6, .d (eSl 1 false (eI .u64) r_1)), (7, .d (.atom (.int .u64 best1))), (8, .d (.atom (.int .u64 x37))), (36, .d (.atom (.int .u64 (Je .u64 1 ((r_.1.length : Nat) : Int))))), (37, .d (.atom (.int .u64 x37))), (48, .d (I r_3)), (49, .d (I r_4)), (50, .d (B (r_3 == r_4))), (51, .d (B (r_3 == r_4))), (61, .d (B x61))] [Hh (.cut 0)] ?_ fun J8 hJ8 => ?_
       ·rintro ⟨⟩ hf1
        unfold ju at hf1
        exact yB X0 hC hJ6 x37 hf1 []
       ·obtain ⟨t9, ht9, hf1⟩ := zg hf1
        refine yL X0 hC y9 [1,0,1,1,1,1,1,1,2,1,0,0,1,1,2,0,1,1,1,2,1,0] [J1, J5, J6, J8] (fun s => vj r_1 best1 x37 s) (fun x => Uc r_ r_1 best1 x37 r_3 r_4 x61 x) 0 ht9  [Ha (lnM (eI .u64) r_1)] ?_
        rintro x65 m9 lr2 hf2 hl2 J9 hJ9
        try unfold vj at hf2
        rcases zO hf2 with ⟨c5, hf2⟩ | ⟨c5, hf2⟩
        ·obtain ⟨r__e, h6, hf2⟩ := zg hf2
         rcases zO hf2 with ⟨c6, hf2⟩ | ⟨c6, hf2⟩
         ·obtain rfl := zb hf2
          obtain rfl := hl2
          exact yB ((z3g Tryz.prog).or X0) hC hJ6 best1 hf1 [Hq c5, Hi (eI .u64) h6, Hq c6]
         ·obtain rfl := zb hf2
          exact yB ((z3g Tryz.prog).or X0) hC hJ9 (w64 (x65 + 1)) hl2 [Hq c5, Hi (eI .u64) h6, Hq c6]
        ·obtain rfl := zb hf2
         obtain rfl := hl2
         exact yB X0 hC hJ8 () hf1 [Hq c5]
      ·rcases zO hf1 with ⟨c7, hf1⟩ | ⟨c7, hf1⟩
       ·exact yB X0 hC hJ6 best1 hf1 (rpN 6 (Hq c7) [qT])
       ·let Z3 : List HO := (rpN 4 (Hq c7) [])
        rcases zO hf1 with ⟨c8, hf1⟩ | ⟨c8, hf1⟩
        ·let Z4 : List HO := (Z3 ++ (rpN 4 (Hq c8) []))
         rcases zO hf1 with ⟨c9, hf1⟩ | ⟨c9, hf1⟩
         ·exact yB X0 hC hJ6 best1 hf1 (Z4 ++ (rpN 4 (Hq c9) [Hq c8, Hq c9, Hq c7, Hq c8, Hq c7, qT]))
         ·obtain ⟨r_5, h7, hf1⟩ := zg hf1
          let Z5 : List HO := (Z4 ++ [Hq c9, Hq c9, Hq c9, Hc h1o (x := (x37, best1)) h7 (loC (eI .u64) x37 <| loC (eI .u64) best1 <| loN), Hq c9, Hq c8, Hq c9, Hq c7, Hq c8, Hq c7])
          rcases zO hf1 with ⟨c10, hf1⟩ | ⟨c10, hf1⟩
          ·exact yB X0 hC hJ6 best1 hf1 (Z5 ++ [Hq c10])
          ·exact yB X0 hC hJ7 (!r_5) hf1 (Z5 ++ [Hq c10])
        ·exact yB X0 hC hJ7 false hf1 (Z3 ++ (rpN 5 (Hq c8) [Hq c7, Hq c8, Hq c7, qF]))
    ·obtain rfl := zb hf1
     obtain rfl := hl1
     exact yB X0 hC hJ1 best1 hf0 [Hq c4]
def X8 : Code := (Tryz.f110.body).getD .skip
def X1 : zS := spF (α := List (List Int)) (ρ := Bool) 110 (fun x => [vL x]) (fun r => eB r) (fun x => VD x) [] (WA)
abbrev QH : List (Nat × T) := []
abbrev QG (l_ : List (List Int)) (i_ : Int) : List (Nat × T) := [(0, .d (eSl 1 false F3_ l_)), (3, .d (I i_))]
theorem z0F {ctr : Ctr} (hC : zx Tryz.prog ctr) (h0f : ctr.Has uH) : X1.Ok Tryz.prog := by
 refine zB ?_
 rintro l_ r0 hf0
 try unfold VD at hf0
 refine yO true [(2, none)] X8 21 Tryz.func110 fun E hE => ?_
 refine yJ X0 hC X8 [1] [] [] (fun z : Unit => YZ = some r0) (fun z => QH) [(0, .d (eSl 1 false F3_ l_))] [Hh (.cut 1)] ?_ fun J1 hJ1 => ?_
 ·rintro ⟨⟩ hf0
  unfold YZ at hf0
  obtain rfl := zb hf0
  exact yE X0 hC hE []
 ·obtain ⟨t2, ht2, hf0⟩ := zg hf0
  refine yL X0 hC X8 [1,2,1,0] [J1] (fun s => YX l_ s) (fun x => QG l_ x) 1 ht2  [] ?_
  rintro i_ m2 lr1 hf1 hl1 J2 hJ2
  try unfold YX at hf1
  let Z0 : List HO := [Ha (lnM F3_ l_)]
  rcases zO hf1 with ⟨c0, hf1⟩ | ⟨c0, hf1⟩
  ·obtain ⟨l__e, h0, hf1⟩ := zg hf1
   obtain ⟨l__e1, h1, hf1⟩ := zg hf1
   obtain ⟨r_, h2, hf1⟩ := zg hf1
   let Z1 : List HO := (Z0 ++ [Hq c0, Hi F3_ h0, Hi F3_ h1, Hc h0f (x := (l__e, l__e1)) h2 (loC F3_ l__e <| loC F3_ l__e1 <| loN)])
   rcases zO hf1 with ⟨c1, hf1⟩ | ⟨c1, hf1⟩
   ·obtain rfl := zb hf1
    obtain rfl := hl1
    obtain rfl := zb hf0
    exact yE X0 hC hE (Z1 ++ [Hq c1])
   ·obtain rfl := zb hf1
    exact yB X0 hC hJ2 (w64 (i_ + 1)) hl1 (Z1 ++ [Hq c1])
  ·obtain rfl := zb hf1
   obtain rfl := hl1
   exact yB X0 hC hJ1 () hf0 (Z0 ++ [Hq c0])
def z00 : Code := (Tryz.f78.body).getD .skip
def X2 : zS := spF (α := List (List Int) × Int) (ρ := Int) 78 (fun x => [vL x.1, (eI .i64) x.2]) (fun r => (eI .i64) r) (fun x => VE x.1 x.2) [] (Vt)
theorem z0G {ctr : Ctr} (hC : zx Tryz.prog ctr) (h0t : ctr.Has kL) (h1p : ctr.Has X1) (h0k : ctr.Has kK) : X2.Ok Tryz.prog := by
 refine zB ?_
 rintro ⟨l_, inputs⟩ r0 hf0
 try unfold VE at hf0
 refine yO true [(4, none)] z00 18 Tryz.func78 fun E hE => ?_
 obtain ⟨r_, h0, hf0⟩ := zg hf0
 let Z0 : List HO := [Hc h0t (x := (l_, inputs)) h0 (loC vL l_ <| loC (eI .i64) inputs <| loN)]
 rcases zO hf0 with ⟨c0, hf0⟩ | ⟨c0, hf0⟩
 ·obtain rfl := zb hf0
  exact yE X0 hC hE (Z0 ++ [Hq c0])
 ·obtain ⟨r_1, h1, hf0⟩ := zg hf0
  let Z1 : List HO := (Z0 ++ [Hq c0, Hc h1p (x := l_) h1 (loC vL l_ <| loN)])
  rcases zO hf0 with ⟨c1, hf0⟩ | ⟨c1, hf0⟩
  ·obtain rfl := zb hf0
   exact yE X0 hC hE (Z1 ++ [Hq c1])
  ·obtain ⟨r_2, h2, hf0⟩ := zg hf0
   let Z2 : List HO := (Z1 ++ [Hq c1, Hc h0k (x := l_) h2 (loC vL l_ <| loN)])
   rcases zO hf0 with ⟨c2, hf0⟩ | ⟨c2, hf0⟩
   ·obtain rfl := zb hf0
    exact yE X0 hC hE (Z2 ++ [Hq c2])
   ·obtain rfl := zb hf0
    exact yE X0 hC hE (Z2 ++ [Hq c2])
def Kz : Code := (Tryz.f49.body).getD .skip
def qz : zS := spF (α := z6 × List (List Int)) (ρ := Int) 49 (fun x => [yq x.1, vL x.2]) (fun r => (eI .i64) r) (fun x => kV x.1 x.2) [] (Vt)
theorem KS {ctr : Ctr} (hC : zx Tryz.prog ctr) (h0h : ctr.Has wU) (h1q : ctr.Has X2) : qz.Ok Tryz.prog := by
 refine zB ?_
 rintro ⟨m_, l_⟩ r0 hf0
 try unfold kV at hf0
 refine yO true [(4, none)] Kz 15 Tryz.func49 fun E hE => ?_
 obtain ⟨r_, h0, hf0⟩ := zg hf0
 let Z0 : List HO := [Hc h0h (x := m_) h0 (loC yq m_ <| loN)]
 rcases zO hf0 with ⟨c0, hf0⟩ | ⟨c0, hf0⟩
 ·obtain rfl := zb hf0
  exact yE X0 hC hE (Z0 ++ [Hq c0])
 ·obtain ⟨r_1, h1, hf0⟩ := zg hf0
  obtain rfl := zb hf0
  exact yE X0 hC hE (Z0 ++ [Hq c0, Hc h1q (x := (l_, m_.Inputs)) h1 (loC vL l_ <| loC (eI .i64) m_.Inputs <| loN)])
def wk : Code := (Tryz.f18.body).getD .skip
def jS : zS := spF (α := z6 × List (List Int)) (ρ := Bool × Int) 18 (fun x => [yq x.1, vL x.2]) (fun r => .tup [eB r.1, (eI .i64) r.2]) (fun x => jI x.1 x.2) [] (Vt)
abbrev Q2 : List (Nat × T) := [(4, .own (.box (B false))), (5, .own (.box (I 0)))]
abbrev qm (all : List (List (List Int))) (r_1 : Int) : List (Nat × T) := [(4, .own (.box (B false))), (5, .own (.box (I 0))), (7, .own (.box (eOs 1 false F7_ all))), (34, .d (.fn 80 [.sptr (I r_1)]))]
abbrev Q3 (m_ : z6) (all : List (List (List Int))) : List (Nat × T) := [(2, .own (.box (yq m_))), (4, .own (.box (B false))), (5, .own (.box (I 0))), (7, .own (.box (eOs 1 false F7_ all)))]
abbrev Q1 (m_ : z6) (l_ : List (List Int)) (all1 : List (List (List Int))) (x20 : Int) : List (Nat × T) := [(1, .d (eSl 1 false F3_ l_)), (2, .own (.box (yq m_))), (4, .own (.box (B false))), (5, .own (.box (I 0))), (7, .own (.box (eOs 1 false F7_ all1))), (19, .d (I ((m_.Rows.length : Nat) : Int))), (20, .d (I x20))]
def yQ : XH Tryz.prog := ((Un zu (.inl 28) [27]).or X0)
theorem KV {ctr : Ctr} (hC : zx Tryz.prog ctr) (h0i : ctr.Has qz) (h06 : ctr.Has xX) (h05 : ctr.Has wV) (h09 : ctr.Has wW) : jS.Ok Tryz.prog := by
 refine zB ?_
 rintro ⟨m_, l_⟩ r0 hf0
 try unfold jI at hf0
 refine yO false [(4, some 4), (5, some 33)] wk 46 Tryz.func18 fun E hE => ?_
 obtain ⟨r_, h0, hf0⟩ := zg hf0
 let Z0 : List HO := [Hc h0i (x := (m_, l_)) h0 (loC yq m_ <| loC vL l_ <| loN)]
 rcases zO hf0 with ⟨c0, hf0⟩ | ⟨c0, hf0⟩
 ·obtain rfl := zb hf0
  exact yE yQ hC hE (Z0 ++ [Hq c0])
 ·refine yJ yQ hC wk [1,1,1] [] [2,4,5,7] (fun z : List (List (List Int)) => Yd m_ z = some r0) (fun z => Q3 m_ z) [(1, .d (eSl 1 false F3_ l_)), (2, .own (.box (yq m_))), (4, .own (.box (B false))), (5, .own (.box (I 0))), (7, .own (.box (eOs 1 true vL [])))] (Z0 ++ [Hq c0, Hh (.cut 1)]) ?_ fun J1 hJ1 => ?_
  ·rintro all hf0
   unfold Yd at hf0
   refine yJ yQ hC wk [1,1,1,1] [] [4,5] (fun z : Unit => Yc = some r0) (fun z => Q2) [(2, .own (.box (yq m_))), (4, .own (.box (B false))), (5, .own (.box (I 0))), (7, .own (.box (eOs 1 false F7_ all)))] [Hh (.cut 0)] ?_ fun J2 hJ2 => ?_
   ·rintro ⟨⟩ hf0
    unfold Yc at hf0
    obtain rfl := zb hf0
    exact yE yQ hC hE []
   ·obtain ⟨r_1, h1, hf0⟩ := zg hf0
    obtain ⟨t3, ht3, hf0⟩ := zg hf0
    refine yAt yQ hC (sub [1,1,1,1,2,1,0] wk) (frs [1,1,1,1,2,1,0] [J2] wk []) [(4, .own (.box (B false))), (5, .own (.box (I 0))), (7, .own (.box (eOs 1 false F7_ all))), (34, .d (.fn 80 [.sptr (I r_1)]))] [Ha (lnM uE m_.Rows), Hc h05 (x := ((m_.Rows.length : Nat) : Int)) h1 (loC (eI .i64) ((m_.Rows.length : Nat) : Int) <| loN)] fun st0 h0 => ?_
    refine VX (g := .tmp 34) (ps := [35,36]) (assign := (sub [1,1,1,1,2,1,0,0] wk)) (body := (sub [1,1,1,1,2,1,0,1] wk)) (K := 80) (caps := [.sptr (I r_1)]) (by kernel_rfl) [4,5,7,34] (fun s => qm all r_1) (fun s => qm all r_1) (fun s => Code.ret) ((fun (x : Int × Int) (_ : Bool) (_ : Value) => [(eI .i64) x.1, (eI .i64) x.2])) (F := @yP r_1) (fun s x => k8 all x.1 x.2) () t3 _ h0 inferInstance (by kernel_rfl) (by decide) (fun _ => rfl) (fun _ => rfl) (by kernel_rfl) (fun _ _ _ => rfl) (jp hC r_1) ht3 ?_ ?_
    ·rintro tv3 ⟨⟩ ⟨x35, x36⟩ vr lr1 hf1
     replace hf1 : k8 all x35 x36 = some lr1 := hf1
     unfold k8 at hf1
     refine yF yQ hC .normal [(4, .own (.box (B false))), (5, .own (.box (I 0))), (7, .own (.box (eOs 1 false F7_ all))), (9, .d (I x35)), (10, .d (I x36)), (34, .d (.fn 80 [.sptr (I r_1)]))] [] fun st0 h0 => ⟨rfl, z1l h0 ?_⟩
     obtain ⟨all_e, h2, hf1⟩ := zg hf1
     obtain ⟨all_e1, h3, hf1⟩ := zg hf1
     obtain ⟨r_2, h4, hf1⟩ := zg hf1
     let Z1 : List HO := [Hn (iL F7_ h2), Hs (iM F7_ h2), Hn (iL F7_ h3), Hs (iM F7_ h3), Hc h09 (x := (all_e, all_e1)) h4 (loC F7_ all_e <| loC F7_ all_e1 <| loN)]
     rcases zO hf1 with ⟨c1, hf1⟩ | ⟨c1, hf1⟩
     ·obtain rfl := zb hf1
      exact yF yQ hC .ret (qm all r_1) (Z1 ++ [Hq c1]) fun st0 h0 => ⟨rfl, _, h0, LeL.refl _⟩
     ·obtain rfl := zb hf1
      exact yF yQ hC .normal (qm all r_1) (Z1 ++ [Hq c1]) fun st0 h0 => ⟨rfl, _, h0, LeL.refl _⟩
    ·rcases t3 with ⟨⟩ | z
     ·dsimp only at hf0
      exact Zb (by kernel_rfl) (hJ2 _ [(4, .own (.box (B false))), (5, .own (.box (I 0)))] () hf0 (show Own.canon [4,5] _ = ofL _ by kernel_rfl) inferInstance)
     ·obtain ⟨⟩ := z
      dsimp only at hf0
      show AWP _ _ (Code.ret) _ _
      obtain rfl := zb hf0
      exact yE yQ hC hE []
  ·obtain ⟨t4, ht4, hf0⟩ := zg hf0
   refine yLx yQ hC wk [1,1,1,2,1,0] [J1] (fun s => Yb m_ l_ s.1 s.2) (fun x => Q1 m_ l_ x.1 x.2) (([] : List (List (List Int))), 0) ht4 [(1, .d (eSl 1 false F3_ l_)), (2, .own (.box (yq m_))), (4, .own (.box (B false))), (5, .own (.box (I 0))), (7, .own (.box (eOs 1 true F7_ []))), (19, .d (I ((m_.Rows.length : Nat) : Int))), (20, .d (I 0))] inferInstance [Ha (lnM uE m_.Rows)] ?_
   rintro ⟨all1, x20⟩ m4 lr1 hf1 hl1 J4 hJ4
   try unfold Yb at hf1
   rcases zO hf1 with ⟨c2, hf1⟩ | ⟨c2, hf1⟩
   ·obtain ⟨r_3, h5, hf1⟩ := zg hf1
    obtain ⟨g0, hf1⟩ := gdE hf1
    obtain rfl := zb hf1
    exact yB yQ hC hJ4 ((all1 ++ ([r_3] : List (List (List Int)))), w64 (x20 + 1)) hl1 [Hq c2, Hc h06 (x := (m_, l_, x20)) h5 (loC yq m_ <| loC vL l_ <| loC (eI .i64) x20 <| loN), Hm (shM F2_ F2_ r_3), Hq (dM F7_ ([r_3] : List (List (List Int)))), Hn (dM F7_ ([r_3] : List (List (List Int)))), Hn (aL F7_ F7_ g0), Hl (aM F7_ all1 ([r_3] : List (List (List Int))))]
   ·obtain rfl := zb hf1
    obtain rfl := hl1
    exact yB yQ hC hJ1 all1 hf0 [Hq c2]
def Vg : Code := (Tryz.f57.body).getD .skip
def vN : zS := spF (α := List Int × List Int) (ρ := Bool) 57 (fun x => [F3_ x.1, F3_ x.2]) (fun r => eB r) (fun x => kF x.1 x.2) [] (Vt)
theorem VC {ctr : Ctr} (hC : zx Tryz.prog ctr) : vN.Ok Tryz.prog := by
 refine zB ?_
 rintro ⟨a_, b_⟩ r0 hf0
 try unfold kF at hf0
 refine yO true [(4, none)] Vg 10 Tryz.func57 fun E hE => ?_
 obtain rfl := zb hf0
 exact yE X0 hC hE [Ha (lnM (eI .i64) a_), Ha (lnM (eI .i64) b_)]
def yC : Code := (Tryz.f56.body).getD .skip
def w7 : zS := spF (α := List (List Int) × List (List Int) × Unit) (ρ := Bool) 56 (fun x => [vL x.1, vL x.2.1, (z35 57) x.2.2]) (fun r => eB r) (fun x => xc x.1 x.2.1 x.2.2) [] (by
 rintro ⟨a0, a1, a2⟩ ⟨b0, b1, b2⟩ h
 have e0 := Zt.inj (f := vL) _ _ (List.cons.inj h).1
 replace h := (List.cons.inj h).2
 have e1 := Zt.inj (f := vL) _ _ (List.cons.inj h).1
 replace h := (List.cons.inj h).2
 have e2 := Zt.inj (f := (z35 57)) _ _ (List.cons.inj h).1
 subst e0 e1 e2
 rfl)
abbrev uD : List (Nat × T) := []
abbrev uC (s1 : List (List Int)) (s2 : List (List Int)) (x17 : Int) : List (Nat × T) := [(1, .d (eSl 1 false F3_ s2)), (2, .d (.fn 57 [])), (15, .d (eSl 1 false F3_ s1)), (16, .d (I ((s1.length : Nat) : Int))), (17, .d (I x17))]
theorem wb {ctr : Ctr} (hC : zx Tryz.prog ctr) (h0l : ctr.Has vN) : w7.Ok Tryz.prog := by
 refine zB ?_
 rintro ⟨s1, s2, eq⟩ r0 hf0
 try unfold xc at hf0
 refine yO true [(6, none)] yC 32 Tryz.func56 fun E hE => ?_
 let Z0 : List HO := [Ha (lnM F3_ s1), Ha (lnM F3_ s2)]
 rcases zO hf0 with ⟨c0, hf0⟩ | ⟨c0, hf0⟩
 ·obtain rfl := zb hf0
  exact yE X0 hC hE (Z0 ++ [Hq c0])
 ·refine yJ X0 hC yC [1,1] [] [] (fun z : Unit => yx = some r0) (fun z => uD) [(0, .d (eSl 1 false F3_ s1)), (1, .d (eSl 1 false F3_ s2)), (2, .d (.fn 57 []))] (Z0 ++ [Hq c0, Hh (.cut 0)]) ?_ fun J1 hJ1 => ?_
  ·rintro ⟨⟩ hf0
   unfold yx at hf0
   obtain rfl := zb hf0
   exact yE X0 hC hE []
  ·obtain ⟨t2, ht2, hf0⟩ := zg hf0
   refine yL X0 hC yC [1,1,2,1,0] [J1] (fun s => yw s1 s2 s) (fun x => uC s1 s2 x) 0 ht2  [Ha (lnM F3_ s1)] ?_
   rintro x17 m2 lr1 hf1 hl1 J2 hJ2
   try unfold yw at hf1
   rcases zO hf1 with ⟨c1, hf1⟩ | ⟨c1, hf1⟩
   ·obtain ⟨s_e, h0, hf1⟩ := zg hf1
    obtain ⟨s_e1, h1, hf1⟩ := zg hf1
    obtain ⟨r_, h2, hf1⟩ := zg hf1
    let Z1 : List HO := [Hq c1, Hi F3_ h0, Hi F3_ h1, Hc h0l (x := (s_e, s_e1)) h2 (loC F3_ s_e <| loC F3_ s_e1 <| loN)]
    rcases zO hf1 with ⟨c2, hf1⟩ | ⟨c2, hf1⟩
    ·obtain rfl := zb hf1
     obtain rfl := hl1
     obtain rfl := zb hf0
     exact yE X0 hC hE (Z1 ++ [Hq c2])
    ·obtain rfl := zb hf1
     exact yB X0 hC hJ2 (w64 (x17 + 1)) hl1 (Z1 ++ [Hq c2])
   ·obtain rfl := zb hf1
    obtain rfl := hl1
    exact yB X0 hC hJ1 () hf0 [Hq c1]
def qj : Code := (Tryz.f25.body).getD .skip
def uY : zS := spF (α := z6 × List (List Int) × List (List Int)) (ρ := List Int × Int) 25 (fun x => [yq x.1, vL x.2.1, vL x.2.2]) (fun r => .tup [F2_ r.1, (eI .i64) r.2]) (fun x => wj x.1 x.2.1 x.2.2) [] (z8W)
abbrev WO (out : List Int) : List (Nat × T) := [(9, .own (eOs 1 false (eI .i64) out))]
abbrev WN (m_ : z6) (l_ : List (List Int)) (responses : List (List Int)) (x24 : Int) (out2 : List Int) : List (Nat × T) := [(1, .d (eSl 1 false F3_ l_)), (2, .d (eSl 1 false F3_ responses)), (3, .own (.box (yq m_))), (9, .own (eOs 1 false (eI .i64) out2)), (23, .d (I ((m_.Rows.length : Nat) : Int))), (24, .d (I x24))]
abbrev WL (m_ : z6) (l_ : List (List Int)) (responses : List (List Int)) (out1 : List Int) (x24 : Int) : List (Nat × T) := [(1, .d (eSl 1 false F3_ l_)), (2, .d (eSl 1 false F3_ responses)), (3, .own (.box (yq m_))), (9, .own (eOs 1 false (eI .i64) out1)), (23, .d (I ((m_.Rows.length : Nat) : Int))), (24, .d (I x24))]
theorem Qc {ctr : Ctr} (hC : zx Tryz.prog ctr) (h0i : ctr.Has qz) (h0l : ctr.Has vN) (h06 : ctr.Has xX) (h09 : ctr.Has wW) (h01 : ctr.Has yn) : uY.Ok Tryz.prog := by
 refine zB ?_
 rintro ⟨m_, l_, responses⟩ r0 hf0
 try unfold wj at hf0
 refine yO false [(6, none), (7, none)] qj 40 Tryz.func25 fun E hE => ?_
 obtain ⟨r_, h0, hf0⟩ := zg hf0
 let Z0 : List HO := [Hc h0i (x := (m_, l_)) h0 (loC yq m_ <| loC vL l_ <| loN)]
 rcases zO hf0 with ⟨c0, hf0⟩ | ⟨c0, hf0⟩
 ·obtain rfl := zb hf0
  exact yEx X0 hC hE (Z0 ++ [Hq c0, Hm (shM (eI .i64) (eI .i64) [])]) (.tup [eSl 1 true (eI .i64) [], I r_]) (show LeV (.tup [eSl 1 true (eI .i64) [], I r_]) (.tup [eSl 1 true (eI .i64) ([] : List Int), I r_]) from inferInstance)
 ·obtain ⟨r_1, h1, hf0⟩ := zg hf0
  let Z1 : List HO := (Z0 ++ [Hq c0, Hc (Ctr.add_has Vu w7) (x := (l_, responses, ())) h1 (loC vL l_ <| loC vL responses <| loC (z35 57) () <| loN)])
  rcases zO hf0 with ⟨c1, hf0⟩ | ⟨c1, hf0⟩
  ·obtain rfl := zb hf0
   exact yEx ((QX zu (wb hC h0l) 19).or X0) hC hE (Z1 ++ [Hq c1, Hm (shM (eI .i64) (eI .i64) [])]) (.tup [eSl 1 true (eI .i64) [], I 16]) (show LeV (.tup [eSl 1 true (eI .i64) [], I 16]) (.tup [eSl 1 true (eI .i64) ([] : List Int), I 16]) from inferInstance)
  ·refine yJ ((QX zu (wb hC h0l) 19).or X0) hC qj [1,1,1,1] [] [9] (fun z : List Int => ka z = some r0) (fun z => WO z) [(1, .d (eSl 1 false F3_ l_)), (2, .d (eSl 1 false F3_ responses)), (3, .own (.box (yq m_))), (9, .own (eOs 1 true (eI .i64) []))] (Z1 ++ [Hq c1, Hh (.cut 1)]) ?_ fun J1 hJ1 => ?_
   ·rintro out hf0
    unfold ka at hf0
    obtain ⟨r_2, h2, hf0⟩ := zg hf0
    obtain rfl := zb hf0
    exact yE X0 hC hE [Hg (Jx h01), Hm (shM (eI .i64) (eI .i64) out), Hs (Jy h01 (x := out) h2 (loC F3_ out <| loN)), Hm (shM (eI .i64) (eI .i64) out)]
   ·obtain ⟨t2, ht2, hf0⟩ := zg hf0
    refine yLx X0 hC qj [1,1,1,1,2,1,0] [J1] (fun s => k9 m_ l_ responses s.1 s.2) (fun x => WL m_ l_ responses x.1 x.2) (([] : List Int), 0) ht2 [(1, .d (eSl 1 false F3_ l_)), (2, .d (eSl 1 false F3_ responses)), (3, .own (.box (yq m_))), (9, .own (eOs 1 true (eI .i64) [])), (23, .d (I ((m_.Rows.length : Nat) : Int))), (24, .d (I 0))] inferInstance [Ha (lnM uE m_.Rows)] ?_
    rintro ⟨out1, x24⟩ m2 lr1 hf1 hl1 J2 hJ2
    try unfold k9 at hf1
    rcases zO hf1 with ⟨c2, hf1⟩ | ⟨c2, hf1⟩
    ·refine yJ X0 hC qj [1,1,1,1,2,1,0,0,1,1] [J1, J2] [1,2,3,9,23,24] (fun z : List Int => qg x24 z = some lr1) (fun z => WN m_ l_ responses x24 z) [(1, .d (eSl 1 false F3_ l_)), (2, .d (eSl 1 false F3_ responses)), (3, .own (.box (yq m_))), (9, .own (eOs 1 false (eI .i64) out1)), (23, .d (I ((m_.Rows.length : Nat) : Int))), (24, .d (I x24))] [Hq c2, Hh (.cut 0)] ?_ fun J3 hJ3 => ?_
     ·rintro out2 hf1
      unfold qg at hf1
      obtain rfl := zb hf1
      exact yB X0 hC hJ2 (out2, w64 (x24 + 1)) hl1 []
     ·obtain ⟨r_3, h3, hf1⟩ := zg hf1
      obtain ⟨r_4, h4, hf1⟩ := zg hf1
      let Z2 : List HO := [Hc h06 (x := (m_, l_, x24)) h3 (loC yq m_ <| loC vL l_ <| loC (eI .i64) x24 <| loN), Hg (Jx h09), Hm (shM F2_ F2_ r_3), Hs (Jy h09 (x := (r_3, responses)) h4 (loC F7_ r_3 <| loC vL responses <| loN))]
      rcases zO hf1 with ⟨c3, hf1⟩ | ⟨c3, hf1⟩
      ·obtain ⟨g0, hf1⟩ := gdE hf1
       exact yB X0 hC hJ3 (out1 ++ ([x24] : List Int)) hf1 (Z2 ++ [Hq c3, Hq (dM (eI .i64) ([x24] : List Int)), Hn (dM (eI .i64) ([x24] : List Int)), Hn (aL (eI .i64) (eI .i64) g0), Hl (aM (eI .i64) out1 ([x24] : List Int))])
      ·exact yB X0 hC hJ3 out1 hf1 (Z2 ++ [Hq c3])
    ·obtain rfl := zb hf1
     obtain rfl := hl1
     exact yB X0 hC hJ1 out1 hf0 [Hq c2]
def Zq : Code := (Tryz.f65.body).getD .skip
def Zj : zS := spF (α := List Int × List Int) (ρ := Int) 65 (fun x => [F3_ x.1, F3_ x.2]) (fun r => (eI .i64) r) (fun x => Xv x.1 x.2) [] (Vt)
abbrev Ub : List (Nat × T) := []
abbrev Ua (a_ : List Int) (b_ : List Int) (i_ : Int) : List (Nat × T) := [(0, .d (eSl 1 false (eI .i64) a_)), (1, .d (eSl 1 false (eI .i64) b_)), (5, .d (I i_))]
theorem JG {ctr : Ctr} (hC : zx Tryz.prog ctr) : Zj.Ok Tryz.prog := by
 refine zB ?_
 rintro ⟨a_, b_⟩ r0 hf0
 try unfold Xv at hf0
 refine yO true [(4, none)] Zq 40 Tryz.func65 fun E hE => ?_
 let Z0 : List HO := [Ha (lnM (eI .i64) a_), Ha (lnM (eI .i64) b_)]
 rcases zO hf0 with ⟨c0, hf0⟩ | ⟨c0, hf0⟩
 ·let Z1 : List HO := (Z0 ++ [Hq c0, Ha (lnM (eI .i64) a_), Ha (lnM (eI .i64) b_)])
  rcases zO hf0 with ⟨c1, hf0⟩ | ⟨c1, hf0⟩
  ·obtain rfl := zb hf0
   exact yE X0 hC hE (Z1 ++ [Hq c1])
  ·obtain rfl := zb hf0
   exact yE X0 hC hE (Z1 ++ [Hq c1])
 ·refine yJ X0 hC Zq [1,1] [] [] (fun z : Unit => Zo = some r0) (fun z => Ub) [(0, .d (eSl 1 false (eI .i64) a_)), (1, .d (eSl 1 false (eI .i64) b_))] (Z0 ++ [Hq c0, Hh (.cut 0)]) ?_ fun J1 hJ1 => ?_
  ·rintro ⟨⟩ hf0
   unfold Zo at hf0
   obtain rfl := zb hf0
   exact yE X0 hC hE []
  ·obtain ⟨t2, ht2, hf0⟩ := zg hf0
   refine yL X0 hC Zq [1,1,2,1,0] [J1] (fun s => Zn a_ b_ s) (fun x => Ua a_ b_ x) 0 ht2  [] ?_
   rintro i_ m2 lr1 hf1 hl1 J2 hJ2
   try unfold Zn at hf1
   rcases zO hf1 with ⟨c2, hf1⟩ | ⟨c2, hf1⟩
   ·obtain ⟨a__e, h0, hf1⟩ := zg hf1
    obtain ⟨b__e, h1, hf1⟩ := zg hf1
    let Z2 : List HO := [Ha (lnM (eI .i64) a_), Hq c2, Hi (eI .i64) h0, Hi (eI .i64) h1]
    rcases zO hf1 with ⟨c3, hf1⟩ | ⟨c3, hf1⟩
    ·obtain rfl := zb hf1
     obtain rfl := hl1
     obtain rfl := zb hf0
     exact yE X0 hC hE (Z2 ++ [Hq c3])
    ·obtain ⟨a__e1, h2, hf1⟩ := zg hf1
     obtain ⟨b__e1, h3, hf1⟩ := zg hf1
     let Z3 : List HO := (Z2 ++ [Hq c3, Hi (eI .i64) h2, Hi (eI .i64) h3])
     rcases zO hf1 with ⟨c4, hf1⟩ | ⟨c4, hf1⟩
     ·obtain rfl := zb hf1
      obtain rfl := hl1
      obtain rfl := zb hf0
      exact yE X0 hC hE (Z3 ++ [Hq c4])
     ·obtain rfl := zb hf1
      exact yB X0 hC hJ2 (w64 (i_ + 1)) hl1 (Z3 ++ [Hq c4])
   ·obtain rfl := zb hf1
    obtain rfl := hl1
    exact yB X0 hC hJ1 () hf0 [Ha (lnM (eI .i64) a_), Hq c2]
def XK : Code := (Tryz.f39.body).getD .skip
def Zx : zS := spF (α := List (List Int) × List (List Int)) (ρ := Bool) 39 (fun x => [vL x.1, vL x.2]) (fun r => eB r) (fun x => WR x.1 x.2) [] (Vt)
abbrev Jn : List (Nat × T) := []
abbrev Jm (a_ : List (List Int)) (b_ : List (List Int)) (i_ : Int) : List (Nat × T) := [(0, .d (eSl 1 false F3_ a_)), (1, .d (eSl 1 false F3_ b_)), (5, .d (I i_))]
theorem z1u {ctr : Ctr} (hC : zx Tryz.prog ctr) (h1r : ctr.Has Zj) : Zx.Ok Tryz.prog := by
 refine zB ?_
 rintro ⟨a_, b_⟩ r0 hf0
 try unfold WR at hf0
 refine yO true [(4, none)] XK 27 Tryz.func39 fun E hE => ?_
 let Z0 : List HO := [Ha (lnM F3_ a_), Ha (lnM F3_ b_)]
 rcases zO hf0 with ⟨c0, hf0⟩ | ⟨c0, hf0⟩
 ·obtain rfl := zb hf0
  exact yE X0 hC hE (Z0 ++ [Hq c0])
 ·refine yJ X0 hC XK [1,1] [] [] (fun z : Unit => Xx = some r0) (fun z => Jn) [(0, .d (eSl 1 false F3_ a_)), (1, .d (eSl 1 false F3_ b_))] (Z0 ++ [Hq c0, Hh (.cut 0)]) ?_ fun J1 hJ1 => ?_
  ·rintro ⟨⟩ hf0
   unfold Xx at hf0
   obtain rfl := zb hf0
   exact yE X0 hC hE []
  ·obtain ⟨t2, ht2, hf0⟩ := zg hf0
   refine yL X0 hC XK [1,1,2,1,0] [J1] (fun s => Xw a_ b_ s) (fun x => Jm a_ b_ x) 0 ht2  [] ?_
   rintro i_ m2 lr1 hf1 hl1 J2 hJ2
   try unfold Xw at hf1
   let Z1 : List HO := [Ha (lnM F3_ a_)]
   rcases zO hf1 with ⟨c1, hf1⟩ | ⟨c1, hf1⟩
   ·obtain ⟨a__e, h0, hf1⟩ := zg hf1
    obtain ⟨b__e, h1, hf1⟩ := zg hf1
    obtain ⟨r_, h2, hf1⟩ := zg hf1
    let Z2 : List HO := (Z1 ++ [Hq c1, Hi F3_ h0, Hi F3_ h1, Hc h1r (x := (a__e, b__e)) h2 (loC F3_ a__e <| loC F3_ b__e <| loN)])
    rcases zO hf1 with ⟨c2, hf1⟩ | ⟨c2, hf1⟩
    ·obtain rfl := zb hf1
     obtain rfl := hl1
     obtain rfl := zb hf0
     exact yE X0 hC hE (Z2 ++ [Hq c2])
    ·obtain rfl := zb hf1
     exact yB X0 hC hJ2 (w64 (i_ + 1)) hl1 (Z2 ++ [Hq c2])
   ·obtain rfl := zb hf1
    obtain rfl := hl1
    exact yB X0 hC hJ1 () hf0 (Z1 ++ [Hq c1])
def z1j : Code := (Tryz.f26.body).getD .skip
def Zy : zS := spF (α := List Int × List Int) (ρ := Bool) 26 (fun x => [F2_ x.1, F3_ x.2]) (fun r => eB r) (fun x => ZM x.1 x.2) [] (Vt)
theorem z1x {ctr : Ctr} (hC : zx Tryz.prog ctr) (h0m : ctr.Has Zx) : Zy.Ok Tryz.prog := by
 refine zB ?_
 rintro ⟨a_, b_⟩ r0 hf0
 try unfold ZM at hf0
 refine yO true [(4, none)] z1j 17 Tryz.func26 fun E hE => ?_
 obtain ⟨r_, h0, hf0⟩ := zg hf0
 let Z0 : List HO := [Hg (Jx h0m), Hm (shM F2_ F2_ ([a_])), Hm (shM F3_ F3_ ([b_])), Hs (Jy h0m (x := ([a_], [b_])) h0 (loC F7_ ([a_] : List (List Int)) <| loC F9_ ([b_] : List (List Int)) <| loN))]
 rcases zO hf0 with ⟨c0, hf0⟩ | ⟨c0, hf0⟩
 ·obtain rfl := zb hf0
  exact yE X0 hC hE (Z0 ++ [Hq c0, Hq c0, Ha (lnM (eI .i64) a_), Hq c0, Hq c0, Ha (lnM (eI .i64) a_), Hq c0, Hq c0])
 ·obtain rfl := zb hf0
  exact yE X0 hC hE (Z0 ++ (rpN 6 (Hq c0) []))
def z01 : Code := (Tryz.f41.body).getD .skip
def kM : zS := spF (α := Int × Int × Int) (ρ := Bool) 41 (fun x => [(eI .i64) x.1, (eI .i64) x.2.1, (eSp (eI .i64)) x.2.2]) (fun r => eB r) (fun x => Ya x.1 x.2.1 x.2.2) [] (z8W)
theorem z0I {ctr : Ctr} (hC : zx Tryz.prog ctr) : kM.Ok Tryz.prog := by
 refine zB ?_
 rintro ⟨a_, b_, x2⟩ r0 hf0
 try unfold Ya at hf0
 refine yO true [(5, none)] z01 14 Tryz.func41 fun E hE => ?_
 rcases zO hf0 with ⟨c0, hf0⟩ | ⟨c0, hf0⟩
 ·obtain rfl := zb hf0
  exact yE X0 hC hE (rpN 4 (Hq c0) [])
 ·obtain rfl := zb hf0
  exact yE X0 hC hE (rpN 4 (Hq c0) [])
end Go.Own
end
