/- -/
import Derived.Test.YtmedkleidpbgpaaGreatDoorPartE
noncomputable section
set_option linter.unusedVariables false
set_option linter.unusedSimpArgs false
namespace Go.Own
open Go.Proofs
set_option maxRecDepth 100000
set_option maxHeartbeats 8000000
def X0 : XH Tryz.prog := xB zC
theorem YL : Tryz.prog.follows .mixedOrders = true := by kernel_rfl
section
variable {ctr : Ctr} {n : Fr} {Q : Exit → St → Prop} {c : Code} {fs : List Fm} {st : St}
theorem yE (X : XH Tryz.prog) (hC : zO Tryz.prog ctr) {E : St → Prop} {r : A} {keep : Bool} {rs : List (Nat × Option Nat)} (hE : ∀ st x R U, z5s qd keep rs st = some (x, R, U) → LeV x r → E st) (L : List HO) (e : zaJ X qd ctr n keep rs 4000 c fs st (hoH L) = some (r, hoO L) := by kernel_rfl) : AWP Tryz.prog n c st (Qf Tryz.prog n fs (z6L E)) := yE6 X zC hC YL hE L e
theorem yEx (X : XH Tryz.prog) (hC : zO Tryz.prog ctr) {E : St → Prop} {r : A} {keep : Bool} {rs : List (Nat × Option Nat)} (hE : ∀ st x R U, z5s qd keep rs st = some (x, R, U) → LeV x r → E st) (L : List HO) (x : A) (hle : LeV x r) (e : zaJ X qd ctr n keep rs 4000 c fs st (hoH L) = some (x, hoO L) := by kernel_rfl) : AWP Tryz.prog n c st (Qf Tryz.prog n fs (z6L E)) := zet X zC hC YL hE L x hle e
theorem yB (X : XH Tryz.prog) (hC : zO Tryz.prog ctr) {τ : Type} {J : St → Prop} {live : List Nat} {S : τ → List (Nat × T)} {Inv : τ → Prop} (hJ : ∀ st' l' z, Inv z → Own.canon live st' = ofL l' → LeL l' (S z) → J st') (z : τ) (hz : Inv z) (L : List HO) (e : z1u X qd ctr n live 4000 c fs st (hoH L) = some (.back J, ofL (S z), hoO L) := by kernel_rfl) : AWP Tryz.prog n c st (Qf Tryz.prog n fs Q) := yB6 X zC hC YL hJ z hz L e
theorem yA (X : XH Tryz.prog) (hC : zO Tryz.prog ctr) (bd : Code) (path : List Nat) (Js : List (St → Prop)) (l : List (Nat × T)) (L : List HO) (h : AWP Tryz.prog n (sub path bd) (ofL l) (Qf Tryz.prog n (frs path Js bd []) Q)) (e : z1u X qd ctr n (VP l) 4000 c fs st (hoH L) = some (.at (sub path bd) (frs path Js bd []), ofL l, hoO L) := by kernel_rfl) : AWP Tryz.prog n c st (Qf Tryz.prog n fs Q) := yA6 X zC hC YL bd path Js l L e h
theorem yAt (X : XH Tryz.prog) (hC : zO Tryz.prog ctr) (c' : Code) (fs' : List Fm) (l : List (Nat × T)) (L : List HO) (h : ∀ st0, Own.canon (VP l) st0 = ofL l → AWP Tryz.prog n c' st0 (Qf Tryz.prog n fs' Q)) (e : z1u X qd ctr n (VP l) 4000 c fs st (hoH L) = some (.at c' fs', ofL l, hoO L) := by kernel_rfl) : AWP Tryz.prog n c st (Qf Tryz.prog n fs Q) := zeu X zC hC YL c' fs' l L e h
theorem yLx (X : XH Tryz.prog) (hC : zO Tryz.prog ctr) (bd : Code) (path : List Nat) (Js : List (St → Prop)) {σ τ : Type} (f : σ → Option (LR σ τ)) (S : σ → List (Nat × T)) (x0 : σ) {t : τ} (ht : loop f x0 = some t) (l : List (Nat × T)) (hl : LeL l (S x0)) (L : List HO) (round : ∀ x m lr, f x = some lr → zcr f m t lr → ∀ J : St → Prop, (∀ st' l' x', Vo f m x' = some t → Own.canon (VP l) st' = ofL l' → LeL l' (S x') → J st') → AWP Tryz.prog n (sub (path ++ [0]) bd) (ofL (S x)) (Qf Tryz.prog n (.pre J :: frs path Js bd []) Q)) (e : z1u X qd ctr n (VP l) 4000 c fs st (hoH L) = some (.at (sub path bd) (frs path Js bd []), ofL l, hoO L) := by kernel_rfl) (e2 : sub path bd = .loop (sub (path ++ [0]) bd) := by kernel_rfl) (hk : ∀ x, VP (S x) = VP l := by exact fun _ => rfl) : AWP Tryz.prog n c st (Qf Tryz.prog n fs Q) := yL6 X zC hC YL bd path Js f S x0 ht l hl L hk e e2 round
theorem yL (X : XH Tryz.prog) (hC : zO Tryz.prog ctr) (bd : Code) (path : List Nat) (Js : List (St → Prop)) {σ τ : Type} (f : σ → Option (LR σ τ)) (S : σ → List (Nat × T)) (x0 : σ) {t : τ} (ht : loop f x0 = some t) (L : List HO) (round : ∀ x m lr, f x = some lr → zcr f m t lr → ∀ J : St → Prop, (∀ st' l' x', Vo f m x' = some t → Own.canon (VP (S x0)) st' = ofL l' → LeL l' (S x') → J st') → AWP Tryz.prog n (sub (path ++ [0]) bd) (ofL (S x)) (Qf Tryz.prog n (.pre J :: frs path Js bd []) Q)) (e : z1u X qd ctr n (VP (S x0)) 4000 c fs st (hoH L) = some (.at (sub path bd) (frs path Js bd []), ofL (S x0), hoO L) := by kernel_rfl) (e2 : sub path bd = .loop (sub (path ++ [0]) bd) := by kernel_rfl) (hk : ∀ x, VP (S x) = VP (S x0) := by exact fun _ => rfl) : AWP Tryz.prog n c st (Qf Tryz.prog n fs Q) := yL6 X zC hC YL bd path Js f S x0 ht _ (LeL.refl _) L hk e e2 round
theorem yJ (X : XH Tryz.prog) (hC : zO Tryz.prog ctr) (bd : Code) (path : List Nat) (Js : List (St → Prop)) {σ : Type} (live : List Nat) (Inv : σ → Prop) (S : σ → List (Nat × T)) (l : List (Nat × T)) (L : List HO) (h1 : ∀ z, Inv z → AWP Tryz.prog n (sub (path ++ [1]) bd) (ofL (S z)) (Qf Tryz.prog n (frs path Js bd []) Q)) (h2 : ∀ J : St → Prop, (∀ st' l' z, Inv z → Own.canon live st' = ofL l' → LeL l' (S z) → J st') → AWP Tryz.prog n (sub (path ++ [2]) bd) (ofL l) (Qf Tryz.prog n (.pre J :: frs path Js bd []) Q)) (e : z1u X qd ctr n (VP l) 4000 c fs st (hoH L) = some (.at (sub path bd) (frs path Js bd []), ofL l, hoO L) := by kernel_rfl) (e2 : sub path bd = .seq (sub (path ++ [2]) bd) (sub (path ++ [1]) bd) := by kernel_rfl) : AWP Tryz.prog n c st (Qf Tryz.prog n fs Q) := yJ6 X zC hC YL bd path Js live Inv S l L e e2 h1 h2
theorem yF (X : XH Tryz.prog) (hC : zO Tryz.prog ctr) (ex : Exit) (l : List (Nat × T)) (L : List HO) (h : ∀ st0, Own.canon (VP l) st0 = ofL l → Q ex st0) (e : z1u X qd ctr n (VP l) 4000 c fs st (hoH L) = some (.fin ex, ofL l, hoO L) := by kernel_rfl) : AWP Tryz.prog n c st (Qf Tryz.prog n fs Q) := yF6 X zC hC YL ex l L e h
theorem yO {k : Nat} {fn : Func} {r : A} {ls : List A} (keep : Bool) (rs : List (Nat × Option Nat)) (body : Code) (nt : Nat) (hf : Tryz.prog.funcs[k]? = some fn) (h : ∀ E : St → Prop, (∀ st x R U, z5s qd keep rs st = some (x, R, U) → LeV x r → E st) → AWP Tryz.prog ⟨nt, []⟩ body (ofL (z4J 0 ls)) (Qf Tryz.prog ⟨nt, []⟩ [] (z6L E))) (hb : fn.body = some body := by kernel_rfl) (hn : nt = fn.ntmps := by exact rfl) (hr : fn.results = (rs.map z1H).toArray := by exact rfl) (hnm : (fn.name == "runtime.NumGoroutine") = false := by exact rfl) (ha : Nat.ble ls.length nt = true := by kernel_rfl) : XJ Tryz.prog k ls r := yO6 zC keep rs body nt hf hb hn hr hnm ha h
end
theorem z5M : z8A Tryz.prog 110 62 3 (Ke [.i64, .i64, .i64, .i64, .i64, .i64, .i64, .i64, .i64, .i64, .i64, .i64, .i64, .i64, .i64, .i64, .i64, .i64, .i64, .i64, .i64, .i64, .i64, .i64]) (.atom (.int .i64 0)) := z7J Tryz.underlying110 _ Tryz.underlying62 (exq Go.Ex.q62) (z4R.eqn rfl) rfl ⟨.int .i64 0, fun w => z6T (f := Tryz.t3) (by kernel_rfl) rfl w, fun S => uE.2 ⟨rfl, rfl⟩⟩ rfl
theorem zcF : zaC Tryz.prog 21 3 true := z7l zC (t := 75) Tryz.so21 rfl rfl (by kernel_rfl) (by decide)
def qN : Code := (Tryz.f5.body).getD .skip
def XQ : wI := spF (α := List Int) (ρ := z6) 5 (fun x => [F3_ x]) (fun r => zcf r) (fun x => uI x) [] (Q1)
abbrev Jt (gt : List zh) : List (Nat × T) := [(2, .own (.box (.agg [I 0, I 0, eOs 1 true (eI .i64) [], eOs 3 true ws []]))), (3, .own (.box (.agg [I 0, I 1, eOs 1 true (eI .i64) [], eOs 3 false z4p gt])))]
abbrev Jr (states : List Int) (i_ : Int) (gk : List zh) : List (Nat × T) := [(0, .d (eSl 1 false (eI .i64) states)), (2, .own (.box (.agg [I 0, I 0, eOs 1 true (eI .i64) [], eOs 3 true ws []]))), (3, .own (.box (.agg [I 0, I 1, eOs 1 true (eI .i64) [], eOs 3 false z4p gk]))), (4, .d (I i_))]
abbrev Jq (states : List Int) (bn : List zh) (i_ : Int) (ck : Int) (fu : List zb) : List (Nat × T) := [(0, .d (eSl 1 false (eI .i64) states)), (2, .own (.box (.agg [I 0, I 0, eOs 1 true (eI .i64) [], eOs 3 true ws []]))), (3, .own (.box (.agg [I 0, I 1, eOs 1 true (eI .i64) [], eOs 3 false z4p bn]))), (4, .d (I i_)), (5, .own (.box (.agg [I ck, eOs 5 false qD fu, eOs 1 true (eI .i64) []])))]
abbrev Jo (states : List Int) (bn : List zh) (i_ : Int) (ck : Int) (eg : List zb) (s_ : Int) : List (Nat × T) := [(0, .d (eSl 1 false (eI .i64) states)), (2, .own (.box (.agg [I 0, I 0, eOs 1 true (eI .i64) [], eOs 3 true ws []]))), (3, .own (.box (.agg [I 0, I 1, eOs 1 true (eI .i64) [], eOs 3 false z4p bn]))), (4, .d (I i_)), (5, .own (.box (.agg [I ck, eOs 5 false qD eg, eOs 1 true (eI .i64) []]))), (6, .d (I s_))]
abbrev Jp (states : List Int) (bn : List zh) (i_ : Int) : List (Nat × T) := [(0, .d (eSl 1 false (eI .i64) states)), (2, .own (.box (.agg [I 0, I 0, eOs 1 true (eI .i64) [], eOs 3 true ws []]))), (3, .own (.box (.agg [I 0, I 1, eOs 1 true (eI .i64) [], eOs 3 false z4p bn]))), (4, .d (I i_))]
variable {ctr : Ctr}
theorem z1B (hC : zO Tryz.prog ctr) : XQ.Ok Tryz.prog := by
 refine zY ?_
 rintro states r0 aa
 try unfold uI at aa
 refine yO false [(2, some 30)] qN 48 Tryz.func5 fun E hE => ?_
 refine yJ X0 hC qN [1,1] [] [2,3] (fun z : List zh => W7 z = some r0) (fun z => Jt z) [(0, .d (eSl 1 false (eI .i64) states)), (2, .own (.box (.agg [I 0, I 0, eOs 1 true (eI .i64) [], eOs 3 true ws []]))), (3, .own (.box (.agg [I 0, I 1, eOs 1 true (eI .i64) [], eOs 3 true ws []])))] [Hh (.cut 2)] ?_ fun J1 a8 => ?_
 ·rintro gt aa
  unfold W7 at aa
  obtain rfl := zi aa
  exact yE X0 hC hE [Hm (shM (eI .i64) (eI .i64) []), Hm (shM z4p zeo gt)]
 ·obtain ⟨t2, ht2, aa⟩ := zj aa
  refine yLx X0 hC qN [1,1,2,1,0] [J1] (fun s => W4 states s.1 s.2) (fun x => Jp states x.1 x.2) (([] : List zh), 0) ht2 [(0, .d (eSl 1 false (eI .i64) states)), (2, .own (.box (.agg [I 0, I 0, eOs 1 true (eI .i64) [], eOs 3 true ws []]))), (3, .own (.box (.agg [I 0, I 1, eOs 1 true (eI .i64) [], eOs 3 true z4p []]))), (4, .d (I 0))] inferInstance [] ?_
  rintro ⟨bn, i_⟩ m2 bh ae hl1 J2 ba
  try unfold W4 at ae
  let Z0 : List HO := [Ha (lnM (eI .i64) states)]
  rcases zJ ae with ⟨c0, ae⟩ | ⟨c0, ae⟩
  ·refine yJ X0 hC qN [1,1,2,1,0,0,1] [J1, J2] [0,2,3,4] (fun z : List zh => W6 i_ z = some bh) (fun z => Jr states i_ z) [(0, .d (eSl 1 false (eI .i64) states)), (2, .own (.box (.agg [I 0, I 0, eOs 1 true (eI .i64) [], eOs 3 true ws []]))), (3, .own (.box (.agg [I 0, I 1, eOs 1 true (eI .i64) [], eOs 3 false z4p bn]))), (4, .d (I i_))] (Z0 ++ [Hq c0, Hh (.cut 0)]) ?_ fun J3 cp => ?_
   ·rintro gk ae
    unfold W6 at ae
    obtain rfl := zi ae
    exact yB X0 hC ba (gk, w64 (i_ + 1)) hl1 []
   ·obtain ⟨ck, h0, ae⟩ := zj ae
    refine yJ X0 hC qN [1,1,2,1,0,0,1,2,0,1] [J1, J2, J3] [0,2,3,4,5] (fun z : List zb => W5 bn i_ ck z = some bh) (fun z => Jq states bn i_ ck z) [(0, .d (eSl 1 false (eI .i64) states)), (2, .own (.box (.agg [I 0, I 0, eOs 1 true (eI .i64) [], eOs 3 true ws []]))), (3, .own (.box (.agg [I 0, I 1, eOs 1 true (eI .i64) [], eOs 3 false z4p bn]))), (4, .d (I i_)), (5, .own (.box (.agg [I ck, eOs 5 true qD [], eOs 1 true (eI .i64) []])))] [Hi (eI .i64) h0, Hh (.cut 0)] ?_ fun J4 dv => ?_
    ·rintro fu ae
     unfold W5 at ae
     obtain ⟨g0, ae⟩ := gdE ae
     exact yB X0 hC cp (bn ++ [(zh.mk ck fu [])]) ae [Hq (oC z4p (zh.mk ck fu []) []), Hn (aL z4p z4p g0), Hl (aM z4p bn [(zh.mk ck fu [])])]
    ·obtain ⟨t5, ht5, ae⟩ := zj ae
     refine yLx X0 hC qN [1,1,2,1,0,0,1,2,0,1,2,1,0] [J1, J2, J3, J4] (fun s => W3 states i_ s.1 s.2) (fun x => Jo states bn i_ ck x.1 x.2) (([] : List zb), 0) ht5 [(0, .d (eSl 1 false (eI .i64) states)), (2, .own (.box (.agg [I 0, I 0, eOs 1 true (eI .i64) [], eOs 3 true ws []]))), (3, .own (.box (.agg [I 0, I 1, eOs 1 true (eI .i64) [], eOs 3 false z4p bn]))), (4, .d (I i_)), (5, .own (.box (.agg [I ck, eOs 5 true qD [], eOs 1 true (eI .i64) []]))), (6, .d (I 0))] inferInstance [] ?_
     rintro ⟨eg, s_⟩ m5 fp ak hl2 J5 gh
     try unfold W3 at ak
     obtain ⟨jz, h1, ak⟩ := zj ak
     rcases zJ ak with ⟨c1, ak⟩ | ⟨c1, ak⟩
     ·obtain ⟨d9, h2, ak⟩ := zj ak
      obtain ⟨g1, ak⟩ := gdE ak
      obtain ⟨g2, ak⟩ := gdE ak
      obtain rfl := zi ak
      exact yB X0 hC gh ((eg ++ ([(zb.mk s_ 0 0 0 (Int.tmod (w64 (s_ + 1)) d9))] : List zb)), w64 (s_ + 1)) hl2 [Hi (eI .i64) h1, Hq c1, Hi (eI .i64) h2, Hn g1, Hq (dM qD ([(zb.mk s_ 0 0 0 (Int.tmod (w64 (s_ + 1)) d9))] : List zb)), Hn (dM qD ([(zb.mk s_ 0 0 0 (Int.tmod (w64 (s_ + 1)) d9))] : List zb)), Hn (aL qD qD g2), Hl (aM qD eg ([(zb.mk s_ 0 0 0 (Int.tmod (w64 (s_ + 1)) d9))] : List zb))]
     ·obtain rfl := zi ak
      obtain rfl := hl2
      exact yB X0 hC dv eg ae [Hi (eI .i64) h1, Hq c1]
  ·obtain rfl := zi ae
   obtain rfl := hl1
   exact yB X0 hC a8 bn aa (Z0 ++ [Hq c0])
def UE : Code := (Tryz.f67.body).getD .skip
def vn : wI := spF (α := Int) (ρ := Bool) 67 (fun x => [(eI .i64) x]) (fun r => eB r) (fun x => kF x) [] (Q1)
theorem Q5 (hC : zO Tryz.prog ctr) : vn.Ok Tryz.prog := by
 refine zY ?_
 rintro n_ r0 aa
 try unfold kF at aa
 refine yO true [(2, none)] UE 5 Tryz.func67 fun E hE => ?_
 obtain rfl := zi aa
 exact yE X0 hC hE []
def wp : Code := (Tryz.f70.body).getD .skip
def vU : wI := spF (α := List Int × Unit) (ρ := Int) 70 (fun x => [F3_ x.1, (z04 67) x.2]) (fun r => (eI .i64) r) (fun x => xT x.1 x.2) [] (by
 rintro ⟨a0, a1⟩ ⟨b0, b1⟩ h
 have e0 := vD.inj (f := F3_) _ _ (List.cons.inj h).1
 replace h := (List.cons.inj h).2
 have e1 := vD.inj (f := (z04 67)) _ _ (List.cons.inj h).1
 subst e0 e1
 rfl)
abbrev kB : List (Nat × T) := []
abbrev kA (s_ : List Int) (x8 : Int) : List (Nat × T) := [(0, .d (eSl 1 false (eI .i64) s_)), (1, .d (.fn 67 [])), (7, .d (I ((s_.length : Nat) : Int))), (8, .d (I x8))]
theorem Zl (hC : zO Tryz.prog ctr) (h0f : ctr.Has vn) : vU.Ok Tryz.prog := by
 refine zY ?_
 rintro ⟨s_, f_⟩ r0 aa
 try unfold xT at aa
 refine yO true [(4, none)] wp 19 Tryz.func70 fun E hE => ?_
 refine yJ X0 hC wp [1] [] [] (fun z : Unit => wk = some r0) (fun z => kB) [(0, .d (eSl 1 false (eI .i64) s_)), (1, .d (.fn 67 []))] [Hh (.cut 1)] ?_ fun J1 a8 => ?_
 ·rintro ⟨⟩ aa
  unfold wk at aa
  obtain rfl := zi aa
  exact yE X0 hC hE []
 ·obtain ⟨t2, ht2, aa⟩ := zj aa
  refine yL X0 hC wp [1,2,1,0] [J1] (fun s => yI s_ s) (fun x => kA s_ x) 0 ht2  [Ha (lnM (eI .i64) s_)] ?_
  rintro x8 m2 bh ae hl1 J2 ba
  try unfold yI at ae
  rcases zJ ae with ⟨c0, ae⟩ | ⟨c0, ae⟩
  ·obtain ⟨bo, h0, ae⟩ := zj ae
   obtain ⟨r_, h1, ae⟩ := zj ae
   let Z0 : List HO := [Hq c0, Hi (eI .i64) h0, Hc h0f (x := bo) h1 (loC (eI .i64) bo <| loN)]
   rcases zJ ae with ⟨c1, ae⟩ | ⟨c1, ae⟩
   ·obtain rfl := zi ae
    obtain rfl := hl1
    obtain rfl := zi aa
    exact yE X0 hC hE (Z0 ++ [Hq c1])
   ·obtain rfl := zi ae
    exact yB X0 hC ba (w64 (x8 + 1)) hl1 (Z0 ++ [Hq c1])
  ·obtain rfl := zi ae
   obtain rfl := hl1
   exact yB X0 hC a8 () aa [Hq c0]
def jW : Code := (Tryz.f46.body).getD .skip
def v6 : wI := spF (α := List Int × Unit) (ρ := Bool) 46 (fun x => [F3_ x.1, (z04 67) x.2]) (fun r => eB r) (fun x => yM x.1 x.2) [] (by
 rintro ⟨a0, a1⟩ ⟨b0, b1⟩ h
 have e0 := vD.inj (f := F3_) _ _ (List.cons.inj h).1
 replace h := (List.cons.inj h).2
 have e1 := vD.inj (f := (z04 67)) _ _ (List.cons.inj h).1
 subst e0 e1
 rfl)
theorem vh (hC : zO Tryz.prog ctr) (h0f : ctr.Has vn) : v6.Ok Tryz.prog := by
 refine zY ?_
 rintro ⟨s_, f_⟩ r0 aa
 try unfold yM at aa
 refine yO true [(4, none)] jW 9 Tryz.func46 fun E hE => ?_
 obtain ⟨r_, h0, aa⟩ := zj aa
 obtain rfl := zi aa
 exact yE ((Q3 zC (Zl hC h0f) 7).or X0) hC hE [Hc (Ctr.add_has Qt vU) (x := (s_, ())) h0 (loC F3_ s_ <| loC (z04 67) () <| loN)]
def UD : Code := (Tryz.f69.body).getD .skip
def kJ : wI := spF (α := zh) (ρ := Bool) 69 (fun x => [ws x]) (fun r => eB r) (fun x => kE x) [] (Q1)
theorem Q4 (hC : zO Tryz.prog ctr) : kJ.Ok Tryz.prog := by
 refine zY ?_
 rintro p_ r0 aa
 try unfold kE at aa
 refine yO true [(2, none)] UD 12 Tryz.func69 fun E hE => ?_
 rcases zJ aa with ⟨c0, aa⟩ | ⟨c0, aa⟩
 ·obtain rfl := zi aa
  exact yE X0 hC hE (rpN 5 (Hq c0) [])
 ·obtain rfl := zi aa
  exact yE X0 hC hE [Hq c0, Hq c0, Hq c0, Ha (lnM qD p_.Arcs), Hq c0, Hq c0]
def yQ : Code := (Tryz.f88.body).getD .skip
def yD : wI := spF (α := List zh × Unit) (ρ := Int) 88 (fun x => [zaD x.1, (z04 69) x.2]) (fun r => (eI .i64) r) (fun x => ye x.1 x.2) [] (by
 rintro ⟨a0, a1⟩ ⟨b0, b1⟩ h
 have e0 := vD.inj (f := zaD) _ _ (List.cons.inj h).1
 replace h := (List.cons.inj h).2
 have e1 := vD.inj (f := (z04 69)) _ _ (List.cons.inj h).1
 subst e0 e1
 rfl)
abbrev vz : List (Nat × T) := []
abbrev vw (s_ : List zh) (x8 : Int) : List (Nat × T) := [(0, .d (eSl 3 false ws s_)), (1, .d (.fn 69 [])), (7, .d (I ((s_.length : Nat) : Int))), (8, .d (I x8))]
theorem u7 (hC : zO Tryz.prog ctr) (h0J : ctr.Has kJ) : yD.Ok Tryz.prog := by
 refine zY ?_
 rintro ⟨s_, f_⟩ r0 aa
 try unfold ye at aa
 refine yO true [(4, none)] yQ 19 Tryz.func88 fun E hE => ?_
 refine yJ X0 hC yQ [1] [] [] (fun z : Unit => yG = some r0) (fun z => vz) [(0, .d (eSl 3 false ws s_)), (1, .d (.fn 69 []))] [Hh (.cut 1)] ?_ fun J1 a8 => ?_
 ·rintro ⟨⟩ aa
  unfold yG at aa
  obtain rfl := zi aa
  exact yE X0 hC hE []
 ·obtain ⟨t2, ht2, aa⟩ := zj aa
  refine yL X0 hC yQ [1,2,1,0] [J1] (fun s => zM s_ s) (fun x => vw s_ x) 0 ht2  [Ha (lnM ws s_)] ?_
  rintro x8 m2 bh ae hl1 J2 ba
  try unfold zM at ae
  rcases zJ ae with ⟨c0, ae⟩ | ⟨c0, ae⟩
  ·obtain ⟨bo, h0, ae⟩ := zj ae
   obtain ⟨r_, h1, ae⟩ := zj ae
   let Z0 : List HO := [Hq c0, Hi ws h0, Hc h0J (x := bo) h1 (loC ws bo <| loN)]
   rcases zJ ae with ⟨c1, ae⟩ | ⟨c1, ae⟩
   ·obtain rfl := zi ae
    obtain rfl := hl1
    obtain rfl := zi aa
    exact yE X0 hC hE (Z0 ++ [Hq c1])
   ·obtain rfl := zi ae
    exact yB X0 hC ba (w64 (x8 + 1)) hl1 (Z0 ++ [Hq c1])
  ·obtain rfl := zi ae
   obtain rfl := hl1
   exact yB X0 hC a8 () aa [Hq c0]
def vu : Code := (Tryz.f68.body).getD .skip
def ym : wI := spF (α := List zh × Unit) (ρ := Bool) 68 (fun x => [zaD x.1, (z04 69) x.2]) (fun r => eB r) (fun x => zN x.1 x.2) [] (by
 rintro ⟨a0, a1⟩ ⟨b0, b1⟩ h
 have e0 := vD.inj (f := zaD) _ _ (List.cons.inj h).1
 replace h := (List.cons.inj h).2
 have e1 := vD.inj (f := (z04 69)) _ _ (List.cons.inj h).1
 subst e0 e1
 rfl)
theorem vA (hC : zO Tryz.prog ctr) (h0K : ctr.Has yD) : ym.Ok Tryz.prog := by
 refine zY ?_
 rintro ⟨s_, f_⟩ r0 aa
 try unfold zN at aa
 refine yO true [(4, none)] vu 9 Tryz.func68 fun E hE => ?_
 obtain ⟨r_, h0, aa⟩ := zj aa
 obtain rfl := zi aa
 exact yE X0 hC hE [Hc h0K (x := (s_, ())) h0 (loC zaD s_ <| loC (z04 69) () <| loN)]
def Jj : Code := (Tryz.f45.body).getD .skip
def Zy : wI := spF (α := z6) (ρ := Bool) 45 (fun x => [yq x]) (fun r => eB r) (fun x => kG x) [] (Q1)
theorem JH (hC : zO Tryz.prog ctr) (h0f : ctr.Has vn) (h0L : ctr.Has ym) : Zy.Ok Tryz.prog := by
 refine zY ?_
 rintro x_ r0 aa
 try unfold kG at aa
 refine yO true [(2, none)] Jj 31 Tryz.func45 fun E hE => ?_
 rcases zJ aa with ⟨c0, aa⟩ | ⟨c0, aa⟩
 ·obtain rfl := zi aa
  exact yE X0 hC hE (rpN 4 (Hq c0) (rpN 11 qT []))
 ·let Z0 : List HO := (rpN 4 (Hq c0) [])
  rcases zJ aa with ⟨c1, aa⟩ | ⟨c1, aa⟩
  ·obtain rfl := zi aa
   exact yE X0 hC hE (Z0 ++ (rpN 5 (Hq c1) (rpN 6 qT [])))
  ·let Z1 : List HO := (Z0 ++ [Hq c1, Hq c1, Hq c1, Ha (lnM (eI .i64) x_.Channels), Hq c1, Hq c1])
   rcases zJ aa with ⟨c2, aa⟩ | ⟨c2, aa⟩
   ·obtain rfl := zi aa
    exact yE X0 hC hE (Z1 ++ (rpN 5 (Hq c2) [qT]))
   ·let Z2 : List HO := (Z1 ++ [Hq c2, Hq c2, Hq c2, Ha (lnM ws x_.Parts), Hq c2, Hq c2])
    rcases zJ aa with ⟨c3, aa⟩ | ⟨c3, aa⟩
    ·obtain rfl := zi aa
     exact yE X0 hC hE (Z2 ++ [Hq c3])
    ·obtain ⟨r_, h0, aa⟩ := zj aa
     let Z3 : List HO := (Z2 ++ [Hq c3, Hc (Ctr.add_has Qt v6) (x := (x_.Channels, ())) h0 (loC F3_ x_.Channels <| loC (z04 67) () <| loN)])
     rcases zJ aa with ⟨c4, aa⟩ | ⟨c4, aa⟩
     ·obtain rfl := zi aa
      exact yE ((Q3 zC (vh hC h0f) 25).or X0) hC hE (Z3 ++ (rpN 4 (Hq c4) []))
     ·obtain ⟨al, h1, aa⟩ := zj aa
      obtain rfl := zi aa
      exact yE ((Q3 zC (vh hC h0f) 25).or X0) hC hE (Z3 ++ [Hq c4, Hq c4, Hq c4, Hc h0L (x := (x_.Parts, ())) h1 (loC zaD x_.Parts <| loC (z04 69) () <| loN), Hq c4])
def UG : Code := (Tryz.f47.body).getD .skip
def vp : wI := spF (α := Int) (ρ := Bool) 47 (fun x => [(eI .i64) x]) (fun r => eB r) (fun x => kI x) [] (Q1)
theorem Q8 (hC : zO Tryz.prog ctr) : vp.Ok Tryz.prog := by
 refine zY ?_
 rintro n_ r0 aa
 try unfold kI at aa
 refine yO true [(2, none)] UG 5 Tryz.func47 fun E hE => ?_
 obtain rfl := zi aa
 exact yE X0 hC hE []
def wo : Code := (Tryz.f70.body).getD .skip
def vT : wI := spF (α := List Int × Unit) (ρ := Int) 70 (fun x => [F3_ x.1, (z04 47) x.2]) (fun r => (eI .i64) r) (fun x => xS x.1 x.2) [] (by
 rintro ⟨a0, a1⟩ ⟨b0, b1⟩ h
 have e0 := vD.inj (f := F3_) _ _ (List.cons.inj h).1
 replace h := (List.cons.inj h).2
 have e1 := vD.inj (f := (z04 47)) _ _ (List.cons.inj h).1
 subst e0 e1
 rfl)
abbrev k8 : List (Nat × T) := []
abbrev k7 (s_ : List Int) (x8 : Int) : List (Nat × T) := [(0, .d (eSl 1 false (eI .i64) s_)), (1, .d (.fn 47 [])), (7, .d (I ((s_.length : Nat) : Int))), (8, .d (I x8))]
theorem Zk (hC : zO Tryz.prog ctr) (h0g : ctr.Has vp) : vT.Ok Tryz.prog := by
 refine zY ?_
 rintro ⟨s_, f_⟩ r0 aa
 try unfold xS at aa
 refine yO true [(4, none)] wo 19 Tryz.func70 fun E hE => ?_
 refine yJ X0 hC wo [1] [] [] (fun z : Unit => wj = some r0) (fun z => k8) [(0, .d (eSl 1 false (eI .i64) s_)), (1, .d (.fn 47 []))] [Hh (.cut 1)] ?_ fun J1 a8 => ?_
 ·rintro ⟨⟩ aa
  unfold wj at aa
  obtain rfl := zi aa
  exact yE X0 hC hE []
 ·obtain ⟨t2, ht2, aa⟩ := zj aa
  refine yL X0 hC wo [1,2,1,0] [J1] (fun s => yH s_ s) (fun x => k7 s_ x) 0 ht2  [Ha (lnM (eI .i64) s_)] ?_
  rintro x8 m2 bh ae hl1 J2 ba
  try unfold yH at ae
  rcases zJ ae with ⟨c0, ae⟩ | ⟨c0, ae⟩
  ·obtain ⟨bo, h0, ae⟩ := zj ae
   obtain ⟨r_, h1, ae⟩ := zj ae
   let Z0 : List HO := [Hq c0, Hi (eI .i64) h0, Hc h0g (x := bo) h1 (loC (eI .i64) bo <| loN)]
   rcases zJ ae with ⟨c1, ae⟩ | ⟨c1, ae⟩
   ·obtain rfl := zi ae
    obtain rfl := hl1
    obtain rfl := zi aa
    exact yE X0 hC hE (Z0 ++ [Hq c1])
   ·obtain rfl := zi ae
    exact yB X0 hC ba (w64 (x8 + 1)) hl1 (Z0 ++ [Hq c1])
  ·obtain rfl := zi ae
   obtain rfl := hl1
   exact yB X0 hC a8 () aa [Hq c0]
def jV : Code := (Tryz.f46.body).getD .skip
def wZ : wI := spF (α := List Int × Unit) (ρ := Bool) 46 (fun x => [F3_ x.1, (z04 47) x.2]) (fun r => eB r) (fun x => yK x.1 x.2) [] (by
 rintro ⟨a0, a1⟩ ⟨b0, b1⟩ h
 have e0 := vD.inj (f := F3_) _ _ (List.cons.inj h).1
 replace h := (List.cons.inj h).2
 have e1 := vD.inj (f := (z04 47)) _ _ (List.cons.inj h).1
 subst e0 e1
 rfl)
theorem vg (hC : zO Tryz.prog ctr) (h0g : ctr.Has vp) : wZ.Ok Tryz.prog := by
 refine zY ?_
 rintro ⟨s_, f_⟩ r0 aa
 try unfold yK at aa
 refine yO true [(4, none)] jV 9 Tryz.func46 fun E hE => ?_
 obtain ⟨r_, h0, aa⟩ := zj aa
 obtain rfl := zi aa
 exact yE ((Q3 zC (Zk hC h0g) 7).or X0) hC hE [Hc (Ctr.add_has Qt vT) (x := (s_, ())) h0 (loC F3_ s_ <| loC (z04 47) () <| loN)]
def z1g : Code := (Tryz.f56.body).getD .skip
def qH : wI := spF (α := Int × Int) (ρ := Bool) 56 (fun x => [(eI .i64) x.1, (eI .i64) x.2]) (fun r => eB r) (fun x => v8 x.1 x.2) [] (Uz)
theorem z1x (hC : zO Tryz.prog ctr) : qH.Ok Tryz.prog := by
 refine zY ?_
 rintro ⟨n_, many⟩ r0 aa
 try unfold v8 at aa
 refine yO true [(4, none)] z1g 12 Tryz.func56 fun E hE => ?_
 rcases zJ aa with ⟨c0, aa⟩ | ⟨c0, aa⟩
 ·obtain rfl := zi aa
  exact yE X0 hC hE (rpN 4 (Hq c0) [])
 ·obtain rfl := zi aa
  exact yE X0 hC hE (rpN 4 (Hq c0) [])
def qL : Code := (Tryz.f19.body).getD .skip
def qG : wI := spF (α := List Int × Int) (ρ := Bool) 19 (fun x => [F3_ x.1, (eI .i64) x.2]) (fun r => eB r) (fun x => wO x.1 x.2) [] (Uz)
abbrev Vw : List (Nat × T) := []
abbrev Vv (l_ : List Int) (many : Int) (x9 : Int) (ic : Bool) : List (Nat × T) := [(0, .d (eSl 1 false (eI .i64) l_)), (1, .d (I many)), (7, .d (eSl 1 false (eI .i64) l_)), (8, .d (I ((l_.length : Nat) : Int))), (9, .d (I x9)), (19, .d (I x9)), (20, .d (B (decide (x9 > 0)))), (21, .d (B (decide (x9 > 0)))), (29, .d (B ic))]
abbrev Vu (l_ : List Int) (many : Int) (x9 : Int) : List (Nat × T) := [(0, .d (eSl 1 false (eI .i64) l_)), (1, .d (I many)), (7, .d (eSl 1 false (eI .i64) l_)), (8, .d (I ((l_.length : Nat) : Int))), (9, .d (I x9))]
theorem Je (hC : zO Tryz.prog ctr) (h02 : ctr.Has qH) : qG.Ok Tryz.prog := by
 refine zY ?_
 rintro ⟨l_, many⟩ r0 aa
 try unfold wO at aa
 refine yO true [(4, none)] qL 32 Tryz.func19 fun E hE => ?_
 refine yJ X0 hC qL [1] [] [] (fun z : Unit => kZ = some r0) (fun z => Vw) [(0, .d (eSl 1 false (eI .i64) l_)), (1, .d (I many))] [Hh (.cut 1)] ?_ fun J1 a8 => ?_
 ·rintro ⟨⟩ aa
  unfold kZ at aa
  obtain rfl := zi aa
  exact yE X0 hC hE []
 ·obtain ⟨t2, ht2, aa⟩ := zj aa
  refine yL X0 hC qL [1,2,1,0] [J1] (fun s => wf l_ many s) (fun x => Vu l_ many x) 0 ht2  [Ha (lnM (eI .i64) l_)] ?_
  rintro x9 m2 bh ae hl1 J2 ba
  try unfold wf at ae
  rcases zJ ae with ⟨c0, ae⟩ | ⟨c0, ae⟩
  ·refine yJ X0 hC qL [1,2,1,0,0,1,1] [J1, J2] [0,1,7,8,9,19,20,21,29] (fun z : Bool => vP x9 z = some bh) (fun z => Vv l_ many x9 z) [(0, .d (eSl 1 false (eI .i64) l_)), (1, .d (I many)), (7, .d (eSl 1 false (eI .i64) l_)), (8, .d (I ((l_.length : Nat) : Int))), (9, .d (I x9))] [Hq c0, Hh (.cut 0)] ?_ fun J3 cp => ?_
   ·rintro ic ae
    unfold vP at ae
    obtain rfl := zi ae
    exact yB X0 hC ba (w64 (x9 + 1)) hl1 []
   ·obtain ⟨gc, h0, ae⟩ := zj ae
    obtain ⟨r_, h1, ae⟩ := zj ae
    let Z0 : List HO := [Hi (eI .i64) h0, Hc h02 (x := (gc, many)) h1 (loC (eI .i64) gc <| loC (eI .i64) many <| loN)]
    rcases zJ ae with ⟨c1, ae⟩ | ⟨c1, ae⟩
    ·obtain rfl := zi ae
     obtain rfl := hl1
     obtain rfl := zi aa
     exact yE X0 hC hE (Z0 ++ (rpN 5 (Hq c1) [qT]))
    ·rcases zJ ae with ⟨c2, ae⟩ | ⟨c2, ae⟩
     ·obtain ⟨gj, h2, ae⟩ := zj ae
      let Z1 : List HO := (Z0 ++ (Hq c1 :: Hq c1 :: Hq c1 :: (rpN 5 (Hq c2) [Hi (eI .i64) h2, Hq c2, Hq c2, Hq c1, Hq c2, Hq c1])))
      rcases zJ ae with ⟨c3, ae⟩ | ⟨c3, ae⟩
      ·obtain rfl := zi ae
       obtain rfl := hl1
       obtain rfl := zi aa
       exact yE X0 hC hE (Z1 ++ [Hq c3])
      ·exact yB X0 hC cp (decide (gc ≤ gj)) ae (Z1 ++ [Hq c3])
     ·exact yB X0 hC cp false ae (Z0 ++ (Hq c1 :: Hq c1 :: Hq c1 :: (rpN 7 (Hq c2) [Hq c1, Hq c2, Hq c1, qF])))
  ·obtain rfl := zi ae
   obtain rfl := hl1
   exact yB X0 hC a8 () aa [Hq c0]
def Wf : Code := (Tryz.f50.body).getD .skip
def ul : wI := spF (α := z6 × zh × zb) (ρ := Bool) 50 (fun x => [yq x.1, ws x.2.1, qD x.2.2]) (fun r => eB r) (fun x => wH x.1 x.2.1 x.2.2) [] (zaM)
theorem Wq (hC : zO Tryz.prog ctr) (h02 : ctr.Has qH) : ul.Ok Tryz.prog := by
 refine zY ?_
 rintro ⟨x_, p_, a_⟩ r0 aa
 try unfold wH at aa
 refine yO true [(6, none)] Wf 52 Tryz.func50 fun E hE => ?_
 obtain ⟨r_, h0, aa⟩ := zj aa
 let Z0 : List HO := [Hc h02 (x := (a_.From, p_.States)) h0 (loC (eI .i64) a_.From <| loC (eI .i64) p_.States <| loN)]
 rcases zJ aa with ⟨c0, aa⟩ | ⟨c0, aa⟩
 ·obtain rfl := zi aa
  exact yE X0 hC hE (Z0 ++ (rpN 7 (Hq c0) (rpN 5 qT [])))
 ·obtain ⟨al, h1, aa⟩ := zj aa
  let Z1 : List HO := (Z0 ++ (rpN 5 (Hq c0) [Hc h02 (x := (a_.To, p_.States)) h1 (loC (eI .i64) a_.To <| loC (eI .i64) p_.States <| loN), Hq c0, Hq c0]))
  rcases zJ aa with ⟨c1, aa⟩ | ⟨c1, aa⟩
  ·obtain rfl := zi aa
   exact yE X0 hC hE (Z1 ++ (rpN 4 (Hq c1) [qT]))
  ·let Z2 : List HO := (Z1 ++ (rpN 4 (Hq c1) []))
   rcases zJ aa with ⟨c2, aa⟩ | ⟨c2, aa⟩
   ·obtain rfl := zi aa
    exact yE X0 hC hE (Z2 ++ [Hq c2])
   ·rcases zJ aa with ⟨c3, aa⟩ | ⟨c3, aa⟩
    ·rcases zJ aa with ⟨c4, aa⟩ | ⟨c4, aa⟩
     ·obtain ⟨ai, h2, aa⟩ := zj aa
      obtain rfl := zi aa
      exact yE X0 hC hE (Z2 ++ (Hq c2 :: Hq c3 :: (rpN 5 (Hq c4) [Hc h02 (x := (a_.Message, x_.Labels)) h2 (loC (eI .i64) a_.Message <| loC (eI .i64) x_.Labels <| loN), Hq c4])))
     ·obtain rfl := zi aa
      exact yE X0 hC hE (Z2 ++ (Hq c2 :: Hq c3 :: (rpN 6 (Hq c4) [])))
    ·obtain ⟨aj, h3, aa⟩ := zj aa
     let Z3 : List HO := (Z2 ++ [Hq c2, Hq c3, Ha (lnM (eI .i64) x_.Channels), Hc h02 (x := (a_.Channel, ((x_.Channels.length : Nat) : Int))) h3 (loC (eI .i64) a_.Channel <| loC (eI .i64) ((x_.Channels.length : Nat) : Int) <| loN)])
     rcases zJ aa with ⟨c5, aa⟩ | ⟨c5, aa⟩
     ·obtain ⟨cg, h4, aa⟩ := zj aa
      obtain rfl := zi aa
      exact yE X0 hC hE (Z3 ++ (rpN 5 (Hq c5) [Hc h02 (x := (a_.Message, x_.Messages)) h4 (loC (eI .i64) a_.Message <| loC (eI .i64) x_.Messages <| loN), Hq c5]))
     ·obtain rfl := zi aa
      exact yE X0 hC hE (Z3 ++ (rpN 6 (Hq c5) []))
def UF : Code := (Tryz.f49.body).getD .skip
def kK : wI := spF (α := zb × z6 × zh) (ρ := Bool) 49 (fun x => [qD x.1, z1w x.2.1, z97 x.2.2]) (fun r => eB r) (fun x => kH x.1 x.2.1 x.2.2) [] (zaM)
theorem Q7 (hC : zO Tryz.prog ctr) (h0M : ctr.Has ul) : kK.Ok Tryz.prog := by
 refine zY ?_
 rintro ⟨a_, x1, x2⟩ r0 aa
 try unfold kH at aa
 refine yO true [(4, none)] UF 10 Tryz.func49 fun E hE => ?_
 obtain ⟨r_, h0, aa⟩ := zj aa
 obtain rfl := zi aa
 exact yE X0 hC hE [Hc h0M (x := (x1, x2, a_)) h0 (loC yq x1 <| loC ws x2 <| loC qD a_ <| loN)]
def xa : Code := (Tryz.f71.body).getD .skip
def yZ : wI := spF (α := List zb × (z6 × zh)) (ρ := Int) 71 (fun x => [z98 x.1, (z4K 49 z1w z97) x.2]) (fun r => (eI .i64) r) (fun x => yi x.1 x.2) [] (by
 rintro ⟨a0, a1⟩ ⟨b0, b1⟩ h
 have e0 := vD.inj (f := z98) _ _ (List.cons.inj h).1
 replace h := (List.cons.inj h).2
 have e1 := vD.inj (f := (z4K 49 z1w z97)) _ _ (List.cons.inj h).1
 subst e0 e1
 rfl)
abbrev vI : List (Nat × T) := []
abbrev vH (s_ : List zb) (f_ : z6 × zh) (x8 : Int) : List (Nat × T) := [(0, .d (eSl 5 false qD s_)), (1, .d (.fn 49 [.sptr (.agg [I f_.1.Messages, I f_.1.Labels, eSl 1 false (eI .i64) f_.1.Channels, eSl 3 false ws f_.1.Parts]), .sptr (.agg [I f_.2.States, eSl 5 false qD f_.2.Arcs, eSl 1 false (eI .i64) f_.2.Final])])), (7, .d (I ((s_.length : Nat) : Int))), (8, .d (I x8))]
theorem uz (hC : zO Tryz.prog ctr) (h0N : ctr.Has kK) : yZ.Ok Tryz.prog := by
 refine zY ?_
 rintro ⟨s_, f_⟩ r0 aa
 try unfold yi at aa
 refine yO true [(4, none)] xa 19 Tryz.func71 fun E hE => ?_
 refine yJ X0 hC xa [1] [] [] (fun z : Unit => x7 = some r0) (fun z => vI) [(0, .d (eSl 5 false qD s_)), (1, .d (.fn 49 [.sptr (.agg [I f_.1.Messages, I f_.1.Labels, eSl 1 false (eI .i64) f_.1.Channels, eSl 3 false ws f_.1.Parts]), .sptr (.agg [I f_.2.States, eSl 5 false qD f_.2.Arcs, eSl 1 false (eI .i64) f_.2.Final])]))] [Hh (.cut 1)] ?_ fun J1 a8 => ?_
 ·rintro ⟨⟩ aa
  unfold x7 at aa
  obtain rfl := zi aa
  exact yE X0 hC hE []
 ·obtain ⟨t2, ht2, aa⟩ := zj aa
  refine yL X0 hC xa [1,2,1,0] [J1] (fun s => zR s_ f_ s) (fun x => vH s_ f_ x) 0 ht2  [Ha (lnM qD s_)] ?_
  rintro x8 m2 bh ae hl1 J2 ba
  try unfold zR at ae
  rcases zJ ae with ⟨c0, ae⟩ | ⟨c0, ae⟩
  ·obtain ⟨bo, h0, ae⟩ := zj ae
   obtain ⟨r_, h1, ae⟩ := zj ae
   let Z0 : List HO := [Hq c0, Hi qD h0, Hc h0N (x := (bo, f_.1, f_.2)) h1 (loC qD bo <| loC z1w f_.1 <| loC z97 f_.2 <| loN)]
   rcases zJ ae with ⟨c1, ae⟩ | ⟨c1, ae⟩
   ·obtain rfl := zi ae
    obtain rfl := hl1
    obtain rfl := zi aa
    exact yE X0 hC hE (Z0 ++ [Hq c1])
   ·obtain rfl := zi ae
    exact yB X0 hC ba (w64 (x8 + 1)) hl1 (Z0 ++ [Hq c1])
  ·obtain rfl := zi ae
   obtain rfl := hl1
   exact yB X0 hC a8 () aa [Hq c0]
def vF : Code := (Tryz.f48.body).getD .skip
def yu : wI := spF (α := List zb × (z6 × zh)) (ρ := Bool) 48 (fun x => [z98 x.1, (z4K 49 z1w z97) x.2]) (fun r => eB r) (fun x => zS x.1 x.2) [] (by
 rintro ⟨a0, a1⟩ ⟨b0, b1⟩ h
 have e0 := vD.inj (f := z98) _ _ (List.cons.inj h).1
 replace h := (List.cons.inj h).2
 have e1 := vD.inj (f := (z4K 49 z1w z97)) _ _ (List.cons.inj h).1
 subst e0 e1
 rfl)
theorem vN (hC : zO Tryz.prog ctr) (h0O : ctr.Has yZ) : yu.Ok Tryz.prog := by
 refine zY ?_
 rintro ⟨s_, f_⟩ r0 aa
 try unfold zS at aa
 refine yO true [(4, none)] vF 9 Tryz.func48 fun E hE => ?_
 obtain ⟨r_, h0, aa⟩ := zj aa
 obtain rfl := zi aa
 exact yE X0 hC hE [Hc h0O (x := (s_, (f_.1, f_.2))) h0 (loC z98 s_ <| loC (z4K 49 z1w z97) (f_.1, f_.2) <| loN)]
def ZH : Code := (Tryz.f15.body).getD .skip
def wD : wI := spF (α := z6) (ρ := Int) 15 (fun x => [yq x]) (fun r => (eI .i64) r) (fun x => wL x) [] (Q1)
abbrev Uj : List (Nat × T) := []
abbrev Ui (x_ : z6) (ic : Int) : List (Nat × T) := [(1, .d (.sptr (yq x_))), (27, .d (eSl 3 false ws x_.Parts)), (28, .d (I ((x_.Parts.length : Nat) : Int))), (29, .d (I ic))]
theorem JK (hC : zO Tryz.prog ctr) (h0P : ctr.Has Zy) (h0g : ctr.Has vp) (h0s : ctr.Has qG) (h0Q : ctr.Has yu) : wD.Ok Tryz.prog := by
 refine zY ?_
 rintro x_ r0 aa
 try unfold wL at aa
 refine yO true [(2, none)] ZH 51 Tryz.func15 fun E hE => ?_
 obtain ⟨r_, h0, aa⟩ := zj aa
 let Z0 : List HO := [Hc h0P (x := x_) h0 (loC yq x_ <| loN)]
 rcases zJ aa with ⟨c0, aa⟩ | ⟨c0, aa⟩
 ·obtain rfl := zi aa
  exact yE X0 hC hE (Z0 ++ [Hq c0])
 ·rcases zJ aa with ⟨c1, aa⟩ | ⟨c1, aa⟩
  ·obtain rfl := zi aa
   exact yE X0 hC hE (Z0 ++ (Hq c0 :: (rpN 4 (Hq c1) (rpN 10 qT []))))
  ·let Z1 : List HO := (Z0 ++ (Hq c0 :: (rpN 4 (Hq c1) [])))
   rcases zJ aa with ⟨c2, aa⟩ | ⟨c2, aa⟩
   ·obtain rfl := zi aa
    exact yE X0 hC hE (Z1 ++ (rpN 5 (Hq c2) (rpN 5 qT [])))
   ·let Z2 : List HO := (Z1 ++ [Hq c2, Hq c2, Hq c2, Ha (lnM ws x_.Parts), Hq c2, Hq c2])
    rcases zJ aa with ⟨c3, aa⟩ | ⟨c3, aa⟩
    ·obtain rfl := zi aa
     exact yE X0 hC hE (Z2 ++ (rpN 4 (Hq c3) [qT]))
    ·obtain ⟨al, h1, aa⟩ := zj aa
     let Z3 : List HO := (Z2 ++ [Hq c3, Hq c3, Hq c3, Hc (Ctr.add_has Qt wZ) (x := (x_.Channels, ())) h1 (loC F3_ x_.Channels <| loC (z04 47) () <| loN), Hq c3])
     rcases zJ aa with ⟨c4, aa⟩ | ⟨c4, aa⟩
     ·obtain rfl := zi aa
      exact yE ((Q3 zC (vg hC h0g) 24).or X0) hC hE (Z3 ++ [Hq c4])
     ·refine yJ ((Q3 zC (vg hC h0g) 24).or X0) hC ZH [1,1,1] [] [] (fun z : Unit => Zx = some r0) (fun z => Uj) [(1, .own (.box (yq x_)))] (Z3 ++ [Hq c4, Hh (.cut 0)]) ?_ fun J1 a8 => ?_
      ·rintro ⟨⟩ aa
       unfold Zx at aa
       obtain rfl := zi aa
       exact yE X0 hC hE []
      ·obtain ⟨t2, ht2, aa⟩ := zj aa
       refine yL X0 hC ZH [1,1,1,2,1,0] [J1] (fun s => uA x_ s) (fun x => Ui x_ x) 0 ht2  [Ha (lnM ws x_.Parts), Hh (.n 1 [1])] ?_
       rintro ic m2 bh ae hl1 J2 ba
       try unfold uA at ae
       rcases zJ ae with ⟨c5, ae⟩ | ⟨c5, ae⟩
       ·obtain ⟨am, h2, ae⟩ := zj ae
        let Z4 : List HO := [Hq c5, Hi ws h2]
        rcases zJ ae with ⟨c6, ae⟩ | ⟨c6, ae⟩
        ·obtain rfl := zi ae
         obtain rfl := hl1
         obtain rfl := zi aa
         exact yE X0 hC hE (Z4 ++ (rpN 7 (Hq c6) (rpN 6 qT [])))
        ·obtain ⟨ai, h3, ae⟩ := zj ae
         let Z5 : List HO := (Z4 ++ (rpN 5 (Hq c6) [Hc h0s (x := (am.Final, am.States)) h3 (loC F3_ am.Final <| loC (eI .i64) am.States <| loN), Hq c6, Hq c6]))
         rcases zJ ae with ⟨c7, ae⟩ | ⟨c7, ae⟩
         ·obtain rfl := zi ae
          obtain rfl := hl1
          obtain rfl := zi aa
          exact yE X0 hC hE (Z5 ++ (rpN 5 (Hq c7) [qT]))
         ·obtain ⟨aj, h4, ae⟩ := zj ae
          let Z6 : List HO := (Z5 ++ (rpN 4 (Hq c7) [Hc h0Q (x := (am.Arcs, (x_, am))) h4 (loC z98 am.Arcs <| loC (z4K 49 z1w z97) (x_, am) <| loN), Hq c7]))
          rcases zJ ae with ⟨c8, ae⟩ | ⟨c8, ae⟩
          ·obtain rfl := zi ae
           obtain rfl := hl1
           obtain rfl := zi aa
           exact yE X0 hC hE (Z6 ++ [Hq c8])
          ·obtain rfl := zi ae
           exact yB X0 hC ba (w64 (ic + 1)) hl1 (Z6 ++ [Hq c8])
       ·obtain rfl := zi ae
        obtain rfl := hl1
        exact yB X0 hC a8 () aa [Hq c5]
def Wg : Code := (Tryz.f51.body).getD .skip
def xY : wI := spF (α := z6 × za) (ρ := z6 × za) 51 (fun x => [yq x.1, yR x.2]) (fun r => (z4K 72 z1w (eSp yR)) r) (fun x => w5 x.1 x.2) [] (Uz)
theorem Ws (hC : zO Tryz.prog ctr) : xY.Ok Tryz.prog := by
 refine zY ?_
 rintro ⟨x_, s_⟩ r0 aa
 try unfold w5 at aa
 refine yO true [(4, none)] Wg 6 Tryz.func51 fun E hE => ?_
 obtain rfl := zi aa
 exact yEx X0 hC hE [] (.fn 72 [.sptr (.agg [I x_.Messages, I x_.Labels, eSl 1 false (eI .i64) x_.Channels, eSl 3 false ws x_.Parts]), .sptr (.agg [.agg [I s_.states_.e0, I s_.states_.e1, I s_.states_.e2, I s_.states_.e3], .agg [.agg [I s_.queues_.e0.many_, .agg [I s_.queues_.e0.l_.e0, I s_.queues_.e0.l_.e1, I s_.queues_.e0.l_.e2, I s_.queues_.e0.l_.e3]], .agg [I s_.queues_.e1.many_, .agg [I s_.queues_.e1.l_.e0, I s_.queues_.e1.l_.e1, I s_.queues_.e1.l_.e2, I s_.queues_.e1.l_.e3]], .agg [I s_.queues_.e2.many_, .agg [I s_.queues_.e2.l_.e0, I s_.queues_.e2.l_.e1, I s_.queues_.e2.l_.e2, I s_.queues_.e2.l_.e3]], .agg [I s_.queues_.e3.many_, .agg [I s_.queues_.e3.l_.e0, I s_.queues_.e3.l_.e1, I s_.queues_.e3.l_.e2, I s_.queues_.e3.l_.e3]]]])]) (show LeV (.fn 72 [.sptr (.agg [I x_.Messages, I x_.Labels, eSl 1 false (eI .i64) x_.Channels, eSl 3 false ws x_.Parts]), .sptr (.agg [.agg [I s_.states_.e0, I s_.states_.e1, I s_.states_.e2, I s_.states_.e3], .agg [.agg [I s_.queues_.e0.many_, .agg [I s_.queues_.e0.l_.e0, I s_.queues_.e0.l_.e1, I s_.queues_.e0.l_.e2, I s_.queues_.e0.l_.e3]], .agg [I s_.queues_.e1.many_, .agg [I s_.queues_.e1.l_.e0, I s_.queues_.e1.l_.e1, I s_.queues_.e1.l_.e2, I s_.queues_.e1.l_.e3]], .agg [I s_.queues_.e2.many_, .agg [I s_.queues_.e2.l_.e0, I s_.queues_.e2.l_.e1, I s_.queues_.e2.l_.e2, I s_.queues_.e2.l_.e3]], .agg [I s_.queues_.e3.many_, .agg [I s_.queues_.e3.l_.e0, I s_.queues_.e3.l_.e1, I s_.queues_.e3.l_.e2, I s_.queues_.e3.l_.e3]]]])]) (.fn 72 [.sptr (.agg [I (((x_, s_).1).Messages), I (((x_, s_).1).Labels), eSl 1 false (eI .i64) (((x_, s_).1).Channels), eSl 3 false ws (((x_, s_).1).Parts)]), .sptr (.agg [.agg [I ((((x_, s_).2).states_).e0), I ((((x_, s_).2).states_).e1), I ((((x_, s_).2).states_).e2), I ((((x_, s_).2).states_).e3)], .agg [.agg [I (((((x_, s_).2).queues_).e0).many_), .agg [I ((((((x_, s_).2).queues_).e0).l_).e0), I ((((((x_, s_).2).queues_).e0).l_).e1), I ((((((x_, s_).2).queues_).e0).l_).e2), I ((((((x_, s_).2).queues_).e0).l_).e3)]], .agg [I (((((x_, s_).2).queues_).e1).many_), .agg [I ((((((x_, s_).2).queues_).e1).l_).e0), I ((((((x_, s_).2).queues_).e1).l_).e1), I ((((((x_, s_).2).queues_).e1).l_).e2), I ((((((x_, s_).2).queues_).e1).l_).e3)]], .agg [I (((((x_, s_).2).queues_).e2).many_), .agg [I ((((((x_, s_).2).queues_).e2).l_).e0), I ((((((x_, s_).2).queues_).e2).l_).e1), I ((((((x_, s_).2).queues_).e2).l_).e2), I ((((((x_, s_).2).queues_).e2).l_).e3)]], .agg [I (((((x_, s_).2).queues_).e3).many_), .agg [I ((((((x_, s_).2).queues_).e3).l_).e0), I ((((((x_, s_).2).queues_).e3).l_).e1), I ((((((x_, s_).2).queues_).e3).l_).e2), I ((((((x_, s_).2).queues_).e3).l_).e3)]]]])]) from inferInstance)
def Wx : Code := (Tryz.f73.body).getD .skip
def xC : wI := spF (α := z6 × za × Int) (ρ := z6 × Int × za) 73 (fun x => [yq x.1, yR x.2.1, (eI .i64) x.2.2]) (fun r => (zeT 89 z1w (eSp (eI .i64)) (eSp yR)) r) (fun x => wg x.1 x.2.1 x.2.2) [] (zaM)
theorem WI (hC : zO Tryz.prog ctr) : xC.Ok Tryz.prog := by
 refine zY ?_
 rintro ⟨x_, s_, part⟩ r0 aa
 try unfold wg at aa
 refine yO true [(6, none)] Wx 8 Tryz.func73 fun E hE => ?_
 obtain rfl := zi aa
 exact yEx X0 hC hE [] (.fn 89 [.sptr (.agg [I x_.Messages, I x_.Labels, eSl 1 false (eI .i64) x_.Channels, eSl 3 false ws x_.Parts]), .sptr (I part), .sptr (.agg [.agg [I s_.states_.e0, I s_.states_.e1, I s_.states_.e2, I s_.states_.e3], .agg [.agg [I s_.queues_.e0.many_, .agg [I s_.queues_.e0.l_.e0, I s_.queues_.e0.l_.e1, I s_.queues_.e0.l_.e2, I s_.queues_.e0.l_.e3]], .agg [I s_.queues_.e1.many_, .agg [I s_.queues_.e1.l_.e0, I s_.queues_.e1.l_.e1, I s_.queues_.e1.l_.e2, I s_.queues_.e1.l_.e3]], .agg [I s_.queues_.e2.many_, .agg [I s_.queues_.e2.l_.e0, I s_.queues_.e2.l_.e1, I s_.queues_.e2.l_.e2, I s_.queues_.e2.l_.e3]], .agg [I s_.queues_.e3.many_, .agg [I s_.queues_.e3.l_.e0, I s_.queues_.e3.l_.e1, I s_.queues_.e3.l_.e2, I s_.queues_.e3.l_.e3]]]])]) (show LeV (.fn 89 [.sptr (.agg [I x_.Messages, I x_.Labels, eSl 1 false (eI .i64) x_.Channels, eSl 3 false ws x_.Parts]), .sptr (I part), .sptr (.agg [.agg [I s_.states_.e0, I s_.states_.e1, I s_.states_.e2, I s_.states_.e3], .agg [.agg [I s_.queues_.e0.many_, .agg [I s_.queues_.e0.l_.e0, I s_.queues_.e0.l_.e1, I s_.queues_.e0.l_.e2, I s_.queues_.e0.l_.e3]], .agg [I s_.queues_.e1.many_, .agg [I s_.queues_.e1.l_.e0, I s_.queues_.e1.l_.e1, I s_.queues_.e1.l_.e2, I s_.queues_.e1.l_.e3]], .agg [I s_.queues_.e2.many_, .agg [I s_.queues_.e2.l_.e0, I s_.queues_.e2.l_.e1, I s_.queues_.e2.l_.e2, I s_.queues_.e2.l_.e3]], .agg [I s_.queues_.e3.many_, .agg [I s_.queues_.e3.l_.e0, I s_.queues_.e3.l_.e1, I s_.queues_.e3.l_.e2, I s_.queues_.e3.l_.e3]]]])]) (.fn 89 [.sptr (.agg [I (((x_, part, s_).1).Messages), I (((x_, part, s_).1).Labels), eSl 1 false (eI .i64) (((x_, part, s_).1).Channels), eSl 3 false ws (((x_, part, s_).1).Parts)]), .sptr (I ((x_, part, s_).2.1)), .sptr (.agg [.agg [I ((((x_, part, s_).2.2).states_).e0), I ((((x_, part, s_).2.2).states_).e1), I ((((x_, part, s_).2.2).states_).e2), I ((((x_, part, s_).2.2).states_).e3)], .agg [.agg [I (((((x_, part, s_).2.2).queues_).e0).many_), .agg [I ((((((x_, part, s_).2.2).queues_).e0).l_).e0), I ((((((x_, part, s_).2.2).queues_).e0).l_).e1), I ((((((x_, part, s_).2.2).queues_).e0).l_).e2), I ((((((x_, part, s_).2.2).queues_).e0).l_).e3)]], .agg [I (((((x_, part, s_).2.2).queues_).e1).many_), .agg [I ((((((x_, part, s_).2.2).queues_).e1).l_).e0), I ((((((x_, part, s_).2.2).queues_).e1).l_).e1), I ((((((x_, part, s_).2.2).queues_).e1).l_).e2), I ((((((x_, part, s_).2.2).queues_).e1).l_).e3)]], .agg [I (((((x_, part, s_).2.2).queues_).e2).many_), .agg [I ((((((x_, part, s_).2.2).queues_).e2).l_).e0), I ((((((x_, part, s_).2.2).queues_).e2).l_).e1), I ((((((x_, part, s_).2.2).queues_).e2).l_).e2), I ((((((x_, part, s_).2.2).queues_).e2).l_).e3)]], .agg [I (((((x_, part, s_).2.2).queues_).e3).many_), .agg [I ((((((x_, part, s_).2.2).queues_).e3).l_).e0), I ((((((x_, part, s_).2.2).queues_).e3).l_).e1), I ((((((x_, part, s_).2.2).queues_).e3).l_).e2), I ((((((x_, part, s_).2.2).queues_).e3).l_).e3)]]]])]) from inferInstance)
def u2 : Code := (Tryz.f89.body).getD .skip
variable {σ : Type}
abbrev Yq (x1 : Int) (x2 : za) (YY : σ → z1t) (am : zh) (eu : Int) (ie : σ) : List (Nat × T) := [(0, .own (.opq (YY ie).q)), (2, .d (.sptr (I x1))), (3, .d (.sptr (yR x2))), (12, .d (eSl 5 false qD am.Arcs)), (13, .d (I ((am.Arcs.length : Nat) : Int))), (14, .d (I eu))]
abbrev Yp (x1 : Int) (x2 : za) (YY : σ → z1t) (am : zh) (ew : σ) (eu : Int) : List (Nat × T) := [(0, .own (.opq (YY ew).q)), (2, .d (.sptr (I x1))), (3, .d (.sptr (yR x2))), (12, .d (eSl 5 false qD am.Arcs)), (13, .d (I ((am.Arcs.length : Nat) : Int))), (14, .d (I eu))]
theorem kC (hC : zO Tryz.prog ctr) (x0 : z6) (x1 : Int) (x2 : za) : z8B Tryz.prog (.fn 89 [.sptr (.agg [I x0.Messages, I x0.Labels, eSl 1 false (eI .i64) x0.Channels, eSl 3 false ws x0.Parts]), .sptr (I x1), .sptr (.agg [.agg [I x2.states_.e0, I x2.states_.e1, I x2.states_.e2, I x2.states_.e3], .agg [.agg [I x2.queues_.e0.many_, .agg [I x2.queues_.e0.l_.e0, I x2.queues_.e0.l_.e1, I x2.queues_.e0.l_.e2, I x2.queues_.e0.l_.e3]], .agg [I x2.queues_.e1.many_, .agg [I x2.queues_.e1.l_.e0, I x2.queues_.e1.l_.e1, I x2.queues_.e1.l_.e2, I x2.queues_.e1.l_.e3]], .agg [I x2.queues_.e2.many_, .agg [I x2.queues_.e2.l_.e0, I x2.queues_.e2.l_.e1, I x2.queues_.e2.l_.e2, I x2.queues_.e2.l_.e3]], .agg [I x2.queues_.e3.many_, .agg [I x2.queues_.e3.l_.e0, I x2.queues_.e3.l_.e1, I x2.queues_.e3.l_.e2, I x2.queues_.e3.l_.e3]]]])]) (fun (x : Int × zb) (_ : Bool) (_ : Value) => [(eI .i64) x.1, qD x.2]) (@yl x0 x1 x2) := by
 refine z5Z (tt := qd) (nt := 34) (body := u2) zC Tryz.func89 rfl (by kernel_rfl) rfl rfl (by show (4 : Nat) ≤ 34; decide) ?_
 intro σ yv YY yy hy sg r0 aa E hE
 unfold yl at aa
 obtain ⟨am, h0, aa⟩ := zj aa
 obtain ⟨t1, ht1, aa⟩ := zj aa
 refine yL X0 hC u2 [1,0] [] (fun s => xM x1 x2 yy am s.1 s.2) (fun x => Yp x1 x2 YY am x.1 x.2) (sg, 0) ht1  [Hi ws h0, Ha (lnM qD am.Arcs)] ?_
 rintro ⟨ew, eu⟩ m1 bh ae hl1 J1 a8
 try unfold xM at ae
 rcases zJ ae with ⟨c0, ae⟩ | ⟨c0, ae⟩
 ·refine yJ X0 hC u2 [1,0,0,1,1] [J1] [0,2,3,12,13,14] (fun z : σ => wx eu z = some bh) (fun z => Yq x1 x2 YY am eu z) [(0, .own (.opq (YY ew).q)), (2, .d (.sptr (I x1))), (3, .d (.sptr (yR x2))), (12, .d (eSl 5 false qD am.Arcs)), (13, .d (I ((am.Arcs.length : Nat) : Int))), (14, .d (I eu))] [Hq c0, Hh (.cut 0)] ?_ fun J2 ba => ?_
  ·rintro ie ae
   unfold wx at ae
   obtain rfl := zi ae
   exact yB X0 hC a8 (ie, w64 (eu + 1)) hl1 []
  ·obtain ⟨az, h1, ae⟩ := zj ae
   obtain ⟨cell, h2, ae⟩ := zj ae
   let Z0 : List HO := [Hi qD h1, Hs (iM (eI .i64) h2), Hn (arJ (by kernel_rfl) (i0 h2) : Yy qd 57 ((zI.toL x2.states_).map (eI .i64)) x1 = true)]
   rcases zJ ae with ⟨c1, ae⟩ | ⟨c1, ae⟩
   ·obtain ⟨yr, h3, ae⟩ := zj ae
    let Z1 : List HO := (Z0 ++ (rpN 4 (Hq c1) [Hn (z2X (yv := yv) (Y := YY) (enc := (fun (x : Int × zb) (_ : Bool) (_ : Value) => [(eI .i64) x.1, qD x.2])) (s := ew) (x := (eu, az)) (s' := yr.1) (b := yr.2) (v := .nilFunc) [(eI .i64) eu, qD az] (show KO [(eI .i64) eu, qD az] [(eI .i64) eu, qD az] from inferInstance)), Hq c1, Hq c1]))
    rcases zJ ae with ⟨c2, ae⟩ | ⟨c2, ae⟩
    ·obtain rfl := zi ae
     obtain rfl := hl1
     obtain rfl := zi aa
     exact yF ((z09 (P := Tryz.prog) qd hy 30 (s := ew) (x := (eu, az)) (s' := yr.1) (b := yr.2) .nilFunc h3).or X0) hC .ret [(0, .own (.opq (YY yr.1).q))] (Z1 ++ [Hq c2]) fun st0 h0 => hE _ st0 (.inr rfl) h0
    ·exact yB ((z09 (P := Tryz.prog) qd hy 30 (s := ew) (x := (eu, az)) (s' := yr.1) (b := yr.2) .nilFunc h3).or X0) hC ba yr.1 ae (Z1 ++ [Hq c2])
   ·exact yB X0 hC ba ew ae (Z0 ++ (rpN 6 (Hq c1) [qF]))
 ·obtain rfl := zi ae
  obtain rfl := hl1
  obtain rfl := zi aa
  exact yF X0 hC .normal [(0, .own (.opq (YY ew).q))] [Hq c0] fun st0 h0 => hE _ st0 (.inl rfl) h0
def Vr : Code := (Tryz.f87.body).getD .skip
def vK : wI := spF (α := zg × Int) (ρ := zg) 87 (fun x => [F9_ x.1, (eI .i64) x.2]) (fun r => F9_ r) (fun x => vQ x.1 x.2) [] (Uz)
theorem VD (hC : zO Tryz.prog ctr) : vK.Ok Tryz.prog := by
 refine zY ?_
 rintro ⟨q_, m_⟩ r0 aa
 try unfold vQ at aa
 refine yO false [(4, some 59)] Vr 15 Tryz.func87 fun E hE => ?_
 obtain ⟨cell, h0, aa⟩ := zj aa
 obtain ⟨arr, h1, aa⟩ := zj aa
 replace h1 := zi h1
 obtain rfl := zi aa
 exact yE X0 hC hE [Hn (⟨arJ (by kernel_rfl) (i0 h0), (iL (eI .i64) h0).2⟩ : Yy qd 57 ((zI.toL q_.l_).map (eI .i64)) q_.many_ = true ∧ q_.many_.toNat < ((zI.toL q_.l_).map (eI .i64)).length), Hh (.op 7), Hh (.f), Hx (.a (.agg [I q_.l_.e0, I q_.l_.e1, I q_.l_.e2, I q_.l_.e3])) (rfl : some (.agg [I q_.l_.e0, I q_.l_.e1, I q_.l_.e2, I q_.l_.e3] : A) = some (.agg [I q_.l_.e0, I q_.l_.e1, I q_.l_.e2, I q_.l_.e3])), Hh (.f), Hs (iM (eI .i64) h0), Hh (.f), Hx (.a (.agg [I q_.l_.e0, I q_.l_.e1, I q_.l_.e2, I q_.l_.e3])) (rfl : some (.agg [I q_.l_.e0, I q_.l_.e1, I q_.l_.e2, I q_.l_.e3] : A) = some (.agg [I q_.l_.e0, I q_.l_.e1, I q_.l_.e2, I q_.l_.e3])), Hh (.f), Hs (iM (eI .i64) h0), Hx (.l ((zI.toL arr).map (eI .i64))) ((zI.setL (eI .i64) q_.l_ q_.many_ m_).trans (congrArg (fun q => (zI.toL q).map (eI .i64)) h1)), Hx (.l [I q_.many_, .agg [I arr.e0, I arr.e1, I arr.e2, I arr.e3]]) (rfl : ([I q_.many_, .agg [I arr.e0, I arr.e1, I arr.e2, I arr.e3]] : List A) = [I q_.many_, .agg [I arr.e0, I arr.e1, I arr.e2, I arr.e3]])]
def Zp : Code := (Tryz.f90.body).getD .skip
def qt : wI := spF (α := zg) (ρ := zg) 90 (fun x => [F9_ x]) (fun r => F9_ r) (fun x => uT x) [] (Q1)
theorem Vi (hC : zO Tryz.prog ctr) : qt.Ok Tryz.prog := by
 refine zY ?_
 rintro q_ r0 aa
 try unfold uT at aa
 refine yO false [(2, some 59)] Zp 15 Tryz.func90 fun E hE => ?_
 refine yA X0 hC Zp [1] [] [(1, .own (.box (F9_ q_))), (2, .own (.box (.agg [I 0, .agg [I 0, I 0, I 0, I 0]])))] [Hh (.cut 1)] ?_
 refine z3s (y := .box (.agg [I q_.many_, .agg [I q_.l_.e0, I q_.l_.e1, I q_.l_.e2, I q_.l_.e3]])) (by kernel_rfl) 1 (by kernel_rfl) (by kernel_rfl) fun pv1 hv1 => ?_
 obtain ⟨arr, h0, aa⟩ := zj aa
 replace h0 := zi h0
 obtain rfl := zi aa
 exact yE ((xCp zC 7 1 1 0 pv1 (some 1)).or ((xAv zC 6 1 1 1 pv1).or ((xAv zC 4 1 1 0 pv1).or X0))) hC hE [Hn (⟨rfl, rfl⟩ : T.ptr 1 [.deref, .fld 1] 0 0 = T.ptr 1 [.deref, .fld 1] 0 0 ∧ some pv1 = some pv1), Hn (⟨rfl, rfl⟩ : T.ptr 1 [.deref, .fld 1] 0 0 = T.ptr 1 [.deref, .fld 1] 0 0 ∧ some pv1 = some pv1), Hn (⟨rfl, by decide⟩ : T.d (.atom (z1o pv1 1 1 4)) = T.d (.atom (z1o pv1 1 1 4)) ∧ 1 ≤ 4), Hn (⟨rfl, rfl⟩ : T.d (.atom (z1o pv1 1 0 4)) = T.d (.atom (z1o pv1 1 0 4)) ∧ some pv1 = some pv1), Hn (dM (eI .i64) ((zI.toL q_.l_).drop 1)), Hx (.l ((zI.toL arr).map (eI .i64))) ((z6l (eI .i64) (zI.toL q_.l_) 0 ((zI.toL q_.l_).drop 1)).trans (congrArg (fun q => q.map (eI .i64)) ((zI.toL_ofL (cpA (zI.toL q_.l_) 0 ((zI.toL q_.l_).drop 1)) q_.l_ (z6m (zI.toL q_.l_) 0 ((zI.toL q_.l_).drop 1) (by show (0 : Nat) ≤ 4; decide))).symm.trans (congrArg zI.toL h0)))), Hn (⟨rfl, by decide⟩ : true = true ∧ 3 < 4)]
def uS : Code := (Tryz.f74.body).getD .skip
def xA : wI := spF (α := z6 × za × Int × zb) (ρ := za × Bool) 74 (fun x => [yq x.1, yR x.2.1, (eI .i64) x.2.2.1, qD x.2.2.2]) (fun r => .tup [yR r.1, (eEr 0 175) r.2]) (fun x => xK x.1 x.2.1 x.2.2.1 x.2.2.2) [] (zed)
abbrev Xi (arr : zI Int) (dw : zI zg) : List (Nat × T) := [(5, .own (.box (.agg [F0_ arr, z4N dw]))), (8, .own (.box (.agg [.agg [I 0, I 0, I 0, I 0], .agg [.agg [I 0, .agg [I 0, I 0, I 0, I 0]], .agg [I 0, .agg [I 0, I 0, I 0, I 0]], .agg [I 0, .agg [I 0, I 0, I 0, I 0]], .agg [I 0, .agg [I 0, I 0, I 0, I 0]]]])))]
abbrev Xh (s_ : za) (a_ : zb) (arr : zI Int) (bl : zg) (jr : Bool) : List (Nat × T) := [(5, .own (.box (.agg [F0_ arr, z4N s_.queues_]))), (7, .own (.box (qD a_))), (8, .own (.box (.agg [.agg [I 0, I 0, I 0, I 0], .agg [.agg [I 0, .agg [I 0, I 0, I 0, I 0]], .agg [I 0, .agg [I 0, I 0, I 0, I 0]], .agg [I 0, .agg [I 0, I 0, I 0, I 0]], .agg [I 0, .agg [I 0, I 0, I 0, I 0]]]]))), (10, .own (.box (F9_ bl))), (33, .d (B jr))]
theorem WH (hC : zO Tryz.prog ctr) (h0t : ctr.Has vK) (h0R : ctr.Has qt) : xA.Ok Tryz.prog := by
 refine zY ?_
 rintro ⟨x_, s_, part, a_⟩ r0 aa
 try unfold xK at aa
 refine yO false [(8, some 62), (9, none)] uS 86 Tryz.func74 fun E hE => ?_
 obtain ⟨cell, h0, aa⟩ := zj aa
 obtain ⟨arr, h1, aa⟩ := zj aa
 replace h1 := zi h1
 obtain ⟨bl, h2, aa⟩ := zj aa
 refine yJ ((xNe Tryz.prog 9 0 175).or X0) hC uS [1,1,1] [] [5,8] (fun z : zI zg => wV arr z = some r0) (fun z => Xi arr z) [(4, .own (.box (yq x_))), (5, .own (.box (.agg [F0_ arr, z4N s_.queues_]))), (7, .own (.box (qD a_))), (8, .own (.box (.agg [.agg [I 0, I 0, I 0, I 0], .agg [.agg [I 0, .agg [I 0, I 0, I 0, I 0]], .agg [I 0, .agg [I 0, I 0, I 0, I 0]], .agg [I 0, .agg [I 0, I 0, I 0, I 0]], .agg [I 0, .agg [I 0, I 0, I 0, I 0]]]]))), (10, .own (.box (F9_ bl)))] [Hn (⟨arJ (by kernel_rfl) (i0 h0), (iL (eI .i64) h0).2⟩ : Yy qd 57 ((zI.toL s_.states_).map (eI .i64)) part = true ∧ part.toNat < ((zI.toL s_.states_).map (eI .i64)).length), Hh (.op 10), Hh (.f), Hx (.a (.agg [I s_.states_.e0, I s_.states_.e1, I s_.states_.e2, I s_.states_.e3])) (rfl : some (.agg [I s_.states_.e0, I s_.states_.e1, I s_.states_.e2, I s_.states_.e3] : A) = some (.agg [I s_.states_.e0, I s_.states_.e1, I s_.states_.e2, I s_.states_.e3])), Hh (.f), Hs (iM (eI .i64) h0), Hh (.f), Hx (.a (.agg [I s_.states_.e0, I s_.states_.e1, I s_.states_.e2, I s_.states_.e3])) (rfl : some (.agg [I s_.states_.e0, I s_.states_.e1, I s_.states_.e2, I s_.states_.e3] : A) = some (.agg [I s_.states_.e0, I s_.states_.e1, I s_.states_.e2, I s_.states_.e3])), Hh (.f), Hs (iM (eI .i64) h0), Hx (.l ((zI.toL arr).map (eI .i64))) ((zI.setL (eI .i64) s_.states_ part a_.To).trans (congrArg (fun q => (zI.toL q).map (eI .i64)) h1)), Hx (.l [.agg [I arr.e0, I arr.e1, I arr.e2, I arr.e3], .agg [.agg [I s_.queues_.e0.many_, .agg [I s_.queues_.e0.l_.e0, I s_.queues_.e0.l_.e1, I s_.queues_.e0.l_.e2, I s_.queues_.e0.l_.e3]], .agg [I s_.queues_.e1.many_, .agg [I s_.queues_.e1.l_.e0, I s_.queues_.e1.l_.e1, I s_.queues_.e1.l_.e2, I s_.queues_.e1.l_.e3]], .agg [I s_.queues_.e2.many_, .agg [I s_.queues_.e2.l_.e0, I s_.queues_.e2.l_.e1, I s_.queues_.e2.l_.e2, I s_.queues_.e2.l_.e3]], .agg [I s_.queues_.e3.many_, .agg [I s_.queues_.e3.l_.e0, I s_.queues_.e3.l_.e1, I s_.queues_.e3.l_.e2, I s_.queues_.e3.l_.e3]]]]) (rfl : ([.agg [I arr.e0, I arr.e1, I arr.e2, I arr.e3], .agg [.agg [I s_.queues_.e0.many_, .agg [I s_.queues_.e0.l_.e0, I s_.queues_.e0.l_.e1, I s_.queues_.e0.l_.e2, I s_.queues_.e0.l_.e3]], .agg [I s_.queues_.e1.many_, .agg [I s_.queues_.e1.l_.e0, I s_.queues_.e1.l_.e1, I s_.queues_.e1.l_.e2, I s_.queues_.e1.l_.e3]], .agg [I s_.queues_.e2.many_, .agg [I s_.queues_.e2.l_.e0, I s_.queues_.e2.l_.e1, I s_.queues_.e2.l_.e2, I s_.queues_.e2.l_.e3]], .agg [I s_.queues_.e3.many_, .agg [I s_.queues_.e3.l_.e0, I s_.queues_.e3.l_.e1, I s_.queues_.e3.l_.e2, I s_.queues_.e3.l_.e3]]]] : List A) = [.agg [I arr.e0, I arr.e1, I arr.e2, I arr.e3], .agg [.agg [I s_.queues_.e0.many_, .agg [I s_.queues_.e0.l_.e0, I s_.queues_.e0.l_.e1, I s_.queues_.e0.l_.e2, I s_.queues_.e0.l_.e3]], .agg [I s_.queues_.e1.many_, .agg [I s_.queues_.e1.l_.e0, I s_.queues_.e1.l_.e1, I s_.queues_.e1.l_.e2, I s_.queues_.e1.l_.e3]], .agg [I s_.queues_.e2.many_, .agg [I s_.queues_.e2.l_.e0, I s_.queues_.e2.l_.e1, I s_.queues_.e2.l_.e2, I s_.queues_.e2.l_.e3]], .agg [I s_.queues_.e3.many_, .agg [I s_.queues_.e3.l_.e0, I s_.queues_.e3.l_.e1, I s_.queues_.e3.l_.e2, I s_.queues_.e3.l_.e3]]]]), Hn (⟨arJ (by kernel_rfl) (i0 h2), (iL F9_ h2).2⟩ : Yy qd 60 ((zI.toL s_.queues_).map F9_) (mn a_.Channel 3) = true ∧ (mn a_.Channel 3).toNat < ((zI.toL s_.queues_).map F9_).length), Hh (.op 5), Hh (.f), Hx (.a (.agg [.agg [I s_.queues_.e0.many_, .agg [I s_.queues_.e0.l_.e0, I s_.queues_.e0.l_.e1, I s_.queues_.e0.l_.e2, I s_.queues_.e0.l_.e3]], .agg [I s_.queues_.e1.many_, .agg [I s_.queues_.e1.l_.e0, I s_.queues_.e1.l_.e1, I s_.queues_.e1.l_.e2, I s_.queues_.e1.l_.e3]], .agg [I s_.queues_.e2.many_, .agg [I s_.queues_.e2.l_.e0, I s_.queues_.e2.l_.e1, I s_.queues_.e2.l_.e2, I s_.queues_.e2.l_.e3]], .agg [I s_.queues_.e3.many_, .agg [I s_.queues_.e3.l_.e0, I s_.queues_.e3.l_.e1, I s_.queues_.e3.l_.e2, I s_.queues_.e3.l_.e3]]])) (rfl : some (.agg [.agg [I s_.queues_.e0.many_, .agg [I s_.queues_.e0.l_.e0, I s_.queues_.e0.l_.e1, I s_.queues_.e0.l_.e2, I s_.queues_.e0.l_.e3]], .agg [I s_.queues_.e1.many_, .agg [I s_.queues_.e1.l_.e0, I s_.queues_.e1.l_.e1, I s_.queues_.e1.l_.e2, I s_.queues_.e1.l_.e3]], .agg [I s_.queues_.e2.many_, .agg [I s_.queues_.e2.l_.e0, I s_.queues_.e2.l_.e1, I s_.queues_.e2.l_.e2, I s_.queues_.e2.l_.e3]], .agg [I s_.queues_.e3.many_, .agg [I s_.queues_.e3.l_.e0, I s_.queues_.e3.l_.e1, I s_.queues_.e3.l_.e2, I s_.queues_.e3.l_.e3]]] : A) = some (.agg [.agg [I s_.queues_.e0.many_, .agg [I s_.queues_.e0.l_.e0, I s_.queues_.e0.l_.e1, I s_.queues_.e0.l_.e2, I s_.queues_.e0.l_.e3]], .agg [I s_.queues_.e1.many_, .agg [I s_.queues_.e1.l_.e0, I s_.queues_.e1.l_.e1, I s_.queues_.e1.l_.e2, I s_.queues_.e1.l_.e3]], .agg [I s_.queues_.e2.many_, .agg [I s_.queues_.e2.l_.e0, I s_.queues_.e2.l_.e1, I s_.queues_.e2.l_.e2, I s_.queues_.e2.l_.e3]], .agg [I s_.queues_.e3.many_, .agg [I s_.queues_.e3.l_.e0, I s_.queues_.e3.l_.e1, I s_.queues_.e3.l_.e2, I s_.queues_.e3.l_.e3]]])), Hh (.f), Hs (iM F9_ h2), Hh (.cut 0)] ?_ fun J1 a8 => ?_
 ·rintro dw aa
  unfold wV at aa
  obtain rfl := zi aa
  exact yE ((xNe Tryz.prog 9 0 175).or X0) hC hE []
 ·rcases zJ aa with ⟨c0, aa⟩ | ⟨c0, aa⟩
  ·obtain rfl := zi aa
   exact yE ((xNe Tryz.prog 9 0 175).or X0) hC hE [Hq c0]
  ·refine yJ X0 hC uS [1,1,1,2,0,1,1] [J1] [5,7,8,10,33] (fun z : Bool => zP s_ a_ arr bl z = some r0) (fun z => Xh s_ a_ arr bl z) [(4, .own (.box (yq x_))), (5, .own (.box (.agg [F0_ arr, z4N s_.queues_]))), (7, .own (.box (qD a_))), (8, .own (.box (.agg [.agg [I 0, I 0, I 0, I 0], .agg [.agg [I 0, .agg [I 0, I 0, I 0, I 0]], .agg [I 0, .agg [I 0, I 0, I 0, I 0]], .agg [I 0, .agg [I 0, I 0, I 0, I 0]], .agg [I 0, .agg [I 0, I 0, I 0, I 0]]]]))), (10, .own (.box (F9_ bl)))] [Hq c0, Hh (.cut 0)] ?_ fun J2 ba => ?_
   ·rintro jr aa
    unfold zP at aa
    rcases zJ aa with ⟨c1, aa⟩ | ⟨c1, aa⟩
    ·obtain rfl := zi aa
     exact yE X0 hC hE [Hq c1]
    ·rcases zJ aa with ⟨c2, aa⟩ | ⟨c2, aa⟩
     ·obtain ⟨r_, h3, aa⟩ := zj aa
      obtain ⟨l7, h4, aa⟩ := zj aa
      obtain ⟨arr1, h5, aa⟩ := zj aa
      replace h5 := zi h5
      exact yB X0 hC a8 arr1 aa [Hq c1, Hq c2, Hc h0t (x := (bl, a_.Message)) h3 (loC F9_ bl <| loC (eI .i64) a_.Message <| loN), Hn (⟨arJ (by kernel_rfl) (i0 h4), (iL F9_ h4).2⟩ : Yy qd 60 ((zI.toL s_.queues_).map F9_) a_.Channel = true ∧ a_.Channel.toNat < ((zI.toL s_.queues_).map F9_).length), Hh (.op 2), Hh (.f), Hx (.a (.agg [.agg [I s_.queues_.e0.many_, .agg [I s_.queues_.e0.l_.e0, I s_.queues_.e0.l_.e1, I s_.queues_.e0.l_.e2, I s_.queues_.e0.l_.e3]], .agg [I s_.queues_.e1.many_, .agg [I s_.queues_.e1.l_.e0, I s_.queues_.e1.l_.e1, I s_.queues_.e1.l_.e2, I s_.queues_.e1.l_.e3]], .agg [I s_.queues_.e2.many_, .agg [I s_.queues_.e2.l_.e0, I s_.queues_.e2.l_.e1, I s_.queues_.e2.l_.e2, I s_.queues_.e2.l_.e3]], .agg [I s_.queues_.e3.many_, .agg [I s_.queues_.e3.l_.e0, I s_.queues_.e3.l_.e1, I s_.queues_.e3.l_.e2, I s_.queues_.e3.l_.e3]]])) (rfl : some (.agg [.agg [I s_.queues_.e0.many_, .agg [I s_.queues_.e0.l_.e0, I s_.queues_.e0.l_.e1, I s_.queues_.e0.l_.e2, I s_.queues_.e0.l_.e3]], .agg [I s_.queues_.e1.many_, .agg [I s_.queues_.e1.l_.e0, I s_.queues_.e1.l_.e1, I s_.queues_.e1.l_.e2, I s_.queues_.e1.l_.e3]], .agg [I s_.queues_.e2.many_, .agg [I s_.queues_.e2.l_.e0, I s_.queues_.e2.l_.e1, I s_.queues_.e2.l_.e2, I s_.queues_.e2.l_.e3]], .agg [I s_.queues_.e3.many_, .agg [I s_.queues_.e3.l_.e0, I s_.queues_.e3.l_.e1, I s_.queues_.e3.l_.e2, I s_.queues_.e3.l_.e3]]] : A) = some (.agg [.agg [I s_.queues_.e0.many_, .agg [I s_.queues_.e0.l_.e0, I s_.queues_.e0.l_.e1, I s_.queues_.e0.l_.e2, I s_.queues_.e0.l_.e3]], .agg [I s_.queues_.e1.many_, .agg [I s_.queues_.e1.l_.e0, I s_.queues_.e1.l_.e1, I s_.queues_.e1.l_.e2, I s_.queues_.e1.l_.e3]], .agg [I s_.queues_.e2.many_, .agg [I s_.queues_.e2.l_.e0, I s_.queues_.e2.l_.e1, I s_.queues_.e2.l_.e2, I s_.queues_.e2.l_.e3]], .agg [I s_.queues_.e3.many_, .agg [I s_.queues_.e3.l_.e0, I s_.queues_.e3.l_.e1, I s_.queues_.e3.l_.e2, I s_.queues_.e3.l_.e3]]])), Hh (.f), Hs (iM F9_ h4), Hh (.f), Hx (.a (.agg [.agg [I s_.queues_.e0.many_, .agg [I s_.queues_.e0.l_.e0, I s_.queues_.e0.l_.e1, I s_.queues_.e0.l_.e2, I s_.queues_.e0.l_.e3]], .agg [I s_.queues_.e1.many_, .agg [I s_.queues_.e1.l_.e0, I s_.queues_.e1.l_.e1, I s_.queues_.e1.l_.e2, I s_.queues_.e1.l_.e3]], .agg [I s_.queues_.e2.many_, .agg [I s_.queues_.e2.l_.e0, I s_.queues_.e2.l_.e1, I s_.queues_.e2.l_.e2, I s_.queues_.e2.l_.e3]], .agg [I s_.queues_.e3.many_, .agg [I s_.queues_.e3.l_.e0, I s_.queues_.e3.l_.e1, I s_.queues_.e3.l_.e2, I s_.queues_.e3.l_.e3]]])) (rfl : some (.agg [.agg [I s_.queues_.e0.many_, .agg [I s_.queues_.e0.l_.e0, I s_.queues_.e0.l_.e1, I s_.queues_.e0.l_.e2, I s_.queues_.e0.l_.e3]], .agg [I s_.queues_.e1.many_, .agg [I s_.queues_.e1.l_.e0, I s_.queues_.e1.l_.e1, I s_.queues_.e1.l_.e2, I s_.queues_.e1.l_.e3]], .agg [I s_.queues_.e2.many_, .agg [I s_.queues_.e2.l_.e0, I s_.queues_.e2.l_.e1, I s_.queues_.e2.l_.e2, I s_.queues_.e2.l_.e3]], .agg [I s_.queues_.e3.many_, .agg [I s_.queues_.e3.l_.e0, I s_.queues_.e3.l_.e1, I s_.queues_.e3.l_.e2, I s_.queues_.e3.l_.e3]]] : A) = some (.agg [.agg [I s_.queues_.e0.many_, .agg [I s_.queues_.e0.l_.e0, I s_.queues_.e0.l_.e1, I s_.queues_.e0.l_.e2, I s_.queues_.e0.l_.e3]], .agg [I s_.queues_.e1.many_, .agg [I s_.queues_.e1.l_.e0, I s_.queues_.e1.l_.e1, I s_.queues_.e1.l_.e2, I s_.queues_.e1.l_.e3]], .agg [I s_.queues_.e2.many_, .agg [I s_.queues_.e2.l_.e0, I s_.queues_.e2.l_.e1, I s_.queues_.e2.l_.e2, I s_.queues_.e2.l_.e3]], .agg [I s_.queues_.e3.many_, .agg [I s_.queues_.e3.l_.e0, I s_.queues_.e3.l_.e1, I s_.queues_.e3.l_.e2, I s_.queues_.e3.l_.e3]]])), Hh (.f), Hs (iM F9_ h4), Hx (.l ((zI.toL arr1).map F9_)) ((zI.setL F9_ s_.queues_ a_.Channel r_).trans (congrArg (fun q => (zI.toL q).map F9_) h5)), Hx (.l [.agg [I arr.e0, I arr.e1, I arr.e2, I arr.e3], .agg [.agg [I arr1.e0.many_, .agg [I arr1.e0.l_.e0, I arr1.e0.l_.e1, I arr1.e0.l_.e2, I arr1.e0.l_.e3]], .agg [I arr1.e1.many_, .agg [I arr1.e1.l_.e0, I arr1.e1.l_.e1, I arr1.e1.l_.e2, I arr1.e1.l_.e3]], .agg [I arr1.e2.many_, .agg [I arr1.e2.l_.e0, I arr1.e2.l_.e1, I arr1.e2.l_.e2, I arr1.e2.l_.e3]], .agg [I arr1.e3.many_, .agg [I arr1.e3.l_.e0, I arr1.e3.l_.e1, I arr1.e3.l_.e2, I arr1.e3.l_.e3]]]]) (rfl : ([.agg [I arr.e0, I arr.e1, I arr.e2, I arr.e3], .agg [.agg [I arr1.e0.many_, .agg [I arr1.e0.l_.e0, I arr1.e0.l_.e1, I arr1.e0.l_.e2, I arr1.e0.l_.e3]], .agg [I arr1.e1.many_, .agg [I arr1.e1.l_.e0, I arr1.e1.l_.e1, I arr1.e1.l_.e2, I arr1.e1.l_.e3]], .agg [I arr1.e2.many_, .agg [I arr1.e2.l_.e0, I arr1.e2.l_.e1, I arr1.e2.l_.e2, I arr1.e2.l_.e3]], .agg [I arr1.e3.many_, .agg [I arr1.e3.l_.e0, I arr1.e3.l_.e1, I arr1.e3.l_.e2, I arr1.e3.l_.e3]]]] : List A) = [.agg [I arr.e0, I arr.e1, I arr.e2, I arr.e3], .agg [.agg [I arr1.e0.many_, .agg [I arr1.e0.l_.e0, I arr1.e0.l_.e1, I arr1.e0.l_.e2, I arr1.e0.l_.e3]], .agg [I arr1.e1.many_, .agg [I arr1.e1.l_.e0, I arr1.e1.l_.e1, I arr1.e1.l_.e2, I arr1.e1.l_.e3]], .agg [I arr1.e2.many_, .agg [I arr1.e2.l_.e0, I arr1.e2.l_.e1, I arr1.e2.l_.e2, I arr1.e2.l_.e3]], .agg [I arr1.e3.many_, .agg [I arr1.e3.l_.e0, I arr1.e3.l_.e1, I arr1.e3.l_.e2, I arr1.e3.l_.e3]]]])]
     ·obtain ⟨al, h6, aa⟩ := zj aa
      obtain ⟨l8, h7, aa⟩ := zj aa
      obtain ⟨arr2, h8, aa⟩ := zj aa
      replace h8 := zi h8
      exact yB X0 hC a8 arr2 aa [Hq c1, Hq c2, Hc h0R (x := bl) h6 (loC F9_ bl <| loN), Hn (⟨arJ (by kernel_rfl) (i0 h7), (iL F9_ h7).2⟩ : Yy qd 60 ((zI.toL s_.queues_).map F9_) a_.Channel = true ∧ a_.Channel.toNat < ((zI.toL s_.queues_).map F9_).length), Hh (.op 2), Hh (.f), Hx (.a (.agg [.agg [I s_.queues_.e0.many_, .agg [I s_.queues_.e0.l_.e0, I s_.queues_.e0.l_.e1, I s_.queues_.e0.l_.e2, I s_.queues_.e0.l_.e3]], .agg [I s_.queues_.e1.many_, .agg [I s_.queues_.e1.l_.e0, I s_.queues_.e1.l_.e1, I s_.queues_.e1.l_.e2, I s_.queues_.e1.l_.e3]], .agg [I s_.queues_.e2.many_, .agg [I s_.queues_.e2.l_.e0, I s_.queues_.e2.l_.e1, I s_.queues_.e2.l_.e2, I s_.queues_.e2.l_.e3]], .agg [I s_.queues_.e3.many_, .agg [I s_.queues_.e3.l_.e0, I s_.queues_.e3.l_.e1, I s_.queues_.e3.l_.e2, I s_.queues_.e3.l_.e3]]])) (rfl : some (.agg [.agg [I s_.queues_.e0.many_, .agg [I s_.queues_.e0.l_.e0, I s_.queues_.e0.l_.e1, I s_.queues_.e0.l_.e2, I s_.queues_.e0.l_.e3]], .agg [I s_.queues_.e1.many_, .agg [I s_.queues_.e1.l_.e0, I s_.queues_.e1.l_.e1, I s_.queues_.e1.l_.e2, I s_.queues_.e1.l_.e3]], .agg [I s_.queues_.e2.many_, .agg [I s_.queues_.e2.l_.e0, I s_.queues_.e2.l_.e1, I s_.queues_.e2.l_.e2, I s_.queues_.e2.l_.e3]], .agg [I s_.queues_.e3.many_, .agg [I s_.queues_.e3.l_.e0, I s_.queues_.e3.l_.e1, I s_.queues_.e3.l_.e2, I s_.queues_.e3.l_.e3]]] : A) = some (.agg [.agg [I s_.queues_.e0.many_, .agg [I s_.queues_.e0.l_.e0, I s_.queues_.e0.l_.e1, I s_.queues_.e0.l_.e2, I s_.queues_.e0.l_.e3]], .agg [I s_.queues_.e1.many_, .agg [I s_.queues_.e1.l_.e0, I s_.queues_.e1.l_.e1, I s_.queues_.e1.l_.e2, I s_.queues_.e1.l_.e3]], .agg [I s_.queues_.e2.many_, .agg [I s_.queues_.e2.l_.e0, I s_.queues_.e2.l_.e1, I s_.queues_.e2.l_.e2, I s_.queues_.e2.l_.e3]], .agg [I s_.queues_.e3.many_, .agg [I s_.queues_.e3.l_.e0, I s_.queues_.e3.l_.e1, I s_.queues_.e3.l_.e2, I s_.queues_.e3.l_.e3]]])), Hh (.f), Hs (iM F9_ h7), Hh (.f), Hx (.a (.agg [.agg [I s_.queues_.e0.many_, .agg [I s_.queues_.e0.l_.e0, I s_.queues_.e0.l_.e1, I s_.queues_.e0.l_.e2, I s_.queues_.e0.l_.e3]], .agg [I s_.queues_.e1.many_, .agg [I s_.queues_.e1.l_.e0, I s_.queues_.e1.l_.e1, I s_.queues_.e1.l_.e2, I s_.queues_.e1.l_.e3]], .agg [I s_.queues_.e2.many_, .agg [I s_.queues_.e2.l_.e0, I s_.queues_.e2.l_.e1, I s_.queues_.e2.l_.e2, I s_.queues_.e2.l_.e3]], .agg [I s_.queues_.e3.many_, .agg [I s_.queues_.e3.l_.e0, I s_.queues_.e3.l_.e1, I s_.queues_.e3.l_.e2, I s_.queues_.e3.l_.e3]]])) (rfl : some (.agg [.agg [I s_.queues_.e0.many_, .agg [I s_.queues_.e0.l_.e0, I s_.queues_.e0.l_.e1, I s_.queues_.e0.l_.e2, I s_.queues_.e0.l_.e3]], .agg [I s_.queues_.e1.many_, .agg [I s_.queues_.e1.l_.e0, I s_.queues_.e1.l_.e1, I s_.queues_.e1.l_.e2, I s_.queues_.e1.l_.e3]], .agg [I s_.queues_.e2.many_, .agg [I s_.queues_.e2.l_.e0, I s_.queues_.e2.l_.e1, I s_.queues_.e2.l_.e2, I s_.queues_.e2.l_.e3]], .agg [I s_.queues_.e3.many_, .agg [I s_.queues_.e3.l_.e0, I s_.queues_.e3.l_.e1, I s_.queues_.e3.l_.e2, I s_.queues_.e3.l_.e3]]] : A) = some (.agg [.agg [I s_.queues_.e0.many_, .agg [I s_.queues_.e0.l_.e0, I s_.queues_.e0.l_.e1, I s_.queues_.e0.l_.e2, I s_.queues_.e0.l_.e3]], .agg [I s_.queues_.e1.many_, .agg [I s_.queues_.e1.l_.e0, I s_.queues_.e1.l_.e1, I s_.queues_.e1.l_.e2, I s_.queues_.e1.l_.e3]], .agg [I s_.queues_.e2.many_, .agg [I s_.queues_.e2.l_.e0, I s_.queues_.e2.l_.e1, I s_.queues_.e2.l_.e2, I s_.queues_.e2.l_.e3]], .agg [I s_.queues_.e3.many_, .agg [I s_.queues_.e3.l_.e0, I s_.queues_.e3.l_.e1, I s_.queues_.e3.l_.e2, I s_.queues_.e3.l_.e3]]])), Hh (.f), Hs (iM F9_ h7), Hx (.l ((zI.toL arr2).map F9_)) ((zI.setL F9_ s_.queues_ a_.Channel al).trans (congrArg (fun q => (zI.toL q).map F9_) h8)), Hx (.l [.agg [I arr.e0, I arr.e1, I arr.e2, I arr.e3], .agg [.agg [I arr2.e0.many_, .agg [I arr2.e0.l_.e0, I arr2.e0.l_.e1, I arr2.e0.l_.e2, I arr2.e0.l_.e3]], .agg [I arr2.e1.many_, .agg [I arr2.e1.l_.e0, I arr2.e1.l_.e1, I arr2.e1.l_.e2, I arr2.e1.l_.e3]], .agg [I arr2.e2.many_, .agg [I arr2.e2.l_.e0, I arr2.e2.l_.e1, I arr2.e2.l_.e2, I arr2.e2.l_.e3]], .agg [I arr2.e3.many_, .agg [I arr2.e3.l_.e0, I arr2.e3.l_.e1, I arr2.e3.l_.e2, I arr2.e3.l_.e3]]]]) (rfl : ([.agg [I arr.e0, I arr.e1, I arr.e2, I arr.e3], .agg [.agg [I arr2.e0.many_, .agg [I arr2.e0.l_.e0, I arr2.e0.l_.e1, I arr2.e0.l_.e2, I arr2.e0.l_.e3]], .agg [I arr2.e1.many_, .agg [I arr2.e1.l_.e0, I arr2.e1.l_.e1, I arr2.e1.l_.e2, I arr2.e1.l_.e3]], .agg [I arr2.e2.many_, .agg [I arr2.e2.l_.e0, I arr2.e2.l_.e1, I arr2.e2.l_.e2, I arr2.e2.l_.e3]], .agg [I arr2.e3.many_, .agg [I arr2.e3.l_.e0, I arr2.e3.l_.e1, I arr2.e3.l_.e2, I arr2.e3.l_.e3]]]] : List A) = [.agg [I arr.e0, I arr.e1, I arr.e2, I arr.e3], .agg [.agg [I arr2.e0.many_, .agg [I arr2.e0.l_.e0, I arr2.e0.l_.e1, I arr2.e0.l_.e2, I arr2.e0.l_.e3]], .agg [I arr2.e1.many_, .agg [I arr2.e1.l_.e0, I arr2.e1.l_.e1, I arr2.e1.l_.e2, I arr2.e1.l_.e3]], .agg [I arr2.e2.many_, .agg [I arr2.e2.l_.e0, I arr2.e2.l_.e1, I arr2.e2.l_.e2, I arr2.e2.l_.e3]], .agg [I arr2.e3.many_, .agg [I arr2.e3.l_.e0, I arr2.e3.l_.e1, I arr2.e3.l_.e2, I arr2.e3.l_.e3]]]])]
   ·obtain ⟨ap, h9, aa⟩ := zj aa
    rcases zJ aa with ⟨c3, aa⟩ | ⟨c3, aa⟩
    ·exact yB X0 hC ba (ap == 0) aa [Hi (eI .i64) h9, Hq c3]
    ·rcases zJ aa with ⟨c4, aa⟩ | ⟨c4, aa⟩
     ·obtain ⟨dx, h10, aa⟩ := zj aa
      let Z0 : List HO := (Hi (eI .i64) h9 :: Hq c3 :: (rpN 7 (Hq c4) [Hi (eI .i64) h10, Hq c4, Hq c4, Hq c4]))
      rcases zJ aa with ⟨c5, aa⟩ | ⟨c5, aa⟩
      ·exact yB X0 hC ba (bl.many_ == dx) aa (Z0 ++ [Hq c5])
      ·rcases zJ aa with ⟨c6, aa⟩ | ⟨c6, aa⟩
       ·let Z1 : List HO := (Z0 ++ (Hq c5 :: (rpN 4 (Hq c6) [])))
        rcases zJ aa with ⟨c7, aa⟩ | ⟨c7, aa⟩
        ·exact yB X0 hC ba true aa (Z1 ++ (rpN 6 (Hq c7) [Hq c6, Hq c7, Hq c6]))
        ·exact yB X0 hC ba (bl.l_.e0 != a_.Message) aa (Z1 ++ (Hq c7 :: Hq c7 :: Hn (⟨rfl, by decide⟩ : true = true ∧ 0 < 4) :: (rpN 4 (Hq c7) [Hq c6, Hq c7, Hq c6])))
       ·exact yB X0 hC ba false aa (Z0 ++ (Hq c5 :: (rpN 6 (Hq c6) [])))
     ·let Z2 : List HO := (Hi (eI .i64) h9 :: Hq c3 :: (rpN 10 (Hq c4) [qF]))
      rcases zJ aa with ⟨c8, aa⟩ | ⟨c8, aa⟩
      ·let Z3 : List HO := (Z2 ++ (rpN 4 (Hq c8) []))
       rcases zJ aa with ⟨c9, aa⟩ | ⟨c9, aa⟩
       ·exact yB X0 hC ba true aa (Z3 ++ (rpN 6 (Hq c9) [Hq c8, Hq c9, Hq c8]))
       ·exact yB X0 hC ba (bl.l_.e0 != a_.Message) aa (Z3 ++ (Hq c9 :: Hq c9 :: Hn (⟨rfl, by decide⟩ : true = true ∧ 0 < 4) :: (rpN 4 (Hq c9) [Hq c8, Hq c9, Hq c8])))
      ·exact yB X0 hC ba false aa (Z2 ++ (rpN 6 (Hq c8) []))
def jS : wI := spF (α := Bool × Bool) (ρ := Bool) 75 (fun x : Bool × Bool => [(eEr 0 175) x.1, (eEr 0 175) x.2]) (fun r : Bool => eB r) (fun x : Bool × Bool => KC x.1 x.2) [] (Uz)
theorem z2U (hC : zO Tryz.prog ctr) : jS.Ok Tryz.prog := by
 refine zY ?_
 rintro ⟨e, t⟩ r0 aa
 cases t with
 | false => cases aa
 | true =>
  cases aa
  exact zaf e
def zx : Code := (Tryz.f72.body).getD .skip
abbrev ZU (x0 : z6) (x1 : za) (yv : Value) (YY : σ → z1t) (av : Int) (ie : σ) : List (Nat × T) := [(0, .own (.opq (YY ie).q)), (1, .d (.sptr (yq x0))), (2, .d (.sptr (yR x1))), (3, .own (.box (.atom yv))), (15, .d (I ((x0.Parts.length : Nat) : Int))), (16, .d (I av))]
abbrev zZ (x0 : z6) (x1 : za) (yv : Value) (YY : σ → z1t) (av : Int) (r_ : z6 × Int × za) (dz : σ) : List (Nat × T) := [(0, .own (.opq (YY dz).q)), (1, .d (.sptr (yq x0))), (2, .d (.sptr (yR x1))), (3, .own (.box (.atom yv))), (4, .own (.box (I av))), (15, .d (I ((x0.Parts.length : Nat) : Int))), (16, .d (I av)), (22, .d (.fn 89 [.sptr (.agg [I r_.1.Messages, I r_.1.Labels, eSl 1 false (eI .i64) r_.1.Channels, eSl 3 false ws r_.1.Parts]), .sptr (I r_.2.1), .sptr (.agg [.agg [I r_.2.2.states_.e0, I r_.2.2.states_.e1, I r_.2.2.states_.e2, I r_.2.2.states_.e3], .agg [.agg [I r_.2.2.queues_.e0.many_, .agg [I r_.2.2.queues_.e0.l_.e0, I r_.2.2.queues_.e0.l_.e1, I r_.2.2.queues_.e0.l_.e2, I r_.2.2.queues_.e0.l_.e3]], .agg [I r_.2.2.queues_.e1.many_, .agg [I r_.2.2.queues_.e1.l_.e0, I r_.2.2.queues_.e1.l_.e1, I r_.2.2.queues_.e1.l_.e2, I r_.2.2.queues_.e1.l_.e3]], .agg [I r_.2.2.queues_.e2.many_, .agg [I r_.2.2.queues_.e2.l_.e0, I r_.2.2.queues_.e2.l_.e1, I r_.2.2.queues_.e2.l_.e2, I r_.2.2.queues_.e2.l_.e3]], .agg [I r_.2.2.queues_.e3.many_, .agg [I r_.2.2.queues_.e3.l_.e0, I r_.2.2.queues_.e3.l_.e1, I r_.2.2.queues_.e3.l_.e2, I r_.2.2.queues_.e3.l_.e3]]]])]))]
abbrev ZT (x0 : z6) (x1 : za) (yv : Value) (YY : σ → z1t) (av : Int) (r_ : z6 × Int × za) (bf : Int) (bi : zb) (ap : Int) (br : Int) (kr : σ) : List (Nat × T) := [(0, .own (.opq (YY kr).q)), (1, .d (.sptr (yq x0))), (2, .d (.sptr (yR x1))), (3, .own (.box (.atom yv))), (4, .own (.box (I av))), (5, .own (.box (I bf))), (6, .own (.box (qD bi))), (15, .d (I ((x0.Parts.length : Nat) : Int))), (16, .d (I av)), (22, .d (.fn 89 [.sptr (.agg [I r_.1.Messages, I r_.1.Labels, eSl 1 false (eI .i64) r_.1.Channels, eSl 3 false ws r_.1.Parts]), .sptr (I r_.2.1), .sptr (.agg [.agg [I r_.2.2.states_.e0, I r_.2.2.states_.e1, I r_.2.2.states_.e2, I r_.2.2.states_.e3], .agg [.agg [I r_.2.2.queues_.e0.many_, .agg [I r_.2.2.queues_.e0.l_.e0, I r_.2.2.queues_.e0.l_.e1, I r_.2.2.queues_.e0.l_.e2, I r_.2.2.queues_.e0.l_.e3]], .agg [I r_.2.2.queues_.e1.many_, .agg [I r_.2.2.queues_.e1.l_.e0, I r_.2.2.queues_.e1.l_.e1, I r_.2.2.queues_.e1.l_.e2, I r_.2.2.queues_.e1.l_.e3]], .agg [I r_.2.2.queues_.e2.many_, .agg [I r_.2.2.queues_.e2.l_.e0, I r_.2.2.queues_.e2.l_.e1, I r_.2.2.queues_.e2.l_.e2, I r_.2.2.queues_.e2.l_.e3]], .agg [I r_.2.2.queues_.e3.many_, .agg [I r_.2.2.queues_.e3.l_.e0, I r_.2.2.queues_.e3.l_.e1, I r_.2.2.queues_.e3.l_.e2, I r_.2.2.queues_.e3.l_.e3]]]])])), (48, .d (.sptr (eSl 1 false (eI .i64) x0.Channels))), (49, .d (eSl 1 false (eI .i64) x0.Channels)), (51, .d (I bi.Channel)), (52, .d (.sptr (I ap))), (53, .d (I ap)), (54, .d (B (decide (ap > 0)))), (58, .d (I ((x0.Parts.length : Nat) : Int))), (59, .d (I br))]
abbrev yb (x0 : z6) (x1 : za) (yv : Value) (YY : σ → z1t) (av : Int) (r_ : z6 × Int × za) (bf : Int) (bi : zb) (ap : Int) (br : Int) (aj : z6 × Int × za) (dh : σ) : List (Nat × T) := [(0, .own (.opq (YY dh).q)), (1, .d (.sptr (yq x0))), (2, .d (.sptr (yR x1))), (3, .own (.box (.atom yv))), (4, .own (.box (I av))), (5, .own (.box (I bf))), (6, .own (.box (qD bi))), (9, .own (.box (I br))), (15, .d (I ((x0.Parts.length : Nat) : Int))), (16, .d (I av)), (22, .d (.fn 89 [.sptr (.agg [I r_.1.Messages, I r_.1.Labels, eSl 1 false (eI .i64) r_.1.Channels, eSl 3 false ws r_.1.Parts]), .sptr (I r_.2.1), .sptr (.agg [.agg [I r_.2.2.states_.e0, I r_.2.2.states_.e1, I r_.2.2.states_.e2, I r_.2.2.states_.e3], .agg [.agg [I r_.2.2.queues_.e0.many_, .agg [I r_.2.2.queues_.e0.l_.e0, I r_.2.2.queues_.e0.l_.e1, I r_.2.2.queues_.e0.l_.e2, I r_.2.2.queues_.e0.l_.e3]], .agg [I r_.2.2.queues_.e1.many_, .agg [I r_.2.2.queues_.e1.l_.e0, I r_.2.2.queues_.e1.l_.e1, I r_.2.2.queues_.e1.l_.e2, I r_.2.2.queues_.e1.l_.e3]], .agg [I r_.2.2.queues_.e2.many_, .agg [I r_.2.2.queues_.e2.l_.e0, I r_.2.2.queues_.e2.l_.e1, I r_.2.2.queues_.e2.l_.e2, I r_.2.2.queues_.e2.l_.e3]], .agg [I r_.2.2.queues_.e3.many_, .agg [I r_.2.2.queues_.e3.l_.e0, I r_.2.2.queues_.e3.l_.e1, I r_.2.2.queues_.e3.l_.e2, I r_.2.2.queues_.e3.l_.e3]]]])])), (48, .d (.sptr (eSl 1 false (eI .i64) x0.Channels))), (49, .d (eSl 1 false (eI .i64) x0.Channels)), (51, .d (I bi.Channel)), (52, .d (.sptr (I ap))), (53, .d (I ap)), (54, .d (B (decide (ap > 0)))), (58, .d (I ((x0.Parts.length : Nat) : Int))), (59, .d (I br)), (68, .d (.fn 89 [.sptr (.agg [I aj.1.Messages, I aj.1.Labels, eSl 1 false (eI .i64) aj.1.Channels, eSl 3 false ws aj.1.Parts]), .sptr (I aj.2.1), .sptr (.agg [.agg [I aj.2.2.states_.e0, I aj.2.2.states_.e1, I aj.2.2.states_.e2, I aj.2.2.states_.e3], .agg [.agg [I aj.2.2.queues_.e0.many_, .agg [I aj.2.2.queues_.e0.l_.e0, I aj.2.2.queues_.e0.l_.e1, I aj.2.2.queues_.e0.l_.e2, I aj.2.2.queues_.e0.l_.e3]], .agg [I aj.2.2.queues_.e1.many_, .agg [I aj.2.2.queues_.e1.l_.e0, I aj.2.2.queues_.e1.l_.e1, I aj.2.2.queues_.e1.l_.e2, I aj.2.2.queues_.e1.l_.e3]], .agg [I aj.2.2.queues_.e2.many_, .agg [I aj.2.2.queues_.e2.l_.e0, I aj.2.2.queues_.e2.l_.e1, I aj.2.2.queues_.e2.l_.e2, I aj.2.2.queues_.e2.l_.e3]], .agg [I aj.2.2.queues_.e3.many_, .agg [I aj.2.2.queues_.e3.l_.e0, I aj.2.2.queues_.e3.l_.e1, I aj.2.2.queues_.e3.l_.e2, I aj.2.2.queues_.e3.l_.e3]]]])]))]
abbrev ZR (x0 : z6) (x1 : za) (yv : Value) (YY : σ → z1t) (av : Int) (r_ : z6 × Int × za) (bf : Int) (bi : zb) (ap : Int) (ig : σ) (br : Int) : List (Nat × T) := [(0, .own (.opq (YY ig).q)), (1, .d (.sptr (yq x0))), (2, .d (.sptr (yR x1))), (3, .own (.box (.atom yv))), (4, .own (.box (I av))), (5, .own (.box (I bf))), (6, .own (.box (qD bi))), (15, .d (I ((x0.Parts.length : Nat) : Int))), (16, .d (I av)), (22, .d (.fn 89 [.sptr (.agg [I r_.1.Messages, I r_.1.Labels, eSl 1 false (eI .i64) r_.1.Channels, eSl 3 false ws r_.1.Parts]), .sptr (I r_.2.1), .sptr (.agg [.agg [I r_.2.2.states_.e0, I r_.2.2.states_.e1, I r_.2.2.states_.e2, I r_.2.2.states_.e3], .agg [.agg [I r_.2.2.queues_.e0.many_, .agg [I r_.2.2.queues_.e0.l_.e0, I r_.2.2.queues_.e0.l_.e1, I r_.2.2.queues_.e0.l_.e2, I r_.2.2.queues_.e0.l_.e3]], .agg [I r_.2.2.queues_.e1.many_, .agg [I r_.2.2.queues_.e1.l_.e0, I r_.2.2.queues_.e1.l_.e1, I r_.2.2.queues_.e1.l_.e2, I r_.2.2.queues_.e1.l_.e3]], .agg [I r_.2.2.queues_.e2.many_, .agg [I r_.2.2.queues_.e2.l_.e0, I r_.2.2.queues_.e2.l_.e1, I r_.2.2.queues_.e2.l_.e2, I r_.2.2.queues_.e2.l_.e3]], .agg [I r_.2.2.queues_.e3.many_, .agg [I r_.2.2.queues_.e3.l_.e0, I r_.2.2.queues_.e3.l_.e1, I r_.2.2.queues_.e3.l_.e2, I r_.2.2.queues_.e3.l_.e3]]]])])), (48, .d (.sptr (eSl 1 false (eI .i64) x0.Channels))), (49, .d (eSl 1 false (eI .i64) x0.Channels)), (51, .d (I bi.Channel)), (52, .d (.sptr (I ap))), (53, .d (I ap)), (54, .d (B (decide (ap > 0)))), (58, .d (I ((x0.Parts.length : Nat) : Int))), (59, .d (I br))]
abbrev ZS (x0 : z6) (x1 : za) (yv : Value) (YY : σ → z1t) (ew : σ) (av : Int) : List (Nat × T) := [(0, .own (.opq (YY ew).q)), (1, .d (.sptr (yq x0))), (2, .d (.sptr (yR x1))), (3, .own (.box (.atom yv))), (15, .d (I ((x0.Parts.length : Nat) : Int))), (16, .d (I av))]
theorem vM (hC : zO Tryz.prog ctr) (h07 : ctr.Has xC) (h0c : ctr.Has xA) (h0d : ctr.Has jS) (x0 : z6) (x1 : za) : z8B Tryz.prog (.fn 72 [.sptr (.agg [I x0.Messages, I x0.Labels, eSl 1 false (eI .i64) x0.Channels, eSl 3 false ws x0.Parts]), .sptr (.agg [.agg [I x1.states_.e0, I x1.states_.e1, I x1.states_.e2, I x1.states_.e3], .agg [.agg [I x1.queues_.e0.many_, .agg [I x1.queues_.e0.l_.e0, I x1.queues_.e0.l_.e1, I x1.queues_.e0.l_.e2, I x1.queues_.e0.l_.e3]], .agg [I x1.queues_.e1.many_, .agg [I x1.queues_.e1.l_.e0, I x1.queues_.e1.l_.e1, I x1.queues_.e1.l_.e2, I x1.queues_.e1.l_.e3]], .agg [I x1.queues_.e2.many_, .agg [I x1.queues_.e2.l_.e0, I x1.queues_.e2.l_.e1, I x1.queues_.e2.l_.e2, I x1.queues_.e2.l_.e3]], .agg [I x1.queues_.e3.many_, .agg [I x1.queues_.e3.l_.e0, I x1.queues_.e3.l_.e1, I x1.queues_.e3.l_.e2, I x1.queues_.e3.l_.e3]]]])]) (fun (x : ze × za) (_ : Bool) (_ : Value) => [xc x.1, yR x.2]) (@y7 x0 x1) := by
 refine z5Z (tt := qd) (nt := 110) (body := zx) zC Tryz.func72 rfl (by kernel_rfl) rfl rfl (by show (3 : Nat) ≤ 110; decide) ?_
 intro σ yv YY yy hy sg r0 aa E hE
 unfold y7 at aa
 obtain ⟨t1, ht1, aa⟩ := zj aa
 refine yL ((xBx Tryz.prog 3 0 yv).or X0) hC zx [1,1,0] [] (fun s => xE x0 x1 yy s.1 s.2) (fun x => ZS x0 x1 yv YY x.1 x.2) (sg, 0) ht1  [Hn (⟨rfl, rfl⟩ : false = false ∧ some yv = some yv), Ha (lnM ws x0.Parts)] ?_
 rintro ⟨ew, av⟩ m1 bh ae hl1 J1 a8
 try unfold xE at ae
 rcases zJ ae with ⟨c0, ae⟩ | ⟨c0, ae⟩
 ·refine yJ X0 hC zx [1,1,0,0,1,1] [J1] [0,1,2,3,15,16] (fun z : σ => vB av z = some bh) (fun z => ZU x0 x1 yv YY av z) [(0, .own (.opq (YY ew).q)), (1, .d (.sptr (yq x0))), (2, .d (.sptr (yR x1))), (3, .own (.box (.atom yv))), (15, .d (I ((x0.Parts.length : Nat) : Int))), (16, .d (I av))] [Hq c0, Hh (.cut 0)] ?_ fun J2 ba => ?_
  ·rintro ie ae
   unfold vB at ae
   obtain rfl := zi ae
   exact yB X0 hC a8 (ie, w64 (av + 1)) hl1 []
  ·obtain ⟨r_, h0, ae⟩ := zj ae
   obtain ⟨t3, ht3, ae⟩ := zj ae
   refine yAt X0 hC (sub [1,1,0,0,1,1,2,0,1,1,0] zx) (frs [1,1,0,0,1,1,2,0,1,1,0] [J1, J2] zx []) [(0, .own (.opq (YY ew).q)), (1, .d (.sptr (yq x0))), (2, .d (.sptr (yR x1))), (3, .own (.box (.atom yv))), (4, .own (.box (I av))), (15, .d (I ((x0.Parts.length : Nat) : Int))), (16, .d (I av)), (22, .d (.fn 89 [.sptr (.agg [I r_.1.Messages, I r_.1.Labels, eSl 1 false (eI .i64) r_.1.Channels, eSl 3 false ws r_.1.Parts]), .sptr (I r_.2.1), .sptr (.agg [.agg [I r_.2.2.states_.e0, I r_.2.2.states_.e1, I r_.2.2.states_.e2, I r_.2.2.states_.e3], .agg [.agg [I r_.2.2.queues_.e0.many_, .agg [I r_.2.2.queues_.e0.l_.e0, I r_.2.2.queues_.e0.l_.e1, I r_.2.2.queues_.e0.l_.e2, I r_.2.2.queues_.e0.l_.e3]], .agg [I r_.2.2.queues_.e1.many_, .agg [I r_.2.2.queues_.e1.l_.e0, I r_.2.2.queues_.e1.l_.e1, I r_.2.2.queues_.e1.l_.e2, I r_.2.2.queues_.e1.l_.e3]], .agg [I r_.2.2.queues_.e2.many_, .agg [I r_.2.2.queues_.e2.l_.e0, I r_.2.2.queues_.e2.l_.e1, I r_.2.2.queues_.e2.l_.e2, I r_.2.2.queues_.e2.l_.e3]], .agg [I r_.2.2.queues_.e3.many_, .agg [I r_.2.2.queues_.e3.l_.e0, I r_.2.2.queues_.e3.l_.e1, I r_.2.2.queues_.e3.l_.e2, I r_.2.2.queues_.e3.l_.e3]]]])]))] [Hc h07 (x := (x0, x1, av)) h0 (loC yq x0 <| loC yR x1 <| loC (eI .i64) av <| loN)] fun st0 h0 => ?_
   refine KJ (g := .tmp 22) (ps := [23,24]) (assign := (sub [1,1,0,0,1,1,2,0,1,1,0,0] zx)) (body := (sub [1,1,0,0,1,1,2,0,1,1,0,1] zx)) (K := 89) (caps := [.sptr (.agg [I r_.1.Messages, I r_.1.Labels, eSl 1 false (eI .i64) r_.1.Channels, eSl 3 false ws r_.1.Parts]), .sptr (I r_.2.1), .sptr (.agg [.agg [I r_.2.2.states_.e0, I r_.2.2.states_.e1, I r_.2.2.states_.e2, I r_.2.2.states_.e3], .agg [.agg [I r_.2.2.queues_.e0.many_, .agg [I r_.2.2.queues_.e0.l_.e0, I r_.2.2.queues_.e0.l_.e1, I r_.2.2.queues_.e0.l_.e2, I r_.2.2.queues_.e0.l_.e3]], .agg [I r_.2.2.queues_.e1.many_, .agg [I r_.2.2.queues_.e1.l_.e0, I r_.2.2.queues_.e1.l_.e1, I r_.2.2.queues_.e1.l_.e2, I r_.2.2.queues_.e1.l_.e3]], .agg [I r_.2.2.queues_.e2.many_, .agg [I r_.2.2.queues_.e2.l_.e0, I r_.2.2.queues_.e2.l_.e1, I r_.2.2.queues_.e2.l_.e2, I r_.2.2.queues_.e2.l_.e3]], .agg [I r_.2.2.queues_.e3.many_, .agg [I r_.2.2.queues_.e3.l_.e0, I r_.2.2.queues_.e3.l_.e1, I r_.2.2.queues_.e3.l_.e2, I r_.2.2.queues_.e3.l_.e3]]]])]) (by kernel_rfl) [0,1,2,3,4,15,16,22] (fun s => zZ x0 x1 yv YY av r_ s) (fun s => zZ x0 x1 yv YY av r_ s) (fun s => Code.ret) ((fun (x : Int × zb) (_ : Bool) (_ : Value) => [(eI .i64) x.1, qD x.2])) (F := @yl r_.1 r_.2.1 r_.2.2) (fun s x => xh x0 x1 yy av s x.1 x.2) ew t3 _ h0 inferInstance (by kernel_rfl) (by decide) (fun _ => rfl) (fun _ => rfl) (by kernel_rfl) (fun _ _ _ => rfl) (kC hC r_.1 r_.2.1 r_.2.2) ht3 ?_ ?_
   ·rintro kj dz ⟨bf, bi⟩ vr fp ak
    refine z1m (sz := 110) (k := 0) (u := kj 0) (v := yv) (ps := List.map (fun t => (t, kj t)) [1,2,3,4,15,16,22] ++ ([(0, yv)])) rfl (by simp) ?_
    replace ak : xh x0 x1 yy av dz bf bi = some fp := ak
    unfold xh at ak
    refine yF X0 hC .normal [(0, .own (.opq (YY dz).q)), (1, .d (.sptr (yq x0))), (2, .d (.sptr (yR x1))), (3, .own (.box (.atom yv))), (4, .own (.box (I av))), (5, .own (.box (I bf))), (6, .own (.box (qD bi))), (15, .d (I ((x0.Parts.length : Nat) : Int))), (16, .d (I av)), (22, .d (.fn 89 [.sptr (.agg [I r_.1.Messages, I r_.1.Labels, eSl 1 false (eI .i64) r_.1.Channels, eSl 3 false ws r_.1.Parts]), .sptr (I r_.2.1), .sptr (.agg [.agg [I r_.2.2.states_.e0, I r_.2.2.states_.e1, I r_.2.2.states_.e2, I r_.2.2.states_.e3], .agg [.agg [I r_.2.2.queues_.e0.many_, .agg [I r_.2.2.queues_.e0.l_.e0, I r_.2.2.queues_.e0.l_.e1, I r_.2.2.queues_.e0.l_.e2, I r_.2.2.queues_.e0.l_.e3]], .agg [I r_.2.2.queues_.e1.many_, .agg [I r_.2.2.queues_.e1.l_.e0, I r_.2.2.queues_.e1.l_.e1, I r_.2.2.queues_.e1.l_.e2, I r_.2.2.queues_.e1.l_.e3]], .agg [I r_.2.2.queues_.e2.many_, .agg [I r_.2.2.queues_.e2.l_.e0, I r_.2.2.queues_.e2.l_.e1, I r_.2.2.queues_.e2.l_.e2, I r_.2.2.queues_.e2.l_.e3]], .agg [I r_.2.2.queues_.e3.many_, .agg [I r_.2.2.queues_.e3.l_.e0, I r_.2.2.queues_.e3.l_.e1, I r_.2.2.queues_.e3.l_.e2, I r_.2.2.queues_.e3.l_.e3]]]])]))] [] fun st0 h0 => ⟨rfl, z1l h0 ?_⟩
    refine z1m (sz := 110) (k := 0) (u := kj 0) (v := yv) (ps := List.map (fun t => (t, kj t)) [1,2,3,4,15,16,22] ++ ([(0, yv)])) rfl (by simp) ?_
    obtain ⟨al, h1, ak⟩ := zj ak
    obtain ⟨ai, h2, ak⟩ := zj ak
    let Z0 : List HO := [Hc h0c (x := (x0, x1, av, bi)) h1 (loC yq x0 <| loC yR x1 <| loC (eI .i64) av <| loC qD bi <| loN), Hc h0d (x := (al.2, true)) h2 (loC (eEr 0 175) al.2 <| loC (eEr 0 175) true <| loN)]
    rcases zJ ak with ⟨c1, ak⟩ | ⟨c1, ak⟩
    ·obtain ⟨yr, h3, ak⟩ := zj ak
     let Z1 : List HO := (Z0 ++ [Hq c1, Hn (⟨rfl, rfl, _, rfl⟩ : T.own (.box (.atom yv)) = T.own (.box (.atom yv)) ∧ some yv = some yv ∧ ∃ x, T.own (.opq (YY dz).q) = T.own x), Hn (z2X (yv := yv) (Y := YY) (enc := (fun (x : ze × za) (_ : Bool) (_ : Value) => [xc x.1, yR x.2])) (s := dz) (x := ((ze.mk av bf (-1) (-1)), al.1)) (s' := yr.1) (b := yr.2) (v := .nilFunc) [xc (ze.mk av bf (-1) (-1)), yR al.1] (show KO [xc (ze.mk av bf (-1) (-1)), yR al.1] [xc (ze.mk av bf (-1) (-1)), yR al.1] from inferInstance))])
     rcases zJ ak with ⟨c2, ak⟩ | ⟨c2, ak⟩
     ·obtain rfl := zi ak
      exact yF ((z09 (P := Tryz.prog) qd hy 42 (s := dz) (x := ((ze.mk av bf (-1) (-1)), al.1)) (s' := yr.1) (b := yr.2) .nilFunc h3).or ((xLy zC 37 3 0 yv).or X0)) hC .ret (zZ x0 x1 yv YY av r_ yr.1) (Z1 ++ [Hq c2]) fun st0 h0 => ⟨rfl, _, h0, LeL.refl _⟩
     ·obtain rfl := zi ak
      exact yF ((z09 (P := Tryz.prog) qd hy 42 (s := dz) (x := ((ze.mk av bf (-1) (-1)), al.1)) (s' := yr.1) (b := yr.2) .nilFunc h3).or ((xLy zC 37 3 0 yv).or X0)) hC .normal (zZ x0 x1 yv YY av r_ yr.1) (Z1 ++ [Hq c2]) fun st0 h0 => ⟨rfl, _, h0, LeL.refl _⟩
    ·rcases zJ ak with ⟨c3, ak⟩ | ⟨c3, ak⟩
     ·obtain rfl := zi ak
      exact yF X0 hC .normal (zZ x0 x1 yv YY av r_ dz) (Z0 ++ (Hq c1 :: (rpN 8 (Hq c3) [qT]))) fun st0 h0 => ⟨rfl, _, h0, LeL.refl _⟩
     ·obtain ⟨ap, h4, ak⟩ := zj ak
      let Z2 : List HO := (Z0 ++ (Hq c1 :: (rpN 5 (Hq c3) [Hi (eI .i64) h4, Hq c3, Hq c3, Hq c3])))
      rcases zJ ak with ⟨c4, ak⟩ | ⟨c4, ak⟩
      ·obtain rfl := zi ak
       exact yF X0 hC .normal (zZ x0 x1 yv YY av r_ dz) (Z2 ++ [Hq c4]) fun st0 h0 => ⟨rfl, _, h0, LeL.refl _⟩
      ·obtain ⟨t4, ht4, ak⟩ := zj ak
       refine yL X0 hC zx [1,1,0,0,1,1,2,0,1,1,0,1,0,1,1,1,1,0] [J1, J2] (fun s => xe x0 x1 yy av bf bi s.1 s.2) (fun x => ZR x0 x1 yv YY av r_ bf bi ap x.1 x.2) (dz,0) ht4  (Z2 ++ [Hq c4, Ha (lnM ws x0.Parts)]) ?_
       rintro ⟨ig, br⟩ m4 mf fg hl3 J4 dv
       try unfold xe at fg
       rcases zJ fg with ⟨c5, fg⟩ | ⟨c5, fg⟩
       ·refine yJ X0 hC zx [1,1,0,0,1,1,2,0,1,1,0,1,0,1,1,1,1,0,0,1,1] [J1, J2, J4] [0,1,2,3,4,5,6,15,16,22,48,49,51,52,53,54,58,59] (fun z : σ => wr br z = some mf) (fun z => ZT x0 x1 yv YY av r_ bf bi ap br z) [(0, .own (.opq (YY ig).q)), (1, .d (.sptr (yq x0))), (2, .d (.sptr (yR x1))), (3, .own (.box (.atom yv))), (4, .own (.box (I av))), (5, .own (.box (I bf))), (6, .own (.box (qD bi))), (15, .d (I ((x0.Parts.length : Nat) : Int))), (16, .d (I av)), (22, .d (.fn 89 [.sptr (.agg [I r_.1.Messages, I r_.1.Labels, eSl 1 false (eI .i64) r_.1.Channels, eSl 3 false ws r_.1.Parts]), .sptr (I r_.2.1), .sptr (.agg [.agg [I r_.2.2.states_.e0, I r_.2.2.states_.e1, I r_.2.2.states_.e2, I r_.2.2.states_.e3], .agg [.agg [I r_.2.2.queues_.e0.many_, .agg [I r_.2.2.queues_.e0.l_.e0, I r_.2.2.queues_.e0.l_.e1, I r_.2.2.queues_.e0.l_.e2, I r_.2.2.queues_.e0.l_.e3]], .agg [I r_.2.2.queues_.e1.many_, .agg [I r_.2.2.queues_.e1.l_.e0, I r_.2.2.queues_.e1.l_.e1, I r_.2.2.queues_.e1.l_.e2, I r_.2.2.queues_.e1.l_.e3]], .agg [I r_.2.2.queues_.e2.many_, .agg [I r_.2.2.queues_.e2.l_.e0, I r_.2.2.queues_.e2.l_.e1, I r_.2.2.queues_.e2.l_.e2, I r_.2.2.queues_.e2.l_.e3]], .agg [I r_.2.2.queues_.e3.many_, .agg [I r_.2.2.queues_.e3.l_.e0, I r_.2.2.queues_.e3.l_.e1, I r_.2.2.queues_.e3.l_.e2, I r_.2.2.queues_.e3.l_.e3]]]])])), (48, .d (.sptr (eSl 1 false (eI .i64) x0.Channels))), (49, .d (eSl 1 false (eI .i64) x0.Channels)), (51, .d (I bi.Channel)), (52, .d (.sptr (I ap))), (53, .d (I ap)), (54, .d (B (decide (ap > 0)))), (58, .d (I ((x0.Parts.length : Nat) : Int))), (59, .d (I br))] [Hq c5, Hh (.cut 0)] ?_ fun J5 gh => ?_
        ·rintro kr fg
         unfold wr at fg
         obtain rfl := zi fg
         exact yB X0 hC dv (kr, w64 (br + 1)) hl3 []
        ·rcases zJ fg with ⟨c6, fg⟩ | ⟨c6, fg⟩
         ·exact yB X0 hC gh ig fg [Hq c6]
         ·obtain ⟨aj, h5, fg⟩ := zj fg
          obtain ⟨t6, ht6, fg⟩ := zj fg
          refine yAt X0 hC (sub [1,1,0,0,1,1,2,0,1,1,0,1,0,1,1,1,1,0,0,1,1,2,0,1,1,1,0] zx) (frs [1,1,0,0,1,1,2,0,1,1,0,1,0,1,1,1,1,0,0,1,1,2,0,1,1,1,0] [J1, J2, J4, J5] zx []) [(0, .own (.opq (YY ig).q)), (1, .d (.sptr (yq x0))), (2, .d (.sptr (yR x1))), (3, .own (.box (.atom yv))), (4, .own (.box (I av))), (5, .own (.box (I bf))), (6, .own (.box (qD bi))), (9, .own (.box (I br))), (15, .d (I ((x0.Parts.length : Nat) : Int))), (16, .d (I av)), (22, .d (.fn 89 [.sptr (.agg [I r_.1.Messages, I r_.1.Labels, eSl 1 false (eI .i64) r_.1.Channels, eSl 3 false ws r_.1.Parts]), .sptr (I r_.2.1), .sptr (.agg [.agg [I r_.2.2.states_.e0, I r_.2.2.states_.e1, I r_.2.2.states_.e2, I r_.2.2.states_.e3], .agg [.agg [I r_.2.2.queues_.e0.many_, .agg [I r_.2.2.queues_.e0.l_.e0, I r_.2.2.queues_.e0.l_.e1, I r_.2.2.queues_.e0.l_.e2, I r_.2.2.queues_.e0.l_.e3]], .agg [I r_.2.2.queues_.e1.many_, .agg [I r_.2.2.queues_.e1.l_.e0, I r_.2.2.queues_.e1.l_.e1, I r_.2.2.queues_.e1.l_.e2, I r_.2.2.queues_.e1.l_.e3]], .agg [I r_.2.2.queues_.e2.many_, .agg [I r_.2.2.queues_.e2.l_.e0, I r_.2.2.queues_.e2.l_.e1, I r_.2.2.queues_.e2.l_.e2, I r_.2.2.queues_.e2.l_.e3]], .agg [I r_.2.2.queues_.e3.many_, .agg [I r_.2.2.queues_.e3.l_.e0, I r_.2.2.queues_.e3.l_.e1, I r_.2.2.queues_.e3.l_.e2, I r_.2.2.queues_.e3.l_.e3]]]])])), (48, .d (.sptr (eSl 1 false (eI .i64) x0.Channels))), (49, .d (eSl 1 false (eI .i64) x0.Channels)), (51, .d (I bi.Channel)), (52, .d (.sptr (I ap))), (53, .d (I ap)), (54, .d (B (decide (ap > 0)))), (58, .d (I ((x0.Parts.length : Nat) : Int))), (59, .d (I br)), (68, .d (.fn 89 [.sptr (.agg [I aj.1.Messages, I aj.1.Labels, eSl 1 false (eI .i64) aj.1.Channels, eSl 3 false ws aj.1.Parts]), .sptr (I aj.2.1), .sptr (.agg [.agg [I aj.2.2.states_.e0, I aj.2.2.states_.e1, I aj.2.2.states_.e2, I aj.2.2.states_.e3], .agg [.agg [I aj.2.2.queues_.e0.many_, .agg [I aj.2.2.queues_.e0.l_.e0, I aj.2.2.queues_.e0.l_.e1, I aj.2.2.queues_.e0.l_.e2, I aj.2.2.queues_.e0.l_.e3]], .agg [I aj.2.2.queues_.e1.many_, .agg [I aj.2.2.queues_.e1.l_.e0, I aj.2.2.queues_.e1.l_.e1, I aj.2.2.queues_.e1.l_.e2, I aj.2.2.queues_.e1.l_.e3]], .agg [I aj.2.2.queues_.e2.many_, .agg [I aj.2.2.queues_.e2.l_.e0, I aj.2.2.queues_.e2.l_.e1, I aj.2.2.queues_.e2.l_.e2, I aj.2.2.queues_.e2.l_.e3]], .agg [I aj.2.2.queues_.e3.many_, .agg [I aj.2.2.queues_.e3.l_.e0, I aj.2.2.queues_.e3.l_.e1, I aj.2.2.queues_.e3.l_.e2, I aj.2.2.queues_.e3.l_.e3]]]])]))] [Hq c6, Hc h07 (x := (x0, x1, br)) h5 (loC yq x0 <| loC yR x1 <| loC (eI .i64) br <| loN)] fun st0 h0 => ?_
          refine KJ (g := .tmp 68) (ps := [69,70]) (assign := (sub [1,1,0,0,1,1,2,0,1,1,0,1,0,1,1,1,1,0,0,1,1,2,0,1,1,1,0,0] zx)) (body := (sub [1,1,0,0,1,1,2,0,1,1,0,1,0,1,1,1,1,0,0,1,1,2,0,1,1,1,0,1] zx)) (K := 89) (caps := [.sptr (.agg [I aj.1.Messages, I aj.1.Labels, eSl 1 false (eI .i64) aj.1.Channels, eSl 3 false ws aj.1.Parts]), .sptr (I aj.2.1), .sptr (.agg [.agg [I aj.2.2.states_.e0, I aj.2.2.states_.e1, I aj.2.2.states_.e2, I aj.2.2.states_.e3], .agg [.agg [I aj.2.2.queues_.e0.many_, .agg [I aj.2.2.queues_.e0.l_.e0, I aj.2.2.queues_.e0.l_.e1, I aj.2.2.queues_.e0.l_.e2, I aj.2.2.queues_.e0.l_.e3]], .agg [I aj.2.2.queues_.e1.many_, .agg [I aj.2.2.queues_.e1.l_.e0, I aj.2.2.queues_.e1.l_.e1, I aj.2.2.queues_.e1.l_.e2, I aj.2.2.queues_.e1.l_.e3]], .agg [I aj.2.2.queues_.e2.many_, .agg [I aj.2.2.queues_.e2.l_.e0, I aj.2.2.queues_.e2.l_.e1, I aj.2.2.queues_.e2.l_.e2, I aj.2.2.queues_.e2.l_.e3]], .agg [I aj.2.2.queues_.e3.many_, .agg [I aj.2.2.queues_.e3.l_.e0, I aj.2.2.queues_.e3.l_.e1, I aj.2.2.queues_.e3.l_.e2, I aj.2.2.queues_.e3.l_.e3]]]])]) (by kernel_rfl) [0,1,2,3,4,5,6,9,15,16,22,48,49,51,52,53,54,58,59,68] (fun s => yb x0 x1 yv YY av r_ bf bi ap br aj s) (fun s => yb x0 x1 yv YY av r_ bf bi ap br aj s) (fun s => Code.ret) ((fun (x : Int × zb) (_ : Bool) (_ : Value) => [(eI .i64) x.1, qD x.2])) (F := @yl aj.1 aj.2.1 aj.2.2) (fun s x => xg x1 yy av bf bi br s x.1 x.2) ig t6 _ h0 inferInstance (by kernel_rfl) (by decide) (fun _ => rfl) (fun _ => rfl) (by kernel_rfl) (fun _ _ _ => rfl) (kC hC aj.1 aj.2.1 aj.2.2) ht6 ?_ ?_
          ·rintro ll dh ⟨cd, fe⟩ vr mg cx
           refine z1m (sz := 110) (k := 0) (u := ll 0) (v := yv) (ps := List.map (fun t => (t, ll t)) [1,2,3,4,5,6,9,15,16,22,48,49,51,52,53,54,58,59,68] ++ (List.map (fun t => (t, kj t)) [1,2,3,4,15,16,22] ++ ([(0, yv)]))) rfl (by simp) ?_
           replace cx : xg x1 yy av bf bi br dh cd fe = some mg := cx
           unfold xg at cx
           refine yF X0 hC .normal [(0, .own (.opq (YY dh).q)), (1, .d (.sptr (yq x0))), (2, .d (.sptr (yR x1))), (3, .own (.box (.atom yv))), (4, .own (.box (I av))), (5, .own (.box (I bf))), (6, .own (.box (qD bi))), (9, .own (.box (I br))), (10, .d (I cd)), (11, .own (.box (qD fe))), (15, .d (I ((x0.Parts.length : Nat) : Int))), (16, .d (I av)), (22, .d (.fn 89 [.sptr (.agg [I r_.1.Messages, I r_.1.Labels, eSl 1 false (eI .i64) r_.1.Channels, eSl 3 false ws r_.1.Parts]), .sptr (I r_.2.1), .sptr (.agg [.agg [I r_.2.2.states_.e0, I r_.2.2.states_.e1, I r_.2.2.states_.e2, I r_.2.2.states_.e3], .agg [.agg [I r_.2.2.queues_.e0.many_, .agg [I r_.2.2.queues_.e0.l_.e0, I r_.2.2.queues_.e0.l_.e1, I r_.2.2.queues_.e0.l_.e2, I r_.2.2.queues_.e0.l_.e3]], .agg [I r_.2.2.queues_.e1.many_, .agg [I r_.2.2.queues_.e1.l_.e0, I r_.2.2.queues_.e1.l_.e1, I r_.2.2.queues_.e1.l_.e2, I r_.2.2.queues_.e1.l_.e3]], .agg [I r_.2.2.queues_.e2.many_, .agg [I r_.2.2.queues_.e2.l_.e0, I r_.2.2.queues_.e2.l_.e1, I r_.2.2.queues_.e2.l_.e2, I r_.2.2.queues_.e2.l_.e3]], .agg [I r_.2.2.queues_.e3.many_, .agg [I r_.2.2.queues_.e3.l_.e0, I r_.2.2.queues_.e3.l_.e1, I r_.2.2.queues_.e3.l_.e2, I r_.2.2.queues_.e3.l_.e3]]]])])), (48, .d (.sptr (eSl 1 false (eI .i64) x0.Channels))), (49, .d (eSl 1 false (eI .i64) x0.Channels)), (51, .d (I bi.Channel)), (52, .d (.sptr (I ap))), (53, .d (I ap)), (54, .d (B (decide (ap > 0)))), (58, .d (I ((x0.Parts.length : Nat) : Int))), (59, .d (I br)), (68, .d (.fn 89 [.sptr (.agg [I aj.1.Messages, I aj.1.Labels, eSl 1 false (eI .i64) aj.1.Channels, eSl 3 false ws aj.1.Parts]), .sptr (I aj.2.1), .sptr (.agg [.agg [I aj.2.2.states_.e0, I aj.2.2.states_.e1, I aj.2.2.states_.e2, I aj.2.2.states_.e3], .agg [.agg [I aj.2.2.queues_.e0.many_, .agg [I aj.2.2.queues_.e0.l_.e0, I aj.2.2.queues_.e0.l_.e1, I aj.2.2.queues_.e0.l_.e2, I aj.2.2.queues_.e0.l_.e3]], .agg [I aj.2.2.queues_.e1.many_, .agg [I aj.2.2.queues_.e1.l_.e0, I aj.2.2.queues_.e1.l_.e1, I aj.2.2.queues_.e1.l_.e2, I aj.2.2.queues_.e1.l_.e3]], .agg [I aj.2.2.queues_.e2.many_, .agg [I aj.2.2.queues_.e2.l_.e0, I aj.2.2.queues_.e2.l_.e1, I aj.2.2.queues_.e2.l_.e2, I aj.2.2.queues_.e2.l_.e3]], .agg [I aj.2.2.queues_.e3.many_, .agg [I aj.2.2.queues_.e3.l_.e0, I aj.2.2.queues_.e3.l_.e1, I aj.2.2.queues_.e3.l_.e2, I aj.2.2.queues_.e3.l_.e3]]]])]))] [] fun st0 h0 => ⟨rfl, z1l h0 ?_⟩
           refine z1m (sz := 110) (k := 0) (u := ll 0) (v := yv) (ps := List.map (fun t => (t, ll t)) [1,2,3,4,5,6,9,15,16,22,48,49,51,52,53,54,58,59,68] ++ (List.map (fun t => (t, kj t)) [1,2,3,4,15,16,22] ++ ([(0, yv)]))) rfl (by simp) ?_
           rcases zJ cx with ⟨c7, cx⟩ | ⟨c7, cx⟩
           ·obtain rfl := zi cx
            exact yF X0 hC .normal (yb x0 x1 yv YY av r_ bf bi ap br aj dh) (rpN 6 (Hq c7) (rpN 7 qT [])) fun st0 h0 => ⟨rfl, _, h0, LeL.refl _⟩
           ·let Z3 : List HO := (rpN 6 (Hq c7) [])
            rcases zJ cx with ⟨c8, cx⟩ | ⟨c8, cx⟩
            ·obtain rfl := zi cx
             exact yF X0 hC .normal (yb x0 x1 yv YY av r_ bf bi ap br aj dh) (Z3 ++ (rpN 6 (Hq c8) [qT])) fun st0 h0 => ⟨rfl, _, h0, LeL.refl _⟩
            ·let Z4 : List HO := (Z3 ++ (rpN 6 (Hq c8) []))
             rcases zJ cx with ⟨c9, cx⟩ | ⟨c9, cx⟩
             ·obtain rfl := zi cx
              exact yF X0 hC .normal (yb x0 x1 yv YY av r_ bf bi ap br aj dh) (Z4 ++ [Hq c9]) fun st0 h0 => ⟨rfl, _, h0, LeL.refl _⟩
             ·refine yA X0 hC zx [1,1,0,0,1,1,2,0,1,1,0,1,0,1,1,1,1,0,0,1,1,2,0,1,1,1,0,1,0,1,1] [J1, J2, J4, J5] [(0, .own (.opq (YY dh).q)), (1, .d (.sptr (yq x0))), (2, .d (.sptr (yR x1))), (3, .own (.box (.atom yv))), (4, .own (.box (I av))), (5, .own (.box (I bf))), (6, .own (.box (qD bi))), (9, .own (.box (I br))), (10, .d (I cd)), (11, .own (.box (qD fe))), (12, .own (.box (yR x1))), (15, .d (I ((x0.Parts.length : Nat) : Int))), (16, .d (I av)), (22, .d (.fn 89 [.sptr (.agg [I r_.1.Messages, I r_.1.Labels, eSl 1 false (eI .i64) r_.1.Channels, eSl 3 false ws r_.1.Parts]), .sptr (I r_.2.1), .sptr (.agg [.agg [I r_.2.2.states_.e0, I r_.2.2.states_.e1, I r_.2.2.states_.e2, I r_.2.2.states_.e3], .agg [.agg [I r_.2.2.queues_.e0.many_, .agg [I r_.2.2.queues_.e0.l_.e0, I r_.2.2.queues_.e0.l_.e1, I r_.2.2.queues_.e0.l_.e2, I r_.2.2.queues_.e0.l_.e3]], .agg [I r_.2.2.queues_.e1.many_, .agg [I r_.2.2.queues_.e1.l_.e0, I r_.2.2.queues_.e1.l_.e1, I r_.2.2.queues_.e1.l_.e2, I r_.2.2.queues_.e1.l_.e3]], .agg [I r_.2.2.queues_.e2.many_, .agg [I r_.2.2.queues_.e2.l_.e0, I r_.2.2.queues_.e2.l_.e1, I r_.2.2.queues_.e2.l_.e2, I r_.2.2.queues_.e2.l_.e3]], .agg [I r_.2.2.queues_.e3.many_, .agg [I r_.2.2.queues_.e3.l_.e0, I r_.2.2.queues_.e3.l_.e1, I r_.2.2.queues_.e3.l_.e2, I r_.2.2.queues_.e3.l_.e3]]]])])), (48, .d (.sptr (eSl 1 false (eI .i64) x0.Channels))), (49, .d (eSl 1 false (eI .i64) x0.Channels)), (51, .d (I bi.Channel)), (52, .d (.sptr (I ap))), (53, .d (I ap)), (54, .d (B (decide (ap > 0)))), (58, .d (I ((x0.Parts.length : Nat) : Int))), (59, .d (I br)), (68, .d (.fn 89 [.sptr (.agg [I aj.1.Messages, I aj.1.Labels, eSl 1 false (eI .i64) aj.1.Channels, eSl 3 false ws aj.1.Parts]), .sptr (I aj.2.1), .sptr (.agg [.agg [I aj.2.2.states_.e0, I aj.2.2.states_.e1, I aj.2.2.states_.e2, I aj.2.2.states_.e3], .agg [.agg [I aj.2.2.queues_.e0.many_, .agg [I aj.2.2.queues_.e0.l_.e0, I aj.2.2.queues_.e0.l_.e1, I aj.2.2.queues_.e0.l_.e2, I aj.2.2.queues_.e0.l_.e3]], .agg [I aj.2.2.queues_.e1.many_, .agg [I aj.2.2.queues_.e1.l_.e0, I aj.2.2.queues_.e1.l_.e1, I aj.2.2.queues_.e1.l_.e2, I aj.2.2.queues_.e1.l_.e3]], .agg [I aj.2.2.queues_.e2.many_, .agg [I aj.2.2.queues_.e2.l_.e0, I aj.2.2.queues_.e2.l_.e1, I aj.2.2.queues_.e2.l_.e2, I aj.2.2.queues_.e2.l_.e3]], .agg [I aj.2.2.queues_.e3.many_, .agg [I aj.2.2.queues_.e3.l_.e0, I aj.2.2.queues_.e3.l_.e1, I aj.2.2.queues_.e3.l_.e2, I aj.2.2.queues_.e3.l_.e3]]]])])), (76, .d (I fe.Channel)), (78, .d (I bi.Channel)), (79, .d (B (fe.Channel != bi.Channel))), (83, .d (I fe.Message)), (85, .d (I bi.Message)), (86, .d (B (fe.Message != bi.Message)))] (Z4 ++ [Hq c9, Hh (.cut 1)]) ?_
              obtain ⟨cell, h6, cx⟩ := zj cx
              obtain ⟨arr, h7, cx⟩ := zj cx
              replace h7 := zi h7
              obtain ⟨bl, h8, cx⟩ := zj cx
              obtain ⟨arr1, h9, cx⟩ := zj cx
              replace h9 := zi h9
              refine z6x (by kernel_rfl) (x := (sub [1,1,0,0,1,1,2,0,1,1,0,1,0,1,1,1,1,0,0,1,1,2,0,1,1,1,0,1,0,1,1,0] zx)) (y := (sub [1,1,0,0,1,1,2,0,1,1,0,1,0,1,1,1,1,0,0,1,1,2,0,1,1,1,0,1,0,1,1,1] zx)) 12 (fun st1 => Own.canon [0,1,2,3,4,5,6,9,10,12,15,16,22,48,49,51,52,53,54,58,59,68,76,78,79,83,85,86] st1 = ofL [(0, .own (.opq (YY dh).q)), (1, .d (.sptr (yq x0))), (2, .d (.sptr (yR x1))), (3, .own (.box (.atom yv))), (4, .own (.box (I av))), (5, .own (.box (I bf))), (6, .own (.box (qD bi))), (9, .own (.box (I br))), (10, .d (I cd)), (12, .own (.box (.agg [F0_ arr1, z4N x1.queues_]))), (15, .d (I ((x0.Parts.length : Nat) : Int))), (16, .d (I av)), (22, .d (.fn 89 [.sptr (.agg [I r_.1.Messages, I r_.1.Labels, eSl 1 false (eI .i64) r_.1.Channels, eSl 3 false ws r_.1.Parts]), .sptr (I r_.2.1), .sptr (.agg [.agg [I r_.2.2.states_.e0, I r_.2.2.states_.e1, I r_.2.2.states_.e2, I r_.2.2.states_.e3], .agg [.agg [I r_.2.2.queues_.e0.many_, .agg [I r_.2.2.queues_.e0.l_.e0, I r_.2.2.queues_.e0.l_.e1, I r_.2.2.queues_.e0.l_.e2, I r_.2.2.queues_.e0.l_.e3]], .agg [I r_.2.2.queues_.e1.many_, .agg [I r_.2.2.queues_.e1.l_.e0, I r_.2.2.queues_.e1.l_.e1, I r_.2.2.queues_.e1.l_.e2, I r_.2.2.queues_.e1.l_.e3]], .agg [I r_.2.2.queues_.e2.many_, .agg [I r_.2.2.queues_.e2.l_.e0, I r_.2.2.queues_.e2.l_.e1, I r_.2.2.queues_.e2.l_.e2, I r_.2.2.queues_.e2.l_.e3]], .agg [I r_.2.2.queues_.e3.many_, .agg [I r_.2.2.queues_.e3.l_.e0, I r_.2.2.queues_.e3.l_.e1, I r_.2.2.queues_.e3.l_.e2, I r_.2.2.queues_.e3.l_.e3]]]])])), (48, .d (.sptr (eSl 1 false (eI .i64) x0.Channels))), (49, .d (eSl 1 false (eI .i64) x0.Channels)), (51, .d (I bi.Channel)), (52, .d (.sptr (I ap))), (53, .d (I ap)), (54, .d (B (decide (ap > 0)))), (58, .d (I ((x0.Parts.length : Nat) : Int))), (59, .d (I br)), (68, .d (.fn 89 [.sptr (.agg [I aj.1.Messages, I aj.1.Labels, eSl 1 false (eI .i64) aj.1.Channels, eSl 3 false ws aj.1.Parts]), .sptr (I aj.2.1), .sptr (.agg [.agg [I aj.2.2.states_.e0, I aj.2.2.states_.e1, I aj.2.2.states_.e2, I aj.2.2.states_.e3], .agg [.agg [I aj.2.2.queues_.e0.many_, .agg [I aj.2.2.queues_.e0.l_.e0, I aj.2.2.queues_.e0.l_.e1, I aj.2.2.queues_.e0.l_.e2, I aj.2.2.queues_.e0.l_.e3]], .agg [I aj.2.2.queues_.e1.many_, .agg [I aj.2.2.queues_.e1.l_.e0, I aj.2.2.queues_.e1.l_.e1, I aj.2.2.queues_.e1.l_.e2, I aj.2.2.queues_.e1.l_.e3]], .agg [I aj.2.2.queues_.e2.many_, .agg [I aj.2.2.queues_.e2.l_.e0, I aj.2.2.queues_.e2.l_.e1, I aj.2.2.queues_.e2.l_.e2, I aj.2.2.queues_.e2.l_.e3]], .agg [I aj.2.2.queues_.e3.many_, .agg [I aj.2.2.queues_.e3.l_.e0, I aj.2.2.queues_.e3.l_.e1, I aj.2.2.queues_.e3.l_.e2, I aj.2.2.queues_.e3.l_.e3]]]])])), (76, .d (I fe.Channel)), (78, .d (I bi.Channel)), (79, .d (B (fe.Channel != bi.Channel))), (83, .d (I fe.Message)), (85, .d (I bi.Message)), (86, .d (B (fe.Message != bi.Message)))]) ⟨_, rfl⟩ (fun gi => yF ((xIa zC 98 12 0 gi).or ((xFa zC 97 12 0 gi).or ((xIa zC 96 12 0 gi).or ((xFa zC 95 12 0 gi).or X0)))) hC .normal [(0, .own (.opq (YY dh).q)), (1, .d (.sptr (yq x0))), (2, .d (.sptr (yR x1))), (3, .own (.box (.atom yv))), (4, .own (.box (I av))), (5, .own (.box (I bf))), (6, .own (.box (qD bi))), (9, .own (.box (I br))), (10, .d (I cd)), (12, .own (.box (.agg [F0_ arr1, z4N x1.queues_]))), (15, .d (I ((x0.Parts.length : Nat) : Int))), (16, .d (I av)), (22, .d (.fn 89 [.sptr (.agg [I r_.1.Messages, I r_.1.Labels, eSl 1 false (eI .i64) r_.1.Channels, eSl 3 false ws r_.1.Parts]), .sptr (I r_.2.1), .sptr (.agg [.agg [I r_.2.2.states_.e0, I r_.2.2.states_.e1, I r_.2.2.states_.e2, I r_.2.2.states_.e3], .agg [.agg [I r_.2.2.queues_.e0.many_, .agg [I r_.2.2.queues_.e0.l_.e0, I r_.2.2.queues_.e0.l_.e1, I r_.2.2.queues_.e0.l_.e2, I r_.2.2.queues_.e0.l_.e3]], .agg [I r_.2.2.queues_.e1.many_, .agg [I r_.2.2.queues_.e1.l_.e0, I r_.2.2.queues_.e1.l_.e1, I r_.2.2.queues_.e1.l_.e2, I r_.2.2.queues_.e1.l_.e3]], .agg [I r_.2.2.queues_.e2.many_, .agg [I r_.2.2.queues_.e2.l_.e0, I r_.2.2.queues_.e2.l_.e1, I r_.2.2.queues_.e2.l_.e2, I r_.2.2.queues_.e2.l_.e3]], .agg [I r_.2.2.queues_.e3.many_, .agg [I r_.2.2.queues_.e3.l_.e0, I r_.2.2.queues_.e3.l_.e1, I r_.2.2.queues_.e3.l_.e2, I r_.2.2.queues_.e3.l_.e3]]]])])), (48, .d (.sptr (eSl 1 false (eI .i64) x0.Channels))), (49, .d (eSl 1 false (eI .i64) x0.Channels)), (51, .d (I bi.Channel)), (52, .d (.sptr (I ap))), (53, .d (I ap)), (54, .d (B (decide (ap > 0)))), (58, .d (I ((x0.Parts.length : Nat) : Int))), (59, .d (I br)), (68, .d (.fn 89 [.sptr (.agg [I aj.1.Messages, I aj.1.Labels, eSl 1 false (eI .i64) aj.1.Channels, eSl 3 false ws aj.1.Parts]), .sptr (I aj.2.1), .sptr (.agg [.agg [I aj.2.2.states_.e0, I aj.2.2.states_.e1, I aj.2.2.states_.e2, I aj.2.2.states_.e3], .agg [.agg [I aj.2.2.queues_.e0.many_, .agg [I aj.2.2.queues_.e0.l_.e0, I aj.2.2.queues_.e0.l_.e1, I aj.2.2.queues_.e0.l_.e2, I aj.2.2.queues_.e0.l_.e3]], .agg [I aj.2.2.queues_.e1.many_, .agg [I aj.2.2.queues_.e1.l_.e0, I aj.2.2.queues_.e1.l_.e1, I aj.2.2.queues_.e1.l_.e2, I aj.2.2.queues_.e1.l_.e3]], .agg [I aj.2.2.queues_.e2.many_, .agg [I aj.2.2.queues_.e2.l_.e0, I aj.2.2.queues_.e2.l_.e1, I aj.2.2.queues_.e2.l_.e2, I aj.2.2.queues_.e2.l_.e3]], .agg [I aj.2.2.queues_.e3.many_, .agg [I aj.2.2.queues_.e3.l_.e0, I aj.2.2.queues_.e3.l_.e1, I aj.2.2.queues_.e3.l_.e2, I aj.2.2.queues_.e3.l_.e3]]]])])), (76, .d (I fe.Channel)), (78, .d (I bi.Channel)), (79, .d (B (fe.Channel != bi.Channel))), (83, .d (I fe.Message)), (85, .d (I bi.Message)), (86, .d (B (fe.Message != bi.Message)))] [Hn (rfl : some (z27 gi) = some (z27 gi)), Hn (⟨rfl, rfl⟩ : T.d (.atom (.pointer (some ⟨gi,0, none⟩))) = T.d (.atom (.pointer (some ⟨gi,0, none⟩))) ∧ some (z27 gi) = some (z27 gi)), Hn (⟨arJ (by kernel_rfl) (i0 h6), (iL (eI .i64) h6).2⟩ : Yy qd 57 ((zI.toL x1.states_).map (eI .i64)) av = true ∧ av.toNat < ((zI.toL x1.states_).map (eI .i64)).length), Hh (.op 8), Hh (.f), Hx (.a (.agg [I x1.states_.e0, I x1.states_.e1, I x1.states_.e2, I x1.states_.e3])) (rfl : some (.agg [I x1.states_.e0, I x1.states_.e1, I x1.states_.e2, I x1.states_.e3] : A) = some (.agg [I x1.states_.e0, I x1.states_.e1, I x1.states_.e2, I x1.states_.e3])), Hh (.f), Hs (iM (eI .i64) h6), Hh (.f), Hx (.a (.agg [I x1.states_.e0, I x1.states_.e1, I x1.states_.e2, I x1.states_.e3])) (rfl : some (.agg [I x1.states_.e0, I x1.states_.e1, I x1.states_.e2, I x1.states_.e3] : A) = some (.agg [I x1.states_.e0, I x1.states_.e1, I x1.states_.e2, I x1.states_.e3])), Hh (.f), Hs (iM (eI .i64) h6), Hx (.l ((zI.toL arr).map (eI .i64))) ((zI.setL (eI .i64) x1.states_ av bi.To).trans (congrArg (fun q => (zI.toL q).map (eI .i64)) h7)), Hx (.l [.agg [I arr.e0, I arr.e1, I arr.e2, I arr.e3], .agg [.agg [I x1.queues_.e0.many_, .agg [I x1.queues_.e0.l_.e0, I x1.queues_.e0.l_.e1, I x1.queues_.e0.l_.e2, I x1.queues_.e0.l_.e3]], .agg [I x1.queues_.e1.many_, .agg [I x1.queues_.e1.l_.e0, I x1.queues_.e1.l_.e1, I x1.queues_.e1.l_.e2, I x1.queues_.e1.l_.e3]], .agg [I x1.queues_.e2.many_, .agg [I x1.queues_.e2.l_.e0, I x1.queues_.e2.l_.e1, I x1.queues_.e2.l_.e2, I x1.queues_.e2.l_.e3]], .agg [I x1.queues_.e3.many_, .agg [I x1.queues_.e3.l_.e0, I x1.queues_.e3.l_.e1, I x1.queues_.e3.l_.e2, I x1.queues_.e3.l_.e3]]]]) (rfl : ([.agg [I arr.e0, I arr.e1, I arr.e2, I arr.e3], .agg [.agg [I x1.queues_.e0.many_, .agg [I x1.queues_.e0.l_.e0, I x1.queues_.e0.l_.e1, I x1.queues_.e0.l_.e2, I x1.queues_.e0.l_.e3]], .agg [I x1.queues_.e1.many_, .agg [I x1.queues_.e1.l_.e0, I x1.queues_.e1.l_.e1, I x1.queues_.e1.l_.e2, I x1.queues_.e1.l_.e3]], .agg [I x1.queues_.e2.many_, .agg [I x1.queues_.e2.l_.e0, I x1.queues_.e2.l_.e1, I x1.queues_.e2.l_.e2, I x1.queues_.e2.l_.e3]], .agg [I x1.queues_.e3.many_, .agg [I x1.queues_.e3.l_.e0, I x1.queues_.e3.l_.e1, I x1.queues_.e3.l_.e2, I x1.queues_.e3.l_.e3]]]] : List A) = [.agg [I arr.e0, I arr.e1, I arr.e2, I arr.e3], .agg [.agg [I x1.queues_.e0.many_, .agg [I x1.queues_.e0.l_.e0, I x1.queues_.e0.l_.e1, I x1.queues_.e0.l_.e2, I x1.queues_.e0.l_.e3]], .agg [I x1.queues_.e1.many_, .agg [I x1.queues_.e1.l_.e0, I x1.queues_.e1.l_.e1, I x1.queues_.e1.l_.e2, I x1.queues_.e1.l_.e3]], .agg [I x1.queues_.e2.many_, .agg [I x1.queues_.e2.l_.e0, I x1.queues_.e2.l_.e1, I x1.queues_.e2.l_.e2, I x1.queues_.e2.l_.e3]], .agg [I x1.queues_.e3.many_, .agg [I x1.queues_.e3.l_.e0, I x1.queues_.e3.l_.e1, I x1.queues_.e3.l_.e2, I x1.queues_.e3.l_.e3]]]]), Hn (rfl : some (z27 gi) = some (z27 gi)), Hn (⟨rfl, rfl⟩ : T.d (.atom (.pointer (some ⟨gi,0, none⟩))) = T.d (.atom (.pointer (some ⟨gi,0, none⟩))) ∧ some (z27 gi) = some (z27 gi)), Hn (⟨arJ (by kernel_rfl) (i0 h8), (iL (eI .i64) h8).2⟩ : Yy qd 57 ((zI.toL arr).map (eI .i64)) br = true ∧ br.toNat < ((zI.toL arr).map (eI .i64)).length), Hh (.op 2), Hh (.f), Hx (.a (.agg [I arr.e0, I arr.e1, I arr.e2, I arr.e3])) (rfl : some (.agg [I arr.e0, I arr.e1, I arr.e2, I arr.e3] : A) = some (.agg [I arr.e0, I arr.e1, I arr.e2, I arr.e3])), Hh (.f), Hs (iM (eI .i64) h8), Hh (.f), Hx (.a (.agg [I arr.e0, I arr.e1, I arr.e2, I arr.e3])) (rfl : some (.agg [I arr.e0, I arr.e1, I arr.e2, I arr.e3] : A) = some (.agg [I arr.e0, I arr.e1, I arr.e2, I arr.e3])), Hh (.f), Hs (iM (eI .i64) h8), Hx (.l ((zI.toL arr1).map (eI .i64))) ((zI.setL (eI .i64) arr br fe.To).trans (congrArg (fun q => (zI.toL q).map (eI .i64)) h9)), Hx (.l [.agg [I arr1.e0, I arr1.e1, I arr1.e2, I arr1.e3], .agg [.agg [I x1.queues_.e0.many_, .agg [I x1.queues_.e0.l_.e0, I x1.queues_.e0.l_.e1, I x1.queues_.e0.l_.e2, I x1.queues_.e0.l_.e3]], .agg [I x1.queues_.e1.many_, .agg [I x1.queues_.e1.l_.e0, I x1.queues_.e1.l_.e1, I x1.queues_.e1.l_.e2, I x1.queues_.e1.l_.e3]], .agg [I x1.queues_.e2.many_, .agg [I x1.queues_.e2.l_.e0, I x1.queues_.e2.l_.e1, I x1.queues_.e2.l_.e2, I x1.queues_.e2.l_.e3]], .agg [I x1.queues_.e3.many_, .agg [I x1.queues_.e3.l_.e0, I x1.queues_.e3.l_.e1, I x1.queues_.e3.l_.e2, I x1.queues_.e3.l_.e3]]]]) (rfl : ([.agg [I arr1.e0, I arr1.e1, I arr1.e2, I arr1.e3], .agg [.agg [I x1.queues_.e0.many_, .agg [I x1.queues_.e0.l_.e0, I x1.queues_.e0.l_.e1, I x1.queues_.e0.l_.e2, I x1.queues_.e0.l_.e3]], .agg [I x1.queues_.e1.many_, .agg [I x1.queues_.e1.l_.e0, I x1.queues_.e1.l_.e1, I x1.queues_.e1.l_.e2, I x1.queues_.e1.l_.e3]], .agg [I x1.queues_.e2.many_, .agg [I x1.queues_.e2.l_.e0, I x1.queues_.e2.l_.e1, I x1.queues_.e2.l_.e2, I x1.queues_.e2.l_.e3]], .agg [I x1.queues_.e3.many_, .agg [I x1.queues_.e3.l_.e0, I x1.queues_.e3.l_.e1, I x1.queues_.e3.l_.e2, I x1.queues_.e3.l_.e3]]]] : List A) = [.agg [I arr1.e0, I arr1.e1, I arr1.e2, I arr1.e3], .agg [.agg [I x1.queues_.e0.many_, .agg [I x1.queues_.e0.l_.e0, I x1.queues_.e0.l_.e1, I x1.queues_.e0.l_.e2, I x1.queues_.e0.l_.e3]], .agg [I x1.queues_.e1.many_, .agg [I x1.queues_.e1.l_.e0, I x1.queues_.e1.l_.e1, I x1.queues_.e1.l_.e2, I x1.queues_.e1.l_.e3]], .agg [I x1.queues_.e2.many_, .agg [I x1.queues_.e2.l_.e0, I x1.queues_.e2.l_.e1, I x1.queues_.e2.l_.e2, I x1.queues_.e2.l_.e3]], .agg [I x1.queues_.e3.many_, .agg [I x1.queues_.e3.l_.e0, I x1.queues_.e3.l_.e1, I x1.queues_.e3.l_.e2, I x1.queues_.e3.l_.e3]]]])] fun st0 h0 => ⟨rfl, h0⟩) fun st1 h1 => z1l h1 ?_
              obtain ⟨ib, h10, cx⟩ := zj cx
              let Z5 : List HO := [Hn (⟨rfl, rfl, _, rfl⟩ : T.own (.box (.atom yv)) = T.own (.box (.atom yv)) ∧ some yv = some yv ∧ ∃ x, T.own (.opq (YY dh).q) = T.own x), Hn (z2X (yv := yv) (Y := YY) (enc := (fun (x : ze × za) (_ : Bool) (_ : Value) => [xc x.1, yR x.2])) (s := dh) (x := ((ze.mk av bf br cd), (za.mk arr1 x1.queues_))) (s' := ib.1) (b := ib.2) (v := .nilFunc) [xc (ze.mk av bf br cd), yR (za.mk arr1 x1.queues_)] (show KO [xc (ze.mk av bf br cd), yR (za.mk arr1 x1.queues_)] [xc (ze.mk av bf br cd), yR (za.mk arr1 x1.queues_)] from inferInstance))]
              rcases zJ cx with ⟨c10, cx⟩ | ⟨c10, cx⟩
              ·obtain rfl := zi cx
               exact yF ((z09 (P := Tryz.prog) qd hy 106 (s := dh) (x := ((ze.mk av bf br cd), (za.mk arr1 x1.queues_))) (s' := ib.1) (b := ib.2) .nilFunc h10).or ((xLy zC 99 3 0 yv).or X0)) hC .ret (yb x0 x1 yv YY av r_ bf bi ap br aj ib.1) (Z5 ++ [Hq c10]) fun st0 h0 => ⟨rfl, _, h0, LeL.refl _⟩
              ·obtain rfl := zi cx
               exact yF ((z09 (P := Tryz.prog) qd hy 106 (s := dh) (x := ((ze.mk av bf br cd), (za.mk arr1 x1.queues_))) (s' := ib.1) (b := ib.2) .nilFunc h10).or ((xLy zC 99 3 0 yv).or X0)) hC .normal (yb x0 x1 yv YY av r_ bf bi ap br aj ib.1) (Z5 ++ [Hq c10]) fun st0 h0 => ⟨rfl, _, h0, LeL.refl _⟩
          ·rcases t6 with dh | dh
           ·dsimp only at fg
            exact XI (by kernel_rfl) (gh _ [(0, .own (.opq (YY dh).q)), (1, .d (.sptr (yq x0))), (2, .d (.sptr (yR x1))), (3, .own (.box (.atom yv))), (4, .own (.box (I av))), (5, .own (.box (I bf))), (6, .own (.box (qD bi))), (15, .d (I ((x0.Parts.length : Nat) : Int))), (16, .d (I av)), (22, .d (.fn 89 [.sptr (.agg [I r_.1.Messages, I r_.1.Labels, eSl 1 false (eI .i64) r_.1.Channels, eSl 3 false ws r_.1.Parts]), .sptr (I r_.2.1), .sptr (.agg [.agg [I r_.2.2.states_.e0, I r_.2.2.states_.e1, I r_.2.2.states_.e2, I r_.2.2.states_.e3], .agg [.agg [I r_.2.2.queues_.e0.many_, .agg [I r_.2.2.queues_.e0.l_.e0, I r_.2.2.queues_.e0.l_.e1, I r_.2.2.queues_.e0.l_.e2, I r_.2.2.queues_.e0.l_.e3]], .agg [I r_.2.2.queues_.e1.many_, .agg [I r_.2.2.queues_.e1.l_.e0, I r_.2.2.queues_.e1.l_.e1, I r_.2.2.queues_.e1.l_.e2, I r_.2.2.queues_.e1.l_.e3]], .agg [I r_.2.2.queues_.e2.many_, .agg [I r_.2.2.queues_.e2.l_.e0, I r_.2.2.queues_.e2.l_.e1, I r_.2.2.queues_.e2.l_.e2, I r_.2.2.queues_.e2.l_.e3]], .agg [I r_.2.2.queues_.e3.many_, .agg [I r_.2.2.queues_.e3.l_.e0, I r_.2.2.queues_.e3.l_.e1, I r_.2.2.queues_.e3.l_.e2, I r_.2.2.queues_.e3.l_.e3]]]])])), (48, .d (.sptr (eSl 1 false (eI .i64) x0.Channels))), (49, .d (eSl 1 false (eI .i64) x0.Channels)), (51, .d (I bi.Channel)), (52, .d (.sptr (I ap))), (53, .d (I ap)), (54, .d (B (decide (ap > 0)))), (58, .d (I ((x0.Parts.length : Nat) : Int))), (59, .d (I br))] dh fg (show Own.canon [0,1,2,3,4,5,6,15,16,22,48,49,51,52,53,54,58,59] _ = ofL _ by kernel_rfl) inferInstance)
           ·dsimp only at fg
            show AWP _ _ (Code.ret) _ _
            obtain rfl := zi fg
            obtain rfl := hl3
            obtain rfl := zi ak
            exact yF X0 hC .ret (zZ x0 x1 yv YY av r_ dh) [] fun st0 h0 => ⟨rfl, _, h0, LeL.refl _⟩
       ·obtain rfl := zi fg
        obtain rfl := hl3
        obtain rfl := zi ak
        exact yF X0 hC .normal (zZ x0 x1 yv YY av r_ ig) [Hq c5] fun st0 h0 => ⟨rfl, _, h0, LeL.refl _⟩
   ·rcases t3 with dz | dz
    ·dsimp only at ae
     exact XI (by kernel_rfl) (ba _ [(0, .own (.opq (YY dz).q)), (1, .d (.sptr (yq x0))), (2, .d (.sptr (yR x1))), (3, .own (.box (.atom yv))), (15, .d (I ((x0.Parts.length : Nat) : Int))), (16, .d (I av))] dz ae (show Own.canon [0,1,2,3,15,16] _ = ofL _ by kernel_rfl) inferInstance)
    ·dsimp only at ae
     show AWP _ _ (Code.ret) _ _
     obtain rfl := zi ae
     obtain rfl := hl1
     obtain rfl := zi aa
     exact yF X0 hC .ret [(0, .own (.opq (YY dz).q))] [] fun st0 h0 => hE _ st0 (.inr rfl) h0
 ·obtain rfl := zi ae
  obtain rfl := hl1
  obtain rfl := zi aa
  exact yF X0 hC .normal [(0, .own (.opq (YY ew).q))] [Hq c0] fun st0 h0 => hE _ st0 (.inl rfl) h0
def uZ : Code := (Tryz.f52.body).getD .skip
def xi : wI := spF (α := List z7) (ρ := List z7) 52 (fun x => [V7 x]) (fun r => wq r) (fun x => ya x) [] (Q1)
theorem qp (hC : zO Tryz.prog ctr) : xi.Ok Tryz.prog := by
 refine zY ?_
 rintro s_ r0 aa
 try unfold ya at aa
 refine yO true [(2, none)] uZ 9 Tryz.func52 fun E hE => ?_
 obtain ⟨g0, aa⟩ := gdE aa
 obtain rfl := zi aa
 exact yE X0 hC hE [Ha (lnM Zi s_), Ha (lnM Zi s_), Hn (slB g0), Hn (slC g0), Hn (z51 Zi g0), Ha (zbg 5 Zi s_ 0 ((s_.length : Nat) : Int).toNat)]
def u4 : Code := (Tryz.f53.body).getD .skip
def y6 : wI := spR (α := List (List z7)) (ρ := List (List z7)) 53 (fun x => [(eOs 1 false wq) x]) (fun r => (eOs 1 true wq) r) (fun x => yf x) [true] (Q1)
theorem vW : ∀ x r, (fun x => yf x) x = some r → (Qt.add y6).run 53 ((Qt.add y6).norm 53 ((fun x => [(eOs 1 false wq) x]) x)) = some ((fun r => (eOs 1 true wq) r) r) := fun x r h => zd0 h rfl
theorem vX : (Qt.add y6).gives 53 = [true] := zak
theorem u9 (hC : zO Tryz.prog ctr) : y6.Ok Tryz.prog := by
 refine z4W ?_
 rintro s_ r0 aa
 try unfold yf at aa
 refine yO true [(2, none)] u4 9 Tryz.func53 fun E hE => ?_
 obtain rfl := zi aa
 exact yE ((xCl zC 8).or X0) hC hE [Ha (lnM wq s_), Ha (lnM wq s_), Hn (Int.natCast_nonneg _ : (0 : Int) ≤ ((s_.length : Nat) : Int)), Hn (Int.natCast_nonneg _ : (0 : Int) ≤ ((s_.length : Nat) : Int)), Hn (clB wq s_), Ha (clE 1 wq s_)]
def y4 : Code := (Tryz.f16.body).getD .skip
def xZ : wI := spF (α := z6) (ρ := List za × List (List z7) × Int) 16 (fun x => [yq x]) (fun r => .tup [(eSl 24 false yR) r.1, z3w r.2.1, (eI .i64) r.2.2]) (fun x => y3 x) [] (Q1)
abbrev YF (x4 : Int) (list : List za) (bg : List (List z7)) : List (Nat × T) := [(2, .own (.box (eOs 24 true yR []))), (3, .own (.box (eOs 1 true V7 []))), (4, .own (.box (I x4))), (5, .own (.box (eOs 24 false yR list))), (7, .own (eOs 1 false wq bg))]
abbrev YE (x_ : z6) (i_ : Int) (ku : Int) (je : List za) (j4 : List (za × Int)) (ii : List (List z7)) : List (Nat × T) := [(1, .own (.box (yq x_))), (2, .own (.box (eOs 24 true yR []))), (3, .own (.box (eOs 1 true V7 []))), (4, .own (.box (I ku))), (5, .own (.box (eOs 24 false yR je))), (6, .own (.box (.opq (W2 (Xu yR (eI .i64) j4))))), (7, .own (eOs 1 false wq ii)), (8, .d (I i_))]
abbrev YD (x_ : z6) (bk : List (List z7)) (i_ : Int) (kw : Int) (jf : List za) (j5 : List (za × Int)) (l_ : List z7) : List (Nat × T) := [(1, .own (.box (yq x_))), (2, .own (.box (eOs 24 true yR []))), (3, .own (.box (eOs 1 true V7 []))), (4, .own (.box (I kw))), (5, .own (.box (eOs 24 false yR jf))), (6, .own (.box (.opq (W2 (Xu yR (eI .i64) j5))))), (7, .own (eOs 1 false wq bk)), (8, .d (I i_)), (9, .own (.box (eOs 5 false Zi l_)))]
abbrev wa (x_ : z6) (bk : List (List z7)) (i_ : Int) (ai : z6 × za) (dr : Int) (bz : List za) (cb : List (za × Int)) (dt : List z7) : List (Nat × T) := [(1, .own (.box (yq x_))), (2, .own (.box (eOs 24 true yR []))), (3, .own (.box (eOs 1 true V7 []))), (4, .own (.box (I dr))), (5, .own (.box (eOs 24 false yR bz))), (6, .own (.box (.opq (W2 (Xu yR (eI .i64) cb))))), (7, .own (eOs 1 false wq bk)), (8, .d (I i_)), (9, .own (.box (eOs 5 false Zi dt))), (30, .d (.fn 72 [.sptr (.agg [I ai.1.Messages, I ai.1.Labels, eSl 1 false (eI .i64) ai.1.Channels, eSl 3 false ws ai.1.Parts]), .sptr (.agg [.agg [I ai.2.states_.e0, I ai.2.states_.e1, I ai.2.states_.e2, I ai.2.states_.e3], .agg [.agg [I ai.2.queues_.e0.many_, .agg [I ai.2.queues_.e0.l_.e0, I ai.2.queues_.e0.l_.e1, I ai.2.queues_.e0.l_.e2, I ai.2.queues_.e0.l_.e3]], .agg [I ai.2.queues_.e1.many_, .agg [I ai.2.queues_.e1.l_.e0, I ai.2.queues_.e1.l_.e1, I ai.2.queues_.e1.l_.e2, I ai.2.queues_.e1.l_.e3]], .agg [I ai.2.queues_.e2.many_, .agg [I ai.2.queues_.e2.l_.e0, I ai.2.queues_.e2.l_.e1, I ai.2.queues_.e2.l_.e2, I ai.2.queues_.e2.l_.e3]], .agg [I ai.2.queues_.e3.many_, .agg [I ai.2.queues_.e3.l_.e0, I ai.2.queues_.e3.l_.e1, I ai.2.queues_.e3.l_.e2, I ai.2.queues_.e3.l_.e3]]]])]))]
abbrev YC (x_ : z6) (bk : List (List z7)) (i_ : Int) (ai : z6 × za) (dr : Int) (dt : List z7) (fw : ze) (jg : List za) (j6 : List (za × Int)) (n_ : Int) : List (Nat × T) := [(1, .own (.box (yq x_))), (2, .own (.box (eOs 24 true yR []))), (3, .own (.box (eOs 1 true V7 []))), (4, .own (.box (I dr))), (5, .own (.box (eOs 24 false yR jg))), (6, .own (.box (.opq (W2 (Xu yR (eI .i64) j6))))), (7, .own (eOs 1 false wq bk)), (8, .d (I i_)), (9, .own (.box (eOs 5 false Zi dt))), (10, .own (.box (xc fw))), (12, .d (I n_)), (30, .d (.fn 72 [.sptr (.agg [I ai.1.Messages, I ai.1.Labels, eSl 1 false (eI .i64) ai.1.Channels, eSl 3 false ws ai.1.Parts]), .sptr (.agg [.agg [I ai.2.states_.e0, I ai.2.states_.e1, I ai.2.states_.e2, I ai.2.states_.e3], .agg [.agg [I ai.2.queues_.e0.many_, .agg [I ai.2.queues_.e0.l_.e0, I ai.2.queues_.e0.l_.e1, I ai.2.queues_.e0.l_.e2, I ai.2.queues_.e0.l_.e3]], .agg [I ai.2.queues_.e1.many_, .agg [I ai.2.queues_.e1.l_.e0, I ai.2.queues_.e1.l_.e1, I ai.2.queues_.e1.l_.e2, I ai.2.queues_.e1.l_.e3]], .agg [I ai.2.queues_.e2.many_, .agg [I ai.2.queues_.e2.l_.e0, I ai.2.queues_.e2.l_.e1, I ai.2.queues_.e2.l_.e2, I ai.2.queues_.e2.l_.e3]], .agg [I ai.2.queues_.e3.many_, .agg [I ai.2.queues_.e3.l_.e0, I ai.2.queues_.e3.l_.e1, I ai.2.queues_.e3.l_.e2, I ai.2.queues_.e3.l_.e3]]]])]))]
abbrev YB (x_ : z6) (i8 : Int) (em : List za) (js : List (za × Int)) (bk : List (List z7)) (i_ : Int) : List (Nat × T) := [(1, .own (.box (yq x_))), (2, .own (.box (eOs 24 true yR []))), (3, .own (.box (eOs 1 true V7 []))), (4, .own (.box (I i8))), (5, .own (.box (eOs 24 false yR em))), (6, .own (.box (.opq (W2 (Xu yR (eI .i64) js))))), (7, .own (eOs 1 false wq bk)), (8, .d (I i_))]
theorem Wt (hC : zO Tryz.prog ctr) (h0i : ctr.Has xY) (h07 : ctr.Has xC) (h0c : ctr.Has xA) (h0d : ctr.Has jS) (h0x : ctr.Has xi) : xZ.Ok Tryz.prog := by
 refine zY ?_
 rintro x_ r0 aa
 try unfold y3 at aa
 refine yO false [(2, some 54), (3, some 23), (4, some 24)] y4 66 Tryz.func16 fun E hE => ?_
 refine yJ ((zev z5M 16 (Xu yR (eI .i64) ([] : List (za × Int))) (Xu yR (eI .i64) (KR ([] : List (za × Int)) (za.mk (zI.mk 0 0 0 0) (zI.mk (zg.mk 0 (zI.mk 0 0 0 0)) (zg.mk 0 (zI.mk 0 0 0 0)) (zg.mk 0 (zI.mk 0 0 0 0)) (zg.mk 0 (zI.mk 0 0 0 0)))) 0))).or ((zcw Tryz.prog 16).or X0)) hC y4 [1,1,1] [] [2,3,4,5,7] (fun z : Int × List za × List (List z7) => uj z.1 z.2.1 z.2.2 = some r0) (fun z => YF z.1 z.2.1 z.2.2) [(1, .own (.box (yq x_))), (2, .own (.box (eOs 24 true yR []))), (3, .own (.box (eOs 1 true V7 []))), (4, .own (.box (I 0))), (5, .own (.box (eOs 24 true yR ([(za.mk (zI.mk 0 0 0 0) (zI.mk (zg.mk 0 (zI.mk 0 0 0 0)) (zg.mk 0 (zI.mk 0 0 0 0)) (zg.mk 0 (zI.mk 0 0 0 0)) (zg.mk 0 (zI.mk 0 0 0 0))))])))), (6, .own (.box (.opq (W2 (Xu yR (eI .i64) (KR ([] : List (za × Int)) (za.mk (zI.mk 0 0 0 0) (zI.mk (zg.mk 0 (zI.mk 0 0 0 0)) (zg.mk 0 (zI.mk 0 0 0 0)) (zg.mk 0 (zI.mk 0 0 0 0)) (zg.mk 0 (zI.mk 0 0 0 0)))) 0)))))), (7, .own (eOs 1 true V7 []))] [Hn (⟨rfl, rfl, rfl, rfl, z6i (fun _ => rfl) ([] : List (za × Int))⟩ : T.own (.opq (W2 (Xu yR (eI .i64) ([] : List (za × Int))))) = T.own (.opq (W2 (Xu yR (eI .i64) ([] : List (za × Int))))) ∧ 1 = 1 ∧ (Ke [.i64, .i64, .i64, .i64, .i64, .i64, .i64, .i64, .i64, .i64, .i64, .i64, .i64, .i64, .i64, .i64, .i64, .i64, .i64, .i64, .i64, .i64, .i64, .i64]) (yR (za.mk (zI.mk 0 0 0 0) (zI.mk (zg.mk 0 (zI.mk 0 0 0 0)) (zg.mk 0 (zI.mk 0 0 0 0)) (zg.mk 0 (zI.mk 0 0 0 0)) (zg.mk 0 (zI.mk 0 0 0 0))))) = true ∧ ((eI .i64) 0).isD = true ∧ ∀ p ∈ Xu yR (eI .i64) ([] : List (za × Int)), (Ke [.i64, .i64, .i64, .i64, .i64, .i64, .i64, .i64, .i64, .i64, .i64, .i64, .i64, .i64, .i64, .i64, .i64, .i64, .i64, .i64, .i64, .i64, .i64, .i64]) p.1 = true), Hn (z5u (f := yR) (g := (eI .i64)) (za.mk (zI.mk 0 0 0 0) (zI.mk (zg.mk 0 (zI.mk 0 0 0 0)) (zg.mk 0 (zI.mk 0 0 0 0)) (zg.mk 0 (zI.mk 0 0 0 0)) (zg.mk 0 (zI.mk 0 0 0 0)))) 0 ([] : List (za × Int))), Hh (.cut 3)] ?_ fun J1 a8 => ?_
 ·rintro ⟨x4, list, bg⟩ aa
  unfold uj at aa
  obtain ⟨r_, h0, aa⟩ := zj aa
  obtain rfl := zi aa
  exact yE ((Q3 zC (u9 hC) 65).or X0) hC hE [Hh (.g [true]), Hn vX, Hx (.a ((eOs 1 true wq) r_)) (vW bg _ h0), Hm (shM yR yR list), Hm (shM wq wq r_)]
 ·obtain ⟨t2, ht2, aa⟩ := zj aa
  refine yLx X0 hC y4 [1,1,1,2,1,0] [J1] (fun s => xW x_ s.1 s.2.1 s.2.2.1 s.2.2.2.1 s.2.2.2.2) (fun x => YB x_ x.1 x.2.1 x.2.2.1 x.2.2.2.1 x.2.2.2.2) (0, ([(za.mk (zI.mk 0 0 0 0) (zI.mk (zg.mk 0 (zI.mk 0 0 0 0)) (zg.mk 0 (zI.mk 0 0 0 0)) (zg.mk 0 (zI.mk 0 0 0 0)) (zg.mk 0 (zI.mk 0 0 0 0))))] : List za), (KR ([] : List (za × Int)) (za.mk (zI.mk 0 0 0 0) (zI.mk (zg.mk 0 (zI.mk 0 0 0 0)) (zg.mk 0 (zI.mk 0 0 0 0)) (zg.mk 0 (zI.mk 0 0 0 0)) (zg.mk 0 (zI.mk 0 0 0 0)))) 0), ([] : List (List z7)), 0) ht2 [(1, .own (.box (yq x_))), (2, .own (.box (eOs 24 true yR []))), (3, .own (.box (eOs 1 true V7 []))), (4, .own (.box (I 0))), (5, .own (.box (eOs 24 true yR ([(za.mk (zI.mk 0 0 0 0) (zI.mk (zg.mk 0 (zI.mk 0 0 0 0)) (zg.mk 0 (zI.mk 0 0 0 0)) (zg.mk 0 (zI.mk 0 0 0 0)) (zg.mk 0 (zI.mk 0 0 0 0))))])))), (6, .own (.box (.opq (W2 (Xu yR (eI .i64) (KR ([] : List (za × Int)) (za.mk (zI.mk 0 0 0 0) (zI.mk (zg.mk 0 (zI.mk 0 0 0 0)) (zg.mk 0 (zI.mk 0 0 0 0)) (zg.mk 0 (zI.mk 0 0 0 0)) (zg.mk 0 (zI.mk 0 0 0 0)))) 0)))))), (7, .own (eOs 1 true wq [])), (8, .d (I 0))] inferInstance [] ?_
  rintro ⟨i8, em, js, bk, i_⟩ m2 bh ae hl1 J2 ba
  try unfold xW at ae
  let Z0 : List HO := [Ha (lnM yR em)]
  rcases zJ ae with ⟨c0, ae⟩ | ⟨c0, ae⟩
  ·refine yJ X0 hC y4 [1,1,1,2,1,0,0,1] [J1, J2] [1,2,3,4,5,6,7,8] (fun z : Int × List za × (List (za × Int)) × List (List z7) => wK i_ z.1 z.2.1 z.2.2.1 z.2.2.2 = some bh) (fun z => YE x_ i_ z.1 z.2.1 z.2.2.1 z.2.2.2) [(1, .own (.box (yq x_))), (2, .own (.box (eOs 24 true yR []))), (3, .own (.box (eOs 1 true V7 []))), (4, .own (.box (I i8))), (5, .own (.box (eOs 24 false yR em))), (6, .own (.box (.opq (W2 (Xu yR (eI .i64) js))))), (7, .own (eOs 1 false wq bk)), (8, .d (I i_))] (Z0 ++ [Hq c0, Hh (.cut 0)]) ?_ fun J3 cp => ?_
   ·rintro ⟨ku, je, j4, ii⟩ ae
    unfold wK at ae
    obtain rfl := zi ae
    exact yB X0 hC ba (ku, je, j4, ii, w64 (i_ + 1)) hl1 []
   ·refine yJ X0 hC y4 [1,1,1,2,1,0,0,1,2,0,1] [J1, J2, J3] [1,2,3,4,5,6,7,8,9] (fun z : Int × List za × (List (za × Int)) × List z7 => xX bk i_ z.1 z.2.1 z.2.2.1 z.2.2.2 = some bh) (fun z => YD x_ bk i_ z.1 z.2.1 z.2.2.1 z.2.2.2) [(1, .own (.box (yq x_))), (2, .own (.box (eOs 24 true yR []))), (3, .own (.box (eOs 1 true V7 []))), (4, .own (.box (I i8))), (5, .own (.box (eOs 24 false yR em))), (6, .own (.box (.opq (W2 (Xu yR (eI .i64) js))))), (7, .own (eOs 1 false wq bk)), (8, .d (I i_)), (9, .own (.box (eOs 5 true Zi [])))] [Hh (.cut 1)] ?_ fun J4 dv => ?_
    ·rintro ⟨kw, jf, j5, l_⟩ ae
     unfold xX at ae
     obtain ⟨al, h1, ae⟩ := zj ae
     obtain ⟨g0, ae⟩ := gdE ae
     exact yB X0 hC cp (kw, jf, j5, (bk ++ [al])) ae [Hg (Ko h0x), Hm (shM Zi Zi l_), Hs (Kp h0x (x := l_) h1 (loC V7 l_ <| loN)), Hm (shM Zi Zi l_), Hq (dM wq [al]), Hn (dM wq [al]), Hn (aL wq wq g0), Hl (aM wq bk [al])]
    ·obtain ⟨fh, h2, ae⟩ := zj ae
     obtain ⟨ai, h3, ae⟩ := zj ae
     obtain ⟨t5, ht5, ae⟩ := zj ae
     refine yAt X0 hC (sub [1,1,1,2,1,0,0,1,2,0,1,2,1,0] y4) (frs [1,1,1,2,1,0,0,1,2,0,1,2,1,0] [J1, J2, J3, J4] y4 []) [(1, .own (.box (yq x_))), (2, .own (.box (eOs 24 true yR []))), (3, .own (.box (eOs 1 true V7 []))), (4, .own (.box (I i8))), (5, .own (.box (eOs 24 false yR em))), (6, .own (.box (.opq (W2 (Xu yR (eI .i64) js))))), (7, .own (eOs 1 false wq bk)), (8, .d (I i_)), (9, .own (.box (eOs 5 true Zi []))), (30, .d (.fn 72 [.sptr (.agg [I ai.1.Messages, I ai.1.Labels, eSl 1 false (eI .i64) ai.1.Channels, eSl 3 false ws ai.1.Parts]), .sptr (.agg [.agg [I ai.2.states_.e0, I ai.2.states_.e1, I ai.2.states_.e2, I ai.2.states_.e3], .agg [.agg [I ai.2.queues_.e0.many_, .agg [I ai.2.queues_.e0.l_.e0, I ai.2.queues_.e0.l_.e1, I ai.2.queues_.e0.l_.e2, I ai.2.queues_.e0.l_.e3]], .agg [I ai.2.queues_.e1.many_, .agg [I ai.2.queues_.e1.l_.e0, I ai.2.queues_.e1.l_.e1, I ai.2.queues_.e1.l_.e2, I ai.2.queues_.e1.l_.e3]], .agg [I ai.2.queues_.e2.many_, .agg [I ai.2.queues_.e2.l_.e0, I ai.2.queues_.e2.l_.e1, I ai.2.queues_.e2.l_.e2, I ai.2.queues_.e2.l_.e3]], .agg [I ai.2.queues_.e3.many_, .agg [I ai.2.queues_.e3.l_.e0, I ai.2.queues_.e3.l_.e1, I ai.2.queues_.e3.l_.e2, I ai.2.queues_.e3.l_.e3]]]])]))] [Hn (iL yR h2), Hs (iM yR h2), Hc h0i (x := (x_, fh)) h3 (loC yq x_ <| loC yR fh <| loN)] fun st0 h0 => ?_
     refine KJ (g := .tmp 30) (ps := [31,32]) (assign := (sub [1,1,1,2,1,0,0,1,2,0,1,2,1,0,0] y4)) (body := (sub [1,1,1,2,1,0,0,1,2,0,1,2,1,0,1] y4)) (K := 72) (caps := [.sptr (.agg [I ai.1.Messages, I ai.1.Labels, eSl 1 false (eI .i64) ai.1.Channels, eSl 3 false ws ai.1.Parts]), .sptr (.agg [.agg [I ai.2.states_.e0, I ai.2.states_.e1, I ai.2.states_.e2, I ai.2.states_.e3], .agg [.agg [I ai.2.queues_.e0.many_, .agg [I ai.2.queues_.e0.l_.e0, I ai.2.queues_.e0.l_.e1, I ai.2.queues_.e0.l_.e2, I ai.2.queues_.e0.l_.e3]], .agg [I ai.2.queues_.e1.many_, .agg [I ai.2.queues_.e1.l_.e0, I ai.2.queues_.e1.l_.e1, I ai.2.queues_.e1.l_.e2, I ai.2.queues_.e1.l_.e3]], .agg [I ai.2.queues_.e2.many_, .agg [I ai.2.queues_.e2.l_.e0, I ai.2.queues_.e2.l_.e1, I ai.2.queues_.e2.l_.e2, I ai.2.queues_.e2.l_.e3]], .agg [I ai.2.queues_.e3.many_, .agg [I ai.2.queues_.e3.l_.e0, I ai.2.queues_.e3.l_.e1, I ai.2.queues_.e3.l_.e2, I ai.2.queues_.e3.l_.e3]]]])]) (by kernel_rfl) [1,2,3,4,5,6,7,8,9,30] (fun s => wa x_ bk i_ ai s.1 s.2.1 s.2.2.1 s.2.2.2) (fun s => wa x_ bk i_ ai s.1 s.2.1 s.2.2.1 s.2.2.2) (fun s => Code.ret) ((fun (x : ze × za) (_ : Bool) (_ : Value) => [xc x.1, yR x.2])) (F := @y7 ai.1 ai.2) (fun s x => zK s.1 s.2.1 s.2.2.1 s.2.2.2 x.1 x.2) (i8, em, js, ([] : List z7)) t5 _ h0 inferInstance (by kernel_rfl) (by decide) (fun _ => rfl) (fun _ => rfl) (by kernel_rfl) (fun _ _ _ => rfl) (vM hC h07 h0c h0d ai.1 ai.2) ht5 ?_ ?_
     ·rintro mj ⟨dr, bz, cb, dt⟩ ⟨fw, ez⟩ vr fp ak
      replace ak : zK dr bz cb dt fw ez = some fp := ak
      unfold zK at ak
      refine yF X0 hC .normal [(1, .own (.box (yq x_))), (2, .own (.box (eOs 24 true yR []))), (3, .own (.box (eOs 1 true V7 []))), (4, .own (.box (I dr))), (5, .own (.box (eOs 24 false yR bz))), (6, .own (.box (.opq (W2 (Xu yR (eI .i64) cb))))), (7, .own (eOs 1 false wq bk)), (8, .d (I i_)), (9, .own (.box (eOs 5 false Zi dt))), (10, .own (.box (xc fw))), (11, .own (.box (yR ez))), (30, .d (.fn 72 [.sptr (.agg [I ai.1.Messages, I ai.1.Labels, eSl 1 false (eI .i64) ai.1.Channels, eSl 3 false ws ai.1.Parts]), .sptr (.agg [.agg [I ai.2.states_.e0, I ai.2.states_.e1, I ai.2.states_.e2, I ai.2.states_.e3], .agg [.agg [I ai.2.queues_.e0.many_, .agg [I ai.2.queues_.e0.l_.e0, I ai.2.queues_.e0.l_.e1, I ai.2.queues_.e0.l_.e2, I ai.2.queues_.e0.l_.e3]], .agg [I ai.2.queues_.e1.many_, .agg [I ai.2.queues_.e1.l_.e0, I ai.2.queues_.e1.l_.e1, I ai.2.queues_.e1.l_.e2, I ai.2.queues_.e1.l_.e3]], .agg [I ai.2.queues_.e2.many_, .agg [I ai.2.queues_.e2.l_.e0, I ai.2.queues_.e2.l_.e1, I ai.2.queues_.e2.l_.e2, I ai.2.queues_.e2.l_.e3]], .agg [I ai.2.queues_.e3.many_, .agg [I ai.2.queues_.e3.l_.e0, I ai.2.queues_.e3.l_.e1, I ai.2.queues_.e3.l_.e2, I ai.2.queues_.e3.l_.e3]]]])]))] [] fun st0 h0 => ⟨rfl, z1l h0 ?_⟩
      obtain ⟨val, h4, ak⟩ := zj ak
      replace h4 := zi h4
      refine yJ ((zcx z5M 36 (Xu yR (eI .i64) cb)).or X0) hC y4 [1,1,1,2,1,0,0,1,2,0,1,2,1,0,1,0,1] [J1, J2, J3, J4] [1,2,3,4,5,6,7,8,9,10,12,30] (fun z : List za × (List (za × Int)) × Int => xq dr dt fw z.1 z.2.1 z.2.2 = some fp) (fun z => YC x_ bk i_ ai dr dt fw z.1 z.2.1 z.2.2) [(1, .own (.box (yq x_))), (2, .own (.box (eOs 24 true yR []))), (3, .own (.box (eOs 1 true V7 []))), (4, .own (.box (I dr))), (5, .own (.box (eOs 24 false yR bz))), (6, .own (.box (.opq (W2 (Xu yR (eI .i64) cb))))), (7, .own (eOs 1 false wq bk)), (8, .d (I i_)), (9, .own (.box (eOs 5 false Zi dt))), (10, .own (.box (xc fw))), (11, .own (.box (yR ez))), (12, .d (I val)), (13, .d (B ((KS cb ez).isSome))), (30, .d (.fn 72 [.sptr (.agg [I ai.1.Messages, I ai.1.Labels, eSl 1 false (eI .i64) ai.1.Channels, eSl 3 false ws ai.1.Parts]), .sptr (.agg [.agg [I ai.2.states_.e0, I ai.2.states_.e1, I ai.2.states_.e2, I ai.2.states_.e3], .agg [.agg [I ai.2.queues_.e0.many_, .agg [I ai.2.queues_.e0.l_.e0, I ai.2.queues_.e0.l_.e1, I ai.2.queues_.e0.l_.e2, I ai.2.queues_.e0.l_.e3]], .agg [I ai.2.queues_.e1.many_, .agg [I ai.2.queues_.e1.l_.e0, I ai.2.queues_.e1.l_.e1, I ai.2.queues_.e1.l_.e2, I ai.2.queues_.e1.l_.e3]], .agg [I ai.2.queues_.e2.many_, .agg [I ai.2.queues_.e2.l_.e0, I ai.2.queues_.e2.l_.e1, I ai.2.queues_.e2.l_.e2, I ai.2.queues_.e2.l_.e3]], .agg [I ai.2.queues_.e3.many_, .agg [I ai.2.queues_.e3.l_.e0, I ai.2.queues_.e3.l_.e1, I ai.2.queues_.e3.l_.e2, I ai.2.queues_.e3.l_.e3]]]])]))] [Hn (⟨rfl, rfl, z6i (fun _ => rfl) cb⟩ : A.opq (W2 (Xu yR (eI .i64) cb)) = A.opq (W2 (Xu yR (eI .i64) cb)) ∧ (Ke [.i64, .i64, .i64, .i64, .i64, .i64, .i64, .i64, .i64, .i64, .i64, .i64, .i64, .i64, .i64, .i64, .i64, .i64, .i64, .i64, .i64, .i64, .i64, .i64]) (yR ez) = true ∧ ∀ p ∈ Xu yR (eI .i64) cb, (Ke [.i64, .i64, .i64, .i64, .i64, .i64, .i64, .i64, .i64, .i64, .i64, .i64, .i64, .i64, .i64, .i64, .i64, .i64, .i64, .i64, .i64, .i64, .i64, .i64]) p.1 = true), Hx (.a (.tup [I val, B ((KS cb ez).isSome)])) ((zeP (f := yR) (g := (eI .i64)) (z0 := 0) (z := .atom (.int .i64 0)) rfl ez cb).trans (congrArg (fun x => A.tup [(eI .i64) x, .atom (.bool (KS cb ez).isSome)]) h4)), Hh (.cut 0)] ?_ fun J6 gb => ?_
      ·rintro ⟨jg, j6, n_⟩ ak
       unfold xq at ak
       obtain ⟨g1, ak⟩ := gdE ak
       obtain rfl := zi ak
       exact yF X0 hC .normal (wa x_ bk i_ ai dr jg j6 (dt ++ [(z7.mk fw n_)])) [Hq (dM Zi [(z7.mk fw n_)]), Hn (dM Zi [(z7.mk fw n_)]), Hn (aL Zi Zi g1), Hl (aM Zi dt [(z7.mk fw n_)])] fun st0 h0 => ⟨rfl, _, h0, LeL.refl _⟩
      ·rcases zJ ak with ⟨c1, ak⟩ | ⟨c1, ak⟩
       ·let Z1 : List HO := [Hq c1, Ha (lnM yR bz)]
        rcases zJ ak with ⟨c2, ak⟩ | ⟨c2, ak⟩
        ·obtain rfl := zi ak
         exact yF X0 hC .ret (wa x_ bk i_ ai 3 bz cb dt) (Z1 ++ [Hq c2]) fun st0 h0 => ⟨rfl, _, h0, LeL.refl _⟩
        ·obtain ⟨g2, ak⟩ := gdE ak
         exact yB ((zcu z5M 45 (Xu yR (eI .i64) cb) (Xu yR (eI .i64) (KR cb ez ((bz.length : Nat) : Int)))).or X0) hC gb ((bz ++ [ez]), (KR cb ez ((bz.length : Nat) : Int)), ((bz.length : Nat) : Int)) ak (Z1 ++ [Hq c2, Hq (dM yR [ez]), Hn (dM yR [ez]), Hn (aL yR yR g2), Hl (aM yR bz [ez]), Hn (⟨rfl, ⟨rfl, rfl⟩, rfl, rfl, z6i (fun _ => rfl) cb⟩ : T.own (.box (.opq (W2 (Xu yR (eI .i64) cb)))) = T.own (.box (.opq (W2 (Xu yR (eI .i64) cb)))) ∧ (0 = 0 ∧ 0 = 0) ∧ (Ke [.i64, .i64, .i64, .i64, .i64, .i64, .i64, .i64, .i64, .i64, .i64, .i64, .i64, .i64, .i64, .i64, .i64, .i64, .i64, .i64, .i64, .i64, .i64, .i64]) (yR ez) = true ∧ ((eI .i64) ((bz.length : Nat) : Int)).isD = true ∧ ∀ p ∈ Xu yR (eI .i64) cb, (Ke [.i64, .i64, .i64, .i64, .i64, .i64, .i64, .i64, .i64, .i64, .i64, .i64, .i64, .i64, .i64, .i64, .i64, .i64, .i64, .i64, .i64, .i64, .i64, .i64]) p.1 = true), Hn (z5u (f := yR) (g := (eI .i64)) ez ((bz.length : Nat) : Int) cb)])
       ·exact yB X0 hC gb (bz, cb, val) ak [Hq c1]
     ·rcases t5 with ⟨dr, bz, cb, dt⟩ | z
      ·dsimp only at ae
       exact XI (by kernel_rfl) (dv _ [(1, .own (.box (yq x_))), (2, .own (.box (eOs 24 true yR []))), (3, .own (.box (eOs 1 true V7 []))), (4, .own (.box (I dr))), (5, .own (.box (eOs 24 false yR bz))), (6, .own (.box (.opq (W2 (Xu yR (eI .i64) cb))))), (7, .own (eOs 1 false wq bk)), (8, .d (I i_)), (9, .own (.box (eOs 5 false Zi dt)))] (dr, bz, cb, dt) ae (show Own.canon [1,2,3,4,5,6,7,8,9] _ = ofL _ by kernel_rfl) inferInstance)
      ·obtain ⟨dr, bz, cb, dt⟩ := z
       dsimp only at ae
       show AWP _ _ (Code.ret) _ _
       obtain rfl := zi ae
       obtain rfl := hl1
       obtain rfl := zi aa
       exact yEx X0 hC hE [Hm (shM yR yR []), Hm (shM V7 V7 [])] (.tup [eSl 24 true yR [], eSl 1 true wq [], I dr]) (show LeV (.tup [eSl 24 true yR [], eSl 1 true wq [], I dr]) (.tup [eSl 24 false yR ([] : List za), eSl 1 true wq ([] : List (List z7)), I dr]) from inferInstance)
  ·obtain rfl := zi ae
   obtain rfl := hl1
   exact yB X0 hC a8 (i8, em, bk) aa (Z0 ++ [Hq c0])
def Wh : Code := (Tryz.f55.body).getD .skip
def uo : wI := spF (α := List Int) (ρ := List Int) 55 (fun x => [F3_ x]) (fun r => (eOs 1 false (eI .i64)) r) (fun x => w6 x) [] (Q1)
theorem Wv (hC : zO Tryz.prog ctr) : uo.Ok Tryz.prog := by
 refine zY ?_
 rintro s_ r0 aa
 try unfold w6 at aa
 refine yO true [(2, none)] Wh 8 Tryz.func55 fun E hE => ?_
 refine zax rfl 0 (sz := 1) (t := false) (es := s_.map (eI .i64)) (by kernel_rfl) fun bm hv0 hn => ?_
 rcases hn with ⟨hn0, he0⟩ | hn0
 ·obtain ⟨_, aa⟩ := gdE aa
  rw [show s_ = [] from List.map_eq_nil_iff.1 he0] at aa
  obtain rfl := zi aa
  exact yEx ((zdo zC 4 27 (by kernel_rfl) hn0).or ((xMv Tryz.prog 3 0 bm hv0).or X0)) hC hE [Hn (rfl : some bm = some bm), Hn (⟨rfl, rfl⟩ : T.d (.atom bm) = T.d (.atom bm) ∧ T.d (.atom (.slice none 0 0)) = T.d (.atom (.slice none 0 0))), qT] (eOs 1 true (eI .i64) []) (show LeV (eOs 1 true (eI .i64) []) (eOs 1 false (eI .i64) ([] : List Int)) from inferInstance)
 ·obtain ⟨g0, aa⟩ := gdE aa
  obtain rfl := zi aa
  exact yE ((zdo zC 4 27 (by kernel_rfl) hn0).or ((xMv Tryz.prog 3 0 bm hv0).or X0)) hC hE [Hn (rfl : some bm = some bm), Hn (⟨rfl, rfl⟩ : T.d (.atom bm) = T.d (.atom bm) ∧ T.d (.atom (.slice none 0 0)) = T.d (.atom (.slice none 0 0))), qF, Hn (dM (eI .i64) s_), Hn (aL (eI .i64) (eI .i64) g0), Hl (aM0 (eI .i64) s_)]
def Yw : Code := (Tryz.f54.body).getD .skip
def w8 : wI := spR (α := List Int) (ρ := List Int) 54 (fun x => [(eOs 1 false (eI .i64)) x]) (fun r => F2_ r) (fun x => xr x) [true] (Q1)
theorem qO : ∀ x r, (fun x => xr x) x = some r → (Qt.add w8).run 54 ((Qt.add w8).norm 54 ((fun x => [(eOs 1 false (eI .i64)) x]) x)) = some ((fun r => F2_ r) r) := fun x r h => zd0 h rfl
theorem qP : (Qt.add w8).gives 54 = [true] := zak
theorem qX (hC : zO Tryz.prog ctr) : w8.Ok Tryz.prog := by
 refine z4W ?_
 rintro s_ r0 aa
 try unfold xr at aa
 refine yO true [(2, none)] Yw 9 Tryz.func54 fun E hE => ?_
 obtain rfl := zi aa
 exact yE ((xCl zC 8).or X0) hC hE [Ha (lnM (eI .i64) s_), Ha (lnM (eI .i64) s_), Hn (Int.natCast_nonneg _ : (0 : Int) ≤ ((s_.length : Nat) : Int)), Hn (Int.natCast_nonneg _ : (0 : Int) ≤ ((s_.length : Nat) : Int)), Hn (clB (eI .i64) s_), Ha (clE 1 (eI .i64) s_)]
def u3 : Code := (Tryz.f17.body).getD .skip
def xO : wI := spF (α := z6 × za) (ρ := z8) 17 (fun x => [yq x.1, yR x.2]) (fun r => z2S r) (fun x => yX x.1 x.2) [] (Uz)
abbrev Ys (al : List Int) (gl : List (List Int)) : List (Nat × T) := [(4, .own (.box (.agg [eOs 1 true (eI .i64) [], eOs 1 true F3_ []]))), (5, .own (.box (.agg [eOs 1 true (eI .i64) al, eOs 1 true F2_ gl])))]
abbrev Yr (x_ : z6) (s_ : za) (al : List Int) (da : List (List Int)) (bf : Int) : List (Nat × T) := [(3, .d (.sptr (yR s_))), (4, .own (.box (.agg [eOs 1 true (eI .i64) [], eOs 1 true F3_ []]))), (5, .own (.box (.agg [eOs 1 true (eI .i64) al, eOs 1 true F2_ da]))), (22, .d (I (((List.replicate ((x_.Channels.length : Nat) : Int).toNat ([] : List Int)).length : Nat) : Int))), (23, .d (I bf))]
theorem XK (hC : zO Tryz.prog ctr) (h0y : ctr.Has uo) : xO.Ok Tryz.prog := by
 refine zY ?_
 rintro ⟨x_, s_⟩ r0 aa
 try unfold yX at aa
 refine z4i (tt := qd) (rs := [(true, 4, some 45)]) (n := ⟨42, []⟩) (body := u3) zC Tryz.func17 rfl (by kernel_rfl) rfl rfl (by show (2 : Nat) ≤ 42; decide) fun E hE => ?_
 obtain ⟨g0, aa⟩ := gdE aa
 obtain ⟨r_, h0, aa⟩ := zj aa
 obtain ⟨al, h1, aa⟩ := zj aa
 obtain ⟨g1, aa⟩ := gdE aa
 refine yJ ((Q3 zC (qX hC) 14).or ((xAh zC 12).or X0)) hC u3 [1,1] [] [4,5] (fun z : List (List Int) => vR al z = some r0) (fun z => Ys al z) [(3, .d (.sptr (yR s_))), (4, .own (.box (.agg [eOs 1 true (eI .i64) [], eOs 1 true F3_ []]))), (5, .own (.box (.agg [eOs 1 true (eI .i64) al, eOs 1 true F2_ (List.replicate ((x_.Channels.length : Nat) : Int).toNat ([] : List Int))])))] [Hh (.n 2 [3]), Ha (lnM ws x_.Parts), Hn g0.1, Hn (cuB (eI .i64) g0), Hl (cuM (eI .i64) [s_.states_.e0, s_.states_.e1, s_.states_.e2, s_.states_.e3] ((x_.Parts.length : Nat) : Int)), Hc h0y (x := ([s_.states_.e0, s_.states_.e1, s_.states_.e2, s_.states_.e3].take ((x_.Parts.length : Nat) : Int).toNat)) h0 (loC F3_ ([s_.states_.e0, s_.states_.e1, s_.states_.e2, s_.states_.e3].take ((x_.Parts.length : Nat) : Int).toNat) <| loN), Hh (.g [true]), Hn qP, Hx (.a (F2_ al)) (qO r_ _ h1), Ha (lnM (eI .i64) x_.Channels), Hn (rL g1), Ha (rM 1 F2_ ((x_.Channels.length : Nat) : Int) ([] : List Int)), Hh (.cut 0)] ?_ fun J1 a8 => ?_
 ·rintro gl aa
  unfold vR at aa
  obtain rfl := zi aa
  let ZE : List HO := []
  exact KK X0 zC hC YL hE 4000 (hs := hoH ZE) (x := (.agg [eOs 1 true (eI .i64) al, eOs 1 true F2_ gl])) (hoB ZE) (by kernel_rfl) (LeV.refl _)
 ·obtain ⟨t2, ht2, aa⟩ := zj aa
  refine yL X0 hC u3 [1,1,2,1,0] [J1] (fun s => xl x_ s_ s.1 s.2) (fun x => Yr x_ s_ al x.1 x.2) ((List.replicate ((x_.Channels.length : Nat) : Int).toNat ([] : List Int)), 0) ht2  [Ha (lnM F2_ (List.replicate ((x_.Channels.length : Nat) : Int).toNat ([] : List Int)))] ?_
  rintro ⟨da, bf⟩ m2 bh ae hl1 J2 ba
  try unfold xl at ae
  rcases zJ ae with ⟨c0, ae⟩ | ⟨c0, ae⟩
  ·obtain ⟨cell, h2, ae⟩ := zj ae
   obtain ⟨g2, ae⟩ := gdE ae
   obtain ⟨ai, h3, ae⟩ := zj ae
   obtain ⟨aj, h4, ae⟩ := zj ae
   obtain ⟨kx, h5, ae⟩ := zj ae
   obtain rfl := zi ae
   exact yB ((Q3 zC (qX hC) 38).or ((xAh zC 36).or X0)) hC ba ((da.set bf.toNat aj), w64 (bf + 1)) hl1 [Hq c0, Hs (iM F9_ h2), Hn (arJ (by kernel_rfl) (i0 h2) : Yy qd 60 ((zI.toL s_.queues_).map F9_) bf = true), Hh (.n 0 [7]), Hn g2.1, Hn (cuB (eI .i64) g2), Hl (cuM (eI .i64) [cell.l_.e0, cell.l_.e1, cell.l_.e2, cell.l_.e3] cell.many_), Hc h0y (x := ([cell.l_.e0, cell.l_.e1, cell.l_.e2, cell.l_.e3].take cell.many_.toNat)) h3 (loC F3_ ([cell.l_.e0, cell.l_.e1, cell.l_.e2, cell.l_.e3].take cell.many_.toNat) <| loN), Hh (.g [true]), Hn qP, Hx (.a (F2_ aj)) (qO ai _ h4), Hn (iL F2_ h5), Hs (iM F2_ h5), Hs (iM F2_ h5), Hl (sM F2_ da bf aj)]
  ·obtain rfl := zi ae
   obtain rfl := hl1
   exact yB X0 hC a8 da aa [Hq c0]
def ud : Code := (Tryz.f18.body).getD .skip
def yW : wI := spF (α := List z8) (ρ := List z8) 18 (fun x => [zaR x]) (fun r => z6I r) (fun x => zX x) [] (Q1)
theorem ug (hC : zO Tryz.prog ctr) : yW.Ok Tryz.prog := by
 refine zY ?_
 rintro s_ r0 aa
 try unfold zX at aa
 refine yO true [(2, none)] ud 9 Tryz.func18 fun E hE => ?_
 obtain ⟨g0, aa⟩ := gdE aa
 obtain rfl := zi aa
 exact yE X0 hC hE [Ha (lnM uK s_), Ha (lnM uK s_), Hn (slB g0), Hn (slC g0), Hn (z51 uK g0), Ha (zbg 2 uK s_ 0 ((s_.length : Nat) : Int).toNat)]
def ZG : Code := (Tryz.f4.body).getD .skip
def uB : wI := spF (α := z6) (ρ := List z8 × List (List z7) × Int) 4 (fun x => [yq x]) (fun r => .tup [z6I r.1, z3w r.2.1, (eI .i64) r.2.2]) (fun x => xG x) [] (Q1)
abbrev Uh (al : List za × List (List z7) × Int) (out : List z8) : List (Nat × T) := [(7, .d (eSl 1 true wq al.2.1)), (9, .own (eOs 2 false z2S out))]
abbrev Ug (x_ : z6) (al : List za × List (List z7) × Int) (cq : List z8) (j7 : Int) : List (Nat × T) := [(1, .own (.box (yq x_))), (7, .d (eSl 1 true wq al.2.1)), (9, .own (eOs 2 false z2S cq)), (26, .d (eSl 24 false yR al.1)), (27, .d (I ((al.1.length : Nat) : Int))), (28, .d (I j7))]
theorem JJ (hC : zO Tryz.prog ctr) (h06 : ctr.Has wD) (h0j : ctr.Has xZ) (h0k : ctr.Has xO) (h0z : ctr.Has yW) : uB.Ok Tryz.prog := by
 refine zY ?_
 rintro x_ r0 aa
 try unfold xG at aa
 refine yO false [(2, none), (3, none), (4, none)] ZG 42 Tryz.func4 fun E hE => ?_
 obtain ⟨r_, h0, aa⟩ := zj aa
 let Z0 : List HO := [Hc h06 (x := x_) h0 (loC yq x_ <| loN)]
 rcases zJ aa with ⟨c0, aa⟩ | ⟨c0, aa⟩
 ·obtain rfl := zi aa
  exact yEx X0 hC hE (Z0 ++ [Hq c0, Hm (shM uK uK []), Hm (shM V7 V7 [])]) (.tup [eSl 2 true uK [], eSl 1 true wq [], I r_]) (show LeV (.tup [eSl 2 true uK [], eSl 1 true wq [], I r_]) (.tup [eSl 2 true uK ([] : List z8), eSl 1 true wq ([] : List (List z7)), I r_]) from inferInstance)
 ·obtain ⟨al, h1, aa⟩ := zj aa
  let Z1 : List HO := (Z0 ++ [Hq c0, Hc h0j (x := x_) h1 (loC yq x_ <| loN)])
  rcases zJ aa with ⟨c1, aa⟩ | ⟨c1, aa⟩
  ·obtain rfl := zi aa
   exact yEx X0 hC hE (Z1 ++ [Hq c1, Hm (shM uK uK []), Hm (shM V7 V7 [])]) (.tup [eSl 2 true uK [], eSl 1 true wq [], I al.2.2]) (show LeV (.tup [eSl 2 true uK [], eSl 1 true wq [], I al.2.2]) (.tup [eSl 2 true uK ([] : List z8), eSl 1 true wq ([] : List (List z7)), I al.2.2]) from inferInstance)
  ·refine yJ X0 hC ZG [1,1,1,1,1] [] [7,9] (fun z : List z8 => jA al z = some r0) (fun z => Uh al z) [(1, .own (.box (yq x_))), (6, .d (eSl 24 false yR al.1)), (7, .d (eSl 1 true wq al.2.1)), (9, .own (eOs 2 true uK []))] (Z1 ++ [Hq c1, Hh (.cut 1)]) ?_ fun J1 a8 => ?_
   ·rintro out aa
    unfold jA at aa
    obtain ⟨ai, h2, aa⟩ := zj aa
    obtain rfl := zi aa
    exact yE X0 hC hE [Hg (Ko h0z), Hm (shM z2S zch out), Hs (Kp h0z (x := out) h2 (loC (eSl 2 false zch) out <| loN)), Hm (shM z2S zch out)]
   ·obtain ⟨t2, ht2, aa⟩ := zj aa
    refine yLx X0 hC ZG [1,1,1,1,1,2,1,0] [J1] (fun s => va x_ al s.1 s.2) (fun x => Ug x_ al x.1 x.2) (([] : List z8), 0) ht2 [(1, .own (.box (yq x_))), (7, .d (eSl 1 true wq al.2.1)), (9, .own (eOs 2 true z2S [])), (26, .d (eSl 24 false yR al.1)), (27, .d (I ((al.1.length : Nat) : Int))), (28, .d (I 0))] inferInstance [Ha (lnM yR al.1)] ?_
    rintro ⟨cq, j7⟩ m2 bh ae hl1 J2 ba
    try unfold va at ae
    rcases zJ ae with ⟨c2, ae⟩ | ⟨c2, ae⟩
    ·obtain ⟨u_, h3, ae⟩ := zj ae
     obtain ⟨aj, h4, ae⟩ := zj ae
     obtain ⟨g0, ae⟩ := gdE ae
     obtain rfl := zi ae
     exact yB X0 hC ba ((cq ++ [aj]), w64 (j7 + 1)) hl1 [Hq c2, Hi yR h3, Hc h0k (x := (x_, u_)) h4 (loC yq x_ <| loC yR u_ <| loN), Hq (oC z2S aj []), Hn (aL z2S z2S g0), Hl (aM z2S cq [aj])]
    ·obtain rfl := zi ae
     obtain rfl := hl1
     exact yB X0 hC a8 cq aa [Hq c2]
def Jk : Code := (Tryz.f62.body).getD .skip
def jC : wI := spF (α := Int) (ρ := Bool) 62 (fun x => [(eI .i64) x]) (fun r => eB r) (fun x => vt x) [] (Q1)
theorem JM (hC : zO Tryz.prog ctr) : jC.Ok Tryz.prog := by
 refine zY ?_
 rintro x_ r0 aa
 try unfold vt at aa
 refine yO true [(2, none)] Jk 6 Tryz.func62 fun E hE => ?_
 obtain rfl := zi aa
 exact yE X0 hC hE []
def KI : Code := (Tryz.f57.body).getD .skip
def Y4 : wI := spF (α := Int × Int) (ρ := Bool) 57 (fun x => [(eI .i64) x.1, (eI .i64) x.2]) (fun r => eB r) (fun x => Zo x.1 x.2) [] (Uz)
theorem z01 (hC : zO Tryz.prog ctr) (h0l : ctr.Has jC) : Y4.Ok Tryz.prog := by
 refine zY ?_
 rintro ⟨x_, y_⟩ r0 aa
 try unfold Zo at aa
 refine yO true [(4, none)] KI 17 Tryz.func57 fun E hE => ?_
 obtain ⟨r_, h0, aa⟩ := zj aa
 let Z0 : List HO := [Hc h0l (x := x_) h0 (loC (eI .i64) x_ <| loN)]
 rcases zJ aa with ⟨c0, aa⟩ | ⟨c0, aa⟩
 ·obtain ⟨al, h1, aa⟩ := zj aa
  let Z1 : List HO := (Z0 ++ [Hq c0, Hq c0, Hc h0l (x := y_) h1 (loC (eI .i64) y_ <| loN), Hq c0, Hq c0])
  rcases zJ aa with ⟨c1, aa⟩ | ⟨c1, aa⟩
  ·obtain rfl := zi aa
   exact yE X0 hC hE (Z1 ++ (rpN 4 (Hq c1) []))
  ·obtain rfl := zi aa
   exact yE X0 hC hE (Z1 ++ (rpN 4 (Hq c1) []))
 ·obtain rfl := zi aa
  exact yE X0 hC hE (Z0 ++ (rpN 4 (Hq c0) (rpN 4 qF [])))
def VY : Code := (Tryz.f58.body).getD .skip
def jO : wI := spF (α := Int) (ρ := Bool) 58 (fun x => [(eI .i64) x]) (fun r => eB r) (fun x => uC x) [] (Q1)
theorem Uq (hC : zO Tryz.prog ctr) : jO.Ok Tryz.prog := by
 refine zY ?_
 rintro x_ r0 aa
 try unfold uC at aa
 refine yO true [(2, none)] VY 6 Tryz.func58 fun E hE => ?_
 obtain rfl := zi aa
 exact yE X0 hC hE []
def ww : Code := (Tryz.f20.body).getD .skip
def wt : wI := spF (α := List Int × Int) (ρ := Int × Bool) 20 (fun x => [F3_ x.1, (eI .i64) x.2]) (fun r => .tup [(eI .i64) r.1, eB r.2]) (fun x => yP x.1 x.2) [] (Uz)
abbrev kV (x_ : List Int) (target : Int) (i_ : Int) : List (Nat × T) := [(0, .d (eSl 1 false (eI .i64) x_)), (1, .d (I target)), (6, .d (I ((x_.length : Nat) : Int))), (7, .d (I i_))]
abbrev kU (x_ : List Int) (target : Int) (cm : Int) (j_ : Int) : List (Nat × T) := [(0, .d (eSl 1 false (eI .i64) x_)), (1, .d (I target)), (6, .d (I ((x_.length : Nat) : Int))), (7, .d (I cm)), (8, .d (I j_))]
theorem Zr (hC : zO Tryz.prog ctr) (h0S : ctr.Has Y4) (h0A : ctr.Has jO) : wt.Ok Tryz.prog := by
 refine zY ?_
 rintro ⟨x_, target⟩ r0 aa
 try unfold yP at aa
 refine yO false [(4, none), (5, none)] ww 54 Tryz.func20 fun E hE => ?_
 refine yJ X0 hC ww [1,1,1] [] [0,1,6,7] (fun z : Int => xx x_ target z = some r0) (fun z => kV x_ target z) [(0, .d (eSl 1 false (eI .i64) x_)), (1, .d (I target)), (6, .d (I ((x_.length : Nat) : Int))), (7, .d (I 0)), (8, .d (I ((x_.length : Nat) : Int)))] [Ha (lnM (eI .i64) x_), Hh (.cut 1)] ?_ fun J1 a8 => ?_
 ·rintro i_ aa
  unfold xx at aa
  rcases zJ aa with ⟨c0, aa⟩ | ⟨c0, aa⟩
  ·obtain ⟨lm, h0, aa⟩ := zj aa
   let Z0 : List HO := (Hq c0 :: Hq c0 :: Hq c0 :: Hi (eI .i64) h0 :: (rpN 4 (Hq c0) []))
   rcases zJ aa with ⟨c1, aa⟩ | ⟨c1, aa⟩
   ·obtain rfl := zi aa
    exact yE X0 hC hE (Z0 ++ (rpN 7 (Hq c1) [Hq c0, Hq c1, Hq c0]))
   ·obtain ⟨jv, h1, aa⟩ := zj aa
    obtain ⟨r_, h2, aa⟩ := zj aa
    let Z1 : List HO := (Z0 ++ [Hq c1, Hq c1, Hq c1, Hi (eI .i64) h1, Hq c1, Hq c1, Hc h0A (x := jv) h2 (loC (eI .i64) jv <| loN), Hq c1])
    rcases zJ aa with ⟨c2, aa⟩ | ⟨c2, aa⟩
    ·obtain ⟨al, h3, aa⟩ := zj aa
     obtain rfl := zi aa
     exact yE X0 hC hE (Z1 ++ [Hq c2, Hq c2, Hc h0A (x := target) h3 (loC (eI .i64) target <| loN), Hq c1, Hq c2, Hq c0, Hq c1, Hq c0])
    ·obtain rfl := zi aa
     exact yE X0 hC hE (Z1 ++ [Hq c2, Hq c2, Hq c1, Hq c2, Hq c0, Hq c1, Hq c0])
  ·obtain rfl := zi aa
   exact yE X0 hC hE (rpN 9 (Hq c0) [])
 ·obtain ⟨t2, ht2, aa⟩ := zj aa
  refine yL X0 hC ww [1,1,1,2,0] [J1] (fun s => yY x_ target s.1 s.2) (fun x => kU x_ target x.1 x.2) (0, ((x_.length : Nat) : Int)) ht2  [] ?_
  rintro ⟨cm, j_⟩ m2 bh ae hl1 J2 ba
  try unfold yY at ae
  rcases zJ ae with ⟨c3, ae⟩ | ⟨c3, ae⟩
  ·obtain ⟨jw, h4, ae⟩ := zj ae
   obtain ⟨ai, h5, ae⟩ := zj ae
   let Z2 : List HO := [Hq c3, Hi (eI .i64) h4, Hc h0S (x := (jw, target)) h5 (loC (eI .i64) jw <| loC (eI .i64) target <| loN)]
   rcases zJ ae with ⟨c4, ae⟩ | ⟨c4, ae⟩
   ·obtain rfl := zi ae
    exact yB ((zdn Tryz.prog).or X0) hC ba (w64 ((w64 (Int.fdiv (IntKind.u64.wrap (w64 (cm + j_))) (2 ^ 1))) + 1), j_) hl1 (Z2 ++ [Hq c4])
   ·obtain rfl := zi ae
    exact yB ((zdn Tryz.prog).or X0) hC ba (cm, w64 (Int.fdiv (IntKind.u64.wrap (w64 (cm + j_))) (2 ^ 1))) hl1 (Z2 ++ [Hq c4])
  ·obtain rfl := zi ae
   obtain rfl := hl1
   exact yB X0 hC a8 cm aa [Hq c3]
def UH : Code := (Tryz.f61.body).getD .skip
def kN : wI := spF (α := Int) (ρ := Bool) 61 (fun x => [(eI .u8) x]) (fun r => eB r) (fun x => qB x) [] (Q1)
theorem Q9 (hC : zO Tryz.prog ctr) : kN.Ok Tryz.prog := by
 refine zY ?_
 rintro x_ r0 aa
 try unfold qB at aa
 refine yO true [(2, none)] UH 6 Tryz.func61 fun E hE => ?_
 obtain rfl := zi aa
 exact yE X0 hC hE []
def Vt : Code := (Tryz.f24.body).getD .skip
def qU : wI := spF (α := Int × Int) (ρ := Int) 24 (fun x => [(eI .u8) x.1, (eI .u8) x.2]) (fun r => (eI .i64) r) (fun x => vZ x.1 x.2) [] (Uz)
theorem VF (hC : zO Tryz.prog ctr) (h0B : ctr.Has kN) : qU.Ok Tryz.prog := by
 refine zY ?_
 rintro ⟨x_, y_⟩ r0 aa
 try unfold vZ at aa
 refine yO true [(4, none)] Vt 20 Tryz.func24 fun E hE => ?_
 obtain ⟨r_, h0, aa⟩ := zj aa
 obtain ⟨al, h1, aa⟩ := zj aa
 let Z0 : List HO := [Hc h0B (x := x_) h0 (loC (eI .u8) x_ <| loN), Hc h0B (x := y_) h1 (loC (eI .u8) y_ <| loN)]
 rcases zJ aa with ⟨c0, aa⟩ | ⟨c0, aa⟩
 ·rcases zJ aa with ⟨c1, aa⟩ | ⟨c1, aa⟩
  ·obtain rfl := zi aa
   exact yE X0 hC hE (Z0 ++ [Hq c0, Hq c1])
  ·obtain rfl := zi aa
   exact yE X0 hC hE (Z0 ++ [Hq c0, Hq c1])
 ·rcases zJ aa with ⟨c2, aa⟩ | ⟨c2, aa⟩
  ·obtain rfl := zi aa
   exact yE X0 hC hE (Z0 ++ [Hq c0, Hq c2])
  ·rcases zJ aa with ⟨c3, aa⟩ | ⟨c3, aa⟩
   ·obtain rfl := zi aa
    exact yE X0 hC hE (Z0 ++ [Hq c0, Hq c2, Hq c3])
   ·rcases zJ aa with ⟨c4, aa⟩ | ⟨c4, aa⟩
    ·obtain rfl := zi aa
     exact yE X0 hC hE (Z0 ++ [Hq c0, Hq c2, Hq c3, Hq c4])
    ·obtain rfl := zi aa
     exact yE X0 hC hE (Z0 ++ [Hq c0, Hq c2, Hq c3, Hq c4])
def UI : Code := (Tryz.f25.body).getD .skip
def kO : wI := spF (α := Int × Int) (ρ := Int) 25 (fun x => [(eI .i64) x.1, (eI .i64) x.2]) (fun r => (eI .i64) r) (fun x => u0 x.1 x.2) [] (Uz)
theorem Qa (hC : zO Tryz.prog ctr) (h0l : ctr.Has jC) : kO.Ok Tryz.prog := by
 refine zY ?_
 rintro ⟨x_, y_⟩ r0 aa
 try unfold u0 at aa
 refine yO true [(4, none)] UI 20 Tryz.func25 fun E hE => ?_
 obtain ⟨r_, h0, aa⟩ := zj aa
 obtain ⟨al, h1, aa⟩ := zj aa
 let Z0 : List HO := [Hc h0l (x := x_) h0 (loC (eI .i64) x_ <| loN), Hc h0l (x := y_) h1 (loC (eI .i64) y_ <| loN)]
 rcases zJ aa with ⟨c0, aa⟩ | ⟨c0, aa⟩
 ·rcases zJ aa with ⟨c1, aa⟩ | ⟨c1, aa⟩
  ·obtain rfl := zi aa
   exact yE X0 hC hE (Z0 ++ [Hq c0, Hq c1])
  ·obtain rfl := zi aa
   exact yE X0 hC hE (Z0 ++ [Hq c0, Hq c1])
 ·rcases zJ aa with ⟨c2, aa⟩ | ⟨c2, aa⟩
  ·obtain rfl := zi aa
   exact yE X0 hC hE (Z0 ++ [Hq c0, Hq c2])
  ·rcases zJ aa with ⟨c3, aa⟩ | ⟨c3, aa⟩
   ·obtain rfl := zi aa
    exact yE X0 hC hE (Z0 ++ [Hq c0, Hq c2, Hq c3])
   ·rcases zJ aa with ⟨c4, aa⟩ | ⟨c4, aa⟩
    ·obtain rfl := zi aa
     exact yE X0 hC hE (Z0 ++ [Hq c0, Hq c2, Hq c3, Hq c4])
    ·obtain rfl := zi aa
     exact yE X0 hC hE (Z0 ++ [Hq c0, Hq c2, Hq c3, Hq c4])
def Wj : Code := (Tryz.f23.body).getD .skip
def XT : wI := spF (α := List Int) (ρ := Int) 23 (fun x => [F3_ x]) (fun r => (eI .i64) r) (fun x => XF x) [] (Q1)
abbrev Jv : List (Nat × T) := [(3, .d (I 0))]
abbrev Ju (vals : List Int) (x8 : Int) : List (Nat × T) := [(3, .d (I 0)), (6, .d (eSl 1 false (eI .i64) vals)), (7, .d (I ((vals.length : Nat) : Int))), (8, .d (I x8))]
theorem z1F (hC : zO Tryz.prog ctr) : XT.Ok Tryz.prog := by
 refine zY ?_
 rintro vals r0 aa
 try unfold XF at aa
 refine yO true [(2, none)] Wj 18 Tryz.func23 fun E hE => ?_
 refine yJ X0 hC Wj [1,1] [] [3] (fun z : Unit => Wc = some r0) (fun z => Jv) [(0, .d (eSl 1 false (eI .i64) vals)), (3, .d (I 0))] [Hh (.cut 2)] ?_ fun J1 a8 => ?_
 ·rintro ⟨⟩ aa
  unfold Wc at aa
  obtain rfl := zi aa
  exact yE X0 hC hE []
 ·obtain ⟨t2, ht2, aa⟩ := zj aa
  refine yL X0 hC Wj [1,1,2,1,0] [J1] (fun s => kS vals s) (fun x => Ju vals x) 0 ht2  [Ha (lnM (eI .i64) vals)] ?_
  rintro x8 m2 bh ae hl1 J2 ba
  try unfold kS at ae
  rcases zJ ae with ⟨c0, ae⟩ | ⟨c0, ae⟩
  ·obtain ⟨kl, h0, ae⟩ := zj ae
   rcases zJ ae with ⟨c1, ae⟩ | ⟨c1, ae⟩
   ·obtain rfl := zi ae
    obtain rfl := hl1
    obtain rfl := zi aa
    exact yE X0 hC hE [Hq c0, Hi (eI .i64) h0, Hq c1]
   ·obtain rfl := zi ae
    exact yB X0 hC ba (w64 (x8 + 1)) hl1 [Hq c0, Hi (eI .i64) h0, Hq c1]
  ·obtain rfl := zi ae
   obtain rfl := hl1
   exact yB X0 hC a8 () aa [Hq c0]
def Vs : Code := (Tryz.f22.body).getD .skip
def qS : wI := spF (α := zf × zf) (ρ := Int) 22 (fun x => [F8_ x.1, F8_ x.2]) (fun r => (eI .i64) r) (fun x => xN x.1 x.2) [] (Uz)
theorem VE (hC : zO Tryz.prog ctr) (h0T : ctr.Has qU) (h0C : ctr.Has kO) (h0D : ctr.Has XT) : qS.Ok Tryz.prog := by
 refine zY ?_
 rintro ⟨a_, b_⟩ r0 aa
 try unfold xN at aa
 refine yO true [(4, none)] Vs 22 Tryz.func22 fun E hE => ?_
 obtain ⟨r_, h0, aa⟩ := zj aa
 obtain ⟨al, h1, aa⟩ := zj aa
 obtain ⟨ai, h2, aa⟩ := zj aa
 obtain ⟨aj, h3, aa⟩ := zj aa
 obtain rfl := zi aa
 exact yE X0 hC hE [Hc h0T (x := (a_.Kind, b_.Kind)) h0 (loC (eI .u8) a_.Kind <| loC (eI .u8) b_.Kind <| loN), Hc h0C (x := (a_.Label, b_.Label)) h1 (loC (eI .i64) a_.Label <| loC (eI .i64) b_.Label <| loN), Hc h0C (x := (a_.To, b_.To)) h2 (loC (eI .i64) a_.To <| loC (eI .i64) b_.To <| loN), Hg (Ko h0D), Hm (shM (eI .i64) (eI .i64) ([r_, al, ai])), Hs (Kp h0D (x := [r_, al, ai]) h3 (loC F1_ [r_, al, ai] <| loN))]
def zG : Code := (Tryz.f27.body).getD .skip
def xu : wI := spF (α := List zf) (ρ := List zf) 27 (fun x => [(eOs 3 false F8_) x]) (fun r => (eOs 3 false F8_) r) (fun x => yh x) [true] (Q1)
abbrev qn (s_ : List zf) : List (Nat × T) := [(0, .own (eOs 3 false F8_ s_))]
abbrev qm (s_ : List zf) (k_ : Int) : List (Nat × T) := [(0, .own (eOs 3 false F8_ s_)), (3, .d (I k_))]
abbrev qj (cr : List zf) (dn : Int) : List (Nat × T) := [(0, .own (eOs 3 false F8_ cr)), (3, .d (I dn))]
abbrev qh (bm : Value) (k_ : Int) (k2 : Int) (ky : List zf) (kz : Int) : List (Nat × T) := [(0, .own (eOs 3 false F8_ ky)), (3, .d (I kz)), (4, .d (.atom (Vq 3 bm k_))), (5, .d (I k2))]
abbrev qe (bm : Value) (k_ : Int) (ff : List zf) (gq : Int) (k2 : Int) : List (Nat × T) := [(0, .own (eOs 3 false F8_ ff)), (3, .d (I gq)), (4, .d (.atom (Vq 3 bm k_))), (5, .d (I k2))]
abbrev qg (s_ : List zf) (k_ : Int) : List (Nat × T) := [(0, .own (eOs 3 false F8_ s_)), (3, .d (I k_))]
def zm : XH Tryz.prog := ((zew zC 59).or X0)
theorem qW (hC : zO Tryz.prog ctr) : xu.Ok Tryz.prog := by
 refine zY ?_
 rintro s_ r0 aa
 try unfold yh at aa
 refine yO true [(2, none)] zG 61 Tryz.func27 fun E hE => ?_
 refine z3s (y := eOs 3 false F8_ s_) rfl 0 (by kernel_rfl) (by kernel_rfl) fun bm hv0 => ?_
 let Z0 : List HO := [Ha (lnM F8_ s_)]
 rcases zJ aa with ⟨c0, aa⟩ | ⟨c0, aa⟩
 ·obtain rfl := zi aa
  exact yE zm hC hE (Z0 ++ [Hq c0])
 ·refine yJ zm hC zG [1,1] [] [0] (fun z : Unit => xv s_ = some r0) (fun z => qn s_) [(0, .own (eOs 3 false F8_ s_))] (Z0 ++ [Hq c0, Hh (.cut 0)]) ?_ fun J1 a8 => ?_
  ·rintro ⟨⟩ aa
   unfold xv at aa
   obtain rfl := zi aa
   exact yE zm hC hE []
  ·obtain ⟨t2, ht2, aa⟩ := zj aa
   refine yL zm hC zG [1,1,2,1,0] [J1] (fun s => y9 s_ s) (fun x => qg s_ x) 1 ht2  [] ?_
   rintro k_ m2 bh ae hl1 J2 ba
   try unfold y9 at ae
   let Z1 : List HO := [Ha (lnM F8_ s_)]
   rcases zJ ae with ⟨c1, ae⟩ | ⟨c1, ae⟩
   ·refine yJ zm hC zG [1,1,2,1,0,0,1] [J1, J2] [0,3] (fun z : Unit => yx k_ = some bh) (fun z => qm s_ k_) [(0, .own (eOs 3 false F8_ s_)), (3, .d (I k_))] (Z1 ++ [Hq c1, Hh (.cut 0)]) ?_ fun J3 cp => ?_
    ·rintro ⟨⟩ ae
     unfold yx at ae
     obtain rfl := zi ae
     exact yB zm hC ba (w64 (k_ + 1)) hl1 []
    ·obtain ⟨bo, h0, ae⟩ := zj ae
     obtain ⟨ca, h1, ae⟩ := zj ae
     let Z2 : List HO := [Hn (iL F8_ h0), Hs (iM F8_ h0), Hn (iL F8_ h1), Hs (iM F8_ h1)]
     rcases zJ ae with ⟨c2, ae⟩ | ⟨c2, ae⟩
     ·obtain ⟨g0, ae⟩ := gdE ae
      refine yJ ((xAs Tryz.prog 4 (Vq 3 bm k_)).or ((xVw zC 28 0 bm).or zm)) hC zG [1,1,2,1,0,0,1,2,0,1,0,1] [J1, J2, J3] [0,3] (fun z : List zf × Int => zW z.1 z.2 = some bh) (fun z => qj z.1 z.2) [(0, .own (eOs 3 false F8_ s_)), (3, .d (I k_)), (4, .d (.atom (Vq 3 bm k_)))] (Z2 ++ [Hq c2, Hn (⟨.inl rfl, rfl⟩ : (T.als 0 [] 0 0 = T.als 0 [] 0 0 ∨ T.als 0 [] 0 0 = T.d (.atom bm)) ∧ some bm = some bm), Hn (⟨g0.1, cuB F8_ g0⟩ : (0 : Int) ≤ k_ ∧ k_.toNat ≤ (s_.map F8_).length), Hn (rfl : T.d (.atom (Vq 3 bm k_)) = T.d (.atom (Vq 3 bm k_))), Hh (.cut 1)]) ?_ fun J4 dv => ?_
      ·rintro ⟨cr, dn⟩ ae
       unfold zW at ae
       obtain ⟨g1, ae⟩ := gdE ae
       obtain ⟨g2, ae⟩ := gdE ae
       obtain ⟨g3, ae⟩ := gdE ae
       obtain rfl := zi ae
       obtain rfl := hl1
       obtain rfl := zi aa
       exact yE ((xVc zC 56 3 0 bm dn).or ((xVw zC 56 0 bm).or zm)) hC hE [Hn (⟨.inl rfl, rfl⟩ : (T.als 0 [] 0 0 = T.als 0 [] 0 0 ∨ T.als 0 [] 0 0 = T.d (.atom bm)) ∧ some bm = some bm), Hn (⟨g1.1, cuB F8_ g1⟩ : (0 : Int) ≤ dn ∧ dn.toNat ≤ (cr.map F8_).length), Hn (⟨rfl, rfl⟩ : T.d (.atom (Vq 3 bm dn)) = T.d (.atom (Vq 3 bm dn)) ∧ some bm = some bm), Hn (⟨g2.1, cuB F8_ g2, dM F8_ cr⟩ : (0 : Int) ≤ dn ∧ dn.toNat ≤ (cr.map F8_).length ∧ A.areD (cr.map F8_) = true), Hx (.l ((cr.take dn.toNat ++ List.replicate (cr.length - dn.toNat) (zf.mk 0 0 0)).map F8_)) (vcM F8_ cr dn.toNat (zf.mk 0 0 0)), Hn g3.1, Hn (cuB F8_ g3), Hl (cuM F8_ (cr.take dn.toNat ++ List.replicate (cr.length - dn.toNat) (zf.mk 0 0 0)) dn)]
      ·obtain ⟨t5, ht5, ae⟩ := zj ae
       refine yL zm hC zG [1,1,2,1,0,0,1,2,0,1,0,1,2,1,0] [J1, J2, J3, J4] (fun s => zU k_ s.1 s.2.1 s.2.2) (fun x => qe bm k_ x.1 x.2.1 x.2.2) (s_, k_, 1) ht5  [] ?_
       rintro ⟨ff, gq, k2⟩ m5 fp ak hl2 J5 gh
       try unfold zU at ak
       let Z3 : List HO := [Hn (⟨rfl, rfl⟩ : T.d (.atom (Vq 3 bm k_)) = T.d (.atom (Vq 3 bm k_)) ∧ some bm = some bm), Hx (.a (.atom (.int .i64 ((ff.length - k_.toNat : Nat) : Int)))) (vlM F8_ ff k_.toNat)]
       rcases zJ ak with ⟨c3, ak⟩ | ⟨c3, ak⟩
       ·refine yJ ((xVl zC 31 69 3 0 bm k_ (by kernel_rfl)).or zm) hC zG [1,1,2,1,0,0,1,2,0,1,0,1,2,1,0,0,1] [J1, J2, J3, J4, J5] [0,3,4,5] (fun z : List zf × Int => zV k2 z.1 z.2 = some fp) (fun z => qh bm k_ k2 z.1 z.2) [(0, .own (eOs 3 false F8_ ff)), (3, .d (I gq)), (4, .d (.atom (Vq 3 bm k_))), (5, .d (I k2))] (Z3 ++ [Hq c3, Hh (.cut 0)]) ?_ fun J6 gb => ?_
        ·rintro ⟨ky, kz⟩ ak
         unfold zV at ak
         obtain rfl := zi ak
         exact yB zm hC gh (ky, kz, w64 (k2 + 1)) hl2 []
        ·obtain ⟨g4, ak⟩ := gdE ak
         obtain ⟨ce, h2, ak⟩ := zj ak
         obtain ⟨g5, ak⟩ := gdE ak
         obtain ⟨gr, h3, ak⟩ := zj ak
         let Z4 : List HO := [Hn (⟨rfl, rfl⟩ : T.d (.atom (Vq 3 bm k_)) = T.d (.atom (Vq 3 bm k_)) ∧ some bm = some bm), Hn (⟨g4.1, g4.2, (iL F8_ h2).2⟩ : (0 : Int) ≤ k_ ∧ (0 : Int) ≤ k2 ∧ (k_ + k2).toNat < (ff.map F8_).length), Hs (iM F8_ h2), Hn (⟨rfl, rfl⟩ : T.d (.atom (Vq 3 bm k_)) = T.d (.atom (Vq 3 bm k_)) ∧ some bm = some bm), Hn (⟨g5.1, g5.2, (iL F8_ h3).2⟩ : (0 : Int) ≤ k_ ∧ (0 : Int) ≤ w64 (k2 - 1) ∧ (k_ + (w64 (k2 - 1))).toNat < (ff.map F8_).length), Hs (iM F8_ h3)]
         rcases zJ ak with ⟨c4, ak⟩ | ⟨c4, ak⟩
         ·obtain ⟨g6, ak⟩ := gdE ak
          obtain ⟨gw, h4, ak⟩ := zj ak
          obtain ⟨l9, h5, ak⟩ := zj ak
          exact yB ((xVi zC 49 3 0 bm k_).or ((xVi zC 42 3 0 bm k_).or ((xVi zC 37 3 0 bm k_).or zm))) hC gb ((ff.set gq.toNat gw), w64 (gq + 1)) ak (Z4 ++ [Hq c4, Hn (⟨rfl, rfl⟩ : T.d (.atom (Vq 3 bm k_)) = T.d (.atom (Vq 3 bm k_)) ∧ some bm = some bm), Hn (⟨g6.1, g6.2, (iL F8_ h4).2⟩ : (0 : Int) ≤ k_ ∧ (0 : Int) ≤ k2 ∧ (k_ + k2).toNat < (ff.map F8_).length), Hs (iM F8_ h4), Hn (iL F8_ h5), Hs (iM F8_ h5), Hs (iM F8_ h5), Hl (sM F8_ ff gq gw)])
         ·exact yB ((xVi zC 42 3 0 bm k_).or ((xVi zC 37 3 0 bm k_).or zm)) hC gb (ff, gq) ak (Z4 ++ [Hq c4])
       ·obtain rfl := zi ak
        obtain rfl := hl2
        exact yB ((xVl zC 31 69 3 0 bm k_ (by kernel_rfl)).or zm) hC dv (ff, gq) ae (Z3 ++ [Hq c3])
     ·exact yB zm hC cp () ae (Z2 ++ [Hq c2])
   ·obtain rfl := zi ae
    obtain rfl := hl1
    exact yB zm hC a8 () aa (Z1 ++ [Hq c1])
def jX : Code := (Tryz.f26.body).getD .skip
def xU : wI := spF (α := List zf) (ρ := List zf) 26 (fun x => [Yu x]) (fun r => UZ r) (fun x => yN x) [] (Q1)
theorem kD (hC : zO Tryz.prog ctr) : xU.Ok Tryz.prog := by
 refine zY ?_
 rintro s_ r0 aa
 try unfold yN at aa
 refine yO true [(2, none)] jX 9 Tryz.func26 fun E hE => ?_
 obtain ⟨g0, aa⟩ := gdE aa
 obtain rfl := zi aa
 exact yE X0 hC hE [Ha (lnM F8_ s_), Ha (lnM F8_ s_), Hn (slB g0), Hn (slC g0), Hn (z51 F8_ g0), Ha (zbg 3 F8_ s_ 0 ((s_.length : Nat) : Int).toNat)]
def jQ : Code := (Tryz.f28.body).getD .skip
def xL : wI := spF (α := List (List zf)) (ρ := List (List zf)) 28 (fun x => [zep x]) (fun r => zeq r) (fun x => yp x) [] (Q1)
theorem jT (hC : zO Tryz.prog ctr) : xL.Ok Tryz.prog := by
 refine zY ?_
 rintro s_ r0 aa
 try unfold yp at aa
 refine yO true [(2, none)] jQ 9 Tryz.func28 fun E hE => ?_
 obtain ⟨g0, aa⟩ := gdE aa
 obtain rfl := zi aa
 exact yE X0 hC hE [Ha (lnM Yu s_), Ha (lnM Yu s_), Hn (slB g0), Hn (slC g0), Hn (z51 Yu g0), Ha (zbg 1 Yu s_ 0 ((s_.length : Nat) : Int).toNat)]
def yU : Code := (Tryz.f6.body).getD .skip
def vo : wI := spF (α := z6 × List Int) (ρ := zB × Int) 6 (fun x => [yq x.1, F3_ x.2]) (fun r => .tup [z8C r.1, (eI .i64) r.2]) (fun x => yC x.1 x.2) [] (Uz)
abbrev V6 (x_ : z6) (eb : List (List zf)) : List (Nat × T) := [(4, .own (.box (.agg [I 0, I 0, eOs 1 true Yu []]))), (10, .own (.box (.agg [I 0, I x_.Labels, eOs 1 false UZ eb])))]
abbrev V5 (x_ : z6) (aq : List Int) (ai : List za × List (List z7) × Int) (ct : Int) (fx : List (List zf)) : List (Nat × T) := [(1, .d (eSl 1 false (eI .i64) aq)), (2, .own (.box (yq x_))), (4, .own (.box (.agg [I 0, I 0, eOs 1 true Yu []]))), (10, .own (.box (.agg [I 0, I x_.Labels, eOs 1 false UZ fx]))), (49, .d (eSl 1 true wq ai.2.1)), (50, .d (I ((ai.2.1.length : Nat) : Int))), (51, .d (I ct))]
abbrev V4 (x_ : z6) (aq : List Int) (ai : List za × List (List z7) × Int) (ax : List (List zf)) (ct : Int) (row : List zf) : List (Nat × T) := [(1, .d (eSl 1 false (eI .i64) aq)), (2, .own (.box (yq x_))), (4, .own (.box (.agg [I 0, I 0, eOs 1 true Yu []]))), (10, .own (.box (.agg [I 0, I x_.Labels, eOs 1 false UZ ax]))), (13, .own (eOs 3 false F8_ row)), (49, .d (eSl 1 true wq ai.2.1)), (50, .d (I ((ai.2.1.length : Nat) : Int))), (51, .d (I ct))]
abbrev V3 (x_ : z6) (aq : List Int) (ai : List za × List (List z7) × Int) (ax : List (List zf)) (ct : Int) (u_ : List z7) (d0 : List zf) (gf : Int) (cn : z7) (dy : Int) (db : Int) : List (Nat × T) := [(1, .d (eSl 1 false (eI .i64) aq)), (2, .own (.box (yq x_))), (4, .own (.box (.agg [I 0, I 0, eOs 1 true Yu []]))), (10, .own (.box (.agg [I 0, I x_.Labels, eOs 1 false UZ ax]))), (13, .own (eOs 3 false F8_ d0)), (16, .own (.box (.agg [.atom (.int .u8 dy), I db, I cn.To]))), (49, .d (eSl 1 true wq ai.2.1)), (50, .d (I ((ai.2.1.length : Nat) : Int))), (51, .d (I ct)), (55, .d (eSl 5 true Zi u_)), (56, .d (I ((u_.length : Nat) : Int))), (57, .d (I gf))]
abbrev V1 (x_ : z6) (aq : List Int) (ai : List za × List (List z7) × Int) (ax : List (List zf)) (ct : Int) (u_ : List z7) (d0 : List zf) (gf : Int) : List (Nat × T) := [(1, .d (eSl 1 false (eI .i64) aq)), (2, .own (.box (yq x_))), (4, .own (.box (.agg [I 0, I 0, eOs 1 true Yu []]))), (10, .own (.box (.agg [I 0, I x_.Labels, eOs 1 false UZ ax]))), (13, .own (eOs 3 false F8_ d0)), (49, .d (eSl 1 true wq ai.2.1)), (50, .d (I ((ai.2.1.length : Nat) : Int))), (51, .d (I ct)), (55, .d (eSl 5 true Zi u_)), (56, .d (I ((u_.length : Nat) : Int))), (57, .d (I gf))]
abbrev V2 (x_ : z6) (aq : List Int) (ai : List za × List (List z7) × Int) (ax : List (List zf)) (ct : Int) : List (Nat × T) := [(1, .d (eSl 1 false (eI .i64) aq)), (2, .own (.box (yq x_))), (4, .own (.box (.agg [I 0, I 0, eOs 1 true Yu []]))), (10, .own (.box (.agg [I 0, I x_.Labels, eOs 1 false UZ ax]))), (49, .d (eSl 1 true wq ai.2.1)), (50, .d (I ((ai.2.1.length : Nat) : Int))), (51, .d (I ct))]
theorem Q6 (hC : zO Tryz.prog ctr) (h06 : ctr.Has wD) (h0s : ctr.Has qG) (h0j : ctr.Has xZ) (h0U : ctr.Has wt) (h0V : ctr.Has qS) (h0W : ctr.Has xu) (h0E : ctr.Has xU) (h0F : ctr.Has xL) : vo.Ok Tryz.prog := by
 refine zY ?_
 rintro ⟨x_, aq⟩ r0 aa
 try unfold yC at aa
 refine yO false [(4, some 34), (5, none)] yU 121 Tryz.func6 fun E hE => ?_
 obtain ⟨r_, h0, aa⟩ := zj aa
 let Z0 : List HO := [Hc h06 (x := x_) h0 (loC yq x_ <| loN)]
 rcases zJ aa with ⟨c0, aa⟩ | ⟨c0, aa⟩
 ·obtain rfl := zi aa
  exact yE X0 hC hE (Z0 ++ [Hq c0, Hm (shM Yu Yu [])])
 ·obtain ⟨al, h1, aa⟩ := zj aa
  let Z1 : List HO := (Z0 ++ [Hq c0, Hc h0s (x := (aq, x_.Labels)) h1 (loC F3_ aq <| loC (eI .i64) x_.Labels <| loN)])
  rcases zJ aa with ⟨c1, aa⟩ | ⟨c1, aa⟩
  ·obtain rfl := zi aa
   exact yE X0 hC hE (Z1 ++ [Hq c1, Hm (shM Yu Yu [])])
  ·obtain ⟨ai, h2, aa⟩ := zj aa
   let Z2 : List HO := (Z1 ++ [Hq c1, Hc h0j (x := x_) h2 (loC yq x_ <| loN)])
   rcases zJ aa with ⟨c2, aa⟩ | ⟨c2, aa⟩
   ·obtain rfl := zi aa
    exact yE X0 hC hE (Z2 ++ [Hq c2, Hm (shM Yu Yu [])])
   ·let Z3 : List HO := (Z2 ++ [Hq c2, Ha (lnM yR ai.1)])
    rcases zJ aa with ⟨c3, aa⟩ | ⟨c3, aa⟩
    ·obtain rfl := zi aa
     exact yE X0 hC hE (Z3 ++ [Hq c3, Hm (shM Yu Yu [])])
    ·refine yJ X0 hC yU [1,1,1,1,1,1,1] [] [4,10] (fun z : List (List zf) => vm x_ z = some r0) (fun z => V6 x_ z) [(1, .d (eSl 1 false (eI .i64) aq)), (2, .own (.box (yq x_))), (4, .own (.box (.agg [I 0, I 0, eOs 1 true Yu []]))), (8, .d (eSl 1 true wq ai.2.1)), (10, .own (.box (.agg [I 0, I x_.Labels, eOs 1 true Yu []])))] (Z3 ++ [Hq c3, Hh (.cut 1)]) ?_ fun J1 a8 => ?_
     ·rintro eb aa
      unfold vm at aa
      obtain ⟨aj, h3, aa⟩ := zj aa
      obtain rfl := zi aa
      exact yE X0 hC hE [Hg (Ko h0F), Hm (shM UZ UZ eb), Hs (Kp h0F (x := eb) h3 (loC (eSl 1 false UZ) eb <| loN)), Hm (shM UZ UZ eb)]
     ·obtain ⟨t2, ht2, aa⟩ := zj aa
      refine yLx X0 hC yU [1,1,1,1,1,1,1,2,1,0] [J1] (fun s => vj x_ aq ai s.1 s.2) (fun x => V2 x_ aq ai x.1 x.2) (([] : List (List zf)), 0) ht2 [(1, .d (eSl 1 false (eI .i64) aq)), (2, .own (.box (yq x_))), (4, .own (.box (.agg [I 0, I 0, eOs 1 true Yu []]))), (10, .own (.box (.agg [I 0, I x_.Labels, eOs 1 true UZ []]))), (49, .d (eSl 1 true wq ai.2.1)), (50, .d (I ((ai.2.1.length : Nat) : Int))), (51, .d (I 0))] inferInstance [Ha (lnM wq ai.2.1)] ?_
      rintro ⟨ax, ct⟩ m2 bh ae hl1 J2 ba
      try unfold vj at ae
      rcases zJ ae with ⟨c4, ae⟩ | ⟨c4, ae⟩
      ·refine yJ X0 hC yU [1,1,1,1,1,1,1,2,1,0,0,1,1] [J1, J2] [1,2,4,10,49,50,51] (fun z : List (List zf) => uV ct z = some bh) (fun z => V5 x_ aq ai ct z) [(1, .d (eSl 1 false (eI .i64) aq)), (2, .own (.box (yq x_))), (4, .own (.box (.agg [I 0, I 0, eOs 1 true Yu []]))), (10, .own (.box (.agg [I 0, I x_.Labels, eOs 1 false UZ ax]))), (49, .d (eSl 1 true wq ai.2.1)), (50, .d (I ((ai.2.1.length : Nat) : Int))), (51, .d (I ct))] [Hq c4, Hh (.cut 0)] ?_ fun J3 cp => ?_
       ·rintro fx ae
        unfold uV at ae
        obtain rfl := zi ae
        exact yB X0 hC ba (fx, w64 (ct + 1)) hl1 []
       ·obtain ⟨u_, h4, ae⟩ := zj ae
        refine yJ X0 hC yU [1,1,1,1,1,1,1,2,1,0,0,1,1,2,0,1,1] [J1, J2, J3] [1,2,4,10,13,49,50,51] (fun z : List zf => uU ax ct z = some bh) (fun z => V4 x_ aq ai ax ct z) [(1, .d (eSl 1 false (eI .i64) aq)), (2, .own (.box (yq x_))), (4, .own (.box (.agg [I 0, I 0, eOs 1 true Yu []]))), (10, .own (.box (.agg [I 0, I x_.Labels, eOs 1 false UZ ax]))), (12, .d (eSl 5 true Zi u_)), (13, .own (eOs 3 true F8_ [])), (49, .d (eSl 1 true wq ai.2.1)), (50, .d (I ((ai.2.1.length : Nat) : Int))), (51, .d (I ct))] [Hi wq h4, Hh (.cut 1)] ?_ fun J4 dv => ?_
        ·rintro row ae
         unfold uU at ae
         refine yA X0 hC yU [1,1,1,1,1,1,1,2,1,0,0,1,1,2,0,1,1,1] [J1, J2, J3] [(1, .d (eSl 1 false (eI .i64) aq)), (2, .own (.box (yq x_))), (4, .own (.box (.agg [I 0, I 0, eOs 1 true Yu []]))), (10, .own (.box (.agg [I 0, I x_.Labels, eOs 1 false UZ ax]))), (13, .own (eOs 3 false F8_ row)), (49, .d (eSl 1 true wq ai.2.1)), (50, .d (I ((ai.2.1.length : Nat) : Int))), (51, .d (I ct))] [Hh (.cut 0)] ?_
         obtain ⟨sorted, h5, ae⟩ := zj ae
         refine z2K (by kernel_rfl) (x := (sub [1,1,1,1,1,1,1,2,1,0,0,1,1,2,0,1,1,1,0] yU)) (y := (sub [1,1,1,1,1,1,1,2,1,0,0,1,1,2,0,1,1,1,1] yU)) 13 (fun st1 => Own.canon [1,2,4,10,13,49,50,51] st1 = ofL [(1, .d (eSl 1 false (eI .i64) aq)), (2, .own (.box (yq x_))), (4, .own (.box (.agg [I 0, I 0, eOs 1 true Yu []]))), (10, .own (.box (.agg [I 0, I x_.Labels, eOs 1 false UZ ax]))), (13, .own (eOs 3 false F8_ sorted)), (49, .d (eSl 1 true wq ai.2.1)), (50, .d (I ((ai.2.1.length : Nat) : Int))), (51, .d (I ct))]) (fun jp => yF ((qo (P := Tryz.prog) qd [13] (z4X zcF (f := F8_) (t := false) (v := jp) (fun _ => rfl) (fun _ => rfl) (fun x y c h => xo hC h0V (x := (x, y)) h) h5) 101).or X0) hC .normal [(1, .d (eSl 1 false (eI .i64) aq)), (2, .own (.box (yq x_))), (4, .own (.box (.agg [I 0, I 0, eOs 1 true Yu []]))), (10, .own (.box (.agg [I 0, I x_.Labels, eOs 1 false UZ ax]))), (13, .own (eOs 3 false F8_ sorted)), (49, .d (eSl 1 true wq ai.2.1)), (50, .d (I ((ai.2.1.length : Nat) : Int))), (51, .d (I ct))] [Hn (YQ (f := .fn 21 []) (xs := [.atom jp, .fn 22 []]) (ls := [(jp, eOs 3 false F8_ row)]) (r := .tup []) (ys := [eOs 3 false F8_ sorted]) [.atom jp, .fn 22 []] (show KO [.atom jp, .fn 22 []] [.atom jp, .fn 22 []] from inferInstance))] fun st0 h0 => ⟨rfl, h0⟩) fun st1 h1 => z1l h1 ?_
         obtain ⟨cg, h6, ae⟩ := zj ae
         obtain ⟨bu, h7, ae⟩ := zj ae
         let Z4 : List HO := [Hc h0W (x := sorted) h6 (loC (eOs 3 false F8_) sorted <| loN), Hg (Ko h0E), Hm (shM F8_ F8_ cg), Hs (Kp h0E (x := cg) h7 (loC Yu cg <| loN)), Hm (shM F8_ F8_ cg), Ha (lnM F8_ bu)]
         rcases zJ ae with ⟨c5, ae⟩ | ⟨c5, ae⟩
         ·obtain rfl := zi ae
          obtain rfl := hl1
          obtain rfl := zi aa
          exact yE X0 hC hE (Z4 ++ [Hq c5, Hm (shM Yu Yu [])])
         ·obtain ⟨g0, ae⟩ := gdE ae
          exact yB X0 hC cp (ax ++ [bu]) ae (Z4 ++ [Hq c5, Hq (dM UZ [bu]), Hn (dM UZ [bu]), Hn (aL UZ UZ g0), Hl (aM UZ ax [bu])])
        ·obtain ⟨t5, ht5, ae⟩ := zj ae
         refine yLx X0 hC yU [1,1,1,1,1,1,1,2,1,0,0,1,1,2,0,1,1,2,1,0] [J1, J2, J3, J4] (fun s => wy x_ aq u_ s.1 s.2) (fun x => V1 x_ aq ai ax ct u_ x.1 x.2) (([] : List zf), 0) ht5 [(1, .d (eSl 1 false (eI .i64) aq)), (2, .own (.box (yq x_))), (4, .own (.box (.agg [I 0, I 0, eOs 1 true Yu []]))), (10, .own (.box (.agg [I 0, I x_.Labels, eOs 1 false UZ ax]))), (13, .own (eOs 3 true F8_ [])), (49, .d (eSl 1 true wq ai.2.1)), (50, .d (I ((ai.2.1.length : Nat) : Int))), (51, .d (I ct)), (55, .d (eSl 5 true Zi u_)), (56, .d (I ((u_.length : Nat) : Int))), (57, .d (I 0))] inferInstance [Ha (lnM Zi u_)] ?_
         rintro ⟨d0, gf⟩ m5 fp ak hl2 J5 gh
         try unfold wy at ak
         rcases zJ ak with ⟨c6, ak⟩ | ⟨c6, ak⟩
         ·obtain ⟨cn, h8, ak⟩ := zj ak
          obtain ⟨am, h9, ak⟩ := zj ak
          obtain ⟨az, h10, ak⟩ := zj ak
          refine yJ X0 hC yU [1,1,1,1,1,1,1,2,1,0,0,1,1,2,0,1,1,2,1,0,0,1,1,0,0,1,1,1] [J1, J2, J3, J4, J5] [1,2,4,10,13,16,49,50,51,55,56,57] (fun z : Int × Int => wz d0 gf cn z.1 z.2 = some fp) (fun z => V3 x_ aq ai ax ct u_ d0 gf cn z.1 z.2) [(1, .d (eSl 1 false (eI .i64) aq)), (2, .own (.box (yq x_))), (4, .own (.box (.agg [I 0, I 0, eOs 1 true Yu []]))), (10, .own (.box (.agg [I 0, I x_.Labels, eOs 1 false UZ ax]))), (13, .own (eOs 3 false F8_ d0)), (16, .own (.box (.agg [.atom (.int .u8 0), I 0, I cn.To]))), (17, .own (.box (qD az))), (49, .d (eSl 1 true wq ai.2.1)), (50, .d (I ((ai.2.1.length : Nat) : Int))), (51, .d (I ct)), (55, .d (eSl 5 true Zi u_)), (56, .d (I ((u_.length : Nat) : Int))), (57, .d (I gf))] [Hq c6, Hi Zi h8, Hi ws h9, Hi qD h10, Hh (.cut 0)] ?_ fun J6 gb => ?_
          ·rintro ⟨dy, db⟩ ak
           unfold wz at ak
           obtain ⟨g1, ak⟩ := gdE ak
           obtain rfl := zi ak
           exact yB X0 hC gh ((d0 ++ [(zf.mk dy db cn.To)]), w64 (gf + 1)) hl2 [Hq (dM F8_ [(zf.mk dy db cn.To)]), Hn (dM F8_ [(zf.mk dy db cn.To)]), Hn (aL F8_ F8_ g1), Hl (aM F8_ d0 [(zf.mk dy db cn.To)])]
          ·obtain ⟨dc, h11, ak⟩ := zj ak
           let Z5 : List HO := [Hc h0U (x := (aq, az.Message)) h11 (loC F3_ aq <| loC (eI .i64) az.Message <| loN)]
           rcases zJ ak with ⟨c7, ak⟩ | ⟨c7, ak⟩
           ·rcases zJ ak with ⟨c8, ak⟩ | ⟨c8, ak⟩
            ·exact yB X0 hC gb (2, az.Message) ak (Z5 ++ [Hq c7, Hq c7, Hq c7, Hq c8])
            ·exact yB X0 hC gb (0,0) ak (Z5 ++ [Hq c7, Hq c7, Hq c7, Hq c8])
           ·exact yB X0 hC gb (0,0) ak (Z5 ++ [Hq c7, Hq c7, Hq c7, qF])
         ·obtain rfl := zi ak
          obtain rfl := hl2
          exact yB X0 hC dv d0 ae [Hq c6]
      ·obtain rfl := zi ae
       obtain rfl := hl1
       exact yB X0 hC a8 ax aa [Hq c4]
def z1k : Code := (Tryz.f7.body).getD .skip
def XS : wI := spF (α := Int) (ρ := zh) 7 (fun x => [(eI .i64) x]) (fun r => z0E r) (fun x => ZZ x) [] (Q1)
theorem z1E (hC : zO Tryz.prog ctr) : XS.Ok Tryz.prog := by
 refine zY ?_
 rintro n_ r0 aa
 try unfold ZZ at aa
 refine yO false [(2, some 39)] z1k 10 Tryz.func7 fun E hE => ?_
 obtain rfl := zi aa
 exact yE X0 hC hE [Hm (shM qD qD ([(zb.mk 0 2 n_ 0 1), (zb.mk 1 2 (w64 (2 + n_)) 0 0)])), Hm (shM (eI .i64) (eI .i64) [])]
def z05 : Code := (Tryz.f8.body).getD .skip
def YV : wI := spF (α := Int × Int) (ρ := zh) 8 (fun x => [(eI .i64) x.1, (eI .i64) x.2]) (fun r => z0E r) (fun x => jP x.1 x.2) [] (Uz)
theorem z0L (hC : zO Tryz.prog ctr) : YV.Ok Tryz.prog := by
 refine zY ?_
 rintro ⟨a_, b_⟩ r0 aa
 try unfold jP at aa
 refine yO false [(4, some 39)] z05 17 Tryz.func8 fun E hE => ?_
 obtain rfl := zi aa
 exact yE X0 hC hE [Hm (shM qD qD ([(zb.mk 0 1 a_ 0 1), (zb.mk 1 1 b_ 0 2), (zb.mk 2 1 (w64 (2 + a_)) 0 3), (zb.mk 3 1 (w64 (2 + b_)) 0 0)])), Hm (shM (eI .i64) (eI .i64) [])]
def uv : Code := (Tryz.f86.body).getD .skip
def un : wI := spF (α := List Int × Int) (ρ := Int) 86 (fun x => [F3_ x.1, (eI .i64) x.2]) (fun r => (eI .i64) r) (fun x => qV x.1 x.2) [] (Uz)
abbrev YH : List (Nat × T) := []
abbrev YG (s_ : List Int) (v_ : Int) (x8 : Int) : List (Nat × T) := [(0, .d (eSl 1 false (eI .i64) s_)), (1, .d (I v_)), (7, .d (I ((s_.length : Nat) : Int))), (8, .d (I x8))]
theorem Wu (hC : zO Tryz.prog ctr) : un.Ok Tryz.prog := by
 refine zY ?_
 rintro ⟨s_, v_⟩ r0 aa
 try unfold qV at aa
 refine yO true [(4, none)] uv 19 Tryz.func86 fun E hE => ?_
 refine yJ X0 hC uv [1] [] [] (fun z : Unit => uq = some r0) (fun z => YH) [(0, .d (eSl 1 false (eI .i64) s_)), (1, .d (I v_))] [Hh (.cut 1)] ?_ fun J1 a8 => ?_
 ·rintro ⟨⟩ aa
  unfold uq at aa
  obtain rfl := zi aa
  exact yE X0 hC hE []
 ·obtain ⟨t2, ht2, aa⟩ := zj aa
  refine yL X0 hC uv [1,2,1,0] [J1] (fun s => up s_ v_ s) (fun x => YG s_ v_ x) 0 ht2  [Ha (lnM (eI .i64) s_)] ?_
  rintro x8 m2 bh ae hl1 J2 ba
  try unfold up at ae
  rcases zJ ae with ⟨c0, ae⟩ | ⟨c0, ae⟩
  ·obtain ⟨bo, h0, ae⟩ := zj ae
   rcases zJ ae with ⟨c1, ae⟩ | ⟨c1, ae⟩
   ·obtain rfl := zi ae
    obtain rfl := hl1
    obtain rfl := zi aa
    exact yE X0 hC hE [Hq c0, Hi (eI .i64) h0, Hq c1]
   ·obtain rfl := zi ae
    exact yB X0 hC ba (w64 (x8 + 1)) hl1 [Hq c0, Hi (eI .i64) h0, Hq c1]
  ·obtain rfl := zi ae
   obtain rfl := hl1
   exact yB X0 hC a8 () aa [Hq c0]
def Yv : Code := (Tryz.f63.body).getD .skip
def v7 : wI := spF (α := List Int × Int) (ρ := Bool) 63 (fun x => [F3_ x.1, (eI .i64) x.2]) (fun r => eB r) (fun x => ur x.1 x.2) [] (Uz)
theorem YP (hC : zO Tryz.prog ctr) (h0X : ctr.Has un) : v7.Ok Tryz.prog := by
 refine zY ?_
 rintro ⟨s_, v_⟩ r0 aa
 try unfold ur at aa
 refine yO true [(4, none)] Yv 9 Tryz.func63 fun E hE => ?_
 obtain ⟨r_, h0, aa⟩ := zj aa
 obtain rfl := zi aa
 exact yE X0 hC hE [Hc h0X (x := (s_, v_)) h0 (loC F3_ s_ <| loC (eI .i64) v_ <| loN)]
def uu : Code := (Tryz.f29.body).getD .skip
def um : wI := spF (α := z6 × za) (ρ := Bool) 29 (fun x => [yq x.1, yR x.2]) (fun r => eB r) (fun x => qR x.1 x.2) [] (Uz)
abbrev YA (s_ : za) : List (Nat × T) := [(3, .own (.box (yR s_)))]
abbrev Yz (x_ : z6) (s_ : za) (ja : Int) : List (Nat × T) := [(3, .own (.box (yR s_))), (8, .d (eSl 3 false ws x_.Parts)), (9, .d (I ((x_.Parts.length : Nat) : Int))), (10, .d (I ja))]
theorem Wr (hC : zO Tryz.prog ctr) (h0Y : ctr.Has v7) : um.Ok Tryz.prog := by
 refine zY ?_
 rintro ⟨x_, s_⟩ r0 aa
 try unfold qR at aa
 refine yO true [(4, none)] uu 28 Tryz.func29 fun E hE => ?_
 refine yJ X0 hC uu [1] [] [3] (fun z : Unit => ui s_ = some r0) (fun z => YA s_) [(2, .own (.box (yq x_))), (3, .own (.box (yR s_)))] [Hh (.cut 1)] ?_ fun J1 a8 => ?_
 ·rintro ⟨⟩ aa
  unfold ui at aa
  obtain rfl := zi aa
  exact yE ((zcy zC 27).or X0) hC hE []
 ·obtain ⟨t2, ht2, aa⟩ := zj aa
  refine yL X0 hC uu [1,2,1,0] [J1] (fun s => uh x_ s_ s) (fun x => Yz x_ s_ x) 0 ht2  [Ha (lnM ws x_.Parts)] ?_
  rintro ja m2 bh ae hl1 J2 ba
  try unfold uh at ae
  rcases zJ ae with ⟨c0, ae⟩ | ⟨c0, ae⟩
  ·obtain ⟨am, h0, ae⟩ := zj ae
   obtain ⟨cell, h1, ae⟩ := zj ae
   obtain ⟨r_, h2, ae⟩ := zj ae
   let Z0 : List HO := [Hq c0, Hi ws h0, Hn (⟨arJ (by kernel_rfl) (i0 h1), (iL (eI .i64) h1).2⟩ : Yy qd 57 ((zI.toL s_.states_).map (eI .i64)) ja = true ∧ ja.toNat < ((zI.toL s_.states_).map (eI .i64)).length), Hh (.op 9), Hh (.f), Hx (.a (.agg [I s_.states_.e0, I s_.states_.e1, I s_.states_.e2, I s_.states_.e3])) (rfl : some (.agg [I s_.states_.e0, I s_.states_.e1, I s_.states_.e2, I s_.states_.e3] : A) = some (.agg [I s_.states_.e0, I s_.states_.e1, I s_.states_.e2, I s_.states_.e3])), Hh (.f), Hs (iM (eI .i64) h1), Hc h0Y (x := (am.Final, cell)) h2 (loC F3_ am.Final <| loC (eI .i64) cell <| loN)]
   rcases zJ ae with ⟨c1, ae⟩ | ⟨c1, ae⟩
   ·obtain rfl := zi ae
    obtain rfl := hl1
    obtain rfl := zi aa
    exact yE X0 hC hE (Z0 ++ [Hq c1])
   ·obtain rfl := zi ae
    exact yB X0 hC ba (w64 (ja + 1)) hl1 (Z0 ++ [Hq c1])
  ·obtain rfl := zi ae
   obtain rfl := hl1
   exact yB X0 hC a8 () aa [Hq c0]
def w4 : Code := (Tryz.f30.body).getD .skip
abbrev vG (cr : List ze) (i_ : Int) (j_ : Int) : List (Nat × T) := [(0, .own (eOs 4 false xc cr)), (2, .d (I i_)), (3, .d (I j_))]
theorem uw (hC : zO Tryz.prog ctr) (i6 : Value) : ∀ (s_ : List ze) (r0 : List ze), xk s_ = some r0 → qQ Tryz.prog (.fn 30 []) [.atom i6] ([i6].zip [eOs 4 false xc s_]) (.tup []) [eOs 4 false xc r0] := by
 intro s_ r0 aa
 refine z7P (tt := qd) (nt := 28) (body := w4) [0] zC Tryz.func30 rfl (by kernel_rfl) rfl rfl (by show (1 : Nat) ≤ 28; decide) (by decide) rfl rfl (fun E hE => ?_) rfl
 unfold xk at aa
 refine zc4 0 (v := i6) (y := eOs 4 false xc s_) (by kernel_rfl) (by kernel_rfl) (by kernel_rfl) fun hv0 => ?_
 obtain ⟨t1, ht1, aa⟩ := zj aa
 refine yL X0 hC w4 [1,0] [] (fun s => x6 s.1 s.2.1 s.2.2) (fun x => vG x.1 x.2.1 x.2.2) (s_, 0, w64 (((s_.length : Nat) : Int) - 1)) ht1  [Ha (lnM xc s_)] ?_
 rintro ⟨cr, i_, j_⟩ m1 bh ae hl1 J1 a8
 try unfold x6 at ae
 rcases zJ ae with ⟨c0, ae⟩ | ⟨c0, ae⟩
 ·obtain ⟨bo, h0, ae⟩ := zj ae
  obtain ⟨ca, h1, ae⟩ := zj ae
  obtain ⟨ce, h2, ae⟩ := zj ae
  obtain ⟨ln, h3, ae⟩ := zj ae
  obtain rfl := zi ae
  exact yB ((xIx zC 27 0 i6).or ((xMv Tryz.prog 16 0 i6 hv0).or X0)) hC a8 (((cr.set i_.toNat bo).set j_.toNat ca), w64 (i_ + 1), w64 (j_ - 1)) hl1 [Hq c0, Hn (rfl : some i6 = some i6), Hn (iL xc h0), Hs (iM xc h0), Hn (iL xc h1), Hs (iM xc h1), Hn (iL xc h2), Hs (iM xc h2), Hs (iM xc h2), Hl (sM xc cr i_ bo), Hn (⟨rfl, rfl⟩ : T.d (.atom i6) = T.d (.atom i6) ∧ some i6 = some i6), Hn (iL xc h3), Hs (iM xc h3), Hs (iM xc h3), Hl (sM xc (cr.set i_.toNat bo) j_ ca)]
 ·obtain rfl := zi ae
  obtain rfl := hl1
  obtain rfl := zi aa
  exact yF X0 hC .normal [(0, .own (eOs 4 false xc cr))] [Hq c0] fun st0 h0 => hE _ st0 (.inl rfl) (z5C h0 ⟨⟨rfl, rfl⟩, trivial⟩)
def uc : Code := (Tryz.f31.body).getD .skip
def y8 : wI := spR (α := List ze) (ρ := List ze) 31 (fun x => [(eOs 4 false xc) x]) (fun r => z99 r) (fun x => yg x) [true] (Q1)
theorem ua : ∀ x r, (fun x => yg x) x = some r → (Qt.add y8).run 31 ((Qt.add y8).norm 31 ((fun x => [(eOs 4 false xc) x]) x)) = some ((fun r => z99 r) r) := fun x r h => zd0 h rfl
theorem ub : (Qt.add y8).gives 31 = [true] := zak
theorem uf (hC : zO Tryz.prog ctr) : y8.Ok Tryz.prog := by
 refine z4W ?_
 rintro s_ r0 aa
 try unfold yg at aa
 refine yO true [(2, none)] uc 9 Tryz.func31 fun E hE => ?_
 obtain rfl := zi aa
 exact yE ((xCl zC 8).or X0) hC hE [Ha (lnM xc s_), Ha (lnM xc s_), Hn (Int.natCast_nonneg _ : (0 : Int) ≤ ((s_.length : Nat) : Int)), Hn (Int.natCast_nonneg _ : (0 : Int) ≤ ((s_.length : Nat) : Int)), Hn (clB xc s_), Ha (clE 4 xc s_)]
def zT : Code := (Tryz.f9.body).getD .skip
def wR : wI := spF (α := z6) (ρ := List ze × z8 × Int) 9 (fun x => [yq x]) (fun r => .opq (Zm [some (z99 r.1), some (z2S r.2.1), some ((eI .i64) r.2.2)])) (fun x => xH x) [] (Q1)
abbrev WF : List (Nat × T) := [(3, .own (.box (.agg [eOs 1 true (eI .i64) [], eOs 1 true F3_ []])))]
abbrev WE (x_ : z6) (al : List za × List (List z7) × Int) (d8 : List zu) (cd : Int) : List (Nat × T) := [(1, .own (.box (yq x_))), (3, .own (.box (.agg [eOs 1 true (eI .i64) [], eOs 1 true F3_ []]))), (6, .d (eSl 24 false yR al.1)), (9, .own (eOs 5 true Jd d8)), (67, .d (eSl 1 true wq al.2.1)), (68, .d (I ((al.2.1.length : Nat) : Int))), (69, .d (I cd))]
abbrev WD (x_ : z6) (al : List za × List (List z7) × Int) (cd : Int) (run : List ze) : List (Nat × T) := [(1, .own (.box (yq x_))), (3, .own (.box (.agg [eOs 1 true (eI .i64) [], eOs 1 true F3_ []]))), (6, .d (eSl 24 false yR al.1)), (15, .d (I cd)), (17, .own (eOs 4 false xc run))]
abbrev WA (x_ : z6) (al : List za × List (List z7) × Int) (d8 : List zu) (cd : Int) (gx : List ze) (n_ : Int) : List (Nat × T) := [(1, .own (.box (yq x_))), (3, .own (.box (.agg [eOs 1 true (eI .i64) [], eOs 1 true F3_ []]))), (6, .d (eSl 24 false yR al.1)), (9, .own (eOs 5 true Jd d8)), (15, .d (I cd)), (17, .own (eOs 4 false xc gx)), (18, .d (I n_))]
abbrev WB (x_ : z6) (al : List za × List (List z7) × Int) (d8 : List zu) (cd : Int) : List (Nat × T) := [(1, .own (.box (yq x_))), (3, .own (.box (.agg [eOs 1 true (eI .i64) [], eOs 1 true F3_ []]))), (6, .d (eSl 24 false yR al.1)), (9, .own (eOs 5 true Jd d8)), (67, .d (eSl 1 true wq al.2.1)), (68, .d (I ((al.2.1.length : Nat) : Int))), (69, .d (I cd))]
abbrev WG (x_ : z6) (al : List za × List (List z7) × Int) (d8 : List zu) : List (Nat × T) := [(1, .own (.box (yq x_))), (3, .own (.box (.agg [eOs 1 true (eI .i64) [], eOs 1 true F3_ []]))), (6, .d (eSl 24 false yR al.1)), (7, .d (eSl 1 true wq al.2.1)), (9, .own (eOs 5 true Jd d8))]
abbrev WC (x_ : z6) (al : List za × List (List z7) × Int) (cw : Int) (j9 : List zu) (jh : Int) : List (Nat × T) := [(1, .own (.box (yq x_))), (3, .own (.box (.agg [eOs 1 true (eI .i64) [], eOs 1 true F3_ []]))), (6, .d (eSl 24 false yR al.1)), (7, .d (eSl 1 true wq al.2.1)), (9, .own (eOs 5 true Jd j9)), (10, .d (I jh)), (38, .d (eSl 1 true wq al.2.1)), (39, .d (I ((al.2.1.length : Nat) : Int))), (40, .d (I cw))]
abbrev Wl (x_ : z6) (al : List za × List (List z7) × Int) (cw : Int) (fy : List z7) (gm : Int) (ka : List zu) (ji : Int) : List (Nat × T) := [(1, .own (.box (yq x_))), (3, .own (.box (.agg [eOs 1 true (eI .i64) [], eOs 1 true F3_ []]))), (6, .d (eSl 24 false yR al.1)), (7, .d (eSl 1 true wq al.2.1)), (9, .own (eOs 5 true Jd ka)), (10, .d (I ji)), (11, .d (I cw)), (38, .d (eSl 1 true wq al.2.1)), (39, .d (I ((al.2.1.length : Nat) : Int))), (40, .d (I cw)), (45, .d (eSl 5 true Zi fy)), (46, .d (I ((fy.length : Nat) : Int))), (47, .d (I gm))]
abbrev Wy (x_ : z6) (al : List za × List (List z7) × Int) (cw : Int) (fy : List z7) (ge : List zu) (fj : Int) (gm : Int) : List (Nat × T) := [(1, .own (.box (yq x_))), (3, .own (.box (.agg [eOs 1 true (eI .i64) [], eOs 1 true F3_ []]))), (6, .d (eSl 24 false yR al.1)), (7, .d (eSl 1 true wq al.2.1)), (9, .own (eOs 5 true Jd ge)), (10, .d (I fj)), (11, .d (I cw)), (38, .d (eSl 1 true wq al.2.1)), (39, .d (I ((al.2.1.length : Nat) : Int))), (40, .d (I cw)), (45, .d (eSl 5 true Zi fy)), (46, .d (I ((fy.length : Nat) : Int))), (47, .d (I gm))]
abbrev Wz (x_ : z6) (al : List za × List (List z7) × Int) (ij : List zu) (jl : Int) (cw : Int) : List (Nat × T) := [(1, .own (.box (yq x_))), (3, .own (.box (.agg [eOs 1 true (eI .i64) [], eOs 1 true F3_ []]))), (6, .d (eSl 24 false yR al.1)), (7, .d (eSl 1 true wq al.2.1)), (9, .own (eOs 5 true Jd ij)), (10, .d (I jl)), (38, .d (eSl 1 true wq al.2.1)), (39, .d (I ((al.2.1.length : Nat) : Int))), (40, .d (I cw))]
theorem Up (hC : zO Tryz.prog ctr) (h06 : ctr.Has wD) (h0j : ctr.Has xZ) (h0Z : ctr.Has um) (h0k : ctr.Has xO) : wR.Ok Tryz.prog := by
 refine zY ?_
 rintro x_ r0 aa
 try unfold xH at aa
 refine z4i (tt := qd) (rs := [(true, 2, none), (true, 3, some 45), (false, 4, none)]) (n := ⟨113, []⟩) (body := zT) zC Tryz.func9 rfl (by kernel_rfl) rfl rfl (by show (1 : Nat) ≤ 113; decide) fun E hE => ?_
 obtain ⟨r_, h0, aa⟩ := zj aa
 let Z0 : List HO := [Hc h06 (x := x_) h0 (loC yq x_ <| loN)]
 rcases zJ aa with ⟨c0, aa⟩ | ⟨c0, aa⟩
 ·obtain rfl := zi aa
  let ZE : List HO := (Z0 ++ [Hq c0])
  exact KK X0 zC hC YL hE 4000 (hs := hoH ZE) (x := (.opq (Zm [some (eOs 4 true xc []), some (.agg [eOs 1 true (eI .i64) [], eOs 1 true F2_ []]), some (I r_)]))) (hoB ZE) (by kernel_rfl) (show LeV (.opq (Zm [some (eOs 4 true xc []), some (.agg [eOs 1 true (eI .i64) [], eOs 1 true F2_ []]), some (I r_)])) (.opq (Zm [some (eOs 4 true xc ([] : List ze)), some (.agg [eOs 1 true (eI .i64) [], eOs 1 true F2_ []]), some (I r_)])) from inferInstance)
 ·obtain ⟨al, h1, aa⟩ := zj aa
  let Z1 : List HO := (Z0 ++ [Hq c0, Hc h0j (x := x_) h1 (loC yq x_ <| loN)])
  rcases zJ aa with ⟨c1, aa⟩ | ⟨c1, aa⟩
  ·obtain rfl := zi aa
   let ZE : List HO := (Z1 ++ [Hq c1])
   exact KK X0 zC hC YL hE 4000 (hs := hoH ZE) (x := (.opq (Zm [some (eOs 4 true xc []), some (.agg [eOs 1 true (eI .i64) [], eOs 1 true F2_ []]), some (I al.2.2)]))) (hoB ZE) (by kernel_rfl) (show LeV (.opq (Zm [some (eOs 4 true xc []), some (.agg [eOs 1 true (eI .i64) [], eOs 1 true F2_ []]), some (I al.2.2)])) (.opq (Zm [some (eOs 4 true xc ([] : List ze)), some (.agg [eOs 1 true (eI .i64) [], eOs 1 true F2_ []]), some (I al.2.2)])) from inferInstance)
  ·obtain ⟨g0, aa⟩ := gdE aa
   refine yJ X0 hC zT [1,1,1,1,1,1] [] [1,3,6,7,9] (fun z : List zu => jN x_ al z = some r0) (fun z => WG x_ al z) [(1, .own (.box (yq x_))), (3, .own (.box (.agg [eOs 1 true (eI .i64) [], eOs 1 true F3_ []]))), (6, .d (eSl 24 false yR al.1)), (7, .d (eSl 1 true wq al.2.1)), (9, .own (eOs 5 true Jd (List.replicate ((al.1.length : Nat) : Int).toNat (zu.mk 0 (ze.mk 0 0 0 0))))), (10, .d (I 1))] (Z1 ++ [Hq c1, Ha (lnM yR al.1), Hn (rL g0), Ha (rM 5 Jd ((al.1.length : Nat) : Int) (zu.mk 0 (ze.mk 0 0 0 0))), Hh (.cut 1)]) ?_ fun J1 a8 => ?_
   ·rintro d8 aa
    unfold jN at aa
    refine yJ X0 hC zT [1,1,1,1,1,1,1] [] [3] (fun z : Unit => jM = some r0) (fun z => WF) [(1, .own (.box (yq x_))), (3, .own (.box (.agg [eOs 1 true (eI .i64) [], eOs 1 true F3_ []]))), (6, .d (eSl 24 false yR al.1)), (7, .d (eSl 1 true wq al.2.1)), (9, .own (eOs 5 true Jd d8))] [Hh (.cut 0)] ?_ fun J2 ba => ?_
    ·rintro ⟨⟩ aa
     unfold jM at aa
     obtain rfl := zi aa
     let ZE : List HO := []
     exact KK X0 zC hC YL hE 4000 (hs := hoH ZE) (x := (.opq (Zm [some (eOs 4 true xc []), some (.agg [eOs 1 true (eI .i64) [], eOs 1 true F2_ []]), some (I 7)]))) (hoB ZE) (by kernel_rfl) (show LeV (.opq (Zm [some (eOs 4 true xc []), some (.agg [eOs 1 true (eI .i64) [], eOs 1 true F2_ []]), some (I 7)])) (.opq (Zm [some (eOs 4 true xc ([] : List ze)), some (.agg [eOs 1 true (eI .i64) [], eOs 1 true F2_ []]), some (I 7)])) from inferInstance)
    ·obtain ⟨t3, ht3, aa⟩ := zj aa
     refine yL X0 hC zT [1,1,1,1,1,1,1,2,1,0] [J2] (fun s => jJ x_ al d8 s) (fun x => WB x_ al d8 x) 0 ht3  [Ha (lnM wq al.2.1)] ?_
     rintro cd m3 bh ae hl1 J3 cp
     try unfold jJ at ae
     rcases zJ ae with ⟨c2, ae⟩ | ⟨c2, ae⟩
     ·refine yJ X0 hC zT [1,1,1,1,1,1,1,2,1,0,0,1,1] [J2, J3] [1,3,6,9,67,68,69] (fun z : Unit => uk cd = some bh) (fun z => WE x_ al d8 cd) [(1, .own (.box (yq x_))), (3, .own (.box (.agg [eOs 1 true (eI .i64) [], eOs 1 true F3_ []]))), (6, .d (eSl 24 false yR al.1)), (9, .own (eOs 5 true Jd d8)), (67, .d (eSl 1 true wq al.2.1)), (68, .d (I ((al.2.1.length : Nat) : Int))), (69, .d (I cd))] [Hq c2, Hh (.cut 0)] ?_ fun J4 dv => ?_
      ·rintro ⟨⟩ ae
       unfold uk at ae
       obtain rfl := zi ae
       exact yB X0 hC cp (w64 (cd + 1)) hl1 []
      ·obtain ⟨u_, h2, ae⟩ := zj ae
       let Z2 : List HO := [Hi wq h2, Ha (lnM Zi u_)]
       rcases zJ ae with ⟨c3, ae⟩ | ⟨c3, ae⟩
       ·exact yB X0 hC dv () ae (Z2 ++ (rpN 7 (Hq c3) [qT]))
       ·obtain ⟨lf, h3, ae⟩ := zj ae
        obtain ⟨ai, h4, ae⟩ := zj ae
        let Z3 : List HO := (Z2 ++ (rpN 4 (Hq c3) [Hi yR h3, Hq c3, Hq c3, Hc h0Z (x := (x_, lf)) h4 (loC yq x_ <| loC yR lf <| loN), Hq c3]))
        rcases zJ ae with ⟨c4, ae⟩ | ⟨c4, ae⟩
        ·exact yB X0 hC dv () ae (Z3 ++ [Hq c4])
        ·refine yJ X0 hC zT [1,1,1,1,1,1,1,2,1,0,0,1,1,2,0,1,1,1] [J2, J3, J4] [1,3,6,15,17] (fun z : List ze => jL x_ al cd z = some bh) (fun z => WD x_ al cd z) [(1, .own (.box (yq x_))), (3, .own (.box (.agg [eOs 1 true (eI .i64) [], eOs 1 true F3_ []]))), (6, .d (eSl 24 false yR al.1)), (9, .own (eOs 5 true Jd d8)), (15, .d (I cd)), (17, .own (eOs 4 true xc []))] (Z3 ++ [Hq c4, Hh (.cut 1)]) ?_ fun J5 gh => ?_
         ·rintro run ae
          unfold jL at ae
          refine yA X0 hC zT [1,1,1,1,1,1,1,2,1,0,0,1,1,2,0,1,1,1,1] [J2, J3, J4] [(1, .own (.box (yq x_))), (3, .own (.box (.agg [eOs 1 true (eI .i64) [], eOs 1 true F3_ []]))), (6, .d (eSl 24 false yR al.1)), (15, .d (I cd)), (17, .own (eOs 4 false xc run))] [Hh (.cut 0)] ?_
          obtain ⟨aj, h5, ae⟩ := zj ae
          refine z2K (by kernel_rfl) (x := (sub [1,1,1,1,1,1,1,2,1,0,0,1,1,2,0,1,1,1,1,0] zT)) (y := (sub [1,1,1,1,1,1,1,2,1,0,0,1,1,2,0,1,1,1,1,1] zT)) 17 (fun st1 => Own.canon [1,3,6,15,17] st1 = ofL [(1, .own (.box (yq x_))), (3, .own (.box (.agg [eOs 1 true (eI .i64) [], eOs 1 true F3_ []]))), (6, .d (eSl 24 false yR al.1)), (15, .d (I cd)), (17, .own (eOs 4 false xc aj))]) (fun jq => yF ((qo (P := Tryz.prog) qd [17] (uw hC jq _ _ h5) 102).or X0) hC .normal [(1, .own (.box (yq x_))), (3, .own (.box (.agg [eOs 1 true (eI .i64) [], eOs 1 true F3_ []]))), (6, .d (eSl 24 false yR al.1)), (15, .d (I cd)), (17, .own (eOs 4 false xc aj))] [Hn (YQ (f := .fn 30 []) (xs := [.atom jq]) (ls := [(jq, eOs 4 false xc run)]) (r := .tup []) (ys := [eOs 4 false xc aj]) [.atom jq] (show KO [.atom jq] [.atom jq] from inferInstance))] fun st0 h0 => ⟨rfl, h0⟩) fun st1 h1 => z1l h1 ?_
          obtain ⟨cg, h6, ae⟩ := zj ae
          obtain ⟨ld, h7, ae⟩ := zj ae
          obtain ⟨bu, h8, ae⟩ := zj ae
          obtain rfl := zi ae
          obtain rfl := hl1
          obtain rfl := zi aa
          let ZE : List HO := [Hh (.g [true]), Hn ub, Hx (.a (z99 cg)) (ua aj _ h6), Hi yR h7, Hc h0k (x := (x_, ld)) h8 (loC yq x_ <| loC yR ld <| loN)]
          exact KK ((Q3 zC (uf hC) 104).or X0) zC hC YL hE 4000 (hs := hoH ZE) (x := (.opq (Zm [some (eOs 4 true xc cg), some (.agg [eOs 1 true (eI .i64) bu.States, eOs 1 true F2_ bu.Queues]), some (I 0)]))) (hoB ZE) (by kernel_rfl) (LeV.refl _)
         ·obtain ⟨t6, ht6, ae⟩ := zj ae
          refine yLx X0 hC zT [1,1,1,1,1,1,1,2,1,0,0,1,1,2,0,1,1,1,2,1,0] [J2, J3, J4, J5] (fun s => jI d8 s.1 s.2) (fun x => WA x_ al d8 cd x.1 x.2) (([] : List ze), cd) ht6 [(1, .own (.box (yq x_))), (3, .own (.box (.agg [eOs 1 true (eI .i64) [], eOs 1 true F3_ []]))), (6, .d (eSl 24 false yR al.1)), (9, .own (eOs 5 true Jd d8)), (15, .d (I cd)), (17, .own (eOs 4 true xc [])), (18, .d (I cd))] inferInstance [] ?_
          rintro ⟨gx, n_⟩ m6 fp ak hl2 J6 gb
          try unfold jI at ak
          rcases zJ ak with ⟨c5, ak⟩ | ⟨c5, ak⟩
          ·obtain ⟨gy, h9, ak⟩ := zj ak
           obtain ⟨g1, ak⟩ := gdE ak
           obtain ⟨j8, h10, ak⟩ := zj ak
           obtain rfl := zi ak
           exact yB X0 hC gb ((gx ++ [gy.move_]), j8.from_) hl2 [Hq c5, Hn (iL Jd h9), Hs (iM Jd h9), Hs (iM Jd h9), Hq (dM xc [gy.move_]), Hn (dM xc [gy.move_]), Hn (aL xc xc g1), Hl (aM xc gx [gy.move_]), Hn (iL Jd h10), Hs (iM Jd h10), Hs (iM Jd h10)]
          ·obtain rfl := zi ak
           obtain rfl := hl2
           exact yB X0 hC gh gx ae [Hq c5]
     ·obtain rfl := zi ae
      obtain rfl := hl1
      exact yB X0 hC ba () aa [Hq c2]
   ·obtain ⟨t7, ht7, aa⟩ := zj aa
    refine yL X0 hC zT [1,1,1,1,1,1,2,1,0] [J1] (fun s => jH al s.1 s.2.1 s.2.2) (fun x => Wz x_ al x.1 x.2.1 x.2.2) ((List.replicate ((al.1.length : Nat) : Int).toNat (zu.mk 0 (ze.mk 0 0 0 0))), 1,0) ht7  [Ha (lnM wq al.2.1)] ?_
    rintro ⟨ij, jl, cw⟩ m7 bh ae hl1 J7 la
    try unfold jH at ae
    rcases zJ ae with ⟨c6, ae⟩ | ⟨c6, ae⟩
    ·refine yJ X0 hC zT [1,1,1,1,1,1,2,1,0,0,1,1] [J1, J7] [1,3,6,7,9,10,38,39,40] (fun z : List zu × Int => jK cw z.1 z.2 = some bh) (fun z => WC x_ al cw z.1 z.2) [(1, .own (.box (yq x_))), (3, .own (.box (.agg [eOs 1 true (eI .i64) [], eOs 1 true F3_ []]))), (6, .d (eSl 24 false yR al.1)), (7, .d (eSl 1 true wq al.2.1)), (9, .own (eOs 5 true Jd ij)), (10, .d (I jl)), (38, .d (eSl 1 true wq al.2.1)), (39, .d (I ((al.2.1.length : Nat) : Int))), (40, .d (I cw))] [Hq c6, Hh (.cut 0)] ?_ fun J8 l6 => ?_
     ·rintro ⟨j9, jh⟩ ae
      unfold jK at ae
      obtain rfl := zi ae
      exact yB X0 hC la (j9, jh, w64 (cw + 1)) hl1 []
     ·obtain ⟨fy, h11, ae⟩ := zj ae
      obtain ⟨t9, ht9, ae⟩ := zj ae
      refine yL X0 hC zT [1,1,1,1,1,1,2,1,0,0,1,1,2,0,1,1,0] [J1, J7, J8] (fun s => jG cw fy s.1 s.2.1 s.2.2) (fun x => Wy x_ al cw fy x.1 x.2.1 x.2.2) (ij, jl, 0) ht9  [Hi wq h11, Ha (lnM Zi fy)] ?_
      rintro ⟨ge, fj, gm⟩ m9 fp ak hl2 J9 lb
      try unfold jG at ak
      rcases zJ ak with ⟨c7, ak⟩ | ⟨c7, ak⟩
      ·refine yJ X0 hC zT [1,1,1,1,1,1,2,1,0,0,1,1,2,0,1,1,0,0,1,1] [J1, J7, J8, J9] [1,3,6,7,9,10,11,38,39,40,45,46,47] (fun z : List zu × Int => vJ gm z.1 z.2 = some fp) (fun z => Wl x_ al cw fy gm z.1 z.2) [(1, .own (.box (yq x_))), (3, .own (.box (.agg [eOs 1 true (eI .i64) [], eOs 1 true F3_ []]))), (6, .d (eSl 24 false yR al.1)), (7, .d (eSl 1 true wq al.2.1)), (9, .own (eOs 5 true Jd ge)), (10, .d (I fj)), (11, .d (I cw)), (38, .d (eSl 1 true wq al.2.1)), (39, .d (I ((al.2.1.length : Nat) : Int))), (40, .d (I cw)), (45, .d (eSl 5 true Zi fy)), (46, .d (I ((fy.length : Nat) : Int))), (47, .d (I gm))] [Hq c7, Hh (.cut 0)] ?_ fun J10 hJ10 => ?_
       ·rintro ⟨ka, ji⟩ ak
        unfold vJ at ak
        obtain rfl := zi ak
        exact yB X0 hC lb (ka, ji, w64 (gm + 1)) hl2 []
       ·obtain ⟨cn, h12, ak⟩ := zj ak
        let Z4 : List HO := [Hi Zi h12]
        rcases zJ ak with ⟨c8, ak⟩ | ⟨c8, ak⟩
        ·obtain ⟨lp, h13, ak⟩ := zj ak
         exact yB X0 hC hJ10 ((ge.set cn.To.toNat (zu.mk cw cn.Move)), w64 (fj + 1)) ak (Z4 ++ [Hq c8, Hn (iL Jd h13), Hs (iM Jd h13), Hs (iM Jd h13), Hl (sM Jd ge cn.To (zu.mk cw cn.Move))])
        ·exact yB X0 hC hJ10 (ge, fj) ak (Z4 ++ [Hq c8])
      ·obtain rfl := zi ak
       obtain rfl := hl2
       exact yB X0 hC l6 (ge, fj) ae [Hq c7]
    ·obtain rfl := zi ae
     obtain rfl := hl1
     exact yB X0 hC a8 ij aa [Hq c6]
def Yn : Code := (Tryz.f32.body).getD .skip
def Y3 : wI := spF (α := List Int × List Int) (ρ := Int) 32 (fun x => [F3_ x.1, F3_ x.2]) (fun r => (eI .i64) r) (fun x => YK x.1 x.2) [] (Uz)
abbrev UY : List (Nat × T) := []
abbrev UX (a_ : List Int) (b_ : List Int) (i_ : Int) : List (Nat × T) := [(0, .d (eSl 1 false (eI .i64) a_)), (1, .d (eSl 1 false (eI .i64) b_)), (5, .d (I i_))]
theorem KZ (hC : zO Tryz.prog ctr) : Y3.Ok Tryz.prog := by
 refine zY ?_
 rintro ⟨a_, b_⟩ r0 aa
 try unfold YK at aa
 refine yO true [(4, none)] Yn 40 Tryz.func32 fun E hE => ?_
 let Z0 : List HO := [Ha (lnM (eI .i64) a_), Ha (lnM (eI .i64) b_)]
 rcases zJ aa with ⟨c0, aa⟩ | ⟨c0, aa⟩
 ·let Z1 : List HO := (Z0 ++ [Hq c0, Ha (lnM (eI .i64) a_), Ha (lnM (eI .i64) b_)])
  rcases zJ aa with ⟨c1, aa⟩ | ⟨c1, aa⟩
  ·obtain rfl := zi aa
   exact yE X0 hC hE (Z1 ++ [Hq c1])
  ·obtain rfl := zi aa
   exact yE X0 hC hE (Z1 ++ [Hq c1])
 ·refine yJ X0 hC Yn [1,1] [] [] (fun z : Unit => Yh = some r0) (fun z => UY) [(0, .d (eSl 1 false (eI .i64) a_)), (1, .d (eSl 1 false (eI .i64) b_))] (Z0 ++ [Hq c0, Hh (.cut 0)]) ?_ fun J1 a8 => ?_
  ·rintro ⟨⟩ aa
   unfold Yh at aa
   obtain rfl := zi aa
   exact yE X0 hC hE []
  ·obtain ⟨t2, ht2, aa⟩ := zj aa
   refine yL X0 hC Yn [1,1,2,1,0] [J1] (fun s => Yg a_ b_ s) (fun x => UX a_ b_ x) 0 ht2  [] ?_
   rintro i_ m2 bh ae hl1 J2 ba
   try unfold Yg at ae
   rcases zJ ae with ⟨c2, ae⟩ | ⟨c2, ae⟩
   ·obtain ⟨ik, h0, ae⟩ := zj ae
    obtain ⟨il, h1, ae⟩ := zj ae
    let Z2 : List HO := [Ha (lnM (eI .i64) a_), Hq c2, Hi (eI .i64) h0, Hi (eI .i64) h1]
    rcases zJ ae with ⟨c3, ae⟩ | ⟨c3, ae⟩
    ·obtain ⟨lh, h2, ae⟩ := zj ae
     obtain ⟨lk, h3, ae⟩ := zj ae
     let Z3 : List HO := (Z2 ++ [Hq c3, Hi (eI .i64) h2, Hi (eI .i64) h3])
     rcases zJ ae with ⟨c4, ae⟩ | ⟨c4, ae⟩
     ·obtain rfl := zi ae
      obtain rfl := hl1
      obtain rfl := zi aa
      exact yE X0 hC hE (Z3 ++ [Hq c4])
     ·obtain rfl := zi ae
      obtain rfl := hl1
      obtain rfl := zi aa
      exact yE X0 hC hE (Z3 ++ [Hq c4])
    ·obtain rfl := zi ae
     exact yB X0 hC ba (w64 (i_ + 1)) hl1 (Z2 ++ [Hq c3])
   ·obtain rfl := zi ae
    obtain rfl := hl1
    exact yB X0 hC a8 () aa [Ha (lnM (eI .i64) a_), Hq c2]
def z1h : Code := (Tryz.f10.body).getD .skip
def ZO : wI := spF (α := List Int × List Int) (ρ := Int) 10 (fun x => [F3_ x.1, F3_ x.2]) (fun r => (eI .i64) r) (fun x => ZX x.1 x.2) [] (Uz)
theorem z1A (hC : zO Tryz.prog ctr) (h0G : ctr.Has Y3) : ZO.Ok Tryz.prog := by
 refine zY ?_
 rintro ⟨a_, b_⟩ r0 aa
 try unfold ZX at aa
 refine yO true [(4, none)] z1h 22 Tryz.func10 fun E hE => ?_
 let Z0 : List HO := [Ha (lnM (eI .i64) a_), Ha (lnM (eI .i64) b_)]
 rcases zJ aa with ⟨c0, aa⟩ | ⟨c0, aa⟩
 ·obtain rfl := zi aa
  exact yE X0 hC hE (Z0 ++ (rpN 5 (Hq c0) (rpN 6 qT [])))
 ·obtain ⟨r_, h0, aa⟩ := zj aa
  let Z1 : List HO := (Z0 ++ [Hq c0, Hq c0, Hq c0, Hc h0G (x := (a_, b_)) h0 (loC F3_ a_ <| loC F3_ b_ <| loN), Hq c0, Hq c0])
  rcases zJ aa with ⟨c1, aa⟩ | ⟨c1, aa⟩
  ·obtain rfl := zi aa
   exact yE X0 hC hE (Z1 ++ (rpN 5 (Hq c1) [qT]))
  ·obtain ⟨al, h1, aa⟩ := zj aa
   let Z2 : List HO := (Z1 ++ [Hq c1, Hq c1, Hq c1, Hc h0G (x := (b_, a_)) h1 (loC F3_ b_ <| loC F3_ a_ <| loN), Hq c1, Hq c1])
   rcases zJ aa with ⟨c2, aa⟩ | ⟨c2, aa⟩
   ·obtain rfl := zi aa
    exact yE X0 hC hE (Z2 ++ [Hq c2])
   ·obtain rfl := zi aa
    exact yE X0 hC hE (Z2 ++ [Hq c2])
def Xg : Code := (Tryz.f33.body).getD .skip
def YT : wI := spF (α := z6) (ρ := Int) 33 (fun x => [yq x]) (fun r => (eI .i64) r) (fun x => VO x) [] (Q1)
abbrev QI (im : Int) (jx : Int) : List (Nat × T) := [(3, .d (I im)), (4, .d (I jx))]
abbrev QH (x_ : z6) (gz : Int) (gn : Int) (i_ : Int) : List (Nat × T) := [(1, .own (.box (yq x_))), (3, .d (I gz)), (4, .d (I gn)), (5, .d (I i_))]
theorem z0J (hC : zO Tryz.prog ctr) : YT.Ok Tryz.prog := by
 refine zY ?_
 rintro x_ r0 aa
 try unfold VO at aa
 refine yO true [(2, none)] Xg 47 Tryz.func33 fun E hE => ?_
 let Z0 : List HO := [Ha (lnM (eI .i64) x_.Channels)]
 rcases zJ aa with ⟨c0, aa⟩ | ⟨c0, aa⟩
 ·obtain rfl := zi aa
  exact yE X0 hC hE (Z0 ++ (rpN 5 (Hq c0) [qT]))
 ·let Z1 : List HO := (Z0 ++ [Hq c0, Hq c0, Hq c0, Ha (lnM ws x_.Parts), Hq c0, Hq c0])
  rcases zJ aa with ⟨c1, aa⟩ | ⟨c1, aa⟩
  ·obtain rfl := zi aa
   exact yE X0 hC hE (Z1 ++ [Hq c1])
  ·refine yJ X0 hC Xg [1,1,1] [] [3,4] (fun z : Int × Int => X8 z.1 z.2 = some r0) (fun z => QI z.1 z.2) [(1, .own (.box (yq x_))), (3, .d (I 0)), (4, .d (I 0))] (Z1 ++ [Hq c1, Hh (.cut 1)]) ?_ fun J1 a8 => ?_
   ·rintro ⟨im, jx⟩ aa
    unfold X8 at aa
    rcases zJ aa with ⟨c2, aa⟩ | ⟨c2, aa⟩
    ·obtain rfl := zi aa
     exact yE X0 hC hE [Hq c2, Hq c2, Hq c2, qT]
    ·rcases zJ aa with ⟨c3, aa⟩ | ⟨c3, aa⟩
     ·obtain rfl := zi aa
      exact yE X0 hC hE [Hq c2, Hq c2, Hq c2, Hq c3]
     ·obtain rfl := zi aa
      exact yE X0 hC hE [Hq c2, Hq c2, Hq c2, Hq c3]
   ·obtain ⟨t2, ht2, aa⟩ := zj aa
    refine yL X0 hC Xg [1,1,1,2,1,0] [J1] (fun s => X7 x_ s.1 s.2.1 s.2.2) (fun x => QH x_ x.1 x.2.1 x.2.2) (0,0,0) ht2  [] ?_
    rintro ⟨gz, gn, i_⟩ m2 bh ae hl1 J2 ba
    try unfold X7 at ae
    let Z2 : List HO := [Ha (lnM ws x_.Parts)]
    rcases zJ ae with ⟨c4, ae⟩ | ⟨c4, ae⟩
    ·obtain ⟨am, h0, ae⟩ := zj ae
     obtain ⟨fq, h1, ae⟩ := zj ae
     obtain rfl := zi ae
     exact yB X0 hC ba (w64 (gz + ((am.Arcs.length : Nat) : Int)), w64 (gn + ((fq.Final.length : Nat) : Int)), w64 (i_ + 1)) hl1 (Z2 ++ [Hq c4, Hi ws h0, Ha (lnM qD am.Arcs), Hi ws h1, Ha (lnM (eI .i64) fq.Final)])
    ·obtain rfl := zi ae
     obtain rfl := hl1
     exact yB X0 hC a8 (gz, gn) aa (Z2 ++ [Hq c4])
def z1i : Code := (Tryz.f12.body).getD .skip
def ZP : wI := spF (α := Int × List zb) (ρ := z6) 12 (fun x => [(eI .i64) x.1, KU x.2]) (fun r => z4H r) (fun x => qK x.1 x.2) [] (Uz)
def z2O : XH Tryz.prog := ((zcv zC (.inl 13) [10,12]).or X0)
theorem z1C (hC : zO Tryz.prog ctr) : ZP.Ok Tryz.prog := by
 refine zY ?_
 rintro ⟨jd, im⟩ r0 aa
 try unfold qK at aa
 refine yO false [(4, some 30)] z1i 15 Tryz.func12 fun E hE => ?_
 obtain rfl := zi aa
 exact yE z2O hC hE [Hm (shM qD qD ([(zb.mk 0 1 0 0 1), (zb.mk 1 0 0 0 0)])), Hm (shM (eI .i64) (eI .i64) []), Hm (shM (eI .i64) (eI .i64) []), Hm (shM (eI .i64) (eI .i64) ([jd])), Hm (shM z0E z0E ([(zh.mk 2 ([(zb.mk 0 1 0 0 1), (zb.mk 1 0 0 0 0)]) []), (zh.mk 1 im [])]))]
def KH : Code := (Tryz.f13.body).getD .skip
def kM : wI := spF (α := Int × Int × List Int) (ρ := z8) 13 (fun x => [(eI .i64) x.1, (eI .i64) x.2.1, F3_ x.2.2]) (fun r => z6J r) (fun x => xR x.1 x.2.1 x.2.2) [] (zaM)
theorem z00 (hC : zO Tryz.prog ctr) : kM.Ok Tryz.prog := by
 refine zY ?_
 rintro ⟨a_, b_, km⟩ r0 aa
 try unfold xR at aa
 refine yO false [(6, some 45)] KH 13 Tryz.func13 fun E hE => ?_
 obtain rfl := zi aa
 exact yE X0 hC hE [Hm (shM (eI .i64) (eI .i64) ([a_, b_])), Hm (shM F3_ F3_ ([km]))]
def z1j : Code := (Tryz.f40.body).getD .skip
def XR : wI := spF (α := Int × Int) (ρ := ze) 40 (fun x => [(eI .i64) x.1, (eI .i64) x.2]) (fun r => xc r) (fun x => uJ x.1 x.2) [] (Uz)
theorem z1D (hC : zO Tryz.prog ctr) : XR.Ok Tryz.prog := by
 refine zY ?_
 rintro ⟨part, ma⟩ r0 aa
 try unfold uJ at aa
 refine yO false [(4, some 71)] z1j 8 Tryz.func40 fun E hE => ?_
 obtain rfl := zi aa
 exact yE X0 hC hE []
end Go.Own
end
