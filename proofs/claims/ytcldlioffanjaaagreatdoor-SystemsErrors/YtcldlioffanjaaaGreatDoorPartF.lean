/- -/
import Derived.Test.YtcldlioffanjaaaGreatDoorPartE
noncomputable section
set_option linter.unusedVariables false
set_option linter.unusedSimpArgs false
namespace Go.Own
open Go.Proofs
set_option maxRecDepth 100000
set_option maxHeartbeats 8000000
def X0 : XH Tryz.prog := xB zS
theorem Vr : Tryz.prog.follows .mixedOrders = true := by kernel_rfl
section
variable {ctr : Ctr} {n : Fr} {Q : Exit → St → Prop} {c : Code} {fs : List Fm} {st : St}
theorem yE (X : XH Tryz.prog) (hC : zW Tryz.prog ctr) {E : St → Prop} {r : A} {keep : Bool} {rs : List (Nat × Option Nat)} (hE : ∀ st x R U, z3U wB keep rs st = some (x, R, U) → LeV x r → E st) (L : List HO) (e : z9k X wB ctr n keep rs 4000 c fs st (hoH L) = some (r, hoO L) := by kernel_rfl) : AWP Tryz.prog n c st (Qf Tryz.prog n fs (z5h E)) := yE6 X zS hC Vr hE L e
theorem yEx (X : XH Tryz.prog) (hC : zW Tryz.prog ctr) {E : St → Prop} {r : A} {keep : Bool} {rs : List (Nat × Option Nat)} (hE : ∀ st x R U, z3U wB keep rs st = some (x, R, U) → LeV x r → E st) (L : List HO) (x : A) (hle : LeV x r) (e : z9k X wB ctr n keep rs 4000 c fs st (hoH L) = some (x, hoO L) := by kernel_rfl) : AWP Tryz.prog n c st (Qf Tryz.prog n fs (z5h E)) := zeE X zS hC Vr hE L x hle e
theorem yB (X : XH Tryz.prog) (hC : zW Tryz.prog ctr) {τ : Type} {J : St → Prop} {live : List Nat} {S : τ → List (Nat × T)} {Inv : τ → Prop} (hJ : ∀ st' l' z, Inv z → Own.canon live st' = ofL l' → LeL l' (S z) → J st') (z : τ) (hz : Inv z) (L : List HO) (e : z0i X wB ctr n live 4000 c fs st (hoH L) = some (.back J, ofL (S z), hoO L) := by kernel_rfl) : AWP Tryz.prog n c st (Qf Tryz.prog n fs Q) := yB6 X zS hC Vr hJ z hz L e
theorem yA (X : XH Tryz.prog) (hC : zW Tryz.prog ctr) (bd : Code) (path : List Nat) (Js : List (St → Prop)) (l : List (Nat × T)) (L : List HO) (h : AWP Tryz.prog n (sub path bd) (ofL l) (Qf Tryz.prog n (frs path Js bd []) Q)) (e : z0i X wB ctr n (WU l) 4000 c fs st (hoH L) = some (.at (sub path bd) (frs path Js bd []), ofL l, hoO L) := by kernel_rfl) : AWP Tryz.prog n c st (Qf Tryz.prog n fs Q) := yA6 X zS hC Vr bd path Js l L e h
theorem yAt (X : XH Tryz.prog) (hC : zW Tryz.prog ctr) (c' : Code) (fs' : List Fm) (l : List (Nat × T)) (L : List HO) (h : ∀ st0, Own.canon (WU l) st0 = ofL l → AWP Tryz.prog n c' st0 (Qf Tryz.prog n fs' Q)) (e : z0i X wB ctr n (WU l) 4000 c fs st (hoH L) = some (.at c' fs', ofL l, hoO L) := by kernel_rfl) : AWP Tryz.prog n c st (Qf Tryz.prog n fs Q) := zeF X zS hC Vr c' fs' l L e h
theorem yLx (X : XH Tryz.prog) (hC : zW Tryz.prog ctr) (bd : Code) (path : List Nat) (Js : List (St → Prop)) {σ τ : Type} (f : σ → Option (LR σ τ)) (S : σ → List (Nat × T)) (x0 : σ) {t : τ} (ht : loop f x0 = some t) (l : List (Nat × T)) (hl : LeL l (S x0)) (L : List HO) (round : ∀ x m lr, f x = some lr → zcb f m t lr → ∀ J : St → Prop, (∀ st' l' x', Wv f m x' = some t → Own.canon (WU l) st' = ofL l' → LeL l' (S x') → J st') → AWP Tryz.prog n (sub (path ++ [0]) bd) (ofL (S x)) (Qf Tryz.prog n (.pre J :: frs path Js bd []) Q)) (e : z0i X wB ctr n (WU l) 4000 c fs st (hoH L) = some (.at (sub path bd) (frs path Js bd []), ofL l, hoO L) := by kernel_rfl) (e2 : sub path bd = .loop (sub (path ++ [0]) bd) := by kernel_rfl) (hk : ∀ x, WU (S x) = WU l := by exact fun _ => rfl) : AWP Tryz.prog n c st (Qf Tryz.prog n fs Q) := yL6 X zS hC Vr bd path Js f S x0 ht l hl L hk e e2 round
theorem yL (X : XH Tryz.prog) (hC : zW Tryz.prog ctr) (bd : Code) (path : List Nat) (Js : List (St → Prop)) {σ τ : Type} (f : σ → Option (LR σ τ)) (S : σ → List (Nat × T)) (x0 : σ) {t : τ} (ht : loop f x0 = some t) (L : List HO) (round : ∀ x m lr, f x = some lr → zcb f m t lr → ∀ J : St → Prop, (∀ st' l' x', Wv f m x' = some t → Own.canon (WU (S x0)) st' = ofL l' → LeL l' (S x') → J st') → AWP Tryz.prog n (sub (path ++ [0]) bd) (ofL (S x)) (Qf Tryz.prog n (.pre J :: frs path Js bd []) Q)) (e : z0i X wB ctr n (WU (S x0)) 4000 c fs st (hoH L) = some (.at (sub path bd) (frs path Js bd []), ofL (S x0), hoO L) := by kernel_rfl) (e2 : sub path bd = .loop (sub (path ++ [0]) bd) := by kernel_rfl) (hk : ∀ x, WU (S x) = WU (S x0) := by exact fun _ => rfl) : AWP Tryz.prog n c st (Qf Tryz.prog n fs Q) := yL6 X zS hC Vr bd path Js f S x0 ht _ (LeL.refl _) L hk e e2 round
theorem yJ (X : XH Tryz.prog) (hC : zW Tryz.prog ctr) (bd : Code) (path : List Nat) (Js : List (St → Prop)) {σ : Type} (live : List Nat) (Inv : σ → Prop) (S : σ → List (Nat × T)) (l : List (Nat × T)) (L : List HO) (h1 : ∀ z, Inv z → AWP Tryz.prog n (sub (path ++ [1]) bd) (ofL (S z)) (Qf Tryz.prog n (frs path Js bd []) Q)) (h2 : ∀ J : St → Prop, (∀ st' l' z, Inv z → Own.canon live st' = ofL l' → LeL l' (S z) → J st') → AWP Tryz.prog n (sub (path ++ [2]) bd) (ofL l) (Qf Tryz.prog n (.pre J :: frs path Js bd []) Q)) (e : z0i X wB ctr n (WU l) 4000 c fs st (hoH L) = some (.at (sub path bd) (frs path Js bd []), ofL l, hoO L) := by kernel_rfl) (e2 : sub path bd = .seq (sub (path ++ [2]) bd) (sub (path ++ [1]) bd) := by kernel_rfl) : AWP Tryz.prog n c st (Qf Tryz.prog n fs Q) := yJ6 X zS hC Vr bd path Js live Inv S l L e e2 h1 h2
theorem yF (X : XH Tryz.prog) (hC : zW Tryz.prog ctr) (ex : Exit) (l : List (Nat × T)) (L : List HO) (h : ∀ st0, Own.canon (WU l) st0 = ofL l → Q ex st0) (e : z0i X wB ctr n (WU l) 4000 c fs st (hoH L) = some (.fin ex, ofL l, hoO L) := by kernel_rfl) : AWP Tryz.prog n c st (Qf Tryz.prog n fs Q) := yF6 X zS hC Vr ex l L e h
theorem yO {k : Nat} {fn : Func} {r : A} {ls : List A} (keep : Bool) (rs : List (Nat × Option Nat)) (body : Code) (nt : Nat) (hf : Tryz.prog.funcs[k]? = some fn) (h : ∀ E : St → Prop, (∀ st x R U, z3U wB keep rs st = some (x, R, U) → LeV x r → E st) → AWP Tryz.prog ⟨nt, []⟩ body (ofL (z5i 0 ls)) (Qf Tryz.prog ⟨nt, []⟩ [] (z5h E))) (hb : fn.body = some body := by kernel_rfl) (hn : nt = fn.ntmps := by exact rfl) (hr : fn.results = (rs.map z5r).toArray := by exact rfl) (hnm : (fn.name == "runtime.NumGoroutine") = false := by exact rfl) (ha : Nat.ble ls.length nt = true := by kernel_rfl) : Xt Tryz.prog k ls r := yO6 zS keep rs body nt hf hb hn hr hnm ha h
end
theorem z4h : z75 Tryz.prog 142 115 3 (Jg [.i64, .i64, .i64, .i64, .i64, .i64, .i64, .i64, .i64, .i64, .i64, .i64, .i64, .i64, .i64, .i64, .i64, .i64, .i64, .i64, .i64, .i64, .i64, .i64]) (.atom (.int .i64 0)) := z6j Tryz.underlying142 _ Tryz.underlying115 (Go.Ex.z4w.eqn rfl) (z2k.eqn rfl) rfl ⟨.int .i64 0, fun w => z5o (f := Tryz.t3) (by kernel_rfl) rfl w, fun S => uT.2 ⟨rfl, rfl⟩⟩ rfl
theorem zco : z9b Tryz.prog 48 3 true := z5T zS (t := 61) Tryz.so48 rfl rfl (by kernel_rfl) (by decide)
def Yv : Code := (Tryz.f26.body).getD .skip
def Yi : xm := spF (α := z6) (ρ := Int) 26 (fun x => [yN x]) (fun r => (eI .i64) r) (fun x => ZH x) [] (Qb)
abbrev UH (arcs : Int) (final : Int) : List (Nat × T) := [(3, .d (I arcs)), (4, .d (I final))]
abbrev UG (x_ : z6) (arcs1 : Int) (final1 : Int) (i_ : Int) : List (Nat × T) := [(1, .own (.box (yN x_))), (3, .d (I arcs1)), (4, .d (I final1)), (5, .d (I i_))]
theorem KC {ctr : Ctr} (hC : zW Tryz.prog ctr) : Yi.Ok Tryz.prog := by
 refine y7 ?_
 rintro x_ r0 hf0
 try unfold ZH at hf0
 refine yO true [(2, none)] Yv 47 Tryz.func26 fun E hE => ?_
 let Z0 : List HO := [Ha (lnM (eI .i64) x_.Channels)]
 rcases zR hf0 with ⟨c0, hf0⟩ | ⟨c0, hf0⟩
 ·obtain rfl := zi hf0
  exact yE X0 hC hE (Z0 ++ (rpN 5 (Hq c0) [qT]))
 ·let Z1 : List HO := (Z0 ++ [Hq c0, Hq c0, Hq c0, Ha (lnM vg x_.Parts), Hq c0, Hq c0])
  rcases zR hf0 with ⟨c1, hf0⟩ | ⟨c1, hf0⟩
  ·obtain rfl := zi hf0
   exact yE X0 hC hE (Z1 ++ [Hq c1])
  ·refine yJ X0 hC Yv [1,1,1] [] [3,4] (fun z : Int × Int => kz z.1 z.2 = some r0) (fun z => UH z.1 z.2) [(1, .own (.box (yN x_))), (3, .d (I 0)), (4, .d (I 0))] (Z1 ++ [Hq c1, Hh (.cut 1)]) ?_ fun J1 hJ1 => ?_
   ·rintro ⟨arcs, final⟩ hf0
    unfold kz at hf0
    rcases zR hf0 with ⟨c2, hf0⟩ | ⟨c2, hf0⟩
    ·obtain rfl := zi hf0
     exact yE X0 hC hE [Hq c2, Hq c2, Hq c2, qT]
    ·rcases zR hf0 with ⟨c3, hf0⟩ | ⟨c3, hf0⟩
     ·obtain rfl := zi hf0
      exact yE X0 hC hE [Hq c2, Hq c2, Hq c2, Hq c3]
     ·obtain rfl := zi hf0
      exact yE X0 hC hE [Hq c2, Hq c2, Hq c2, Hq c3]
   ·obtain ⟨t2, ht2, hf0⟩ := zl hf0
    refine yL X0 hC Yv [1,1,1,2,1,0] [J1] (fun s => je x_ s.1 s.2.1 s.2.2) (fun x => UG x_ x.1 x.2.1 x.2.2) (0,0,0) ht2  [] ?_
    rintro ⟨arcs1, final1, i_⟩ m2 lr1 hf1 hl1 J2 hJ2
    try unfold je at hf1
    let Z2 : List HO := [Ha (lnM vg x_.Parts)]
    rcases zR hf1 with ⟨c4, hf1⟩ | ⟨c4, hf1⟩
    ·obtain ⟨Part_e, h0, hf1⟩ := zl hf1
     obtain ⟨Part_e1, h1, hf1⟩ := zl hf1
     obtain rfl := zi hf1
     exact yB X0 hC hJ2 (w64 (arcs1 + ((Part_e.Arcs.length : Nat) : Int)), w64 (final1 + ((Part_e1.Final.length : Nat) : Int)), w64 (i_ + 1)) hl1 (Z2 ++ [Hq c4, Hi vg h0, Ha (lnM kg Part_e.Arcs), Hi vg h1, Ha (lnM (eI .i64) Part_e1.Final)])
    ·obtain rfl := zi hf1
     obtain rfl := hl1
     exact yB X0 hC hJ1 (arcs1, final1) hf0 (Z2 ++ [Hq c4])
def z07 : Code := (Tryz.f37.body).getD .skip
def YV : xm := spF (α := Int × List zf) (ρ := z6) 37 (fun x => [(eI .i64) x.1, z33 x.2]) (fun r => z7B r) (fun x => YK x.1 x.2) [] (VV)
def z1t : XH Tryz.prog := ((zce zS (.inl 13) [10,12]).or X0)
theorem z0s {ctr : Ctr} (hC : zW Tryz.prog ctr) : YV.Ok Tryz.prog := by
 refine y7 ?_
 rintro ⟨capacity, arcs⟩ r0 hf0
 try unfold YK at hf0
 refine yO false [(4, some 29)] z07 15 Tryz.func37 fun E hE => ?_
 obtain rfl := zi hf0
 exact yE z1t hC hE [Hm (shM kg kg ([(zf.mk 0 1 0 0 1), (zf.mk 1 0 0 0 0)])), Hm (shM (eI .i64) (eI .i64) []), Hm (shM (eI .i64) (eI .i64) []), Hm (shM (eI .i64) (eI .i64) ([capacity])), Hm (shM z9r z9r ([(zk.mk 2 ([(zf.mk 0 1 0 0 1), (zf.mk 1 0 0 0 0)]) []), (zk.mk 1 arcs [])]))]
def Vz : Code := (Tryz.f87.body).getD .skip
def vF : xm := spF (α := Int) (ρ := Bool) 87 (fun x => [(eI .i64) x]) (fun r => eB r) (fun x => jR x) [] (Qb)
theorem VZ {ctr : Ctr} (hC : zW Tryz.prog ctr) : vF.Ok Tryz.prog := by
 refine y7 ?_
 rintro n_ r0 hf0
 try unfold jR at hf0
 refine yO true [(2, none)] Vz 5 Tryz.func87 fun E hE => ?_
 obtain rfl := zi hf0
 exact yE X0 hC hE []
def wz : Code := (Tryz.f90.body).getD .skip
def ue : xm := spF (α := List Int × Unit) (ρ := Int) 90 (fun x => [F2_ x.1, (JW 87) x.2]) (fun r => (eI .i64) r) (fun x => w4 x.1 x.2) [] (by
 rintro ⟨a0, a1⟩ ⟨b0, b1⟩ h
 have e0 := vT.inj (f := F2_) _ _ (List.cons.inj h).1
 replace h := (List.cons.inj h).2
 have e1 := vT.inj (f := (JW 87)) _ _ (List.cons.inj h).1
 subst e0 e1
 rfl)
abbrev jN : List (Nat × T) := []
abbrev jM (s_ : List Int) (x8 : Int) : List (Nat × T) := [(0, .d (eSl 1 false (eI .i64) s_)), (1, .d (.fn 87 [])), (7, .d (I ((s_.length : Nat) : Int))), (8, .d (I x8))]
theorem kE {ctr : Ctr} (hC : zW Tryz.prog ctr) (h0b : ctr.Has vF) : ue.Ok Tryz.prog := by
 refine y7 ?_
 rintro ⟨s_, f_⟩ r0 hf0
 try unfold w4 at hf0
 refine yO true [(4, none)] wz 19 Tryz.func90 fun E hE => ?_
 refine yJ X0 hC wz [1] [] [] (fun z : Unit => wv = some r0) (fun z => jN) [(0, .d (eSl 1 false (eI .i64) s_)), (1, .d (.fn 87 []))] [Hh (.cut 1)] ?_ fun J1 hJ1 => ?_
 ·rintro ⟨⟩ hf0
  unfold wv at hf0
  obtain rfl := zi hf0
  exact yE X0 hC hE []
 ·obtain ⟨t2, ht2, hf0⟩ := zl hf0
  refine yL X0 hC wz [1,2,1,0] [J1] (fun s => yV s_ s) (fun x => jM s_ x) 0 ht2  [Ha (lnM (eI .i64) s_)] ?_
  rintro x8 m2 lr1 hf1 hl1 J2 hJ2
  try unfold yV at hf1
  rcases zR hf1 with ⟨c0, hf1⟩ | ⟨c0, hf1⟩
  ·obtain ⟨s__e, h0, hf1⟩ := zl hf1
   obtain ⟨r_, h1, hf1⟩ := zl hf1
   let Z0 : List HO := [Hq c0, Hi (eI .i64) h0, Hc h0b (x := s__e) h1 (loC (eI .i64) s__e <| loN)]
   rcases zR hf1 with ⟨c1, hf1⟩ | ⟨c1, hf1⟩
   ·obtain rfl := zi hf1
    obtain rfl := hl1
    obtain rfl := zi hf0
    exact yE X0 hC hE (Z0 ++ [Hq c1])
   ·obtain rfl := zi hf1
    exact yB X0 hC hJ2 (w64 (x8 + 1)) hl1 (Z0 ++ [Hq c1])
  ·obtain rfl := zi hf1
   obtain rfl := hl1
   exact yB X0 hC hJ1 () hf0 [Hq c0]
def jG : Code := (Tryz.f62.body).getD .skip
def vm : xm := spF (α := List Int × Unit) (ρ := Bool) 62 (fun x => [F2_ x.1, (JW 87) x.2]) (fun r => eB r) (fun x => yY x.1 x.2) [] (by
 rintro ⟨a0, a1⟩ ⟨b0, b1⟩ h
 have e0 := vT.inj (f := F2_) _ _ (List.cons.inj h).1
 replace h := (List.cons.inj h).2
 have e1 := vT.inj (f := (JW 87)) _ _ (List.cons.inj h).1
 subst e0 e1
 rfl)
theorem vB {ctr : Ctr} (hC : zW Tryz.prog ctr) (h0b : ctr.Has vF) : vm.Ok Tryz.prog := by
 refine y7 ?_
 rintro ⟨s_, f_⟩ r0 hf0
 try unfold yY at hf0
 refine yO true [(4, none)] jG 9 Tryz.func62 fun E hE => ?_
 obtain ⟨r_, h0, hf0⟩ := zl hf0
 obtain rfl := zi hf0
 exact yE ((JM zS (kE hC h0b) 7).or X0) hC hE [Hc (Ctr.add_has Qe ue) (x := (s_, ())) h0 (loC F2_ s_ <| loC (JW 87) () <| loN)]
def Vy : Code := (Tryz.f89.body).getD .skip
def jU : xm := spF (α := zk) (ρ := Bool) 89 (fun x => [vg x]) (fun r => eB r) (fun x => jQ x) [] (Qb)
theorem VY {ctr : Ctr} (hC : zW Tryz.prog ctr) : jU.Ok Tryz.prog := by
 refine y7 ?_
 rintro p_ r0 hf0
 try unfold jQ at hf0
 refine yO true [(2, none)] Vy 12 Tryz.func89 fun E hE => ?_
 rcases zR hf0 with ⟨c0, hf0⟩ | ⟨c0, hf0⟩
 ·obtain rfl := zi hf0
  exact yE X0 hC hE (rpN 5 (Hq c0) [])
 ·obtain rfl := zi hf0
  exact yE X0 hC hE [Hq c0, Hq c0, Hq c0, Ha (lnM kg p_.Arcs), Hq c0, Hq c0]
def x6 : Code := (Tryz.f107.body).getD .skip
def yR : xm := spF (α := List zk × Unit) (ρ := Int) 107 (fun x => [z9d x.1, (JW 89) x.2]) (fun r => (eI .i64) r) (fun x => yi x.1 x.2) [] (by
 rintro ⟨a0, a1⟩ ⟨b0, b1⟩ h
 have e0 := vT.inj (f := z9d) _ _ (List.cons.inj h).1
 replace h := (List.cons.inj h).2
 have e1 := vT.inj (f := (JW 89)) _ _ (List.cons.inj h).1
 subst e0 e1
 rfl)
abbrev vO : List (Nat × T) := []
abbrev vN (s_ : List zk) (x8 : Int) : List (Nat × T) := [(0, .d (eSl 3 false vg s_)), (1, .d (.fn 89 [])), (7, .d (I ((s_.length : Nat) : Int))), (8, .d (I x8))]
theorem uo {ctr : Ctr} (hC : zW Tryz.prog ctr) (h0G : ctr.Has jU) : yR.Ok Tryz.prog := by
 refine y7 ?_
 rintro ⟨s_, f_⟩ r0 hf0
 try unfold yi at hf0
 refine yO true [(4, none)] x6 19 Tryz.func107 fun E hE => ?_
 refine yJ X0 hC x6 [1] [] [] (fun z : Unit => yS = some r0) (fun z => vO) [(0, .d (eSl 3 false vg s_)), (1, .d (.fn 89 []))] [Hh (.cut 1)] ?_ fun J1 hJ1 => ?_
 ·rintro ⟨⟩ hf0
  unfold yS at hf0
  obtain rfl := zi hf0
  exact yE X0 hC hE []
 ·obtain ⟨t2, ht2, hf0⟩ := zl hf0
  refine yL X0 hC x6 [1,2,1,0] [J1] (fun s => zN s_ s) (fun x => vN s_ x) 0 ht2  [Ha (lnM vg s_)] ?_
  rintro x8 m2 lr1 hf1 hl1 J2 hJ2
  try unfold zN at hf1
  rcases zR hf1 with ⟨c0, hf1⟩ | ⟨c0, hf1⟩
  ·obtain ⟨s__e, h0, hf1⟩ := zl hf1
   obtain ⟨r_, h1, hf1⟩ := zl hf1
   let Z0 : List HO := [Hq c0, Hi vg h0, Hc h0G (x := s__e) h1 (loC vg s__e <| loN)]
   rcases zR hf1 with ⟨c1, hf1⟩ | ⟨c1, hf1⟩
   ·obtain rfl := zi hf1
    obtain rfl := hl1
    obtain rfl := zi hf0
    exact yE X0 hC hE (Z0 ++ [Hq c1])
   ·obtain rfl := zi hf1
    exact yB X0 hC hJ2 (w64 (x8 + 1)) hl1 (Z0 ++ [Hq c1])
  ·obtain rfl := zi hf1
   obtain rfl := hl1
   exact yB X0 hC hJ1 () hf0 [Hq c0]
def vM : Code := (Tryz.f88.body).getD .skip
def yw : xm := spF (α := List zk × Unit) (ρ := Bool) 88 (fun x => [z9d x.1, (JW 89) x.2]) (fun r => eB r) (fun x => zO x.1 x.2) [] (by
 rintro ⟨a0, a1⟩ ⟨b0, b1⟩ h
 have e0 := vT.inj (f := z9d) _ _ (List.cons.inj h).1
 replace h := (List.cons.inj h).2
 have e1 := vT.inj (f := (JW 89)) _ _ (List.cons.inj h).1
 subst e0 e1
 rfl)
theorem vP {ctr : Ctr} (hC : zW Tryz.prog ctr) (h0H : ctr.Has yR) : yw.Ok Tryz.prog := by
 refine y7 ?_
 rintro ⟨s_, f_⟩ r0 hf0
 try unfold zO at hf0
 refine yO true [(4, none)] vM 9 Tryz.func88 fun E hE => ?_
 obtain ⟨r_, h0, hf0⟩ := zl hf0
 obtain rfl := zi hf0
 exact yE X0 hC hE [Hc h0H (x := (s_, ())) h0 (loC z9d s_ <| loC (JW 89) () <| loN)]
def Qg : Code := (Tryz.f61.body).getD .skip
def kP : xm := spF (α := z6) (ρ := Bool) 61 (fun x => [yN x]) (fun r => eB r) (fun x => uu x) [] (Qb)
theorem Qy {ctr : Ctr} (hC : zW Tryz.prog ctr) (h0b : ctr.Has vF) (h0I : ctr.Has yw) : kP.Ok Tryz.prog := by
 refine y7 ?_
 rintro x_ r0 hf0
 try unfold uu at hf0
 refine yO true [(2, none)] Qg 31 Tryz.func61 fun E hE => ?_
 rcases zR hf0 with ⟨c0, hf0⟩ | ⟨c0, hf0⟩
 ·obtain rfl := zi hf0
  exact yE X0 hC hE (rpN 4 (Hq c0) (rpN 11 qT []))
 ·let Z0 : List HO := (rpN 4 (Hq c0) [])
  rcases zR hf0 with ⟨c1, hf0⟩ | ⟨c1, hf0⟩
  ·obtain rfl := zi hf0
   exact yE X0 hC hE (Z0 ++ (rpN 5 (Hq c1) (rpN 6 qT [])))
  ·let Z1 : List HO := (Z0 ++ [Hq c1, Hq c1, Hq c1, Ha (lnM (eI .i64) x_.Channels), Hq c1, Hq c1])
   rcases zR hf0 with ⟨c2, hf0⟩ | ⟨c2, hf0⟩
   ·obtain rfl := zi hf0
    exact yE X0 hC hE (Z1 ++ (rpN 5 (Hq c2) [qT]))
   ·let Z2 : List HO := (Z1 ++ [Hq c2, Hq c2, Hq c2, Ha (lnM vg x_.Parts), Hq c2, Hq c2])
    rcases zR hf0 with ⟨c3, hf0⟩ | ⟨c3, hf0⟩
    ·obtain rfl := zi hf0
     exact yE X0 hC hE (Z2 ++ [Hq c3])
    ·obtain ⟨r_, h0, hf0⟩ := zl hf0
     let Z3 : List HO := (Z2 ++ [Hq c3, Hc (Ctr.add_has Qe vm) (x := (x_.Channels, ())) h0 (loC F2_ x_.Channels <| loC (JW 87) () <| loN)])
     rcases zR hf0 with ⟨c4, hf0⟩ | ⟨c4, hf0⟩
     ·obtain rfl := zi hf0
      exact yE ((JM zS (vB hC h0b) 25).or X0) hC hE (Z3 ++ (rpN 4 (Hq c4) []))
     ·obtain ⟨r_1, h1, hf0⟩ := zl hf0
      obtain rfl := zi hf0
      exact yE ((JM zS (vB hC h0b) 25).or X0) hC hE (Z3 ++ [Hq c4, Hq c4, Hq c4, Hc h0I (x := (x_.Parts, ())) h1 (loC z9d x_.Parts <| loC (JW 89) () <| loN), Hq c4])
def VB : Code := (Tryz.f63.body).getD .skip
def vG : xm := spF (α := Int) (ρ := Bool) 63 (fun x => [(eI .i64) x]) (fun r => eB r) (fun x => jT x) [] (Qb)
theorem Ub {ctr : Ctr} (hC : zW Tryz.prog ctr) : vG.Ok Tryz.prog := by
 refine y7 ?_
 rintro n_ r0 hf0
 try unfold jT at hf0
 refine yO true [(2, none)] VB 5 Tryz.func63 fun E hE => ?_
 obtain rfl := zi hf0
 exact yE X0 hC hE []
def wy : Code := (Tryz.f90.body).getD .skip
def ud : xm := spF (α := List Int × Unit) (ρ := Int) 90 (fun x => [F2_ x.1, (JW 63) x.2]) (fun r => (eI .i64) r) (fun x => xZ x.1 x.2) [] (by
 rintro ⟨a0, a1⟩ ⟨b0, b1⟩ h
 have e0 := vT.inj (f := F2_) _ _ (List.cons.inj h).1
 replace h := (List.cons.inj h).2
 have e1 := vT.inj (f := (JW 63)) _ _ (List.cons.inj h).1
 subst e0 e1
 rfl)
abbrev jL : List (Nat × T) := []
abbrev jK (s_ : List Int) (x8 : Int) : List (Nat × T) := [(0, .d (eSl 1 false (eI .i64) s_)), (1, .d (.fn 63 [])), (7, .d (I ((s_.length : Nat) : Int))), (8, .d (I x8))]
theorem kD {ctr : Ctr} (hC : zW Tryz.prog ctr) (h0c : ctr.Has vG) : ud.Ok Tryz.prog := by
 refine y7 ?_
 rintro ⟨s_, f_⟩ r0 hf0
 try unfold xZ at hf0
 refine yO true [(4, none)] wy 19 Tryz.func90 fun E hE => ?_
 refine yJ X0 hC wy [1] [] [] (fun z : Unit => wu = some r0) (fun z => jL) [(0, .d (eSl 1 false (eI .i64) s_)), (1, .d (.fn 63 []))] [Hh (.cut 1)] ?_ fun J1 hJ1 => ?_
 ·rintro ⟨⟩ hf0
  unfold wu at hf0
  obtain rfl := zi hf0
  exact yE X0 hC hE []
 ·obtain ⟨t2, ht2, hf0⟩ := zl hf0
  refine yL X0 hC wy [1,2,1,0] [J1] (fun s => yU s_ s) (fun x => jK s_ x) 0 ht2  [Ha (lnM (eI .i64) s_)] ?_
  rintro x8 m2 lr1 hf1 hl1 J2 hJ2
  try unfold yU at hf1
  rcases zR hf1 with ⟨c0, hf1⟩ | ⟨c0, hf1⟩
  ·obtain ⟨s__e, h0, hf1⟩ := zl hf1
   obtain ⟨r_, h1, hf1⟩ := zl hf1
   let Z0 : List HO := [Hq c0, Hi (eI .i64) h0, Hc h0c (x := s__e) h1 (loC (eI .i64) s__e <| loN)]
   rcases zR hf1 with ⟨c1, hf1⟩ | ⟨c1, hf1⟩
   ·obtain rfl := zi hf1
    obtain rfl := hl1
    obtain rfl := zi hf0
    exact yE X0 hC hE (Z0 ++ [Hq c1])
   ·obtain rfl := zi hf1
    exact yB X0 hC hJ2 (w64 (x8 + 1)) hl1 (Z0 ++ [Hq c1])
  ·obtain rfl := zi hf1
   obtain rfl := hl1
   exact yB X0 hC hJ1 () hf0 [Hq c0]
def jF : Code := (Tryz.f62.body).getD .skip
def vj : xm := spF (α := List Int × Unit) (ρ := Bool) 62 (fun x => [F2_ x.1, (JW 63) x.2]) (fun r => eB r) (fun x => yX x.1 x.2) [] (by
 rintro ⟨a0, a1⟩ ⟨b0, b1⟩ h
 have e0 := vT.inj (f := F2_) _ _ (List.cons.inj h).1
 replace h := (List.cons.inj h).2
 have e1 := vT.inj (f := (JW 63)) _ _ (List.cons.inj h).1
 subst e0 e1
 rfl)
theorem vA {ctr : Ctr} (hC : zW Tryz.prog ctr) (h0c : ctr.Has vG) : vj.Ok Tryz.prog := by
 refine y7 ?_
 rintro ⟨s_, f_⟩ r0 hf0
 try unfold yX at hf0
 refine yO true [(4, none)] jF 9 Tryz.func62 fun E hE => ?_
 obtain ⟨r_, h0, hf0⟩ := zl hf0
 obtain rfl := zi hf0
 exact yE ((JM zS (kD hC h0c) 7).or X0) hC hE [Hc (Ctr.add_has Qe ud) (x := (s_, ())) h0 (loC F2_ s_ <| loC (JW 63) () <| loN)]
def z05 : Code := (Tryz.f67.body).getD .skip
def qS : xm := spF (α := Int × Int) (ρ := Bool) 67 (fun x => [(eI .i64) x.1, (eI .i64) x.2]) (fun r => eB r) (fun x => vq x.1 x.2) [] (VV)
theorem z0o {ctr : Ctr} (hC : zW Tryz.prog ctr) : qS.Ok Tryz.prog := by
 refine y7 ?_
 rintro ⟨n_, many⟩ r0 hf0
 try unfold vq at hf0
 refine yO true [(4, none)] z05 12 Tryz.func67 fun E hE => ?_
 rcases zR hf0 with ⟨c0, hf0⟩ | ⟨c0, hf0⟩
 ·obtain rfl := zi hf0
  exact yE X0 hC hE (rpN 4 (Hq c0) [])
 ·obtain rfl := zi hf0
  exact yE X0 hC hE (rpN 4 (Hq c0) [])
def qV : Code := (Tryz.f46.body).getD .skip
def qR : xm := spF (α := List Int × Int) (ρ := Bool) 46 (fun x => [F2_ x.1, (eI .i64) x.2]) (fun r => eB r) (fun x => v6 x.1 x.2) [] (VV)
abbrev WC : List (Nat × T) := []
abbrev WB (l_ : List Int) (many : Int) (x9 : Int) (x29 : Bool) : List (Nat × T) := [(0, .d (eSl 1 false (eI .i64) l_)), (1, .d (I many)), (7, .d (eSl 1 false (eI .i64) l_)), (8, .d (I ((l_.length : Nat) : Int))), (9, .d (I x9)), (19, .d (I x9)), (20, .d (B (decide (x9 > 0)))), (21, .d (B (decide (x9 > 0)))), (29, .d (B x29))]
abbrev WA (l_ : List Int) (many : Int) (x9 : Int) : List (Nat × T) := [(0, .d (eSl 1 false (eI .i64) l_)), (1, .d (I many)), (7, .d (eSl 1 false (eI .i64) l_)), (8, .d (I ((l_.length : Nat) : Int))), (9, .d (I x9))]
theorem Q6 {ctr : Ctr} (hC : zW Tryz.prog ctr) (h01 : ctr.Has qS) : qR.Ok Tryz.prog := by
 refine y7 ?_
 rintro ⟨l_, many⟩ r0 hf0
 try unfold v6 at hf0
 refine yO true [(4, none)] qV 32 Tryz.func46 fun E hE => ?_
 refine yJ X0 hC qV [1] [] [] (fun z : Unit => km = some r0) (fun z => WC) [(0, .d (eSl 1 false (eI .i64) l_)), (1, .d (I many))] [Hh (.cut 1)] ?_ fun J1 hJ1 => ?_
 ·rintro ⟨⟩ hf0
  unfold km at hf0
  obtain rfl := zi hf0
  exact yE X0 hC hE []
 ·obtain ⟨t2, ht2, hf0⟩ := zl hf0
  refine yL X0 hC qV [1,2,1,0] [J1] (fun s => wr l_ many s) (fun x => WA l_ many x) 0 ht2  [Ha (lnM (eI .i64) l_)] ?_
  rintro x9 m2 lr1 hf1 hl1 J2 hJ2
  try unfold wr at hf1
  rcases zR hf1 with ⟨c0, hf1⟩ | ⟨c0, hf1⟩
  ·refine yJ X0 hC qV [1,2,1,0,0,1,1] [J1, J2] [0,1,7,8,9,19,20,21,29] (fun z : Bool => u7 x9 z = some lr1) (fun z => WB l_ many x9 z) [(0, .d (eSl 1 false (eI .i64) l_)), (1, .d (I many)), (7, .d (eSl 1 false (eI .i64) l_)), (8, .d (I ((l_.length : Nat) : Int))), (9, .d (I x9))] [Hq c0, Hh (.cut 0)] ?_ fun J3 hJ3 => ?_
   ·rintro x29 hf1
    unfold u7 at hf1
    obtain rfl := zi hf1
    exact yB X0 hC hJ2 (w64 (x9 + 1)) hl1 []
   ·obtain ⟨l__e, h0, hf1⟩ := zl hf1
    obtain ⟨r_, h1, hf1⟩ := zl hf1
    let Z0 : List HO := [Hi (eI .i64) h0, Hc h01 (x := (l__e, many)) h1 (loC (eI .i64) l__e <| loC (eI .i64) many <| loN)]
    rcases zR hf1 with ⟨c1, hf1⟩ | ⟨c1, hf1⟩
    ·obtain rfl := zi hf1
     obtain rfl := hl1
     obtain rfl := zi hf0
     exact yE X0 hC hE (Z0 ++ (rpN 5 (Hq c1) [qT]))
    ·rcases zR hf1 with ⟨c2, hf1⟩ | ⟨c2, hf1⟩
     ·obtain ⟨l__e1, h2, hf1⟩ := zl hf1
      let Z1 : List HO := (Z0 ++ (Hq c1 :: Hq c1 :: Hq c1 :: (rpN 5 (Hq c2) [Hi (eI .i64) h2, Hq c2, Hq c2, Hq c1, Hq c2, Hq c1])))
      rcases zR hf1 with ⟨c3, hf1⟩ | ⟨c3, hf1⟩
      ·obtain rfl := zi hf1
       obtain rfl := hl1
       obtain rfl := zi hf0
       exact yE X0 hC hE (Z1 ++ [Hq c3])
      ·exact yB X0 hC hJ3 (decide (l__e ≤ l__e1)) hf1 (Z1 ++ [Hq c3])
     ·exact yB X0 hC hJ3 false hf1 (Z0 ++ (Hq c1 :: Hq c1 :: Hq c1 :: (rpN 7 (Hq c2) [Hq c1, Hq c2, Hq c1, qF])))
  ·obtain rfl := zi hf1
   obtain rfl := hl1
   exact yB X0 hC hJ1 () hf0 [Hq c0]
def Xj : Code := (Tryz.f66.body).getD .skip
def uC : xm := spF (α := z6 × zk × zf) (ρ := Bool) 66 (fun x => [yN x.1, vg x.2.1, kg x.2.2]) (fun r => eB r) (fun x => wW x.1 x.2.1 x.2.2) [] (z9m)
theorem Xu {ctr : Ctr} (hC : zW Tryz.prog ctr) (h01 : ctr.Has qS) : uC.Ok Tryz.prog := by
 refine y7 ?_
 rintro ⟨x_, p_, a_⟩ r0 hf0
 try unfold wW at hf0
 refine yO true [(6, none)] Xj 52 Tryz.func66 fun E hE => ?_
 obtain ⟨r_, h0, hf0⟩ := zl hf0
 let Z0 : List HO := [Hc h01 (x := (a_.From, p_.States)) h0 (loC (eI .i64) a_.From <| loC (eI .i64) p_.States <| loN)]
 rcases zR hf0 with ⟨c0, hf0⟩ | ⟨c0, hf0⟩
 ·obtain rfl := zi hf0
  exact yE X0 hC hE (Z0 ++ (rpN 7 (Hq c0) (rpN 5 qT [])))
 ·obtain ⟨r_1, h1, hf0⟩ := zl hf0
  let Z1 : List HO := (Z0 ++ (rpN 5 (Hq c0) [Hc h01 (x := (a_.To, p_.States)) h1 (loC (eI .i64) a_.To <| loC (eI .i64) p_.States <| loN), Hq c0, Hq c0]))
  rcases zR hf0 with ⟨c1, hf0⟩ | ⟨c1, hf0⟩
  ·obtain rfl := zi hf0
   exact yE X0 hC hE (Z1 ++ (rpN 4 (Hq c1) [qT]))
  ·let Z2 : List HO := (Z1 ++ (rpN 4 (Hq c1) []))
   rcases zR hf0 with ⟨c2, hf0⟩ | ⟨c2, hf0⟩
   ·obtain rfl := zi hf0
    exact yE X0 hC hE (Z2 ++ [Hq c2])
   ·rcases zR hf0 with ⟨c3, hf0⟩ | ⟨c3, hf0⟩
    ·rcases zR hf0 with ⟨c4, hf0⟩ | ⟨c4, hf0⟩
     ·obtain ⟨r_2, h2, hf0⟩ := zl hf0
      obtain rfl := zi hf0
      exact yE X0 hC hE (Z2 ++ (Hq c2 :: Hq c3 :: (rpN 5 (Hq c4) [Hc h01 (x := (a_.Message, x_.Labels)) h2 (loC (eI .i64) a_.Message <| loC (eI .i64) x_.Labels <| loN), Hq c4])))
     ·obtain rfl := zi hf0
      exact yE X0 hC hE (Z2 ++ (Hq c2 :: Hq c3 :: (rpN 6 (Hq c4) [])))
    ·obtain ⟨r_3, h3, hf0⟩ := zl hf0
     let Z3 : List HO := (Z2 ++ [Hq c2, Hq c3, Ha (lnM (eI .i64) x_.Channels), Hc h01 (x := (a_.Channel, ((x_.Channels.length : Nat) : Int))) h3 (loC (eI .i64) a_.Channel <| loC (eI .i64) ((x_.Channels.length : Nat) : Int) <| loN)])
     rcases zR hf0 with ⟨c5, hf0⟩ | ⟨c5, hf0⟩
     ·obtain ⟨r_4, h4, hf0⟩ := zl hf0
      obtain rfl := zi hf0
      exact yE X0 hC hE (Z3 ++ (rpN 5 (Hq c5) [Hc h01 (x := (a_.Message, x_.Messages)) h4 (loC (eI .i64) a_.Message <| loC (eI .i64) x_.Messages <| loN), Hq c5]))
     ·obtain rfl := zi hf0
      exact yE X0 hC hE (Z3 ++ (rpN 6 (Hq c5) []))
def VA : Code := (Tryz.f65.body).getD .skip
def jV : xm := spF (α := zf × z6 × zk) (ρ := Bool) 65 (fun x => [kg x.1, z0m x.2.1, z7C x.2.2]) (fun r => eB r) (fun x => jS x.1 x.2.1 x.2.2) [] (z9m)
theorem Ua {ctr : Ctr} (hC : zW Tryz.prog ctr) (h0J : ctr.Has uC) : jV.Ok Tryz.prog := by
 refine y7 ?_
 rintro ⟨a_, x1, x2⟩ r0 hf0
 try unfold jS at hf0
 refine yO true [(4, none)] VA 10 Tryz.func65 fun E hE => ?_
 obtain ⟨r_, h0, hf0⟩ := zl hf0
 obtain rfl := zi hf0
 exact yE X0 hC hE [Hc h0J (x := (x1, x2, a_)) h0 (loC yN x1 <| loC vg x2 <| loC kg a_ <| loN)]
def xl : Code := (Tryz.f91.body).getD .skip
def xi : xm := spF (α := List zf × (z6 × zk)) (ρ := Int) 91 (fun x => [z9f x.1, (z3p 65 z0m z7C) x.2]) (fun r => (eI .i64) r) (fun x => yo x.1 x.2) [] (by
 rintro ⟨a0, a1⟩ ⟨b0, b1⟩ h
 have e0 := vT.inj (f := z9f) _ _ (List.cons.inj h).1
 replace h := (List.cons.inj h).2
 have e1 := vT.inj (f := (z3p 65 z0m z7C)) _ _ (List.cons.inj h).1
 subst e0 e1
 rfl)
abbrev vX : List (Nat × T) := []
abbrev vW (s_ : List zf) (f_ : z6 × zk) (x8 : Int) : List (Nat × T) := [(0, .d (eSl 5 false kg s_)), (1, .d (.fn 65 [.sptr (.agg [I f_.1.Messages, I f_.1.Labels, eSl 1 false (eI .i64) f_.1.Channels, eSl 3 false vg f_.1.Parts]), .sptr (.agg [I f_.2.States, eSl 5 false kg f_.2.Arcs, eSl 1 false (eI .i64) f_.2.Final])])), (7, .d (I ((s_.length : Nat) : Int))), (8, .d (I x8))]
theorem uP {ctr : Ctr} (hC : zW Tryz.prog ctr) (h0K : ctr.Has jV) : xi.Ok Tryz.prog := by
 refine y7 ?_
 rintro ⟨s_, f_⟩ r0 hf0
 try unfold yo at hf0
 refine yO true [(4, none)] xl 19 Tryz.func91 fun E hE => ?_
 refine yJ X0 hC xl [1] [] [] (fun z : Unit => xk = some r0) (fun z => vX) [(0, .d (eSl 5 false kg s_)), (1, .d (.fn 65 [.sptr (.agg [I f_.1.Messages, I f_.1.Labels, eSl 1 false (eI .i64) f_.1.Channels, eSl 3 false vg f_.1.Parts]), .sptr (.agg [I f_.2.States, eSl 5 false kg f_.2.Arcs, eSl 1 false (eI .i64) f_.2.Final])]))] [Hh (.cut 1)] ?_ fun J1 hJ1 => ?_
 ·rintro ⟨⟩ hf0
  unfold xk at hf0
  obtain rfl := zi hf0
  exact yE X0 hC hE []
 ·obtain ⟨t2, ht2, hf0⟩ := zl hf0
  refine yL X0 hC xl [1,2,1,0] [J1] (fun s => zT s_ f_ s) (fun x => vW s_ f_ x) 0 ht2  [Ha (lnM kg s_)] ?_
  rintro x8 m2 lr1 hf1 hl1 J2 hJ2
  try unfold zT at hf1
  rcases zR hf1 with ⟨c0, hf1⟩ | ⟨c0, hf1⟩
  ·obtain ⟨s__e, h0, hf1⟩ := zl hf1
   obtain ⟨r_, h1, hf1⟩ := zl hf1
   let Z0 : List HO := [Hq c0, Hi kg h0, Hc h0K (x := (s__e, f_.1, f_.2)) h1 (loC kg s__e <| loC z0m f_.1 <| loC z7C f_.2 <| loN)]
   rcases zR hf1 with ⟨c1, hf1⟩ | ⟨c1, hf1⟩
   ·obtain rfl := zi hf1
    obtain rfl := hl1
    obtain rfl := zi hf0
    exact yE X0 hC hE (Z0 ++ [Hq c1])
   ·obtain rfl := zi hf1
    exact yB X0 hC hJ2 (w64 (x8 + 1)) hl1 (Z0 ++ [Hq c1])
  ·obtain rfl := zi hf1
   obtain rfl := hl1
   exact yB X0 hC hJ1 () hf0 [Hq c0]
def vU : Code := (Tryz.f64.body).getD .skip
def yI : xm := spF (α := List zf × (z6 × zk)) (ρ := Bool) 64 (fun x => [z9f x.1, (z3p 65 z0m z7C) x.2]) (fun r => eB r) (fun x => zU x.1 x.2) [] (by
 rintro ⟨a0, a1⟩ ⟨b0, b1⟩ h
 have e0 := vT.inj (f := z9f) _ _ (List.cons.inj h).1
 replace h := (List.cons.inj h).2
 have e1 := vT.inj (f := (z3p 65 z0m z7C)) _ _ (List.cons.inj h).1
 subst e0 e1
 rfl)
theorem u4 {ctr : Ctr} (hC : zW Tryz.prog ctr) (h0L : ctr.Has xi) : yI.Ok Tryz.prog := by
 refine y7 ?_
 rintro ⟨s_, f_⟩ r0 hf0
 try unfold zU at hf0
 refine yO true [(4, none)] vU 9 Tryz.func64 fun E hE => ?_
 obtain ⟨r_, h0, hf0⟩ := zl hf0
 obtain rfl := zi hf0
 exact yE X0 hC hE [Hc h0L (x := (s_, (f_.1, f_.2))) h0 (loC z9f s_ <| loC (z3p 65 z0m z7C) (f_.1, f_.2) <| loN)]
def kY : Code := (Tryz.f28.body).getD .skip
def wR : xm := spF (α := z6) (ρ := Int) 28 (fun x => [yN x]) (fun r => (eI .i64) r) (fun x => wa x) [] (Qb)
abbrev Ve : List (Nat × T) := []
abbrev Vd (x_ : z6) (x29 : Int) : List (Nat × T) := [(1, .d (.sptr (yN x_))), (27, .d (eSl 3 false vg x_.Parts)), (28, .d (I ((x_.Parts.length : Nat) : Int))), (29, .d (I x29))]
theorem QB {ctr : Ctr} (hC : zW Tryz.prog ctr) (h0M : ctr.Has kP) (h0c : ctr.Has vG) (h0q : ctr.Has qR) (h0N : ctr.Has yI) : wR.Ok Tryz.prog := by
 refine y7 ?_
 rintro x_ r0 hf0
 try unfold wa at hf0
 refine yO true [(2, none)] kY 51 Tryz.func28 fun E hE => ?_
 obtain ⟨r_, h0, hf0⟩ := zl hf0
 let Z0 : List HO := [Hc h0M (x := x_) h0 (loC yN x_ <| loN)]
 rcases zR hf0 with ⟨c0, hf0⟩ | ⟨c0, hf0⟩
 ·obtain rfl := zi hf0
  exact yE X0 hC hE (Z0 ++ [Hq c0])
 ·rcases zR hf0 with ⟨c1, hf0⟩ | ⟨c1, hf0⟩
  ·obtain rfl := zi hf0
   exact yE X0 hC hE (Z0 ++ (Hq c0 :: (rpN 4 (Hq c1) (rpN 10 qT []))))
  ·let Z1 : List HO := (Z0 ++ (Hq c0 :: (rpN 4 (Hq c1) [])))
   rcases zR hf0 with ⟨c2, hf0⟩ | ⟨c2, hf0⟩
   ·obtain rfl := zi hf0
    exact yE X0 hC hE (Z1 ++ (rpN 5 (Hq c2) (rpN 5 qT [])))
   ·let Z2 : List HO := (Z1 ++ [Hq c2, Hq c2, Hq c2, Ha (lnM vg x_.Parts), Hq c2, Hq c2])
    rcases zR hf0 with ⟨c3, hf0⟩ | ⟨c3, hf0⟩
    ·obtain rfl := zi hf0
     exact yE X0 hC hE (Z2 ++ (rpN 4 (Hq c3) [qT]))
    ·obtain ⟨r_1, h1, hf0⟩ := zl hf0
     let Z3 : List HO := (Z2 ++ [Hq c3, Hq c3, Hq c3, Hc (Ctr.add_has Qe vj) (x := (x_.Channels, ())) h1 (loC F2_ x_.Channels <| loC (JW 63) () <| loN), Hq c3])
     rcases zR hf0 with ⟨c4, hf0⟩ | ⟨c4, hf0⟩
     ·obtain rfl := zi hf0
      exact yE ((JM zS (vA hC h0c) 24).or X0) hC hE (Z3 ++ [Hq c4])
     ·refine yJ ((JM zS (vA hC h0c) 24).or X0) hC kY [1,1,1] [] [] (fun z : Unit => kO = some r0) (fun z => Ve) [(1, .own (.box (yN x_)))] (Z3 ++ [Hq c4, Hh (.cut 0)]) ?_ fun J1 hJ1 => ?_
      ·rintro ⟨⟩ hf0
       unfold kO at hf0
       obtain rfl := zi hf0
       exact yE X0 hC hE []
      ·obtain ⟨t2, ht2, hf0⟩ := zl hf0
       refine yL X0 hC kY [1,1,1,2,1,0] [J1] (fun s => wh x_ s) (fun x => Vd x_ x) 0 ht2  [Ha (lnM vg x_.Parts), Hh (.n 1 [1])] ?_
       rintro x29 m2 lr1 hf1 hl1 J2 hJ2
       try unfold wh at hf1
       rcases zR hf1 with ⟨c5, hf1⟩ | ⟨c5, hf1⟩
       ·obtain ⟨Part_e, h2, hf1⟩ := zl hf1
        let Z4 : List HO := [Hq c5, Hi vg h2]
        rcases zR hf1 with ⟨c6, hf1⟩ | ⟨c6, hf1⟩
        ·obtain rfl := zi hf1
         obtain rfl := hl1
         obtain rfl := zi hf0
         exact yE X0 hC hE (Z4 ++ (rpN 7 (Hq c6) (rpN 6 qT [])))
        ·obtain ⟨r_2, h3, hf1⟩ := zl hf1
         let Z5 : List HO := (Z4 ++ (rpN 5 (Hq c6) [Hc h0q (x := (Part_e.Final, Part_e.States)) h3 (loC F2_ Part_e.Final <| loC (eI .i64) Part_e.States <| loN), Hq c6, Hq c6]))
         rcases zR hf1 with ⟨c7, hf1⟩ | ⟨c7, hf1⟩
         ·obtain rfl := zi hf1
          obtain rfl := hl1
          obtain rfl := zi hf0
          exact yE X0 hC hE (Z5 ++ (rpN 5 (Hq c7) [qT]))
         ·obtain ⟨r_3, h4, hf1⟩ := zl hf1
          let Z6 : List HO := (Z5 ++ (rpN 4 (Hq c7) [Hc h0N (x := (Part_e.Arcs, (x_, Part_e))) h4 (loC z9f Part_e.Arcs <| loC (z3p 65 z0m z7C) (x_, Part_e) <| loN), Hq c7]))
          rcases zR hf1 with ⟨c8, hf1⟩ | ⟨c8, hf1⟩
          ·obtain rfl := zi hf1
           obtain rfl := hl1
           obtain rfl := zi hf0
           exact yE X0 hC hE (Z6 ++ [Hq c8])
          ·obtain rfl := zi hf1
           exact yB X0 hC hJ2 (w64 (x29 + 1)) hl1 (Z6 ++ [Hq c8])
       ·obtain rfl := zi hf1
        obtain rfl := hl1
        exact yB X0 hC hJ1 () hf0 [Hq c5]
def Xk : Code := (Tryz.f57.body).getD .skip
def wb : xm := spF (α := z6 × za) (ρ := z6 × za) 57 (fun x => [yN x.1, x7 x.2]) (fun r => (z3p 82 z0m (eSp x7)) r) (fun x => xr x.1 x.2) [] (VV)
theorem Xw {ctr : Ctr} (hC : zW Tryz.prog ctr) : wb.Ok Tryz.prog := by
 refine y7 ?_
 rintro ⟨x_, s_⟩ r0 hf0
 try unfold xr at hf0
 refine yO true [(4, none)] Xk 6 Tryz.func57 fun E hE => ?_
 obtain rfl := zi hf0
 exact yEx X0 hC hE [] (.fn 82 [.sptr (.agg [I x_.Messages, I x_.Labels, eSl 1 false (eI .i64) x_.Channels, eSl 3 false vg x_.Parts]), .sptr (.agg [.agg [I s_.states_.e0, I s_.states_.e1, I s_.states_.e2, I s_.states_.e3], .agg [.agg [I s_.queues_.e0.many_, .agg [I s_.queues_.e0.l_.e0, I s_.queues_.e0.l_.e1, I s_.queues_.e0.l_.e2, I s_.queues_.e0.l_.e3]], .agg [I s_.queues_.e1.many_, .agg [I s_.queues_.e1.l_.e0, I s_.queues_.e1.l_.e1, I s_.queues_.e1.l_.e2, I s_.queues_.e1.l_.e3]], .agg [I s_.queues_.e2.many_, .agg [I s_.queues_.e2.l_.e0, I s_.queues_.e2.l_.e1, I s_.queues_.e2.l_.e2, I s_.queues_.e2.l_.e3]], .agg [I s_.queues_.e3.many_, .agg [I s_.queues_.e3.l_.e0, I s_.queues_.e3.l_.e1, I s_.queues_.e3.l_.e2, I s_.queues_.e3.l_.e3]]]])]) (show LeV (.fn 82 [.sptr (.agg [I x_.Messages, I x_.Labels, eSl 1 false (eI .i64) x_.Channels, eSl 3 false vg x_.Parts]), .sptr (.agg [.agg [I s_.states_.e0, I s_.states_.e1, I s_.states_.e2, I s_.states_.e3], .agg [.agg [I s_.queues_.e0.many_, .agg [I s_.queues_.e0.l_.e0, I s_.queues_.e0.l_.e1, I s_.queues_.e0.l_.e2, I s_.queues_.e0.l_.e3]], .agg [I s_.queues_.e1.many_, .agg [I s_.queues_.e1.l_.e0, I s_.queues_.e1.l_.e1, I s_.queues_.e1.l_.e2, I s_.queues_.e1.l_.e3]], .agg [I s_.queues_.e2.many_, .agg [I s_.queues_.e2.l_.e0, I s_.queues_.e2.l_.e1, I s_.queues_.e2.l_.e2, I s_.queues_.e2.l_.e3]], .agg [I s_.queues_.e3.many_, .agg [I s_.queues_.e3.l_.e0, I s_.queues_.e3.l_.e1, I s_.queues_.e3.l_.e2, I s_.queues_.e3.l_.e3]]]])]) (.fn 82 [.sptr (.agg [I (((x_, s_).1).Messages), I (((x_, s_).1).Labels), eSl 1 false (eI .i64) (((x_, s_).1).Channels), eSl 3 false vg (((x_, s_).1).Parts)]), .sptr (.agg [.agg [I ((((x_, s_).2).states_).e0), I ((((x_, s_).2).states_).e1), I ((((x_, s_).2).states_).e2), I ((((x_, s_).2).states_).e3)], .agg [.agg [I (((((x_, s_).2).queues_).e0).many_), .agg [I ((((((x_, s_).2).queues_).e0).l_).e0), I ((((((x_, s_).2).queues_).e0).l_).e1), I ((((((x_, s_).2).queues_).e0).l_).e2), I ((((((x_, s_).2).queues_).e0).l_).e3)]], .agg [I (((((x_, s_).2).queues_).e1).many_), .agg [I ((((((x_, s_).2).queues_).e1).l_).e0), I ((((((x_, s_).2).queues_).e1).l_).e1), I ((((((x_, s_).2).queues_).e1).l_).e2), I ((((((x_, s_).2).queues_).e1).l_).e3)]], .agg [I (((((x_, s_).2).queues_).e2).many_), .agg [I ((((((x_, s_).2).queues_).e2).l_).e0), I ((((((x_, s_).2).queues_).e2).l_).e1), I ((((((x_, s_).2).queues_).e2).l_).e2), I ((((((x_, s_).2).queues_).e2).l_).e3)]], .agg [I (((((x_, s_).2).queues_).e3).many_), .agg [I ((((((x_, s_).2).queues_).e3).l_).e0), I ((((((x_, s_).2).queues_).e3).l_).e1), I ((((((x_, s_).2).queues_).e3).l_).e2), I ((((((x_, s_).2).queues_).e3).l_).e3)]]]])]) from inferInstance)
def XA : Code := (Tryz.f83.body).getD .skip
def xL : xm := spF (α := z6 × za × Int) (ρ := z6 × Int × za) 83 (fun x => [yN x.1, x7 x.2.1, (eI .i64) x.2.2]) (fun r => (zfo 103 z0m (eSp (eI .i64)) (eSp x7)) r) (fun x => ws x.1 x.2.1 x.2.2) [] (z9m)
theorem XN {ctr : Ctr} (hC : zW Tryz.prog ctr) : xL.Ok Tryz.prog := by
 refine y7 ?_
 rintro ⟨x_, s_, part⟩ r0 hf0
 try unfold ws at hf0
 refine yO true [(6, none)] XA 8 Tryz.func83 fun E hE => ?_
 obtain rfl := zi hf0
 exact yEx X0 hC hE [] (.fn 103 [.sptr (.agg [I x_.Messages, I x_.Labels, eSl 1 false (eI .i64) x_.Channels, eSl 3 false vg x_.Parts]), .sptr (I part), .sptr (.agg [.agg [I s_.states_.e0, I s_.states_.e1, I s_.states_.e2, I s_.states_.e3], .agg [.agg [I s_.queues_.e0.many_, .agg [I s_.queues_.e0.l_.e0, I s_.queues_.e0.l_.e1, I s_.queues_.e0.l_.e2, I s_.queues_.e0.l_.e3]], .agg [I s_.queues_.e1.many_, .agg [I s_.queues_.e1.l_.e0, I s_.queues_.e1.l_.e1, I s_.queues_.e1.l_.e2, I s_.queues_.e1.l_.e3]], .agg [I s_.queues_.e2.many_, .agg [I s_.queues_.e2.l_.e0, I s_.queues_.e2.l_.e1, I s_.queues_.e2.l_.e2, I s_.queues_.e2.l_.e3]], .agg [I s_.queues_.e3.many_, .agg [I s_.queues_.e3.l_.e0, I s_.queues_.e3.l_.e1, I s_.queues_.e3.l_.e2, I s_.queues_.e3.l_.e3]]]])]) (show LeV (.fn 103 [.sptr (.agg [I x_.Messages, I x_.Labels, eSl 1 false (eI .i64) x_.Channels, eSl 3 false vg x_.Parts]), .sptr (I part), .sptr (.agg [.agg [I s_.states_.e0, I s_.states_.e1, I s_.states_.e2, I s_.states_.e3], .agg [.agg [I s_.queues_.e0.many_, .agg [I s_.queues_.e0.l_.e0, I s_.queues_.e0.l_.e1, I s_.queues_.e0.l_.e2, I s_.queues_.e0.l_.e3]], .agg [I s_.queues_.e1.many_, .agg [I s_.queues_.e1.l_.e0, I s_.queues_.e1.l_.e1, I s_.queues_.e1.l_.e2, I s_.queues_.e1.l_.e3]], .agg [I s_.queues_.e2.many_, .agg [I s_.queues_.e2.l_.e0, I s_.queues_.e2.l_.e1, I s_.queues_.e2.l_.e2, I s_.queues_.e2.l_.e3]], .agg [I s_.queues_.e3.many_, .agg [I s_.queues_.e3.l_.e0, I s_.queues_.e3.l_.e1, I s_.queues_.e3.l_.e2, I s_.queues_.e3.l_.e3]]]])]) (.fn 103 [.sptr (.agg [I (((x_, part, s_).1).Messages), I (((x_, part, s_).1).Labels), eSl 1 false (eI .i64) (((x_, part, s_).1).Channels), eSl 3 false vg (((x_, part, s_).1).Parts)]), .sptr (I ((x_, part, s_).2.1)), .sptr (.agg [.agg [I ((((x_, part, s_).2.2).states_).e0), I ((((x_, part, s_).2.2).states_).e1), I ((((x_, part, s_).2.2).states_).e2), I ((((x_, part, s_).2.2).states_).e3)], .agg [.agg [I (((((x_, part, s_).2.2).queues_).e0).many_), .agg [I ((((((x_, part, s_).2.2).queues_).e0).l_).e0), I ((((((x_, part, s_).2.2).queues_).e0).l_).e1), I ((((((x_, part, s_).2.2).queues_).e0).l_).e2), I ((((((x_, part, s_).2.2).queues_).e0).l_).e3)]], .agg [I (((((x_, part, s_).2.2).queues_).e1).many_), .agg [I ((((((x_, part, s_).2.2).queues_).e1).l_).e0), I ((((((x_, part, s_).2.2).queues_).e1).l_).e1), I ((((((x_, part, s_).2.2).queues_).e1).l_).e2), I ((((((x_, part, s_).2.2).queues_).e1).l_).e3)]], .agg [I (((((x_, part, s_).2.2).queues_).e2).many_), .agg [I ((((((x_, part, s_).2.2).queues_).e2).l_).e0), I ((((((x_, part, s_).2.2).queues_).e2).l_).e1), I ((((((x_, part, s_).2.2).queues_).e2).l_).e2), I ((((((x_, part, s_).2.2).queues_).e2).l_).e3)]], .agg [I (((((x_, part, s_).2.2).queues_).e3).many_), .agg [I ((((((x_, part, s_).2.2).queues_).e3).l_).e0), I ((((((x_, part, s_).2.2).queues_).e3).l_).e1), I ((((((x_, part, s_).2.2).queues_).e3).l_).e2), I ((((((x_, part, s_).2.2).queues_).e3).l_).e3)]]]])]) from inferInstance)
def ul : Code := (Tryz.f103.body).getD .skip
abbrev ZO {σ : Type} (x1 : Int) (x2 : za) (YY : σ → z0l) (Part_e : zk) (x14 : Int) (sg2 : σ) : List (Nat × T) := [(0, .own (.opq (YY sg2).q)), (2, .d (.sptr (I x1))), (3, .d (.sptr (x7 x2))), (12, .d (eSl 5 false kg Part_e.Arcs)), (13, .d (I ((Part_e.Arcs.length : Nat) : Int))), (14, .d (I x14))]
abbrev ZN {σ : Type} (x1 : Int) (x2 : za) (YY : σ → z0l) (Part_e : zk) (sg1 : σ) (x14 : Int) : List (Nat × T) := [(0, .own (.opq (YY sg1).q)), (2, .d (.sptr (I x1))), (3, .d (.sptr (x7 x2))), (12, .d (eSl 5 false kg Part_e.Arcs)), (13, .d (I ((Part_e.Arcs.length : Nat) : Int))), (14, .d (I x14))]
theorem jO {ctr : Ctr} (hC : zW Tryz.prog ctr) (x0 : z6) (x1 : Int) (x2 : za) : z5e Tryz.prog (.fn 103 [.sptr (.agg [I x0.Messages, I x0.Labels, eSl 1 false (eI .i64) x0.Channels, eSl 3 false vg x0.Parts]), .sptr (I x1), .sptr (.agg [.agg [I x2.states_.e0, I x2.states_.e1, I x2.states_.e2, I x2.states_.e3], .agg [.agg [I x2.queues_.e0.many_, .agg [I x2.queues_.e0.l_.e0, I x2.queues_.e0.l_.e1, I x2.queues_.e0.l_.e2, I x2.queues_.e0.l_.e3]], .agg [I x2.queues_.e1.many_, .agg [I x2.queues_.e1.l_.e0, I x2.queues_.e1.l_.e1, I x2.queues_.e1.l_.e2, I x2.queues_.e1.l_.e3]], .agg [I x2.queues_.e2.many_, .agg [I x2.queues_.e2.l_.e0, I x2.queues_.e2.l_.e1, I x2.queues_.e2.l_.e2, I x2.queues_.e2.l_.e3]], .agg [I x2.queues_.e3.many_, .agg [I x2.queues_.e3.l_.e0, I x2.queues_.e3.l_.e1, I x2.queues_.e3.l_.e2, I x2.queues_.e3.l_.e3]]]])]) (fun (x : Int × zf) (_ : Bool) (_ : Value) => [(eI .i64) x.1, kg x.2]) (@yq x0 x1 x2) := by
 refine z4t (tt := wB) (nt := 34) (body := ul) zS Tryz.func103 rfl (by kernel_rfl) rfl rfl (by show (4 : Nat) ≤ 34; decide) ?_
 intro σ yv YY yy hy sg r0 hf0 E hE
 unfold yq at hf0
 obtain ⟨Part_e, h0, hf0⟩ := zl hf0
 obtain ⟨t1, ht1, hf0⟩ := zl hf0
 refine yL X0 hC ul [1,0] [] (fun s => xT x1 x2 yy Part_e s.1 s.2) (fun x => ZN x1 x2 YY Part_e x.1 x.2) (sg, 0) ht1  [Hi vg h0, Ha (lnM kg Part_e.Arcs)] ?_
 rintro ⟨sg1, x14⟩ m1 lr1 hf1 hl1 J1 hJ1
 try unfold xT at hf1
 rcases zR hf1 with ⟨c0, hf1⟩ | ⟨c0, hf1⟩
 ·refine yJ X0 hC ul [1,0,0,1,1] [J1] [0,2,3,12,13,14] (fun z : σ => wK x14 z = some lr1) (fun z => ZO x1 x2 YY Part_e x14 z) [(0, .own (.opq (YY sg1).q)), (2, .d (.sptr (I x1))), (3, .d (.sptr (x7 x2))), (12, .d (eSl 5 false kg Part_e.Arcs)), (13, .d (I ((Part_e.Arcs.length : Nat) : Int))), (14, .d (I x14))] [Hq c0, Hh (.cut 0)] ?_ fun J2 hJ2 => ?_
  ·rintro sg2 hf1
   unfold wK at hf1
   obtain rfl := zi hf1
   exact yB X0 hC hJ1 (sg2, w64 (x14 + 1)) hl1 []
  ·obtain ⟨Arc_e, h1, hf1⟩ := zl hf1
   obtain ⟨cell, h2, hf1⟩ := zl hf1
   let Z0 : List HO := [Hi kg h1, Hs (iM (eI .i64) h2), Hn (arJ (by kernel_rfl) (i0 h2) : ZX wB 110 ((zF.toL x2.states_).map (eI .i64)) x1 = true)]
   rcases zR hf1 with ⟨c1, hf1⟩ | ⟨c1, hf1⟩
   ·obtain ⟨yr, h3, hf1⟩ := zl hf1
    let Z1 : List HO := (Z0 ++ (rpN 4 (Hq c1) [Hn (z1E (yv := yv) (Y := YY) (enc := (fun (x : Int × zf) (_ : Bool) (_ : Value) => [(eI .i64) x.1, kg x.2])) (s := sg1) (x := (x14, Arc_e)) (s' := yr.1) (b := yr.2) (v := .nilFunc) [(eI .i64) x14, kg Arc_e] (show z0h [(eI .i64) x14, kg Arc_e] [(eI .i64) x14, kg Arc_e] from inferInstance)), Hq c1, Hq c1]))
    rcases zR hf1 with ⟨c2, hf1⟩ | ⟨c2, hf1⟩
    ·obtain rfl := zi hf1
     obtain rfl := hl1
     obtain rfl := zi hf0
     exact yF ((K3 (P := Tryz.prog) wB hy 30 (s := sg1) (x := (x14, Arc_e)) (s' := yr.1) (b := yr.2) .nilFunc h3).or X0) hC .ret [(0, .own (.opq (YY yr.1).q))] (Z1 ++ [Hq c2]) fun st0 h0 => hE _ st0 (.inr rfl) h0
    ·exact yB ((K3 (P := Tryz.prog) wB hy 30 (s := sg1) (x := (x14, Arc_e)) (s' := yr.1) (b := yr.2) .nilFunc h3).or X0) hC hJ2 yr.1 hf1 (Z1 ++ [Hq c2])
   ·exact yB X0 hC hJ2 sg1 hf1 (Z0 ++ (rpN 6 (Hq c1) [qF]))
 ·obtain rfl := zi hf1
  obtain rfl := hl1
  obtain rfl := zi hf0
  exact yF X0 hC .normal [(0, .own (.opq (YY sg1).q))] [Hq c0] fun st0 h0 => hE _ st0 (.inl rfl) h0
def Wx : Code := (Tryz.f86.body).getD .skip
def u0 : xm := spF (α := zg × Int) (ρ := zg) 86 (fun x => [F7_ x.1, (eI .i64) x.2]) (fun r => F7_ r) (fun x => u9 x.1 x.2) [] (VV)
theorem WJ {ctr : Ctr} (hC : zW Tryz.prog ctr) : u0.Ok Tryz.prog := by
 refine y7 ?_
 rintro ⟨q_, m_⟩ r0 hf0
 try unfold u9 at hf0
 refine yO false [(4, some 112)] Wx 15 Tryz.func86 fun E hE => ?_
 obtain ⟨cell, h0, hf0⟩ := zl hf0
 obtain ⟨arr, h1, hf0⟩ := zl hf0
 replace h1 := zi h1
 obtain rfl := zi hf0
 exact yE X0 hC hE [Hn (⟨arJ (by kernel_rfl) (i0 h0), (iL (eI .i64) h0).2⟩ : ZX wB 110 ((zF.toL q_.l_).map (eI .i64)) q_.many_ = true ∧ q_.many_.toNat < ((zF.toL q_.l_).map (eI .i64)).length), Hh (.op 7), Hh (.f), Hx (.a (.agg [I q_.l_.e0, I q_.l_.e1, I q_.l_.e2, I q_.l_.e3])) (rfl : some (.agg [I q_.l_.e0, I q_.l_.e1, I q_.l_.e2, I q_.l_.e3] : A) = some (.agg [I q_.l_.e0, I q_.l_.e1, I q_.l_.e2, I q_.l_.e3])), Hh (.f), Hs (iM (eI .i64) h0), Hh (.f), Hx (.a (.agg [I q_.l_.e0, I q_.l_.e1, I q_.l_.e2, I q_.l_.e3])) (rfl : some (.agg [I q_.l_.e0, I q_.l_.e1, I q_.l_.e2, I q_.l_.e3] : A) = some (.agg [I q_.l_.e0, I q_.l_.e1, I q_.l_.e2, I q_.l_.e3])), Hh (.f), Hs (iM (eI .i64) h0), Hx (.l ((zF.toL arr).map (eI .i64))) ((zF.setL (eI .i64) q_.l_ q_.many_ m_).trans (congrArg (fun q => (zF.toL q).map (eI .i64)) h1)), Hx (.l [I q_.many_, .agg [I arr.e0, I arr.e1, I arr.e2, I arr.e3]]) (rfl : ([I q_.many_, .agg [I arr.e0, I arr.e1, I arr.e2, I arr.e3]] : List A) = [I q_.many_, .agg [I arr.e0, I arr.e1, I arr.e2, I arr.e3]])]
def kI : Code := (Tryz.f104.body).getD .skip
def qE : xm := spF (α := zg) (ρ := zg) 104 (fun x => [F7_ x]) (fun r => F7_ r) (fun x => qg x) [] (Qb)
theorem Ws {ctr : Ctr} (hC : zW Tryz.prog ctr) : qE.Ok Tryz.prog := by
 refine y7 ?_
 rintro q_ r0 hf0
 try unfold qg at hf0
 refine yO false [(2, some 112)] kI 15 Tryz.func104 fun E hE => ?_
 refine yA X0 hC kI [1] [] [(1, .own (.box (F7_ q_))), (2, .own (.box (.agg [I 0, .agg [I 0, I 0, I 0, I 0]])))] [Hh (.cut 1)] ?_
 refine z2d (y := .box (.agg [I q_.many_, .agg [I q_.l_.e0, I q_.l_.e1, I q_.l_.e2, I q_.l_.e3]])) (by kernel_rfl) 1 (by kernel_rfl) (by kernel_rfl) fun pv1 hv1 => ?_
 obtain ⟨arr, h0, hf0⟩ := zl hf0
 replace h0 := zi h0
 obtain rfl := zi hf0
 exact yE ((xCp zS 7 1 1 0 pv1 (some 1)).or ((xAv zS 6 1 1 1 pv1).or ((xAv zS 4 1 1 0 pv1).or X0))) hC hE [Hn (⟨rfl, rfl⟩ : T.ptr 1 [.deref, .fld 1] 0 0 = T.ptr 1 [.deref, .fld 1] 0 0 ∧ some pv1 = some pv1), Hn (⟨rfl, rfl⟩ : T.ptr 1 [.deref, .fld 1] 0 0 = T.ptr 1 [.deref, .fld 1] 0 0 ∧ some pv1 = some pv1), Hn (⟨rfl, by decide⟩ : T.d (.atom (z0c pv1 1 1 4)) = T.d (.atom (z0c pv1 1 1 4)) ∧ 1 ≤ 4), Hn (⟨rfl, rfl⟩ : T.d (.atom (z0c pv1 1 0 4)) = T.d (.atom (z0c pv1 1 0 4)) ∧ some pv1 = some pv1), Hn (dM (eI .i64) ((zF.toL q_.l_).drop 1)), Hx (.l ((zF.toL arr).map (eI .i64))) ((z4O (eI .i64) (zF.toL q_.l_) 0 ((zF.toL q_.l_).drop 1)).trans (congrArg (fun q => q.map (eI .i64)) ((zF.toL_ofL (cpA (zF.toL q_.l_) 0 ((zF.toL q_.l_).drop 1)) q_.l_ (z4P (zF.toL q_.l_) 0 ((zF.toL q_.l_).drop 1) (by show (0 : Nat) ≤ 4; decide))).symm.trans (congrArg zF.toL h0)))), Hn (⟨rfl, by decide⟩ : true = true ∧ 3 < 4)]
def qd : Code := (Tryz.f84.body).getD .skip
def xK : xm := spF (α := z6 × za × Int × zf) (ρ := za × Bool) 84 (fun x => [yN x.1, x7 x.2.1, (eI .i64) x.2.2.1, kg x.2.2.2]) (fun r => .tup [x7 r.1, (eEr 0 201) r.2]) (fun x => xR x.1 x.2.1 x.2.2.1 x.2.2.2) [] (zeh)
abbrev Yx (arr : zF Int) (s_queues : zF zg) : List (Nat × T) := [(5, .own (.box (.agg [F0_ arr, F8_ s_queues]))), (8, .own (.box (.agg [.agg [I 0, I 0, I 0, I 0], .agg [.agg [I 0, .agg [I 0, I 0, I 0, I 0]], .agg [I 0, .agg [I 0, I 0, I 0, I 0]], .agg [I 0, .agg [I 0, I 0, I 0, I 0]], .agg [I 0, .agg [I 0, I 0, I 0, I 0]]]])))]
abbrev Yw (s_ : za) (a_ : zf) (arr : zF Int) (cell1 : zg) (x33 : Bool) : List (Nat × T) := [(5, .own (.box (.agg [F0_ arr, F8_ s_.queues_]))), (7, .own (.box (kg a_))), (8, .own (.box (.agg [.agg [I 0, I 0, I 0, I 0], .agg [.agg [I 0, .agg [I 0, I 0, I 0, I 0]], .agg [I 0, .agg [I 0, I 0, I 0, I 0]], .agg [I 0, .agg [I 0, I 0, I 0, I 0]], .agg [I 0, .agg [I 0, I 0, I 0, I 0]]]]))), (10, .own (.box (F7_ cell1))), (33, .d (B x33))]
theorem XM {ctr : Ctr} (hC : zW Tryz.prog ctr) (h0r : ctr.Has u0) (h0O : ctr.Has qE) : xK.Ok Tryz.prog := by
 refine y7 ?_
 rintro ⟨x_, s_, part, a_⟩ r0 hf0
 try unfold xR at hf0
 refine yO false [(8, some 115), (9, none)] qd 86 Tryz.func84 fun E hE => ?_
 obtain ⟨cell, h0, hf0⟩ := zl hf0
 obtain ⟨arr, h1, hf0⟩ := zl hf0
 replace h1 := zi h1
 obtain ⟨cell1, h2, hf0⟩ := zl hf0
 refine yJ ((xNe Tryz.prog 9 0 201).or X0) hC qd [1,1,1] [] [5,8] (fun z : zF zg => ve arr z = some r0) (fun z => Yx arr z) [(4, .own (.box (yN x_))), (5, .own (.box (.agg [F0_ arr, F8_ s_.queues_]))), (7, .own (.box (kg a_))), (8, .own (.box (.agg [.agg [I 0, I 0, I 0, I 0], .agg [.agg [I 0, .agg [I 0, I 0, I 0, I 0]], .agg [I 0, .agg [I 0, I 0, I 0, I 0]], .agg [I 0, .agg [I 0, I 0, I 0, I 0]], .agg [I 0, .agg [I 0, I 0, I 0, I 0]]]]))), (10, .own (.box (F7_ cell1)))] [Hn (⟨arJ (by kernel_rfl) (i0 h0), (iL (eI .i64) h0).2⟩ : ZX wB 110 ((zF.toL s_.states_).map (eI .i64)) part = true ∧ part.toNat < ((zF.toL s_.states_).map (eI .i64)).length), Hh (.op 10), Hh (.f), Hx (.a (.agg [I s_.states_.e0, I s_.states_.e1, I s_.states_.e2, I s_.states_.e3])) (rfl : some (.agg [I s_.states_.e0, I s_.states_.e1, I s_.states_.e2, I s_.states_.e3] : A) = some (.agg [I s_.states_.e0, I s_.states_.e1, I s_.states_.e2, I s_.states_.e3])), Hh (.f), Hs (iM (eI .i64) h0), Hh (.f), Hx (.a (.agg [I s_.states_.e0, I s_.states_.e1, I s_.states_.e2, I s_.states_.e3])) (rfl : some (.agg [I s_.states_.e0, I s_.states_.e1, I s_.states_.e2, I s_.states_.e3] : A) = some (.agg [I s_.states_.e0, I s_.states_.e1, I s_.states_.e2, I s_.states_.e3])), Hh (.f), Hs (iM (eI .i64) h0), Hx (.l ((zF.toL arr).map (eI .i64))) ((zF.setL (eI .i64) s_.states_ part a_.To).trans (congrArg (fun q => (zF.toL q).map (eI .i64)) h1)), Hx (.l [.agg [I arr.e0, I arr.e1, I arr.e2, I arr.e3], .agg [.agg [I s_.queues_.e0.many_, .agg [I s_.queues_.e0.l_.e0, I s_.queues_.e0.l_.e1, I s_.queues_.e0.l_.e2, I s_.queues_.e0.l_.e3]], .agg [I s_.queues_.e1.many_, .agg [I s_.queues_.e1.l_.e0, I s_.queues_.e1.l_.e1, I s_.queues_.e1.l_.e2, I s_.queues_.e1.l_.e3]], .agg [I s_.queues_.e2.many_, .agg [I s_.queues_.e2.l_.e0, I s_.queues_.e2.l_.e1, I s_.queues_.e2.l_.e2, I s_.queues_.e2.l_.e3]], .agg [I s_.queues_.e3.many_, .agg [I s_.queues_.e3.l_.e0, I s_.queues_.e3.l_.e1, I s_.queues_.e3.l_.e2, I s_.queues_.e3.l_.e3]]]]) (rfl : ([.agg [I arr.e0, I arr.e1, I arr.e2, I arr.e3], .agg [.agg [I s_.queues_.e0.many_, .agg [I s_.queues_.e0.l_.e0, I s_.queues_.e0.l_.e1, I s_.queues_.e0.l_.e2, I s_.queues_.e0.l_.e3]], .agg [I s_.queues_.e1.many_, .agg [I s_.queues_.e1.l_.e0, I s_.queues_.e1.l_.e1, I s_.queues_.e1.l_.e2, I s_.queues_.e1.l_.e3]], .agg [I s_.queues_.e2.many_, .agg [I s_.queues_.e2.l_.e0, I s_.queues_.e2.l_.e1, I s_.queues_.e2.l_.e2, I s_.queues_.e2.l_.e3]], .agg [I s_.queues_.e3.many_, .agg [I s_.queues_.e3.l_.e0, I s_.queues_.e3.l_.e1, I s_.queues_.e3.l_.e2, I s_.queues_.e3.l_.e3]]]] : List A) = [.agg [I arr.e0, I arr.e1, I arr.e2, I arr.e3], .agg [.agg [I s_.queues_.e0.many_, .agg [I s_.queues_.e0.l_.e0, I s_.queues_.e0.l_.e1, I s_.queues_.e0.l_.e2, I s_.queues_.e0.l_.e3]], .agg [I s_.queues_.e1.many_, .agg [I s_.queues_.e1.l_.e0, I s_.queues_.e1.l_.e1, I s_.queues_.e1.l_.e2, I s_.queues_.e1.l_.e3]], .agg [I s_.queues_.e2.many_, .agg [I s_.queues_.e2.l_.e0, I s_.queues_.e2.l_.e1, I s_.queues_.e2.l_.e2, I s_.queues_.e2.l_.e3]], .agg [I s_.queues_.e3.many_, .agg [I s_.queues_.e3.l_.e0, I s_.queues_.e3.l_.e1, I s_.queues_.e3.l_.e2, I s_.queues_.e3.l_.e3]]]]), Hn (⟨arJ (by kernel_rfl) (i0 h2), (iL F7_ h2).2⟩ : ZX wB 113 ((zF.toL s_.queues_).map F7_) (mn a_.Channel 3) = true ∧ (mn a_.Channel 3).toNat < ((zF.toL s_.queues_).map F7_).length), Hh (.op 5), Hh (.f), Hx (.a (.agg [.agg [I s_.queues_.e0.many_, .agg [I s_.queues_.e0.l_.e0, I s_.queues_.e0.l_.e1, I s_.queues_.e0.l_.e2, I s_.queues_.e0.l_.e3]], .agg [I s_.queues_.e1.many_, .agg [I s_.queues_.e1.l_.e0, I s_.queues_.e1.l_.e1, I s_.queues_.e1.l_.e2, I s_.queues_.e1.l_.e3]], .agg [I s_.queues_.e2.many_, .agg [I s_.queues_.e2.l_.e0, I s_.queues_.e2.l_.e1, I s_.queues_.e2.l_.e2, I s_.queues_.e2.l_.e3]], .agg [I s_.queues_.e3.many_, .agg [I s_.queues_.e3.l_.e0, I s_.queues_.e3.l_.e1, I s_.queues_.e3.l_.e2, I s_.queues_.e3.l_.e3]]])) (rfl : some (.agg [.agg [I s_.queues_.e0.many_, .agg [I s_.queues_.e0.l_.e0, I s_.queues_.e0.l_.e1, I s_.queues_.e0.l_.e2, I s_.queues_.e0.l_.e3]], .agg [I s_.queues_.e1.many_, .agg [I s_.queues_.e1.l_.e0, I s_.queues_.e1.l_.e1, I s_.queues_.e1.l_.e2, I s_.queues_.e1.l_.e3]], .agg [I s_.queues_.e2.many_, .agg [I s_.queues_.e2.l_.e0, I s_.queues_.e2.l_.e1, I s_.queues_.e2.l_.e2, I s_.queues_.e2.l_.e3]], .agg [I s_.queues_.e3.many_, .agg [I s_.queues_.e3.l_.e0, I s_.queues_.e3.l_.e1, I s_.queues_.e3.l_.e2, I s_.queues_.e3.l_.e3]]] : A) = some (.agg [.agg [I s_.queues_.e0.many_, .agg [I s_.queues_.e0.l_.e0, I s_.queues_.e0.l_.e1, I s_.queues_.e0.l_.e2, I s_.queues_.e0.l_.e3]], .agg [I s_.queues_.e1.many_, .agg [I s_.queues_.e1.l_.e0, I s_.queues_.e1.l_.e1, I s_.queues_.e1.l_.e2, I s_.queues_.e1.l_.e3]], .agg [I s_.queues_.e2.many_, .agg [I s_.queues_.e2.l_.e0, I s_.queues_.e2.l_.e1, I s_.queues_.e2.l_.e2, I s_.queues_.e2.l_.e3]], .agg [I s_.queues_.e3.many_, .agg [I s_.queues_.e3.l_.e0, I s_.queues_.e3.l_.e1, I s_.queues_.e3.l_.e2, I s_.queues_.e3.l_.e3]]])), Hh (.f), Hs (iM F7_ h2), Hh (.cut 0)] ?_ fun J1 hJ1 => ?_
 ·rintro s_queues hf0
  unfold ve at hf0
  obtain rfl := zi hf0
  exact yE ((xNe Tryz.prog 9 0 201).or X0) hC hE []
 ·rcases zR hf0 with ⟨c0, hf0⟩ | ⟨c0, hf0⟩
  ·obtain rfl := zi hf0
   exact yE ((xNe Tryz.prog 9 0 201).or X0) hC hE [Hq c0]
  ·refine yJ X0 hC qd [1,1,1,2,0,1,1] [J1] [5,7,8,10,33] (fun z : Bool => zQ s_ a_ arr cell1 z = some r0) (fun z => Yw s_ a_ arr cell1 z) [(4, .own (.box (yN x_))), (5, .own (.box (.agg [F0_ arr, F8_ s_.queues_]))), (7, .own (.box (kg a_))), (8, .own (.box (.agg [.agg [I 0, I 0, I 0, I 0], .agg [.agg [I 0, .agg [I 0, I 0, I 0, I 0]], .agg [I 0, .agg [I 0, I 0, I 0, I 0]], .agg [I 0, .agg [I 0, I 0, I 0, I 0]], .agg [I 0, .agg [I 0, I 0, I 0, I 0]]]]))), (10, .own (.box (F7_ cell1)))] [Hq c0, Hh (.cut 0)] ?_ fun J2 hJ2 => ?_
   ·rintro x33 hf0
    unfold zQ at hf0
    rcases zR hf0 with ⟨c1, hf0⟩ | ⟨c1, hf0⟩
    ·obtain rfl := zi hf0
     exact yE X0 hC hE [Hq c1]
    ·rcases zR hf0 with ⟨c2, hf0⟩ | ⟨c2, hf0⟩
     ·obtain ⟨r_, h3, hf0⟩ := zl hf0
      obtain ⟨cell2, h4, hf0⟩ := zl hf0
      obtain ⟨arr1, h5, hf0⟩ := zl hf0
      replace h5 := zi h5
      exact yB X0 hC hJ1 arr1 hf0 [Hq c1, Hq c2, Hc h0r (x := (cell1, a_.Message)) h3 (loC F7_ cell1 <| loC (eI .i64) a_.Message <| loN), Hn (⟨arJ (by kernel_rfl) (i0 h4), (iL F7_ h4).2⟩ : ZX wB 113 ((zF.toL s_.queues_).map F7_) a_.Channel = true ∧ a_.Channel.toNat < ((zF.toL s_.queues_).map F7_).length), Hh (.op 2), Hh (.f), Hx (.a (.agg [.agg [I s_.queues_.e0.many_, .agg [I s_.queues_.e0.l_.e0, I s_.queues_.e0.l_.e1, I s_.queues_.e0.l_.e2, I s_.queues_.e0.l_.e3]], .agg [I s_.queues_.e1.many_, .agg [I s_.queues_.e1.l_.e0, I s_.queues_.e1.l_.e1, I s_.queues_.e1.l_.e2, I s_.queues_.e1.l_.e3]], .agg [I s_.queues_.e2.many_, .agg [I s_.queues_.e2.l_.e0, I s_.queues_.e2.l_.e1, I s_.queues_.e2.l_.e2, I s_.queues_.e2.l_.e3]], .agg [I s_.queues_.e3.many_, .agg [I s_.queues_.e3.l_.e0, I s_.queues_.e3.l_.e1, I s_.queues_.e3.l_.e2, I s_.queues_.e3.l_.e3]]])) (rfl : some (.agg [.agg [I s_.queues_.e0.many_, .agg [I s_.queues_.e0.l_.e0, I s_.queues_.e0.l_.e1, I s_.queues_.e0.l_.e2, I s_.queues_.e0.l_.e3]], .agg [I s_.queues_.e1.many_, .agg [I s_.queues_.e1.l_.e0, I s_.queues_.e1.l_.e1, I s_.queues_.e1.l_.e2, I s_.queues_.e1.l_.e3]], .agg [I s_.queues_.e2.many_, .agg [I s_.queues_.e2.l_.e0, I s_.queues_.e2.l_.e1, I s_.queues_.e2.l_.e2, I s_.queues_.e2.l_.e3]], .agg [I s_.queues_.e3.many_, .agg [I s_.queues_.e3.l_.e0, I s_.queues_.e3.l_.e1, I s_.queues_.e3.l_.e2, I s_.queues_.e3.l_.e3]]] : A) = some (.agg [.agg [I s_.queues_.e0.many_, .agg [I s_.queues_.e0.l_.e0, I s_.queues_.e0.l_.e1, I s_.queues_.e0.l_.e2, I s_.queues_.e0.l_.e3]], .agg [I s_.queues_.e1.many_, .agg [I s_.queues_.e1.l_.e0, I s_.queues_.e1.l_.e1, I s_.queues_.e1.l_.e2, I s_.queues_.e1.l_.e3]], .agg [I s_.queues_.e2.many_, .agg [I s_.queues_.e2.l_.e0, I s_.queues_.e2.l_.e1, I s_.queues_.e2.l_.e2, I s_.queues_.e2.l_.e3]], .agg [I s_.queues_.e3.many_, .agg [I s_.queues_.e3.l_.e0, I s_.queues_.e3.l_.e1, I s_.queues_.e3.l_.e2, I s_.queues_.e3.l_.e3]]])), Hh (.f), Hs (iM F7_ h4), Hh (.f), Hx (.a (.agg [.agg [I s_.queues_.e0.many_, .agg [I s_.queues_.e0.l_.e0, I s_.queues_.e0.l_.e1, I s_.queues_.e0.l_.e2, I s_.queues_.e0.l_.e3]], .agg [I s_.queues_.e1.many_, .agg [I s_.queues_.e1.l_.e0, I s_.queues_.e1.l_.e1, I s_.queues_.e1.l_.e2, I s_.queues_.e1.l_.e3]], .agg [I s_.queues_.e2.many_, .agg [I s_.queues_.e2.l_.e0, I s_.queues_.e2.l_.e1, I s_.queues_.e2.l_.e2, I s_.queues_.e2.l_.e3]], .agg [I s_.queues_.e3.many_, .agg [I s_.queues_.e3.l_.e0, I s_.queues_.e3.l_.e1, I s_.queues_.e3.l_.e2, I s_.queues_.e3.l_.e3]]])) (rfl : some (.agg [.agg [I s_.queues_.e0.many_, .agg [I s_.queues_.e0.l_.e0, I s_.queues_.e0.l_.e1, I s_.queues_.e0.l_.e2, I s_.queues_.e0.l_.e3]], .agg [I s_.queues_.e1.many_, .agg [I s_.queues_.e1.l_.e0, I s_.queues_.e1.l_.e1, I s_.queues_.e1.l_.e2, I s_.queues_.e1.l_.e3]], .agg [I s_.queues_.e2.many_, .agg [I s_.queues_.e2.l_.e0, I s_.queues_.e2.l_.e1, I s_.queues_.e2.l_.e2, I s_.queues_.e2.l_.e3]], .agg [I s_.queues_.e3.many_, .agg [I s_.queues_.e3.l_.e0, I s_.queues_.e3.l_.e1, I s_.queues_.e3.l_.e2, I s_.queues_.e3.l_.e3]]] : A) = some (.agg [.agg [I s_.queues_.e0.many_, .agg [I s_.queues_.e0.l_.e0, I s_.queues_.e0.l_.e1, I s_.queues_.e0.l_.e2, I s_.queues_.e0.l_.e3]], .agg [I s_.queues_.e1.many_, .agg [I s_.queues_.e1.l_.e0, I s_.queues_.e1.l_.e1, I s_.queues_.e1.l_.e2, I s_.queues_.e1.l_.e3]], .agg [I s_.queues_.e2.many_, .agg [I s_.queues_.e2.l_.e0, I s_.queues_.e2.l_.e1, I s_.queues_.e2.l_.e2, I s_.queues_.e2.l_.e3]], .agg [I s_.queues_.e3.many_, .agg [I s_.queues_.e3.l_.e0, I s_.queues_.e3.l_.e1, I s_.queues_.e3.l_.e2, I s_.queues_.e3.l_.e3]]])), Hh (.f), Hs (iM F7_ h4), Hx (.l ((zF.toL arr1).map F7_)) ((zF.setL F7_ s_.queues_ a_.Channel r_).trans (congrArg (fun q => (zF.toL q).map F7_) h5)), Hx (.l [.agg [I arr.e0, I arr.e1, I arr.e2, I arr.e3], .agg [.agg [I arr1.e0.many_, .agg [I arr1.e0.l_.e0, I arr1.e0.l_.e1, I arr1.e0.l_.e2, I arr1.e0.l_.e3]], .agg [I arr1.e1.many_, .agg [I arr1.e1.l_.e0, I arr1.e1.l_.e1, I arr1.e1.l_.e2, I arr1.e1.l_.e3]], .agg [I arr1.e2.many_, .agg [I arr1.e2.l_.e0, I arr1.e2.l_.e1, I arr1.e2.l_.e2, I arr1.e2.l_.e3]], .agg [I arr1.e3.many_, .agg [I arr1.e3.l_.e0, I arr1.e3.l_.e1, I arr1.e3.l_.e2, I arr1.e3.l_.e3]]]]) (rfl : ([.agg [I arr.e0, I arr.e1, I arr.e2, I arr.e3], .agg [.agg [I arr1.e0.many_, .agg [I arr1.e0.l_.e0, I arr1.e0.l_.e1, I arr1.e0.l_.e2, I arr1.e0.l_.e3]], .agg [I arr1.e1.many_, .agg [I arr1.e1.l_.e0, I arr1.e1.l_.e1, I arr1.e1.l_.e2, I arr1.e1.l_.e3]], .agg [I arr1.e2.many_, .agg [I arr1.e2.l_.e0, I arr1.e2.l_.e1, I arr1.e2.l_.e2, I arr1.e2.l_.e3]], .agg [I arr1.e3.many_, .agg [I arr1.e3.l_.e0, I arr1.e3.l_.e1, I arr1.e3.l_.e2, I arr1.e3.l_.e3]]]] : List A) = [.agg [I arr.e0, I arr.e1, I arr.e2, I arr.e3], .agg [.agg [I arr1.e0.many_, .agg [I arr1.e0.l_.e0, I arr1.e0.l_.e1, I arr1.e0.l_.e2, I arr1.e0.l_.e3]], .agg [I arr1.e1.many_, .agg [I arr1.e1.l_.e0, I arr1.e1.l_.e1, I arr1.e1.l_.e2, I arr1.e1.l_.e3]], .agg [I arr1.e2.many_, .agg [I arr1.e2.l_.e0, I arr1.e2.l_.e1, I arr1.e2.l_.e2, I arr1.e2.l_.e3]], .agg [I arr1.e3.many_, .agg [I arr1.e3.l_.e0, I arr1.e3.l_.e1, I arr1.e3.l_.e2, I arr1.e3.l_.e3]]]])]
     ·obtain ⟨r_1, h6, hf0⟩ := zl hf0
      obtain ⟨cell3, h7, hf0⟩ := zl hf0
      obtain ⟨arr2, h8, hf0⟩ := zl hf0
      replace h8 := zi h8
      exact yB X0 hC hJ1 arr2 hf0 [Hq c1, Hq c2, Hc h0O (x := cell1) h6 (loC F7_ cell1 <| loN), Hn (⟨arJ (by kernel_rfl) (i0 h7), (iL F7_ h7).2⟩ : ZX wB 113 ((zF.toL s_.queues_).map F7_) a_.Channel = true ∧ a_.Channel.toNat < ((zF.toL s_.queues_).map F7_).length), Hh (.op 2), Hh (.f), Hx (.a (.agg [.agg [I s_.queues_.e0.many_, .agg [I s_.queues_.e0.l_.e0, I s_.queues_.e0.l_.e1, I s_.queues_.e0.l_.e2, I s_.queues_.e0.l_.e3]], .agg [I s_.queues_.e1.many_, .agg [I s_.queues_.e1.l_.e0, I s_.queues_.e1.l_.e1, I s_.queues_.e1.l_.e2, I s_.queues_.e1.l_.e3]], .agg [I s_.queues_.e2.many_, .agg [I s_.queues_.e2.l_.e0, I s_.queues_.e2.l_.e1, I s_.queues_.e2.l_.e2, I s_.queues_.e2.l_.e3]], .agg [I s_.queues_.e3.many_, .agg [I s_.queues_.e3.l_.e0, I s_.queues_.e3.l_.e1, I s_.queues_.e3.l_.e2, I s_.queues_.e3.l_.e3]]])) (rfl : some (.agg [.agg [I s_.queues_.e0.many_, .agg [I s_.queues_.e0.l_.e0, I s_.queues_.e0.l_.e1, I s_.queues_.e0.l_.e2, I s_.queues_.e0.l_.e3]], .agg [I s_.queues_.e1.many_, .agg [I s_.queues_.e1.l_.e0, I s_.queues_.e1.l_.e1, I s_.queues_.e1.l_.e2, I s_.queues_.e1.l_.e3]], .agg [I s_.queues_.e2.many_, .agg [I s_.queues_.e2.l_.e0, I s_.queues_.e2.l_.e1, I s_.queues_.e2.l_.e2, I s_.queues_.e2.l_.e3]], .agg [I s_.queues_.e3.many_, .agg [I s_.queues_.e3.l_.e0, I s_.queues_.e3.l_.e1, I s_.queues_.e3.l_.e2, I s_.queues_.e3.l_.e3]]] : A) = some (.agg [.agg [I s_.queues_.e0.many_, .agg [I s_.queues_.e0.l_.e0, I s_.queues_.e0.l_.e1, I s_.queues_.e0.l_.e2, I s_.queues_.e0.l_.e3]], .agg [I s_.queues_.e1.many_, .agg [I s_.queues_.e1.l_.e0, I s_.queues_.e1.l_.e1, I s_.queues_.e1.l_.e2, I s_.queues_.e1.l_.e3]], .agg [I s_.queues_.e2.many_, .agg [I s_.queues_.e2.l_.e0, I s_.queues_.e2.l_.e1, I s_.queues_.e2.l_.e2, I s_.queues_.e2.l_.e3]], .agg [I s_.queues_.e3.many_, .agg [I s_.queues_.e3.l_.e0, I s_.queues_.e3.l_.e1, I s_.queues_.e3.l_.e2, I s_.queues_.e3.l_.e3]]])), Hh (.f), Hs (iM F7_ h7), Hh (.f), Hx (.a (.agg [.agg [I s_.queues_.e0.many_, .agg [I s_.queues_.e0.l_.e0, I s_.queues_.e0.l_.e1, I s_.queues_.e0.l_.e2, I s_.queues_.e0.l_.e3]], .agg [I s_.queues_.e1.many_, .agg [I s_.queues_.e1.l_.e0, I s_.queues_.e1.l_.e1, I s_.queues_.e1.l_.e2, I s_.queues_.e1.l_.e3]], .agg [I s_.queues_.e2.many_, .agg [I s_.queues_.e2.l_.e0, I s_.queues_.e2.l_.e1, I s_.queues_.e2.l_.e2, I s_.queues_.e2.l_.e3]], .agg [I s_.queues_.e3.many_, .agg [I s_.queues_.e3.l_.e0, I s_.queues_.e3.l_.e1, I s_.queues_.e3.l_.e2, I s_.queues_.e3.l_.e3]]])) (rfl : some (.agg [.agg [I s_.queues_.e0.many_, .agg [I s_.queues_.e0.l_.e0, I s_.queues_.e0.l_.e1, I s_.queues_.e0.l_.e2, I s_.queues_.e0.l_.e3]], .agg [I s_.queues_.e1.many_, .agg [I s_.queues_.e1.l_.e0, I s_.queues_.e1.l_.e1, I s_.queues_.e1.l_.e2, I s_.queues_.e1.l_.e3]], .agg [I s_.queues_.e2.many_, .agg [I s_.queues_.e2.l_.e0, I s_.queues_.e2.l_.e1, I s_.queues_.e2.l_.e2, I s_.queues_.e2.l_.e3]], .agg [I s_.queues_.e3.many_, .agg [I s_.queues_.e3.l_.e0, I s_.queues_.e3.l_.e1, I s_.queues_.e3.l_.e2, I s_.queues_.e3.l_.e3]]] : A) = some (.agg [.agg [I s_.queues_.e0.many_, .agg [I s_.queues_.e0.l_.e0, I s_.queues_.e0.l_.e1, I s_.queues_.e0.l_.e2, I s_.queues_.e0.l_.e3]], .agg [I s_.queues_.e1.many_, .agg [I s_.queues_.e1.l_.e0, I s_.queues_.e1.l_.e1, I s_.queues_.e1.l_.e2, I s_.queues_.e1.l_.e3]], .agg [I s_.queues_.e2.many_, .agg [I s_.queues_.e2.l_.e0, I s_.queues_.e2.l_.e1, I s_.queues_.e2.l_.e2, I s_.queues_.e2.l_.e3]], .agg [I s_.queues_.e3.many_, .agg [I s_.queues_.e3.l_.e0, I s_.queues_.e3.l_.e1, I s_.queues_.e3.l_.e2, I s_.queues_.e3.l_.e3]]])), Hh (.f), Hs (iM F7_ h7), Hx (.l ((zF.toL arr2).map F7_)) ((zF.setL F7_ s_.queues_ a_.Channel r_1).trans (congrArg (fun q => (zF.toL q).map F7_) h8)), Hx (.l [.agg [I arr.e0, I arr.e1, I arr.e2, I arr.e3], .agg [.agg [I arr2.e0.many_, .agg [I arr2.e0.l_.e0, I arr2.e0.l_.e1, I arr2.e0.l_.e2, I arr2.e0.l_.e3]], .agg [I arr2.e1.many_, .agg [I arr2.e1.l_.e0, I arr2.e1.l_.e1, I arr2.e1.l_.e2, I arr2.e1.l_.e3]], .agg [I arr2.e2.many_, .agg [I arr2.e2.l_.e0, I arr2.e2.l_.e1, I arr2.e2.l_.e2, I arr2.e2.l_.e3]], .agg [I arr2.e3.many_, .agg [I arr2.e3.l_.e0, I arr2.e3.l_.e1, I arr2.e3.l_.e2, I arr2.e3.l_.e3]]]]) (rfl : ([.agg [I arr.e0, I arr.e1, I arr.e2, I arr.e3], .agg [.agg [I arr2.e0.many_, .agg [I arr2.e0.l_.e0, I arr2.e0.l_.e1, I arr2.e0.l_.e2, I arr2.e0.l_.e3]], .agg [I arr2.e1.many_, .agg [I arr2.e1.l_.e0, I arr2.e1.l_.e1, I arr2.e1.l_.e2, I arr2.e1.l_.e3]], .agg [I arr2.e2.many_, .agg [I arr2.e2.l_.e0, I arr2.e2.l_.e1, I arr2.e2.l_.e2, I arr2.e2.l_.e3]], .agg [I arr2.e3.many_, .agg [I arr2.e3.l_.e0, I arr2.e3.l_.e1, I arr2.e3.l_.e2, I arr2.e3.l_.e3]]]] : List A) = [.agg [I arr.e0, I arr.e1, I arr.e2, I arr.e3], .agg [.agg [I arr2.e0.many_, .agg [I arr2.e0.l_.e0, I arr2.e0.l_.e1, I arr2.e0.l_.e2, I arr2.e0.l_.e3]], .agg [I arr2.e1.many_, .agg [I arr2.e1.l_.e0, I arr2.e1.l_.e1, I arr2.e1.l_.e2, I arr2.e1.l_.e3]], .agg [I arr2.e2.many_, .agg [I arr2.e2.l_.e0, I arr2.e2.l_.e1, I arr2.e2.l_.e2, I arr2.e2.l_.e3]], .agg [I arr2.e3.many_, .agg [I arr2.e3.l_.e0, I arr2.e3.l_.e1, I arr2.e3.l_.e2, I arr2.e3.l_.e3]]]])]
   ·obtain ⟨Channel_e, h9, hf0⟩ := zl hf0
    rcases zR hf0 with ⟨c3, hf0⟩ | ⟨c3, hf0⟩
    ·exact yB X0 hC hJ2 (Channel_e == 0) hf0 [Hi (eI .i64) h9, Hq c3]
    ·rcases zR hf0 with ⟨c4, hf0⟩ | ⟨c4, hf0⟩
     ·obtain ⟨Channel_e1, h10, hf0⟩ := zl hf0
      let Z0 : List HO := (Hi (eI .i64) h9 :: Hq c3 :: (rpN 7 (Hq c4) [Hi (eI .i64) h10, Hq c4, Hq c4, Hq c4]))
      rcases zR hf0 with ⟨c5, hf0⟩ | ⟨c5, hf0⟩
      ·exact yB X0 hC hJ2 (cell1.many_ == Channel_e1) hf0 (Z0 ++ [Hq c5])
      ·rcases zR hf0 with ⟨c6, hf0⟩ | ⟨c6, hf0⟩
       ·let Z1 : List HO := (Z0 ++ (Hq c5 :: (rpN 4 (Hq c6) [])))
        rcases zR hf0 with ⟨c7, hf0⟩ | ⟨c7, hf0⟩
        ·exact yB X0 hC hJ2 true hf0 (Z1 ++ (rpN 6 (Hq c7) [Hq c6, Hq c7, Hq c6]))
        ·exact yB X0 hC hJ2 (cell1.l_.e0 != a_.Message) hf0 (Z1 ++ (Hq c7 :: Hq c7 :: Hn (⟨rfl, by decide⟩ : true = true ∧ 0 < 4) :: (rpN 4 (Hq c7) [Hq c6, Hq c7, Hq c6])))
       ·exact yB X0 hC hJ2 false hf0 (Z0 ++ (Hq c5 :: (rpN 6 (Hq c6) [])))
     ·let Z2 : List HO := (Hi (eI .i64) h9 :: Hq c3 :: (rpN 10 (Hq c4) [qF]))
      rcases zR hf0 with ⟨c8, hf0⟩ | ⟨c8, hf0⟩
      ·let Z3 : List HO := (Z2 ++ (rpN 4 (Hq c8) []))
       rcases zR hf0 with ⟨c9, hf0⟩ | ⟨c9, hf0⟩
       ·exact yB X0 hC hJ2 true hf0 (Z3 ++ (rpN 6 (Hq c9) [Hq c8, Hq c9, Hq c8]))
       ·exact yB X0 hC hJ2 (cell1.l_.e0 != a_.Message) hf0 (Z3 ++ (Hq c9 :: Hq c9 :: Hn (⟨rfl, by decide⟩ : true = true ∧ 0 < 4) :: (rpN 4 (Hq c9) [Hq c8, Hq c9, Hq c8])))
      ·exact yB X0 hC hJ2 false hf0 (Z2 ++ (rpN 6 (Hq c8) []))
def jz : xm := spF (α := Bool × Bool) (ρ := Bool) 85 (fun x => [(eEr 0 201) x.1, (eEr 0 201) x.2]) (fun r => eB r) (fun x => Jx x.1 x.2) [] (VV)
theorem z1B {ctr : Ctr} (hC : zW Tryz.prog ctr) : jz.Ok Tryz.prog := by
 refine y7 ?_
 rintro ⟨e, t⟩ r0 hf0
 cases t with
 | false => cases hf0
 | true =>
  cases hf0
  exact z8D e
def zz : Code := (Tryz.f82.body).getD .skip
abbrev Zi {σ : Type} (x0 : z6) (x1 : za) (yv : Value) (YY : σ → z0l) (x16 : Int) (sg2 : σ) : List (Nat × T) := [(0, .own (.opq (YY sg2).q)), (1, .d (.sptr (yN x0))), (2, .d (.sptr (x7 x1))), (3, .own (.box (.atom yv))), (15, .d (I ((x0.Parts.length : Nat) : Int))), (16, .d (I x16))]
abbrev y5 {σ : Type} (x0 : z6) (x1 : za) (yv : Value) (YY : σ → z0l) (x16 : Int) (r_ : z6 × Int × za) (sg3 : σ) : List (Nat × T) := [(0, .own (.opq (YY sg3).q)), (1, .d (.sptr (yN x0))), (2, .d (.sptr (x7 x1))), (3, .own (.box (.atom yv))), (4, .own (.box (I x16))), (15, .d (I ((x0.Parts.length : Nat) : Int))), (16, .d (I x16)), (22, .d (.fn 103 [.sptr (.agg [I r_.1.Messages, I r_.1.Labels, eSl 1 false (eI .i64) r_.1.Channels, eSl 3 false vg r_.1.Parts]), .sptr (I r_.2.1), .sptr (.agg [.agg [I r_.2.2.states_.e0, I r_.2.2.states_.e1, I r_.2.2.states_.e2, I r_.2.2.states_.e3], .agg [.agg [I r_.2.2.queues_.e0.many_, .agg [I r_.2.2.queues_.e0.l_.e0, I r_.2.2.queues_.e0.l_.e1, I r_.2.2.queues_.e0.l_.e2, I r_.2.2.queues_.e0.l_.e3]], .agg [I r_.2.2.queues_.e1.many_, .agg [I r_.2.2.queues_.e1.l_.e0, I r_.2.2.queues_.e1.l_.e1, I r_.2.2.queues_.e1.l_.e2, I r_.2.2.queues_.e1.l_.e3]], .agg [I r_.2.2.queues_.e2.many_, .agg [I r_.2.2.queues_.e2.l_.e0, I r_.2.2.queues_.e2.l_.e1, I r_.2.2.queues_.e2.l_.e2, I r_.2.2.queues_.e2.l_.e3]], .agg [I r_.2.2.queues_.e3.many_, .agg [I r_.2.2.queues_.e3.l_.e0, I r_.2.2.queues_.e3.l_.e1, I r_.2.2.queues_.e3.l_.e2, I r_.2.2.queues_.e3.l_.e3]]]])]))]
abbrev Zh {σ : Type} (x0 : z6) (x1 : za) (yv : Value) (YY : σ → z0l) (x16 : Int) (r_ : z6 × Int × za) (x23 : Int) (x24 : zf) (Channel_e : Int) (x59 : Int) (sg5 : σ) : List (Nat × T) := [(0, .own (.opq (YY sg5).q)), (1, .d (.sptr (yN x0))), (2, .d (.sptr (x7 x1))), (3, .own (.box (.atom yv))), (4, .own (.box (I x16))), (5, .own (.box (I x23))), (6, .own (.box (kg x24))), (15, .d (I ((x0.Parts.length : Nat) : Int))), (16, .d (I x16)), (22, .d (.fn 103 [.sptr (.agg [I r_.1.Messages, I r_.1.Labels, eSl 1 false (eI .i64) r_.1.Channels, eSl 3 false vg r_.1.Parts]), .sptr (I r_.2.1), .sptr (.agg [.agg [I r_.2.2.states_.e0, I r_.2.2.states_.e1, I r_.2.2.states_.e2, I r_.2.2.states_.e3], .agg [.agg [I r_.2.2.queues_.e0.many_, .agg [I r_.2.2.queues_.e0.l_.e0, I r_.2.2.queues_.e0.l_.e1, I r_.2.2.queues_.e0.l_.e2, I r_.2.2.queues_.e0.l_.e3]], .agg [I r_.2.2.queues_.e1.many_, .agg [I r_.2.2.queues_.e1.l_.e0, I r_.2.2.queues_.e1.l_.e1, I r_.2.2.queues_.e1.l_.e2, I r_.2.2.queues_.e1.l_.e3]], .agg [I r_.2.2.queues_.e2.many_, .agg [I r_.2.2.queues_.e2.l_.e0, I r_.2.2.queues_.e2.l_.e1, I r_.2.2.queues_.e2.l_.e2, I r_.2.2.queues_.e2.l_.e3]], .agg [I r_.2.2.queues_.e3.many_, .agg [I r_.2.2.queues_.e3.l_.e0, I r_.2.2.queues_.e3.l_.e1, I r_.2.2.queues_.e3.l_.e2, I r_.2.2.queues_.e3.l_.e3]]]])])), (48, .d (.sptr (eSl 1 false (eI .i64) x0.Channels))), (49, .d (eSl 1 false (eI .i64) x0.Channels)), (51, .d (I x24.Channel)), (52, .d (.sptr (I Channel_e))), (53, .d (I Channel_e)), (54, .d (B (decide (Channel_e > 0)))), (58, .d (I ((x0.Parts.length : Nat) : Int))), (59, .d (I x59))]
abbrev yd {σ : Type} (x0 : z6) (x1 : za) (yv : Value) (YY : σ → z0l) (x16 : Int) (r_ : z6 × Int × za) (x23 : Int) (x24 : zf) (Channel_e : Int) (x59 : Int) (r_3 : z6 × Int × za) (sg6 : σ) : List (Nat × T) := [(0, .own (.opq (YY sg6).q)), (1, .d (.sptr (yN x0))), (2, .d (.sptr (x7 x1))), (3, .own (.box (.atom yv))), (4, .own (.box (I x16))), (5, .own (.box (I x23))), (6, .own (.box (kg x24))), (9, .own (.box (I x59))), (15, .d (I ((x0.Parts.length : Nat) : Int))), (16, .d (I x16)), (22, .d (.fn 103 [.sptr (.agg [I r_.1.Messages, I r_.1.Labels, eSl 1 false (eI .i64) r_.1.Channels, eSl 3 false vg r_.1.Parts]), .sptr (I r_.2.1), .sptr (.agg [.agg [I r_.2.2.states_.e0, I r_.2.2.states_.e1, I r_.2.2.states_.e2, I r_.2.2.states_.e3], .agg [.agg [I r_.2.2.queues_.e0.many_, .agg [I r_.2.2.queues_.e0.l_.e0, I r_.2.2.queues_.e0.l_.e1, I r_.2.2.queues_.e0.l_.e2, I r_.2.2.queues_.e0.l_.e3]], .agg [I r_.2.2.queues_.e1.many_, .agg [I r_.2.2.queues_.e1.l_.e0, I r_.2.2.queues_.e1.l_.e1, I r_.2.2.queues_.e1.l_.e2, I r_.2.2.queues_.e1.l_.e3]], .agg [I r_.2.2.queues_.e2.many_, .agg [I r_.2.2.queues_.e2.l_.e0, I r_.2.2.queues_.e2.l_.e1, I r_.2.2.queues_.e2.l_.e2, I r_.2.2.queues_.e2.l_.e3]], .agg [I r_.2.2.queues_.e3.many_, .agg [I r_.2.2.queues_.e3.l_.e0, I r_.2.2.queues_.e3.l_.e1, I r_.2.2.queues_.e3.l_.e2, I r_.2.2.queues_.e3.l_.e3]]]])])), (48, .d (.sptr (eSl 1 false (eI .i64) x0.Channels))), (49, .d (eSl 1 false (eI .i64) x0.Channels)), (51, .d (I x24.Channel)), (52, .d (.sptr (I Channel_e))), (53, .d (I Channel_e)), (54, .d (B (decide (Channel_e > 0)))), (58, .d (I ((x0.Parts.length : Nat) : Int))), (59, .d (I x59)), (68, .d (.fn 103 [.sptr (.agg [I r_3.1.Messages, I r_3.1.Labels, eSl 1 false (eI .i64) r_3.1.Channels, eSl 3 false vg r_3.1.Parts]), .sptr (I r_3.2.1), .sptr (.agg [.agg [I r_3.2.2.states_.e0, I r_3.2.2.states_.e1, I r_3.2.2.states_.e2, I r_3.2.2.states_.e3], .agg [.agg [I r_3.2.2.queues_.e0.many_, .agg [I r_3.2.2.queues_.e0.l_.e0, I r_3.2.2.queues_.e0.l_.e1, I r_3.2.2.queues_.e0.l_.e2, I r_3.2.2.queues_.e0.l_.e3]], .agg [I r_3.2.2.queues_.e1.many_, .agg [I r_3.2.2.queues_.e1.l_.e0, I r_3.2.2.queues_.e1.l_.e1, I r_3.2.2.queues_.e1.l_.e2, I r_3.2.2.queues_.e1.l_.e3]], .agg [I r_3.2.2.queues_.e2.many_, .agg [I r_3.2.2.queues_.e2.l_.e0, I r_3.2.2.queues_.e2.l_.e1, I r_3.2.2.queues_.e2.l_.e2, I r_3.2.2.queues_.e2.l_.e3]], .agg [I r_3.2.2.queues_.e3.many_, .agg [I r_3.2.2.queues_.e3.l_.e0, I r_3.2.2.queues_.e3.l_.e1, I r_3.2.2.queues_.e3.l_.e2, I r_3.2.2.queues_.e3.l_.e3]]]])]))]
abbrev Zf {σ : Type} (x0 : z6) (x1 : za) (yv : Value) (YY : σ → z0l) (x16 : Int) (r_ : z6 × Int × za) (x23 : Int) (x24 : zf) (Channel_e : Int) (sg4 : σ) (x59 : Int) : List (Nat × T) := [(0, .own (.opq (YY sg4).q)), (1, .d (.sptr (yN x0))), (2, .d (.sptr (x7 x1))), (3, .own (.box (.atom yv))), (4, .own (.box (I x16))), (5, .own (.box (I x23))), (6, .own (.box (kg x24))), (15, .d (I ((x0.Parts.length : Nat) : Int))), (16, .d (I x16)), (22, .d (.fn 103 [.sptr (.agg [I r_.1.Messages, I r_.1.Labels, eSl 1 false (eI .i64) r_.1.Channels, eSl 3 false vg r_.1.Parts]), .sptr (I r_.2.1), .sptr (.agg [.agg [I r_.2.2.states_.e0, I r_.2.2.states_.e1, I r_.2.2.states_.e2, I r_.2.2.states_.e3], .agg [.agg [I r_.2.2.queues_.e0.many_, .agg [I r_.2.2.queues_.e0.l_.e0, I r_.2.2.queues_.e0.l_.e1, I r_.2.2.queues_.e0.l_.e2, I r_.2.2.queues_.e0.l_.e3]], .agg [I r_.2.2.queues_.e1.many_, .agg [I r_.2.2.queues_.e1.l_.e0, I r_.2.2.queues_.e1.l_.e1, I r_.2.2.queues_.e1.l_.e2, I r_.2.2.queues_.e1.l_.e3]], .agg [I r_.2.2.queues_.e2.many_, .agg [I r_.2.2.queues_.e2.l_.e0, I r_.2.2.queues_.e2.l_.e1, I r_.2.2.queues_.e2.l_.e2, I r_.2.2.queues_.e2.l_.e3]], .agg [I r_.2.2.queues_.e3.many_, .agg [I r_.2.2.queues_.e3.l_.e0, I r_.2.2.queues_.e3.l_.e1, I r_.2.2.queues_.e3.l_.e2, I r_.2.2.queues_.e3.l_.e3]]]])])), (48, .d (.sptr (eSl 1 false (eI .i64) x0.Channels))), (49, .d (eSl 1 false (eI .i64) x0.Channels)), (51, .d (I x24.Channel)), (52, .d (.sptr (I Channel_e))), (53, .d (I Channel_e)), (54, .d (B (decide (Channel_e > 0)))), (58, .d (I ((x0.Parts.length : Nat) : Int))), (59, .d (I x59))]
abbrev Zg {σ : Type} (x0 : z6) (x1 : za) (yv : Value) (YY : σ → z0l) (sg1 : σ) (x16 : Int) : List (Nat × T) := [(0, .own (.opq (YY sg1).q)), (1, .d (.sptr (yN x0))), (2, .d (.sptr (x7 x1))), (3, .own (.box (.atom yv))), (15, .d (I ((x0.Parts.length : Nat) : Int))), (16, .d (I x16))]
theorem u3 {ctr : Ctr} (hC : zW Tryz.prog ctr) (h07 : ctr.Has xL) (h09 : ctr.Has xK) (h0a : ctr.Has jz) (x0 : z6) (x1 : za) : z5e Tryz.prog (.fn 82 [.sptr (.agg [I x0.Messages, I x0.Labels, eSl 1 false (eI .i64) x0.Channels, eSl 3 false vg x0.Parts]), .sptr (.agg [.agg [I x1.states_.e0, I x1.states_.e1, I x1.states_.e2, I x1.states_.e3], .agg [.agg [I x1.queues_.e0.many_, .agg [I x1.queues_.e0.l_.e0, I x1.queues_.e0.l_.e1, I x1.queues_.e0.l_.e2, I x1.queues_.e0.l_.e3]], .agg [I x1.queues_.e1.many_, .agg [I x1.queues_.e1.l_.e0, I x1.queues_.e1.l_.e1, I x1.queues_.e1.l_.e2, I x1.queues_.e1.l_.e3]], .agg [I x1.queues_.e2.many_, .agg [I x1.queues_.e2.l_.e0, I x1.queues_.e2.l_.e1, I x1.queues_.e2.l_.e2, I x1.queues_.e2.l_.e3]], .agg [I x1.queues_.e3.many_, .agg [I x1.queues_.e3.l_.e0, I x1.queues_.e3.l_.e1, I x1.queues_.e3.l_.e2, I x1.queues_.e3.l_.e3]]]])]) (fun (x : zc × za) (_ : Bool) (_ : Value) => [w6 x.1, x7 x.2]) (@y9 x0 x1) := by
 refine z4t (tt := wB) (nt := 110) (body := zz) zS Tryz.func82 rfl (by kernel_rfl) rfl rfl (by show (3 : Nat) ≤ 110; decide) ?_
 intro σ yv YY yy hy sg r0 hf0 E hE
 unfold y9 at hf0
 obtain ⟨t1, ht1, hf0⟩ := zl hf0
 refine yL ((xBx Tryz.prog 3 0 yv).or X0) hC zz [1,1,0] [] (fun s => xM x0 x1 yy s.1 s.2) (fun x => Zg x0 x1 yv YY x.1 x.2) (sg, 0) ht1  [Hn (⟨rfl, rfl⟩ : false = false ∧ some yv = some yv), Ha (lnM vg x0.Parts)] ?_
 rintro ⟨sg1, x16⟩ m1 lr1 hf1 hl1 J1 hJ1
 try unfold xM at hf1
 rcases zR hf1 with ⟨c0, hf1⟩ | ⟨c0, hf1⟩
 ·refine yJ X0 hC zz [1,1,0,0,1,1] [J1] [0,1,2,3,15,16] (fun z : σ => vQ x16 z = some lr1) (fun z => Zi x0 x1 yv YY x16 z) [(0, .own (.opq (YY sg1).q)), (1, .d (.sptr (yN x0))), (2, .d (.sptr (x7 x1))), (3, .own (.box (.atom yv))), (15, .d (I ((x0.Parts.length : Nat) : Int))), (16, .d (I x16))] [Hq c0, Hh (.cut 0)] ?_ fun J2 hJ2 => ?_
  ·rintro sg2 hf1
   unfold vQ at hf1
   obtain rfl := zi hf1
   exact yB X0 hC hJ1 (sg2, w64 (x16 + 1)) hl1 []
  ·obtain ⟨r_, h0, hf1⟩ := zl hf1
   obtain ⟨t3, ht3, hf1⟩ := zl hf1
   refine yAt X0 hC (sub [1,1,0,0,1,1,2,0,1,1,0] zz) (frs [1,1,0,0,1,1,2,0,1,1,0] [J1, J2] zz []) [(0, .own (.opq (YY sg1).q)), (1, .d (.sptr (yN x0))), (2, .d (.sptr (x7 x1))), (3, .own (.box (.atom yv))), (4, .own (.box (I x16))), (15, .d (I ((x0.Parts.length : Nat) : Int))), (16, .d (I x16)), (22, .d (.fn 103 [.sptr (.agg [I r_.1.Messages, I r_.1.Labels, eSl 1 false (eI .i64) r_.1.Channels, eSl 3 false vg r_.1.Parts]), .sptr (I r_.2.1), .sptr (.agg [.agg [I r_.2.2.states_.e0, I r_.2.2.states_.e1, I r_.2.2.states_.e2, I r_.2.2.states_.e3], .agg [.agg [I r_.2.2.queues_.e0.many_, .agg [I r_.2.2.queues_.e0.l_.e0, I r_.2.2.queues_.e0.l_.e1, I r_.2.2.queues_.e0.l_.e2, I r_.2.2.queues_.e0.l_.e3]], .agg [I r_.2.2.queues_.e1.many_, .agg [I r_.2.2.queues_.e1.l_.e0, I r_.2.2.queues_.e1.l_.e1, I r_.2.2.queues_.e1.l_.e2, I r_.2.2.queues_.e1.l_.e3]], .agg [I r_.2.2.queues_.e2.many_, .agg [I r_.2.2.queues_.e2.l_.e0, I r_.2.2.queues_.e2.l_.e1, I r_.2.2.queues_.e2.l_.e2, I r_.2.2.queues_.e2.l_.e3]], .agg [I r_.2.2.queues_.e3.many_, .agg [I r_.2.2.queues_.e3.l_.e0, I r_.2.2.queues_.e3.l_.e1, I r_.2.2.queues_.e3.l_.e2, I r_.2.2.queues_.e3.l_.e3]]]])]))] [Hc h07 (x := (x0, x1, x16)) h0 (loC yN x0 <| loC x7 x1 <| loC (eI .i64) x16 <| loN)] fun st0 h0 => ?_
   refine JE (g := .tmp 22) (ps := [23,24]) (assign := (sub [1,1,0,0,1,1,2,0,1,1,0,0] zz)) (body := (sub [1,1,0,0,1,1,2,0,1,1,0,1] zz)) (K := 103) (caps := [.sptr (.agg [I r_.1.Messages, I r_.1.Labels, eSl 1 false (eI .i64) r_.1.Channels, eSl 3 false vg r_.1.Parts]), .sptr (I r_.2.1), .sptr (.agg [.agg [I r_.2.2.states_.e0, I r_.2.2.states_.e1, I r_.2.2.states_.e2, I r_.2.2.states_.e3], .agg [.agg [I r_.2.2.queues_.e0.many_, .agg [I r_.2.2.queues_.e0.l_.e0, I r_.2.2.queues_.e0.l_.e1, I r_.2.2.queues_.e0.l_.e2, I r_.2.2.queues_.e0.l_.e3]], .agg [I r_.2.2.queues_.e1.many_, .agg [I r_.2.2.queues_.e1.l_.e0, I r_.2.2.queues_.e1.l_.e1, I r_.2.2.queues_.e1.l_.e2, I r_.2.2.queues_.e1.l_.e3]], .agg [I r_.2.2.queues_.e2.many_, .agg [I r_.2.2.queues_.e2.l_.e0, I r_.2.2.queues_.e2.l_.e1, I r_.2.2.queues_.e2.l_.e2, I r_.2.2.queues_.e2.l_.e3]], .agg [I r_.2.2.queues_.e3.many_, .agg [I r_.2.2.queues_.e3.l_.e0, I r_.2.2.queues_.e3.l_.e1, I r_.2.2.queues_.e3.l_.e2, I r_.2.2.queues_.e3.l_.e3]]]])]) (by kernel_rfl) [0,1,2,3,4,15,16,22] (fun s => y5 x0 x1 yv YY x16 r_ s) (fun s => y5 x0 x1 yv YY x16 r_ s) (fun s => Code.ret) ((fun (x : Int × zf) (_ : Bool) (_ : Value) => [(eI .i64) x.1, kg x.2])) (F := @yq r_.1 r_.2.1 r_.2.2) (fun s x => xq x0 x1 yy x16 s x.1 x.2) sg1 t3 _ h0 inferInstance (by kernel_rfl) (by decide) (fun _ => rfl) (fun _ => rfl) (by kernel_rfl) (fun _ _ _ => rfl) (jO hC r_.1 r_.2.1 r_.2.2) ht3 ?_ ?_
   ·rintro tv3 sg3 ⟨x23, x24⟩ vr lr2 hf2
    refine z0a (sz := 110) (k := 0) (u := tv3 0) (v := yv) (ps := List.map (fun t => (t, tv3 t)) [1,2,3,4,15,16,22] ++ ([(0, yv)])) rfl (by simp) ?_
    replace hf2 : xq x0 x1 yy x16 sg3 x23 x24 = some lr2 := hf2
    unfold xq at hf2
    refine yF X0 hC .normal [(0, .own (.opq (YY sg3).q)), (1, .d (.sptr (yN x0))), (2, .d (.sptr (x7 x1))), (3, .own (.box (.atom yv))), (4, .own (.box (I x16))), (5, .own (.box (I x23))), (6, .own (.box (kg x24))), (15, .d (I ((x0.Parts.length : Nat) : Int))), (16, .d (I x16)), (22, .d (.fn 103 [.sptr (.agg [I r_.1.Messages, I r_.1.Labels, eSl 1 false (eI .i64) r_.1.Channels, eSl 3 false vg r_.1.Parts]), .sptr (I r_.2.1), .sptr (.agg [.agg [I r_.2.2.states_.e0, I r_.2.2.states_.e1, I r_.2.2.states_.e2, I r_.2.2.states_.e3], .agg [.agg [I r_.2.2.queues_.e0.many_, .agg [I r_.2.2.queues_.e0.l_.e0, I r_.2.2.queues_.e0.l_.e1, I r_.2.2.queues_.e0.l_.e2, I r_.2.2.queues_.e0.l_.e3]], .agg [I r_.2.2.queues_.e1.many_, .agg [I r_.2.2.queues_.e1.l_.e0, I r_.2.2.queues_.e1.l_.e1, I r_.2.2.queues_.e1.l_.e2, I r_.2.2.queues_.e1.l_.e3]], .agg [I r_.2.2.queues_.e2.many_, .agg [I r_.2.2.queues_.e2.l_.e0, I r_.2.2.queues_.e2.l_.e1, I r_.2.2.queues_.e2.l_.e2, I r_.2.2.queues_.e2.l_.e3]], .agg [I r_.2.2.queues_.e3.many_, .agg [I r_.2.2.queues_.e3.l_.e0, I r_.2.2.queues_.e3.l_.e1, I r_.2.2.queues_.e3.l_.e2, I r_.2.2.queues_.e3.l_.e3]]]])]))] [] fun st0 h0 => ⟨rfl, z09 h0 ?_⟩
    refine z0a (sz := 110) (k := 0) (u := tv3 0) (v := yv) (ps := List.map (fun t => (t, tv3 t)) [1,2,3,4,15,16,22] ++ ([(0, yv)])) rfl (by simp) ?_
    obtain ⟨r_1, h1, hf2⟩ := zl hf2
    obtain ⟨r_2, h2, hf2⟩ := zl hf2
    let Z0 : List HO := [Hc h09 (x := (x0, x1, x16, x24)) h1 (loC yN x0 <| loC x7 x1 <| loC (eI .i64) x16 <| loC kg x24 <| loN), Hc h0a (x := (r_1.2, true)) h2 (loC (eEr 0 201) r_1.2 <| loC (eEr 0 201) true <| loN)]
    rcases zR hf2 with ⟨c1, hf2⟩ | ⟨c1, hf2⟩
    ·obtain ⟨yr, h3, hf2⟩ := zl hf2
     let Z1 : List HO := (Z0 ++ [Hq c1, Hn (⟨rfl, rfl, _, rfl⟩ : T.own (.box (.atom yv)) = T.own (.box (.atom yv)) ∧ some yv = some yv ∧ ∃ x, T.own (.opq (YY sg3).q) = T.own x), Hn (z1E (yv := yv) (Y := YY) (enc := (fun (x : zc × za) (_ : Bool) (_ : Value) => [w6 x.1, x7 x.2])) (s := sg3) (x := ((zc.mk x16 x23 (-1) (-1)), r_1.1)) (s' := yr.1) (b := yr.2) (v := .nilFunc) [w6 (zc.mk x16 x23 (-1) (-1)), x7 r_1.1] (show z0h [w6 (zc.mk x16 x23 (-1) (-1)), x7 r_1.1] [w6 (zc.mk x16 x23 (-1) (-1)), x7 r_1.1] from inferInstance))])
     rcases zR hf2 with ⟨c2, hf2⟩ | ⟨c2, hf2⟩
     ·obtain rfl := zi hf2
      exact yF ((K3 (P := Tryz.prog) wB hy 42 (s := sg3) (x := ((zc.mk x16 x23 (-1) (-1)), r_1.1)) (s' := yr.1) (b := yr.2) .nilFunc h3).or ((xLy zS 37 3 0 yv).or X0)) hC .ret (y5 x0 x1 yv YY x16 r_ yr.1) (Z1 ++ [Hq c2]) fun st0 h0 => ⟨rfl, _, h0, LeL.refl _⟩
     ·obtain rfl := zi hf2
      exact yF ((K3 (P := Tryz.prog) wB hy 42 (s := sg3) (x := ((zc.mk x16 x23 (-1) (-1)), r_1.1)) (s' := yr.1) (b := yr.2) .nilFunc h3).or ((xLy zS 37 3 0 yv).or X0)) hC .normal (y5 x0 x1 yv YY x16 r_ yr.1) (Z1 ++ [Hq c2]) fun st0 h0 => ⟨rfl, _, h0, LeL.refl _⟩
    ·rcases zR hf2 with ⟨c3, hf2⟩ | ⟨c3, hf2⟩
     ·obtain rfl := zi hf2
      exact yF X0 hC .normal (y5 x0 x1 yv YY x16 r_ sg3) (Z0 ++ (Hq c1 :: (rpN 8 (Hq c3) [qT]))) fun st0 h0 => ⟨rfl, _, h0, LeL.refl _⟩
     ·obtain ⟨Channel_e, h4, hf2⟩ := zl hf2
      let Z2 : List HO := (Z0 ++ (Hq c1 :: (rpN 5 (Hq c3) [Hi (eI .i64) h4, Hq c3, Hq c3, Hq c3])))
      rcases zR hf2 with ⟨c4, hf2⟩ | ⟨c4, hf2⟩
      ·obtain rfl := zi hf2
       exact yF X0 hC .normal (y5 x0 x1 yv YY x16 r_ sg3) (Z2 ++ [Hq c4]) fun st0 h0 => ⟨rfl, _, h0, LeL.refl _⟩
      ·obtain ⟨t4, ht4, hf2⟩ := zl hf2
       refine yL X0 hC zz [1,1,0,0,1,1,2,0,1,1,0,1,0,1,1,1,1,0] [J1, J2] (fun s => xo x0 x1 yy x16 x23 x24 s.1 s.2) (fun x => Zf x0 x1 yv YY x16 r_ x23 x24 Channel_e x.1 x.2) (sg3,0) ht4  (Z2 ++ [Hq c4, Ha (lnM vg x0.Parts)]) ?_
       rintro ⟨sg4, x59⟩ m4 lr3 hf3 hl3 J4 hJ4
       try unfold xo at hf3
       rcases zR hf3 with ⟨c5, hf3⟩ | ⟨c5, hf3⟩
       ·refine yJ X0 hC zz [1,1,0,0,1,1,2,0,1,1,0,1,0,1,1,1,1,0,0,1,1] [J1, J2, J4] [0,1,2,3,4,5,6,15,16,22,48,49,51,52,53,54,58,59] (fun z : σ => wC x59 z = some lr3) (fun z => Zh x0 x1 yv YY x16 r_ x23 x24 Channel_e x59 z) [(0, .own (.opq (YY sg4).q)), (1, .d (.sptr (yN x0))), (2, .d (.sptr (x7 x1))), (3, .own (.box (.atom yv))), (4, .own (.box (I x16))), (5, .own (.box (I x23))), (6, .own (.box (kg x24))), (15, .d (I ((x0.Parts.length : Nat) : Int))), (16, .d (I x16)), (22, .d (.fn 103 [.sptr (.agg [I r_.1.Messages, I r_.1.Labels, eSl 1 false (eI .i64) r_.1.Channels, eSl 3 false vg r_.1.Parts]), .sptr (I r_.2.1), .sptr (.agg [.agg [I r_.2.2.states_.e0, I r_.2.2.states_.e1, I r_.2.2.states_.e2, I r_.2.2.states_.e3], .agg [.agg [I r_.2.2.queues_.e0.many_, .agg [I r_.2.2.queues_.e0.l_.e0, I r_.2.2.queues_.e0.l_.e1, I r_.2.2.queues_.e0.l_.e2, I r_.2.2.queues_.e0.l_.e3]], .agg [I r_.2.2.queues_.e1.many_, .agg [I r_.2.2.queues_.e1.l_.e0, I r_.2.2.queues_.e1.l_.e1, I r_.2.2.queues_.e1.l_.e2, I r_.2.2.queues_.e1.l_.e3]], .agg [I r_.2.2.queues_.e2.many_, .agg [I r_.2.2.queues_.e2.l_.e0, I r_.2.2.queues_.e2.l_.e1, I r_.2.2.queues_.e2.l_.e2, I r_.2.2.queues_.e2.l_.e3]], .agg [I r_.2.2.queues_.e3.many_, .agg [I r_.2.2.queues_.e3.l_.e0, I r_.2.2.queues_.e3.l_.e1, I r_.2.2.queues_.e3.l_.e2, I r_.2.2.queues_.e3.l_.e3]]]])])), (48, .d (.sptr (eSl 1 false (eI .i64) x0.Channels))), (49, .d (eSl 1 false (eI .i64) x0.Channels)), (51, .d (I x24.Channel)), (52, .d (.sptr (I Channel_e))), (53, .d (I Channel_e)), (54, .d (B (decide (Channel_e > 0)))), (58, .d (I ((x0.Parts.length : Nat) : Int))), (59, .d (I x59))] [Hq c5, Hh (.cut 0)] ?_ fun J5 hJ5 => ?_
        ·rintro sg5 hf3
         unfold wC at hf3
         obtain rfl := zi hf3
         exact yB X0 hC hJ4 (sg5, w64 (x59 + 1)) hl3 []
        ·rcases zR hf3 with ⟨c6, hf3⟩ | ⟨c6, hf3⟩
         ·exact yB X0 hC hJ5 sg4 hf3 [Hq c6]
         ·obtain ⟨r_3, h5, hf3⟩ := zl hf3
          obtain ⟨t6, ht6, hf3⟩ := zl hf3
          refine yAt X0 hC (sub [1,1,0,0,1,1,2,0,1,1,0,1,0,1,1,1,1,0,0,1,1,2,0,1,1,1,0] zz) (frs [1,1,0,0,1,1,2,0,1,1,0,1,0,1,1,1,1,0,0,1,1,2,0,1,1,1,0] [J1, J2, J4, J5] zz []) [(0, .own (.opq (YY sg4).q)), (1, .d (.sptr (yN x0))), (2, .d (.sptr (x7 x1))), (3, .own (.box (.atom yv))), (4, .own (.box (I x16))), (5, .own (.box (I x23))), (6, .own (.box (kg x24))), (9, .own (.box (I x59))), (15, .d (I ((x0.Parts.length : Nat) : Int))), (16, .d (I x16)), (22, .d (.fn 103 [.sptr (.agg [I r_.1.Messages, I r_.1.Labels, eSl 1 false (eI .i64) r_.1.Channels, eSl 3 false vg r_.1.Parts]), .sptr (I r_.2.1), .sptr (.agg [.agg [I r_.2.2.states_.e0, I r_.2.2.states_.e1, I r_.2.2.states_.e2, I r_.2.2.states_.e3], .agg [.agg [I r_.2.2.queues_.e0.many_, .agg [I r_.2.2.queues_.e0.l_.e0, I r_.2.2.queues_.e0.l_.e1, I r_.2.2.queues_.e0.l_.e2, I r_.2.2.queues_.e0.l_.e3]], .agg [I r_.2.2.queues_.e1.many_, .agg [I r_.2.2.queues_.e1.l_.e0, I r_.2.2.queues_.e1.l_.e1, I r_.2.2.queues_.e1.l_.e2, I r_.2.2.queues_.e1.l_.e3]], .agg [I r_.2.2.queues_.e2.many_, .agg [I r_.2.2.queues_.e2.l_.e0, I r_.2.2.queues_.e2.l_.e1, I r_.2.2.queues_.e2.l_.e2, I r_.2.2.queues_.e2.l_.e3]], .agg [I r_.2.2.queues_.e3.many_, .agg [I r_.2.2.queues_.e3.l_.e0, I r_.2.2.queues_.e3.l_.e1, I r_.2.2.queues_.e3.l_.e2, I r_.2.2.queues_.e3.l_.e3]]]])])), (48, .d (.sptr (eSl 1 false (eI .i64) x0.Channels))), (49, .d (eSl 1 false (eI .i64) x0.Channels)), (51, .d (I x24.Channel)), (52, .d (.sptr (I Channel_e))), (53, .d (I Channel_e)), (54, .d (B (decide (Channel_e > 0)))), (58, .d (I ((x0.Parts.length : Nat) : Int))), (59, .d (I x59)), (68, .d (.fn 103 [.sptr (.agg [I r_3.1.Messages, I r_3.1.Labels, eSl 1 false (eI .i64) r_3.1.Channels, eSl 3 false vg r_3.1.Parts]), .sptr (I r_3.2.1), .sptr (.agg [.agg [I r_3.2.2.states_.e0, I r_3.2.2.states_.e1, I r_3.2.2.states_.e2, I r_3.2.2.states_.e3], .agg [.agg [I r_3.2.2.queues_.e0.many_, .agg [I r_3.2.2.queues_.e0.l_.e0, I r_3.2.2.queues_.e0.l_.e1, I r_3.2.2.queues_.e0.l_.e2, I r_3.2.2.queues_.e0.l_.e3]], .agg [I r_3.2.2.queues_.e1.many_, .agg [I r_3.2.2.queues_.e1.l_.e0, I r_3.2.2.queues_.e1.l_.e1, I r_3.2.2.queues_.e1.l_.e2, I r_3.2.2.queues_.e1.l_.e3]], .agg [I r_3.2.2.queues_.e2.many_, .agg [I r_3.2.2.queues_.e2.l_.e0, I r_3.2.2.queues_.e2.l_.e1, I r_3.2.2.queues_.e2.l_.e2, I r_3.2.2.queues_.e2.l_.e3]], .agg [I r_3.2.2.queues_.e3.many_, .agg [I r_3.2.2.queues_.e3.l_.e0, I r_3.2.2.queues_.e3.l_.e1, I r_3.2.2.queues_.e3.l_.e2, I r_3.2.2.queues_.e3.l_.e3]]]])]))] [Hq c6, Hc h07 (x := (x0, x1, x59)) h5 (loC yN x0 <| loC x7 x1 <| loC (eI .i64) x59 <| loN)] fun st0 h0 => ?_
          refine JE (g := .tmp 68) (ps := [69,70]) (assign := (sub [1,1,0,0,1,1,2,0,1,1,0,1,0,1,1,1,1,0,0,1,1,2,0,1,1,1,0,0] zz)) (body := (sub [1,1,0,0,1,1,2,0,1,1,0,1,0,1,1,1,1,0,0,1,1,2,0,1,1,1,0,1] zz)) (K := 103) (caps := [.sptr (.agg [I r_3.1.Messages, I r_3.1.Labels, eSl 1 false (eI .i64) r_3.1.Channels, eSl 3 false vg r_3.1.Parts]), .sptr (I r_3.2.1), .sptr (.agg [.agg [I r_3.2.2.states_.e0, I r_3.2.2.states_.e1, I r_3.2.2.states_.e2, I r_3.2.2.states_.e3], .agg [.agg [I r_3.2.2.queues_.e0.many_, .agg [I r_3.2.2.queues_.e0.l_.e0, I r_3.2.2.queues_.e0.l_.e1, I r_3.2.2.queues_.e0.l_.e2, I r_3.2.2.queues_.e0.l_.e3]], .agg [I r_3.2.2.queues_.e1.many_, .agg [I r_3.2.2.queues_.e1.l_.e0, I r_3.2.2.queues_.e1.l_.e1, I r_3.2.2.queues_.e1.l_.e2, I r_3.2.2.queues_.e1.l_.e3]], .agg [I r_3.2.2.queues_.e2.many_, .agg [I r_3.2.2.queues_.e2.l_.e0, I r_3.2.2.queues_.e2.l_.e1, I r_3.2.2.queues_.e2.l_.e2, I r_3.2.2.queues_.e2.l_.e3]], .agg [I r_3.2.2.queues_.e3.many_, .agg [I r_3.2.2.queues_.e3.l_.e0, I r_3.2.2.queues_.e3.l_.e1, I r_3.2.2.queues_.e3.l_.e2, I r_3.2.2.queues_.e3.l_.e3]]]])]) (by kernel_rfl) [0,1,2,3,4,5,6,9,15,16,22,48,49,51,52,53,54,58,59,68] (fun s => yd x0 x1 yv YY x16 r_ x23 x24 Channel_e x59 r_3 s) (fun s => yd x0 x1 yv YY x16 r_ x23 x24 Channel_e x59 r_3 s) (fun s => Code.ret) ((fun (x : Int × zf) (_ : Bool) (_ : Value) => [(eI .i64) x.1, kg x.2])) (F := @yq r_3.1 r_3.2.1 r_3.2.2) (fun s x => xp x1 yy x16 x23 x24 x59 s x.1 x.2) sg4 t6 _ h0 inferInstance (by kernel_rfl) (by decide) (fun _ => rfl) (fun _ => rfl) (by kernel_rfl) (fun _ _ _ => rfl) (jO hC r_3.1 r_3.2.1 r_3.2.2) ht6 ?_ ?_
          ·rintro tv6 sg6 ⟨x69, x70⟩ vr lr4 hf4
           refine z0a (sz := 110) (k := 0) (u := tv6 0) (v := yv) (ps := List.map (fun t => (t, tv6 t)) [1,2,3,4,5,6,9,15,16,22,48,49,51,52,53,54,58,59,68] ++ (List.map (fun t => (t, tv3 t)) [1,2,3,4,15,16,22] ++ ([(0, yv)]))) rfl (by simp) ?_
           replace hf4 : xp x1 yy x16 x23 x24 x59 sg6 x69 x70 = some lr4 := hf4
           unfold xp at hf4
           refine yF X0 hC .normal [(0, .own (.opq (YY sg6).q)), (1, .d (.sptr (yN x0))), (2, .d (.sptr (x7 x1))), (3, .own (.box (.atom yv))), (4, .own (.box (I x16))), (5, .own (.box (I x23))), (6, .own (.box (kg x24))), (9, .own (.box (I x59))), (10, .d (I x69)), (11, .own (.box (kg x70))), (15, .d (I ((x0.Parts.length : Nat) : Int))), (16, .d (I x16)), (22, .d (.fn 103 [.sptr (.agg [I r_.1.Messages, I r_.1.Labels, eSl 1 false (eI .i64) r_.1.Channels, eSl 3 false vg r_.1.Parts]), .sptr (I r_.2.1), .sptr (.agg [.agg [I r_.2.2.states_.e0, I r_.2.2.states_.e1, I r_.2.2.states_.e2, I r_.2.2.states_.e3], .agg [.agg [I r_.2.2.queues_.e0.many_, .agg [I r_.2.2.queues_.e0.l_.e0, I r_.2.2.queues_.e0.l_.e1, I r_.2.2.queues_.e0.l_.e2, I r_.2.2.queues_.e0.l_.e3]], .agg [I r_.2.2.queues_.e1.many_, .agg [I r_.2.2.queues_.e1.l_.e0, I r_.2.2.queues_.e1.l_.e1, I r_.2.2.queues_.e1.l_.e2, I r_.2.2.queues_.e1.l_.e3]], .agg [I r_.2.2.queues_.e2.many_, .agg [I r_.2.2.queues_.e2.l_.e0, I r_.2.2.queues_.e2.l_.e1, I r_.2.2.queues_.e2.l_.e2, I r_.2.2.queues_.e2.l_.e3]], .agg [I r_.2.2.queues_.e3.many_, .agg [I r_.2.2.queues_.e3.l_.e0, I r_.2.2.queues_.e3.l_.e1, I r_.2.2.queues_.e3.l_.e2, I r_.2.2.queues_.e3.l_.e3]]]])])), (48, .d (.sptr (eSl 1 false (eI .i64) x0.Channels))), (49, .d (eSl 1 false (eI .i64) x0.Channels)), (51, .d (I x24.Channel)), (52, .d (.sptr (I Channel_e))), (53, .d (I Channel_e)), (54, .d (B (decide (Channel_e > 0)))), (58, .d (I ((x0.Parts.length : Nat) : Int))), (59, .d (I x59)), (68, .d (.fn 103 [.sptr (.agg [I r_3.1.Messages, I r_3.1.Labels, eSl 1 false (eI .i64) r_3.1.Channels, eSl 3 false vg r_3.1.Parts]), .sptr (I r_3.2.1), .sptr (.agg [.agg [I r_3.2.2.states_.e0, I r_3.2.2.states_.e1, I r_3.2.2.states_.e2, I r_3.2.2.states_.e3], .agg [.agg [I r_3.2.2.queues_.e0.many_, .agg [I r_3.2.2.queues_.e0.l_.e0, I r_3.2.2.queues_.e0.l_.e1, I r_3.2.2.queues_.e0.l_.e2, I r_3.2.2.queues_.e0.l_.e3]], .agg [I r_3.2.2.queues_.e1.many_, .agg [I r_3.2.2.queues_.e1.l_.e0, I r_3.2.2.queues_.e1.l_.e1, I r_3.2.2.queues_.e1.l_.e2, I r_3.2.2.queues_.e1.l_.e3]], .agg [I r_3.2.2.queues_.e2.many_, .agg [I r_3.2.2.queues_.e2.l_.e0, I r_3.2.2.queues_.e2.l_.e1, I r_3.2.2.queues_.e2.l_.e2, I r_3.2.2.queues_.e2.l_.e3]], .agg [I r_3.2.2.queues_.e3.many_, .agg [I r_3.2.2.queues_.e3.l_.e0, I r_3.2.2.queues_.e3.l_.e1, I r_3.2.2.queues_.e3.l_.e2, I r_3.2.2.queues_.e3.l_.e3]]]])]))] [] fun st0 h0 => ⟨rfl, z09 h0 ?_⟩
           refine z0a (sz := 110) (k := 0) (u := tv6 0) (v := yv) (ps := List.map (fun t => (t, tv6 t)) [1,2,3,4,5,6,9,15,16,22,48,49,51,52,53,54,58,59,68] ++ (List.map (fun t => (t, tv3 t)) [1,2,3,4,15,16,22] ++ ([(0, yv)]))) rfl (by simp) ?_
           rcases zR hf4 with ⟨c7, hf4⟩ | ⟨c7, hf4⟩
           ·obtain rfl := zi hf4
            exact yF X0 hC .normal (yd x0 x1 yv YY x16 r_ x23 x24 Channel_e x59 r_3 sg6) (rpN 6 (Hq c7) (rpN 7 qT [])) fun st0 h0 => ⟨rfl, _, h0, LeL.refl _⟩
           ·let Z3 : List HO := (rpN 6 (Hq c7) [])
            rcases zR hf4 with ⟨c8, hf4⟩ | ⟨c8, hf4⟩
            ·obtain rfl := zi hf4
             exact yF X0 hC .normal (yd x0 x1 yv YY x16 r_ x23 x24 Channel_e x59 r_3 sg6) (Z3 ++ (rpN 6 (Hq c8) [qT])) fun st0 h0 => ⟨rfl, _, h0, LeL.refl _⟩
            ·let Z4 : List HO := (Z3 ++ (rpN 6 (Hq c8) []))
             rcases zR hf4 with ⟨c9, hf4⟩ | ⟨c9, hf4⟩
             ·obtain rfl := zi hf4
              exact yF X0 hC .normal (yd x0 x1 yv YY x16 r_ x23 x24 Channel_e x59 r_3 sg6) (Z4 ++ [Hq c9]) fun st0 h0 => ⟨rfl, _, h0, LeL.refl _⟩
             ·refine yA X0 hC zz [1,1,0,0,1,1,2,0,1,1,0,1,0,1,1,1,1,0,0,1,1,2,0,1,1,1,0,1,0,1,1] [J1, J2, J4, J5] [(0, .own (.opq (YY sg6).q)), (1, .d (.sptr (yN x0))), (2, .d (.sptr (x7 x1))), (3, .own (.box (.atom yv))), (4, .own (.box (I x16))), (5, .own (.box (I x23))), (6, .own (.box (kg x24))), (9, .own (.box (I x59))), (10, .d (I x69)), (11, .own (.box (kg x70))), (12, .own (.box (x7 x1))), (15, .d (I ((x0.Parts.length : Nat) : Int))), (16, .d (I x16)), (22, .d (.fn 103 [.sptr (.agg [I r_.1.Messages, I r_.1.Labels, eSl 1 false (eI .i64) r_.1.Channels, eSl 3 false vg r_.1.Parts]), .sptr (I r_.2.1), .sptr (.agg [.agg [I r_.2.2.states_.e0, I r_.2.2.states_.e1, I r_.2.2.states_.e2, I r_.2.2.states_.e3], .agg [.agg [I r_.2.2.queues_.e0.many_, .agg [I r_.2.2.queues_.e0.l_.e0, I r_.2.2.queues_.e0.l_.e1, I r_.2.2.queues_.e0.l_.e2, I r_.2.2.queues_.e0.l_.e3]], .agg [I r_.2.2.queues_.e1.many_, .agg [I r_.2.2.queues_.e1.l_.e0, I r_.2.2.queues_.e1.l_.e1, I r_.2.2.queues_.e1.l_.e2, I r_.2.2.queues_.e1.l_.e3]], .agg [I r_.2.2.queues_.e2.many_, .agg [I r_.2.2.queues_.e2.l_.e0, I r_.2.2.queues_.e2.l_.e1, I r_.2.2.queues_.e2.l_.e2, I r_.2.2.queues_.e2.l_.e3]], .agg [I r_.2.2.queues_.e3.many_, .agg [I r_.2.2.queues_.e3.l_.e0, I r_.2.2.queues_.e3.l_.e1, I r_.2.2.queues_.e3.l_.e2, I r_.2.2.queues_.e3.l_.e3]]]])])), (48, .d (.sptr (eSl 1 false (eI .i64) x0.Channels))), (49, .d (eSl 1 false (eI .i64) x0.Channels)), (51, .d (I x24.Channel)), (52, .d (.sptr (I Channel_e))), (53, .d (I Channel_e)), (54, .d (B (decide (Channel_e > 0)))), (58, .d (I ((x0.Parts.length : Nat) : Int))), (59, .d (I x59)), (68, .d (.fn 103 [.sptr (.agg [I r_3.1.Messages, I r_3.1.Labels, eSl 1 false (eI .i64) r_3.1.Channels, eSl 3 false vg r_3.1.Parts]), .sptr (I r_3.2.1), .sptr (.agg [.agg [I r_3.2.2.states_.e0, I r_3.2.2.states_.e1, I r_3.2.2.states_.e2, I r_3.2.2.states_.e3], .agg [.agg [I r_3.2.2.queues_.e0.many_, .agg [I r_3.2.2.queues_.e0.l_.e0, I r_3.2.2.queues_.e0.l_.e1, I r_3.2.2.queues_.e0.l_.e2, I r_3.2.2.queues_.e0.l_.e3]], .agg [I r_3.2.2.queues_.e1.many_, .agg [I r_3.2.2.queues_.e1.l_.e0, I r_3.2.2.queues_.e1.l_.e1, I r_3.2.2.queues_.e1.l_.e2, I r_3.2.2.queues_.e1.l_.e3]], .agg [I r_3.2.2.queues_.e2.many_, .agg [I r_3.2.2.queues_.e2.l_.e0, I r_3.2.2.queues_.e2.l_.e1, I r_3.2.2.queues_.e2.l_.e2, I r_3.2.2.queues_.e2.l_.e3]], .agg [I r_3.2.2.queues_.e3.many_, .agg [I r_3.2.2.queues_.e3.l_.e0, I r_3.2.2.queues_.e3.l_.e1, I r_3.2.2.queues_.e3.l_.e2, I r_3.2.2.queues_.e3.l_.e3]]]])])), (76, .d (I x70.Channel)), (78, .d (I x24.Channel)), (79, .d (B (x70.Channel != x24.Channel))), (83, .d (I x70.Message)), (85, .d (I x24.Message)), (86, .d (B (x70.Message != x24.Message)))] (Z4 ++ [Hq c9, Hh (.cut 1)]) ?_
              obtain ⟨cell, h6, hf4⟩ := zl hf4
              obtain ⟨arr, h7, hf4⟩ := zl hf4
              replace h7 := zi h7
              obtain ⟨cell1, h8, hf4⟩ := zl hf4
              obtain ⟨arr1, h9, hf4⟩ := zl hf4
              replace h9 := zi h9
              refine z52 (by kernel_rfl) (x := (sub [1,1,0,0,1,1,2,0,1,1,0,1,0,1,1,1,1,0,0,1,1,2,0,1,1,1,0,1,0,1,1,0] zz)) (y := (sub [1,1,0,0,1,1,2,0,1,1,0,1,0,1,1,1,1,0,0,1,1,2,0,1,1,1,0,1,0,1,1,1] zz)) 12 (fun st1 => Own.canon [0,1,2,3,4,5,6,9,10,12,15,16,22,48,49,51,52,53,54,58,59,68,76,78,79,83,85,86] st1 = ofL [(0, .own (.opq (YY sg6).q)), (1, .d (.sptr (yN x0))), (2, .d (.sptr (x7 x1))), (3, .own (.box (.atom yv))), (4, .own (.box (I x16))), (5, .own (.box (I x23))), (6, .own (.box (kg x24))), (9, .own (.box (I x59))), (10, .d (I x69)), (12, .own (.box (.agg [F0_ arr1, F8_ x1.queues_]))), (15, .d (I ((x0.Parts.length : Nat) : Int))), (16, .d (I x16)), (22, .d (.fn 103 [.sptr (.agg [I r_.1.Messages, I r_.1.Labels, eSl 1 false (eI .i64) r_.1.Channels, eSl 3 false vg r_.1.Parts]), .sptr (I r_.2.1), .sptr (.agg [.agg [I r_.2.2.states_.e0, I r_.2.2.states_.e1, I r_.2.2.states_.e2, I r_.2.2.states_.e3], .agg [.agg [I r_.2.2.queues_.e0.many_, .agg [I r_.2.2.queues_.e0.l_.e0, I r_.2.2.queues_.e0.l_.e1, I r_.2.2.queues_.e0.l_.e2, I r_.2.2.queues_.e0.l_.e3]], .agg [I r_.2.2.queues_.e1.many_, .agg [I r_.2.2.queues_.e1.l_.e0, I r_.2.2.queues_.e1.l_.e1, I r_.2.2.queues_.e1.l_.e2, I r_.2.2.queues_.e1.l_.e3]], .agg [I r_.2.2.queues_.e2.many_, .agg [I r_.2.2.queues_.e2.l_.e0, I r_.2.2.queues_.e2.l_.e1, I r_.2.2.queues_.e2.l_.e2, I r_.2.2.queues_.e2.l_.e3]], .agg [I r_.2.2.queues_.e3.many_, .agg [I r_.2.2.queues_.e3.l_.e0, I r_.2.2.queues_.e3.l_.e1, I r_.2.2.queues_.e3.l_.e2, I r_.2.2.queues_.e3.l_.e3]]]])])), (48, .d (.sptr (eSl 1 false (eI .i64) x0.Channels))), (49, .d (eSl 1 false (eI .i64) x0.Channels)), (51, .d (I x24.Channel)), (52, .d (.sptr (I Channel_e))), (53, .d (I Channel_e)), (54, .d (B (decide (Channel_e > 0)))), (58, .d (I ((x0.Parts.length : Nat) : Int))), (59, .d (I x59)), (68, .d (.fn 103 [.sptr (.agg [I r_3.1.Messages, I r_3.1.Labels, eSl 1 false (eI .i64) r_3.1.Channels, eSl 3 false vg r_3.1.Parts]), .sptr (I r_3.2.1), .sptr (.agg [.agg [I r_3.2.2.states_.e0, I r_3.2.2.states_.e1, I r_3.2.2.states_.e2, I r_3.2.2.states_.e3], .agg [.agg [I r_3.2.2.queues_.e0.many_, .agg [I r_3.2.2.queues_.e0.l_.e0, I r_3.2.2.queues_.e0.l_.e1, I r_3.2.2.queues_.e0.l_.e2, I r_3.2.2.queues_.e0.l_.e3]], .agg [I r_3.2.2.queues_.e1.many_, .agg [I r_3.2.2.queues_.e1.l_.e0, I r_3.2.2.queues_.e1.l_.e1, I r_3.2.2.queues_.e1.l_.e2, I r_3.2.2.queues_.e1.l_.e3]], .agg [I r_3.2.2.queues_.e2.many_, .agg [I r_3.2.2.queues_.e2.l_.e0, I r_3.2.2.queues_.e2.l_.e1, I r_3.2.2.queues_.e2.l_.e2, I r_3.2.2.queues_.e2.l_.e3]], .agg [I r_3.2.2.queues_.e3.many_, .agg [I r_3.2.2.queues_.e3.l_.e0, I r_3.2.2.queues_.e3.l_.e1, I r_3.2.2.queues_.e3.l_.e2, I r_3.2.2.queues_.e3.l_.e3]]]])])), (76, .d (I x70.Channel)), (78, .d (I x24.Channel)), (79, .d (B (x70.Channel != x24.Channel))), (83, .d (I x70.Message)), (85, .d (I x24.Message)), (86, .d (B (x70.Message != x24.Message)))]) ⟨_, rfl⟩ (fun b12 => yF ((xIa zS 98 12 0 b12).or ((xFa zS 97 12 0 b12).or ((xIa zS 96 12 0 b12).or ((xFa zS 95 12 0 b12).or X0)))) hC .normal [(0, .own (.opq (YY sg6).q)), (1, .d (.sptr (yN x0))), (2, .d (.sptr (x7 x1))), (3, .own (.box (.atom yv))), (4, .own (.box (I x16))), (5, .own (.box (I x23))), (6, .own (.box (kg x24))), (9, .own (.box (I x59))), (10, .d (I x69)), (12, .own (.box (.agg [F0_ arr1, F8_ x1.queues_]))), (15, .d (I ((x0.Parts.length : Nat) : Int))), (16, .d (I x16)), (22, .d (.fn 103 [.sptr (.agg [I r_.1.Messages, I r_.1.Labels, eSl 1 false (eI .i64) r_.1.Channels, eSl 3 false vg r_.1.Parts]), .sptr (I r_.2.1), .sptr (.agg [.agg [I r_.2.2.states_.e0, I r_.2.2.states_.e1, I r_.2.2.states_.e2, I r_.2.2.states_.e3], .agg [.agg [I r_.2.2.queues_.e0.many_, .agg [I r_.2.2.queues_.e0.l_.e0, I r_.2.2.queues_.e0.l_.e1, I r_.2.2.queues_.e0.l_.e2, I r_.2.2.queues_.e0.l_.e3]], .agg [I r_.2.2.queues_.e1.many_, .agg [I r_.2.2.queues_.e1.l_.e0, I r_.2.2.queues_.e1.l_.e1, I r_.2.2.queues_.e1.l_.e2, I r_.2.2.queues_.e1.l_.e3]], .agg [I r_.2.2.queues_.e2.many_, .agg [I r_.2.2.queues_.e2.l_.e0, I r_.2.2.queues_.e2.l_.e1, I r_.2.2.queues_.e2.l_.e2, I r_.2.2.queues_.e2.l_.e3]], .agg [I r_.2.2.queues_.e3.many_, .agg [I r_.2.2.queues_.e3.l_.e0, I r_.2.2.queues_.e3.l_.e1, I r_.2.2.queues_.e3.l_.e2, I r_.2.2.queues_.e3.l_.e3]]]])])), (48, .d (.sptr (eSl 1 false (eI .i64) x0.Channels))), (49, .d (eSl 1 false (eI .i64) x0.Channels)), (51, .d (I x24.Channel)), (52, .d (.sptr (I Channel_e))), (53, .d (I Channel_e)), (54, .d (B (decide (Channel_e > 0)))), (58, .d (I ((x0.Parts.length : Nat) : Int))), (59, .d (I x59)), (68, .d (.fn 103 [.sptr (.agg [I r_3.1.Messages, I r_3.1.Labels, eSl 1 false (eI .i64) r_3.1.Channels, eSl 3 false vg r_3.1.Parts]), .sptr (I r_3.2.1), .sptr (.agg [.agg [I r_3.2.2.states_.e0, I r_3.2.2.states_.e1, I r_3.2.2.states_.e2, I r_3.2.2.states_.e3], .agg [.agg [I r_3.2.2.queues_.e0.many_, .agg [I r_3.2.2.queues_.e0.l_.e0, I r_3.2.2.queues_.e0.l_.e1, I r_3.2.2.queues_.e0.l_.e2, I r_3.2.2.queues_.e0.l_.e3]], .agg [I r_3.2.2.queues_.e1.many_, .agg [I r_3.2.2.queues_.e1.l_.e0, I r_3.2.2.queues_.e1.l_.e1, I r_3.2.2.queues_.e1.l_.e2, I r_3.2.2.queues_.e1.l_.e3]], .agg [I r_3.2.2.queues_.e2.many_, .agg [I r_3.2.2.queues_.e2.l_.e0, I r_3.2.2.queues_.e2.l_.e1, I r_3.2.2.queues_.e2.l_.e2, I r_3.2.2.queues_.e2.l_.e3]], .agg [I r_3.2.2.queues_.e3.many_, .agg [I r_3.2.2.queues_.e3.l_.e0, I r_3.2.2.queues_.e3.l_.e1, I r_3.2.2.queues_.e3.l_.e2, I r_3.2.2.queues_.e3.l_.e3]]]])])), (76, .d (I x70.Channel)), (78, .d (I x24.Channel)), (79, .d (B (x70.Channel != x24.Channel))), (83, .d (I x70.Message)), (85, .d (I x24.Message)), (86, .d (B (x70.Message != x24.Message)))] [Hn (rfl : some (z0Q b12) = some (z0Q b12)), Hn (⟨rfl, rfl⟩ : T.d (.atom (.pointer (some ⟨b12,0, none⟩))) = T.d (.atom (.pointer (some ⟨b12,0, none⟩))) ∧ some (z0Q b12) = some (z0Q b12)), Hn (⟨arJ (by kernel_rfl) (i0 h6), (iL (eI .i64) h6).2⟩ : ZX wB 110 ((zF.toL x1.states_).map (eI .i64)) x16 = true ∧ x16.toNat < ((zF.toL x1.states_).map (eI .i64)).length), Hh (.op 8), Hh (.f), Hx (.a (.agg [I x1.states_.e0, I x1.states_.e1, I x1.states_.e2, I x1.states_.e3])) (rfl : some (.agg [I x1.states_.e0, I x1.states_.e1, I x1.states_.e2, I x1.states_.e3] : A) = some (.agg [I x1.states_.e0, I x1.states_.e1, I x1.states_.e2, I x1.states_.e3])), Hh (.f), Hs (iM (eI .i64) h6), Hh (.f), Hx (.a (.agg [I x1.states_.e0, I x1.states_.e1, I x1.states_.e2, I x1.states_.e3])) (rfl : some (.agg [I x1.states_.e0, I x1.states_.e1, I x1.states_.e2, I x1.states_.e3] : A) = some (.agg [I x1.states_.e0, I x1.states_.e1, I x1.states_.e2, I x1.states_.e3])), Hh (.f), Hs (iM (eI .i64) h6), Hx (.l ((zF.toL arr).map (eI .i64))) ((zF.setL (eI .i64) x1.states_ x16 x24.To).trans (congrArg (fun q => (zF.toL q).map (eI .i64)) h7)), Hx (.l [.agg [I arr.e0, I arr.e1, I arr.e2, I arr.e3], .agg [.agg [I x1.queues_.e0.many_, .agg [I x1.queues_.e0.l_.e0, I x1.queues_.e0.l_.e1, I x1.queues_.e0.l_.e2, I x1.queues_.e0.l_.e3]], .agg [I x1.queues_.e1.many_, .agg [I x1.queues_.e1.l_.e0, I x1.queues_.e1.l_.e1, I x1.queues_.e1.l_.e2, I x1.queues_.e1.l_.e3]], .agg [I x1.queues_.e2.many_, .agg [I x1.queues_.e2.l_.e0, I x1.queues_.e2.l_.e1, I x1.queues_.e2.l_.e2, I x1.queues_.e2.l_.e3]], .agg [I x1.queues_.e3.many_, .agg [I x1.queues_.e3.l_.e0, I x1.queues_.e3.l_.e1, I x1.queues_.e3.l_.e2, I x1.queues_.e3.l_.e3]]]]) (rfl : ([.agg [I arr.e0, I arr.e1, I arr.e2, I arr.e3], .agg [.agg [I x1.queues_.e0.many_, .agg [I x1.queues_.e0.l_.e0, I x1.queues_.e0.l_.e1, I x1.queues_.e0.l_.e2, I x1.queues_.e0.l_.e3]], .agg [I x1.queues_.e1.many_, .agg [I x1.queues_.e1.l_.e0, I x1.queues_.e1.l_.e1, I x1.queues_.e1.l_.e2, I x1.queues_.e1.l_.e3]], .agg [I x1.queues_.e2.many_, .agg [I x1.queues_.e2.l_.e0, I x1.queues_.e2.l_.e1, I x1.queues_.e2.l_.e2, I x1.queues_.e2.l_.e3]], .agg [I x1.queues_.e3.many_, .agg [I x1.queues_.e3.l_.e0, I x1.queues_.e3.l_.e1, I x1.queues_.e3.l_.e2, I x1.queues_.e3.l_.e3]]]] : List A) = [.agg [I arr.e0, I arr.e1, I arr.e2, I arr.e3], .agg [.agg [I x1.queues_.e0.many_, .agg [I x1.queues_.e0.l_.e0, I x1.queues_.e0.l_.e1, I x1.queues_.e0.l_.e2, I x1.queues_.e0.l_.e3]], .agg [I x1.queues_.e1.many_, .agg [I x1.queues_.e1.l_.e0, I x1.queues_.e1.l_.e1, I x1.queues_.e1.l_.e2, I x1.queues_.e1.l_.e3]], .agg [I x1.queues_.e2.many_, .agg [I x1.queues_.e2.l_.e0, I x1.queues_.e2.l_.e1, I x1.queues_.e2.l_.e2, I x1.queues_.e2.l_.e3]], .agg [I x1.queues_.e3.many_, .agg [I x1.queues_.e3.l_.e0, I x1.queues_.e3.l_.e1, I x1.queues_.e3.l_.e2, I x1.queues_.e3.l_.e3]]]]), Hn (rfl : some (z0Q b12) = some (z0Q b12)), Hn (⟨rfl, rfl⟩ : T.d (.atom (.pointer (some ⟨b12,0, none⟩))) = T.d (.atom (.pointer (some ⟨b12,0, none⟩))) ∧ some (z0Q b12) = some (z0Q b12)), Hn (⟨arJ (by kernel_rfl) (i0 h8), (iL (eI .i64) h8).2⟩ : ZX wB 110 ((zF.toL arr).map (eI .i64)) x59 = true ∧ x59.toNat < ((zF.toL arr).map (eI .i64)).length), Hh (.op 2), Hh (.f), Hx (.a (.agg [I arr.e0, I arr.e1, I arr.e2, I arr.e3])) (rfl : some (.agg [I arr.e0, I arr.e1, I arr.e2, I arr.e3] : A) = some (.agg [I arr.e0, I arr.e1, I arr.e2, I arr.e3])), Hh (.f), Hs (iM (eI .i64) h8), Hh (.f), Hx (.a (.agg [I arr.e0, I arr.e1, I arr.e2, I arr.e3])) (rfl : some (.agg [I arr.e0, I arr.e1, I arr.e2, I arr.e3] : A) = some (.agg [I arr.e0, I arr.e1, I arr.e2, I arr.e3])), Hh (.f), Hs (iM (eI .i64) h8), Hx (.l ((zF.toL arr1).map (eI .i64))) ((zF.setL (eI .i64) arr x59 x70.To).trans (congrArg (fun q => (zF.toL q).map (eI .i64)) h9)), Hx (.l [.agg [I arr1.e0, I arr1.e1, I arr1.e2, I arr1.e3], .agg [.agg [I x1.queues_.e0.many_, .agg [I x1.queues_.e0.l_.e0, I x1.queues_.e0.l_.e1, I x1.queues_.e0.l_.e2, I x1.queues_.e0.l_.e3]], .agg [I x1.queues_.e1.many_, .agg [I x1.queues_.e1.l_.e0, I x1.queues_.e1.l_.e1, I x1.queues_.e1.l_.e2, I x1.queues_.e1.l_.e3]], .agg [I x1.queues_.e2.many_, .agg [I x1.queues_.e2.l_.e0, I x1.queues_.e2.l_.e1, I x1.queues_.e2.l_.e2, I x1.queues_.e2.l_.e3]], .agg [I x1.queues_.e3.many_, .agg [I x1.queues_.e3.l_.e0, I x1.queues_.e3.l_.e1, I x1.queues_.e3.l_.e2, I x1.queues_.e3.l_.e3]]]]) (rfl : ([.agg [I arr1.e0, I arr1.e1, I arr1.e2, I arr1.e3], .agg [.agg [I x1.queues_.e0.many_, .agg [I x1.queues_.e0.l_.e0, I x1.queues_.e0.l_.e1, I x1.queues_.e0.l_.e2, I x1.queues_.e0.l_.e3]], .agg [I x1.queues_.e1.many_, .agg [I x1.queues_.e1.l_.e0, I x1.queues_.e1.l_.e1, I x1.queues_.e1.l_.e2, I x1.queues_.e1.l_.e3]], .agg [I x1.queues_.e2.many_, .agg [I x1.queues_.e2.l_.e0, I x1.queues_.e2.l_.e1, I x1.queues_.e2.l_.e2, I x1.queues_.e2.l_.e3]], .agg [I x1.queues_.e3.many_, .agg [I x1.queues_.e3.l_.e0, I x1.queues_.e3.l_.e1, I x1.queues_.e3.l_.e2, I x1.queues_.e3.l_.e3]]]] : List A) = [.agg [I arr1.e0, I arr1.e1, I arr1.e2, I arr1.e3], .agg [.agg [I x1.queues_.e0.many_, .agg [I x1.queues_.e0.l_.e0, I x1.queues_.e0.l_.e1, I x1.queues_.e0.l_.e2, I x1.queues_.e0.l_.e3]], .agg [I x1.queues_.e1.many_, .agg [I x1.queues_.e1.l_.e0, I x1.queues_.e1.l_.e1, I x1.queues_.e1.l_.e2, I x1.queues_.e1.l_.e3]], .agg [I x1.queues_.e2.many_, .agg [I x1.queues_.e2.l_.e0, I x1.queues_.e2.l_.e1, I x1.queues_.e2.l_.e2, I x1.queues_.e2.l_.e3]], .agg [I x1.queues_.e3.many_, .agg [I x1.queues_.e3.l_.e0, I x1.queues_.e3.l_.e1, I x1.queues_.e3.l_.e2, I x1.queues_.e3.l_.e3]]]])] fun st0 h0 => ⟨rfl, h0⟩) fun st1 h1 => z09 h1 ?_
              obtain ⟨yr1, h10, hf4⟩ := zl hf4
              let Z5 : List HO := [Hn (⟨rfl, rfl, _, rfl⟩ : T.own (.box (.atom yv)) = T.own (.box (.atom yv)) ∧ some yv = some yv ∧ ∃ x, T.own (.opq (YY sg6).q) = T.own x), Hn (z1E (yv := yv) (Y := YY) (enc := (fun (x : zc × za) (_ : Bool) (_ : Value) => [w6 x.1, x7 x.2])) (s := sg6) (x := ((zc.mk x16 x23 x59 x69), (za.mk arr1 x1.queues_))) (s' := yr1.1) (b := yr1.2) (v := .nilFunc) [w6 (zc.mk x16 x23 x59 x69), x7 (za.mk arr1 x1.queues_)] (show z0h [w6 (zc.mk x16 x23 x59 x69), x7 (za.mk arr1 x1.queues_)] [w6 (zc.mk x16 x23 x59 x69), x7 (za.mk arr1 x1.queues_)] from inferInstance))]
              rcases zR hf4 with ⟨c10, hf4⟩ | ⟨c10, hf4⟩
              ·obtain rfl := zi hf4
               exact yF ((K3 (P := Tryz.prog) wB hy 106 (s := sg6) (x := ((zc.mk x16 x23 x59 x69), (za.mk arr1 x1.queues_))) (s' := yr1.1) (b := yr1.2) .nilFunc h10).or ((xLy zS 99 3 0 yv).or X0)) hC .ret (yd x0 x1 yv YY x16 r_ x23 x24 Channel_e x59 r_3 yr1.1) (Z5 ++ [Hq c10]) fun st0 h0 => ⟨rfl, _, h0, LeL.refl _⟩
              ·obtain rfl := zi hf4
               exact yF ((K3 (P := Tryz.prog) wB hy 106 (s := sg6) (x := ((zc.mk x16 x23 x59 x69), (za.mk arr1 x1.queues_))) (s' := yr1.1) (b := yr1.2) .nilFunc h10).or ((xLy zS 99 3 0 yv).or X0)) hC .normal (yd x0 x1 yv YY x16 r_ x23 x24 Channel_e x59 r_3 yr1.1) (Z5 ++ [Hq c10]) fun st0 h0 => ⟨rfl, _, h0, LeL.refl _⟩
          ·rcases t6 with sg6 | sg6
           ·dsimp only at hf3
            exact YO (by kernel_rfl) (hJ5 _ [(0, .own (.opq (YY sg6).q)), (1, .d (.sptr (yN x0))), (2, .d (.sptr (x7 x1))), (3, .own (.box (.atom yv))), (4, .own (.box (I x16))), (5, .own (.box (I x23))), (6, .own (.box (kg x24))), (15, .d (I ((x0.Parts.length : Nat) : Int))), (16, .d (I x16)), (22, .d (.fn 103 [.sptr (.agg [I r_.1.Messages, I r_.1.Labels, eSl 1 false (eI .i64) r_.1.Channels, eSl 3 false vg r_.1.Parts]), .sptr (I r_.2.1), .sptr (.agg [.agg [I r_.2.2.states_.e0, I r_.2.2.states_.e1, I r_.2.2.states_.e2, I r_.2.2.states_.e3], .agg [.agg [I r_.2.2.queues_.e0.many_, .agg [I r_.2.2.queues_.e0.l_.e0, I r_.2.2.queues_.e0.l_.e1, I r_.2.2.queues_.e0.l_.e2, I r_.2.2.queues_.e0.l_.e3]], .agg [I r_.2.2.queues_.e1.many_, .agg [I r_.2.2.queues_.e1.l_.e0, I r_.2.2.queues_.e1.l_.e1, I r_.2.2.queues_.e1.l_.e2, I r_.2.2.queues_.e1.l_.e3]], .agg [I r_.2.2.queues_.e2.many_, .agg [I r_.2.2.queues_.e2.l_.e0, I r_.2.2.queues_.e2.l_.e1, I r_.2.2.queues_.e2.l_.e2, I r_.2.2.queues_.e2.l_.e3]], .agg [I r_.2.2.queues_.e3.many_, .agg [I r_.2.2.queues_.e3.l_.e0, I r_.2.2.queues_.e3.l_.e1, I r_.2.2.queues_.e3.l_.e2, I r_.2.2.queues_.e3.l_.e3]]]])])), (48, .d (.sptr (eSl 1 false (eI .i64) x0.Channels))), (49, .d (eSl 1 false (eI .i64) x0.Channels)), (51, .d (I x24.Channel)), (52, .d (.sptr (I Channel_e))), (53, .d (I Channel_e)), (54, .d (B (decide (Channel_e > 0)))), (58, .d (I ((x0.Parts.length : Nat) : Int))), (59, .d (I x59))] sg6 hf3 (show Own.canon [0,1,2,3,4,5,6,15,16,22,48,49,51,52,53,54,58,59] _ = ofL _ by kernel_rfl) inferInstance)
           ·dsimp only at hf3
            show AWP _ _ (Code.ret) _ _
            obtain rfl := zi hf3
            obtain rfl := hl3
            obtain rfl := zi hf2
            exact yF X0 hC .ret (y5 x0 x1 yv YY x16 r_ sg6) [] fun st0 h0 => ⟨rfl, _, h0, LeL.refl _⟩
       ·obtain rfl := zi hf3
        obtain rfl := hl3
        obtain rfl := zi hf2
        exact yF X0 hC .normal (y5 x0 x1 yv YY x16 r_ sg4) [Hq c5] fun st0 h0 => ⟨rfl, _, h0, LeL.refl _⟩
   ·rcases t3 with sg3 | sg3
    ·dsimp only at hf1
     exact YO (by kernel_rfl) (hJ2 _ [(0, .own (.opq (YY sg3).q)), (1, .d (.sptr (yN x0))), (2, .d (.sptr (x7 x1))), (3, .own (.box (.atom yv))), (15, .d (I ((x0.Parts.length : Nat) : Int))), (16, .d (I x16))] sg3 hf1 (show Own.canon [0,1,2,3,15,16] _ = ofL _ by kernel_rfl) inferInstance)
    ·dsimp only at hf1
     show AWP _ _ (Code.ret) _ _
     obtain rfl := zi hf1
     obtain rfl := hl1
     obtain rfl := zi hf0
     exact yF X0 hC .ret [(0, .own (.opq (YY sg3).q))] [] fun st0 h0 => hE _ st0 (.inr rfl) h0
 ·obtain rfl := zi hf1
  obtain rfl := hl1
  obtain rfl := zi hf0
  exact yF X0 hC .normal [(0, .own (.opq (YY sg1).q))] [Hq c0] fun st0 h0 => hE _ st0 (.inl rfl) h0
def qn : Code := (Tryz.f71.body).getD .skip
def xz : xm := spF (α := List z7) (ρ := List z7) 71 (fun x => [Wd x]) (fun r => wJ r) (fun x => yb x) [] (Qb)
theorem qC {ctr : Ctr} (hC : zW Tryz.prog ctr) : xz.Ok Tryz.prog := by
 refine y7 ?_
 rintro s_ r0 hf0
 try unfold yb at hf0
 refine yO true [(2, none)] qn 9 Tryz.func71 fun E hE => ?_
 obtain ⟨g0, hf0⟩ := gdE hf0
 obtain rfl := zi hf0
 exact yE X0 hC hE [Ha (lnM kB s_), Ha (lnM kB s_), Hn (slB g0), Hn (slC g0), Hn (z3c kB g0), Ha (z9h 5 kB s_ 0 ((s_.length : Nat) : Int).toNat)]
def un : Code := (Tryz.f72.body).getD .skip
def zM : xm := spR (α := List (List z7)) (ρ := List (List z7)) 72 (fun x => [(eOs 1 false wJ) x]) (fun r => (eOs 1 true wJ) r) (fun x => yj x) [true] (Qb)
theorem ug : ∀ x r, (fun x => yj x) x = some r → (Qe.add zM).run 72 ((Qe.add zM).norm 72 ((fun x => [(eOs 1 false wJ) x]) x)) = some ((fun r => (eOs 1 true wJ) r) r) := fun x r h => zfm h rfl
theorem uh : (Qe.add zM).lend 72 = none ∧ (Qe.add zM).gives 72 = [true] := zcN
theorem up {ctr : Ctr} (hC : zW Tryz.prog ctr) : zM.Ok Tryz.prog := by
 refine z9X ?_
 rintro s_ r0 hf0
 try unfold yj at hf0
 refine yO true [(2, none)] un 9 Tryz.func72 fun E hE => ?_
 obtain rfl := zi hf0
 exact yE ((xCl zS 8).or X0) hC hE [Ha (lnM wJ s_), Ha (lnM wJ s_), Hn (Int.natCast_nonneg _ : (0 : Int) ≤ ((s_.length : Nat) : Int)), Hn (Int.natCast_nonneg _ : (0 : Int) ≤ ((s_.length : Nat) : Int)), Hn (clB wJ s_), Ha (clE 1 wJ s_)]
def y6 : Code := (Tryz.f41.body).getD .skip
def wc : xm := spF (α := z6) (ρ := List za × List (List z7) × Int) 41 (fun x => [yN x]) (fun r => .tup [(eSl 24 false x7) r.1, z2i r.2.1, (eI .i64) r.2.2]) (fun x => yP x) [] (Qb)
abbrev Y4 (x4 : Int) (list : List za) (steps : List (List z7)) : List (Nat × T) := [(2, .own (.box (eOs 24 true x7 []))), (3, .own (.box (eOs 1 true Wd []))), (4, .own (.box (I x4))), (5, .own (.box (eOs 24 false x7 list))), (7, .own (eOs 1 false wJ steps))]
abbrev Y3 (x_ : z6) (i_ : Int) (x42 : Int) (list2 : List za) (at_1 : List (za × Int)) (steps2 : List (List z7)) : List (Nat × T) := [(1, .own (.box (yN x_))), (2, .own (.box (eOs 24 true x7 []))), (3, .own (.box (eOs 1 true Wd []))), (4, .own (.box (I x42))), (5, .own (.box (eOs 24 false x7 list2))), (6, .own (.box (.opq (X7 (Yt x7 (eI .i64) at_1))))), (7, .own (eOs 1 false wJ steps2)), (8, .d (I i_))]
abbrev Y2 (x_ : z6) (steps1 : List (List z7)) (i_ : Int) (x43 : Int) (list3 : List za) (at_2 : List (za × Int)) (l_ : List z7) : List (Nat × T) := [(1, .own (.box (yN x_))), (2, .own (.box (eOs 24 true x7 []))), (3, .own (.box (eOs 1 true Wd []))), (4, .own (.box (I x43))), (5, .own (.box (eOs 24 false x7 list3))), (6, .own (.box (.opq (X7 (Yt x7 (eI .i64) at_2))))), (7, .own (eOs 1 false wJ steps1)), (8, .d (I i_)), (9, .own (.box (eOs 5 false kB l_)))]
abbrev wl (x_ : z6) (steps1 : List (List z7)) (i_ : Int) (r_2 : z6 × za) (x44 : Int) (list4 : List za) (at_3 : List (za × Int)) (l_1 : List z7) : List (Nat × T) := [(1, .own (.box (yN x_))), (2, .own (.box (eOs 24 true x7 []))), (3, .own (.box (eOs 1 true Wd []))), (4, .own (.box (I x44))), (5, .own (.box (eOs 24 false x7 list4))), (6, .own (.box (.opq (X7 (Yt x7 (eI .i64) at_3))))), (7, .own (eOs 1 false wJ steps1)), (8, .d (I i_)), (9, .own (.box (eOs 5 false kB l_1))), (30, .d (.fn 82 [.sptr (.agg [I r_2.1.Messages, I r_2.1.Labels, eSl 1 false (eI .i64) r_2.1.Channels, eSl 3 false vg r_2.1.Parts]), .sptr (.agg [.agg [I r_2.2.states_.e0, I r_2.2.states_.e1, I r_2.2.states_.e2, I r_2.2.states_.e3], .agg [.agg [I r_2.2.queues_.e0.many_, .agg [I r_2.2.queues_.e0.l_.e0, I r_2.2.queues_.e0.l_.e1, I r_2.2.queues_.e0.l_.e2, I r_2.2.queues_.e0.l_.e3]], .agg [I r_2.2.queues_.e1.many_, .agg [I r_2.2.queues_.e1.l_.e0, I r_2.2.queues_.e1.l_.e1, I r_2.2.queues_.e1.l_.e2, I r_2.2.queues_.e1.l_.e3]], .agg [I r_2.2.queues_.e2.many_, .agg [I r_2.2.queues_.e2.l_.e0, I r_2.2.queues_.e2.l_.e1, I r_2.2.queues_.e2.l_.e2, I r_2.2.queues_.e2.l_.e3]], .agg [I r_2.2.queues_.e3.many_, .agg [I r_2.2.queues_.e3.l_.e0, I r_2.2.queues_.e3.l_.e1, I r_2.2.queues_.e3.l_.e2, I r_2.2.queues_.e3.l_.e3]]]])]))]
abbrev Y1 (x_ : z6) (steps1 : List (List z7)) (i_ : Int) (r_2 : z6 × za) (x44 : Int) (l_1 : List z7) (x31 : zc) (list5 : List za) (at_4 : List (za × Int)) (n_ : Int) : List (Nat × T) := [(1, .own (.box (yN x_))), (2, .own (.box (eOs 24 true x7 []))), (3, .own (.box (eOs 1 true Wd []))), (4, .own (.box (I x44))), (5, .own (.box (eOs 24 false x7 list5))), (6, .own (.box (.opq (X7 (Yt x7 (eI .i64) at_4))))), (7, .own (eOs 1 false wJ steps1)), (8, .d (I i_)), (9, .own (.box (eOs 5 false kB l_1))), (10, .own (.box (w6 x31))), (12, .d (I n_)), (30, .d (.fn 82 [.sptr (.agg [I r_2.1.Messages, I r_2.1.Labels, eSl 1 false (eI .i64) r_2.1.Channels, eSl 3 false vg r_2.1.Parts]), .sptr (.agg [.agg [I r_2.2.states_.e0, I r_2.2.states_.e1, I r_2.2.states_.e2, I r_2.2.states_.e3], .agg [.agg [I r_2.2.queues_.e0.many_, .agg [I r_2.2.queues_.e0.l_.e0, I r_2.2.queues_.e0.l_.e1, I r_2.2.queues_.e0.l_.e2, I r_2.2.queues_.e0.l_.e3]], .agg [I r_2.2.queues_.e1.many_, .agg [I r_2.2.queues_.e1.l_.e0, I r_2.2.queues_.e1.l_.e1, I r_2.2.queues_.e1.l_.e2, I r_2.2.queues_.e1.l_.e3]], .agg [I r_2.2.queues_.e2.many_, .agg [I r_2.2.queues_.e2.l_.e0, I r_2.2.queues_.e2.l_.e1, I r_2.2.queues_.e2.l_.e2, I r_2.2.queues_.e2.l_.e3]], .agg [I r_2.2.queues_.e3.many_, .agg [I r_2.2.queues_.e3.l_.e0, I r_2.2.queues_.e3.l_.e1, I r_2.2.queues_.e3.l_.e2, I r_2.2.queues_.e3.l_.e3]]]])]))]
abbrev Y0 (x_ : z6) (x41 : Int) (list1 : List za) (at_ : List (za × Int)) (steps1 : List (List z7)) (i_ : Int) : List (Nat × T) := [(1, .own (.box (yN x_))), (2, .own (.box (eOs 24 true x7 []))), (3, .own (.box (eOs 1 true Wd []))), (4, .own (.box (I x41))), (5, .own (.box (eOs 24 false x7 list1))), (6, .own (.box (.opq (X7 (Yt x7 (eI .i64) at_))))), (7, .own (eOs 1 false wJ steps1)), (8, .d (I i_))]
theorem Xx {ctr : Ctr} (hC : zW Tryz.prog ctr) (h0e : ctr.Has wb) (h07 : ctr.Has xL) (h09 : ctr.Has xK) (h0a : ctr.Has jz) (h0v : ctr.Has xz) : wc.Ok Tryz.prog := by
 refine y7 ?_
 rintro x_ r0 hf0
 try unfold yP at hf0
 refine yO false [(2, some 103), (3, some 32), (4, some 40)] y6 66 Tryz.func41 fun E hE => ?_
 refine yJ ((zeG z4h 16 (Yt x7 (eI .i64) ([] : List (za × Int))) (Yt x7 (eI .i64) (JI ([] : List (za × Int)) (za.mk (zF.mk 0 0 0 0) (zF.mk (zg.mk 0 (zF.mk 0 0 0 0)) (zg.mk 0 (zF.mk 0 0 0 0)) (zg.mk 0 (zF.mk 0 0 0 0)) (zg.mk 0 (zF.mk 0 0 0 0)))) 0))).or ((zcf Tryz.prog 16).or X0)) hC y6 [1,1,1] [] [2,3,4,5,7] (fun z : Int × List za × List (List z7) => uz z.1 z.2.1 z.2.2 = some r0) (fun z => Y4 z.1 z.2.1 z.2.2) [(1, .own (.box (yN x_))), (2, .own (.box (eOs 24 true x7 []))), (3, .own (.box (eOs 1 true Wd []))), (4, .own (.box (I 0))), (5, .own (.box (eOs 24 true x7 ([(za.mk (zF.mk 0 0 0 0) (zF.mk (zg.mk 0 (zF.mk 0 0 0 0)) (zg.mk 0 (zF.mk 0 0 0 0)) (zg.mk 0 (zF.mk 0 0 0 0)) (zg.mk 0 (zF.mk 0 0 0 0))))])))), (6, .own (.box (.opq (X7 (Yt x7 (eI .i64) (JI ([] : List (za × Int)) (za.mk (zF.mk 0 0 0 0) (zF.mk (zg.mk 0 (zF.mk 0 0 0 0)) (zg.mk 0 (zF.mk 0 0 0 0)) (zg.mk 0 (zF.mk 0 0 0 0)) (zg.mk 0 (zF.mk 0 0 0 0)))) 0)))))), (7, .own (eOs 1 true Wd []))] [Hn (⟨rfl, rfl, rfl, rfl, z4L (fun _ => rfl) ([] : List (za × Int))⟩ : T.own (.opq (X7 (Yt x7 (eI .i64) ([] : List (za × Int))))) = T.own (.opq (X7 (Yt x7 (eI .i64) ([] : List (za × Int))))) ∧ 1 = 1 ∧ (Jg [.i64, .i64, .i64, .i64, .i64, .i64, .i64, .i64, .i64, .i64, .i64, .i64, .i64, .i64, .i64, .i64, .i64, .i64, .i64, .i64, .i64, .i64, .i64, .i64]) (x7 (za.mk (zF.mk 0 0 0 0) (zF.mk (zg.mk 0 (zF.mk 0 0 0 0)) (zg.mk 0 (zF.mk 0 0 0 0)) (zg.mk 0 (zF.mk 0 0 0 0)) (zg.mk 0 (zF.mk 0 0 0 0))))) = true ∧ ((eI .i64) 0).isD = true ∧ ∀ p ∈ Yt x7 (eI .i64) ([] : List (za × Int)), (Jg [.i64, .i64, .i64, .i64, .i64, .i64, .i64, .i64, .i64, .i64, .i64, .i64, .i64, .i64, .i64, .i64, .i64, .i64, .i64, .i64, .i64, .i64, .i64, .i64]) p.1 = true), Hn (z3X (f := x7) (g := (eI .i64)) (za.mk (zF.mk 0 0 0 0) (zF.mk (zg.mk 0 (zF.mk 0 0 0 0)) (zg.mk 0 (zF.mk 0 0 0 0)) (zg.mk 0 (zF.mk 0 0 0 0)) (zg.mk 0 (zF.mk 0 0 0 0)))) 0 ([] : List (za × Int))), Hh (.cut 3)] ?_ fun J1 hJ1 => ?_
 ·rintro ⟨x4, list, steps⟩ hf0
  unfold uz at hf0
  obtain ⟨r_, h0, hf0⟩ := zl hf0
  obtain rfl := zi hf0
  exact yE ((JM zS (up hC) 65).or X0) hC hE [Hh (.g [true]), Hn uh, Hx (.a ((eOs 1 true wJ) r_)) (ug steps _ h0), Hm (shM x7 x7 list), Hm (shM wJ wJ r_)]
 ·obtain ⟨t2, ht2, hf0⟩ := zl hf0
  refine yLx X0 hC y6 [1,1,1,2,1,0] [J1] (fun s => w8 x_ s.1 s.2.1 s.2.2.1 s.2.2.2.1 s.2.2.2.2) (fun x => Y0 x_ x.1 x.2.1 x.2.2.1 x.2.2.2.1 x.2.2.2.2) (0, ([(za.mk (zF.mk 0 0 0 0) (zF.mk (zg.mk 0 (zF.mk 0 0 0 0)) (zg.mk 0 (zF.mk 0 0 0 0)) (zg.mk 0 (zF.mk 0 0 0 0)) (zg.mk 0 (zF.mk 0 0 0 0))))] : List za), (JI ([] : List (za × Int)) (za.mk (zF.mk 0 0 0 0) (zF.mk (zg.mk 0 (zF.mk 0 0 0 0)) (zg.mk 0 (zF.mk 0 0 0 0)) (zg.mk 0 (zF.mk 0 0 0 0)) (zg.mk 0 (zF.mk 0 0 0 0)))) 0), ([] : List (List z7)), 0) ht2 [(1, .own (.box (yN x_))), (2, .own (.box (eOs 24 true x7 []))), (3, .own (.box (eOs 1 true Wd []))), (4, .own (.box (I 0))), (5, .own (.box (eOs 24 true x7 ([(za.mk (zF.mk 0 0 0 0) (zF.mk (zg.mk 0 (zF.mk 0 0 0 0)) (zg.mk 0 (zF.mk 0 0 0 0)) (zg.mk 0 (zF.mk 0 0 0 0)) (zg.mk 0 (zF.mk 0 0 0 0))))])))), (6, .own (.box (.opq (X7 (Yt x7 (eI .i64) (JI ([] : List (za × Int)) (za.mk (zF.mk 0 0 0 0) (zF.mk (zg.mk 0 (zF.mk 0 0 0 0)) (zg.mk 0 (zF.mk 0 0 0 0)) (zg.mk 0 (zF.mk 0 0 0 0)) (zg.mk 0 (zF.mk 0 0 0 0)))) 0)))))), (7, .own (eOs 1 true wJ [])), (8, .d (I 0))] inferInstance [] ?_
  rintro ⟨x41, list1, at_, steps1, i_⟩ m2 lr1 hf1 hl1 J2 hJ2
  try unfold w8 at hf1
  let Z0 : List HO := [Ha (lnM x7 list1)]
  rcases zR hf1 with ⟨c0, hf1⟩ | ⟨c0, hf1⟩
  ·refine yJ X0 hC y6 [1,1,1,2,1,0,0,1] [J1, J2] [1,2,3,4,5,6,7,8] (fun z : Int × List za × (List (za × Int)) × List (List z7) => wX i_ z.1 z.2.1 z.2.2.1 z.2.2.2 = some lr1) (fun z => Y3 x_ i_ z.1 z.2.1 z.2.2.1 z.2.2.2) [(1, .own (.box (yN x_))), (2, .own (.box (eOs 24 true x7 []))), (3, .own (.box (eOs 1 true Wd []))), (4, .own (.box (I x41))), (5, .own (.box (eOs 24 false x7 list1))), (6, .own (.box (.opq (X7 (Yt x7 (eI .i64) at_))))), (7, .own (eOs 1 false wJ steps1)), (8, .d (I i_))] (Z0 ++ [Hq c0, Hh (.cut 0)]) ?_ fun J3 hJ3 => ?_
   ·rintro ⟨x42, list2, at_1, steps2⟩ hf1
    unfold wX at hf1
    obtain rfl := zi hf1
    exact yB X0 hC hJ2 (x42, list2, at_1, steps2, w64 (i_ + 1)) hl1 []
   ·refine yJ X0 hC y6 [1,1,1,2,1,0,0,1,2,0,1] [J1, J2, J3] [1,2,3,4,5,6,7,8,9] (fun z : Int × List za × (List (za × Int)) × List z7 => w9 steps1 i_ z.1 z.2.1 z.2.2.1 z.2.2.2 = some lr1) (fun z => Y2 x_ steps1 i_ z.1 z.2.1 z.2.2.1 z.2.2.2) [(1, .own (.box (yN x_))), (2, .own (.box (eOs 24 true x7 []))), (3, .own (.box (eOs 1 true Wd []))), (4, .own (.box (I x41))), (5, .own (.box (eOs 24 false x7 list1))), (6, .own (.box (.opq (X7 (Yt x7 (eI .i64) at_))))), (7, .own (eOs 1 false wJ steps1)), (8, .d (I i_)), (9, .own (.box (eOs 5 true kB [])))] [Hh (.cut 1)] ?_ fun J4 hJ4 => ?_
    ·rintro ⟨x43, list3, at_2, l_⟩ hf1
     unfold w9 at hf1
     obtain ⟨r_1, h1, hf1⟩ := zl hf1
     obtain ⟨g0, hf1⟩ := gdE hf1
     exact yB X0 hC hJ3 (x43, list3, at_2, (steps1 ++ ([r_1] : List (List z7)))) hf1 [Hg (z1x h0v), Hm (shM kB kB l_), Hs (z1y h0v (x := l_) h1 (loC Wd l_ <| loN)), Hm (shM kB kB l_), Hq (dM wJ ([r_1] : List (List z7))), Hn (dM wJ ([r_1] : List (List z7))), Hn (aL wJ wJ g0), Hl (aM wJ steps1 ([r_1] : List (List z7)))]
    ·obtain ⟨list_e, h2, hf1⟩ := zl hf1
     obtain ⟨r_2, h3, hf1⟩ := zl hf1
     obtain ⟨t5, ht5, hf1⟩ := zl hf1
     refine yAt X0 hC (sub [1,1,1,2,1,0,0,1,2,0,1,2,1,0] y6) (frs [1,1,1,2,1,0,0,1,2,0,1,2,1,0] [J1, J2, J3, J4] y6 []) [(1, .own (.box (yN x_))), (2, .own (.box (eOs 24 true x7 []))), (3, .own (.box (eOs 1 true Wd []))), (4, .own (.box (I x41))), (5, .own (.box (eOs 24 false x7 list1))), (6, .own (.box (.opq (X7 (Yt x7 (eI .i64) at_))))), (7, .own (eOs 1 false wJ steps1)), (8, .d (I i_)), (9, .own (.box (eOs 5 true kB []))), (30, .d (.fn 82 [.sptr (.agg [I r_2.1.Messages, I r_2.1.Labels, eSl 1 false (eI .i64) r_2.1.Channels, eSl 3 false vg r_2.1.Parts]), .sptr (.agg [.agg [I r_2.2.states_.e0, I r_2.2.states_.e1, I r_2.2.states_.e2, I r_2.2.states_.e3], .agg [.agg [I r_2.2.queues_.e0.many_, .agg [I r_2.2.queues_.e0.l_.e0, I r_2.2.queues_.e0.l_.e1, I r_2.2.queues_.e0.l_.e2, I r_2.2.queues_.e0.l_.e3]], .agg [I r_2.2.queues_.e1.many_, .agg [I r_2.2.queues_.e1.l_.e0, I r_2.2.queues_.e1.l_.e1, I r_2.2.queues_.e1.l_.e2, I r_2.2.queues_.e1.l_.e3]], .agg [I r_2.2.queues_.e2.many_, .agg [I r_2.2.queues_.e2.l_.e0, I r_2.2.queues_.e2.l_.e1, I r_2.2.queues_.e2.l_.e2, I r_2.2.queues_.e2.l_.e3]], .agg [I r_2.2.queues_.e3.many_, .agg [I r_2.2.queues_.e3.l_.e0, I r_2.2.queues_.e3.l_.e1, I r_2.2.queues_.e3.l_.e2, I r_2.2.queues_.e3.l_.e3]]]])]))] [Hn (iL x7 h2), Hs (iM x7 h2), Hc h0e (x := (x_, list_e)) h3 (loC yN x_ <| loC x7 list_e <| loN)] fun st0 h0 => ?_
     refine JE (g := .tmp 30) (ps := [31,32]) (assign := (sub [1,1,1,2,1,0,0,1,2,0,1,2,1,0,0] y6)) (body := (sub [1,1,1,2,1,0,0,1,2,0,1,2,1,0,1] y6)) (K := 82) (caps := [.sptr (.agg [I r_2.1.Messages, I r_2.1.Labels, eSl 1 false (eI .i64) r_2.1.Channels, eSl 3 false vg r_2.1.Parts]), .sptr (.agg [.agg [I r_2.2.states_.e0, I r_2.2.states_.e1, I r_2.2.states_.e2, I r_2.2.states_.e3], .agg [.agg [I r_2.2.queues_.e0.many_, .agg [I r_2.2.queues_.e0.l_.e0, I r_2.2.queues_.e0.l_.e1, I r_2.2.queues_.e0.l_.e2, I r_2.2.queues_.e0.l_.e3]], .agg [I r_2.2.queues_.e1.many_, .agg [I r_2.2.queues_.e1.l_.e0, I r_2.2.queues_.e1.l_.e1, I r_2.2.queues_.e1.l_.e2, I r_2.2.queues_.e1.l_.e3]], .agg [I r_2.2.queues_.e2.many_, .agg [I r_2.2.queues_.e2.l_.e0, I r_2.2.queues_.e2.l_.e1, I r_2.2.queues_.e2.l_.e2, I r_2.2.queues_.e2.l_.e3]], .agg [I r_2.2.queues_.e3.many_, .agg [I r_2.2.queues_.e3.l_.e0, I r_2.2.queues_.e3.l_.e1, I r_2.2.queues_.e3.l_.e2, I r_2.2.queues_.e3.l_.e3]]]])]) (by kernel_rfl) [1,2,3,4,5,6,7,8,9,30] (fun s => wl x_ steps1 i_ r_2 s.1 s.2.1 s.2.2.1 s.2.2.2) (fun s => wl x_ steps1 i_ r_2 s.1 s.2.1 s.2.2.1 s.2.2.2) (fun s => Code.ret) ((fun (x : zc × za) (_ : Bool) (_ : Value) => [w6 x.1, x7 x.2])) (F := @y9 r_2.1 r_2.2) (fun s x => zL s.1 s.2.1 s.2.2.1 s.2.2.2 x.1 x.2) (x41, list1, at_, ([] : List z7)) t5 _ h0 inferInstance (by kernel_rfl) (by decide) (fun _ => rfl) (fun _ => rfl) (by kernel_rfl) (fun _ _ _ => rfl) (u3 hC h07 h09 h0a r_2.1 r_2.2) ht5 ?_ ?_
     ·rintro tv5 ⟨x44, list4, at_3, l_1⟩ ⟨x31, x32⟩ vr lr2 hf2
      replace hf2 : zL x44 list4 at_3 l_1 x31 x32 = some lr2 := hf2
      unfold zL at hf2
      refine yF X0 hC .normal [(1, .own (.box (yN x_))), (2, .own (.box (eOs 24 true x7 []))), (3, .own (.box (eOs 1 true Wd []))), (4, .own (.box (I x44))), (5, .own (.box (eOs 24 false x7 list4))), (6, .own (.box (.opq (X7 (Yt x7 (eI .i64) at_3))))), (7, .own (eOs 1 false wJ steps1)), (8, .d (I i_)), (9, .own (.box (eOs 5 false kB l_1))), (10, .own (.box (w6 x31))), (11, .own (.box (x7 x32))), (30, .d (.fn 82 [.sptr (.agg [I r_2.1.Messages, I r_2.1.Labels, eSl 1 false (eI .i64) r_2.1.Channels, eSl 3 false vg r_2.1.Parts]), .sptr (.agg [.agg [I r_2.2.states_.e0, I r_2.2.states_.e1, I r_2.2.states_.e2, I r_2.2.states_.e3], .agg [.agg [I r_2.2.queues_.e0.many_, .agg [I r_2.2.queues_.e0.l_.e0, I r_2.2.queues_.e0.l_.e1, I r_2.2.queues_.e0.l_.e2, I r_2.2.queues_.e0.l_.e3]], .agg [I r_2.2.queues_.e1.many_, .agg [I r_2.2.queues_.e1.l_.e0, I r_2.2.queues_.e1.l_.e1, I r_2.2.queues_.e1.l_.e2, I r_2.2.queues_.e1.l_.e3]], .agg [I r_2.2.queues_.e2.many_, .agg [I r_2.2.queues_.e2.l_.e0, I r_2.2.queues_.e2.l_.e1, I r_2.2.queues_.e2.l_.e2, I r_2.2.queues_.e2.l_.e3]], .agg [I r_2.2.queues_.e3.many_, .agg [I r_2.2.queues_.e3.l_.e0, I r_2.2.queues_.e3.l_.e1, I r_2.2.queues_.e3.l_.e2, I r_2.2.queues_.e3.l_.e3]]]])]))] [] fun st0 h0 => ⟨rfl, z09 h0 ?_⟩
      obtain ⟨val, h4, hf2⟩ := zl hf2
      replace h4 := zi h4
      refine yJ ((zcg z4h 36 (Yt x7 (eI .i64) at_3)).or X0) hC y6 [1,1,1,2,1,0,0,1,2,0,1,2,1,0,1,0,1] [J1, J2, J3, J4] [1,2,3,4,5,6,7,8,9,10,12,30] (fun z : List za × (List (za × Int)) × Int => xG x44 l_1 x31 z.1 z.2.1 z.2.2 = some lr2) (fun z => Y1 x_ steps1 i_ r_2 x44 l_1 x31 z.1 z.2.1 z.2.2) [(1, .own (.box (yN x_))), (2, .own (.box (eOs 24 true x7 []))), (3, .own (.box (eOs 1 true Wd []))), (4, .own (.box (I x44))), (5, .own (.box (eOs 24 false x7 list4))), (6, .own (.box (.opq (X7 (Yt x7 (eI .i64) at_3))))), (7, .own (eOs 1 false wJ steps1)), (8, .d (I i_)), (9, .own (.box (eOs 5 false kB l_1))), (10, .own (.box (w6 x31))), (11, .own (.box (x7 x32))), (12, .d (I val)), (13, .d (B ((JJ at_3 x32).isSome))), (30, .d (.fn 82 [.sptr (.agg [I r_2.1.Messages, I r_2.1.Labels, eSl 1 false (eI .i64) r_2.1.Channels, eSl 3 false vg r_2.1.Parts]), .sptr (.agg [.agg [I r_2.2.states_.e0, I r_2.2.states_.e1, I r_2.2.states_.e2, I r_2.2.states_.e3], .agg [.agg [I r_2.2.queues_.e0.many_, .agg [I r_2.2.queues_.e0.l_.e0, I r_2.2.queues_.e0.l_.e1, I r_2.2.queues_.e0.l_.e2, I r_2.2.queues_.e0.l_.e3]], .agg [I r_2.2.queues_.e1.many_, .agg [I r_2.2.queues_.e1.l_.e0, I r_2.2.queues_.e1.l_.e1, I r_2.2.queues_.e1.l_.e2, I r_2.2.queues_.e1.l_.e3]], .agg [I r_2.2.queues_.e2.many_, .agg [I r_2.2.queues_.e2.l_.e0, I r_2.2.queues_.e2.l_.e1, I r_2.2.queues_.e2.l_.e2, I r_2.2.queues_.e2.l_.e3]], .agg [I r_2.2.queues_.e3.many_, .agg [I r_2.2.queues_.e3.l_.e0, I r_2.2.queues_.e3.l_.e1, I r_2.2.queues_.e3.l_.e2, I r_2.2.queues_.e3.l_.e3]]]])]))] [Hn (⟨rfl, rfl, z4L (fun _ => rfl) at_3⟩ : A.opq (X7 (Yt x7 (eI .i64) at_3)) = A.opq (X7 (Yt x7 (eI .i64) at_3)) ∧ (Jg [.i64, .i64, .i64, .i64, .i64, .i64, .i64, .i64, .i64, .i64, .i64, .i64, .i64, .i64, .i64, .i64, .i64, .i64, .i64, .i64, .i64, .i64, .i64, .i64]) (x7 x32) = true ∧ ∀ p ∈ Yt x7 (eI .i64) at_3, (Jg [.i64, .i64, .i64, .i64, .i64, .i64, .i64, .i64, .i64, .i64, .i64, .i64, .i64, .i64, .i64, .i64, .i64, .i64, .i64, .i64, .i64, .i64, .i64, .i64]) p.1 = true), Hx (.a (.tup [I val, B ((JJ at_3 x32).isSome)])) ((zfn (f := x7) (g := (eI .i64)) (z0 := 0) (z := .atom (.int .i64 0)) rfl x32 at_3).trans (congrArg (fun x => A.tup [(eI .i64) x, .atom (.bool (JJ at_3 x32).isSome)]) h4)), Hh (.cut 0)] ?_ fun J6 hJ6 => ?_
      ·rintro ⟨list5, at_4, n_⟩ hf2
       unfold xG at hf2
       obtain ⟨g1, hf2⟩ := gdE hf2
       obtain rfl := zi hf2
       exact yF X0 hC .normal (wl x_ steps1 i_ r_2 x44 list5 at_4 (l_1 ++ ([(z7.mk x31 n_)] : List z7))) [Hq (dM kB ([(z7.mk x31 n_)] : List z7)), Hn (dM kB ([(z7.mk x31 n_)] : List z7)), Hn (aL kB kB g1), Hl (aM kB l_1 ([(z7.mk x31 n_)] : List z7))] fun st0 h0 => ⟨rfl, _, h0, LeL.refl _⟩
      ·rcases zR hf2 with ⟨c1, hf2⟩ | ⟨c1, hf2⟩
       ·let Z1 : List HO := [Hq c1, Ha (lnM x7 list4)]
        rcases zR hf2 with ⟨c2, hf2⟩ | ⟨c2, hf2⟩
        ·obtain rfl := zi hf2
         exact yF X0 hC .ret (wl x_ steps1 i_ r_2 3 list4 at_3 l_1) (Z1 ++ [Hq c2]) fun st0 h0 => ⟨rfl, _, h0, LeL.refl _⟩
        ·obtain ⟨g2, hf2⟩ := gdE hf2
         exact yB ((zcd z4h 45 (Yt x7 (eI .i64) at_3) (Yt x7 (eI .i64) (JI at_3 x32 ((list4.length : Nat) : Int)))).or X0) hC hJ6 ((list4 ++ ([x32] : List za)), (JI at_3 x32 ((list4.length : Nat) : Int)), ((list4.length : Nat) : Int)) hf2 (Z1 ++ [Hq c2, Hq (dM x7 ([x32] : List za)), Hn (dM x7 ([x32] : List za)), Hn (aL x7 x7 g2), Hl (aM x7 list4 ([x32] : List za)), Hn (⟨rfl, ⟨rfl, rfl⟩, rfl, rfl, z4L (fun _ => rfl) at_3⟩ : T.own (.box (.opq (X7 (Yt x7 (eI .i64) at_3)))) = T.own (.box (.opq (X7 (Yt x7 (eI .i64) at_3)))) ∧ (0 = 0 ∧ 0 = 0) ∧ (Jg [.i64, .i64, .i64, .i64, .i64, .i64, .i64, .i64, .i64, .i64, .i64, .i64, .i64, .i64, .i64, .i64, .i64, .i64, .i64, .i64, .i64, .i64, .i64, .i64]) (x7 x32) = true ∧ ((eI .i64) ((list4.length : Nat) : Int)).isD = true ∧ ∀ p ∈ Yt x7 (eI .i64) at_3, (Jg [.i64, .i64, .i64, .i64, .i64, .i64, .i64, .i64, .i64, .i64, .i64, .i64, .i64, .i64, .i64, .i64, .i64, .i64, .i64, .i64, .i64, .i64, .i64, .i64]) p.1 = true), Hn (z3X (f := x7) (g := (eI .i64)) x32 ((list4.length : Nat) : Int) at_3)])
       ·exact yB X0 hC hJ6 (list4, at_3, val) hf2 [Hq c1]
     ·rcases t5 with ⟨x44, list4, at_3, l_1⟩ | z
      ·dsimp only at hf1
       exact YO (by kernel_rfl) (hJ4 _ [(1, .own (.box (yN x_))), (2, .own (.box (eOs 24 true x7 []))), (3, .own (.box (eOs 1 true Wd []))), (4, .own (.box (I x44))), (5, .own (.box (eOs 24 false x7 list4))), (6, .own (.box (.opq (X7 (Yt x7 (eI .i64) at_3))))), (7, .own (eOs 1 false wJ steps1)), (8, .d (I i_)), (9, .own (.box (eOs 5 false kB l_1)))] (x44, list4, at_3, l_1) hf1 (show Own.canon [1,2,3,4,5,6,7,8,9] _ = ofL _ by kernel_rfl) inferInstance)
      ·obtain ⟨x44, list4, at_3, l_1⟩ := z
       dsimp only at hf1
       show AWP _ _ (Code.ret) _ _
       obtain rfl := zi hf1
       obtain rfl := hl1
       obtain rfl := zi hf0
       exact yEx X0 hC hE [Hm (shM x7 x7 []), Hm (shM Wd Wd [])] (.tup [eSl 24 true x7 [], eSl 1 true wJ [], I x44]) (show LeV (.tup [eSl 24 true x7 [], eSl 1 true wJ [], I x44]) (.tup [eSl 24 false x7 ([] : List za), eSl 1 true wJ ([] : List (List z7)), I x44]) from inferInstance)
  ·obtain rfl := zi hf1
   obtain rfl := hl1
   exact yB X0 hC hJ1 (x41, list1, steps1) hf0 (Z0 ++ [Hq c0])
def Xl : Code := (Tryz.f75.body).getD .skip
def uG : xm := spF (α := List Int) (ρ := List Int) 75 (fun x => [F2_ x]) (fun r => (eOs 1 false (eI .i64)) r) (fun x => wg x) [] (Qb)
theorem Xz {ctr : Ctr} (hC : zW Tryz.prog ctr) : uG.Ok Tryz.prog := by
 refine y7 ?_
 rintro s_ r0 hf0
 try unfold wg at hf0
 refine yO true [(2, none)] Xl 8 Tryz.func75 fun E hE => ?_
 refine z94 rfl 0 (sz := 1) (t := false) (es := s_.map (eI .i64)) (by kernel_rfl) fun pv0 hv0 hn => ?_
 rcases hn with ⟨hn0, he0⟩ | hn0
 ·obtain ⟨_, hf0⟩ := gdE hf0
  rw [show s_ = [] from List.map_eq_nil_iff.1 he0] at hf0
  obtain rfl := zi hf0
  exact yEx ((zdy zS 4 26 (by kernel_rfl) hn0).or ((xMv Tryz.prog 3 0 pv0 hv0).or X0)) hC hE [Hn (rfl : some pv0 = some pv0), Hn (⟨rfl, rfl⟩ : T.d (.atom pv0) = T.d (.atom pv0) ∧ T.d (.atom (.slice none 0 0)) = T.d (.atom (.slice none 0 0))), qT] (eOs 1 true (eI .i64) []) (show LeV (eOs 1 true (eI .i64) []) (eOs 1 false (eI .i64) ([] : List Int)) from inferInstance)
 ·obtain ⟨g0, hf0⟩ := gdE hf0
  obtain rfl := zi hf0
  exact yE ((zdy zS 4 26 (by kernel_rfl) hn0).or ((xMv Tryz.prog 3 0 pv0 hv0).or X0)) hC hE [Hn (rfl : some pv0 = some pv0), Hn (⟨rfl, rfl⟩ : T.d (.atom pv0) = T.d (.atom pv0) ∧ T.d (.atom (.slice none 0 0)) = T.d (.atom (.slice none 0 0))), qF, Hn (dM (eI .i64) s_), Hn (aL (eI .i64) (eI .i64) g0), Hl (aM0 (eI .i64) s_)]
def XB : Code := (Tryz.f74.body).getD .skip
def uY : xm := spF (α := List Int) (ρ := List Int) 74 (fun x => [F2_ x]) (fun r => F1_ r) (fun x => ww x) [] (Qb)
theorem XP {ctr : Ctr} (hC : zW Tryz.prog ctr) : uY.Ok Tryz.prog := by
 refine y7 ?_
 rintro s_ r0 hf0
 try unfold ww at hf0
 refine yO true [(2, none)] XB 9 Tryz.func74 fun E hE => ?_
 obtain ⟨g0, hf0⟩ := gdE hf0
 obtain rfl := zi hf0
 exact yE X0 hC hE [Ha (lnM (eI .i64) s_), Ha (lnM (eI .i64) s_), Hn (slB g0), Hn (slC g0), Hn (z3c (eI .i64) g0), Ha (z9h 1 (eI .i64) s_ 0 ((s_.length : Nat) : Int).toNat)]
def um : Code := (Tryz.f45.body).getD .skip
def xV : xm := spF (α := z6 × za) (ρ := z8) 45 (fun x => [yN x.1, x7 x.2]) (fun r => z1u r) (fun x => xD x.1 x.2) [] (VV)
abbrev ZQ (r_1 : List Int) (c_Queues : List (List Int)) : List (Nat × T) := [(4, .own (.box (.agg [eOs 1 true (eI .i64) [], eOs 1 true F2_ []]))), (5, .own (.box (.agg [eSl 1 true (eI .i64) r_1, eOs 1 true F1_ c_Queues])))]
abbrev ZP (x_ : z6) (s_ : za) (r_1 : List Int) (c_Queues1 : List (List Int)) (x23 : Int) : List (Nat × T) := [(3, .d (.sptr (x7 s_))), (4, .own (.box (.agg [eOs 1 true (eI .i64) [], eOs 1 true F2_ []]))), (5, .own (.box (.agg [eSl 1 true (eI .i64) r_1, eOs 1 true F1_ c_Queues1]))), (22, .d (I (((List.replicate ((x_.Channels.length : Nat) : Int).toNat ([] : List Int)).length : Nat) : Int))), (23, .d (I x23))]
theorem YP {ctr : Ctr} (hC : zW Tryz.prog ctr) (h0w : ctr.Has uG) (h0l : ctr.Has uY) : xV.Ok Tryz.prog := by
 refine y7 ?_
 rintro ⟨x_, s_⟩ r0 hf0
 try unfold xD at hf0
 refine yO false [(4, some 39)] um 42 Tryz.func45 fun E hE => ?_
 obtain ⟨g0, hf0⟩ := gdE hf0
 obtain ⟨r_, h0, hf0⟩ := zl hf0
 obtain ⟨r_1, h1, hf0⟩ := zl hf0
 obtain ⟨g1, hf0⟩ := gdE hf0
 refine yJ ((xMs zS 18 26).or ((xAh zS 12).or X0)) hC um [1,1] [] [4,5] (fun z : List (List Int) => ua r_1 z = some r0) (fun z => ZQ r_1 z) [(3, .d (.sptr (x7 s_))), (4, .own (.box (.agg [eOs 1 true (eI .i64) [], eOs 1 true F2_ []]))), (5, .own (.box (.agg [eSl 1 true (eI .i64) r_1, eOs 1 true F1_ (List.replicate ((x_.Channels.length : Nat) : Int).toNat ([] : List Int))])))] [Hh (.n 2 [3]), Ha (lnM vg x_.Parts), Hn g0.1, Hn (cuB (eI .i64) g0), Hl (cuM (eI .i64) [s_.states_.e0, s_.states_.e1, s_.states_.e2, s_.states_.e3] ((x_.Parts.length : Nat) : Int)), Hc h0w (x := ([s_.states_.e0, s_.states_.e1, s_.states_.e2, s_.states_.e3].take ((x_.Parts.length : Nat) : Int).toNat)) h0 (loC F2_ ([s_.states_.e0, s_.states_.e1, s_.states_.e2, s_.states_.e3].take ((x_.Parts.length : Nat) : Int).toNat) <| loN), Hg (z1x h0l), Hm (shM (eI .i64) (eI .i64) r_), Hs (z1y h0l (x := r_) h1 (loC F2_ r_ <| loN)), Hm (shM (eI .i64) (eI .i64) r_), Ha (lnM (eI .i64) x_.Channels), Hn (rL g1), Ha (rM 1 F1_ ((x_.Channels.length : Nat) : Int) ([] : List Int)), Hh (.cut 0)] ?_ fun J1 hJ1 => ?_
 ·rintro c_Queues hf0
  unfold ua at hf0
  obtain rfl := zi hf0
  exact yE X0 hC hE [Hm (shM F1_ F1_ c_Queues)]
 ·obtain ⟨t2, ht2, hf0⟩ := zl hf0
  refine yL X0 hC um [1,1,2,1,0] [J1] (fun s => xC x_ s_ s.1 s.2) (fun x => ZP x_ s_ r_1 x.1 x.2) ((List.replicate ((x_.Channels.length : Nat) : Int).toNat ([] : List Int)), 0) ht2  [Ha (lnM F1_ (List.replicate ((x_.Channels.length : Nat) : Int).toNat ([] : List Int)))] ?_
  rintro ⟨c_Queues1, x23⟩ m2 lr1 hf1 hl1 J2 hJ2
  try unfold xC at hf1
  rcases zR hf1 with ⟨c0, hf1⟩ | ⟨c0, hf1⟩
  ·obtain ⟨cell, h2, hf1⟩ := zl hf1
   obtain ⟨g2, hf1⟩ := gdE hf1
   obtain ⟨r_2, h3, hf1⟩ := zl hf1
   obtain ⟨r_3, h4, hf1⟩ := zl hf1
   obtain ⟨c_Queue_e, h5, hf1⟩ := zl hf1
   obtain rfl := zi hf1
   exact yB ((xAh zS 36).or X0) hC hJ2 ((c_Queues1.set x23.toNat r_3), w64 (x23 + 1)) hl1 [Hq c0, Hs (iM F7_ h2), Hn (arJ (by kernel_rfl) (i0 h2) : ZX wB 113 ((zF.toL s_.queues_).map F7_) x23 = true), Hh (.n 0 [7]), Hn g2.1, Hn (cuB (eI .i64) g2), Hl (cuM (eI .i64) [cell.l_.e0, cell.l_.e1, cell.l_.e2, cell.l_.e3] cell.many_), Hc h0w (x := ([cell.l_.e0, cell.l_.e1, cell.l_.e2, cell.l_.e3].take cell.many_.toNat)) h3 (loC F2_ ([cell.l_.e0, cell.l_.e1, cell.l_.e2, cell.l_.e3].take cell.many_.toNat) <| loN), Hg (z1x h0l), Hm (shM (eI .i64) (eI .i64) r_2), Hs (z1y h0l (x := r_2) h4 (loC F2_ r_2 <| loN)), Hm (shM (eI .i64) (eI .i64) r_2), Hn (iL F1_ h5), Hs (iM F1_ h5), Hs (iM F1_ h5), Hl (sM F1_ c_Queues1 x23 r_3)]
  ·obtain rfl := zi hf1
   obtain rfl := hl1
   exact yB X0 hC hJ1 c_Queues1 hf0 [Hq c0]
def ur : Code := (Tryz.f69.body).getD .skip
def xg : xm := spF (α := List z8) (ρ := List z8) 69 (fun x => [z9s x]) (fun r => z5f r) (fun x => xy x) [] (Qb)
theorem ut {ctr : Ctr} (hC : zW Tryz.prog ctr) : xg.Ok Tryz.prog := by
 refine y7 ?_
 rintro s_ r0 hf0
 try unfold xy at hf0
 refine yO true [(2, none)] ur 9 Tryz.func69 fun E hE => ?_
 obtain ⟨g0, hf0⟩ := gdE hf0
 obtain rfl := zi hf0
 exact yE X0 hC hE [Ha (lnM qB s_), Ha (lnM qB s_), Hn (slB g0), Hn (slC g0), Hn (z3c qB g0), Ha (z9h 2 qB s_ 0 ((s_.length : Nat) : Int).toNat)]
def kX : Code := (Tryz.f30.body).getD .skip
def jj : xm := spF (α := z6) (ρ := List z8 × List (List z7) × Int) 30 (fun x => [yN x]) (fun r => .tup [z5f r.1, z2i r.2.1, (eI .i64) r.2.2]) (fun x => uA x) [] (Qb)
abbrev Vc (r_1 : List za × List (List z7) × Int) (out : List z8) : List (Nat × T) := [(7, .d (eSl 1 true wJ r_1.2.1)), (9, .own (eOs 2 false z1u out))]
abbrev Vb (x_ : z6) (r_1 : List za × List (List z7) × Int) (out1 : List z8) (x28 : Int) : List (Nat × T) := [(1, .own (.box (yN x_))), (7, .d (eSl 1 true wJ r_1.2.1)), (9, .own (eOs 2 false z1u out1)), (26, .d (eSl 24 false x7 r_1.1)), (27, .d (I ((r_1.1.length : Nat) : Int))), (28, .d (I x28))]
theorem QA {ctr : Ctr} (hC : zW Tryz.prog ctr) (h05 : ctr.Has wR) (h0f : ctr.Has wc) (h0g : ctr.Has xV) (h0x : ctr.Has xg) : jj.Ok Tryz.prog := by
 refine y7 ?_
 rintro x_ r0 hf0
 try unfold uA at hf0
 refine yO false [(2, none), (3, none), (4, none)] kX 42 Tryz.func30 fun E hE => ?_
 obtain ⟨r_, h0, hf0⟩ := zl hf0
 let Z0 : List HO := [Hc h05 (x := x_) h0 (loC yN x_ <| loN)]
 rcases zR hf0 with ⟨c0, hf0⟩ | ⟨c0, hf0⟩
 ·obtain rfl := zi hf0
  exact yEx X0 hC hE (Z0 ++ [Hq c0, Hm (shM qB qB []), Hm (shM Wd Wd [])]) (.tup [eSl 2 true qB [], eSl 1 true wJ [], I r_]) (show LeV (.tup [eSl 2 true qB [], eSl 1 true wJ [], I r_]) (.tup [eSl 2 true qB ([] : List z8), eSl 1 true wJ ([] : List (List z7)), I r_]) from inferInstance)
 ·obtain ⟨r_1, h1, hf0⟩ := zl hf0
  let Z1 : List HO := (Z0 ++ [Hq c0, Hc h0f (x := x_) h1 (loC yN x_ <| loN)])
  rcases zR hf0 with ⟨c1, hf0⟩ | ⟨c1, hf0⟩
  ·obtain rfl := zi hf0
   exact yEx X0 hC hE (Z1 ++ [Hq c1, Hm (shM qB qB []), Hm (shM Wd Wd [])]) (.tup [eSl 2 true qB [], eSl 1 true wJ [], I r_1.2.2]) (show LeV (.tup [eSl 2 true qB [], eSl 1 true wJ [], I r_1.2.2]) (.tup [eSl 2 true qB ([] : List z8), eSl 1 true wJ ([] : List (List z7)), I r_1.2.2]) from inferInstance)
  ·refine yJ X0 hC kX [1,1,1,1,1] [] [7,9] (fun z : List z8 => kN r_1 z = some r0) (fun z => Vc r_1 z) [(1, .own (.box (yN x_))), (6, .d (eSl 24 false x7 r_1.1)), (7, .d (eSl 1 true wJ r_1.2.1)), (9, .own (eOs 2 true qB []))] (Z1 ++ [Hq c1, Hh (.cut 1)]) ?_ fun J1 hJ1 => ?_
   ·rintro out hf0
    unfold kN at hf0
    obtain ⟨r_2, h2, hf0⟩ := zl hf0
    obtain rfl := zi hf0
    exact yE X0 hC hE [Hg (z1x h0x), Hm (shM z1u z1u out), Hs (z1y h0x (x := out) h2 (loC (eSl 2 false z1u) out <| loN)), Hm (shM z1u z1u out)]
   ·obtain ⟨t2, ht2, hf0⟩ := zl hf0
    refine yLx X0 hC kX [1,1,1,1,1,2,1,0] [J1] (fun s => kM x_ r_1 s.1 s.2) (fun x => Vb x_ r_1 x.1 x.2) (([] : List z8), 0) ht2 [(1, .own (.box (yN x_))), (7, .d (eSl 1 true wJ r_1.2.1)), (9, .own (eOs 2 true z1u [])), (26, .d (eSl 24 false x7 r_1.1)), (27, .d (I ((r_1.1.length : Nat) : Int))), (28, .d (I 0))] inferInstance [Ha (lnM x7 r_1.1)] ?_
    rintro ⟨out1, x28⟩ m2 lr1 hf1 hl1 J2 hJ2
    try unfold kM at hf1
    rcases zR hf1 with ⟨c2, hf1⟩ | ⟨c2, hf1⟩
    ·obtain ⟨u_, h3, hf1⟩ := zl hf1
     obtain ⟨r_3, h4, hf1⟩ := zl hf1
     obtain ⟨g0, hf1⟩ := gdE hf1
     obtain rfl := zi hf1
     exact yB X0 hC hJ2 ((out1 ++ ([r_3] : List z8)), w64 (x28 + 1)) hl1 [Hq c2, Hi x7 h3, Hc h0g (x := (x_, u_)) h4 (loC yN x_ <| loC x7 u_ <| loN), Hq (dM z1u ([r_3] : List z8)), Hn (dM z1u ([r_3] : List z8)), Hn (aL z1u z1u g0), Hl (aM z1u out1 ([r_3] : List z8))]
    ·obtain rfl := zi hf1
     obtain rfl := hl1
     exact yB X0 hC hJ1 out1 hf0 [Hq c2]
def JC : Code := (Tryz.f38.body).getD .skip
def Zt : xm := spF (α := Int × Int × List Int) (ρ := z8) 38 (fun x => [(eI .i64) x.1, (eI .i64) x.2.1, F2_ x.2.2]) (fun r => z7D r) (fun x => vJ x.1 x.2.1 x.2.2) [] (z9m)
theorem JQ {ctr : Ctr} (hC : zW Tryz.prog ctr) : Zt.Ok Tryz.prog := by
 refine y7 ?_
 rintro ⟨a_, b_, queue⟩ r0 hf0
 try unfold vJ at hf0
 refine yO false [(6, some 39)] JC 13 Tryz.func38 fun E hE => ?_
 obtain rfl := zi hf0
 exact yE X0 hC hE [Hm (shM (eI .i64) (eI .i64) ([a_, b_])), Hm (shM F2_ F2_ ([queue]))]
def z08 : Code := (Tryz.f39.body).getD .skip
def YW : xm := spF (α := Int × Int) (ρ := zc) 39 (fun x => [(eI .i64) x.1, (eI .i64) x.2]) (fun r => w6 r) (fun x => uW x.1 x.2) [] (VV)
theorem z0t {ctr : Ctr} (hC : zW Tryz.prog ctr) : YW.Ok Tryz.prog := by
 refine y7 ?_
 rintro ⟨part, arc⟩ r0 hf0
 try unfold uW at hf0
 refine yO false [(4, some 65)] z08 8 Tryz.func39 fun E hE => ?_
 obtain rfl := zi hf0
 exact yE X0 hC hE []
def ZL : Code := (Tryz.f70.body).getD .skip
def Zs : xm := spF (α := List Int × List Int) (ρ := Int) 70 (fun x => [F2_ x.1, F2_ x.2]) (fun r => (eI .i64) r) (fun x => Ya x.1 x.2) [] (VV)
abbrev VT : List (Nat × T) := []
abbrev VS (a_ : List Int) (b_ : List Int) (i_ : Int) : List (Nat × T) := [(0, .d (eSl 1 false (eI .i64) a_)), (1, .d (eSl 1 false (eI .i64) b_)), (5, .d (I i_))]
theorem JP {ctr : Ctr} (hC : zW Tryz.prog ctr) : Zs.Ok Tryz.prog := by
 refine y7 ?_
 rintro ⟨a_, b_⟩ r0 hf0
 try unfold Ya at hf0
 refine yO true [(4, none)] ZL 40 Tryz.func70 fun E hE => ?_
 let Z0 : List HO := [Ha (lnM (eI .i64) a_), Ha (lnM (eI .i64) b_)]
 rcases zR hf0 with ⟨c0, hf0⟩ | ⟨c0, hf0⟩
 ·let Z1 : List HO := (Z0 ++ [Hq c0, Ha (lnM (eI .i64) a_), Ha (lnM (eI .i64) b_)])
  rcases zR hf0 with ⟨c1, hf0⟩ | ⟨c1, hf0⟩
  ·obtain rfl := zi hf0
   exact yE X0 hC hE (Z1 ++ [Hq c1])
  ·obtain rfl := zi hf0
   exact yE X0 hC hE (Z1 ++ [Hq c1])
 ·refine yJ X0 hC ZL [1,1] [] [] (fun z : Unit => ZD = some r0) (fun z => VT) [(0, .d (eSl 1 false (eI .i64) a_)), (1, .d (eSl 1 false (eI .i64) b_))] (Z0 ++ [Hq c0, Hh (.cut 0)]) ?_ fun J1 hJ1 => ?_
  ·rintro ⟨⟩ hf0
   unfold ZD at hf0
   obtain rfl := zi hf0
   exact yE X0 hC hE []
  ·obtain ⟨t2, ht2, hf0⟩ := zl hf0
   refine yL X0 hC ZL [1,1,2,1,0] [J1] (fun s => ZC a_ b_ s) (fun x => VS a_ b_ x) 0 ht2  [] ?_
   rintro i_ m2 lr1 hf1 hl1 J2 hJ2
   try unfold ZC at hf1
   rcases zR hf1 with ⟨c2, hf1⟩ | ⟨c2, hf1⟩
   ·obtain ⟨a__e, h0, hf1⟩ := zl hf1
    obtain ⟨b__e, h1, hf1⟩ := zl hf1
    let Z2 : List HO := [Ha (lnM (eI .i64) a_), Hq c2, Hi (eI .i64) h0, Hi (eI .i64) h1]
    rcases zR hf1 with ⟨c3, hf1⟩ | ⟨c3, hf1⟩
    ·obtain ⟨a__e1, h2, hf1⟩ := zl hf1
     obtain ⟨b__e1, h3, hf1⟩ := zl hf1
     let Z3 : List HO := (Z2 ++ [Hq c3, Hi (eI .i64) h2, Hi (eI .i64) h3])
     rcases zR hf1 with ⟨c4, hf1⟩ | ⟨c4, hf1⟩
     ·obtain rfl := zi hf1
      obtain rfl := hl1
      obtain rfl := zi hf0
      exact yE X0 hC hE (Z3 ++ [Hq c4])
     ·obtain rfl := zi hf1
      obtain rfl := hl1
      obtain rfl := zi hf0
      exact yE X0 hC hE (Z3 ++ [Hq c4])
    ·obtain rfl := zi hf1
     exact yB X0 hC hJ2 (w64 (i_ + 1)) hl1 (Z2 ++ [Hq c3])
   ·obtain rfl := zi hf1
    obtain rfl := hl1
    exact yB X0 hC hJ1 () hf0 [Ha (lnM (eI .i64) a_), Hq c2]
def z06 : Code := (Tryz.f36.body).getD .skip
def YU : xm := spF (α := List Int × List Int) (ρ := Int) 36 (fun x => [F2_ x.1, F2_ x.2]) (fun r => (eI .i64) r) (fun x => Wi x.1 x.2) [] (VV)
theorem z0r {ctr : Ctr} (hC : zW Tryz.prog ctr) (h0y : ctr.Has Zs) : YU.Ok Tryz.prog := by
 refine y7 ?_
 rintro ⟨a_, b_⟩ r0 hf0
 try unfold Wi at hf0
 refine yO true [(4, none)] z06 22 Tryz.func36 fun E hE => ?_
 let Z0 : List HO := [Ha (lnM (eI .i64) a_), Ha (lnM (eI .i64) b_)]
 rcases zR hf0 with ⟨c0, hf0⟩ | ⟨c0, hf0⟩
 ·obtain rfl := zi hf0
  exact yE X0 hC hE (Z0 ++ (rpN 5 (Hq c0) (rpN 6 qT [])))
 ·obtain ⟨r_, h0, hf0⟩ := zl hf0
  let Z1 : List HO := (Z0 ++ [Hq c0, Hq c0, Hq c0, Hc h0y (x := (a_, b_)) h0 (loC F2_ a_ <| loC F2_ b_ <| loN), Hq c0, Hq c0])
  rcases zR hf0 with ⟨c1, hf0⟩ | ⟨c1, hf0⟩
  ·obtain rfl := zi hf0
   exact yE X0 hC hE (Z1 ++ (rpN 5 (Hq c1) [qT]))
  ·obtain ⟨r_1, h1, hf0⟩ := zl hf0
   let Z2 : List HO := (Z1 ++ [Hq c1, Hq c1, Hq c1, Hc h0y (x := (b_, a_)) h1 (loC F2_ b_ <| loC F2_ a_ <| loN), Hq c1, Hq c1])
   rcases zR hf0 with ⟨c2, hf0⟩ | ⟨c2, hf0⟩
   ·obtain rfl := zi hf0
    exact yE X0 hC hE (Z2 ++ [Hq c2])
   ·obtain rfl := zi hf0
    exact yE X0 hC hE (Z2 ++ [Hq c2])
def Xm : Code := (Tryz.f16.body).getD .skip
def Zd : xm := spF (α := z8 × z8) (ρ := Int) 16 (fun x => [qB x.1, qB x.2]) (fun r => (eI .i64) r) (fun x => Wh x.1 x.2) [] (VV)
abbrev Qk : List (Nat × T) := []
abbrev Qj (a_ : z8) (b_ : z8) (i_ : Int) : List (Nat × T) := [(2, .own (.box (qB a_))), (3, .own (.box (qB b_))), (5, .d (I i_))]
theorem z0q {ctr : Ctr} (hC : zW Tryz.prog ctr) (h0z : ctr.Has YU) : Zd.Ok Tryz.prog := by
 refine y7 ?_
 rintro ⟨a_, b_⟩ r0 hf0
 try unfold Wh at hf0
 refine yO true [(4, none)] Xm 40 Tryz.func16 fun E hE => ?_
 obtain ⟨r_, h0, hf0⟩ := zl hf0
 let Z0 : List HO := [Hc h0z (x := (a_.States, b_.States)) h0 (loC F2_ a_.States <| loC F2_ b_.States <| loN)]
 rcases zR hf0 with ⟨c0, hf0⟩ | ⟨c0, hf0⟩
 ·obtain rfl := zi hf0
  exact yE X0 hC hE (Z0 ++ (rpN 8 (Hq c0) [qT]))
 ·let Z1 : List HO := (Z0 ++ [Hq c0, Hq c0, Hq c0, Ha (lnM F2_ a_.Queues), Hq c0, Hq c0, Hq c0, Ha (lnM F2_ b_.Queues), Hq c0, Hq c0])
  rcases zR hf0 with ⟨c1, hf0⟩ | ⟨c1, hf0⟩
  ·obtain rfl := zi hf0
   exact yE X0 hC hE (Z1 ++ [Hq c1])
  ·refine yJ X0 hC Xm [1,1] [] [] (fun z : Unit => X6 = some r0) (fun z => Qk) [(2, .own (.box (qB a_))), (3, .own (.box (qB b_)))] (Z1 ++ [Hq c1, Hh (.cut 0)]) ?_ fun J1 hJ1 => ?_
   ·rintro ⟨⟩ hf0
    unfold X6 at hf0
    obtain rfl := zi hf0
    exact yE X0 hC hE []
   ·obtain ⟨t2, ht2, hf0⟩ := zl hf0
    refine yL X0 hC Xm [1,1,2,1,0] [J1] (fun s => X5 a_ b_ s) (fun x => Qj a_ b_ x) 0 ht2  [] ?_
    rintro i_ m2 lr1 hf1 hl1 J2 hJ2
    try unfold X5 at hf1
    let Z2 : List HO := [Ha (lnM F2_ a_.Queues)]
    rcases zR hf1 with ⟨c2, hf1⟩ | ⟨c2, hf1⟩
    ·obtain ⟨Queue_e, h1, hf1⟩ := zl hf1
     obtain ⟨Queue_e1, h2, hf1⟩ := zl hf1
     obtain ⟨r_1, h3, hf1⟩ := zl hf1
     let Z3 : List HO := (Z2 ++ [Hq c2, Hi F2_ h1, Hi F2_ h2, Hc h0z (x := (Queue_e, Queue_e1)) h3 (loC F2_ Queue_e <| loC F2_ Queue_e1 <| loN)])
     rcases zR hf1 with ⟨c3, hf1⟩ | ⟨c3, hf1⟩
     ·obtain rfl := zi hf1
      obtain rfl := hl1
      obtain rfl := zi hf0
      exact yE X0 hC hE (Z3 ++ [Hq c3])
     ·obtain rfl := zi hf1
      exact yB X0 hC hJ2 (w64 (i_ + 1)) hl1 (Z3 ++ [Hq c3])
    ·obtain rfl := zi hf1
     obtain rfl := hl1
     exact yB X0 hC hJ1 () hf0 (Z2 ++ [Hq c2])
def vS : Code := (Tryz.f40.body).getD .skip
def Yj : xm := spF (α := List z8 × List (List z7) × List z8 × List (List z7)) (ρ := Int) 40 (fun x => [z5f x.1, z2i x.2.1, z9s x.2.2.1, zc4 x.2.2.2]) (fun r => (eI .i64) r) (fun x => X9 x.1 x.2.1 x.2.2.1 x.2.2.2) [] (zeh)
abbrev UM : List (Nat × T) := []
abbrev UL (s_ : List (List z7)) (steps : List (List z7)) (i_ : Int) (x74 : List z7) (x75 : List z7) (x76 : Int) (x79 : List z7) (x80 : List z7) (x81 : Int) (x82 : Bool) : List (Nat × T) := [(1, .d (eSl 1 true wJ s_)), (3, .d (eSl 1 false Wd steps)), (10, .d (I i_)), (72, .d (eSl 1 true wJ s_)), (73, .d (I i_)), (74, .d (.sptr (eSl 5 true kB x74))), (75, .d (eSl 5 true kB x75)), (76, .d (I x76)), (77, .d (eSl 1 true wJ s_)), (78, .d (I i_)), (79, .d (.sptr (eSl 5 true kB x79))), (80, .d (eSl 5 true kB x80)), (81, .d (I x81)), (82, .d (B x82))]
abbrev UJ (s_ : List (List z7)) (steps : List (List z7)) (i_ : Int) (s__e1 : List z7) (s__e2 : List z7) (k_ : Int) : List (Nat × T) := [(1, .d (eSl 1 true wJ s_)), (3, .d (eSl 1 false Wd steps)), (10, .d (I i_)), (11, .d (I k_)), (72, .d (eSl 1 true wJ s_)), (73, .d (I i_)), (74, .d (.sptr (eSl 5 true kB s__e1))), (75, .d (eSl 5 true kB s__e1)), (76, .d (I ((s__e1.length : Nat) : Int))), (77, .d (eSl 1 true wJ s_)), (78, .d (I i_)), (79, .d (.sptr (eSl 5 true kB s__e2))), (80, .d (eSl 5 true kB s__e2)), (81, .d (I ((s__e2.length : Nat) : Int))), (82, .d (B (((s__e1.length : Nat) : Int) != ((s__e2.length : Nat) : Int))))]
abbrev UK (s_ : List (List z7)) (steps : List (List z7)) (i_ : Int) : List (Nat × T) := [(1, .d (eSl 1 true wJ s_)), (3, .d (eSl 1 false Wd steps)), (10, .d (I i_))]
abbrev UN (s_ : List (List z7)) (steps : List (List z7)) : List (Nat × T) := [(1, .d (eSl 1 true wJ s_)), (3, .d (eSl 1 false Wd steps))]
abbrev UI (c_ : List z8) (s_ : List (List z7)) (list : List z8) (steps : List (List z7)) (i_1 : Int) : List (Nat × T) := [(0, .d (eSl 2 true qB c_)), (1, .d (eSl 1 true wJ s_)), (2, .d (eSl 2 false qB list)), (3, .d (eSl 1 false Wd steps)), (9, .d (I i_1))]
theorem KD {ctr : Ctr} (hC : zW Tryz.prog ctr) (h0s : ctr.Has Zd) : Yj.Ok Tryz.prog := by
 refine y7 ?_
 rintro ⟨c_, s_, list, steps⟩ r0 hf0
 try unfold X9 at hf0
 refine yO true [(8, none)] vS 108 Tryz.func40 fun E hE => ?_
 let Z0 : List HO := [Ha (lnM qB c_), Ha (lnM qB list)]
 rcases zR hf0 with ⟨c0, hf0⟩ | ⟨c0, hf0⟩
 ·obtain rfl := zi hf0
  exact yE X0 hC hE (Z0 ++ (rpN 6 (Hq c0) (rpN 13 qT [])))
 ·let Z1 : List HO := (Z0 ++ [Hq c0, Hq c0, Ha (lnM wJ s_), Hq c0, Hq c0, Ha (lnM Wd steps), Hq c0, Hq c0])
  rcases zR hf0 with ⟨c1, hf0⟩ | ⟨c1, hf0⟩
  ·obtain rfl := zi hf0
   exact yE X0 hC hE (Z1 ++ (rpN 6 (Hq c1) (rpN 7 qT [])))
  ·let Z2 : List HO := (Z1 ++ [Hq c1, Hq c1, Ha (lnM qB c_), Hq c1, Hq c1, Ha (lnM qB c_), Hq c1, Hq c1])
   rcases zR hf0 with ⟨c2, hf0⟩ | ⟨c2, hf0⟩
   ·obtain rfl := zi hf0
    exact yE X0 hC hE (Z2 ++ (rpN 6 (Hq c2) [qT]))
   ·let Z3 : List HO := (Z2 ++ [Hq c2, Hq c2, Ha (lnM wJ s_), Hq c2, Hq c2, Ha (lnM wJ s_), Hq c2, Hq c2])
    rcases zR hf0 with ⟨c3, hf0⟩ | ⟨c3, hf0⟩
    ·obtain rfl := zi hf0
     exact yE X0 hC hE (Z3 ++ [Hq c3])
    ·refine yJ X0 hC vS [1,1] [] [1,3] (fun z : Unit => Ys s_ steps = some r0) (fun z => UN s_ steps) [(0, .d (eSl 2 true qB c_)), (1, .d (eSl 1 true wJ s_)), (2, .d (eSl 2 false qB list)), (3, .d (eSl 1 false Wd steps))] (Z3 ++ [Hq c3, Hh (.cut 0)]) ?_ fun J1 hJ1 => ?_
     ·rintro ⟨⟩ hf0
      unfold Ys at hf0
      refine yJ X0 hC vS [1,1,1] [] [] (fun z : Unit => Yr = some r0) (fun z => UM) [(1, .d (eSl 1 true wJ s_)), (3, .d (eSl 1 false Wd steps))] [Hh (.cut 0)] ?_ fun J2 hJ2 => ?_
      ·rintro ⟨⟩ hf0
       unfold Yr at hf0
       obtain rfl := zi hf0
       exact yE X0 hC hE []
      ·obtain ⟨t3, ht3, hf0⟩ := zl hf0
       refine yL X0 hC vS [1,1,1,2,1,0] [J2] (fun s => Yp s_ steps s) (fun x => UK s_ steps x) 0 ht3  [] ?_
       rintro i_ m3 lr1 hf1 hl1 J3 hJ3
       try unfold Yp at hf1
       let Z4 : List HO := [Ha (lnM wJ s_)]
       rcases zR hf1 with ⟨c4, hf1⟩ | ⟨c4, hf1⟩
       ·refine yJ X0 hC vS [1,1,1,2,1,0,0,1] [J2, J3] [1,3,10,72,73,74,75,76,77,78,79,80,81,82] (fun z : List z7 × List z7 × Int × List z7 × List z7 × Int × Bool => Yq i_ z.1 z.2.1 z.2.2.1 z.2.2.2.1 z.2.2.2.2.1 z.2.2.2.2.2.1 z.2.2.2.2.2.2 = some lr1) (fun z => UL s_ steps i_ z.1 z.2.1 z.2.2.1 z.2.2.2.1 z.2.2.2.2.1 z.2.2.2.2.2.1 z.2.2.2.2.2.2) [(1, .d (eSl 1 true wJ s_)), (3, .d (eSl 1 false Wd steps)), (10, .d (I i_))] (Z4 ++ [Hq c4, Hh (.cut 0)]) ?_ fun J4 hJ4 => ?_
        ·rintro ⟨x74, x75, x76, x79, x80, x81, x82⟩ hf1
         unfold Yq at hf1
         obtain rfl := zi hf1
         exact yB X0 hC hJ3 (w64 (i_ + 1)) hl1 []
        ·obtain ⟨s__e, h0, hf1⟩ := zl hf1
         obtain ⟨step_e, h1, hf1⟩ := zl hf1
         let Z5 : List HO := [Hi wJ h0, Ha (lnM kB s__e), Hi Wd h1, Ha (lnM kB step_e)]
         rcases zR hf1 with ⟨c5, hf1⟩ | ⟨c5, hf1⟩
         ·obtain rfl := zi hf1
          obtain rfl := hl1
          obtain rfl := zi hf0
          exact yE X0 hC hE (Z5 ++ (rpN 12 (Hq c5) [qT]))
         ·obtain ⟨s__e1, h2, hf1⟩ := zl hf1
          obtain ⟨s__e2, h3, hf1⟩ := zl hf1
          let Z6 : List HO := (Z5 ++ [Hq c5, Hq c5, Hq c5, Hi wJ h2, Hq c5, Hq c5, Ha (lnM kB s__e1), Hq c5, Hq c5, Hq c5, Hi wJ h3, Hq c5, Hq c5, Ha (lnM kB s__e2), Hq c5, Hq c5])
          rcases zR hf1 with ⟨c6, hf1⟩ | ⟨c6, hf1⟩
          ·obtain rfl := zi hf1
           obtain rfl := hl1
           obtain rfl := zi hf0
           exact yE X0 hC hE (Z6 ++ [Hq c6])
          ·obtain ⟨t5, ht5, hf1⟩ := zl hf1
           refine yL X0 hC vS [1,1,1,2,1,0,0,1,2,0,1,1,0] [J2, J3, J4] (fun s => Yo s_ steps i_ s__e1 s__e2 s) (fun x => UJ s_ steps i_ s__e1 s__e2 x) 0 ht5  (Z6 ++ [Hq c6]) ?_
           rintro k_ m5 lr2 hf2 hl2 J5 hJ5
           try unfold Yo at hf2
           obtain ⟨s__e3, h4, hf2⟩ := zl hf2
           let Z7 : List HO := [Hi wJ h4, Ha (lnM kB s__e3)]
           rcases zR hf2 with ⟨c7, hf2⟩ | ⟨c7, hf2⟩
           ·obtain ⟨s__e4, h5, hf2⟩ := zl hf2
            obtain ⟨s__e_e, h6, hf2⟩ := zl hf2
            obtain ⟨step_e1, h7, hf2⟩ := zl hf2
            obtain ⟨step_e_e, h8, hf2⟩ := zl hf2
            let Z8 : List HO := (Z7 ++ [Hq c7, Hi wJ h5, Hi kB h6, Hi Wd h7, Hi kB h8])
            rcases zR hf2 with ⟨c8, hf2⟩ | ⟨c8, hf2⟩
            ·obtain rfl := zi hf2
             obtain rfl := hl2
             obtain rfl := zi hf1
             obtain rfl := hl1
             obtain rfl := zi hf0
             exact yE ((zch zS 107).or X0) hC hE (Z8 ++ [Hq c8])
            ·obtain rfl := zi hf2
             exact yB ((zch zS 107).or X0) hC hJ5 (w64 (k_ + 1)) hl2 (Z8 ++ [Hq c8])
           ·obtain rfl := zi hf2
            obtain rfl := hl2
            exact yB X0 hC hJ4 (s__e1, s__e1, ((s__e1.length : Nat) : Int), s__e2, s__e2, ((s__e2.length : Nat) : Int), ((s__e1.length : Nat) : Int) != ((s__e2.length : Nat) : Int)) hf1 (Z7 ++ [Hq c7])
       ·obtain rfl := zi hf1
        obtain rfl := hl1
        exact yB X0 hC hJ2 () hf0 (Z4 ++ [Hq c4])
     ·obtain ⟨t6, ht6, hf0⟩ := zl hf0
      refine yL X0 hC vS [1,1,2,1,0] [J1] (fun s => Yn c_ list s) (fun x => UI c_ s_ list steps x) 0 ht6  [] ?_
      rintro i_1 m6 lr1 hf1 hl1 J6 hJ6
      try unfold Yn at hf1
      let Z9 : List HO := [Ha (lnM qB c_)]
      rcases zR hf1 with ⟨c9, hf1⟩ | ⟨c9, hf1⟩
      ·obtain ⟨c__e, h9, hf1⟩ := zl hf1
       obtain ⟨list_e, h10, hf1⟩ := zl hf1
       obtain ⟨r_, h11, hf1⟩ := zl hf1
       let Z10 : List HO := (Z9 ++ [Hq c9, Hi qB h9, Hi qB h10, Hc h0s (x := (c__e, list_e)) h11 (loC qB c__e <| loC qB list_e <| loN)])
       rcases zR hf1 with ⟨c10, hf1⟩ | ⟨c10, hf1⟩
       ·obtain rfl := zi hf1
        obtain rfl := hl1
        obtain rfl := zi hf0
        exact yE X0 hC hE (Z10 ++ [Hq c10])
       ·obtain rfl := zi hf1
        exact yB X0 hC hJ6 (w64 (i_1 + 1)) hl1 (Z10 ++ [Hq c10])
      ·obtain rfl := zi hf1
       obtain rfl := hl1
       exact yB X0 hC hJ1 () hf0 (Z9 ++ [Hq c9])
def Qh : Code := (Tryz.f81.body).getD .skip
def jk : xm := spF (α := Int) (ρ := Bool) 81 (fun x => [(eI .i64) x]) (fun r => eB r) (fun x => vL x) [] (Qb)
theorem QD {ctr : Ctr} (hC : zW Tryz.prog ctr) : jk.Ok Tryz.prog := by
 refine y7 ?_
 rintro x_ r0 hf0
 try unfold vL at hf0
 refine yO true [(2, none)] Qh 6 Tryz.func81 fun E hE => ?_
 obtain rfl := zi hf0
 exact yE X0 hC hE []
def JD : Code := (Tryz.f76.body).getD .skip
def Zu : xm := spF (α := Int × Int) (ρ := Bool) 76 (fun x => [(eI .i64) x.1, (eI .i64) x.2]) (fun r => eB r) (fun x => kH x.1 x.2) [] (VV)
theorem JR {ctr : Ctr} (hC : zW Tryz.prog ctr) (h0h : ctr.Has jk) : Zu.Ok Tryz.prog := by
 refine y7 ?_
 rintro ⟨x_, y_⟩ r0 hf0
 try unfold kH at hf0
 refine yO true [(4, none)] JD 17 Tryz.func76 fun E hE => ?_
 obtain ⟨r_, h0, hf0⟩ := zl hf0
 let Z0 : List HO := [Hc h0h (x := x_) h0 (loC (eI .i64) x_ <| loN)]
 rcases zR hf0 with ⟨c0, hf0⟩ | ⟨c0, hf0⟩
 ·obtain ⟨r_1, h1, hf0⟩ := zl hf0
  let Z1 : List HO := (Z0 ++ [Hq c0, Hq c0, Hc h0h (x := y_) h1 (loC (eI .i64) y_ <| loN), Hq c0, Hq c0])
  rcases zR hf0 with ⟨c1, hf0⟩ | ⟨c1, hf0⟩
  ·obtain rfl := zi hf0
   exact yE X0 hC hE (Z1 ++ (rpN 4 (Hq c1) []))
  ·obtain rfl := zi hf0
   exact yE X0 hC hE (Z1 ++ (rpN 4 (Hq c1) []))
 ·obtain rfl := zi hf0
  exact yE X0 hC hE (Z0 ++ (rpN 4 (Hq c0) (rpN 4 qF [])))
def V2 : Code := (Tryz.f77.body).getD .skip
def jx : xm := spF (α := Int) (ρ := Bool) 77 (fun x => [(eI .i64) x]) (fun r => eB r) (fun x => uR x) [] (Qb)
theorem Vk {ctr : Ctr} (hC : zW Tryz.prog ctr) : jx.Ok Tryz.prog := by
 refine y7 ?_
 rintro x_ r0 hf0
 try unfold uR at hf0
 refine yO true [(2, none)] V2 6 Tryz.func77 fun E hE => ?_
 obtain rfl := zi hf0
 exact yE X0 hC hE []
def wI : Code := (Tryz.f47.body).getD .skip
def wF : xm := spF (α := List Int × Int) (ρ := Int × Bool) 47 (fun x => [F2_ x.1, (eI .i64) x.2]) (fun r => .tup [(eI .i64) r.1, eB r.2]) (fun x => x5 x.1 x.2) [] (VV)
abbrev kc (x_ : List Int) (target : Int) (i_ : Int) : List (Nat × T) := [(0, .d (eSl 1 false (eI .i64) x_)), (1, .d (I target)), (6, .d (I ((x_.length : Nat) : Int))), (7, .d (I i_))]
abbrev ka (x_ : List Int) (target : Int) (i_1 : Int) (j_ : Int) : List (Nat × T) := [(0, .d (eSl 1 false (eI .i64) x_)), (1, .d (I target)), (6, .d (I ((x_.length : Nat) : Int))), (7, .d (I i_1)), (8, .d (I j_))]
theorem kK {ctr : Ctr} (hC : zW Tryz.prog ctr) (h0P : ctr.Has Zu) (h0A : ctr.Has jx) : wF.Ok Tryz.prog := by
 refine y7 ?_
 rintro ⟨x_, target⟩ r0 hf0
 try unfold x5 at hf0
 refine yO false [(4, none), (5, none)] wI 54 Tryz.func47 fun E hE => ?_
 refine yJ X0 hC wI [1,1,1] [] [0,1,6,7] (fun z : Int => xJ x_ target z = some r0) (fun z => kc x_ target z) [(0, .d (eSl 1 false (eI .i64) x_)), (1, .d (I target)), (6, .d (I ((x_.length : Nat) : Int))), (7, .d (I 0)), (8, .d (I ((x_.length : Nat) : Int)))] [Ha (lnM (eI .i64) x_), Hh (.cut 1)] ?_ fun J1 hJ1 => ?_
 ·rintro i_ hf0
  unfold xJ at hf0
  rcases zR hf0 with ⟨c0, hf0⟩ | ⟨c0, hf0⟩
  ·obtain ⟨x__e, h0, hf0⟩ := zl hf0
   let Z0 : List HO := (Hq c0 :: Hq c0 :: Hq c0 :: Hi (eI .i64) h0 :: (rpN 4 (Hq c0) []))
   rcases zR hf0 with ⟨c1, hf0⟩ | ⟨c1, hf0⟩
   ·obtain rfl := zi hf0
    exact yE X0 hC hE (Z0 ++ (rpN 7 (Hq c1) [Hq c0, Hq c1, Hq c0]))
   ·obtain ⟨x__e1, h1, hf0⟩ := zl hf0
    obtain ⟨r_, h2, hf0⟩ := zl hf0
    let Z1 : List HO := (Z0 ++ [Hq c1, Hq c1, Hq c1, Hi (eI .i64) h1, Hq c1, Hq c1, Hc h0A (x := x__e1) h2 (loC (eI .i64) x__e1 <| loN), Hq c1])
    rcases zR hf0 with ⟨c2, hf0⟩ | ⟨c2, hf0⟩
    ·obtain ⟨r_1, h3, hf0⟩ := zl hf0
     obtain rfl := zi hf0
     exact yE X0 hC hE (Z1 ++ [Hq c2, Hq c2, Hc h0A (x := target) h3 (loC (eI .i64) target <| loN), Hq c1, Hq c2, Hq c0, Hq c1, Hq c0])
    ·obtain rfl := zi hf0
     exact yE X0 hC hE (Z1 ++ [Hq c2, Hq c2, Hq c1, Hq c2, Hq c0, Hq c1, Hq c0])
  ·obtain rfl := zi hf0
   exact yE X0 hC hE (rpN 9 (Hq c0) [])
 ·obtain ⟨t2, ht2, hf0⟩ := zl hf0
  refine yL X0 hC wI [1,1,1,2,0] [J1] (fun s => xh x_ target s.1 s.2) (fun x => ka x_ target x.1 x.2) (0, ((x_.length : Nat) : Int)) ht2  [] ?_
  rintro ⟨i_1, j_⟩ m2 lr1 hf1 hl1 J2 hJ2
  try unfold xh at hf1
  rcases zR hf1 with ⟨c3, hf1⟩ | ⟨c3, hf1⟩
  ·obtain ⟨x__e2, h4, hf1⟩ := zl hf1
   obtain ⟨r_2, h5, hf1⟩ := zl hf1
   let Z2 : List HO := [Hq c3, Hi (eI .i64) h4, Hc h0P (x := (x__e2, target)) h5 (loC (eI .i64) x__e2 <| loC (eI .i64) target <| loN)]
   rcases zR hf1 with ⟨c4, hf1⟩ | ⟨c4, hf1⟩
   ·obtain rfl := zi hf1
    exact yB ((zdx Tryz.prog).or X0) hC hJ2 (w64 ((w64 (Int.fdiv (IntKind.u64.wrap (w64 (i_1 + j_))) (2 ^ 1))) + 1), j_) hl1 (Z2 ++ [Hq c4])
   ·obtain rfl := zi hf1
    exact yB ((zdx Tryz.prog).or X0) hC hJ2 (i_1, w64 (Int.fdiv (IntKind.u64.wrap (w64 (i_1 + j_))) (2 ^ 1))) hl1 (Z2 ++ [Hq c4])
  ·obtain rfl := zi hf1
   obtain rfl := hl1
   exact yB X0 hC hJ1 i_1 hf0 [Hq c3]
def VC : Code := (Tryz.f80.body).getD .skip
def jX : xm := spF (α := Int) (ρ := Bool) 80 (fun x => [(eI .u8) x]) (fun r => eB r) (fun x => qP x) [] (Qb)
theorem Uc {ctr : Ctr} (hC : zW Tryz.prog ctr) : jX.Ok Tryz.prog := by
 refine y7 ?_
 rintro x_ r0 hf0
 try unfold qP at hf0
 refine yO true [(2, none)] VC 6 Tryz.func80 fun E hE => ?_
 obtain rfl := zi hf0
 exact yE X0 hC hE []
def Wz : Code := (Tryz.f51.body).getD .skip
def j0 : xm := spF (α := Int × Int) (ρ := Int) 51 (fun x => [(eI .u8) x.1, (eI .u8) x.2]) (fun r => (eI .i64) r) (fun x => uj x.1 x.2) [] (VV)
theorem WL {ctr : Ctr} (hC : zW Tryz.prog ctr) (h0B : ctr.Has jX) : j0.Ok Tryz.prog := by
 refine y7 ?_
 rintro ⟨x_, y_⟩ r0 hf0
 try unfold uj at hf0
 refine yO true [(4, none)] Wz 20 Tryz.func51 fun E hE => ?_
 obtain ⟨r_, h0, hf0⟩ := zl hf0
 obtain ⟨r_1, h1, hf0⟩ := zl hf0
 let Z0 : List HO := [Hc h0B (x := x_) h0 (loC (eI .u8) x_ <| loN), Hc h0B (x := y_) h1 (loC (eI .u8) y_ <| loN)]
 rcases zR hf0 with ⟨c0, hf0⟩ | ⟨c0, hf0⟩
 ·rcases zR hf0 with ⟨c1, hf0⟩ | ⟨c1, hf0⟩
  ·obtain rfl := zi hf0
   exact yE X0 hC hE (Z0 ++ [Hq c0, Hq c1])
  ·obtain rfl := zi hf0
   exact yE X0 hC hE (Z0 ++ [Hq c0, Hq c1])
 ·rcases zR hf0 with ⟨c2, hf0⟩ | ⟨c2, hf0⟩
  ·obtain rfl := zi hf0
   exact yE X0 hC hE (Z0 ++ [Hq c0, Hq c2])
  ·rcases zR hf0 with ⟨c3, hf0⟩ | ⟨c3, hf0⟩
   ·obtain rfl := zi hf0
    exact yE X0 hC hE (Z0 ++ [Hq c0, Hq c2, Hq c3])
   ·rcases zR hf0 with ⟨c4, hf0⟩ | ⟨c4, hf0⟩
    ·obtain rfl := zi hf0
     exact yE X0 hC hE (Z0 ++ [Hq c0, Hq c2, Hq c3, Hq c4])
    ·obtain rfl := zi hf0
     exact yE X0 hC hE (Z0 ++ [Hq c0, Hq c2, Hq c3, Hq c4])
def VD : Code := (Tryz.f52.body).getD .skip
def jY : xm := spF (α := Int × Int) (ρ := Int) 52 (fun x => [(eI .i64) x.1, (eI .i64) x.2]) (fun r => (eI .i64) r) (fun x => uk x.1 x.2) [] (VV)
theorem Ud {ctr : Ctr} (hC : zW Tryz.prog ctr) (h0h : ctr.Has jk) : jY.Ok Tryz.prog := by
 refine y7 ?_
 rintro ⟨x_, y_⟩ r0 hf0
 try unfold uk at hf0
 refine yO true [(4, none)] VD 20 Tryz.func52 fun E hE => ?_
 obtain ⟨r_, h0, hf0⟩ := zl hf0
 obtain ⟨r_1, h1, hf0⟩ := zl hf0
 let Z0 : List HO := [Hc h0h (x := x_) h0 (loC (eI .i64) x_ <| loN), Hc h0h (x := y_) h1 (loC (eI .i64) y_ <| loN)]
 rcases zR hf0 with ⟨c0, hf0⟩ | ⟨c0, hf0⟩
 ·rcases zR hf0 with ⟨c1, hf0⟩ | ⟨c1, hf0⟩
  ·obtain rfl := zi hf0
   exact yE X0 hC hE (Z0 ++ [Hq c0, Hq c1])
  ·obtain rfl := zi hf0
   exact yE X0 hC hE (Z0 ++ [Hq c0, Hq c1])
 ·rcases zR hf0 with ⟨c2, hf0⟩ | ⟨c2, hf0⟩
  ·obtain rfl := zi hf0
   exact yE X0 hC hE (Z0 ++ [Hq c0, Hq c2])
  ·rcases zR hf0 with ⟨c3, hf0⟩ | ⟨c3, hf0⟩
   ·obtain rfl := zi hf0
    exact yE X0 hC hE (Z0 ++ [Hq c0, Hq c2, Hq c3])
   ·rcases zR hf0 with ⟨c4, hf0⟩ | ⟨c4, hf0⟩
    ·obtain rfl := zi hf0
     exact yE X0 hC hE (Z0 ++ [Hq c0, Hq c2, Hq c3, Hq c4])
    ·obtain rfl := zi hf0
     exact yE X0 hC hE (Z0 ++ [Hq c0, Hq c2, Hq c3, Hq c4])
def Xn : Code := (Tryz.f50.body).getD .skip
def YX : xm := spF (α := List Int) (ρ := Int) 50 (fun x => [F2_ x]) (fun r => (eI .i64) r) (fun x => YM x) [] (Qb)
abbrev Qm : List (Nat × T) := [(3, .d (I 0))]
abbrev Ql (vals : List Int) (x8 : Int) : List (Nat × T) := [(3, .d (I 0)), (6, .d (eSl 1 false (eI .i64) vals)), (7, .d (I ((vals.length : Nat) : Int))), (8, .d (I x8))]
theorem z0u {ctr : Ctr} (hC : zW Tryz.prog ctr) : YX.Ok Tryz.prog := by
 refine y7 ?_
 rintro vals r0 hf0
 try unfold YM at hf0
 refine yO true [(2, none)] Xn 18 Tryz.func50 fun E hE => ?_
 refine yJ X0 hC Xn [1,1] [] [3] (fun z : Unit => Xg = some r0) (fun z => Qm) [(0, .d (eSl 1 false (eI .i64) vals)), (3, .d (I 0))] [Hh (.cut 2)] ?_ fun J1 hJ1 => ?_
 ·rintro ⟨⟩ hf0
  unfold Xg at hf0
  obtain rfl := zi hf0
  exact yE X0 hC hE []
 ·obtain ⟨t2, ht2, hf0⟩ := zl hf0
  refine yL X0 hC Xn [1,1,2,1,0] [J1] (fun s => k8 vals s) (fun x => Ql vals x) 0 ht2  [Ha (lnM (eI .i64) vals)] ?_
  rintro x8 m2 lr1 hf1 hl1 J2 hJ2
  try unfold k8 at hf1
  rcases zR hf1 with ⟨c0, hf1⟩ | ⟨c0, hf1⟩
  ·obtain ⟨val_e, h0, hf1⟩ := zl hf1
   rcases zR hf1 with ⟨c1, hf1⟩ | ⟨c1, hf1⟩
   ·obtain rfl := zi hf1
    obtain rfl := hl1
    obtain rfl := zi hf0
    exact yE X0 hC hE [Hq c0, Hi (eI .i64) h0, Hq c1]
   ·obtain rfl := zi hf1
    exact yB X0 hC hJ2 (w64 (x8 + 1)) hl1 [Hq c0, Hi (eI .i64) h0, Hq c1]
  ·obtain rfl := zi hf1
   obtain rfl := hl1
   exact yB X0 hC hJ1 () hf0 [Hq c0]
def Wy : Code := (Tryz.f49.body).getD .skip
def qZ : xm := spF (α := ze × ze) (ρ := Int) 49 (fun x => [F6_ x.1, F6_ x.2]) (fun r => (eI .i64) r) (fun x => xU x.1 x.2) [] (VV)
theorem WK {ctr : Ctr} (hC : zW Tryz.prog ctr) (h0Q : ctr.Has j0) (h0C : ctr.Has jY) (h0D : ctr.Has YX) : qZ.Ok Tryz.prog := by
 refine y7 ?_
 rintro ⟨a_, b_⟩ r0 hf0
 try unfold xU at hf0
 refine yO true [(4, none)] Wy 22 Tryz.func49 fun E hE => ?_
 obtain ⟨r_, h0, hf0⟩ := zl hf0
 obtain ⟨r_1, h1, hf0⟩ := zl hf0
 obtain ⟨r_2, h2, hf0⟩ := zl hf0
 obtain ⟨r_3, h3, hf0⟩ := zl hf0
 obtain rfl := zi hf0
 exact yE X0 hC hE [Hc h0Q (x := (a_.Kind, b_.Kind)) h0 (loC (eI .u8) a_.Kind <| loC (eI .u8) b_.Kind <| loN), Hc h0C (x := (a_.Label, b_.Label)) h1 (loC (eI .i64) a_.Label <| loC (eI .i64) b_.Label <| loN), Hc h0C (x := (a_.To, b_.To)) h2 (loC (eI .i64) a_.To <| loC (eI .i64) b_.To <| loN), Hg (z1x h0D), Hm (shM (eI .i64) (eI .i64) ([r_, r_1, r_2])), Hs (z1y h0D (x := [r_, r_1, r_2]) h3 (loC F1_ ([r_, r_1, r_2] : List Int) <| loN))]
def zK : Code := (Tryz.f54.body).getD .skip
def xH : xm := spF (α := List ze) (ρ := List ze) 54 (fun x => [(eOs 3 false F6_) x]) (fun r => (eOs 3 false F6_) r) (fun x => ym x) [true] (Qb)
abbrev qA (s_ : List ze) : List (Nat × T) := [(0, .own (eOs 3 false F6_ s_))]
abbrev qw (s_ : List ze) (k_ : Int) : List (Nat × T) := [(0, .own (eOs 3 false F6_ s_)), (3, .d (I k_))]
abbrev qt (s_1 : List ze) (k_1 : Int) : List (Nat × T) := [(0, .own (eOs 3 false F6_ s_1)), (3, .d (I k_1))]
abbrev qr (pv0 : Value) (k_ : Int) (k2 : Int) (s_3 : List ze) (k_3 : Int) : List (Nat × T) := [(0, .own (eOs 3 false F6_ s_3)), (3, .d (I k_3)), (4, .d (.atom (Ww 3 pv0 k_))), (5, .d (I k2))]
abbrev qp (pv0 : Value) (k_ : Int) (s_2 : List ze) (k_2 : Int) (k2 : Int) : List (Nat × T) := [(0, .own (eOs 3 false F6_ s_2)), (3, .d (I k_2)), (4, .d (.atom (Ww 3 pv0 k_))), (5, .d (I k2))]
abbrev qq (s_ : List ze) (k_ : Int) : List (Nat × T) := [(0, .own (eOs 3 false F6_ s_)), (3, .d (I k_))]
def zo : XH Tryz.prog := ((zeH zS 59).or X0)
theorem j5 {ctr : Ctr} (hC : zW Tryz.prog ctr) : xH.Ok Tryz.prog := by
 refine y7 ?_
 rintro s_ r0 hf0
 try unfold ym at hf0
 refine yO true [(2, none)] zK 61 Tryz.func54 fun E hE => ?_
 refine z2d (y := eOs 3 false F6_ s_) rfl 0 (by kernel_rfl) (by kernel_rfl) fun pv0 hv0 => ?_
 let Z0 : List HO := [Ha (lnM F6_ s_)]
 rcases zR hf0 with ⟨c0, hf0⟩ | ⟨c0, hf0⟩
 ·obtain rfl := zi hf0
  exact yE zo hC hE (Z0 ++ [Hq c0])
 ·refine yJ zo hC zK [1,1] [] [0] (fun z : Unit => xI s_ = some r0) (fun z => qA s_) [(0, .own (eOs 3 false F6_ s_))] (Z0 ++ [Hq c0, Hh (.cut 0)]) ?_ fun J1 hJ1 => ?_
  ·rintro ⟨⟩ hf0
   unfold xI at hf0
   obtain rfl := zi hf0
   exact yE zo hC hE []
  ·obtain ⟨t2, ht2, hf0⟩ := zl hf0
   refine yL zo hC zK [1,1,2,1,0] [J1] (fun s => ya s_ s) (fun x => qq s_ x) 1 ht2  [] ?_
   rintro k_ m2 lr1 hf1 hl1 J2 hJ2
   try unfold ya at hf1
   let Z1 : List HO := [Ha (lnM F6_ s_)]
   rcases zR hf1 with ⟨c1, hf1⟩ | ⟨c1, hf1⟩
   ·refine yJ zo hC zK [1,1,2,1,0,0,1] [J1, J2] [0,3] (fun z : Unit => yQ k_ = some lr1) (fun z => qw s_ k_) [(0, .own (eOs 3 false F6_ s_)), (3, .d (I k_))] (Z1 ++ [Hq c1, Hh (.cut 0)]) ?_ fun J3 hJ3 => ?_
    ·rintro ⟨⟩ hf1
     unfold yQ at hf1
     obtain rfl := zi hf1
     exact yB zo hC hJ2 (w64 (k_ + 1)) hl1 []
    ·obtain ⟨s__e, h0, hf1⟩ := zl hf1
     obtain ⟨s__e1, h1, hf1⟩ := zl hf1
     let Z2 : List HO := [Hn (iL F6_ h0), Hs (iM F6_ h0), Hn (iL F6_ h1), Hs (iM F6_ h1)]
     rcases zR hf1 with ⟨c2, hf1⟩ | ⟨c2, hf1⟩
     ·obtain ⟨g0, hf1⟩ := gdE hf1
      refine yJ ((xAs Tryz.prog 4 (Ww 3 pv0 k_)).or ((xVw zS 28 0 pv0).or zo)) hC zK [1,1,2,1,0,0,1,2,0,1,0,1] [J1, J2, J3] [0,3] (fun z : List ze × Int => zZ z.1 z.2 = some lr1) (fun z => qt z.1 z.2) [(0, .own (eOs 3 false F6_ s_)), (3, .d (I k_)), (4, .d (.atom (Ww 3 pv0 k_)))] (Z2 ++ [Hq c2, Hn (⟨.inl rfl, rfl⟩ : (T.als 0 [] 0 0 = T.als 0 [] 0 0 ∨ T.als 0 [] 0 0 = T.d (.atom pv0)) ∧ some pv0 = some pv0), Hn (⟨g0.1, cuB F6_ g0⟩ : (0 : Int) ≤ k_ ∧ k_.toNat ≤ (s_.map F6_).length), Hn (rfl : T.d (.atom (Ww 3 pv0 k_)) = T.d (.atom (Ww 3 pv0 k_))), Hh (.cut 1)]) ?_ fun J4 hJ4 => ?_
      ·rintro ⟨s_1, k_1⟩ hf1
       unfold zZ at hf1
       obtain ⟨g1, hf1⟩ := gdE hf1
       obtain ⟨g2, hf1⟩ := gdE hf1
       obtain ⟨g3, hf1⟩ := gdE hf1
       obtain rfl := zi hf1
       obtain rfl := hl1
       obtain rfl := zi hf0
       exact yE ((xVc zS 56 3 0 pv0 k_1).or ((xVw zS 56 0 pv0).or zo)) hC hE [Hn (⟨.inl rfl, rfl⟩ : (T.als 0 [] 0 0 = T.als 0 [] 0 0 ∨ T.als 0 [] 0 0 = T.d (.atom pv0)) ∧ some pv0 = some pv0), Hn (⟨g1.1, cuB F6_ g1⟩ : (0 : Int) ≤ k_1 ∧ k_1.toNat ≤ (s_1.map F6_).length), Hn (⟨rfl, rfl⟩ : T.d (.atom (Ww 3 pv0 k_1)) = T.d (.atom (Ww 3 pv0 k_1)) ∧ some pv0 = some pv0), Hn (⟨g2.1, cuB F6_ g2, dM F6_ s_1⟩ : (0 : Int) ≤ k_1 ∧ k_1.toNat ≤ (s_1.map F6_).length ∧ A.areD (s_1.map F6_) = true), Hx (.l ((s_1.take k_1.toNat ++ List.replicate (s_1.length - k_1.toNat) (ze.mk 0 0 0)).map F6_)) (vcM F6_ s_1 k_1.toNat (ze.mk 0 0 0)), Hn g3.1, Hn (cuB F6_ g3), Hl (cuM F6_ (s_1.take k_1.toNat ++ List.replicate (s_1.length - k_1.toNat) (ze.mk 0 0 0)) k_1)]
      ·obtain ⟨t5, ht5, hf1⟩ := zl hf1
       refine yL zo hC zK [1,1,2,1,0,0,1,2,0,1,0,1,2,1,0] [J1, J2, J3, J4] (fun s => zX k_ s.1 s.2.1 s.2.2) (fun x => qp pv0 k_ x.1 x.2.1 x.2.2) (s_, k_, 1) ht5  [] ?_
       rintro ⟨s_2, k_2, k2⟩ m5 lr2 hf2 hl2 J5 hJ5
       try unfold zX at hf2
       let Z3 : List HO := [Hn (⟨rfl, rfl⟩ : T.d (.atom (Ww 3 pv0 k_)) = T.d (.atom (Ww 3 pv0 k_)) ∧ some pv0 = some pv0), Hx (.a (.atom (.int .i64 ((s_2.length - k_.toNat : Nat) : Int)))) (vlM F6_ s_2 k_.toNat)]
       rcases zR hf2 with ⟨c3, hf2⟩ | ⟨c3, hf2⟩
       ·refine yJ ((xVl zS 31 59 3 0 pv0 k_ (by kernel_rfl)).or zo) hC zK [1,1,2,1,0,0,1,2,0,1,0,1,2,1,0,0,1] [J1, J2, J3, J4, J5] [0,3,4,5] (fun z : List ze × Int => zY k2 z.1 z.2 = some lr2) (fun z => qr pv0 k_ k2 z.1 z.2) [(0, .own (eOs 3 false F6_ s_2)), (3, .d (I k_2)), (4, .d (.atom (Ww 3 pv0 k_))), (5, .d (I k2))] (Z3 ++ [Hq c3, Hh (.cut 0)]) ?_ fun J6 hJ6 => ?_
        ·rintro ⟨s_3, k_3⟩ hf2
         unfold zY at hf2
         obtain rfl := zi hf2
         exact yB zo hC hJ5 (s_3, k_3, w64 (k2 + 1)) hl2 []
        ·obtain ⟨g4, hf2⟩ := gdE hf2
         obtain ⟨s__e2, h2, hf2⟩ := zl hf2
         obtain ⟨g5, hf2⟩ := gdE hf2
         obtain ⟨s__e3, h3, hf2⟩ := zl hf2
         let Z4 : List HO := [Hn (⟨rfl, rfl⟩ : T.d (.atom (Ww 3 pv0 k_)) = T.d (.atom (Ww 3 pv0 k_)) ∧ some pv0 = some pv0), Hn (⟨g4.1, g4.2, (iL F6_ h2).2⟩ : (0 : Int) ≤ k_ ∧ (0 : Int) ≤ k2 ∧ (k_ + k2).toNat < (s_2.map F6_).length), Hs (iM F6_ h2), Hn (⟨rfl, rfl⟩ : T.d (.atom (Ww 3 pv0 k_)) = T.d (.atom (Ww 3 pv0 k_)) ∧ some pv0 = some pv0), Hn (⟨g5.1, g5.2, (iL F6_ h3).2⟩ : (0 : Int) ≤ k_ ∧ (0 : Int) ≤ w64 (k2 - 1) ∧ (k_ + (w64 (k2 - 1))).toNat < (s_2.map F6_).length), Hs (iM F6_ h3)]
         rcases zR hf2 with ⟨c4, hf2⟩ | ⟨c4, hf2⟩
         ·obtain ⟨g6, hf2⟩ := gdE hf2
          obtain ⟨s__e4, h4, hf2⟩ := zl hf2
          obtain ⟨s__e5, h5, hf2⟩ := zl hf2
          exact yB ((xVi zS 49 3 0 pv0 k_).or ((xVi zS 42 3 0 pv0 k_).or ((xVi zS 37 3 0 pv0 k_).or zo))) hC hJ6 ((s_2.set k_2.toNat s__e4), w64 (k_2 + 1)) hf2 (Z4 ++ [Hq c4, Hn (⟨rfl, rfl⟩ : T.d (.atom (Ww 3 pv0 k_)) = T.d (.atom (Ww 3 pv0 k_)) ∧ some pv0 = some pv0), Hn (⟨g6.1, g6.2, (iL F6_ h4).2⟩ : (0 : Int) ≤ k_ ∧ (0 : Int) ≤ k2 ∧ (k_ + k2).toNat < (s_2.map F6_).length), Hs (iM F6_ h4), Hn (iL F6_ h5), Hs (iM F6_ h5), Hs (iM F6_ h5), Hl (sM F6_ s_2 k_2 s__e4)])
         ·exact yB ((xVi zS 42 3 0 pv0 k_).or ((xVi zS 37 3 0 pv0 k_).or zo)) hC hJ6 (s_2, k_2) hf2 (Z4 ++ [Hq c4])
       ·obtain rfl := zi hf2
        obtain rfl := hl2
        exact yB ((xVl zS 31 59 3 0 pv0 k_ (by kernel_rfl)).or zo) hC hJ4 (s_2, k_2) hf1 (Z3 ++ [Hq c3])
     ·exact yB zo hC hJ3 () hf1 (Z2 ++ [Hq c2])
   ·obtain rfl := zi hf1
    obtain rfl := hl1
    exact yB zo hC hJ1 () hf0 (Z1 ++ [Hq c1])
def jH : Code := (Tryz.f53.body).getD .skip
def w5 : xm := spF (α := List ze) (ρ := List ze) 53 (fun x => [Y7 x]) (fun r => F9_ r) (fun x => yZ x) [] (Qb)
theorem jP {ctr : Ctr} (hC : zW Tryz.prog ctr) : w5.Ok Tryz.prog := by
 refine y7 ?_
 rintro s_ r0 hf0
 try unfold yZ at hf0
 refine yO true [(2, none)] jH 9 Tryz.func53 fun E hE => ?_
 obtain ⟨g0, hf0⟩ := gdE hf0
 obtain rfl := zi hf0
 exact yE X0 hC hE [Ha (lnM F6_ s_), Ha (lnM F6_ s_), Hn (slB g0), Hn (slC g0), Hn (z3c F6_ g0), Ha (z9h 3 F6_ s_ 0 ((s_.length : Nat) : Int).toNat)]
def jy : Code := (Tryz.f55.body).getD .skip
def xS : xm := spF (α := List (List ze)) (ρ := List (List ze)) 55 (fun x => [zeA x]) (fun r => zeB r) (fun x => yH x) [] (Qb)
theorem jD {ctr : Ctr} (hC : zW Tryz.prog ctr) : xS.Ok Tryz.prog := by
 refine y7 ?_
 rintro s_ r0 hf0
 try unfold yH at hf0
 refine yO true [(2, none)] jy 9 Tryz.func55 fun E hE => ?_
 obtain ⟨g0, hf0⟩ := gdE hf0
 obtain rfl := zi hf0
 exact yE X0 hC hE [Ha (lnM Y7 s_), Ha (lnM Y7 s_), Hn (slB g0), Hn (slC g0), Hn (z3c Y7 g0), Ha (z9h 1 Y7 s_ 0 ((s_.length : Nat) : Int).toNat)]
def xc : Code := (Tryz.f17.body).getD .skip
def qm : xm := spF (α := z6 × List Int) (ρ := zC × Int) 17 (fun x => [yN x.1, F2_ x.2]) (fun r => .tup [z9e r.1, (eI .i64) r.2]) (fun x => yu x.1 x.2) [] (VV)
abbrev Wc (x_ : z6) (out_Rows : List (List ze)) : List (Nat × T) := [(4, .own (.box (.agg [I 0, I 0, eOs 1 true Y7 []]))), (10, .own (.box (.agg [I 0, I x_.Labels, eOs 1 false F9_ out_Rows])))]
abbrev Wb (x_ : z6) (hidden : List Int) (r_2 : List za × List (List z7) × Int) (x51 : Int) (out_Rows2 : List (List ze)) : List (Nat × T) := [(1, .d (eSl 1 false (eI .i64) hidden)), (2, .own (.box (yN x_))), (4, .own (.box (.agg [I 0, I 0, eOs 1 true Y7 []]))), (10, .own (.box (.agg [I 0, I x_.Labels, eOs 1 false F9_ out_Rows2]))), (49, .d (eSl 1 true wJ r_2.2.1)), (50, .d (I ((r_2.2.1.length : Nat) : Int))), (51, .d (I x51))]
abbrev Wa (x_ : z6) (hidden : List Int) (r_2 : List za × List (List z7) × Int) (out_Rows1 : List (List ze)) (x51 : Int) (row : List ze) : List (Nat × T) := [(1, .d (eSl 1 false (eI .i64) hidden)), (2, .own (.box (yN x_))), (4, .own (.box (.agg [I 0, I 0, eOs 1 true Y7 []]))), (10, .own (.box (.agg [I 0, I x_.Labels, eOs 1 false F9_ out_Rows1]))), (13, .own (eOs 3 false F6_ row)), (49, .d (eSl 1 true wJ r_2.2.1)), (50, .d (I ((r_2.2.1.length : Nat) : Int))), (51, .d (I x51))]
abbrev W9 (x_ : z6) (hidden : List Int) (r_2 : List za × List (List z7) × Int) (out_Rows1 : List (List ze)) (x51 : Int) (u_ : List z7) (row1 : List ze) (x57 : Int) (u__e : z7) (arc_Kind : Int) (arc_Label : Int) : List (Nat × T) := [(1, .d (eSl 1 false (eI .i64) hidden)), (2, .own (.box (yN x_))), (4, .own (.box (.agg [I 0, I 0, eOs 1 true Y7 []]))), (10, .own (.box (.agg [I 0, I x_.Labels, eOs 1 false F9_ out_Rows1]))), (13, .own (eOs 3 false F6_ row1)), (16, .own (.box (.agg [.atom (.int .u8 arc_Kind), I arc_Label, I u__e.To]))), (49, .d (eSl 1 true wJ r_2.2.1)), (50, .d (I ((r_2.2.1.length : Nat) : Int))), (51, .d (I x51)), (55, .d (eSl 5 true kB u_)), (56, .d (I ((u_.length : Nat) : Int))), (57, .d (I x57))]
abbrev W7 (x_ : z6) (hidden : List Int) (r_2 : List za × List (List z7) × Int) (out_Rows1 : List (List ze)) (x51 : Int) (u_ : List z7) (row1 : List ze) (x57 : Int) : List (Nat × T) := [(1, .d (eSl 1 false (eI .i64) hidden)), (2, .own (.box (yN x_))), (4, .own (.box (.agg [I 0, I 0, eOs 1 true Y7 []]))), (10, .own (.box (.agg [I 0, I x_.Labels, eOs 1 false F9_ out_Rows1]))), (13, .own (eOs 3 false F6_ row1)), (49, .d (eSl 1 true wJ r_2.2.1)), (50, .d (I ((r_2.2.1.length : Nat) : Int))), (51, .d (I x51)), (55, .d (eSl 5 true kB u_)), (56, .d (I ((u_.length : Nat) : Int))), (57, .d (I x57))]
abbrev W8 (x_ : z6) (hidden : List Int) (r_2 : List za × List (List z7) × Int) (out_Rows1 : List (List ze)) (x51 : Int) : List (Nat × T) := [(1, .d (eSl 1 false (eI .i64) hidden)), (2, .own (.box (yN x_))), (4, .own (.box (.agg [I 0, I 0, eOs 1 true Y7 []]))), (10, .own (.box (.agg [I 0, I x_.Labels, eOs 1 false F9_ out_Rows1]))), (49, .d (eSl 1 true wJ r_2.2.1)), (50, .d (I ((r_2.2.1.length : Nat) : Int))), (51, .d (I x51))]
theorem U0 {ctr : Ctr} (hC : zW Tryz.prog ctr) (h05 : ctr.Has wR) (h0q : ctr.Has qR) (h0f : ctr.Has wc) (h0R : ctr.Has wF) (h0S : ctr.Has qZ) (h0T : ctr.Has xH) (h0E : ctr.Has w5) (h0F : ctr.Has xS) : qm.Ok Tryz.prog := by
 refine y7 ?_
 rintro ⟨x_, hidden⟩ r0 hf0
 try unfold yu at hf0
 refine yO false [(4, some 53), (5, none)] xc 121 Tryz.func17 fun E hE => ?_
 obtain ⟨r_, h0, hf0⟩ := zl hf0
 let Z0 : List HO := [Hc h05 (x := x_) h0 (loC yN x_ <| loN)]
 rcases zR hf0 with ⟨c0, hf0⟩ | ⟨c0, hf0⟩
 ·obtain rfl := zi hf0
  exact yE X0 hC hE (Z0 ++ [Hq c0, Hm (shM Y7 Y7 [])])
 ·obtain ⟨r_1, h1, hf0⟩ := zl hf0
  let Z1 : List HO := (Z0 ++ [Hq c0, Hc h0q (x := (hidden, x_.Labels)) h1 (loC F2_ hidden <| loC (eI .i64) x_.Labels <| loN)])
  rcases zR hf0 with ⟨c1, hf0⟩ | ⟨c1, hf0⟩
  ·obtain rfl := zi hf0
   exact yE X0 hC hE (Z1 ++ [Hq c1, Hm (shM Y7 Y7 [])])
  ·obtain ⟨r_2, h2, hf0⟩ := zl hf0
   let Z2 : List HO := (Z1 ++ [Hq c1, Hc h0f (x := x_) h2 (loC yN x_ <| loN)])
   rcases zR hf0 with ⟨c2, hf0⟩ | ⟨c2, hf0⟩
   ·obtain rfl := zi hf0
    exact yE X0 hC hE (Z2 ++ [Hq c2, Hm (shM Y7 Y7 [])])
   ·let Z3 : List HO := (Z2 ++ [Hq c2, Ha (lnM x7 r_2.1)])
    rcases zR hf0 with ⟨c3, hf0⟩ | ⟨c3, hf0⟩
    ·obtain rfl := zi hf0
     exact yE X0 hC hE (Z3 ++ [Hq c3, Hm (shM Y7 Y7 [])])
    ·refine yJ X0 hC xc [1,1,1,1,1,1,1] [] [4,10] (fun z : List (List ze) => vD x_ z = some r0) (fun z => Wc x_ z) [(1, .d (eSl 1 false (eI .i64) hidden)), (2, .own (.box (yN x_))), (4, .own (.box (.agg [I 0, I 0, eOs 1 true Y7 []]))), (8, .d (eSl 1 true wJ r_2.2.1)), (10, .own (.box (.agg [I 0, I x_.Labels, eOs 1 true Y7 []])))] (Z3 ++ [Hq c3, Hh (.cut 1)]) ?_ fun J1 hJ1 => ?_
     ·rintro out_Rows hf0
      unfold vD at hf0
      obtain ⟨r_3, h3, hf0⟩ := zl hf0
      obtain rfl := zi hf0
      exact yE X0 hC hE [Hg (z1x h0F), Hm (shM F9_ F9_ out_Rows), Hs (z1y h0F (x := out_Rows) h3 (loC (eSl 1 false F9_) out_Rows <| loN)), Hm (shM F9_ F9_ out_Rows)]
     ·obtain ⟨t2, ht2, hf0⟩ := zl hf0
      refine yLx X0 hC xc [1,1,1,1,1,1,1,2,1,0] [J1] (fun s => vC x_ hidden r_2 s.1 s.2) (fun x => W8 x_ hidden r_2 x.1 x.2) (([] : List (List ze)), 0) ht2 [(1, .d (eSl 1 false (eI .i64) hidden)), (2, .own (.box (yN x_))), (4, .own (.box (.agg [I 0, I 0, eOs 1 true Y7 []]))), (10, .own (.box (.agg [I 0, I x_.Labels, eOs 1 true F9_ []]))), (49, .d (eSl 1 true wJ r_2.2.1)), (50, .d (I ((r_2.2.1.length : Nat) : Int))), (51, .d (I 0))] inferInstance [Ha (lnM wJ r_2.2.1)] ?_
      rintro ⟨out_Rows1, x51⟩ m2 lr1 hf1 hl1 J2 hJ2
      try unfold vC at hf1
      rcases zR hf1 with ⟨c4, hf1⟩ | ⟨c4, hf1⟩
      ·refine yJ X0 hC xc [1,1,1,1,1,1,1,2,1,0,0,1,1] [J1, J2] [1,2,4,10,49,50,51] (fun z : List (List ze) => qj x51 z = some lr1) (fun z => Wb x_ hidden r_2 x51 z) [(1, .d (eSl 1 false (eI .i64) hidden)), (2, .own (.box (yN x_))), (4, .own (.box (.agg [I 0, I 0, eOs 1 true Y7 []]))), (10, .own (.box (.agg [I 0, I x_.Labels, eOs 1 false F9_ out_Rows1]))), (49, .d (eSl 1 true wJ r_2.2.1)), (50, .d (I ((r_2.2.1.length : Nat) : Int))), (51, .d (I x51))] [Hq c4, Hh (.cut 0)] ?_ fun J3 hJ3 => ?_
       ·rintro out_Rows2 hf1
        unfold qj at hf1
        obtain rfl := zi hf1
        exact yB X0 hC hJ2 (out_Rows2, w64 (x51 + 1)) hl1 []
       ·obtain ⟨u_, h4, hf1⟩ := zl hf1
        refine yJ X0 hC xc [1,1,1,1,1,1,1,2,1,0,0,1,1,2,0,1,1] [J1, J2, J3] [1,2,4,10,13,49,50,51] (fun z : List ze => qh out_Rows1 x51 z = some lr1) (fun z => Wa x_ hidden r_2 out_Rows1 x51 z) [(1, .d (eSl 1 false (eI .i64) hidden)), (2, .own (.box (yN x_))), (4, .own (.box (.agg [I 0, I 0, eOs 1 true Y7 []]))), (10, .own (.box (.agg [I 0, I x_.Labels, eOs 1 false F9_ out_Rows1]))), (12, .d (eSl 5 true kB u_)), (13, .own (eOs 3 true F6_ [])), (49, .d (eSl 1 true wJ r_2.2.1)), (50, .d (I ((r_2.2.1.length : Nat) : Int))), (51, .d (I x51))] [Hi wJ h4, Hh (.cut 1)] ?_ fun J4 hJ4 => ?_
        ·rintro row hf1
         unfold qh at hf1
         refine yA X0 hC xc [1,1,1,1,1,1,1,2,1,0,0,1,1,2,0,1,1,1] [J1, J2, J3] [(1, .d (eSl 1 false (eI .i64) hidden)), (2, .own (.box (yN x_))), (4, .own (.box (.agg [I 0, I 0, eOs 1 true Y7 []]))), (10, .own (.box (.agg [I 0, I x_.Labels, eOs 1 false F9_ out_Rows1]))), (13, .own (eOs 3 false F6_ row)), (49, .d (eSl 1 true wJ r_2.2.1)), (50, .d (I ((r_2.2.1.length : Nat) : Int))), (51, .d (I x51))] [Hh (.cut 0)] ?_
         obtain ⟨sorted, h5, hf1⟩ := zl hf1
         refine z1p (by kernel_rfl) (x := (sub [1,1,1,1,1,1,1,2,1,0,0,1,1,2,0,1,1,1,0] xc)) (y := (sub [1,1,1,1,1,1,1,2,1,0,0,1,1,2,0,1,1,1,1] xc)) 13 (fun st1 => Own.canon [1,2,4,10,13,49,50,51] st1 = ofL [(1, .d (eSl 1 false (eI .i64) hidden)), (2, .own (.box (yN x_))), (4, .own (.box (.agg [I 0, I 0, eOs 1 true Y7 []]))), (10, .own (.box (.agg [I 0, I x_.Labels, eOs 1 false F9_ out_Rows1]))), (13, .own (eOs 3 false F6_ sorted)), (49, .d (eSl 1 true wJ r_2.2.1)), (50, .d (I ((r_2.2.1.length : Nat) : Int))), (51, .d (I x51))]) (fun pv13 => yF ((jC (P := Tryz.prog) wB [13] (z3B zco (f := F6_) (t := false) (v := pv13) (fun _ => rfl) (fun _ => rfl) (fun x y c h => wd hC h0S (x := (x, y)) h) h5) 101).or X0) hC .normal [(1, .d (eSl 1 false (eI .i64) hidden)), (2, .own (.box (yN x_))), (4, .own (.box (.agg [I 0, I 0, eOs 1 true Y7 []]))), (10, .own (.box (.agg [I 0, I x_.Labels, eOs 1 false F9_ out_Rows1]))), (13, .own (eOs 3 false F6_ sorted)), (49, .d (eSl 1 true wJ r_2.2.1)), (50, .d (I ((r_2.2.1.length : Nat) : Int))), (51, .d (I x51))] [Hn (XR (f := .fn 48 []) (xs := [.atom pv13, .fn 49 []]) (ls := [(pv13, eOs 3 false F6_ row)]) (r := .tup []) (ys := [eOs 3 false F6_ sorted]) [.atom pv13, .fn 49 []] (show z0h [.atom pv13, .fn 49 []] [.atom pv13, .fn 49 []] from inferInstance))] fun st0 h0 => ⟨rfl, h0⟩) fun st1 h1 => z09 h1 ?_
         obtain ⟨r_4, h6, hf1⟩ := zl hf1
         obtain ⟨r_5, h7, hf1⟩ := zl hf1
         let Z4 : List HO := [Hc h0T (x := sorted) h6 (loC (eOs 3 false F6_) sorted <| loN), Hg (z1x h0E), Hm (shM F6_ F6_ r_4), Hs (z1y h0E (x := r_4) h7 (loC Y7 r_4 <| loN)), Hm (shM F6_ F6_ r_4), Ha (lnM F6_ r_5)]
         rcases zR hf1 with ⟨c5, hf1⟩ | ⟨c5, hf1⟩
         ·obtain rfl := zi hf1
          obtain rfl := hl1
          obtain rfl := zi hf0
          exact yE X0 hC hE (Z4 ++ [Hq c5, Hm (shM Y7 Y7 [])])
         ·obtain ⟨g0, hf1⟩ := gdE hf1
          exact yB X0 hC hJ3 (out_Rows1 ++ ([r_5] : List (List ze))) hf1 (Z4 ++ [Hq c5, Hq (dM F9_ ([r_5] : List (List ze))), Hn (dM F9_ ([r_5] : List (List ze))), Hn (aL F9_ F9_ g0), Hl (aM F9_ out_Rows1 ([r_5] : List (List ze)))])
        ·obtain ⟨t5, ht5, hf1⟩ := zl hf1
         refine yLx X0 hC xc [1,1,1,1,1,1,1,2,1,0,0,1,1,2,0,1,1,2,1,0] [J1, J2, J3, J4] (fun s => wL x_ hidden u_ s.1 s.2) (fun x => W7 x_ hidden r_2 out_Rows1 x51 u_ x.1 x.2) (([] : List ze), 0) ht5 [(1, .d (eSl 1 false (eI .i64) hidden)), (2, .own (.box (yN x_))), (4, .own (.box (.agg [I 0, I 0, eOs 1 true Y7 []]))), (10, .own (.box (.agg [I 0, I x_.Labels, eOs 1 false F9_ out_Rows1]))), (13, .own (eOs 3 true F6_ [])), (49, .d (eSl 1 true wJ r_2.2.1)), (50, .d (I ((r_2.2.1.length : Nat) : Int))), (51, .d (I x51)), (55, .d (eSl 5 true kB u_)), (56, .d (I ((u_.length : Nat) : Int))), (57, .d (I 0))] inferInstance [Ha (lnM kB u_)] ?_
         rintro ⟨row1, x57⟩ m5 lr2 hf2 hl2 J5 hJ5
         try unfold wL at hf2
         rcases zR hf2 with ⟨c6, hf2⟩ | ⟨c6, hf2⟩
         ·obtain ⟨u__e, h8, hf2⟩ := zl hf2
          obtain ⟨Part_e, h9, hf2⟩ := zl hf2
          obtain ⟨Arc_e, h10, hf2⟩ := zl hf2
          refine yJ X0 hC xc [1,1,1,1,1,1,1,2,1,0,0,1,1,2,0,1,1,2,1,0,0,1,1,0,0,1,1,1] [J1, J2, J3, J4, J5] [1,2,4,10,13,16,49,50,51,55,56,57] (fun z : Int × Int => wM row1 x57 u__e z.1 z.2 = some lr2) (fun z => W9 x_ hidden r_2 out_Rows1 x51 u_ row1 x57 u__e z.1 z.2) [(1, .d (eSl 1 false (eI .i64) hidden)), (2, .own (.box (yN x_))), (4, .own (.box (.agg [I 0, I 0, eOs 1 true Y7 []]))), (10, .own (.box (.agg [I 0, I x_.Labels, eOs 1 false F9_ out_Rows1]))), (13, .own (eOs 3 false F6_ row1)), (16, .own (.box (.agg [.atom (.int .u8 0), I 0, I u__e.To]))), (17, .own (.box (kg Arc_e))), (49, .d (eSl 1 true wJ r_2.2.1)), (50, .d (I ((r_2.2.1.length : Nat) : Int))), (51, .d (I x51)), (55, .d (eSl 5 true kB u_)), (56, .d (I ((u_.length : Nat) : Int))), (57, .d (I x57))] [Hq c6, Hi kB h8, Hi vg h9, Hi kg h10, Hh (.cut 0)] ?_ fun J6 hJ6 => ?_
          ·rintro ⟨arc_Kind, arc_Label⟩ hf2
           unfold wM at hf2
           obtain ⟨g1, hf2⟩ := gdE hf2
           obtain rfl := zi hf2
           exact yB X0 hC hJ5 ((row1 ++ ([(ze.mk arc_Kind arc_Label u__e.To)] : List ze)), w64 (x57 + 1)) hl2 [Hq (dM F6_ ([(ze.mk arc_Kind arc_Label u__e.To)] : List ze)), Hn (dM F6_ ([(ze.mk arc_Kind arc_Label u__e.To)] : List ze)), Hn (aL F6_ F6_ g1), Hl (aM F6_ row1 ([(ze.mk arc_Kind arc_Label u__e.To)] : List ze))]
          ·obtain ⟨r_6, h11, hf2⟩ := zl hf2
           let Z5 : List HO := [Hc h0R (x := (hidden, Arc_e.Message)) h11 (loC F2_ hidden <| loC (eI .i64) Arc_e.Message <| loN)]
           rcases zR hf2 with ⟨c7, hf2⟩ | ⟨c7, hf2⟩
           ·rcases zR hf2 with ⟨c8, hf2⟩ | ⟨c8, hf2⟩
            ·exact yB X0 hC hJ6 (2, Arc_e.Message) hf2 (Z5 ++ [Hq c7, Hq c7, Hq c7, Hq c8])
            ·exact yB X0 hC hJ6 (0,0) hf2 (Z5 ++ [Hq c7, Hq c7, Hq c7, Hq c8])
           ·exact yB X0 hC hJ6 (0,0) hf2 (Z5 ++ [Hq c7, Hq c7, Hq c7, qF])
         ·obtain rfl := zi hf2
          obtain rfl := hl2
          exact yB X0 hC hJ4 row1 hf1 [Hq c6]
      ·obtain rfl := zi hf1
       obtain rfl := hl1
       exact yB X0 hC hJ1 out_Rows1 hf0 [Hq c4]
def uU : Code := (Tryz.f18.body).getD .skip
def kR : xm := spF (α := zC × zC) (ρ := Int) 18 (fun x => [z3r x.1, z3r x.2]) (fun r => (eI .i64) r) (fun x => Ze x.1 x.2) [] (VV)
abbrev Vi : List (Nat × T) := []
abbrev Vh (a_ : zC) (b_ : zC) (i_ : Int) : List (Nat × T) := [(2, .own (.box (z3r a_))), (3, .own (.box (z3r b_))), (5, .d (I i_))]
abbrev Vf (a_ : zC) (b_ : zC) (i_ : Int) (k_ : Int) : List (Nat × T) := [(2, .own (.box (z3r a_))), (3, .own (.box (z3r b_))), (5, .d (I i_)), (6, .d (I k_))]
abbrev Vg (a_ : zC) (b_ : zC) (i_ : Int) : List (Nat × T) := [(2, .own (.box (z3r a_))), (3, .own (.box (z3r b_))), (5, .d (I i_))]
theorem QC {ctr : Ctr} (hC : zW Tryz.prog ctr) : kR.Ok Tryz.prog := by
 refine y7 ?_
 rintro ⟨a_, b_⟩ r0 hf0
 try unfold Ze at hf0
 refine yO true [(4, none)] uU 75 Tryz.func18 fun E hE => ?_
 rcases zR hf0 with ⟨c0, hf0⟩ | ⟨c0, hf0⟩
 ·obtain rfl := zi hf0
  exact yE X0 hC hE (rpN 6 (Hq c0) (rpN 9 qT []))
 ·let Z0 : List HO := (rpN 6 (Hq c0) [])
  rcases zR hf0 with ⟨c1, hf0⟩ | ⟨c1, hf0⟩
  ·obtain rfl := zi hf0
   exact yE X0 hC hE (Z0 ++ (rpN 8 (Hq c1) [qT]))
  ·let Z1 : List HO := (Z0 ++ [Hq c1, Hq c1, Hq c1, Ha (lnM Y7 a_.Rows), Hq c1, Hq c1, Hq c1, Ha (lnM Y7 b_.Rows), Hq c1, Hq c1])
   rcases zR hf0 with ⟨c2, hf0⟩ | ⟨c2, hf0⟩
   ·obtain rfl := zi hf0
    exact yE X0 hC hE (Z1 ++ [Hq c2])
   ·refine yJ X0 hC uU [1,1] [] [] (fun z : Unit => kW = some r0) (fun z => Vi) [(2, .own (.box (z3r a_))), (3, .own (.box (z3r b_)))] (Z1 ++ [Hq c2, Hh (.cut 0)]) ?_ fun J1 hJ1 => ?_
    ·rintro ⟨⟩ hf0
     unfold kW at hf0
     obtain rfl := zi hf0
     exact yE X0 hC hE []
    ·obtain ⟨t2, ht2, hf0⟩ := zl hf0
     refine yL X0 hC uU [1,1,2,1,0] [J1] (fun s => kU a_ b_ s) (fun x => Vg a_ b_ x) 0 ht2  [] ?_
     rintro i_ m2 lr1 hf1 hl1 J2 hJ2
     try unfold kU at hf1
     let Z2 : List HO := [Ha (lnM Y7 a_.Rows)]
     rcases zR hf1 with ⟨c3, hf1⟩ | ⟨c3, hf1⟩
     ·refine yJ X0 hC uU [1,1,2,1,0,0,1] [J1, J2] [2,3,5] (fun z : Unit => kV i_ = some lr1) (fun z => Vh a_ b_ i_) [(2, .own (.box (z3r a_))), (3, .own (.box (z3r b_))), (5, .d (I i_))] (Z2 ++ [Hq c3, Hh (.cut 0)]) ?_ fun J3 hJ3 => ?_
      ·rintro ⟨⟩ hf1
       unfold kV at hf1
       obtain rfl := zi hf1
       exact yB X0 hC hJ2 (w64 (i_ + 1)) hl1 []
      ·obtain ⟨Row_e, h0, hf1⟩ := zl hf1
       obtain ⟨Row_e1, h1, hf1⟩ := zl hf1
       let Z3 : List HO := [Hi Y7 h0, Ha (lnM F6_ Row_e), Hi Y7 h1, Ha (lnM F6_ Row_e1)]
       rcases zR hf1 with ⟨c4, hf1⟩ | ⟨c4, hf1⟩
       ·obtain rfl := zi hf1
        obtain rfl := hl1
        obtain rfl := zi hf0
        exact yE X0 hC hE (Z3 ++ [Hq c4])
       ·obtain ⟨t4, ht4, hf1⟩ := zl hf1
        refine yL X0 hC uU [1,1,2,1,0,0,1,2,0,1,1,0] [J1, J2, J3] (fun s => kT a_ b_ i_ s) (fun x => Vf a_ b_ i_ x) 0 ht4  (Z3 ++ [Hq c4]) ?_
        rintro k_ m4 lr2 hf2 hl2 J4 hJ4
        try unfold kT at hf2
        obtain ⟨Row_e2, h2, hf2⟩ := zl hf2
        let Z4 : List HO := [Hi Y7 h2, Ha (lnM F6_ Row_e2)]
        rcases zR hf2 with ⟨c5, hf2⟩ | ⟨c5, hf2⟩
        ·obtain ⟨Row_e3, h3, hf2⟩ := zl hf2
         obtain ⟨Row_e_e, h4, hf2⟩ := zl hf2
         obtain ⟨Row_e4, h5, hf2⟩ := zl hf2
         obtain ⟨Row_e_e1, h6, hf2⟩ := zl hf2
         let Z5 : List HO := (Z4 ++ [Hq c5, Hi Y7 h3, Hi F6_ h4, Hi Y7 h5, Hi F6_ h6])
         rcases zR hf2 with ⟨c6, hf2⟩ | ⟨c6, hf2⟩
         ·obtain rfl := zi hf2
          obtain rfl := hl2
          obtain rfl := zi hf1
          obtain rfl := hl1
          obtain rfl := zi hf0
          exact yE X0 hC hE (Z5 ++ [Hq c6])
         ·obtain rfl := zi hf2
          exact yB X0 hC hJ4 (w64 (k_ + 1)) hl2 (Z5 ++ [Hq c6])
        ·obtain rfl := zi hf2
         obtain rfl := hl2
         exact yB X0 hC hJ3 () hf1 (Z4 ++ [Hq c5])
     ·obtain rfl := zi hf1
      obtain rfl := hl1
      exact yB X0 hC hJ1 () hf0 (Z2 ++ [Hq c3])
def uN : Code := (Tryz.f92.body).getD .skip
def uF : xm := spF (α := List Int × Int) (ρ := Int) 92 (fun x => [F2_ x.1, (eI .i64) x.2]) (fun r => (eI .i64) r) (fun x => j4 x.1 x.2) [] (VV)
abbrev Y6 : List (Nat × T) := []
abbrev Y5 (s_ : List Int) (v_ : Int) (x8 : Int) : List (Nat × T) := [(0, .d (eSl 1 false (eI .i64) s_)), (1, .d (I v_)), (7, .d (I ((s_.length : Nat) : Int))), (8, .d (I x8))]
theorem Xy {ctr : Ctr} (hC : zW Tryz.prog ctr) : uF.Ok Tryz.prog := by
 refine y7 ?_
 rintro ⟨s_, v_⟩ r0 hf0
 try unfold j4 at hf0
 refine yO true [(4, none)] uN 19 Tryz.func92 fun E hE => ?_
 refine yJ X0 hC uN [1] [] [] (fun z : Unit => uI = some r0) (fun z => Y6) [(0, .d (eSl 1 false (eI .i64) s_)), (1, .d (I v_))] [Hh (.cut 1)] ?_ fun J1 hJ1 => ?_
 ·rintro ⟨⟩ hf0
  unfold uI at hf0
  obtain rfl := zi hf0
  exact yE X0 hC hE []
 ·obtain ⟨t2, ht2, hf0⟩ := zl hf0
  refine yL X0 hC uN [1,2,1,0] [J1] (fun s => uH s_ v_ s) (fun x => Y5 s_ v_ x) 0 ht2  [Ha (lnM (eI .i64) s_)] ?_
  rintro x8 m2 lr1 hf1 hl1 J2 hJ2
  try unfold uH at hf1
  rcases zR hf1 with ⟨c0, hf1⟩ | ⟨c0, hf1⟩
  ·obtain ⟨s__e, h0, hf1⟩ := zl hf1
   rcases zR hf1 with ⟨c1, hf1⟩ | ⟨c1, hf1⟩
   ·obtain rfl := zi hf1
    obtain rfl := hl1
    obtain rfl := zi hf0
    exact yE X0 hC hE [Hq c0, Hi (eI .i64) h0, Hq c1]
   ·obtain rfl := zi hf1
    exact yB X0 hC hJ2 (w64 (x8 + 1)) hl1 [Hq c0, Hi (eI .i64) h0, Hq c1]
  ·obtain rfl := zi hf1
   obtain rfl := hl1
   exact yB X0 hC hJ1 () hf0 [Hq c0]
def ZV : Code := (Tryz.f73.body).getD .skip
def vn : xm := spF (α := List Int × Int) (ρ := Bool) 73 (fun x => [F2_ x.1, (eI .i64) x.2]) (fun r => eB r) (fun x => uJ x.1 x.2) [] (VV)
theorem Ye {ctr : Ctr} (hC : zW Tryz.prog ctr) (h0U : ctr.Has uF) : vn.Ok Tryz.prog := by
 refine y7 ?_
 rintro ⟨s_, v_⟩ r0 hf0
 try unfold uJ at hf0
 refine yO true [(4, none)] ZV 9 Tryz.func73 fun E hE => ?_
 obtain ⟨r_, h0, hf0⟩ := zl hf0
 obtain rfl := zi hf0
 exact yE X0 hC hE [Hc h0U (x := (s_, v_)) h0 (loC F2_ s_ <| loC (eI .i64) v_ <| loN)]
def uM : Code := (Tryz.f42.body).getD .skip
def uD : xm := spF (α := z6 × za) (ρ := Bool) 42 (fun x => [yN x.1, x7 x.2]) (fun r => eB r) (fun x => qY x.1 x.2) [] (VV)
abbrev ZZ (s_ : za) : List (Nat × T) := [(3, .own (.box (x7 s_)))]
abbrev ZY (x_ : z6) (s_ : za) (x10 : Int) : List (Nat × T) := [(3, .own (.box (x7 s_))), (8, .d (eSl 3 false vg x_.Parts)), (9, .d (I ((x_.Parts.length : Nat) : Int))), (10, .d (I x10))]
theorem Xv {ctr : Ctr} (hC : zW Tryz.prog ctr) (h0V : ctr.Has vn) : uD.Ok Tryz.prog := by
 refine y7 ?_
 rintro ⟨x_, s_⟩ r0 hf0
 try unfold qY at hf0
 refine yO true [(4, none)] uM 28 Tryz.func42 fun E hE => ?_
 refine yJ X0 hC uM [1] [] [3] (fun z : Unit => uw s_ = some r0) (fun z => ZZ s_) [(2, .own (.box (yN x_))), (3, .own (.box (x7 s_)))] [Hh (.cut 1)] ?_ fun J1 hJ1 => ?_
 ·rintro ⟨⟩ hf0
  unfold uw at hf0
  obtain rfl := zi hf0
  exact yE ((zch zS 27).or X0) hC hE []
 ·obtain ⟨t2, ht2, hf0⟩ := zl hf0
  refine yL X0 hC uM [1,2,1,0] [J1] (fun s => uv x_ s_ s) (fun x => ZY x_ s_ x) 0 ht2  [Ha (lnM vg x_.Parts)] ?_
  rintro x10 m2 lr1 hf1 hl1 J2 hJ2
  try unfold uv at hf1
  rcases zR hf1 with ⟨c0, hf1⟩ | ⟨c0, hf1⟩
  ·obtain ⟨Part_e, h0, hf1⟩ := zl hf1
   obtain ⟨cell, h1, hf1⟩ := zl hf1
   obtain ⟨r_, h2, hf1⟩ := zl hf1
   let Z0 : List HO := [Hq c0, Hi vg h0, Hn (⟨arJ (by kernel_rfl) (i0 h1), (iL (eI .i64) h1).2⟩ : ZX wB 110 ((zF.toL s_.states_).map (eI .i64)) x10 = true ∧ x10.toNat < ((zF.toL s_.states_).map (eI .i64)).length), Hh (.op 9), Hh (.f), Hx (.a (.agg [I s_.states_.e0, I s_.states_.e1, I s_.states_.e2, I s_.states_.e3])) (rfl : some (.agg [I s_.states_.e0, I s_.states_.e1, I s_.states_.e2, I s_.states_.e3] : A) = some (.agg [I s_.states_.e0, I s_.states_.e1, I s_.states_.e2, I s_.states_.e3])), Hh (.f), Hs (iM (eI .i64) h1), Hc h0V (x := (Part_e.Final, cell)) h2 (loC F2_ Part_e.Final <| loC (eI .i64) cell <| loN)]
   rcases zR hf1 with ⟨c1, hf1⟩ | ⟨c1, hf1⟩
   ·obtain rfl := zi hf1
    obtain rfl := hl1
    obtain rfl := zi hf0
    exact yE X0 hC hE (Z0 ++ [Hq c1])
   ·obtain rfl := zi hf1
    exact yB X0 hC hJ2 (w64 (x10 + 1)) hl1 (Z0 ++ [Hq c1])
  ·obtain rfl := zi hf1
   obtain rfl := hl1
   exact yB X0 hC hJ1 () hf0 [Hq c0]
def we : Code := (Tryz.f43.body).getD .skip
abbrev vV (s_1 : List zc) (i_ : Int) (j_ : Int) : List (Nat × T) := [(0, .own (eOs 4 false w6 s_1)), (2, .d (I i_)), (3, .d (I j_))]
theorem uO {ctr : Ctr} (hC : zW Tryz.prog ctr) (cv0 : Value) : ∀ (s_ : List zc) (r0 : List zc), xA s_ = some r0 → Za Tryz.prog (.fn 43 []) [.atom cv0] ([cv0].zip [eOs 4 false w6 s_]) (.tup []) [eOs 4 false w6 r0] := by
 intro s_ r0 hf0
 refine z6q (tt := wB) (nt := 28) (body := we) [0] zS Tryz.func43 rfl (by kernel_rfl) rfl rfl (by show (1 : Nat) ≤ 28; decide) (by decide) rfl rfl (fun E hE => ?_) rfl
 unfold xA at hf0
 refine zaJ 0 (v := cv0) (y := eOs 4 false w6 s_) (by kernel_rfl) (by kernel_rfl) (by kernel_rfl) fun hv0 => ?_
 obtain ⟨t1, ht1, hf0⟩ := zl hf0
 refine yL X0 hC we [1,0] [] (fun s => xj s.1 s.2.1 s.2.2) (fun x => vV x.1 x.2.1 x.2.2) (s_, 0, w64 (((s_.length : Nat) : Int) - 1)) ht1  [Ha (lnM w6 s_)] ?_
 rintro ⟨s_1, i_, j_⟩ m1 lr1 hf1 hl1 J1 hJ1
 try unfold xj at hf1
 rcases zR hf1 with ⟨c0, hf1⟩ | ⟨c0, hf1⟩
 ·obtain ⟨s__e, h0, hf1⟩ := zl hf1
  obtain ⟨s__e1, h1, hf1⟩ := zl hf1
  obtain ⟨s__e2, h2, hf1⟩ := zl hf1
  obtain ⟨u_e, h3, hf1⟩ := zl hf1
  obtain rfl := zi hf1
  exact yB ((xIx zS 27 0 cv0).or ((xMv Tryz.prog 16 0 cv0 hv0).or X0)) hC hJ1 (((s_1.set i_.toNat s__e).set j_.toNat s__e1), w64 (i_ + 1), w64 (j_ - 1)) hl1 [Hq c0, Hn (rfl : some cv0 = some cv0), Hn (iL w6 h0), Hs (iM w6 h0), Hn (iL w6 h1), Hs (iM w6 h1), Hn (iL w6 h2), Hs (iM w6 h2), Hs (iM w6 h2), Hl (sM w6 s_1 i_ s__e), Hn (⟨rfl, rfl⟩ : T.d (.atom cv0) = T.d (.atom cv0) ∧ some cv0 = some cv0), Hn (iL w6 h3), Hs (iM w6 h3), Hs (iM w6 h3), Hl (sM w6 (s_1.set i_.toNat s__e) j_ s__e1)]
 ·obtain rfl := zi hf1
  obtain rfl := hl1
  obtain rfl := zi hf0
  exact yF X0 hC .normal [(0, .own (eOs 4 false w6 s_1))] [Hq c0] fun st0 h0 => hE _ st0 (.inl rfl) (z48 h0 ⟨⟨rfl, rfl⟩, trivial⟩)
def qo : Code := (Tryz.f44.body).getD .skip
def yn : xm := spF (α := List zc) (ρ := List zc) 44 (fun x => [z9t x]) (fun r => z5n r) (fun x => yc x) [] (Qb)
theorem qD {ctr : Ctr} (hC : zW Tryz.prog ctr) : yn.Ok Tryz.prog := by
 refine y7 ?_
 rintro s_ r0 hf0
 try unfold yc at hf0
 refine yO true [(2, none)] qo 9 Tryz.func44 fun E hE => ?_
 obtain ⟨g0, hf0⟩ := gdE hf0
 obtain rfl := zi hf0
 exact yE X0 hC hE [Ha (lnM w6 s_), Ha (lnM w6 s_), Hn (slB g0), Hn (slC g0), Hn (z3c w6 g0), Ha (z9h 4 w6 s_ 0 ((s_.length : Nat) : Int).toNat)]
end Go.Own
end
