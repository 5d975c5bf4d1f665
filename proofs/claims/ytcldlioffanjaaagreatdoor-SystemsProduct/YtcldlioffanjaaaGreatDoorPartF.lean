/- -/
import Derived.Test.YtcldlioffanjaaaGreatDoorPartE
noncomputable section
set_option linter.unusedVariables false
set_option linter.unusedSimpArgs false
namespace Go.Own
open Go.Proofs
set_option maxRecDepth 100000
set_option maxHeartbeats 8000000
def X0 : XH Tryz.prog := xB y5
theorem Va : Tryz.prog.follows .mixedOrders = true := by kernel_rfl
section
variable {ctr : Ctr} {n : Fr} {Q : Exit → St → Prop} {c : Code} {fs : List Fm} {st : St}
theorem yE (X : XH Tryz.prog) (hC : zZ Tryz.prog ctr) {E : St → Prop} {r : A} {keep : Bool} {rs : List (Nat × Option Nat)} (hE : ∀ st x R U,z5b wl keep rs st = some (x,R,U) → LeV x r → E st) (L : List HO) (e : zaT X wl ctr n keep rs 4000 c fs st (hoH L) = some (r,hoO L) := by kernel_rfl) : AWP Tryz.prog n c st (Qf Tryz.prog n fs (z6x E)) := yE6 X y5 hC Va hE L e
theorem yEx (X : XH Tryz.prog) (hC : zZ Tryz.prog ctr) {E : St → Prop} {r : A} {keep : Bool} {rs : List (Nat × Option Nat)} (hE : ∀ st x R U,z5b wl keep rs st = some (x,R,U) → LeV x r → E st) (L : List HO) (x : A) (hle : LeV x r) (e : zaT X wl ctr n keep rs 4000 c fs st (hoH L) = some (x,hoO L) := by kernel_rfl) : AWP Tryz.prog n c st (Qf Tryz.prog n fs (z6x E)) := zgP X y5 hC Va hE L x hle e
theorem yB (X : XH Tryz.prog) (hC : zZ Tryz.prog ctr) {τ : Type} {J : St → Prop} {live : List Nat} {S : τ → List (Nat × T)} {Inv : τ → Prop} (hJ : ∀ st' l' z,Inv z → Own.canon live st' = ofL l' → LeL l' (S z) → J st') (z : τ) (hz : Inv z) (L : List HO) (e : z0a X wl ctr n live 4000 c fs st (hoH L) = some (.back J,ofL (S z),hoO L) := by kernel_rfl) : AWP Tryz.prog n c st (Qf Tryz.prog n fs Q) := yB6 X y5 hC Va hJ z hz L e
theorem yBx (X : XH Tryz.prog) (hC : zZ Tryz.prog ctr) {τ : Type} {J : St → Prop} {live : List Nat} {S : τ → List (Nat × T)} {Inv : τ → Prop} (hJ : ∀ st' l' z,Inv z → Own.canon live st' = ofL l' → LeL l' (S z) → J st') (z : τ) (hz : Inv z) (l : List (Nat × T)) (hl : LeL l (S z)) (L : List HO) (e : z0a X wl ctr n live 4000 c fs st (hoH L) = some (.back J,ofL l,hoO L) := by kernel_rfl) : AWP Tryz.prog n c st (Qf Tryz.prog n fs Q) := zgQ X y5 hC Va hJ z hz l hl L e
theorem yA (X : XH Tryz.prog) (hC : zZ Tryz.prog ctr) (bd : Code) (path : List Nat) (Js : List (St → Prop)) (l : List (Nat × T)) (L : List HO) (h : AWP Tryz.prog n (sub path bd) (ofL l) (Qf Tryz.prog n (frs path Js bd []) Q)) (e : z0a X wl ctr n (Vq l) 4000 c fs st (hoH L) = some (.at (sub path bd) (frs path Js bd []),ofL l,hoO L) := by kernel_rfl) : AWP Tryz.prog n c st (Qf Tryz.prog n fs Q) := yA6 X y5 hC Va bd path Js l L e h
theorem yAt (X : XH Tryz.prog) (hC : zZ Tryz.prog ctr) (c' : Code) (fs' : List Fm) (l : List (Nat × T)) (L : List HO) (h : ∀ st0,Own.canon (Vq l) st0 = ofL l → AWP Tryz.prog n c' st0 (Qf Tryz.prog n fs' Q)) (e : z0a X wl ctr n (Vq l) 4000 c fs st (hoH L) = some (.at c' fs',ofL l,hoO L) := by kernel_rfl) : AWP Tryz.prog n c st (Qf Tryz.prog n fs Q) := zgR X y5 hC Va c' fs' l L e h
theorem yLx (X : XH Tryz.prog) (hC : zZ Tryz.prog ctr) (bd : Code) (path : List Nat) (Js : List (St → Prop)) {σ τ : Type} (f : σ → Option (LR σ τ)) (S : σ → List (Nat × T)) (x0 : σ) {t : τ} (ht : loop f x0 = some t) (l : List (Nat × T)) (hl : LeL l (S x0)) (L : List HO) (round : ∀ x m lr,f x = some lr → zdY f m t lr → ∀ J : St → Prop,(∀ st' l' x',W0 f m x' = some t → Own.canon (Vq l) st' = ofL l' → LeL l' (S x') → J st') → AWP Tryz.prog n (sub (path ++ [0]) bd) (ofL (S x)) (Qf Tryz.prog n (.pre J :: frs path Js bd []) Q)) (e : z0a X wl ctr n (Vq l) 4000 c fs st (hoH L) = some (.at (sub path bd) (frs path Js bd []),ofL l,hoO L) := by kernel_rfl) (e2 : sub path bd = .loop (sub (path ++ [0]) bd) := by kernel_rfl) (hk : ∀ x,Vq (S x) = Vq l := by exact fun _ => rfl) : AWP Tryz.prog n c st (Qf Tryz.prog n fs Q) := yL6 X y5 hC Va bd path Js f S x0 ht l hl L hk e e2 round
theorem yL (X : XH Tryz.prog) (hC : zZ Tryz.prog ctr) (bd : Code) (path : List Nat) (Js : List (St → Prop)) {σ τ : Type} (f : σ → Option (LR σ τ)) (S : σ → List (Nat × T)) (x0 : σ) {t : τ} (ht : loop f x0 = some t) (L : List HO) (round : ∀ x m lr,f x = some lr → zdY f m t lr → ∀ J : St → Prop,(∀ st' l' x',W0 f m x' = some t → Own.canon (Vq (S x0)) st' = ofL l' → LeL l' (S x') → J st') → AWP Tryz.prog n (sub (path ++ [0]) bd) (ofL (S x)) (Qf Tryz.prog n (.pre J :: frs path Js bd []) Q)) (e : z0a X wl ctr n (Vq (S x0)) 4000 c fs st (hoH L) = some (.at (sub path bd) (frs path Js bd []),ofL (S x0),hoO L) := by kernel_rfl) (e2 : sub path bd = .loop (sub (path ++ [0]) bd) := by kernel_rfl) (hk : ∀ x,Vq (S x) = Vq (S x0) := by exact fun _ => rfl) : AWP Tryz.prog n c st (Qf Tryz.prog n fs Q) := yL6 X y5 hC Va bd path Js f S x0 ht _ (LeL.refl _) L hk e e2 round
theorem yJ (X : XH Tryz.prog) (hC : zZ Tryz.prog ctr) (bd : Code) (path : List Nat) (Js : List (St → Prop)) {σ : Type} (live : List Nat) (Inv : σ → Prop) (S : σ → List (Nat × T)) (l : List (Nat × T)) (L : List HO) (h1 : ∀ z,Inv z → AWP Tryz.prog n (sub (path ++ [1]) bd) (ofL (S z)) (Qf Tryz.prog n (frs path Js bd []) Q)) (h2 : ∀ J : St → Prop,(∀ st' l' z,Inv z → Own.canon live st' = ofL l' → LeL l' (S z) → J st') → AWP Tryz.prog n (sub (path ++ [2]) bd) (ofL l) (Qf Tryz.prog n (.pre J :: frs path Js bd []) Q)) (e : z0a X wl ctr n (Vq l) 4000 c fs st (hoH L) = some (.at (sub path bd) (frs path Js bd []),ofL l,hoO L) := by kernel_rfl) (e2 : sub path bd = .seq (sub (path ++ [2]) bd) (sub (path ++ [1]) bd) := by kernel_rfl) : AWP Tryz.prog n c st (Qf Tryz.prog n fs Q) := yJ6 X y5 hC Va bd path Js live Inv S l L e e2 h1 h2
theorem yF (X : XH Tryz.prog) (hC : zZ Tryz.prog ctr) (ex : Exit) (l : List (Nat × T)) (L : List HO) (h : ∀ st0,Own.canon (Vq l) st0 = ofL l → Q ex st0) (e : z0a X wl ctr n (Vq l) 4000 c fs st (hoH L) = some (.fin ex,ofL l,hoO L) := by kernel_rfl) : AWP Tryz.prog n c st (Qf Tryz.prog n fs Q) := yF6 X y5 hC Va ex l L e h
theorem yO {k : Nat} {fn : Func} {r : A} {ls : List A} (keep : Bool) (rs : List (Nat × Option Nat)) (body : Code) (nt : Nat) (hf : Tryz.prog.funcs[k]? = some fn) (h : ∀ E : St → Prop,(∀ st x R U,z5b wl keep rs st = some (x,R,U) → LeV x r → E st) → AWP Tryz.prog ⟨nt,[]⟩ body (ofL (z6y 0 ls)) (Qf Tryz.prog ⟨nt,[]⟩ [] (z6x E))) (hb : fn.body = some body := by kernel_rfl) (hn : nt = fn.ntmps := by exact rfl) (hr : fn.results = (rs.map z6I).toArray := by exact rfl) (hnm : (fn.name == "runtime.NumGoroutine") = false := by exact rfl) (ha : Nat.ble ls.length nt = true := by kernel_rfl) : XS Tryz.prog k ls r := yO6 y5 keep rs body nt hf hb hn hr hnm ha h
end
theorem z5v : z8v Tryz.prog 142 115 3 (Ki [.i64,.i64,.i64,.i64,.i64,.i64,.i64,.i64,.i64,.i64,.i64,.i64,.i64,.i64,.i64,.i64,.i64,.i64,.i64,.i64,.i64,.i64,.i64,.i64]) (.atom (.int .i64 0)) := z7F Tryz.underlying142 _ Tryz.underlying115 (Go.Ex.z5L.eqn rfl) (z3x.eqn rfl) rfl ⟨.int .i64 0,fun w => z6F (f := Tryz.t3) (by kernel_rfl) rfl w,fun S => uT.2 ⟨rfl,rfl⟩⟩ rfl
theorem zeb : zaL Tryz.prog 48 3 true := z7d y5 (t := 61) Tryz.so48 rfl rfl (by kernel_rfl) (by decide)
def wh : Code := (Tryz.f9.body).getD .skip
def Xl : xi := spF (α := yk) (ρ := z8) 9 (fun x => [KH x]) (fun r => z6E r) (fun x => Xb x) [] (Ja)
abbrev Jv (x_ : yk) (out_Parts : List zh) : List (Nat × T) := [(2,.own (.box (.agg [I 0,I 0,eOs 1 true (eI .i64) [],eOs 3 true ve []]))),(3,.own (.box (.agg [I 2,I 2,eOs 1 true (eI .i64) ([w64 (Int.tmod x_.Channels.e0 3),w64 (Int.tmod x_.Channels.e1 3)]),eOs 3 false Jy out_Parts])))]
abbrev Jt (x_ : yk) (i_ : Int) (x34 : Bool) (out_Parts2 : List zh) : List (Nat × T) := [(1,.own (.box (KH x_))),(2,.own (.box (.agg [I 0,I 0,eOs 1 true (eI .i64) [],eOs 3 true ve []]))),(3,.own (.box (.agg [I 2,I 2,eOs 1 true (eI .i64) ([w64 (Int.tmod x_.Channels.e0 3),w64 (Int.tmod x_.Channels.e1 3)]),eOs 3 false Jy out_Parts2]))),(4,.d (I i_)),(26,.d (I i_)),(28,.d (eSl 3 false VV x_.Parts)),(29,.d (I ((x_.Parts.length : Nat) : Int))),(30,.d (B (decide (i_ < ((x_.Parts.length : Nat) : Int))))),(31,.d (B (decide (i_ < ((x_.Parts.length : Nat) : Int))))),(34,.d (B x34))]
abbrev Jr (x_ : yk) (out_Parts1 : List zh) (i_ : Int) (x34 : Bool) (p_States : Int) (p_Arcs : List zf) (p_Final : List Int) : List (Nat × T) := [(1,.own (.box (KH x_))),(2,.own (.box (.agg [I 0,I 0,eOs 1 true (eI .i64) [],eOs 3 true ve []]))),(3,.own (.box (.agg [I 2,I 2,eOs 1 true (eI .i64) ([w64 (Int.tmod x_.Channels.e0 3),w64 (Int.tmod x_.Channels.e1 3)]),eOs 3 false Jy out_Parts1]))),(4,.d (I i_)),(5,.own (.box (.agg [I p_States,eOs 5 false vN p_Arcs,eOs 1 false (eI .i64) p_Final]))),(26,.d (I i_)),(28,.d (eSl 3 false VV x_.Parts)),(29,.d (I ((x_.Parts.length : Nat) : Int))),(30,.d (B (decide (i_ < ((x_.Parts.length : Nat) : Int))))),(31,.d (B (decide (i_ < ((x_.Parts.length : Nat) : Int))))),(34,.d (B x34))]
abbrev Jp (x_ : yk) (out_Parts1 : List zh) (i_ : Int) (x34 : Bool) (Part_e : xI) (p_Final1 : List Int) (p_Arcs1 : List zf) (k_ : Int) (Arc_e : z4B Int) (arc_Channel : Int) : List (Nat × T) := [(1,.own (.box (KH x_))),(2,.own (.box (.agg [I 0,I 0,eOs 1 true (eI .i64) [],eOs 3 true ve []]))),(3,.own (.box (.agg [I 2,I 2,eOs 1 true (eI .i64) ([w64 (Int.tmod x_.Channels.e0 3),w64 (Int.tmod x_.Channels.e1 3)]),eOs 3 false Jy out_Parts1]))),(4,.d (I i_)),(5,.own (.box (.agg [I (w64 (1 + (w64 (Int.tmod Part_e.States 3)))),eOs 5 false vN p_Arcs1,eOs 1 false (eI .i64) p_Final1]))),(6,.own (.box (VV Part_e))),(8,.d (I k_)),(10,.own (.box (.agg [I (Int.tmod (w64 (Arc_e.e0)) (w64 (1 + (w64 (Int.tmod Part_e.States 3))))),.atom (.int .u8 (Int.tmod Arc_e.e1 3)),I arc_Channel,I (w64 (Int.tmod Arc_e.e3 2)),I (Int.tmod (w64 (Arc_e.e4)) (w64 (1 + (w64 (Int.tmod Part_e.States 3)))))]))),(26,.d (I i_)),(28,.d (eSl 3 false VV x_.Parts)),(29,.d (I ((x_.Parts.length : Nat) : Int))),(30,.d (B (decide (i_ < ((x_.Parts.length : Nat) : Int))))),(31,.d (B (decide (i_ < ((x_.Parts.length : Nat) : Int))))),(34,.d (B x34)),(80,.d (I k_)),(81,.d (B (decide (k_ < 6))))]
abbrev Jn (x_ : yk) (out_Parts1 : List zh) (i_ : Int) (x34 : Bool) (Part_e : xI) (p_Final1 : List Int) (p_Arcs1 : List zf) (k_ : Int) : List (Nat × T) := [(1,.own (.box (KH x_))),(2,.own (.box (.agg [I 0,I 0,eOs 1 true (eI .i64) [],eOs 3 true ve []]))),(3,.own (.box (.agg [I 2,I 2,eOs 1 true (eI .i64) ([w64 (Int.tmod x_.Channels.e0 3),w64 (Int.tmod x_.Channels.e1 3)]),eOs 3 false Jy out_Parts1]))),(4,.d (I i_)),(5,.own (.box (.agg [I (w64 (1 + (w64 (Int.tmod Part_e.States 3)))),eOs 5 false vN p_Arcs1,eOs 1 false (eI .i64) p_Final1]))),(6,.own (.box (VV Part_e))),(8,.d (I k_)),(26,.d (I i_)),(28,.d (eSl 3 false VV x_.Parts)),(29,.d (I ((x_.Parts.length : Nat) : Int))),(30,.d (B (decide (i_ < ((x_.Parts.length : Nat) : Int))))),(31,.d (B (decide (i_ < ((x_.Parts.length : Nat) : Int))))),(34,.d (B x34))]
abbrev Jq (x_ : yk) (out_Parts1 : List zh) (i_ : Int) (x34 : Bool) (Part_e : xI) (p_Final1 : List Int) : List (Nat × T) := [(1,.own (.box (KH x_))),(2,.own (.box (.agg [I 0,I 0,eOs 1 true (eI .i64) [],eOs 3 true ve []]))),(3,.own (.box (.agg [I 2,I 2,eOs 1 true (eI .i64) ([w64 (Int.tmod x_.Channels.e0 3),w64 (Int.tmod x_.Channels.e1 3)]),eOs 3 false Jy out_Parts1]))),(4,.d (I i_)),(5,.own (.box (.agg [I (w64 (1 + (w64 (Int.tmod Part_e.States 3)))),eOs 5 true vN [],eOs 1 false (eI .i64) p_Final1]))),(6,.own (.box (VV Part_e))),(26,.d (I i_)),(28,.d (eSl 3 false VV x_.Parts)),(29,.d (I ((x_.Parts.length : Nat) : Int))),(30,.d (B (decide (i_ < ((x_.Parts.length : Nat) : Int))))),(31,.d (B (decide (i_ < ((x_.Parts.length : Nat) : Int))))),(34,.d (B x34))]
abbrev QE (x_ : yk) (out_Parts1 : List zh) (i_ : Int) (x34 : Bool) (Part_e : xI) (s_ : Int) (p_Final3 : List Int) : List (Nat × T) := [(1,.own (.box (KH x_))),(2,.own (.box (.agg [I 0,I 0,eOs 1 true (eI .i64) [],eOs 3 true ve []]))),(3,.own (.box (.agg [I 2,I 2,eOs 1 true (eI .i64) ([w64 (Int.tmod x_.Channels.e0 3),w64 (Int.tmod x_.Channels.e1 3)]),eOs 3 false Jy out_Parts1]))),(4,.d (I i_)),(5,.own (.box (.agg [I (w64 (1 + (w64 (Int.tmod Part_e.States 3)))),eOs 5 true vN [],eOs 1 false (eI .i64) p_Final3]))),(6,.own (.box (VV Part_e))),(7,.d (I s_)),(26,.d (I i_)),(28,.d (eSl 3 false VV x_.Parts)),(29,.d (I ((x_.Parts.length : Nat) : Int))),(30,.d (B (decide (i_ < ((x_.Parts.length : Nat) : Int))))),(31,.d (B (decide (i_ < ((x_.Parts.length : Nat) : Int))))),(34,.d (B x34))]
abbrev Jm (x_ : yk) (out_Parts1 : List zh) (i_ : Int) (x34 : Bool) (Part_e : xI) (p_Final2 : List Int) (s_ : Int) : List (Nat × T) := [(1,.own (.box (KH x_))),(2,.own (.box (.agg [I 0,I 0,eOs 1 true (eI .i64) [],eOs 3 true ve []]))),(3,.own (.box (.agg [I 2,I 2,eOs 1 true (eI .i64) ([w64 (Int.tmod x_.Channels.e0 3),w64 (Int.tmod x_.Channels.e1 3)]),eOs 3 false Jy out_Parts1]))),(4,.d (I i_)),(5,.own (.box (.agg [I (w64 (1 + (w64 (Int.tmod Part_e.States 3)))),eOs 5 true vN [],eOs 1 false (eI .i64) p_Final2]))),(6,.own (.box (VV Part_e))),(7,.d (I s_)),(26,.d (I i_)),(28,.d (eSl 3 false VV x_.Parts)),(29,.d (I ((x_.Parts.length : Nat) : Int))),(30,.d (B (decide (i_ < ((x_.Parts.length : Nat) : Int))))),(31,.d (B (decide (i_ < ((x_.Parts.length : Nat) : Int))))),(34,.d (B x34))]
abbrev Ju (x_ : yk) (out_Parts1 : List zh) (i_ : Int) (x34 : Bool) : List (Nat × T) := [(1,.own (.box (KH x_))),(2,.own (.box (.agg [I 0,I 0,eOs 1 true (eI .i64) [],eOs 3 true ve []]))),(3,.own (.box (.agg [I 2,I 2,eOs 1 true (eI .i64) ([w64 (Int.tmod x_.Channels.e0 3),w64 (Int.tmod x_.Channels.e1 3)]),eOs 3 false Jy out_Parts1]))),(4,.d (I i_)),(26,.d (I i_)),(28,.d (eSl 3 false VV x_.Parts)),(29,.d (I ((x_.Parts.length : Nat) : Int))),(30,.d (B (decide (i_ < ((x_.Parts.length : Nat) : Int))))),(31,.d (B (decide (i_ < ((x_.Parts.length : Nat) : Int))))),(34,.d (B x34))]
abbrev Jo (x_ : yk) (out_Parts1 : List zh) (i_ : Int) : List (Nat × T) := [(1,.own (.box (KH x_))),(2,.own (.box (.agg [I 0,I 0,eOs 1 true (eI .i64) [],eOs 3 true ve []]))),(3,.own (.box (.agg [I 2,I 2,eOs 1 true (eI .i64) ([w64 (Int.tmod x_.Channels.e0 3),w64 (Int.tmod x_.Channels.e1 3)]),eOs 3 false Jy out_Parts1]))),(4,.d (I i_))]
theorem z1r {ctr : Ctr} (hC : zZ Tryz.prog ctr) : Xl.Ok Tryz.prog := by
 refine yc ?_
 rintro x_ r0 hf0
 try unfold Xb at hf0
 refine yO false [(2,some 29)] wh 131 Tryz.func9 fun E hE => ?_
 obtain ⟨g0,hf0⟩ := gdE hf0
 obtain ⟨g1,hf0⟩ := gdE hf0
 refine yJ X0 hC wh [1,1] [] [2,3] (fun z : List zh => Xx x_ z = some r0) (fun z => Jv x_ z) [(1,.own (.box (KH x_))),(2,.own (.box (.agg [I 0,I 0,eOs 1 true (eI .i64) [],eOs 3 true ve []]))),(3,.own (.box (.agg [I 2,I 2,eOs 1 true (eI .i64) ([w64 (Int.tmod x_.Channels.e0 3),w64 (Int.tmod x_.Channels.e1 3)]),eOs 3 true ve []])))] [Hn (⟨rfl,by decide⟩ : true = true ∧ 0 < 2),Hn g0,Hn (⟨rfl,by decide⟩ : true = true ∧ 1 < 2),Hn g1,Hh (.cut 2)] ?_ fun J1 hJ1 => ?_
 ·rintro out_Parts hf0
  unfold Xx at hf0
  obtain rfl := zl hf0
  exact yE X0 hC hE [Hm (shM (eI .i64) (eI .i64) ([w64 (Int.tmod x_.Channels.e0 3),w64 (Int.tmod x_.Channels.e1 3)])),Hm (shM Jy ve out_Parts)]
 ·obtain ⟨t2,ht2,hf0⟩ := zo hf0
  refine yLx X0 hC wh [1,1,2,1,0] [J1] (fun s => kx x_ s.1 s.2) (fun x => Jo x_ x.1 x.2) (([] : List zh),0) ht2 [(1,.own (.box (KH x_))),(2,.own (.box (.agg [I 0,I 0,eOs 1 true (eI .i64) [],eOs 3 true ve []]))),(3,.own (.box (.agg [I 2,I 2,eOs 1 true (eI .i64) ([w64 (Int.tmod x_.Channels.e0 3),w64 (Int.tmod x_.Channels.e1 3)]),eOs 3 true Jy []]))),(4,.d (I 0))] inferInstance [] ?_
  rintro ⟨out_Parts1,i_⟩ m2 lr1 hf1 hl1 J2 hJ2
  try unfold kx at hf1
  refine yJ X0 hC wh [1,1,2,1,0,0] [J1,J2] [1,2,3,4,26,28,29,30,31,34] (fun z : Bool => uG x_ out_Parts1 i_ z = some lr1) (fun z => Ju x_ out_Parts1 i_ z) [(1,.own (.box (KH x_))),(2,.own (.box (.agg [I 0,I 0,eOs 1 true (eI .i64) [],eOs 3 true ve []]))),(3,.own (.box (.agg [I 2,I 2,eOs 1 true (eI .i64) ([w64 (Int.tmod x_.Channels.e0 3),w64 (Int.tmod x_.Channels.e1 3)]),eOs 3 false Jy out_Parts1]))),(4,.d (I i_))] [Hh (.cut 0)] ?_ fun J3 hJ3 => ?_
  ·rintro x34 hf1
   unfold uG at hf1
   refine yJ X0 hC wh [1,1,2,1,0,0,1] [J1,J2] [1,2,3,4,26,28,29,30,31,34] (fun z : List zh => Zy i_ z = some lr1) (fun z => Jt x_ i_ x34 z) [(1,.own (.box (KH x_))),(2,.own (.box (.agg [I 0,I 0,eOs 1 true (eI .i64) [],eOs 3 true ve []]))),(3,.own (.box (.agg [I 2,I 2,eOs 1 true (eI .i64) ([w64 (Int.tmod x_.Channels.e0 3),w64 (Int.tmod x_.Channels.e1 3)]),eOs 3 false Jy out_Parts1]))),(4,.d (I i_)),(26,.d (I i_)),(28,.d (eSl 3 false VV x_.Parts)),(29,.d (I ((x_.Parts.length : Nat) : Int))),(30,.d (B (decide (i_ < ((x_.Parts.length : Nat) : Int))))),(31,.d (B (decide (i_ < ((x_.Parts.length : Nat) : Int))))),(34,.d (B x34))] [Hh (.cut 0)] ?_ fun J4 hJ4 => ?_
   ·rintro out_Parts2 hf1
    unfold Zy at hf1
    obtain rfl := zl hf1
    exact yB X0 hC hJ2 (out_Parts2,w64 (i_ + 1)) hl1 []
   ·refine yJ X0 hC wh [1,1,2,1,0,0,1,2,0,1] [J1,J2,J4] [1,2,3,4,5,26,28,29,30,31,34] (fun z : Int × List zf × List Int => j4 out_Parts1 i_ z.1 z.2.1 z.2.2 = some lr1) (fun z => Jr x_ out_Parts1 i_ x34 z.1 z.2.1 z.2.2) [(1,.own (.box (KH x_))),(2,.own (.box (.agg [I 0,I 0,eOs 1 true (eI .i64) [],eOs 3 true ve []]))),(3,.own (.box (.agg [I 2,I 2,eOs 1 true (eI .i64) ([w64 (Int.tmod x_.Channels.e0 3),w64 (Int.tmod x_.Channels.e1 3)]),eOs 3 false Jy out_Parts1]))),(4,.d (I i_)),(5,.own (.box (.agg [I 1,eOs 5 true vN [],eOs 1 true (eI .i64) []]))),(26,.d (I i_)),(28,.d (eSl 3 false VV x_.Parts)),(29,.d (I ((x_.Parts.length : Nat) : Int))),(30,.d (B (decide (i_ < ((x_.Parts.length : Nat) : Int))))),(31,.d (B (decide (i_ < ((x_.Parts.length : Nat) : Int))))),(34,.d (B x34))] [Hh (.cut 1)] ?_ fun J5 hJ5 => ?_
    ·rintro ⟨p_States,p_Arcs,p_Final⟩ hf1
     unfold j4 at hf1
     obtain ⟨g2,hf1⟩ := gdE hf1
     exact yB X0 hC hJ4 (out_Parts1 ++ ([(zh.mk p_States p_Arcs p_Final)] : List zh)) hf1 [Hq (oC Jy (zh.mk p_States p_Arcs p_Final) []),Hn (aL Jy Jy g2),Hl (aM Jy out_Parts1 ([(zh.mk p_States p_Arcs p_Final)] : List zh))]
    ·let Z0 : List HO := [Ha (lnM VV x_.Parts)]
     rcases zS hf1 with ⟨c0,hf1⟩ | ⟨c0,hf1⟩
     ·obtain ⟨Part_e,h0,hf1⟩ := zo hf1
      obtain ⟨g3,hf1⟩ := gdE hf1
      refine yJ X0 hC wh [1,1,2,1,0,0,1,2,0,1,2,1,0,1,1] [J1,J2,J4,J5] [1,2,3,4,5,6,26,28,29,30,31,34] (fun z : List Int => Zx out_Parts1 i_ Part_e z = some lr1) (fun z => Jq x_ out_Parts1 i_ x34 Part_e z) [(1,.own (.box (KH x_))),(2,.own (.box (.agg [I 0,I 0,eOs 1 true (eI .i64) [],eOs 3 true ve []]))),(3,.own (.box (.agg [I 2,I 2,eOs 1 true (eI .i64) ([w64 (Int.tmod x_.Channels.e0 3),w64 (Int.tmod x_.Channels.e1 3)]),eOs 3 false Jy out_Parts1]))),(4,.d (I i_)),(5,.own (.box (.agg [I (w64 (1 + (w64 (Int.tmod Part_e.States 3)))),eOs 5 true vN [],eOs 1 true (eI .i64) []]))),(6,.own (.box (VV Part_e))),(26,.d (I i_)),(28,.d (eSl 3 false VV x_.Parts)),(29,.d (I ((x_.Parts.length : Nat) : Int))),(30,.d (B (decide (i_ < ((x_.Parts.length : Nat) : Int))))),(31,.d (B (decide (i_ < ((x_.Parts.length : Nat) : Int))))),(34,.d (B x34))] (Z0 ++ [Hq c0,Hi VV h0,Hn g3,Hh (.cut 1)]) ?_ fun J6 hJ6 => ?_
      ·rintro p_Final1 hf1
       unfold Zx at hf1
       obtain ⟨t7,ht7,hf1⟩ := zo hf1
       refine yLx X0 hC wh [1,1,2,1,0,0,1,2,0,1,2,1,0,1,1,1,1,0] [J1,J2,J4,J5] (fun s => kw Part_e p_Final1 s.1 s.2) (fun x => Jn x_ out_Parts1 i_ x34 Part_e p_Final1 x.1 x.2) (([] : List zf),0) ht7 [(1,.own (.box (KH x_))),(2,.own (.box (.agg [I 0,I 0,eOs 1 true (eI .i64) [],eOs 3 true ve []]))),(3,.own (.box (.agg [I 2,I 2,eOs 1 true (eI .i64) ([w64 (Int.tmod x_.Channels.e0 3),w64 (Int.tmod x_.Channels.e1 3)]),eOs 3 false Jy out_Parts1]))),(4,.d (I i_)),(5,.own (.box (.agg [I (w64 (1 + (w64 (Int.tmod Part_e.States 3)))),eOs 5 true vN [],eOs 1 false (eI .i64) p_Final1]))),(6,.own (.box (VV Part_e))),(8,.d (I 0)),(26,.d (I i_)),(28,.d (eSl 3 false VV x_.Parts)),(29,.d (I ((x_.Parts.length : Nat) : Int))),(30,.d (B (decide (i_ < ((x_.Parts.length : Nat) : Int))))),(31,.d (B (decide (i_ < ((x_.Parts.length : Nat) : Int))))),(34,.d (B x34))] inferInstance [] ?_
       rintro ⟨p_Arcs1,k_⟩ m7 lr2 hf2 hl2 J7 hJ7
       try unfold kw at hf2
       let Z1 : List HO := [Ha (lnM (W1 (eI .u8)) Part_e.Arcs)]
       rcases zS hf2 with ⟨c1,hf2⟩ | ⟨c1,hf2⟩
       ·rcases zS hf2 with ⟨c2,hf2⟩ | ⟨c2,hf2⟩
        ·obtain ⟨Arc_e,h1,hf2⟩ := zo hf2
         obtain ⟨g4,hf2⟩ := gdE hf2
         obtain ⟨g5,hf2⟩ := gdE hf2
         obtain ⟨g6,hf2⟩ := gdE hf2
         obtain ⟨g7,hf2⟩ := gdE hf2
         obtain ⟨g8,hf2⟩ := gdE hf2
         refine yJ X0 hC wh [1,1,2,1,0,0,1,2,0,1,2,1,0,1,1,1,1,0,0,1,0,0,1,1] [J1,J2,J4,J5,J7] [1,2,3,4,5,6,8,10,26,28,29,30,31,34,80,81] (fun z : Int => j0 Part_e p_Arcs1 k_ Arc_e z = some lr2) (fun z => Jp x_ out_Parts1 i_ x34 Part_e p_Final1 p_Arcs1 k_ Arc_e z) [(1,.own (.box (KH x_))),(2,.own (.box (.agg [I 0,I 0,eOs 1 true (eI .i64) [],eOs 3 true ve []]))),(3,.own (.box (.agg [I 2,I 2,eOs 1 true (eI .i64) ([w64 (Int.tmod x_.Channels.e0 3),w64 (Int.tmod x_.Channels.e1 3)]),eOs 3 false Jy out_Parts1]))),(4,.d (I i_)),(5,.own (.box (.agg [I (w64 (1 + (w64 (Int.tmod Part_e.States 3)))),eOs 5 false vN p_Arcs1,eOs 1 false (eI .i64) p_Final1]))),(6,.own (.box (VV Part_e))),(8,.d (I k_)),(10,.own (.box (.agg [I (Int.tmod (w64 (Arc_e.e0)) (w64 (1 + (w64 (Int.tmod Part_e.States 3))))),.atom (.int .u8 (Int.tmod Arc_e.e1 3)),I (w64 (Int.tmod Arc_e.e2 2)),I (w64 (Int.tmod Arc_e.e3 2)),I (Int.tmod (w64 (Arc_e.e4)) (w64 (1 + (w64 (Int.tmod Part_e.States 3)))))]))),(26,.d (I i_)),(28,.d (eSl 3 false VV x_.Parts)),(29,.d (I ((x_.Parts.length : Nat) : Int))),(30,.d (B (decide (i_ < ((x_.Parts.length : Nat) : Int))))),(31,.d (B (decide (i_ < ((x_.Parts.length : Nat) : Int))))),(34,.d (B x34)),(80,.d (I k_)),(81,.d (B (decide (k_ < 6))))] (Z1 ++ [Hq c1,Hq c1,Hq c1,Hq c2,Hi (W1 (eI .u8)) h1,Hn (⟨rfl,by decide⟩ : true = true ∧ 0 < 5),Hn g4,Hn (⟨rfl,by decide⟩ : true = true ∧ 1 < 5),Hn g5,Hn (⟨rfl,by decide⟩ : true = true ∧ 2 < 5),Hn g6,Hn (⟨rfl,by decide⟩ : true = true ∧ 3 < 5),Hn g7,Hn (⟨rfl,by decide⟩ : true = true ∧ 4 < 5),Hn g8,Hh (.cut 1)]) ?_ fun J8 hJ8 => ?_
         ·rintro arc_Channel hf2
          unfold j0 at hf2
          obtain ⟨g9,hf2⟩ := gdE hf2
          obtain rfl := zl hf2
          exact yB X0 hC hJ7 ((p_Arcs1 ++ ([(zf.mk (Int.tmod (w64 (Arc_e.e0)) (w64 (1 + (w64 (Int.tmod Part_e.States 3))))) (Int.tmod Arc_e.e1 3) arc_Channel (w64 (Int.tmod Arc_e.e3 2)) (Int.tmod (w64 (Arc_e.e4)) (w64 (1 + (w64 (Int.tmod Part_e.States 3))))))] : List zf)),w64 (k_ + 1)) hl2 [Hq (dM vN ([(zf.mk (Int.tmod (w64 (Arc_e.e0)) (w64 (1 + (w64 (Int.tmod Part_e.States 3))))) (Int.tmod Arc_e.e1 3) arc_Channel (w64 (Int.tmod Arc_e.e3 2)) (Int.tmod (w64 (Arc_e.e4)) (w64 (1 + (w64 (Int.tmod Part_e.States 3))))))] : List zf)),Hn (dM vN ([(zf.mk (Int.tmod (w64 (Arc_e.e0)) (w64 (1 + (w64 (Int.tmod Part_e.States 3))))) (Int.tmod Arc_e.e1 3) arc_Channel (w64 (Int.tmod Arc_e.e3 2)) (Int.tmod (w64 (Arc_e.e4)) (w64 (1 + (w64 (Int.tmod Part_e.States 3))))))] : List zf)),Hn (aL vN vN g9),Hl (aM vN p_Arcs1 ([(zf.mk (Int.tmod (w64 (Arc_e.e0)) (w64 (1 + (w64 (Int.tmod Part_e.States 3))))) (Int.tmod Arc_e.e1 3) arc_Channel (w64 (Int.tmod Arc_e.e3 2)) (Int.tmod (w64 (Arc_e.e4)) (w64 (1 + (w64 (Int.tmod Part_e.States 3))))))] : List zf))]
         ·rcases zS hf2 with ⟨c3,hf2⟩ | ⟨c3,hf2⟩
          ·exact yB X0 hC hJ8 0 hf2 [Hq c3]
          ·exact yB X0 hC hJ8 (w64 (Int.tmod Arc_e.e2 2)) hf2 [Hq c3]
        ·obtain rfl := zl hf2
         obtain rfl := hl2
         exact yB X0 hC hJ5 (w64 (1 + (w64 (Int.tmod Part_e.States 3))),p_Arcs1,p_Final1) hf1 (Z1 ++ [Hq c1,Hq c1,Hq c1,Hq c2])
       ·obtain rfl := zl hf2
        obtain rfl := hl2
        exact yB X0 hC hJ5 (w64 (1 + (w64 (Int.tmod Part_e.States 3))),p_Arcs1,p_Final1) hf1 (Z1 ++ [Hq c1,Hq c1,Hq c1,qF])
      ·obtain ⟨t9,ht9,hf1⟩ := zo hf1
       refine yLx X0 hC wh [1,1,2,1,0,0,1,2,0,1,2,1,0,1,1,2,1,0] [J1,J2,J4,J5,J6] (fun s => ku Part_e s.1 s.2) (fun x => Jm x_ out_Parts1 i_ x34 Part_e x.1 x.2) (([] : List Int),0) ht9 [(1,.own (.box (KH x_))),(2,.own (.box (.agg [I 0,I 0,eOs 1 true (eI .i64) [],eOs 3 true ve []]))),(3,.own (.box (.agg [I 2,I 2,eOs 1 true (eI .i64) ([w64 (Int.tmod x_.Channels.e0 3),w64 (Int.tmod x_.Channels.e1 3)]),eOs 3 false Jy out_Parts1]))),(4,.d (I i_)),(5,.own (.box (.agg [I (w64 (1 + (w64 (Int.tmod Part_e.States 3)))),eOs 5 true vN [],eOs 1 true (eI .i64) []]))),(6,.own (.box (VV Part_e))),(7,.d (I 0)),(26,.d (I i_)),(28,.d (eSl 3 false VV x_.Parts)),(29,.d (I ((x_.Parts.length : Nat) : Int))),(30,.d (B (decide (i_ < ((x_.Parts.length : Nat) : Int))))),(31,.d (B (decide (i_ < ((x_.Parts.length : Nat) : Int))))),(34,.d (B x34))] inferInstance [] ?_
       rintro ⟨p_Final2,s_⟩ m9 lr2 hf2 hl2 J9 hJ9
       try unfold ku at hf2
       rcases zS hf2 with ⟨c4,hf2⟩ | ⟨c4,hf2⟩
       ·refine yJ X0 hC wh [1,1,2,1,0,0,1,2,0,1,2,1,0,1,1,2,1,0,0,1] [J1,J2,J4,J5,J6,J9] [1,2,3,4,5,6,7,26,28,29,30,31,34] (fun z : List Int => jr s_ z = some lr2) (fun z => QE x_ out_Parts1 i_ x34 Part_e s_ z) [(1,.own (.box (KH x_))),(2,.own (.box (.agg [I 0,I 0,eOs 1 true (eI .i64) [],eOs 3 true ve []]))),(3,.own (.box (.agg [I 2,I 2,eOs 1 true (eI .i64) ([w64 (Int.tmod x_.Channels.e0 3),w64 (Int.tmod x_.Channels.e1 3)]),eOs 3 false Jy out_Parts1]))),(4,.d (I i_)),(5,.own (.box (.agg [I (w64 (1 + (w64 (Int.tmod Part_e.States 3)))),eOs 5 true vN [],eOs 1 false (eI .i64) p_Final2]))),(6,.own (.box (VV Part_e))),(7,.d (I s_)),(26,.d (I i_)),(28,.d (eSl 3 false VV x_.Parts)),(29,.d (I ((x_.Parts.length : Nat) : Int))),(30,.d (B (decide (i_ < ((x_.Parts.length : Nat) : Int))))),(31,.d (B (decide (i_ < ((x_.Parts.length : Nat) : Int))))),(34,.d (B x34))] [Hq c4,Hh (.cut 0)] ?_ fun J10 hJ10 => ?_
        ·rintro p_Final3 hf2
         unfold jr at hf2
         obtain rfl := zl hf2
         exact yB X0 hC hJ9 (p_Final3,w64 (s_ + 1)) hl2 []
        ·obtain ⟨g10,hf2⟩ := gdE hf2
         rcases zS hf2 with ⟨c5,hf2⟩ | ⟨c5,hf2⟩
         ·obtain ⟨g11,hf2⟩ := gdE hf2
          exact yB ((zdP Tryz.prog).or ((zdO Tryz.prog).or X0)) hC hJ10 (p_Final2 ++ ([s_] : List Int)) hf2 [Hn g10,Hq c5,Hq (dM (eI .i64) ([s_] : List Int)),Hn (dM (eI .i64) ([s_] : List Int)),Hn (aL (eI .i64) (eI .i64) g11),Hl (aM (eI .i64) p_Final2 ([s_] : List Int))]
         ·exact yB ((zdP Tryz.prog).or ((zdO Tryz.prog).or X0)) hC hJ10 p_Final2 hf2 [Hn g10,Hq c5]
       ·obtain rfl := zl hf2
        obtain rfl := hl2
        exact yB X0 hC hJ6 p_Final2 hf1 [Hq c4]
     ·exact yBx X0 hC hJ5 (1,([] : List zf),([] : List Int)) hf1 [(1,.own (.box (KH x_))),(2,.own (.box (.agg [I 0,I 0,eOs 1 true (eI .i64) [],eOs 3 true ve []]))),(3,.own (.box (.agg [I 2,I 2,eOs 1 true (eI .i64) ([w64 (Int.tmod x_.Channels.e0 3),w64 (Int.tmod x_.Channels.e1 3)]),eOs 3 false Jy out_Parts1]))),(4,.d (I i_)),(5,.own (.box (.agg [I 1,eOs 5 true vN [],eOs 1 true (eI .i64) []]))),(26,.d (I i_)),(28,.d (eSl 3 false VV x_.Parts)),(29,.d (I ((x_.Parts.length : Nat) : Int))),(30,.d (B (decide (i_ < ((x_.Parts.length : Nat) : Int))))),(31,.d (B (decide (i_ < ((x_.Parts.length : Nat) : Int))))),(34,.d (B x34))] inferInstance (Z0 ++ [Hq c0])
  ·rcases zS hf1 with ⟨c6,hf1⟩ | ⟨c6,hf1⟩
   ·let Z2 : List HO := (rpN 4 (Hq c6) [Ha (lnM VV x_.Parts),Hq c6,Hq c6])
    rcases zS hf1 with ⟨c7,hf1⟩ | ⟨c7,hf1⟩
    ·exact yB X0 hC hJ3 true hf1 (Z2 ++ [Hq c7,Hq c7,Hq c6,Hq c7,Hq c6,qT])
    ·let Z3 : List HO := (Z2 ++ [Hq c7,Hq c7,Hq c6,Hq c7,Hq c6])
     rcases zS hf1 with ⟨c8,hf1⟩ | ⟨c8,hf1⟩
     ·exact yB X0 hC hJ3 (i_ == 0) hf1 (Z3 ++ [Hq c8])
     ·obtain rfl := zl hf1
      obtain rfl := hl1
      exact yB X0 hC hJ1 out_Parts1 hf0 (Z3 ++ [Hq c8])
   ·obtain rfl := zl hf1
    obtain rfl := hl1
    exact yB X0 hC hJ1 out_Parts1 hf0 (rpN 8 (Hq c6) [qF])
def KW : Code := (Tryz.f25.body).getD .skip
def YE : xi := spF (α := z8) (ρ := z7) 25 (fun x => [x6 x]) (fun r => z1g r) (fun x => ZR x) [] (Ja)
theorem z0y {ctr : Ctr} (hC : zZ Tryz.prog ctr) : YE.Ok Tryz.prog := by
 refine yc ?_
 rintro x_ r0 hf0
 try unfold ZR at hf0
 refine yO false [(2,some 39)] KW 12 Tryz.func25 fun E hE => ?_
 obtain ⟨g0,hf0⟩ := gdE hf0
 obtain ⟨g1,hf0⟩ := gdE hf0
 obtain rfl := zl hf0
 exact yE X0 hC hE [Ha (lnM ve x_.Parts),Hn (rL g0),Ha (rM 1 (eI .i64) ((x_.Parts.length : Nat) : Int) (0 : Int)),Ha (lnM (eI .i64) x_.Channels),Hn (rL g1),Ha (rM 1 (eOs 1 true (eI .i64)) ((x_.Channels.length : Nat) : Int) ([] : List Int)),Hm (shM (eI .i64) (eI .i64) (List.replicate ((x_.Parts.length : Nat) : Int).toNat (0 : Int))),Hm (shM (eOs 1 true (eI .i64)) F1_ (List.replicate ((x_.Channels.length : Nat) : Int).toNat ([] : List Int)))]
def uL : Code := (Tryz.f59.body).getD .skip
def Xh : xi := spF (α := z7 × Int × Int × Int × List Int) (ρ := z7) 59 (fun x => [wm x.1,(eI .i64) x.2.1,(eI .i64) x.2.2.1,(eI .i64) x.2.2.2.1,F2_ x.2.2.2.2]) (fun r => wm r) (fun x => qY x.1 x.2.1 x.2.2.1 x.2.2.2.1 x.2.2.2.2) [] (zho)
abbrev Ji (out_States : List Int) (out_Queues : List (List Int)) : List (Nat × T) := [(10,.own (.box (.agg [eOs 1 true (eI .i64) [],eOs 1 true F2_ []]))),(11,.own (.box (.agg [eOs 1 false (eI .i64) out_States,eOs 1 false F2_ out_Queues])))]
abbrev Jh (c_ : z7) (channel : Int) (queue : List Int) (out_States : List Int) (out_Queues1 : List (List Int)) (i_ : Int) (q_ : List Int) : List (Nat × T) := [(3,.d (I channel)),(4,.d (eSl 1 false (eI .i64) queue)),(5,.own (.box (wm c_))),(10,.own (.box (.agg [eOs 1 true (eI .i64) [],eOs 1 true F2_ []]))),(11,.own (.box (.agg [eOs 1 false (eI .i64) out_States,eOs 1 false F2_ out_Queues1]))),(14,.d (I i_)),(15,.d (eSl 1 false (eI .i64) q_))]
abbrev Jf (c_ : z7) (channel : Int) (queue : List Int) (out_States : List Int) (out_Queues1 : List (List Int)) (i_ : Int) : List (Nat × T) := [(3,.d (I channel)),(4,.d (eSl 1 false (eI .i64) queue)),(5,.own (.box (wm c_))),(10,.own (.box (.agg [eOs 1 true (eI .i64) [],eOs 1 true F2_ []]))),(11,.own (.box (.agg [eOs 1 false (eI .i64) out_States,eOs 1 false F2_ out_Queues1]))),(14,.d (I i_))]
abbrev Jj (c_ : z7) (channel : Int) (queue : List Int) (out_States : List Int) : List (Nat × T) := [(3,.d (I channel)),(4,.d (eSl 1 false (eI .i64) queue)),(5,.own (.box (wm c_))),(10,.own (.box (.agg [eOs 1 true (eI .i64) [],eOs 1 true F2_ []]))),(11,.own (.box (.agg [eOs 1 false (eI .i64) out_States,eOs 1 true F2_ []])))]
abbrev Jg (c_ : z7) (part : Int) (state : Int) (channel : Int) (queue : List Int) (out_States1 : List Int) (i_1 : Int) (n_ : Int) : List (Nat × T) := [(1,.d (I part)),(2,.d (I state)),(3,.d (I channel)),(4,.d (eSl 1 false (eI .i64) queue)),(5,.own (.box (wm c_))),(10,.own (.box (.agg [eOs 1 true (eI .i64) [],eOs 1 true F2_ []]))),(11,.own (.box (.agg [eOs 1 false (eI .i64) out_States1,eOs 1 true F2_ []]))),(12,.d (I i_1)),(13,.d (I n_))]
abbrev Je (c_ : z7) (part : Int) (state : Int) (channel : Int) (queue : List Int) (out_States1 : List Int) (i_1 : Int) : List (Nat × T) := [(1,.d (I part)),(2,.d (I state)),(3,.d (I channel)),(4,.d (eSl 1 false (eI .i64) queue)),(5,.own (.box (wm c_))),(10,.own (.box (.agg [eOs 1 true (eI .i64) [],eOs 1 true F2_ []]))),(11,.own (.box (.agg [eOs 1 false (eI .i64) out_States1,eOs 1 true F2_ []]))),(12,.d (I i_1))]
theorem z1m {ctr : Ctr} (hC : zZ Tryz.prog ctr) : Xh.Ok Tryz.prog := by
 refine yc ?_
 rintro ⟨c_,part,state,channel,queue⟩ r0 hf0
 try unfold qY at hf0
 refine yO false [(10,some 39)] uL 61 Tryz.func59 fun E hE => ?_
 refine yJ X0 hC uL [1,1] [] [3,4,5,10,11] (fun z : List Int => Zv c_ channel queue z = some r0) (fun z => Jj c_ channel queue z) [(1,.d (I part)),(2,.d (I state)),(3,.d (I channel)),(4,.d (eSl 1 false (eI .i64) queue)),(5,.own (.box (wm c_))),(10,.own (.box (.agg [eOs 1 true (eI .i64) [],eOs 1 true F2_ []]))),(11,.own (.box (.agg [eOs 1 true (eI .i64) [],eOs 1 true F2_ []])))] [Hh (.cut 2)] ?_ fun J1 hJ1 => ?_
 ·rintro out_States hf0
  unfold Zv at hf0
  refine yJ X0 hC uL [1,1,1] [] [10,11] (fun z : List (List Int) => Xr out_States z = some r0) (fun z => Ji out_States z) [(3,.d (I channel)),(4,.d (eSl 1 false (eI .i64) queue)),(5,.own (.box (wm c_))),(10,.own (.box (.agg [eOs 1 true (eI .i64) [],eOs 1 true F2_ []]))),(11,.own (.box (.agg [eOs 1 false (eI .i64) out_States,eOs 1 true F2_ []])))] [Hh (.cut 0)] ?_ fun J2 hJ2 => ?_
  ·rintro out_Queues hf0
   unfold Xr at hf0
   obtain rfl := zl hf0
   exact yE X0 hC hE [Hm (shM (eI .i64) (eI .i64) out_States),Hm (shM F2_ F2_ out_Queues)]
  ·obtain ⟨t3,ht3,hf0⟩ := zo hf0
   refine yLx X0 hC uL [1,1,1,2,1,0] [J2] (fun s => qX c_ channel queue s.1 s.2) (fun x => Jf c_ channel queue out_States x.1 x.2) (([] : List (List Int)),0) ht3 [(3,.d (I channel)),(4,.d (eSl 1 false (eI .i64) queue)),(5,.own (.box (wm c_))),(10,.own (.box (.agg [eOs 1 true (eI .i64) [],eOs 1 true F2_ []]))),(11,.own (.box (.agg [eOs 1 false (eI .i64) out_States,eOs 1 true F2_ []]))),(14,.d (I 0))] inferInstance [] ?_
   rintro ⟨out_Queues1,i_⟩ m3 lr1 hf1 hl1 J3 hJ3
   try unfold qX at hf1
   let Z0 : List HO := [Ha (lnM F2_ c_.Queues)]
   rcases zS hf1 with ⟨c0,hf1⟩ | ⟨c0,hf1⟩
   ·obtain ⟨Queue_e,h0,hf1⟩ := zo hf1
    refine yJ X0 hC uL [1,1,1,2,1,0,0,1,0,0,1] [J2,J3] [3,4,5,10,11,14,15] (fun z : List Int => kp out_Queues1 i_ z = some lr1) (fun z => Jh c_ channel queue out_States out_Queues1 i_ z) [(3,.d (I channel)),(4,.d (eSl 1 false (eI .i64) queue)),(5,.own (.box (wm c_))),(10,.own (.box (.agg [eOs 1 true (eI .i64) [],eOs 1 true F2_ []]))),(11,.own (.box (.agg [eOs 1 false (eI .i64) out_States,eOs 1 false F2_ out_Queues1]))),(14,.d (I i_)),(15,.d (eSl 1 false (eI .i64) Queue_e))] (Z0 ++ [Hq c0,Hi F2_ h0,Hh (.cut 0)]) ?_ fun J4 hJ4 => ?_
    ·rintro q_ hf1
     unfold kp at hf1
     obtain ⟨g0,hf1⟩ := gdE hf1
     obtain rfl := zl hf1
     exact yB X0 hC hJ3 ((out_Queues1 ++ ([q_] : List (List Int))),w64 (i_ + 1)) hl1 [Hq (dM F2_ ([q_] : List (List Int))),Hn (dM F2_ ([q_] : List (List Int))),Hn (aL F2_ F2_ g0),Hl (aM F2_ out_Queues1 ([q_] : List (List Int)))]
    ·rcases zS hf1 with ⟨c1,hf1⟩ | ⟨c1,hf1⟩
     ·exact yB X0 hC hJ4 queue hf1 [Hq c1]
     ·exact yB X0 hC hJ4 Queue_e hf1 [Hq c1]
   ·obtain rfl := zl hf1
    obtain rfl := hl1
    exact yB X0 hC hJ2 out_Queues1 hf0 (Z0 ++ [Hq c0])
 ·obtain ⟨t5,ht5,hf0⟩ := zo hf0
  refine yLx X0 hC uL [1,1,2,1,0] [J1] (fun s => qW c_ part state s.1 s.2) (fun x => Je c_ part state channel queue x.1 x.2) (([] : List Int),0) ht5 [(1,.d (I part)),(2,.d (I state)),(3,.d (I channel)),(4,.d (eSl 1 false (eI .i64) queue)),(5,.own (.box (wm c_))),(10,.own (.box (.agg [eOs 1 true (eI .i64) [],eOs 1 true F2_ []]))),(11,.own (.box (.agg [eOs 1 true (eI .i64) [],eOs 1 true F2_ []]))),(12,.d (I 0))] inferInstance [] ?_
  rintro ⟨out_States1,i_1⟩ m5 lr1 hf1 hl1 J5 hJ5
  try unfold qW at hf1
  let Z1 : List HO := [Ha (lnM (eI .i64) c_.States)]
  rcases zS hf1 with ⟨c2,hf1⟩ | ⟨c2,hf1⟩
  ·obtain ⟨State_e,h1,hf1⟩ := zo hf1
   refine yJ X0 hC uL [1,1,2,1,0,0,1,0,0,1] [J1,J5] [1,2,3,4,5,10,11,12,13] (fun z : Int => ko out_States1 i_1 z = some lr1) (fun z => Jg c_ part state channel queue out_States1 i_1 z) [(1,.d (I part)),(2,.d (I state)),(3,.d (I channel)),(4,.d (eSl 1 false (eI .i64) queue)),(5,.own (.box (wm c_))),(10,.own (.box (.agg [eOs 1 true (eI .i64) [],eOs 1 true F2_ []]))),(11,.own (.box (.agg [eOs 1 false (eI .i64) out_States1,eOs 1 true F2_ []]))),(12,.d (I i_1)),(13,.d (I State_e))] (Z1 ++ [Hq c2,Hi (eI .i64) h1,Hh (.cut 0)]) ?_ fun J6 hJ6 => ?_
   ·rintro n_ hf1
    unfold ko at hf1
    obtain ⟨g1,hf1⟩ := gdE hf1
    obtain rfl := zl hf1
    exact yB X0 hC hJ5 ((out_States1 ++ ([n_] : List Int)),w64 (i_1 + 1)) hl1 [Hq (dM (eI .i64) ([n_] : List Int)),Hn (dM (eI .i64) ([n_] : List Int)),Hn (aL (eI .i64) (eI .i64) g1),Hl (aM (eI .i64) out_States1 ([n_] : List Int))]
   ·rcases zS hf1 with ⟨c3,hf1⟩ | ⟨c3,hf1⟩
    ·exact yB X0 hC hJ6 state hf1 [Hq c3]
    ·exact yB X0 hC hJ6 State_e hf1 [Hq c3]
  ·obtain rfl := zl hf1
   obtain rfl := hl1
   exact yB X0 hC hJ1 out_States1 hf0 (Z1 ++ [Hq c2])
def xw : Code := (Tryz.f23.body).getD .skip
def YC : xi := spF (α := z8 × z7) (ρ := List zg) 23 (fun x => [x6 x.1,wm x.2]) (fun r => (eOs 6 false k7) r) (fun x => ZP x.1 x.2) [] (UV)
abbrev Qc (out : List zg) : List (Nat × T) := [(5,.own (eOs 6 false k7 out))]
abbrev Qb (x_ : z8) (c_ : z7) (p_ : Int) (out2 : List zg) : List (Nat × T) := [(2,.own (.box (x6 x_))),(3,.own (.box (wm c_))),(5,.own (eOs 6 false k7 out2)),(6,.d (I p_))]
abbrev Qa (x_ : z8) (c_ : z7) (p_ : Int) (i_ : Int) (out4 : List zg) : List (Nat × T) := [(2,.own (.box (x6 x_))),(3,.own (.box (wm c_))),(5,.own (eOs 6 false k7 out4)),(6,.d (I p_)),(7,.d (I i_))]
abbrev Q7 (x_ : z8) (c_ : z7) (p_ : Int) (i_ : Int) (Arc_e : zf) (Channel_e : Int) (o_ : Int) (out8 : List zg) : List (Nat × T) := [(2,.own (.box (x6 x_))),(3,.own (.box (wm c_))),(5,.own (eOs 6 false k7 out8)),(6,.d (I p_)),(7,.d (I i_)),(8,.own (.box (vN Arc_e))),(11,.d (I Channel_e)),(12,.d (I o_)),(143,.d (.atom (.int .u8 Arc_e.Kind))),(144,.d (B (Arc_e.Kind == 1))),(147,.d (I Channel_e)),(148,.d (B (Channel_e == 0)))]
abbrev Uv (x_ : z8) (c_ : z7) (p_ : Int) (i_ : Int) (Arc_e : zf) (Channel_e : Int) (o_ : Int) (k_ : Int) (out10 : List zg) : List (Nat × T) := [(2,.own (.box (x6 x_))),(3,.own (.box (wm c_))),(5,.own (eOs 6 false k7 out10)),(6,.d (I p_)),(7,.d (I i_)),(8,.own (.box (vN Arc_e))),(11,.d (I Channel_e)),(12,.d (I o_)),(13,.d (I k_)),(143,.d (.atom (.int .u8 Arc_e.Kind))),(144,.d (B (Arc_e.Kind == 1))),(147,.d (I Channel_e)),(148,.d (B (Channel_e == 0))),(162,.d (I o_)),(163,.d (I p_)),(164,.d (B (o_ != p_)))]
abbrev Uu (x_ : z8) (c_ : z7) (p_ : Int) (i_ : Int) (Arc_e : zf) (Channel_e : Int) (o_ : Int) (out9 : List zg) (k_ : Int) : List (Nat × T) := [(2,.own (.box (x6 x_))),(3,.own (.box (wm c_))),(5,.own (eOs 6 false k7 out9)),(6,.d (I p_)),(7,.d (I i_)),(8,.own (.box (vN Arc_e))),(11,.d (I Channel_e)),(12,.d (I o_)),(13,.d (I k_)),(143,.d (.atom (.int .u8 Arc_e.Kind))),(144,.d (B (Arc_e.Kind == 1))),(147,.d (I Channel_e)),(148,.d (B (Channel_e == 0)))]
abbrev Q4 (x_ : z8) (c_ : z7) (p_ : Int) (i_ : Int) (Arc_e : zf) (Channel_e : Int) (out7 : List zg) (o_ : Int) : List (Nat × T) := [(2,.own (.box (x6 x_))),(3,.own (.box (wm c_))),(5,.own (eOs 6 false k7 out7)),(6,.d (I p_)),(7,.d (I i_)),(8,.own (.box (vN Arc_e))),(11,.d (I Channel_e)),(12,.d (I o_))]
abbrev Q8 (x_ : z8) (c_ : z7) (p_ : Int) (i_ : Int) (Arc_e : zf) (Channel_e : Int) (out6 : List zg) : List (Nat × T) := [(2,.own (.box (x6 x_))),(3,.own (.box (wm c_))),(5,.own (eOs 6 false k7 out6)),(6,.d (I p_)),(7,.d (I i_)),(8,.own (.box (vN Arc_e))),(11,.d (I Channel_e))]
abbrev Q9 (x_ : z8) (c_ : z7) (p_ : Int) (i_ : Int) (Arc_e : zf) (Queue_e : List Int) (Channel_e : Int) (out5 : List zg) : List (Nat × T) := [(2,.own (.box (x6 x_))),(3,.own (.box (wm c_))),(5,.own (eOs 6 false k7 out5)),(6,.d (I p_)),(7,.d (I i_)),(8,.own (.box (vN Arc_e))),(9,.own (.box (.agg [I p_,I i_,I (-1),I (-1)]))),(10,.d (eSl 1 false (eI .i64) Queue_e)),(11,.d (I Channel_e))]
abbrev Q5 (x_ : z8) (c_ : z7) (p_ : Int) (out3 : List zg) (i_ : Int) : List (Nat × T) := [(2,.own (.box (x6 x_))),(3,.own (.box (wm c_))),(5,.own (eOs 6 false k7 out3)),(6,.d (I p_)),(7,.d (I i_))]
abbrev Q6 (x_ : z8) (c_ : z7) (out1 : List zg) (p_ : Int) : List (Nat × T) := [(2,.own (.box (x6 x_))),(3,.own (.box (wm c_))),(5,.own (eOs 6 false k7 out1)),(6,.d (I p_))]
theorem z0w {ctr : Ctr} (hC : zZ Tryz.prog ctr) (h05 : ctr.Has Xh) : YC.Ok Tryz.prog := by
 refine yc ?_
 rintro ⟨x_,c_⟩ r0 hf0
 try unfold ZP at hf0
 refine yO true [(4,none)] xw 223 Tryz.func23 fun E hE => ?_
 refine yJ X0 hC xw [1,1] [] [5] (fun z : List zg => YJ z = some r0) (fun z => Qc z) [(2,.own (.box (x6 x_))),(3,.own (.box (wm c_))),(5,.own (eOs 6 true k7 []))] [Hh (.cut 2)] ?_ fun J1 hJ1 => ?_
 ·rintro out hf0
  unfold YJ at hf0
  obtain rfl := zl hf0
  exact yE X0 hC hE []
 ·obtain ⟨t2,ht2,hf0⟩ := zo hf0
  refine yLx X0 hC xw [1,1,2,1,0] [J1] (fun s => qd x_ c_ s.1 s.2) (fun x => Q6 x_ c_ x.1 x.2) (([] : List zg),0) ht2 [(2,.own (.box (x6 x_))),(3,.own (.box (wm c_))),(5,.own (eOs 6 true k7 [])),(6,.d (I 0))] inferInstance [] ?_
  rintro ⟨out1,p_⟩ m2 lr1 hf1 hl1 J2 hJ2
  try unfold qd at hf1
  let Z0 : List HO := [Ha (lnM ve x_.Parts)]
  rcases zS hf1 with ⟨c0,hf1⟩ | ⟨c0,hf1⟩
  ·refine yJ X0 hC xw [1,1,2,1,0,0,1] [J1,J2] [2,3,5,6] (fun z : List zg => kM p_ z = some lr1) (fun z => Qb x_ c_ p_ z) [(2,.own (.box (x6 x_))),(3,.own (.box (wm c_))),(5,.own (eOs 6 false k7 out1)),(6,.d (I p_))] (Z0 ++ [Hq c0,Hh (.cut 0)]) ?_ fun J3 hJ3 => ?_
   ·rintro out2 hf1
    unfold kM at hf1
    obtain rfl := zl hf1
    exact yB X0 hC hJ2 (out2,w64 (p_ + 1)) hl1 []
   ·obtain ⟨t4,ht4,hf1⟩ := zo hf1
    refine yL X0 hC xw [1,1,2,1,0,0,1,2,0,1,0] [J1,J2,J3] (fun s => qa x_ c_ p_ s.1 s.2) (fun x => Q5 x_ c_ p_ x.1 x.2) (out1,0) ht4  [] ?_
    rintro ⟨out3,i_⟩ m4 lr2 hf2 hl2 J4 hJ4
    try unfold qa at hf2
    obtain ⟨Part_e,h0,hf2⟩ := zo hf2
    let Z1 : List HO := [Hi ve h0,Ha (lnM vN Part_e.Arcs)]
    rcases zS hf2 with ⟨c1,hf2⟩ | ⟨c1,hf2⟩
    ·refine yJ X0 hC xw [1,1,2,1,0,0,1,2,0,1,0,0,1] [J1,J2,J3,J4] [2,3,5,6,7] (fun z : List zg => vJ i_ z = some lr2) (fun z => Qa x_ c_ p_ i_ z) [(2,.own (.box (x6 x_))),(3,.own (.box (wm c_))),(5,.own (eOs 6 false k7 out3)),(6,.d (I p_)),(7,.d (I i_))] (Z1 ++ [Hq c1,Hh (.cut 0)]) ?_ fun J5 hJ5 => ?_
     ·rintro out4 hf2
      unfold vJ at hf2
      obtain rfl := zl hf2
      exact yB X0 hC hJ4 (out4,w64 (i_ + 1)) hl2 []
     ·obtain ⟨Part_e1,h1,hf2⟩ := zo hf2
      obtain ⟨Arc_e,h2,hf2⟩ := zo hf2
      obtain ⟨State_e,h3,hf2⟩ := zo hf2
      let Z2 : List HO := [Hi ve h1,Hi vN h2,Hi (eI .i64) h3]
      rcases zS hf2 with ⟨c2,hf2⟩ | ⟨c2,hf2⟩
      ·exact yB X0 hC hJ5 out3 hf2 (Z2 ++ [Hq c2])
      ·rcases zS hf2 with ⟨c3,hf2⟩ | ⟨c3,hf2⟩
       ·obtain ⟨r_,h4,hf2⟩ := zo hf2
        obtain ⟨g0,hf2⟩ := gdE hf2
        exact yB X0 hC hJ5 (out3 ++ ([(zg.mk (ze.mk p_ i_ (-1) (-1)) r_)] : List zg)) hf2 (Z2 ++ [Hq c2,Hq c3,Hc h05 (x := (c_,p_,Arc_e.To,(-1),[])) h4 (loC wm c_ <| loC (eI .i64) p_ <| loC (eI .i64) Arc_e.To <| loC (eI .i64) (-1) <| loC F1_ ([] : List Int) <| loN),Hq (dM k7 ([(zg.mk (ze.mk p_ i_ (-1) (-1)) r_)] : List zg)),Hn (dM k7 ([(zg.mk (ze.mk p_ i_ (-1) (-1)) r_)] : List zg)),Hn (aL k7 k7 g0),Hl (aM k7 out3 ([(zg.mk (ze.mk p_ i_ (-1) (-1)) r_)] : List zg))])
       ·obtain ⟨Queue_e,h5,hf2⟩ := zo hf2
        obtain ⟨Channel_e,h6,hf2⟩ := zo hf2
        refine yJ X0 hC xw [1,1,2,1,0,0,1,2,0,1,0,0,1,2,0,1,1,1,1,1] [J1,J2,J3,J4,J5] [2,3,5,6,7,8,9,10,11] (fun z : List zg => wW x_ c_ p_ i_ Arc_e Queue_e Channel_e z = some lr2) (fun z => Q9 x_ c_ p_ i_ Arc_e Queue_e Channel_e z) [(2,.own (.box (x6 x_))),(3,.own (.box (wm c_))),(5,.own (eOs 6 false k7 out3)),(6,.d (I p_)),(7,.d (I i_)),(8,.own (.box (vN Arc_e))),(9,.own (.box (.agg [I p_,I i_,I (-1),I (-1)]))),(10,.d (eSl 1 false (eI .i64) Queue_e)),(11,.d (I Channel_e))] (Z2 ++ [Hq c2,Hq c3,Hi F2_ h5,Hi (eI .i64) h6,Hh (.cut 0)]) ?_ fun J6 hJ6 => ?_
        ·rintro out5 hf2
         unfold wW at hf2
         refine yJ X0 hC xw [1,1,2,1,0,0,1,2,0,1,0,0,1,2,0,1,1,1,1,1,1] [J1,J2,J3,J4,J5] [2,3,5,6,7,8,11] (fun z : List zg => wy x_ c_ p_ i_ Arc_e Channel_e z = some lr2) (fun z => Q8 x_ c_ p_ i_ Arc_e Channel_e z) [(2,.own (.box (x6 x_))),(3,.own (.box (wm c_))),(5,.own (eOs 6 false k7 out5)),(6,.d (I p_)),(7,.d (I i_)),(8,.own (.box (vN Arc_e))),(9,.own (.box (.agg [I p_,I i_,I (-1),I (-1)]))),(10,.d (eSl 1 false (eI .i64) Queue_e)),(11,.d (I Channel_e))] [Hh (.cut 0)] ?_ fun J7 hJ7 => ?_
         ·rintro out6 hf2
          unfold wy at hf2
          obtain ⟨t8,ht8,hf2⟩ := zo hf2
          refine yL X0 hC xw [1,1,2,1,0,0,1,2,0,1,0,0,1,2,0,1,1,1,1,1,1,1,1,0] [J1,J2,J3,J4,J5] (fun s => wx x_ c_ p_ i_ Arc_e Channel_e s.1 s.2) (fun x => Q4 x_ c_ p_ i_ Arc_e Channel_e x.1 x.2) (out6,0) ht8  [] ?_
          rintro ⟨out7,o_⟩ m8 lr3 hf3 hl3 J8 hJ8
          try unfold wx at hf3
          let Z3 : List HO := [Ha (lnM ve x_.Parts)]
          rcases zS hf3 with ⟨c4,hf3⟩ | ⟨c4,hf3⟩
          ·let Z4 : List HO := (Z3 ++ (rpN 4 (Hq c4) []))
           rcases zS hf3 with ⟨c5,hf3⟩ | ⟨c5,hf3⟩
           ·rcases zS hf3 with ⟨c6,hf3⟩ | ⟨c6,hf3⟩
            ·refine yJ X0 hC xw [1,1,2,1,0,0,1,2,0,1,0,0,1,2,0,1,1,1,1,1,1,1,1,0,0,1] [J1,J2,J3,J4,J5,J8] [2,3,5,6,7,8,11,12,143,144,147,148] (fun z : List zg => kL o_ z = some lr3) (fun z => Q7 x_ c_ p_ i_ Arc_e Channel_e o_ z) [(2,.own (.box (x6 x_))),(3,.own (.box (wm c_))),(5,.own (eOs 6 false k7 out7)),(6,.d (I p_)),(7,.d (I i_)),(8,.own (.box (vN Arc_e))),(11,.d (I Channel_e)),(12,.d (I o_)),(143,.d (.atom (.int .u8 Arc_e.Kind))),(144,.d (B (Arc_e.Kind == 1))),(147,.d (I Channel_e)),(148,.d (B (Channel_e == 0)))] (Z4 ++ [Hq c5,Hq c5,Hq c5,Hq c6,Hh (.cut 0)]) ?_ fun J9 hJ9 => ?_
             ·rintro out8 hf3
              unfold kL at hf3
              obtain rfl := zl hf3
              exact yB X0 hC hJ8 (out8,w64 (o_ + 1)) hl3 []
             ·obtain ⟨t10,ht10,hf3⟩ := zo hf3
              refine yL X0 hC xw [1,1,2,1,0,0,1,2,0,1,0,0,1,2,0,1,1,1,1,1,1,1,1,0,0,1,2,0,1,0] [J1,J2,J3,J4,J5,J8,J9] (fun s => wC x_ c_ p_ i_ Arc_e o_ s.1 s.2) (fun x => Uu x_ c_ p_ i_ Arc_e Channel_e o_ x.1 x.2) (out7,0) ht10  [] ?_
              rintro ⟨out9,k_⟩ m10 lr4 hf4 hl4 J10 hJ10
              try unfold wC at hf4
              obtain ⟨Part_e2,h7,hf4⟩ := zo hf4
              let Z5 : List HO := [Hi ve h7,Ha (lnM vN Part_e2.Arcs)]
              rcases zS hf4 with ⟨c7,hf4⟩ | ⟨c7,hf4⟩
              ·let Z6 : List HO := (Z5 ++ (rpN 4 (Hq c7) []))
               rcases zS hf4 with ⟨c8,hf4⟩ | ⟨c8,hf4⟩
               ·refine yJ X0 hC xw [1,1,2,1,0,0,1,2,0,1,0,0,1,2,0,1,1,1,1,1,1,1,1,0,0,1,2,0,1,0,0,1] [J1,J2,J3,J4,J5,J8,J9,J10] [2,3,5,6,7,8,11,12,13,143,144,147,148,162,163,164] (fun z : List zg => wD k_ z = some lr4) (fun z => Uv x_ c_ p_ i_ Arc_e Channel_e o_ k_ z) [(2,.own (.box (x6 x_))),(3,.own (.box (wm c_))),(5,.own (eOs 6 false k7 out9)),(6,.d (I p_)),(7,.d (I i_)),(8,.own (.box (vN Arc_e))),(11,.d (I Channel_e)),(12,.d (I o_)),(13,.d (I k_)),(143,.d (.atom (.int .u8 Arc_e.Kind))),(144,.d (B (Arc_e.Kind == 1))),(147,.d (I Channel_e)),(148,.d (B (Channel_e == 0))),(162,.d (I o_)),(163,.d (I p_)),(164,.d (B (o_ != p_)))] (Z6 ++ [Hq c8,Hh (.cut 0)]) ?_ fun J11 hJ11 => ?_
                ·rintro out10 hf4
                 unfold wD at hf4
                 obtain rfl := zl hf4
                 exact yB X0 hC hJ10 (out10,w64 (k_ + 1)) hl4 []
                ·obtain ⟨Part_e3,h8,hf4⟩ := zo hf4
                 obtain ⟨Arc_e1,h9,hf4⟩ := zo hf4
                 let Z7 : List HO := [Hi ve h8,Hi vN h9]
                 rcases zS hf4 with ⟨c9,hf4⟩ | ⟨c9,hf4⟩
                 ·obtain ⟨State_e1,h10,hf4⟩ := zo hf4
                  let Z8 : List HO := (Z7 ++ (rpN 6 (Hq c9) [Hi (eI .i64) h10,Hq c9,Hq c9,Hq c9]))
                  rcases zS hf4 with ⟨c10,hf4⟩ | ⟨c10,hf4⟩
                  ·let Z9 : List HO := (Z8 ++ (rpN 6 (Hq c10) []))
                   rcases zS hf4 with ⟨c11,hf4⟩ | ⟨c11,hf4⟩
                   ·let Z10 : List HO := (Z9 ++ (rpN 6 (Hq c11) []))
                    rcases zS hf4 with ⟨c12,hf4⟩ | ⟨c12,hf4⟩
                    ·obtain ⟨r_1,h11,hf4⟩ := zo hf4
                     obtain ⟨r_2,h12,hf4⟩ := zo hf4
                     obtain ⟨g1,hf4⟩ := gdE hf4
                     exact yB X0 hC hJ11 (out9 ++ ([(zg.mk (ze.mk p_ i_ o_ k_) r_2)] : List zg)) hf4 (Z10 ++ [Hq c12,Hc h05 (x := (c_,p_,Arc_e.To,(-1),[])) h11 (loC wm c_ <| loC (eI .i64) p_ <| loC (eI .i64) Arc_e.To <| loC (eI .i64) (-1) <| loC F1_ ([] : List Int) <| loN),Hc h05 (x := (r_1,o_,Arc_e1.To,(-1),[])) h12 (loC wm r_1 <| loC (eI .i64) o_ <| loC (eI .i64) Arc_e1.To <| loC (eI .i64) (-1) <| loC F1_ ([] : List Int) <| loN),Hq (dM k7 ([(zg.mk (ze.mk p_ i_ o_ k_) r_2)] : List zg)),Hn (dM k7 ([(zg.mk (ze.mk p_ i_ o_ k_) r_2)] : List zg)),Hn (aL k7 k7 g1),Hl (aM k7 out9 ([(zg.mk (ze.mk p_ i_ o_ k_) r_2)] : List zg))])
                    ·exact yB X0 hC hJ11 out9 hf4 (Z10 ++ [Hq c12])
                   ·exact yB X0 hC hJ11 out9 hf4 (Z9 ++ (rpN 6 (Hq c11) [qF]))
                  ·exact yB X0 hC hJ11 out9 hf4 (Z8 ++ (rpN 6 (Hq c10) (rpN 7 qF [])))
                 ·exact yB X0 hC hJ11 out9 hf4 (Z7 ++ (rpN 9 (Hq c9) (rpN 13 qF [])))
               ·obtain rfl := zl hf4
                obtain rfl := hl4
                exact yB X0 hC hJ9 out9 hf3 (Z6 ++ [Hq c8])
              ·obtain rfl := zl hf4
               obtain rfl := hl4
               exact yB X0 hC hJ9 out9 hf3 (Z5 ++ (rpN 4 (Hq c7) [qF]))
            ·obtain rfl := zl hf3
             obtain rfl := hl3
             exact yB X0 hC hJ5 out7 hf2 (Z4 ++ [Hq c5,Hq c5,Hq c5,Hq c6])
           ·obtain rfl := zl hf3
            obtain rfl := hl3
            exact yB X0 hC hJ5 out7 hf2 (Z4 ++ [Hq c5,Hq c5,Hq c5,qF])
          ·obtain rfl := zl hf3
           obtain rfl := hl3
           exact yB X0 hC hJ5 out7 hf2 (Z3 ++ (rpN 4 (Hq c4) (rpN 4 qF [])))
         ·rcases zS hf2 with ⟨c13,hf2⟩ | ⟨c13,hf2⟩
          ·let Z11 : List HO := [Hq c13,Hq c13,Ha (lnM (eI .i64) Queue_e),Hq c13,Hq c13]
           rcases zS hf2 with ⟨c14,hf2⟩ | ⟨c14,hf2⟩
           ·obtain ⟨Queue_e_e,h13,hf2⟩ := zo hf2
            let Z12 : List HO := (Z11 ++ (Hq c14 :: Hq c14 :: Hi (eI .i64) h13 :: (rpN 5 (Hq c14) [])))
            rcases zS hf2 with ⟨c15,hf2⟩ | ⟨c15,hf2⟩
            ·obtain ⟨g2,hf2⟩ := gdE hf2
             obtain ⟨r_3,h14,hf2⟩ := zo hf2
             obtain ⟨g3,hf2⟩ := gdE hf2
             exact yB X0 hC hJ7 (out5 ++ ([(zg.mk (ze.mk p_ i_ (-1) (-1)) r_3)] : List zg)) hf2 (Z12 ++ [Hq c15,Hn (slA g2),Hn (zec (eI .i64) g2),Ha (slE 1 false (eI .i64) Queue_e (1 : Int).toNat),Hc h05 (x := (c_,p_,Arc_e.To,Arc_e.Channel,(Queue_e.drop (1 : Int).toNat))) h14 (loC wm c_ <| loC (eI .i64) p_ <| loC (eI .i64) Arc_e.To <| loC (eI .i64) Arc_e.Channel <| loC F2_ (Queue_e.drop (1 : Int).toNat) <| loN),Hq (dM k7 ([(zg.mk (ze.mk p_ i_ (-1) (-1)) r_3)] : List zg)),Hn (dM k7 ([(zg.mk (ze.mk p_ i_ (-1) (-1)) r_3)] : List zg)),Hn (aL k7 k7 g3),Hl (aM k7 out5 ([(zg.mk (ze.mk p_ i_ (-1) (-1)) r_3)] : List zg))])
            ·exact yB X0 hC hJ7 out5 hf2 (Z12 ++ [Hq c15])
           ·exact yB X0 hC hJ7 out5 hf2 (Z11 ++ (rpN 7 (Hq c14) [qF]))
          ·exact yB X0 hC hJ7 out5 hf2 (rpN 4 (Hq c13) (rpN 8 qF []))
        ·rcases zS hf2 with ⟨c16,hf2⟩ | ⟨c16,hf2⟩
         ·let Z13 : List HO := [Hq c16,Hq c16,Ha (lnM (eI .i64) Queue_e),Hq c16,Hq c16,Hq c16]
          rcases zS hf2 with ⟨c17,hf2⟩ | ⟨c17,hf2⟩
          ·obtain ⟨g4,hf2⟩ := gdE hf2
           obtain ⟨g5,hf2⟩ := gdE hf2
           obtain ⟨r_4,h15,hf2⟩ := zo hf2
           obtain ⟨g6,hf2⟩ := gdE hf2
           exact yB X0 hC hJ6 (out3 ++ ([(zg.mk (ze.mk p_ i_ (-1) (-1)) r_4)] : List zg)) hf2 (Z13 ++ [Hq c17,Hn (dM (eI .i64) Queue_e),Hn (aL (eI .i64) (eI .i64) g4),Hl (aM0 (eI .i64) Queue_e),Hq (dM (eI .i64) ([Arc_e.Message] : List Int)),Hn (dM (eI .i64) ([Arc_e.Message] : List Int)),Hn (aL (eI .i64) (eI .i64) g5),Hl (aM (eI .i64) Queue_e ([Arc_e.Message] : List Int)),Hg (z2f h05),Hm (shM (eI .i64) (eI .i64) (Queue_e ++ ([Arc_e.Message] : List Int))),Hs (z2g h05 (x := (c_,p_,Arc_e.To,Arc_e.Channel,(Queue_e ++ ([Arc_e.Message] : List Int)))) h15 (loC wm c_ <| loC (eI .i64) p_ <| loC (eI .i64) Arc_e.To <| loC (eI .i64) Arc_e.Channel <| loC F2_ (Queue_e ++ ([Arc_e.Message] : List Int)) <| loN)),Hm (shM (eI .i64) (eI .i64) (Queue_e ++ ([Arc_e.Message] : List Int))),Hq (dM k7 ([(zg.mk (ze.mk p_ i_ (-1) (-1)) r_4)] : List zg)),Hn (dM k7 ([(zg.mk (ze.mk p_ i_ (-1) (-1)) r_4)] : List zg)),Hn (aL k7 k7 g6),Hl (aM k7 out3 ([(zg.mk (ze.mk p_ i_ (-1) (-1)) r_4)] : List zg))])
          ·exact yB X0 hC hJ6 out3 hf2 (Z13 ++ [Hq c17])
         ·exact yB X0 hC hJ6 out3 hf2 (rpN 5 (Hq c16) [qF])
    ·obtain rfl := zl hf2
     obtain rfl := hl2
     exact yB X0 hC hJ3 out3 hf1 (Z1 ++ [Hq c1])
  ·obtain rfl := zl hf1
   obtain rfl := hl1
   exact yB X0 hC hJ1 out1 hf0 (Z0 ++ [Hq c0])
def Y3 : Code := (Tryz.f70.body).getD .skip
def ZK : xi := spF (α := List Int × List Int) (ρ := Int) 70 (fun x => [F2_ x.1,F2_ x.2]) (fun r => (eI .i64) r) (fun x => jP x.1 x.2) [] (UV)
abbrev Uy : List (Nat × T) := []
abbrev Ux (a_ : List Int) (b_ : List Int) (i_ : Int) : List (Nat × T) := [(0,.d (eSl 1 false (eI .i64) a_)),(1,.d (eSl 1 false (eI .i64) b_)),(5,.d (I i_))]
theorem KO {ctr : Ctr} (hC : zZ Tryz.prog ctr) : ZK.Ok Tryz.prog := by
 refine yc ?_
 rintro ⟨a_,b_⟩ r0 hf0
 try unfold jP at hf0
 refine yO true [(4,none)] Y3 40 Tryz.func70 fun E hE => ?_
 let Z0 : List HO := [Ha (lnM (eI .i64) a_),Ha (lnM (eI .i64) b_)]
 rcases zS hf0 with ⟨c0,hf0⟩ | ⟨c0,hf0⟩
 ·let Z1 : List HO := (Z0 ++ [Hq c0,Ha (lnM (eI .i64) a_),Ha (lnM (eI .i64) b_)])
  rcases zS hf0 with ⟨c1,hf0⟩ | ⟨c1,hf0⟩
  ·obtain rfl := zl hf0
   exact yE X0 hC hE (Z1 ++ [Hq c1])
  ·obtain rfl := zl hf0
   exact yE X0 hC hE (Z1 ++ [Hq c1])
 ·refine yJ X0 hC Y3 [1,1] [] [] (fun z : Unit => ZT = some r0) (fun z => Uy) [(0,.d (eSl 1 false (eI .i64) a_)),(1,.d (eSl 1 false (eI .i64) b_))] (Z0 ++ [Hq c0,Hh (.cut 0)]) ?_ fun J1 hJ1 => ?_
  ·rintro ⟨⟩ hf0
   unfold ZT at hf0
   obtain rfl := zl hf0
   exact yE X0 hC hE []
  ·obtain ⟨t2,ht2,hf0⟩ := zo hf0
   refine yL X0 hC Y3 [1,1,2,1,0] [J1] (fun s => qP a_ b_ s) (fun x => Ux a_ b_ x) 0 ht2  [] ?_
   rintro i_ m2 lr1 hf1 hl1 J2 hJ2
   try unfold qP at hf1
   rcases zS hf1 with ⟨c2,hf1⟩ | ⟨c2,hf1⟩
   ·obtain ⟨a__e,h0,hf1⟩ := zo hf1
    obtain ⟨b__e,h1,hf1⟩ := zo hf1
    let Z2 : List HO := [Ha (lnM (eI .i64) a_),Hq c2,Hi (eI .i64) h0,Hi (eI .i64) h1]
    rcases zS hf1 with ⟨c3,hf1⟩ | ⟨c3,hf1⟩
    ·obtain ⟨a__e1,h2,hf1⟩ := zo hf1
     obtain ⟨b__e1,h3,hf1⟩ := zo hf1
     let Z3 : List HO := (Z2 ++ [Hq c3,Hi (eI .i64) h2,Hi (eI .i64) h3])
     rcases zS hf1 with ⟨c4,hf1⟩ | ⟨c4,hf1⟩
     ·obtain rfl := zl hf1
      obtain rfl := hl1
      obtain rfl := zl hf0
      exact yE X0 hC hE (Z3 ++ [Hq c4])
     ·obtain rfl := zl hf1
      obtain rfl := hl1
      obtain rfl := zl hf0
      exact yE X0 hC hE (Z3 ++ [Hq c4])
    ·obtain rfl := zl hf1
     exact yB X0 hC hJ2 (w64 (i_ + 1)) hl1 (Z2 ++ [Hq c3])
   ·obtain rfl := zl hf1
    obtain rfl := hl1
    exact yB X0 hC hJ1 () hf0 [Ha (lnM (eI .i64) a_),Hq c2]
def z16 : Code := (Tryz.f36.body).getD .skip
def Xi : xi := spF (α := List Int × List Int) (ρ := Int) 36 (fun x => [F2_ x.1,F2_ x.2]) (fun r => (eI .i64) r) (fun x => ZF x.1 x.2) [] (UV)
theorem z1o {ctr : Ctr} (hC : zZ Tryz.prog ctr) (h0m : ctr.Has ZK) : Xi.Ok Tryz.prog := by
 refine yc ?_
 rintro ⟨a_,b_⟩ r0 hf0
 try unfold ZF at hf0
 refine yO true [(4,none)] z16 22 Tryz.func36 fun E hE => ?_
 let Z0 : List HO := [Ha (lnM (eI .i64) a_),Ha (lnM (eI .i64) b_)]
 rcases zS hf0 with ⟨c0,hf0⟩ | ⟨c0,hf0⟩
 ·obtain rfl := zl hf0
  exact yE X0 hC hE (Z0 ++ (rpN 5 (Hq c0) (rpN 6 qT [])))
 ·obtain ⟨r_,h0,hf0⟩ := zo hf0
  let Z1 : List HO := (Z0 ++ [Hq c0,Hq c0,Hq c0,Hc h0m (x := (a_,b_)) h0 (loC F2_ a_ <| loC F2_ b_ <| loN),Hq c0,Hq c0])
  rcases zS hf0 with ⟨c1,hf0⟩ | ⟨c1,hf0⟩
  ·obtain rfl := zl hf0
   exact yE X0 hC hE (Z1 ++ (rpN 5 (Hq c1) [qT]))
  ·obtain ⟨r_1,h1,hf0⟩ := zo hf0
   let Z2 : List HO := (Z1 ++ [Hq c1,Hq c1,Hq c1,Hc h0m (x := (b_,a_)) h1 (loC F2_ b_ <| loC F2_ a_ <| loN),Hq c1,Hq c1])
   rcases zS hf0 with ⟨c2,hf0⟩ | ⟨c2,hf0⟩
   ·obtain rfl := zl hf0
    exact yE X0 hC hE (Z2 ++ [Hq c2])
   ·obtain rfl := zl hf0
    exact yE X0 hC hE (Z2 ++ [Hq c2])
def XL : Code := (Tryz.f16.body).getD .skip
def kl : xi := spF (α := z7 × z7) (ρ := Int) 16 (fun x => [wm x.1,wm x.2]) (fun r => (eI .i64) r) (fun x => jO x.1 x.2) [] (UV)
abbrev Jl : List (Nat × T) := []
abbrev Jk (a_ : z7) (b_ : z7) (i_ : Int) : List (Nat × T) := [(2,.own (.box (wm a_))),(3,.own (.box (wm b_))),(5,.d (I i_))]
theorem z1n {ctr : Ctr} (hC : zZ Tryz.prog ctr) (h0n : ctr.Has Xi) : kl.Ok Tryz.prog := by
 refine yc ?_
 rintro ⟨a_,b_⟩ r0 hf0
 try unfold jO at hf0
 refine yO true [(4,none)] XL 40 Tryz.func16 fun E hE => ?_
 obtain ⟨r_,h0,hf0⟩ := zo hf0
 let Z0 : List HO := [Hc h0n (x := (a_.States,b_.States)) h0 (loC F2_ a_.States <| loC F2_ b_.States <| loN)]
 rcases zS hf0 with ⟨c0,hf0⟩ | ⟨c0,hf0⟩
 ·obtain rfl := zl hf0
  exact yE X0 hC hE (Z0 ++ (rpN 8 (Hq c0) [qT]))
 ·let Z1 : List HO := (Z0 ++ [Hq c0,Hq c0,Hq c0,Ha (lnM F2_ a_.Queues),Hq c0,Hq c0,Hq c0,Ha (lnM F2_ b_.Queues),Hq c0,Hq c0])
  rcases zS hf0 with ⟨c1,hf0⟩ | ⟨c1,hf0⟩
  ·obtain rfl := zl hf0
   exact yE X0 hC hE (Z1 ++ [Hq c1])
  ·refine yJ X0 hC XL [1,1] [] [] (fun z : Unit => Xs = some r0) (fun z => Jl) [(2,.own (.box (wm a_))),(3,.own (.box (wm b_)))] (Z1 ++ [Hq c1,Hh (.cut 0)]) ?_ fun J1 hJ1 => ?_
   ·rintro ⟨⟩ hf0
    unfold Xs at hf0
    obtain rfl := zl hf0
    exact yE X0 hC hE []
   ·obtain ⟨t2,ht2,hf0⟩ := zo hf0
    refine yL X0 hC XL [1,1,2,1,0] [J1] (fun s => kq a_ b_ s) (fun x => Jk a_ b_ x) 0 ht2  [] ?_
    rintro i_ m2 lr1 hf1 hl1 J2 hJ2
    try unfold kq at hf1
    let Z2 : List HO := [Ha (lnM F2_ a_.Queues)]
    rcases zS hf1 with ⟨c2,hf1⟩ | ⟨c2,hf1⟩
    ·obtain ⟨Queue_e,h1,hf1⟩ := zo hf1
     obtain ⟨Queue_e1,h2,hf1⟩ := zo hf1
     obtain ⟨r_1,h3,hf1⟩ := zo hf1
     let Z3 : List HO := (Z2 ++ [Hq c2,Hi F2_ h1,Hi F2_ h2,Hc h0n (x := (Queue_e,Queue_e1)) h3 (loC F2_ Queue_e <| loC F2_ Queue_e1 <| loN)])
     rcases zS hf1 with ⟨c3,hf1⟩ | ⟨c3,hf1⟩
     ·obtain rfl := zl hf1
      obtain rfl := hl1
      obtain rfl := zl hf0
      exact yE X0 hC hE (Z3 ++ [Hq c3])
     ·obtain rfl := zl hf1
      exact yB X0 hC hJ2 (w64 (i_ + 1)) hl1 (Z3 ++ [Hq c3])
    ·obtain rfl := zl hf1
     obtain rfl := hl1
     exact yB X0 hC hJ1 () hf0 (Z2 ++ [Hq c2])
def xX : Code := (Tryz.f10.body).getD .skip
def YD : xi := spF (α := z8 × Int) (ρ := List z7 × List (List z6)) 10 (fun x => [x6 x.1,(eI .i64) x.2]) (fun r => .tup [zaM r.1,z91 r.2]) (fun x => ZQ x.1 x.2) [] (UV)
abbrev Qm (list : List z7) (steps : List (List z6)) : List (Nat × T) := [(6,.own (eOs 2 false wm list)),(7,.own (eOs 1 false KY steps))]
abbrev Ql (x_ : z8) (most : Int) (list1 : List z7) (n_ : Int) (list2 : List z7) (steps2 : List (List z6)) : List (Nat × T) := [(1,.d (I most)),(2,.own (.box (x6 x_))),(6,.own (eOs 2 false wm list2)),(7,.own (eOs 1 false KY steps2)),(8,.d (I n_)),(22,.d (I ((list1.length : Nat) : Int))),(23,.d (I most)),(24,.d (B (decide (((list1.length : Nat) : Int) ≤ most))))]
abbrev Qk (x_ : z8) (most : Int) (list1 : List z7) (steps1 : List (List z6)) (n_ : Int) (list3 : List z7) (l_ : List z6) : List (Nat × T) := [(1,.d (I most)),(2,.own (.box (x6 x_))),(6,.own (eOs 2 false wm list3)),(7,.own (eOs 1 false KY steps1)),(8,.d (I n_)),(9,.own (eOs 5 false qB l_)),(22,.d (I ((list1.length : Nat) : Int))),(23,.d (I most)),(24,.d (B (decide (((list1.length : Nat) : Int) ≤ most))))]
abbrev Qj (x_ : z8) (most : Int) (list1 : List z7) (steps1 : List (List z6)) (n_ : Int) (r_1 : List zg) (i_ : Int) (list5 : List z7) (l_2 : List z6) : List (Nat × T) := [(1,.d (I most)),(2,.own (.box (x6 x_))),(6,.own (eOs 2 false wm list5)),(7,.own (eOs 1 false KY steps1)),(8,.d (I n_)),(9,.own (eOs 5 false qB l_2)),(10,.own (eOs 6 false k7 r_1)),(11,.d (I i_)),(22,.d (I ((list1.length : Nat) : Int))),(23,.d (I most)),(24,.d (B (decide (((list1.length : Nat) : Int) ≤ most))))]
abbrev Qh (x_ : z8) (most : Int) (list1 : List z7) (steps1 : List (List z6)) (n_ : Int) (r_1 : List zg) (l_1 : List z6) (i_ : Int) (k_ : Int) (list6 : List z7) : List (Nat × T) := [(1,.d (I most)),(2,.own (.box (x6 x_))),(6,.own (eOs 2 false wm list6)),(7,.own (eOs 1 false KY steps1)),(8,.d (I n_)),(9,.own (eOs 5 false qB l_1)),(10,.own (eOs 6 false k7 r_1)),(11,.d (I i_)),(12,.d (I k_)),(22,.d (I ((list1.length : Nat) : Int))),(23,.d (I most)),(24,.d (B (decide (((list1.length : Nat) : Int) ≤ most))))]
abbrev Qi (x_ : z8) (most : Int) (list1 : List z7) (steps1 : List (List z6)) (n_ : Int) (r_1 : List zg) (list4 : List z7) (l_1 : List z6) (i_ : Int) (k_ : Int) : List (Nat × T) := [(1,.d (I most)),(2,.own (.box (x6 x_))),(6,.own (eOs 2 false wm list4)),(7,.own (eOs 1 false KY steps1)),(8,.d (I n_)),(9,.own (eOs 5 false qB l_1)),(10,.own (eOs 6 false k7 r_1)),(11,.d (I i_)),(12,.d (I k_)),(22,.d (I ((list1.length : Nat) : Int))),(23,.d (I most)),(24,.d (B (decide (((list1.length : Nat) : Int) ≤ most))))]
abbrev Qd (x_ : z8) (most : Int) (list1 : List z7) (steps1 : List (List z6)) (n_ : Int) (r_1 : List zg) (list4 : List z7) (l_1 : List z6) (i_ : Int) (k_1 : Int) : List (Nat × T) := [(1,.d (I most)),(2,.own (.box (x6 x_))),(6,.own (eOs 2 false wm list4)),(7,.own (eOs 1 false KY steps1)),(8,.d (I n_)),(9,.own (eOs 5 false qB l_1)),(10,.own (eOs 6 false k7 r_1)),(11,.d (I i_)),(12,.d (I k_1)),(22,.d (I ((list1.length : Nat) : Int))),(23,.d (I most)),(24,.d (B (decide (((list1.length : Nat) : Int) ≤ most))))]
abbrev Qe (x_ : z8) (most : Int) (list1 : List z7) (steps1 : List (List z6)) (n_ : Int) (r_1 : List zg) (list4 : List z7) (l_1 : List z6) (i_ : Int) : List (Nat × T) := [(1,.d (I most)),(2,.own (.box (x6 x_))),(6,.own (eOs 2 false wm list4)),(7,.own (eOs 1 false KY steps1)),(8,.d (I n_)),(9,.own (eOs 5 false qB l_1)),(10,.own (eOs 6 false k7 r_1)),(11,.d (I i_)),(22,.d (I ((list1.length : Nat) : Int))),(23,.d (I most)),(24,.d (B (decide (((list1.length : Nat) : Int) ≤ most))))]
abbrev Qg (x_ : z8) (most : Int) (list1 : List z7) (steps1 : List (List z6)) (n_ : Int) : List (Nat × T) := [(1,.d (I most)),(2,.own (.box (x6 x_))),(6,.own (eOs 2 false wm list1)),(7,.own (eOs 1 false KY steps1)),(8,.d (I n_))]
theorem z0x {ctr : Ctr} (hC : zZ Tryz.prog ctr) (h0B : ctr.Has YE) (h0C : ctr.Has YC) (h0a : ctr.Has kl) : YD.Ok Tryz.prog := by
 refine yc ?_
 rintro ⟨x_,most⟩ r0 hf0
 try unfold ZQ at hf0
 refine yO false [(4,none),(5,none)] xX 87 Tryz.func10 fun E hE => ?_
 obtain ⟨r_,h0,hf0⟩ := zo hf0
 refine yJ X0 hC xX [1,1,1] [] [6,7] (fun z : List z7 × List (List z6) => YK z.1 z.2 = some r0) (fun z => Qm z.1 z.2) [(1,.d (I most)),(2,.own (.box (x6 x_))),(6,.own (eOs 2 true z1g ([r_]))),(7,.own (eOs 1 true qR []))] [Hc h0B (x := x_) h0 (loC x6 x_ <| loN),Hh (.cut 1)] ?_ fun J1 hJ1 => ?_
 ·rintro ⟨list,steps⟩ hf0
  unfold YK at hf0
  obtain rfl := zl hf0
  exact yE X0 hC hE [Hm (shM wm wm list),Hm (shM KY qR steps)]
 ·obtain ⟨t2,ht2,hf0⟩ := zo hf0
  refine yLx X0 hC xX [1,1,1,2,1,0] [J1] (fun s => ji x_ most s.1 s.2.1 s.2.2) (fun x => Qg x_ most x.1 x.2.1 x.2.2) (([r_] : List z7),([] : List (List z6)),0) ht2 [(1,.d (I most)),(2,.own (.box (x6 x_))),(6,.own (eOs 2 true z1g ([r_]))),(7,.own (eOs 1 true KY [])),(8,.d (I 0))] inferInstance [] ?_
  rintro ⟨list1,steps1,n_⟩ m2 lr1 hf1 hl1 J2 hJ2
  try unfold ji at hf1
  let Z0 : List HO := [Ha (lnM wm list1)]
  rcases zS hf1 with ⟨c0,hf1⟩ | ⟨c0,hf1⟩
  ·let Z1 : List HO := (Z0 ++ [Hq c0,Hq c0,Ha (lnM wm list1),Hq c0,Hq c0,Hq c0])
   rcases zS hf1 with ⟨c1,hf1⟩ | ⟨c1,hf1⟩
   ·refine yJ X0 hC xX [1,1,1,2,1,0,0,1] [J1,J2] [1,2,6,7,8,22,23,24] (fun z : List z7 × List (List z6) => kQ n_ z.1 z.2 = some lr1) (fun z => Ql x_ most list1 n_ z.1 z.2) [(1,.d (I most)),(2,.own (.box (x6 x_))),(6,.own (eOs 2 false wm list1)),(7,.own (eOs 1 false KY steps1)),(8,.d (I n_)),(21,.als 6 [] 0 0),(22,.d (I ((list1.length : Nat) : Int))),(23,.d (I most)),(24,.d (B (decide (((list1.length : Nat) : Int) ≤ most))))] (Z1 ++ [Hq c1,Hh (.cut 0)]) ?_ fun J3 hJ3 => ?_
    ·rintro ⟨list2,steps2⟩ hf1
     unfold kQ at hf1
     obtain rfl := zl hf1
     exact yB X0 hC hJ2 (list2,steps2,w64 (n_ + 1)) hl1 []
    ·obtain ⟨list_e,h1,hf1⟩ := zo hf1
     obtain ⟨r_1,h2,hf1⟩ := zo hf1
     refine yJ X0 hC xX [1,1,1,2,1,0,0,1,2,0,1,1] [J1,J2,J3] [1,2,6,7,8,9,22,23,24] (fun z : List z7 × List z6 => kP steps1 n_ z.1 z.2 = some lr1) (fun z => Qk x_ most list1 steps1 n_ z.1 z.2) [(1,.d (I most)),(2,.own (.box (x6 x_))),(6,.own (eOs 2 false wm list1)),(7,.own (eOs 1 false KY steps1)),(8,.d (I n_)),(9,.own (eOs 5 true qB [])),(10,.own (eOs 6 false k7 r_1)),(21,.als 6 [] 0 0),(22,.d (I ((list1.length : Nat) : Int))),(23,.d (I most)),(24,.d (B (decide (((list1.length : Nat) : Int) ≤ most))))] [Hn (iL wm h1),Hs (iM wm h1),Hc h0C (x := (x_,list_e)) h2 (loC x6 x_ <| loC wm list_e <| loN),Hh (.cut 0)] ?_ fun J4 hJ4 => ?_
     ·rintro ⟨list3,l_⟩ hf1
      unfold kP at hf1
      obtain ⟨g0,hf1⟩ := gdE hf1
      exact yB X0 hC hJ3 (list3,(steps1 ++ ([l_] : List (List z6)))) hf1 [Hq (oC KY l_ []),Hn (aL KY KY g0),Hl (aM KY steps1 ([l_] : List (List z6)))]
     ·obtain ⟨t5,ht5,hf1⟩ := zo hf1
      refine yLx X0 hC xX [1,1,1,2,1,0,0,1,2,0,1,1,2,1,0] [J1,J2,J3,J4] (fun s => qg r_1 s.1 s.2.1 s.2.2) (fun x => Qe x_ most list1 steps1 n_ r_1 x.1 x.2.1 x.2.2) (list1,([] : List z6),0) ht5 [(1,.d (I most)),(2,.own (.box (x6 x_))),(6,.own (eOs 2 false wm list1)),(7,.own (eOs 1 false KY steps1)),(8,.d (I n_)),(9,.own (eOs 5 true qB [])),(10,.own (eOs 6 false k7 r_1)),(11,.d (I 0)),(22,.d (I ((list1.length : Nat) : Int))),(23,.d (I most)),(24,.d (B (decide (((list1.length : Nat) : Int) ≤ most))))] inferInstance [] ?_
      rintro ⟨list4,l_1,i_⟩ m5 lr2 hf2 hl2 J5 hJ5
      try unfold qg at hf2
      let Z2 : List HO := [Ha (lnM k7 r_1)]
      rcases zS hf2 with ⟨c2,hf2⟩ | ⟨c2,hf2⟩
      ·refine yJ X0 hC xX [1,1,1,2,1,0,0,1,2,0,1,1,2,1,0,0,1] [J1,J2,J3,J4,J5] [1,2,6,7,8,9,10,11,22,23,24] (fun z : List z7 × List z6 => kO i_ z.1 z.2 = some lr2) (fun z => Qj x_ most list1 steps1 n_ r_1 i_ z.1 z.2) [(1,.d (I most)),(2,.own (.box (x6 x_))),(6,.own (eOs 2 false wm list4)),(7,.own (eOs 1 false KY steps1)),(8,.d (I n_)),(9,.own (eOs 5 false qB l_1)),(10,.own (eOs 6 false k7 r_1)),(11,.d (I i_)),(22,.d (I ((list1.length : Nat) : Int))),(23,.d (I most)),(24,.d (B (decide (((list1.length : Nat) : Int) ≤ most))))] (Z2 ++ [Hq c2,Hh (.cut 0)]) ?_ fun J6 hJ6 => ?_
       ·rintro ⟨list5,l_2⟩ hf2
        unfold kO at hf2
        obtain rfl := zl hf2
        exact yB X0 hC hJ5 (list5,l_2,w64 (i_ + 1)) hl2 []
       ·refine yJ X0 hC xX [1,1,1,2,1,0,0,1,2,0,1,1,2,1,0,0,1,2,0,1] [J1,J2,J3,J4,J5,J6] [1,2,6,7,8,9,10,11,12,22,23,24] (fun z : Int => kN r_1 list4 l_1 i_ z = some lr2) (fun z => Qi x_ most list1 steps1 n_ r_1 list4 l_1 i_ z) [(1,.d (I most)),(2,.own (.box (x6 x_))),(6,.own (eOs 2 false wm list4)),(7,.own (eOs 1 false KY steps1)),(8,.d (I n_)),(9,.own (eOs 5 false qB l_1)),(10,.own (eOs 6 false k7 r_1)),(11,.d (I i_)),(12,.d (I 0)),(22,.d (I ((list1.length : Nat) : Int))),(23,.d (I most)),(24,.d (B (decide (((list1.length : Nat) : Int) ≤ most))))] [Hh (.cut 1)] ?_ fun J7 hJ7 => ?_
        ·rintro k_ hf2
         unfold kN at hf2
         refine yJ X0 hC xX [1,1,1,2,1,0,0,1,2,0,1,1,2,1,0,0,1,2,0,1,1] [J1,J2,J3,J4,J5,J6] [1,2,6,7,8,9,10,11,12,22,23,24] (fun z : List z7 => jj r_1 l_1 i_ k_ z = some lr2) (fun z => Qh x_ most list1 steps1 n_ r_1 l_1 i_ k_ z) [(1,.d (I most)),(2,.own (.box (x6 x_))),(6,.own (eOs 2 false wm list4)),(7,.own (eOs 1 false KY steps1)),(8,.d (I n_)),(9,.own (eOs 5 false qB l_1)),(10,.own (eOs 6 false k7 r_1)),(11,.d (I i_)),(12,.d (I k_)),(22,.d (I ((list1.length : Nat) : Int))),(23,.d (I most)),(24,.d (B (decide (((list1.length : Nat) : Int) ≤ most))))] [Hh (.cut 0)] ?_ fun J8 hJ8 => ?_
         ·rintro list6 hf2
          unfold jj at hf2
          obtain ⟨r__e,h3,hf2⟩ := zo hf2
          obtain ⟨g1,hf2⟩ := gdE hf2
          exact yB X0 hC hJ6 (list6,(l_1 ++ ([(z6.mk r__e.Move k_)] : List z6))) hf2 [Hn (iL k7 h3),Hs (iM k7 h3),Hs (iM k7 h3),Hq (dM qB ([(z6.mk r__e.Move k_)] : List z6)),Hn (dM qB ([(z6.mk r__e.Move k_)] : List z6)),Hn (aL qB qB g1),Hl (aM qB l_1 ([(z6.mk r__e.Move k_)] : List z6))]
         ·let Z3 : List HO := [Ha (lnM wm list4)]
          rcases zS hf2 with ⟨c3,hf2⟩ | ⟨c3,hf2⟩
          ·obtain ⟨r__e1,h4,hf2⟩ := zo hf2
           obtain ⟨g2,hf2⟩ := gdE hf2
           exact yB X0 hC hJ8 (list4 ++ ([r__e1.To] : List z7)) hf2 (Z3 ++ [Hq c3,Hn (iL k7 h4),Hs (iM k7 h4),Hs (iM k7 h4),Hq (dM wm ([r__e1.To] : List z7)),Hn (dM wm ([r__e1.To] : List z7)),Hn (aL wm wm g2),Hl (aM wm list4 ([r__e1.To] : List z7))])
          ·exact yB X0 hC hJ8 list4 hf2 (Z3 ++ [Hq c3])
        ·obtain ⟨t9,ht9,hf2⟩ := zo hf2
         refine yL X0 hC xX [1,1,1,2,1,0,0,1,2,0,1,1,2,1,0,0,1,2,0,1,2,0] [J1,J2,J3,J4,J5,J6,J7] (fun s => qe r_1 list4 i_ s) (fun x => Qd x_ most list1 steps1 n_ r_1 list4 l_1 i_ x) 0 ht9  [] ?_
         rintro k_1 m9 lr3 hf3 hl3 J9 hJ9
         try unfold qe at hf3
         let Z4 : List HO := [Ha (lnM wm list4)]
         rcases zS hf3 with ⟨c4,hf3⟩ | ⟨c4,hf3⟩
         ·obtain ⟨list_e1,h5,hf3⟩ := zo hf3
          obtain ⟨r__e2,h6,hf3⟩ := zo hf3
          obtain ⟨r_2,h7,hf3⟩ := zo hf3
          let Z5 : List HO := (Z4 ++ [Hq c4,Hq c4,Hq c4,Hn (iL wm h5),Hq c4,Hs (iM wm h5),Hq c4,Hq c4,Hq c4,Hn (iL k7 h6),Hq c4,Hs (iM k7 h6),Hq c4,Hs (iM k7 h6),Hq c4,Hc h0a (x := (list_e1,r__e2.To)) h7 (loC wm list_e1 <| loC wm r__e2.To <| loN),Hq c4,Hq c4])
          rcases zS hf3 with ⟨c5,hf3⟩ | ⟨c5,hf3⟩
          ·obtain rfl := zl hf3
           exact yB X0 hC hJ9 (w64 (k_1 + 1)) hl3 (Z5 ++ [Hq c5])
          ·obtain rfl := zl hf3
           obtain rfl := hl3
           exact yB X0 hC hJ7 k_1 hf2 (Z5 ++ [Hq c5])
         ·obtain rfl := zl hf3
          obtain rfl := hl3
          exact yB X0 hC hJ7 k_1 hf2 (Z4 ++ (rpN 12 (Hq c4) [qF]))
      ·obtain rfl := zl hf2
       obtain rfl := hl2
       exact yB X0 hC hJ4 (list4,l_1) hf1 (Z2 ++ [Hq c2])
   ·obtain rfl := zl hf1
    obtain rfl := hl1
    exact yB X0 hC hJ1 (list1,steps1) hf0 (Z1 ++ [Hq c1])
  ·obtain rfl := zl hf1
   obtain rfl := hl1
   exact yB X0 hC hJ1 (list1,steps1) hf0 (Z0 ++ (rpN 5 (Hq c0) [qF]))
def Um : Code := (Tryz.f87.body).getD .skip
def vu : xi := spF (α := Int) (ρ := Bool) 87 (fun x => [(eI .i64) x]) (fun r => eB r) (fun x => kc x) [] (Ja)
theorem UD {ctr : Ctr} (hC : zZ Tryz.prog ctr) : vu.Ok Tryz.prog := by
 refine yc ?_
 rintro n_ r0 hf0
 try unfold kc at hf0
 refine yO true [(2,none)] Um 5 Tryz.func87 fun E hE => ?_
 obtain rfl := zl hf0
 exact yE X0 hC hE []
def wv : Code := (Tryz.f90.body).getD .skip
def u2 : xi := spF (α := List Int × Unit) (ρ := Int) 90 (fun x => [F2_ x.1,(KU 87) x.2]) (fun r => (eI .i64) r) (fun x => xU x.1 x.2) [] (by
 rintro ⟨a0,a1⟩ ⟨b0,b1⟩ h
 have e0 := wY.inj (f := F2_) _ _ (List.cons.inj h).1
 replace h := (List.cons.inj h).2
 have e1 := wY.inj (f := (KU 87)) _ _ (List.cons.inj h).1
 subst e0 e1
 rfl)
abbrev jZ : List (Nat × T) := []
abbrev jY (s_ : List Int) (x8 : Int) : List (Nat × T) := [(0,.d (eSl 1 false (eI .i64) s_)),(1,.d (.fn 87 [])),(7,.d (I ((s_.length : Nat) : Int))),(8,.d (I x8))]
theorem kT {ctr : Ctr} (hC : zZ Tryz.prog ctr) (h06 : ctr.Has vu) : u2.Ok Tryz.prog := by
 refine yc ?_
 rintro ⟨s_,f_⟩ r0 hf0
 try unfold xU at hf0
 refine yO true [(4,none)] wv 19 Tryz.func90 fun E hE => ?_
 refine yJ X0 hC wv [1] [] [] (fun z : Unit => ws = some r0) (fun z => jZ) [(0,.d (eSl 1 false (eI .i64) s_)),(1,.d (.fn 87 []))] [Hh (.cut 1)] ?_ fun J1 hJ1 => ?_
 ·rintro ⟨⟩ hf0
  unfold ws at hf0
  obtain rfl := zl hf0
  exact yE X0 hC hE []
 ·obtain ⟨t2,ht2,hf0⟩ := zo hf0
  refine yL X0 hC wv [1,2,1,0] [J1] (fun s => yR s_ s) (fun x => jY s_ x) 0 ht2  [Ha (lnM (eI .i64) s_)] ?_
  rintro x8 m2 lr1 hf1 hl1 J2 hJ2
  try unfold yR at hf1
  rcases zS hf1 with ⟨c0,hf1⟩ | ⟨c0,hf1⟩
  ·obtain ⟨s__e,h0,hf1⟩ := zo hf1
   obtain ⟨r_,h1,hf1⟩ := zo hf1
   let Z0 : List HO := [Hq c0,Hi (eI .i64) h0,Hc h06 (x := s__e) h1 (loC (eI .i64) s__e <| loN)]
   rcases zS hf1 with ⟨c1,hf1⟩ | ⟨c1,hf1⟩
   ·obtain rfl := zl hf1
    obtain rfl := hl1
    obtain rfl := zl hf0
    exact yE X0 hC hE (Z0 ++ [Hq c1])
   ·obtain rfl := zl hf1
    exact yB X0 hC hJ2 (w64 (x8 + 1)) hl1 (Z0 ++ [Hq c1])
  ·obtain rfl := zl hf1
   obtain rfl := hl1
   exact yB X0 hC hJ1 () hf0 [Hq c0]
def jU : Code := (Tryz.f62.body).getD .skip
def vb : xi := spF (α := List Int × Unit) (ρ := Bool) 62 (fun x => [F2_ x.1,(KU 87) x.2]) (fun r => eB r) (fun x => yT x.1 x.2) [] (by
 rintro ⟨a0,a1⟩ ⟨b0,b1⟩ h
 have e0 := wY.inj (f := F2_) _ _ (List.cons.inj h).1
 replace h := (List.cons.inj h).2
 have e1 := wY.inj (f := (KU 87)) _ _ (List.cons.inj h).1
 subst e0 e1
 rfl)
theorem vo {ctr : Ctr} (hC : zZ Tryz.prog ctr) (h06 : ctr.Has vu) : vb.Ok Tryz.prog := by
 refine yc ?_
 rintro ⟨s_,f_⟩ r0 hf0
 try unfold yT at hf0
 refine yO true [(4,none)] jU 9 Tryz.func62 fun E hE => ?_
 obtain ⟨r_,h0,hf0⟩ := zo hf0
 obtain rfl := zl hf0
 exact yE ((z2L y5 (kT hC h06) 7).or X0) hC hE [Hc (Ctr.add_has Ky u2) (x := (s_,())) h0 (loC F2_ s_ <| loC (KU 87) () <| loN)]
def Ul : Code := (Tryz.f89.body).getD .skip
def ki : xi := spF (α := zh) (ρ := Bool) 89 (fun x => [ve x]) (fun r => eB r) (fun x => ka x) [] (Ja)
theorem UC {ctr : Ctr} (hC : zZ Tryz.prog ctr) : ki.Ok Tryz.prog := by
 refine yc ?_
 rintro p_ r0 hf0
 try unfold ka at hf0
 refine yO true [(2,none)] Ul 12 Tryz.func89 fun E hE => ?_
 rcases zS hf0 with ⟨c0,hf0⟩ | ⟨c0,hf0⟩
 ·obtain rfl := zl hf0
  exact yE X0 hC hE (rpN 5 (Hq c0) [])
 ·obtain rfl := zl hf0
  exact yE X0 hC hE [Hq c0,Hq c0,Hq c0,Ha (lnM vN p_.Arcs),Hq c0,Hq c0]
def yW : Code := (Tryz.f107.body).getD .skip
def yN : xi := spF (α := List zh × Unit) (ρ := Int) 107 (fun x => [z8Z x.1,(KU 89) x.2]) (fun r => (eI .i64) r) (fun x => ym x.1 x.2) [] (by
 rintro ⟨a0,a1⟩ ⟨b0,b1⟩ h
 have e0 := wY.inj (f := z8Z) _ _ (List.cons.inj h).1
 replace h := (List.cons.inj h).2
 have e1 := wY.inj (f := (KU 89)) _ _ (List.cons.inj h).1
 subst e0 e1
 rfl)
abbrev vG : List (Nat × T) := []
abbrev vF (s_ : List zh) (x8 : Int) : List (Nat × T) := [(0,.d (eSl 3 false ve s_)),(1,.d (.fn 89 [])),(7,.d (I ((s_.length : Nat) : Int))),(8,.d (I x8))]
theorem ug {ctr : Ctr} (hC : zZ Tryz.prog ctr) (h0D : ctr.Has ki) : yN.Ok Tryz.prog := by
 refine yc ?_
 rintro ⟨s_,f_⟩ r0 hf0
 try unfold ym at hf0
 refine yO true [(4,none)] yW 19 Tryz.func107 fun E hE => ?_
 refine yJ X0 hC yW [1] [] [] (fun z : Unit => yP = some r0) (fun z => vG) [(0,.d (eSl 3 false ve s_)),(1,.d (.fn 89 []))] [Hh (.cut 1)] ?_ fun J1 hJ1 => ?_
 ·rintro ⟨⟩ hf0
  unfold yP at hf0
  obtain rfl := zl hf0
  exact yE X0 hC hE []
 ·obtain ⟨t2,ht2,hf0⟩ := zo hf0
  refine yL X0 hC yW [1,2,1,0] [J1] (fun s => zO s_ s) (fun x => vF s_ x) 0 ht2  [Ha (lnM ve s_)] ?_
  rintro x8 m2 lr1 hf1 hl1 J2 hJ2
  try unfold zO at hf1
  rcases zS hf1 with ⟨c0,hf1⟩ | ⟨c0,hf1⟩
  ·obtain ⟨s__e,h0,hf1⟩ := zo hf1
   obtain ⟨r_,h1,hf1⟩ := zo hf1
   let Z0 : List HO := [Hq c0,Hi ve h0,Hc h0D (x := s__e) h1 (loC ve s__e <| loN)]
   rcases zS hf1 with ⟨c1,hf1⟩ | ⟨c1,hf1⟩
   ·obtain rfl := zl hf1
    obtain rfl := hl1
    obtain rfl := zl hf0
    exact yE X0 hC hE (Z0 ++ [Hq c1])
   ·obtain rfl := zl hf1
    exact yB X0 hC hJ2 (w64 (x8 + 1)) hl1 (Z0 ++ [Hq c1])
  ·obtain rfl := zl hf1
   obtain rfl := hl1
   exact yB X0 hC hJ1 () hf0 [Hq c0]
def vD : Code := (Tryz.f88.body).getD .skip
def yz : xi := spF (α := List zh × Unit) (ρ := Bool) 88 (fun x => [z8Z x.1,(KU 89) x.2]) (fun r => eB r) (fun x => zP x.1 x.2) [] (by
 rintro ⟨a0,a1⟩ ⟨b0,b1⟩ h
 have e0 := wY.inj (f := z8Z) _ _ (List.cons.inj h).1
 replace h := (List.cons.inj h).2
 have e1 := wY.inj (f := (KU 89)) _ _ (List.cons.inj h).1
 subst e0 e1
 rfl)
theorem vH {ctr : Ctr} (hC : zZ Tryz.prog ctr) (h0E : ctr.Has yN) : yz.Ok Tryz.prog := by
 refine yc ?_
 rintro ⟨s_,f_⟩ r0 hf0
 try unfold zP at hf0
 refine yO true [(4,none)] vD 9 Tryz.func88 fun E hE => ?_
 obtain ⟨r_,h0,hf0⟩ := zo hf0
 obtain rfl := zl hf0
 exact yE X0 hC hE [Hc h0E (x := (s_,())) h0 (loC z8Z s_ <| loC (KU 89) () <| loN)]
def Jc : Code := (Tryz.f61.body).getD .skip
def Zi : xi := spF (α := z8) (ρ := Bool) 61 (fun x => [x6 x]) (fun r => eB r) (fun x => ke x) [] (Ja)
theorem JL {ctr : Ctr} (hC : zZ Tryz.prog ctr) (h06 : ctr.Has vu) (h0F : ctr.Has yz) : Zi.Ok Tryz.prog := by
 refine yc ?_
 rintro x_ r0 hf0
 try unfold ke at hf0
 refine yO true [(2,none)] Jc 31 Tryz.func61 fun E hE => ?_
 rcases zS hf0 with ⟨c0,hf0⟩ | ⟨c0,hf0⟩
 ·obtain rfl := zl hf0
  exact yE X0 hC hE (rpN 4 (Hq c0) (rpN 11 qT []))
 ·let Z0 : List HO := (rpN 4 (Hq c0) [])
  rcases zS hf0 with ⟨c1,hf0⟩ | ⟨c1,hf0⟩
  ·obtain rfl := zl hf0
   exact yE X0 hC hE (Z0 ++ (rpN 5 (Hq c1) (rpN 6 qT [])))
  ·let Z1 : List HO := (Z0 ++ [Hq c1,Hq c1,Hq c1,Ha (lnM (eI .i64) x_.Channels),Hq c1,Hq c1])
   rcases zS hf0 with ⟨c2,hf0⟩ | ⟨c2,hf0⟩
   ·obtain rfl := zl hf0
    exact yE X0 hC hE (Z1 ++ (rpN 5 (Hq c2) [qT]))
   ·let Z2 : List HO := (Z1 ++ [Hq c2,Hq c2,Hq c2,Ha (lnM ve x_.Parts),Hq c2,Hq c2])
    rcases zS hf0 with ⟨c3,hf0⟩ | ⟨c3,hf0⟩
    ·obtain rfl := zl hf0
     exact yE X0 hC hE (Z2 ++ [Hq c3])
    ·obtain ⟨r_,h0,hf0⟩ := zo hf0
     let Z3 : List HO := (Z2 ++ [Hq c3,Hc (Ctr.add_has Ky vb) (x := (x_.Channels,())) h0 (loC F2_ x_.Channels <| loC (KU 87) () <| loN)])
     rcases zS hf0 with ⟨c4,hf0⟩ | ⟨c4,hf0⟩
     ·obtain rfl := zl hf0
      exact yE ((z2L y5 (vo hC h06) 25).or X0) hC hE (Z3 ++ (rpN 4 (Hq c4) []))
     ·obtain ⟨r_1,h1,hf0⟩ := zo hf0
      obtain rfl := zl hf0
      exact yE ((z2L y5 (vo hC h06) 25).or X0) hC hE (Z3 ++ [Hq c4,Hq c4,Hq c4,Hc h0F (x := (x_.Parts,())) h1 (loC z8Z x_.Parts <| loC (KU 89) () <| loN),Hq c4])
def Uo : Code := (Tryz.f63.body).getD .skip
def vw : xi := spF (α := Int) (ρ := Bool) 63 (fun x => [(eI .i64) x]) (fun r => eB r) (fun x => kh x) [] (Ja)
theorem UG {ctr : Ctr} (hC : zZ Tryz.prog ctr) : vw.Ok Tryz.prog := by
 refine yc ?_
 rintro n_ r0 hf0
 try unfold kh at hf0
 refine yO true [(2,none)] Uo 5 Tryz.func63 fun E hE => ?_
 obtain rfl := zl hf0
 exact yE X0 hC hE []
def wu : Code := (Tryz.f90.body).getD .skip
def u0 : xi := spF (α := List Int × Unit) (ρ := Int) 90 (fun x => [F2_ x.1,(KU 63) x.2]) (fun r => (eI .i64) r) (fun x => xT x.1 x.2) [] (by
 rintro ⟨a0,a1⟩ ⟨b0,b1⟩ h
 have e0 := wY.inj (f := F2_) _ _ (List.cons.inj h).1
 replace h := (List.cons.inj h).2
 have e1 := wY.inj (f := (KU 63)) _ _ (List.cons.inj h).1
 subst e0 e1
 rfl)
abbrev jX : List (Nat × T) := []
abbrev jW (s_ : List Int) (x8 : Int) : List (Nat × T) := [(0,.d (eSl 1 false (eI .i64) s_)),(1,.d (.fn 63 [])),(7,.d (I ((s_.length : Nat) : Int))),(8,.d (I x8))]
theorem kS {ctr : Ctr} (hC : zZ Tryz.prog ctr) (h07 : ctr.Has vw) : u0.Ok Tryz.prog := by
 refine yc ?_
 rintro ⟨s_,f_⟩ r0 hf0
 try unfold xT at hf0
 refine yO true [(4,none)] wu 19 Tryz.func90 fun E hE => ?_
 refine yJ X0 hC wu [1] [] [] (fun z : Unit => wr = some r0) (fun z => jX) [(0,.d (eSl 1 false (eI .i64) s_)),(1,.d (.fn 63 []))] [Hh (.cut 1)] ?_ fun J1 hJ1 => ?_
 ·rintro ⟨⟩ hf0
  unfold wr at hf0
  obtain rfl := zl hf0
  exact yE X0 hC hE []
 ·obtain ⟨t2,ht2,hf0⟩ := zo hf0
  refine yL X0 hC wu [1,2,1,0] [J1] (fun s => yQ s_ s) (fun x => jW s_ x) 0 ht2  [Ha (lnM (eI .i64) s_)] ?_
  rintro x8 m2 lr1 hf1 hl1 J2 hJ2
  try unfold yQ at hf1
  rcases zS hf1 with ⟨c0,hf1⟩ | ⟨c0,hf1⟩
  ·obtain ⟨s__e,h0,hf1⟩ := zo hf1
   obtain ⟨r_,h1,hf1⟩ := zo hf1
   let Z0 : List HO := [Hq c0,Hi (eI .i64) h0,Hc h07 (x := s__e) h1 (loC (eI .i64) s__e <| loN)]
   rcases zS hf1 with ⟨c1,hf1⟩ | ⟨c1,hf1⟩
   ·obtain rfl := zl hf1
    obtain rfl := hl1
    obtain rfl := zl hf0
    exact yE X0 hC hE (Z0 ++ [Hq c1])
   ·obtain rfl := zl hf1
    exact yB X0 hC hJ2 (w64 (x8 + 1)) hl1 (Z0 ++ [Hq c1])
  ·obtain rfl := zl hf1
   obtain rfl := hl1
   exact yB X0 hC hJ1 () hf0 [Hq c0]
def jT : Code := (Tryz.f62.body).getD .skip
def va : xi := spF (α := List Int × Unit) (ρ := Bool) 62 (fun x => [F2_ x.1,(KU 63) x.2]) (fun r => eB r) (fun x => yS x.1 x.2) [] (by
 rintro ⟨a0,a1⟩ ⟨b0,b1⟩ h
 have e0 := wY.inj (f := F2_) _ _ (List.cons.inj h).1
 replace h := (List.cons.inj h).2
 have e1 := wY.inj (f := (KU 63)) _ _ (List.cons.inj h).1
 subst e0 e1
 rfl)
theorem vn {ctr : Ctr} (hC : zZ Tryz.prog ctr) (h07 : ctr.Has vw) : va.Ok Tryz.prog := by
 refine yc ?_
 rintro ⟨s_,f_⟩ r0 hf0
 try unfold yS at hf0
 refine yO true [(4,none)] jT 9 Tryz.func62 fun E hE => ?_
 obtain ⟨r_,h0,hf0⟩ := zo hf0
 obtain rfl := zl hf0
 exact yE ((z2L y5 (kS hC h07) 7).or X0) hC hE [Hc (Ctr.add_has Ky u0) (x := (s_,())) h0 (loC F2_ s_ <| loC (KU 63) () <| loN)]
def z15 : Code := (Tryz.f67.body).getD .skip
def Zu : xi := spF (α := Int × Int) (ρ := Bool) 67 (fun x => [(eI .i64) x.1,(eI .i64) x.2]) (fun r => eB r) (fun x => uZ x.1 x.2) [] (UV)
theorem z1l {ctr : Ctr} (hC : zZ Tryz.prog ctr) : Zu.Ok Tryz.prog := by
 refine yc ?_
 rintro ⟨n_,many⟩ r0 hf0
 try unfold uZ at hf0
 refine yO true [(4,none)] z15 12 Tryz.func67 fun E hE => ?_
 rcases zS hf0 with ⟨c0,hf0⟩ | ⟨c0,hf0⟩
 ·obtain rfl := zl hf0
  exact yE X0 hC hE (rpN 4 (Hq c0) [])
 ·obtain rfl := zl hf0
  exact yE X0 hC hE (rpN 4 (Hq c0) [])
def j5 : Code := (Tryz.f46.body).getD .skip
def qV : xi := spF (α := List Int × Int) (ρ := Bool) 46 (fun x => [F2_ x.1,(eI .i64) x.2]) (fun r => eB r) (fun x => wV x.1 x.2) [] (UV)
abbrev V0 : List (Nat × T) := []
abbrev WZ (l_ : List Int) (many : Int) (x9 : Int) (x29 : Bool) : List (Nat × T) := [(0,.d (eSl 1 false (eI .i64) l_)),(1,.d (I many)),(7,.d (eSl 1 false (eI .i64) l_)),(8,.d (I ((l_.length : Nat) : Int))),(9,.d (I x9)),(19,.d (I x9)),(20,.d (B (decide (x9 > 0)))),(21,.d (B (decide (x9 > 0)))),(29,.d (B x29))]
abbrev WY (l_ : List Int) (many : Int) (x9 : Int) : List (Nat × T) := [(0,.d (eSl 1 false (eI .i64) l_)),(1,.d (I many)),(7,.d (eSl 1 false (eI .i64) l_)),(8,.d (I ((l_.length : Nat) : Int))),(9,.d (I x9))]
theorem QW {ctr : Ctr} (hC : zZ Tryz.prog ctr) (h04 : ctr.Has Zu) : qV.Ok Tryz.prog := by
 refine yc ?_
 rintro ⟨l_,many⟩ r0 hf0
 try unfold wV at hf0
 refine yO true [(4,none)] j5 32 Tryz.func46 fun E hE => ?_
 refine yJ X0 hC j5 [1] [] [] (fun z : Unit => kF = some r0) (fun z => V0) [(0,.d (eSl 1 false (eI .i64) l_)),(1,.d (I many))] [Hh (.cut 1)] ?_ fun J1 hJ1 => ?_
 ·rintro ⟨⟩ hf0
  unfold kF at hf0
  obtain rfl := zl hf0
  exact yE X0 hC hE []
 ·obtain ⟨t2,ht2,hf0⟩ := zo hf0
  refine yL X0 hC j5 [1,2,1,0] [J1] (fun s => wp l_ many s) (fun x => WY l_ many x) 0 ht2  [Ha (lnM (eI .i64) l_)] ?_
  rintro x9 m2 lr1 hf1 hl1 J2 hJ2
  try unfold wp at hf1
  rcases zS hf1 with ⟨c0,hf1⟩ | ⟨c0,hf1⟩
  ·refine yJ X0 hC j5 [1,2,1,0,0,1,1] [J1,J2] [0,1,7,8,9,19,20,21,29] (fun z : Bool => vY x9 z = some lr1) (fun z => WZ l_ many x9 z) [(0,.d (eSl 1 false (eI .i64) l_)),(1,.d (I many)),(7,.d (eSl 1 false (eI .i64) l_)),(8,.d (I ((l_.length : Nat) : Int))),(9,.d (I x9))] [Hq c0,Hh (.cut 0)] ?_ fun J3 hJ3 => ?_
   ·rintro x29 hf1
    unfold vY at hf1
    obtain rfl := zl hf1
    exact yB X0 hC hJ2 (w64 (x9 + 1)) hl1 []
   ·obtain ⟨l__e,h0,hf1⟩ := zo hf1
    obtain ⟨r_,h1,hf1⟩ := zo hf1
    let Z0 : List HO := [Hi (eI .i64) h0,Hc h04 (x := (l__e,many)) h1 (loC (eI .i64) l__e <| loC (eI .i64) many <| loN)]
    rcases zS hf1 with ⟨c1,hf1⟩ | ⟨c1,hf1⟩
    ·obtain rfl := zl hf1
     obtain rfl := hl1
     obtain rfl := zl hf0
     exact yE X0 hC hE (Z0 ++ (rpN 5 (Hq c1) [qT]))
    ·rcases zS hf1 with ⟨c2,hf1⟩ | ⟨c2,hf1⟩
     ·obtain ⟨l__e1,h2,hf1⟩ := zo hf1
      let Z1 : List HO := (Z0 ++ (Hq c1 :: Hq c1 :: Hq c1 :: (rpN 5 (Hq c2) [Hi (eI .i64) h2,Hq c2,Hq c2,Hq c1,Hq c2,Hq c1])))
      rcases zS hf1 with ⟨c3,hf1⟩ | ⟨c3,hf1⟩
      ·obtain rfl := zl hf1
       obtain rfl := hl1
       obtain rfl := zl hf0
       exact yE X0 hC hE (Z1 ++ [Hq c3])
      ·exact yB X0 hC hJ3 (decide (l__e ≤ l__e1)) hf1 (Z1 ++ [Hq c3])
     ·exact yB X0 hC hJ3 false hf1 (Z0 ++ (Hq c1 :: Hq c1 :: Hq c1 :: (rpN 7 (Hq c2) [Hq c1,Hq c2,Hq c1,qF])))
  ·obtain rfl := zl hf1
   obtain rfl := hl1
   exact yB X0 hC hJ1 () hf0 [Hq c0]
def XI : Code := (Tryz.f66.body).getD .skip
def uu : xi := spF (α := z8 × zh × zf) (ρ := Bool) 66 (fun x => [x6 x.1,ve x.2.1,vN x.2.2]) (fun r => eB r) (fun x => wR x.1 x.2.1 x.2.2) [] (zc4)
theorem XT {ctr : Ctr} (hC : zZ Tryz.prog ctr) (h04 : ctr.Has Zu) : uu.Ok Tryz.prog := by
 refine yc ?_
 rintro ⟨x_,p_,a_⟩ r0 hf0
 try unfold wR at hf0
 refine yO true [(6,none)] XI 52 Tryz.func66 fun E hE => ?_
 obtain ⟨r_,h0,hf0⟩ := zo hf0
 let Z0 : List HO := [Hc h04 (x := (a_.From,p_.States)) h0 (loC (eI .i64) a_.From <| loC (eI .i64) p_.States <| loN)]
 rcases zS hf0 with ⟨c0,hf0⟩ | ⟨c0,hf0⟩
 ·obtain rfl := zl hf0
  exact yE X0 hC hE (Z0 ++ (rpN 7 (Hq c0) (rpN 5 qT [])))
 ·obtain ⟨r_1,h1,hf0⟩ := zo hf0
  let Z1 : List HO := (Z0 ++ (rpN 5 (Hq c0) [Hc h04 (x := (a_.To,p_.States)) h1 (loC (eI .i64) a_.To <| loC (eI .i64) p_.States <| loN),Hq c0,Hq c0]))
  rcases zS hf0 with ⟨c1,hf0⟩ | ⟨c1,hf0⟩
  ·obtain rfl := zl hf0
   exact yE X0 hC hE (Z1 ++ (rpN 4 (Hq c1) [qT]))
  ·let Z2 : List HO := (Z1 ++ (rpN 4 (Hq c1) []))
   rcases zS hf0 with ⟨c2,hf0⟩ | ⟨c2,hf0⟩
   ·obtain rfl := zl hf0
    exact yE X0 hC hE (Z2 ++ [Hq c2])
   ·rcases zS hf0 with ⟨c3,hf0⟩ | ⟨c3,hf0⟩
    ·rcases zS hf0 with ⟨c4,hf0⟩ | ⟨c4,hf0⟩
     ·obtain ⟨r_2,h2,hf0⟩ := zo hf0
      obtain rfl := zl hf0
      exact yE X0 hC hE (Z2 ++ (Hq c2 :: Hq c3 :: (rpN 5 (Hq c4) [Hc h04 (x := (a_.Message,x_.Labels)) h2 (loC (eI .i64) a_.Message <| loC (eI .i64) x_.Labels <| loN),Hq c4])))
     ·obtain rfl := zl hf0
      exact yE X0 hC hE (Z2 ++ (Hq c2 :: Hq c3 :: (rpN 6 (Hq c4) [])))
    ·obtain ⟨r_3,h3,hf0⟩ := zo hf0
     let Z3 : List HO := (Z2 ++ [Hq c2,Hq c3,Ha (lnM (eI .i64) x_.Channels),Hc h04 (x := (a_.Channel,((x_.Channels.length : Nat) : Int))) h3 (loC (eI .i64) a_.Channel <| loC (eI .i64) ((x_.Channels.length : Nat) : Int) <| loN)])
     rcases zS hf0 with ⟨c5,hf0⟩ | ⟨c5,hf0⟩
     ·obtain ⟨r_4,h4,hf0⟩ := zo hf0
      obtain rfl := zl hf0
      exact yE X0 hC hE (Z3 ++ (rpN 5 (Hq c5) [Hc h04 (x := (a_.Message,x_.Messages)) h4 (loC (eI .i64) a_.Message <| loC (eI .i64) x_.Messages <| loN),Hq c5]))
     ·obtain rfl := zl hf0
      exact yE X0 hC hE (Z3 ++ (rpN 6 (Hq c5) []))
def Un : Code := (Tryz.f65.body).getD .skip
def kj : xi := spF (α := zf × z8 × zh) (ρ := Bool) 65 (fun x => [vN x.1,z6D x.2.1,z90 x.2.2]) (fun r => eB r) (fun x => kg x.1 x.2.1 x.2.2) [] (zc4)
theorem UF {ctr : Ctr} (hC : zZ Tryz.prog ctr) (h0G : ctr.Has uu) : kj.Ok Tryz.prog := by
 refine yc ?_
 rintro ⟨a_,x1,x2⟩ r0 hf0
 try unfold kg at hf0
 refine yO true [(4,none)] Un 10 Tryz.func65 fun E hE => ?_
 obtain ⟨r_,h0,hf0⟩ := zo hf0
 obtain rfl := zl hf0
 exact yE X0 hC hE [Hc h0G (x := (x1,x2,a_)) h0 (loC x6 x1 <| loC ve x2 <| loC vN a_ <| loN)]
def xg : Code := (Tryz.f91.body).getD .skip
def xa : xi := spF (α := List zf × (z8 × zh)) (ρ := Int) 91 (fun x => [zaN x.1,(z4F 65 z6D z90) x.2]) (fun r => (eI .i64) r) (fun x => yu x.1 x.2) [] (by
 rintro ⟨a0,a1⟩ ⟨b0,b1⟩ h
 have e0 := wY.inj (f := zaN) _ _ (List.cons.inj h).1
 replace h := (List.cons.inj h).2
 have e1 := wY.inj (f := (z4F 65 z6D z90)) _ _ (List.cons.inj h).1
 subst e0 e1
 rfl)
abbrev vR : List (Nat × T) := []
abbrev vQ (s_ : List zf) (f_ : z8 × zh) (x8 : Int) : List (Nat × T) := [(0,.d (eSl 5 false vN s_)),(1,.d (.fn 65 [.sptr (.agg [I f_.1.Messages,I f_.1.Labels,eSl 1 false (eI .i64) f_.1.Channels,eSl 3 false ve f_.1.Parts]),.sptr (.agg [I f_.2.States,eSl 5 false vN f_.2.Arcs,eSl 1 false (eI .i64) f_.2.Final])])),(7,.d (I ((s_.length : Nat) : Int))),(8,.d (I x8))]
theorem uO {ctr : Ctr} (hC : zZ Tryz.prog ctr) (h0H : ctr.Has kj) : xa.Ok Tryz.prog := by
 refine yc ?_
 rintro ⟨s_,f_⟩ r0 hf0
 try unfold yu at hf0
 refine yO true [(4,none)] xg 19 Tryz.func91 fun E hE => ?_
 refine yJ X0 hC xg [1] [] [] (fun z : Unit => xe = some r0) (fun z => vR) [(0,.d (eSl 5 false vN s_)),(1,.d (.fn 65 [.sptr (.agg [I f_.1.Messages,I f_.1.Labels,eSl 1 false (eI .i64) f_.1.Channels,eSl 3 false ve f_.1.Parts]),.sptr (.agg [I f_.2.States,eSl 5 false vN f_.2.Arcs,eSl 1 false (eI .i64) f_.2.Final])]))] [Hh (.cut 1)] ?_ fun J1 hJ1 => ?_
 ·rintro ⟨⟩ hf0
  unfold xe at hf0
  obtain rfl := zl hf0
  exact yE X0 hC hE []
 ·obtain ⟨t2,ht2,hf0⟩ := zo hf0
  refine yL X0 hC xg [1,2,1,0] [J1] (fun s => zT s_ f_ s) (fun x => vQ s_ f_ x) 0 ht2  [Ha (lnM vN s_)] ?_
  rintro x8 m2 lr1 hf1 hl1 J2 hJ2
  try unfold zT at hf1
  rcases zS hf1 with ⟨c0,hf1⟩ | ⟨c0,hf1⟩
  ·obtain ⟨s__e,h0,hf1⟩ := zo hf1
   obtain ⟨r_,h1,hf1⟩ := zo hf1
   let Z0 : List HO := [Hq c0,Hi vN h0,Hc h0H (x := (s__e,f_.1,f_.2)) h1 (loC vN s__e <| loC z6D f_.1 <| loC z90 f_.2 <| loN)]
   rcases zS hf1 with ⟨c1,hf1⟩ | ⟨c1,hf1⟩
   ·obtain rfl := zl hf1
    obtain rfl := hl1
    obtain rfl := zl hf0
    exact yE X0 hC hE (Z0 ++ [Hq c1])
   ·obtain rfl := zl hf1
    exact yB X0 hC hJ2 (w64 (x8 + 1)) hl1 (Z0 ++ [Hq c1])
  ·obtain rfl := zl hf1
   obtain rfl := hl1
   exact yB X0 hC hJ1 () hf0 [Hq c0]
def vO : Code := (Tryz.f64.body).getD .skip
def yK : xi := spF (α := List zf × (z8 × zh)) (ρ := Bool) 64 (fun x => [zaN x.1,(z4F 65 z6D z90) x.2]) (fun r => eB r) (fun x => zU x.1 x.2) [] (by
 rintro ⟨a0,a1⟩ ⟨b0,b1⟩ h
 have e0 := wY.inj (f := zaN) _ _ (List.cons.inj h).1
 replace h := (List.cons.inj h).2
 have e1 := wY.inj (f := (z4F 65 z6D z90)) _ _ (List.cons.inj h).1
 subst e0 e1
 rfl)
theorem vX {ctr : Ctr} (hC : zZ Tryz.prog ctr) (h0I : ctr.Has xa) : yK.Ok Tryz.prog := by
 refine yc ?_
 rintro ⟨s_,f_⟩ r0 hf0
 try unfold zU at hf0
 refine yO true [(4,none)] vO 9 Tryz.func64 fun E hE => ?_
 obtain ⟨r_,h0,hf0⟩ := zo hf0
 obtain rfl := zl hf0
 exact yE X0 hC hE [Hc h0I (x := (s_,(f_.1,f_.2))) h0 (loC zaN s_ <| loC (z4F 65 z6D z90) (f_.1,f_.2) <| loN)]
def Zo : Code := (Tryz.f28.body).getD .skip
def uQ : xi := spF (α := z8) (ρ := Int) 28 (fun x => [x6 x]) (fun r => (eI .i64) r) (fun x => ut x) [] (Ja)
abbrev VG : List (Nat × T) := []
abbrev VF (x_ : z8) (x29 : Int) : List (Nat × T) := [(1,.d (.sptr (x6 x_))),(27,.d (eSl 3 false ve x_.Parts)),(28,.d (I ((x_.Parts.length : Nat) : Int))),(29,.d (I x29))]
theorem JN {ctr : Ctr} (hC : zZ Tryz.prog ctr) (h0J : ctr.Has Zi) (h07 : ctr.Has vw) (h0h : ctr.Has qV) (h0K : ctr.Has yK) : uQ.Ok Tryz.prog := by
 refine yc ?_
 rintro x_ r0 hf0
 try unfold ut at hf0
 refine yO true [(2,none)] Zo 51 Tryz.func28 fun E hE => ?_
 obtain ⟨r_,h0,hf0⟩ := zo hf0
 let Z0 : List HO := [Hc h0J (x := x_) h0 (loC x6 x_ <| loN)]
 rcases zS hf0 with ⟨c0,hf0⟩ | ⟨c0,hf0⟩
 ·obtain rfl := zl hf0
  exact yE X0 hC hE (Z0 ++ [Hq c0])
 ·rcases zS hf0 with ⟨c1,hf0⟩ | ⟨c1,hf0⟩
  ·obtain rfl := zl hf0
   exact yE X0 hC hE (Z0 ++ (Hq c0 :: (rpN 4 (Hq c1) (rpN 10 qT []))))
  ·let Z1 : List HO := (Z0 ++ (Hq c0 :: (rpN 4 (Hq c1) [])))
   rcases zS hf0 with ⟨c2,hf0⟩ | ⟨c2,hf0⟩
   ·obtain rfl := zl hf0
    exact yE X0 hC hE (Z1 ++ (rpN 5 (Hq c2) (rpN 5 qT [])))
   ·let Z2 : List HO := (Z1 ++ [Hq c2,Hq c2,Hq c2,Ha (lnM ve x_.Parts),Hq c2,Hq c2])
    rcases zS hf0 with ⟨c3,hf0⟩ | ⟨c3,hf0⟩
    ·obtain rfl := zl hf0
     exact yE X0 hC hE (Z2 ++ (rpN 4 (Hq c3) [qT]))
    ·obtain ⟨r_1,h1,hf0⟩ := zo hf0
     let Z3 : List HO := (Z2 ++ [Hq c3,Hq c3,Hq c3,Hc (Ctr.add_has Ky va) (x := (x_.Channels,())) h1 (loC F2_ x_.Channels <| loC (KU 63) () <| loN),Hq c3])
     rcases zS hf0 with ⟨c4,hf0⟩ | ⟨c4,hf0⟩
     ·obtain rfl := zl hf0
      exact yE ((z2L y5 (vn hC h07) 24).or X0) hC hE (Z3 ++ [Hq c4])
     ·refine yJ ((z2L y5 (vn hC h07) 24).or X0) hC Zo [1,1,1] [] [] (fun z : Unit => Zh = some r0) (fun z => VG) [(1,.own (.box (x6 x_)))] (Z3 ++ [Hq c4,Hh (.cut 0)]) ?_ fun J1 hJ1 => ?_
      ·rintro ⟨⟩ hf0
       unfold Zh at hf0
       obtain rfl := zl hf0
       exact yE X0 hC hE []
      ·obtain ⟨t2,ht2,hf0⟩ := zo hf0
       refine yL X0 hC Zo [1,1,1,2,1,0] [J1] (fun s => uP x_ s) (fun x => VF x_ x) 0 ht2  [Ha (lnM ve x_.Parts),Hh (.n 1 [1])] ?_
       rintro x29 m2 lr1 hf1 hl1 J2 hJ2
       try unfold uP at hf1
       rcases zS hf1 with ⟨c5,hf1⟩ | ⟨c5,hf1⟩
       ·obtain ⟨Part_e,h2,hf1⟩ := zo hf1
        let Z4 : List HO := [Hq c5,Hi ve h2]
        rcases zS hf1 with ⟨c6,hf1⟩ | ⟨c6,hf1⟩
        ·obtain rfl := zl hf1
         obtain rfl := hl1
         obtain rfl := zl hf0
         exact yE X0 hC hE (Z4 ++ (rpN 7 (Hq c6) (rpN 6 qT [])))
        ·obtain ⟨r_2,h3,hf1⟩ := zo hf1
         let Z5 : List HO := (Z4 ++ (rpN 5 (Hq c6) [Hc h0h (x := (Part_e.Final,Part_e.States)) h3 (loC F2_ Part_e.Final <| loC (eI .i64) Part_e.States <| loN),Hq c6,Hq c6]))
         rcases zS hf1 with ⟨c7,hf1⟩ | ⟨c7,hf1⟩
         ·obtain rfl := zl hf1
          obtain rfl := hl1
          obtain rfl := zl hf0
          exact yE X0 hC hE (Z5 ++ (rpN 5 (Hq c7) [qT]))
         ·obtain ⟨r_3,h4,hf1⟩ := zo hf1
          let Z6 : List HO := (Z5 ++ (rpN 4 (Hq c7) [Hc h0K (x := (Part_e.Arcs,(x_,Part_e))) h4 (loC zaN Part_e.Arcs <| loC (z4F 65 z6D z90) (x_,Part_e) <| loN),Hq c7]))
          rcases zS hf1 with ⟨c8,hf1⟩ | ⟨c8,hf1⟩
          ·obtain rfl := zl hf1
           obtain rfl := hl1
           obtain rfl := zl hf0
           exact yE X0 hC hE (Z6 ++ [Hq c8])
          ·obtain rfl := zl hf1
           exact yB X0 hC hJ2 (w64 (x29 + 1)) hl1 (Z6 ++ [Hq c8])
       ·obtain rfl := zl hf1
        obtain rfl := hl1
        exact yB X0 hC hJ1 () hf0 [Hq c5]
def XJ : Code := (Tryz.f57.body).getD .skip
def uw : xi := spF (α := z8 × zb) (ρ := z8 × zb) 57 (fun x => [x6 x.1,xh x.2]) (fun r => (z4F 82 z6D (eSp xh)) r) (fun x => vS x.1 x.2) [] (UV)
theorem XV {ctr : Ctr} (hC : zZ Tryz.prog ctr) : uw.Ok Tryz.prog := by
 refine yc ?_
 rintro ⟨x_,s_⟩ r0 hf0
 try unfold vS at hf0
 refine yO true [(4,none)] XJ 6 Tryz.func57 fun E hE => ?_
 obtain rfl := zl hf0
 exact yEx X0 hC hE [] (.fn 82 [.sptr (.agg [I x_.Messages,I x_.Labels,eSl 1 false (eI .i64) x_.Channels,eSl 3 false ve x_.Parts]),.sptr (.agg [.agg [I s_.states_.e0,I s_.states_.e1,I s_.states_.e2,I s_.states_.e3],.agg [.agg [I s_.queues_.e0.many_,.agg [I s_.queues_.e0.l_.e0,I s_.queues_.e0.l_.e1,I s_.queues_.e0.l_.e2,I s_.queues_.e0.l_.e3]],.agg [I s_.queues_.e1.many_,.agg [I s_.queues_.e1.l_.e0,I s_.queues_.e1.l_.e1,I s_.queues_.e1.l_.e2,I s_.queues_.e1.l_.e3]],.agg [I s_.queues_.e2.many_,.agg [I s_.queues_.e2.l_.e0,I s_.queues_.e2.l_.e1,I s_.queues_.e2.l_.e2,I s_.queues_.e2.l_.e3]],.agg [I s_.queues_.e3.many_,.agg [I s_.queues_.e3.l_.e0,I s_.queues_.e3.l_.e1,I s_.queues_.e3.l_.e2,I s_.queues_.e3.l_.e3]]]])]) (show LeV (.fn 82 [.sptr (.agg [I x_.Messages,I x_.Labels,eSl 1 false (eI .i64) x_.Channels,eSl 3 false ve x_.Parts]),.sptr (.agg [.agg [I s_.states_.e0,I s_.states_.e1,I s_.states_.e2,I s_.states_.e3],.agg [.agg [I s_.queues_.e0.many_,.agg [I s_.queues_.e0.l_.e0,I s_.queues_.e0.l_.e1,I s_.queues_.e0.l_.e2,I s_.queues_.e0.l_.e3]],.agg [I s_.queues_.e1.many_,.agg [I s_.queues_.e1.l_.e0,I s_.queues_.e1.l_.e1,I s_.queues_.e1.l_.e2,I s_.queues_.e1.l_.e3]],.agg [I s_.queues_.e2.many_,.agg [I s_.queues_.e2.l_.e0,I s_.queues_.e2.l_.e1,I s_.queues_.e2.l_.e2,I s_.queues_.e2.l_.e3]],.agg [I s_.queues_.e3.many_,.agg [I s_.queues_.e3.l_.e0,I s_.queues_.e3.l_.e1,I s_.queues_.e3.l_.e2,I s_.queues_.e3.l_.e3]]]])]) (.fn 82 [.sptr (.agg [I (((x_,s_).1).Messages),I (((x_,s_).1).Labels),eSl 1 false (eI .i64) (((x_,s_).1).Channels),eSl 3 false ve (((x_,s_).1).Parts)]),.sptr (.agg [.agg [I ((((x_,s_).2).states_).e0),I ((((x_,s_).2).states_).e1),I ((((x_,s_).2).states_).e2),I ((((x_,s_).2).states_).e3)],.agg [.agg [I (((((x_,s_).2).queues_).e0).many_),.agg [I ((((((x_,s_).2).queues_).e0).l_).e0),I ((((((x_,s_).2).queues_).e0).l_).e1),I ((((((x_,s_).2).queues_).e0).l_).e2),I ((((((x_,s_).2).queues_).e0).l_).e3)]],.agg [I (((((x_,s_).2).queues_).e1).many_),.agg [I ((((((x_,s_).2).queues_).e1).l_).e0),I ((((((x_,s_).2).queues_).e1).l_).e1),I ((((((x_,s_).2).queues_).e1).l_).e2),I ((((((x_,s_).2).queues_).e1).l_).e3)]],.agg [I (((((x_,s_).2).queues_).e2).many_),.agg [I ((((((x_,s_).2).queues_).e2).l_).e0),I ((((((x_,s_).2).queues_).e2).l_).e1),I ((((((x_,s_).2).queues_).e2).l_).e2),I ((((((x_,s_).2).queues_).e2).l_).e3)]],.agg [I (((((x_,s_).2).queues_).e3).many_),.agg [I ((((((x_,s_).2).queues_).e3).l_).e0),I ((((((x_,s_).2).queues_).e3).l_).e1),I ((((((x_,s_).2).queues_).e3).l_).e2),I ((((((x_,s_).2).queues_).e3).l_).e3)]]]])]) from inferInstance)
def W2 : Code := (Tryz.f83.body).getD .skip
def v8 : xi := spF (α := z8 × zb × Int) (ρ := z8 × Int × zb) 83 (fun x => [x6 x.1,xh x.2.1,(eI .i64) x.2.2]) (fun r => (zhA 103 z6D (eSp (eI .i64)) (eSp xh)) r) (fun x => wq x.1 x.2.1 x.2.2) [] (zc4)
theorem Wf {ctr : Ctr} (hC : zZ Tryz.prog ctr) : v8.Ok Tryz.prog := by
 refine yc ?_
 rintro ⟨x_,s_,part⟩ r0 hf0
 try unfold wq at hf0
 refine yO true [(6,none)] W2 8 Tryz.func83 fun E hE => ?_
 obtain rfl := zl hf0
 exact yEx X0 hC hE [] (.fn 103 [.sptr (.agg [I x_.Messages,I x_.Labels,eSl 1 false (eI .i64) x_.Channels,eSl 3 false ve x_.Parts]),.sptr (I part),.sptr (.agg [.agg [I s_.states_.e0,I s_.states_.e1,I s_.states_.e2,I s_.states_.e3],.agg [.agg [I s_.queues_.e0.many_,.agg [I s_.queues_.e0.l_.e0,I s_.queues_.e0.l_.e1,I s_.queues_.e0.l_.e2,I s_.queues_.e0.l_.e3]],.agg [I s_.queues_.e1.many_,.agg [I s_.queues_.e1.l_.e0,I s_.queues_.e1.l_.e1,I s_.queues_.e1.l_.e2,I s_.queues_.e1.l_.e3]],.agg [I s_.queues_.e2.many_,.agg [I s_.queues_.e2.l_.e0,I s_.queues_.e2.l_.e1,I s_.queues_.e2.l_.e2,I s_.queues_.e2.l_.e3]],.agg [I s_.queues_.e3.many_,.agg [I s_.queues_.e3.l_.e0,I s_.queues_.e3.l_.e1,I s_.queues_.e3.l_.e2,I s_.queues_.e3.l_.e3]]]])]) (show LeV (.fn 103 [.sptr (.agg [I x_.Messages,I x_.Labels,eSl 1 false (eI .i64) x_.Channels,eSl 3 false ve x_.Parts]),.sptr (I part),.sptr (.agg [.agg [I s_.states_.e0,I s_.states_.e1,I s_.states_.e2,I s_.states_.e3],.agg [.agg [I s_.queues_.e0.many_,.agg [I s_.queues_.e0.l_.e0,I s_.queues_.e0.l_.e1,I s_.queues_.e0.l_.e2,I s_.queues_.e0.l_.e3]],.agg [I s_.queues_.e1.many_,.agg [I s_.queues_.e1.l_.e0,I s_.queues_.e1.l_.e1,I s_.queues_.e1.l_.e2,I s_.queues_.e1.l_.e3]],.agg [I s_.queues_.e2.many_,.agg [I s_.queues_.e2.l_.e0,I s_.queues_.e2.l_.e1,I s_.queues_.e2.l_.e2,I s_.queues_.e2.l_.e3]],.agg [I s_.queues_.e3.many_,.agg [I s_.queues_.e3.l_.e0,I s_.queues_.e3.l_.e1,I s_.queues_.e3.l_.e2,I s_.queues_.e3.l_.e3]]]])]) (.fn 103 [.sptr (.agg [I (((x_,part,s_).1).Messages),I (((x_,part,s_).1).Labels),eSl 1 false (eI .i64) (((x_,part,s_).1).Channels),eSl 3 false ve (((x_,part,s_).1).Parts)]),.sptr (I ((x_,part,s_).2.1)),.sptr (.agg [.agg [I ((((x_,part,s_).2.2).states_).e0),I ((((x_,part,s_).2.2).states_).e1),I ((((x_,part,s_).2.2).states_).e2),I ((((x_,part,s_).2.2).states_).e3)],.agg [.agg [I (((((x_,part,s_).2.2).queues_).e0).many_),.agg [I ((((((x_,part,s_).2.2).queues_).e0).l_).e0),I ((((((x_,part,s_).2.2).queues_).e0).l_).e1),I ((((((x_,part,s_).2.2).queues_).e0).l_).e2),I ((((((x_,part,s_).2.2).queues_).e0).l_).e3)]],.agg [I (((((x_,part,s_).2.2).queues_).e1).many_),.agg [I ((((((x_,part,s_).2.2).queues_).e1).l_).e0),I ((((((x_,part,s_).2.2).queues_).e1).l_).e1),I ((((((x_,part,s_).2.2).queues_).e1).l_).e2),I ((((((x_,part,s_).2.2).queues_).e1).l_).e3)]],.agg [I (((((x_,part,s_).2.2).queues_).e2).many_),.agg [I ((((((x_,part,s_).2.2).queues_).e2).l_).e0),I ((((((x_,part,s_).2.2).queues_).e2).l_).e1),I ((((((x_,part,s_).2.2).queues_).e2).l_).e2),I ((((((x_,part,s_).2.2).queues_).e2).l_).e3)]],.agg [I (((((x_,part,s_).2.2).queues_).e3).many_),.agg [I ((((((x_,part,s_).2.2).queues_).e3).l_).e0),I ((((((x_,part,s_).2.2).queues_).e3).l_).e1),I ((((((x_,part,s_).2.2).queues_).e3).l_).e2),I ((((((x_,part,s_).2.2).queues_).e3).l_).e3)]]]])]) from inferInstance)
def ud : Code := (Tryz.f103.body).getD .skip
abbrev Y6 {σ : Type} (x1 : Int) (x2 : zb) (YY : σ → z1j) (Part_e : zh) (x14 : Int) (sg2 : σ) : List (Nat × T) := [(0,.own (.opq (YY sg2).q)),(2,.d (.sptr (I x1))),(3,.d (.sptr (xh x2))),(12,.d (eSl 5 false vN Part_e.Arcs)),(13,.d (I ((Part_e.Arcs.length : Nat) : Int))),(14,.d (I x14))]
abbrev Y5 {σ : Type} (x1 : Int) (x2 : zb) (YY : σ → z1j) (Part_e : zh) (sg1 : σ) (x14 : Int) : List (Nat × T) := [(0,.own (.opq (YY sg1).q)),(2,.d (.sptr (I x1))),(3,.d (.sptr (xh x2))),(12,.d (eSl 5 false vN Part_e.Arcs)),(13,.d (I ((Part_e.Arcs.length : Nat) : Int))),(14,.d (I x14))]
theorem k8 {ctr : Ctr} (hC : zZ Tryz.prog ctr) (x0 : z8) (x1 : Int) (x2 : zb) : z6t Tryz.prog (.fn 103 [.sptr (.agg [I x0.Messages,I x0.Labels,eSl 1 false (eI .i64) x0.Channels,eSl 3 false ve x0.Parts]),.sptr (I x1),.sptr (.agg [.agg [I x2.states_.e0,I x2.states_.e1,I x2.states_.e2,I x2.states_.e3],.agg [.agg [I x2.queues_.e0.many_,.agg [I x2.queues_.e0.l_.e0,I x2.queues_.e0.l_.e1,I x2.queues_.e0.l_.e2,I x2.queues_.e0.l_.e3]],.agg [I x2.queues_.e1.many_,.agg [I x2.queues_.e1.l_.e0,I x2.queues_.e1.l_.e1,I x2.queues_.e1.l_.e2,I x2.queues_.e1.l_.e3]],.agg [I x2.queues_.e2.many_,.agg [I x2.queues_.e2.l_.e0,I x2.queues_.e2.l_.e1,I x2.queues_.e2.l_.e2,I x2.queues_.e2.l_.e3]],.agg [I x2.queues_.e3.many_,.agg [I x2.queues_.e3.l_.e0,I x2.queues_.e3.l_.e1,I x2.queues_.e3.l_.e2,I x2.queues_.e3.l_.e3]]]])]) (fun (x : Int × zf) (_ : Bool) (_ : Value) => [(eI .i64) x.1,vN x.2]) (@yx x0 x1 x2) := by
 refine z5I (tt := wl) (nt := 34) (body := ud) y5 Tryz.func103 rfl (by kernel_rfl) rfl rfl (by show (4 : Nat) ≤ 34; decide) ?_
 intro σ yv YY yy hy sg r0 hf0 E hE
 unfold yx at hf0
 obtain ⟨Part_e,h0,hf0⟩ := zo hf0
 obtain ⟨t1,ht1,hf0⟩ := zo hf0
 refine yL X0 hC ud [1,0] [] (fun s => xP x1 x2 yy Part_e s.1 s.2) (fun x => Y5 x1 x2 YY Part_e x.1 x.2) (sg,0) ht1  [Hi ve h0,Ha (lnM vN Part_e.Arcs)] ?_
 rintro ⟨sg1,x14⟩ m1 lr1 hf1 hl1 J1 hJ1
 try unfold xP at hf1
 rcases zS hf1 with ⟨c0,hf1⟩ | ⟨c0,hf1⟩
 ·refine yJ X0 hC ud [1,0,0,1,1] [J1] [0,2,3,12,13,14] (fun z : σ => wI x14 z = some lr1) (fun z => Y6 x1 x2 YY Part_e x14 z) [(0,.own (.opq (YY sg1).q)),(2,.d (.sptr (I x1))),(3,.d (.sptr (xh x2))),(12,.d (eSl 5 false vN Part_e.Arcs)),(13,.d (I ((Part_e.Arcs.length : Nat) : Int))),(14,.d (I x14))] [Hq c0,Hh (.cut 0)] ?_ fun J2 hJ2 => ?_
  ·rintro sg2 hf1
   unfold wI at hf1
   obtain rfl := zl hf1
   exact yB X0 hC hJ1 (sg2,w64 (x14 + 1)) hl1 []
  ·obtain ⟨Arc_e,h1,hf1⟩ := zo hf1
   obtain ⟨cell,h2,hf1⟩ := zo hf1
   let Z0 : List HO := [Hi vN h1,Hs (iM (eI .i64) h2),Hn (arJ (by kernel_rfl) (i0 h2) : Xe wl 110 ((ya.toL x2.states_).map (eI .i64)) x1 = true)]
   rcases zS hf1 with ⟨c1,hf1⟩ | ⟨c1,hf1⟩
   ·obtain ⟨yr,h3,hf1⟩ := zo hf1
    let Z1 : List HO := (Z0 ++ (rpN 4 (Hq c1) [Hn (z2Q (yv := yv) (Y := YY) (enc := (fun (x : Int × zf) (_ : Bool) (_ : Value) => [(eI .i64) x.1,vN x.2])) (s := sg1) (x := (x14,Arc_e)) (s' := yr.1) (b := yr.2) (v := .nilFunc) [(eI .i64) x14,vN Arc_e] (show z1f [(eI .i64) x14,vN Arc_e] [(eI .i64) x14,vN Arc_e] from inferInstance)),Hq c1,Hq c1]))
    rcases zS hf1 with ⟨c2,hf1⟩ | ⟨c2,hf1⟩
    ·obtain rfl := zl hf1
     obtain rfl := hl1
     obtain rfl := zl hf0
     exact yF ((z02 (P := Tryz.prog) wl hy 30 (s := sg1) (x := (x14,Arc_e)) (s' := yr.1) (b := yr.2) .nilFunc h3).or X0) hC .ret [(0,.own (.opq (YY yr.1).q))] (Z1 ++ [Hq c2]) fun st0 h0 => hE _ st0 (.inr rfl) h0
    ·exact yB ((z02 (P := Tryz.prog) wl hy 30 (s := sg1) (x := (x14,Arc_e)) (s' := yr.1) (b := yr.2) .nilFunc h3).or X0) hC hJ2 yr.1 hf1 (Z1 ++ [Hq c2])
   ·exact yB X0 hC hJ2 sg1 hf1 (Z0 ++ (rpN 6 (Hq c1) [qF]))
 ·obtain rfl := zl hf1
  obtain rfl := hl1
  obtain rfl := zl hf0
  exact yF X0 hC .normal [(0,.own (.opq (YY sg1).q))] [Hq c0] fun st0 h0 => hE _ st0 (.inl rfl) h0
def WV : Code := (Tryz.f86.body).getD .skip
def ja : xi := spF (α := zi × Int) (ρ := zi) 86 (fun x => [F9_ x.1,(eI .i64) x.2]) (fun r => F9_ r) (fun x => qU x.1 x.2) [] (UV)
theorem Vg {ctr : Ctr} (hC : zZ Tryz.prog ctr) : ja.Ok Tryz.prog := by
 refine yc ?_
 rintro ⟨q_,m_⟩ r0 hf0
 try unfold qU at hf0
 refine yO false [(4,some 112)] WV 15 Tryz.func86 fun E hE => ?_
 obtain ⟨cell,h0,hf0⟩ := zo hf0
 obtain ⟨arr,h1,hf0⟩ := zo hf0
 replace h1 := zl h1
 obtain rfl := zl hf0
 exact yE X0 hC hE [Hn (⟨arJ (by kernel_rfl) (i0 h0),(iL (eI .i64) h0).2⟩ : Xe wl 110 ((ya.toL q_.l_).map (eI .i64)) q_.many_ = true ∧ q_.many_.toNat < ((ya.toL q_.l_).map (eI .i64)).length),Hh (.op 7),Hh (.f),Hx (.a (.agg [I q_.l_.e0,I q_.l_.e1,I q_.l_.e2,I q_.l_.e3])) (rfl : some (.agg [I q_.l_.e0,I q_.l_.e1,I q_.l_.e2,I q_.l_.e3] : A) = some (.agg [I q_.l_.e0,I q_.l_.e1,I q_.l_.e2,I q_.l_.e3])),Hh (.f),Hs (iM (eI .i64) h0),Hh (.f),Hx (.a (.agg [I q_.l_.e0,I q_.l_.e1,I q_.l_.e2,I q_.l_.e3])) (rfl : some (.agg [I q_.l_.e0,I q_.l_.e1,I q_.l_.e2,I q_.l_.e3] : A) = some (.agg [I q_.l_.e0,I q_.l_.e1,I q_.l_.e2,I q_.l_.e3])),Hh (.f),Hs (iM (eI .i64) h0),Hx (.l ((ya.toL arr).map (eI .i64))) ((ya.setL (eI .i64) q_.l_ q_.many_ m_).trans (congrArg (fun q => (ya.toL q).map (eI .i64)) h1)),Hx (.l [I q_.many_,.agg [I arr.e0,I arr.e1,I arr.e2,I arr.e3]]) (rfl : ([I q_.many_,.agg [I arr.e0,I arr.e1,I arr.e2,I arr.e3]] : List A) = [I q_.many_,.agg [I arr.e0,I arr.e1,I arr.e2,I arr.e3]])]
def Zb : Code := (Tryz.f104.body).getD .skip
def qN : xi := spF (α := zi) (ρ := zi) 104 (fun x => [F9_ x]) (fun r => F9_ r) (fun x => qq x) [] (Ja)
theorem WR {ctr : Ctr} (hC : zZ Tryz.prog ctr) : qN.Ok Tryz.prog := by
 refine yc ?_
 rintro q_ r0 hf0
 try unfold qq at hf0
 refine yO false [(2,some 112)] Zb 15 Tryz.func104 fun E hE => ?_
 refine yA X0 hC Zb [1] [] [(1,.own (.box (F9_ q_))),(2,.own (.box (.agg [I 0,.agg [I 0,I 0,I 0,I 0]])))] [Hh (.cut 1)] ?_
 refine z6h (y := .box (.agg [I q_.many_,.agg [I q_.l_.e0,I q_.l_.e1,I q_.l_.e2,I q_.l_.e3]])) (by kernel_rfl) 1 (by kernel_rfl) (by kernel_rfl) fun pv1 hv1 => ?_
 obtain ⟨arr,h0,hf0⟩ := zo hf0
 replace h0 := zl h0
 obtain rfl := zl hf0
 exact yE ((xCp y5 7 1 1 0 pv1 (some 1)).or ((xAv y5 6 1 1 1 pv1).or ((xAv y5 4 1 1 0 pv1).or X0))) hC hE [Hn (⟨rfl,rfl⟩ : T.ptr 1 [.deref,.fld 1] 0 0 = T.ptr 1 [.deref,.fld 1] 0 0 ∧ some pv1 = some pv1),Hn (⟨rfl,rfl⟩ : T.ptr 1 [.deref,.fld 1] 0 0 = T.ptr 1 [.deref,.fld 1] 0 0 ∧ some pv1 = some pv1),Hn (⟨rfl,by decide⟩ : T.d (.atom (z2C pv1 1 1 4)) = T.d (.atom (z2C pv1 1 1 4)) ∧ 1 ≤ 4),Hn (⟨rfl,rfl⟩ : T.d (.atom (z2C pv1 1 0 4)) = T.d (.atom (z2C pv1 1 0 4)) ∧ some pv1 = some pv1),Hn (dM (eI .i64) ((ya.toL q_.l_).drop 1)),Hx (.l ((ya.toL arr).map (eI .i64))) ((zau (eI .i64) (ya.toL q_.l_) 0 ((ya.toL q_.l_).drop 1)).trans (congrArg (fun q => q.map (eI .i64)) ((ya.toL_ofL (cpA (ya.toL q_.l_) 0 ((ya.toL q_.l_).drop 1)) q_.l_ (zav (ya.toL q_.l_) 0 ((ya.toL q_.l_).drop 1) (by show (0 : Nat) ≤ 4; decide))).symm.trans (congrArg ya.toL h0)))),Hn (⟨rfl,by decide⟩ : true = true ∧ 3 < 4)]
def qp : Code := (Tryz.f84.body).getD .skip
def v7 : xi := spF (α := z8 × zb × Int × zf) (ρ := zb × Bool) 84 (fun x => [x6 x.1,xh x.2.1,(eI .i64) x.2.2.1,vN x.2.2.2]) (fun r => .tup [xh r.1,(eEr 0 201) r.2]) (fun x => xN x.1 x.2.1 x.2.2.1 x.2.2.2) [] (zgu)
abbrev X1 (arr : ya Int) (s_queues : ya zi) : List (Nat × T) := [(5,.own (.box (.agg [F0_ arr,zaO s_queues]))),(8,.own (.box (.agg [.agg [I 0,I 0,I 0,I 0],.agg [.agg [I 0,.agg [I 0,I 0,I 0,I 0]],.agg [I 0,.agg [I 0,I 0,I 0,I 0]],.agg [I 0,.agg [I 0,I 0,I 0,I 0]],.agg [I 0,.agg [I 0,I 0,I 0,I 0]]]])))]
abbrev YZ (s_ : zb) (a_ : zf) (arr : ya Int) (cell1 : zi) (x33 : Bool) : List (Nat × T) := [(5,.own (.box (.agg [F0_ arr,zaO s_.queues_]))),(7,.own (.box (vN a_))),(8,.own (.box (.agg [.agg [I 0,I 0,I 0,I 0],.agg [.agg [I 0,.agg [I 0,I 0,I 0,I 0]],.agg [I 0,.agg [I 0,I 0,I 0,I 0]],.agg [I 0,.agg [I 0,I 0,I 0,I 0]],.agg [I 0,.agg [I 0,I 0,I 0,I 0]]]]))),(10,.own (.box (F9_ cell1))),(33,.d (B x33))]
theorem We {ctr : Ctr} (hC : zZ Tryz.prog ctr) (h0L : ctr.Has ja) (h0M : ctr.Has qN) : v7.Ok Tryz.prog := by
 refine yc ?_
 rintro ⟨x_,s_,part,a_⟩ r0 hf0
 try unfold xN at hf0
 refine yO false [(8,some 115),(9,none)] qp 86 Tryz.func84 fun E hE => ?_
 obtain ⟨cell,h0,hf0⟩ := zo hf0
 obtain ⟨arr,h1,hf0⟩ := zo hf0
 replace h1 := zl h1
 obtain ⟨cell1,h2,hf0⟩ := zo hf0
 refine yJ ((xNe Tryz.prog 9 0 201).or X0) hC qp [1,1,1] [] [5,8] (fun z : ya zi => v6 arr z = some r0) (fun z => X1 arr z) [(4,.own (.box (x6 x_))),(5,.own (.box (.agg [F0_ arr,zaO s_.queues_]))),(7,.own (.box (vN a_))),(8,.own (.box (.agg [.agg [I 0,I 0,I 0,I 0],.agg [.agg [I 0,.agg [I 0,I 0,I 0,I 0]],.agg [I 0,.agg [I 0,I 0,I 0,I 0]],.agg [I 0,.agg [I 0,I 0,I 0,I 0]],.agg [I 0,.agg [I 0,I 0,I 0,I 0]]]]))),(10,.own (.box (F9_ cell1)))] [Hn (⟨arJ (by kernel_rfl) (i0 h0),(iL (eI .i64) h0).2⟩ : Xe wl 110 ((ya.toL s_.states_).map (eI .i64)) part = true ∧ part.toNat < ((ya.toL s_.states_).map (eI .i64)).length),Hh (.op 10),Hh (.f),Hx (.a (.agg [I s_.states_.e0,I s_.states_.e1,I s_.states_.e2,I s_.states_.e3])) (rfl : some (.agg [I s_.states_.e0,I s_.states_.e1,I s_.states_.e2,I s_.states_.e3] : A) = some (.agg [I s_.states_.e0,I s_.states_.e1,I s_.states_.e2,I s_.states_.e3])),Hh (.f),Hs (iM (eI .i64) h0),Hh (.f),Hx (.a (.agg [I s_.states_.e0,I s_.states_.e1,I s_.states_.e2,I s_.states_.e3])) (rfl : some (.agg [I s_.states_.e0,I s_.states_.e1,I s_.states_.e2,I s_.states_.e3] : A) = some (.agg [I s_.states_.e0,I s_.states_.e1,I s_.states_.e2,I s_.states_.e3])),Hh (.f),Hs (iM (eI .i64) h0),Hx (.l ((ya.toL arr).map (eI .i64))) ((ya.setL (eI .i64) s_.states_ part a_.To).trans (congrArg (fun q => (ya.toL q).map (eI .i64)) h1)),Hx (.l [.agg [I arr.e0,I arr.e1,I arr.e2,I arr.e3],.agg [.agg [I s_.queues_.e0.many_,.agg [I s_.queues_.e0.l_.e0,I s_.queues_.e0.l_.e1,I s_.queues_.e0.l_.e2,I s_.queues_.e0.l_.e3]],.agg [I s_.queues_.e1.many_,.agg [I s_.queues_.e1.l_.e0,I s_.queues_.e1.l_.e1,I s_.queues_.e1.l_.e2,I s_.queues_.e1.l_.e3]],.agg [I s_.queues_.e2.many_,.agg [I s_.queues_.e2.l_.e0,I s_.queues_.e2.l_.e1,I s_.queues_.e2.l_.e2,I s_.queues_.e2.l_.e3]],.agg [I s_.queues_.e3.many_,.agg [I s_.queues_.e3.l_.e0,I s_.queues_.e3.l_.e1,I s_.queues_.e3.l_.e2,I s_.queues_.e3.l_.e3]]]]) (rfl : ([.agg [I arr.e0,I arr.e1,I arr.e2,I arr.e3],.agg [.agg [I s_.queues_.e0.many_,.agg [I s_.queues_.e0.l_.e0,I s_.queues_.e0.l_.e1,I s_.queues_.e0.l_.e2,I s_.queues_.e0.l_.e3]],.agg [I s_.queues_.e1.many_,.agg [I s_.queues_.e1.l_.e0,I s_.queues_.e1.l_.e1,I s_.queues_.e1.l_.e2,I s_.queues_.e1.l_.e3]],.agg [I s_.queues_.e2.many_,.agg [I s_.queues_.e2.l_.e0,I s_.queues_.e2.l_.e1,I s_.queues_.e2.l_.e2,I s_.queues_.e2.l_.e3]],.agg [I s_.queues_.e3.many_,.agg [I s_.queues_.e3.l_.e0,I s_.queues_.e3.l_.e1,I s_.queues_.e3.l_.e2,I s_.queues_.e3.l_.e3]]]] : List A) = [.agg [I arr.e0,I arr.e1,I arr.e2,I arr.e3],.agg [.agg [I s_.queues_.e0.many_,.agg [I s_.queues_.e0.l_.e0,I s_.queues_.e0.l_.e1,I s_.queues_.e0.l_.e2,I s_.queues_.e0.l_.e3]],.agg [I s_.queues_.e1.many_,.agg [I s_.queues_.e1.l_.e0,I s_.queues_.e1.l_.e1,I s_.queues_.e1.l_.e2,I s_.queues_.e1.l_.e3]],.agg [I s_.queues_.e2.many_,.agg [I s_.queues_.e2.l_.e0,I s_.queues_.e2.l_.e1,I s_.queues_.e2.l_.e2,I s_.queues_.e2.l_.e3]],.agg [I s_.queues_.e3.many_,.agg [I s_.queues_.e3.l_.e0,I s_.queues_.e3.l_.e1,I s_.queues_.e3.l_.e2,I s_.queues_.e3.l_.e3]]]]),Hn (⟨arJ (by kernel_rfl) (i0 h2),(iL F9_ h2).2⟩ : Xe wl 113 ((ya.toL s_.queues_).map F9_) (mn a_.Channel 3) = true ∧ (mn a_.Channel 3).toNat < ((ya.toL s_.queues_).map F9_).length),Hh (.op 5),Hh (.f),Hx (.a (.agg [.agg [I s_.queues_.e0.many_,.agg [I s_.queues_.e0.l_.e0,I s_.queues_.e0.l_.e1,I s_.queues_.e0.l_.e2,I s_.queues_.e0.l_.e3]],.agg [I s_.queues_.e1.many_,.agg [I s_.queues_.e1.l_.e0,I s_.queues_.e1.l_.e1,I s_.queues_.e1.l_.e2,I s_.queues_.e1.l_.e3]],.agg [I s_.queues_.e2.many_,.agg [I s_.queues_.e2.l_.e0,I s_.queues_.e2.l_.e1,I s_.queues_.e2.l_.e2,I s_.queues_.e2.l_.e3]],.agg [I s_.queues_.e3.many_,.agg [I s_.queues_.e3.l_.e0,I s_.queues_.e3.l_.e1,I s_.queues_.e3.l_.e2,I s_.queues_.e3.l_.e3]]])) (rfl : some (.agg [.agg [I s_.queues_.e0.many_,.agg [I s_.queues_.e0.l_.e0,I s_.queues_.e0.l_.e1,I s_.queues_.e0.l_.e2,I s_.queues_.e0.l_.e3]],.agg [I s_.queues_.e1.many_,.agg [I s_.queues_.e1.l_.e0,I s_.queues_.e1.l_.e1,I s_.queues_.e1.l_.e2,I s_.queues_.e1.l_.e3]],.agg [I s_.queues_.e2.many_,.agg [I s_.queues_.e2.l_.e0,I s_.queues_.e2.l_.e1,I s_.queues_.e2.l_.e2,I s_.queues_.e2.l_.e3]],.agg [I s_.queues_.e3.many_,.agg [I s_.queues_.e3.l_.e0,I s_.queues_.e3.l_.e1,I s_.queues_.e3.l_.e2,I s_.queues_.e3.l_.e3]]] : A) = some (.agg [.agg [I s_.queues_.e0.many_,.agg [I s_.queues_.e0.l_.e0,I s_.queues_.e0.l_.e1,I s_.queues_.e0.l_.e2,I s_.queues_.e0.l_.e3]],.agg [I s_.queues_.e1.many_,.agg [I s_.queues_.e1.l_.e0,I s_.queues_.e1.l_.e1,I s_.queues_.e1.l_.e2,I s_.queues_.e1.l_.e3]],.agg [I s_.queues_.e2.many_,.agg [I s_.queues_.e2.l_.e0,I s_.queues_.e2.l_.e1,I s_.queues_.e2.l_.e2,I s_.queues_.e2.l_.e3]],.agg [I s_.queues_.e3.many_,.agg [I s_.queues_.e3.l_.e0,I s_.queues_.e3.l_.e1,I s_.queues_.e3.l_.e2,I s_.queues_.e3.l_.e3]]])),Hh (.f),Hs (iM F9_ h2),Hh (.cut 0)] ?_ fun J1 hJ1 => ?_
 ·rintro s_queues hf0
  unfold v6 at hf0
  obtain rfl := zl hf0
  exact yE ((xNe Tryz.prog 9 0 201).or X0) hC hE []
 ·rcases zS hf0 with ⟨c0,hf0⟩ | ⟨c0,hf0⟩
  ·obtain rfl := zl hf0
   exact yE ((xNe Tryz.prog 9 0 201).or X0) hC hE [Hq c0]
  ·refine yJ X0 hC qp [1,1,1,2,0,1,1] [J1] [5,7,8,10,33] (fun z : Bool => zR s_ a_ arr cell1 z = some r0) (fun z => YZ s_ a_ arr cell1 z) [(4,.own (.box (x6 x_))),(5,.own (.box (.agg [F0_ arr,zaO s_.queues_]))),(7,.own (.box (vN a_))),(8,.own (.box (.agg [.agg [I 0,I 0,I 0,I 0],.agg [.agg [I 0,.agg [I 0,I 0,I 0,I 0]],.agg [I 0,.agg [I 0,I 0,I 0,I 0]],.agg [I 0,.agg [I 0,I 0,I 0,I 0]],.agg [I 0,.agg [I 0,I 0,I 0,I 0]]]]))),(10,.own (.box (F9_ cell1)))] [Hq c0,Hh (.cut 0)] ?_ fun J2 hJ2 => ?_
   ·rintro x33 hf0
    unfold zR at hf0
    rcases zS hf0 with ⟨c1,hf0⟩ | ⟨c1,hf0⟩
    ·obtain rfl := zl hf0
     exact yE X0 hC hE [Hq c1]
    ·rcases zS hf0 with ⟨c2,hf0⟩ | ⟨c2,hf0⟩
     ·obtain ⟨r_,h3,hf0⟩ := zo hf0
      obtain ⟨cell2,h4,hf0⟩ := zo hf0
      obtain ⟨arr1,h5,hf0⟩ := zo hf0
      replace h5 := zl h5
      exact yB X0 hC hJ1 arr1 hf0 [Hq c1,Hq c2,Hc h0L (x := (cell1,a_.Message)) h3 (loC F9_ cell1 <| loC (eI .i64) a_.Message <| loN),Hn (⟨arJ (by kernel_rfl) (i0 h4),(iL F9_ h4).2⟩ : Xe wl 113 ((ya.toL s_.queues_).map F9_) a_.Channel = true ∧ a_.Channel.toNat < ((ya.toL s_.queues_).map F9_).length),Hh (.op 2),Hh (.f),Hx (.a (.agg [.agg [I s_.queues_.e0.many_,.agg [I s_.queues_.e0.l_.e0,I s_.queues_.e0.l_.e1,I s_.queues_.e0.l_.e2,I s_.queues_.e0.l_.e3]],.agg [I s_.queues_.e1.many_,.agg [I s_.queues_.e1.l_.e0,I s_.queues_.e1.l_.e1,I s_.queues_.e1.l_.e2,I s_.queues_.e1.l_.e3]],.agg [I s_.queues_.e2.many_,.agg [I s_.queues_.e2.l_.e0,I s_.queues_.e2.l_.e1,I s_.queues_.e2.l_.e2,I s_.queues_.e2.l_.e3]],.agg [I s_.queues_.e3.many_,.agg [I s_.queues_.e3.l_.e0,I s_.queues_.e3.l_.e1,I s_.queues_.e3.l_.e2,I s_.queues_.e3.l_.e3]]])) (rfl : some (.agg [.agg [I s_.queues_.e0.many_,.agg [I s_.queues_.e0.l_.e0,I s_.queues_.e0.l_.e1,I s_.queues_.e0.l_.e2,I s_.queues_.e0.l_.e3]],.agg [I s_.queues_.e1.many_,.agg [I s_.queues_.e1.l_.e0,I s_.queues_.e1.l_.e1,I s_.queues_.e1.l_.e2,I s_.queues_.e1.l_.e3]],.agg [I s_.queues_.e2.many_,.agg [I s_.queues_.e2.l_.e0,I s_.queues_.e2.l_.e1,I s_.queues_.e2.l_.e2,I s_.queues_.e2.l_.e3]],.agg [I s_.queues_.e3.many_,.agg [I s_.queues_.e3.l_.e0,I s_.queues_.e3.l_.e1,I s_.queues_.e3.l_.e2,I s_.queues_.e3.l_.e3]]] : A) = some (.agg [.agg [I s_.queues_.e0.many_,.agg [I s_.queues_.e0.l_.e0,I s_.queues_.e0.l_.e1,I s_.queues_.e0.l_.e2,I s_.queues_.e0.l_.e3]],.agg [I s_.queues_.e1.many_,.agg [I s_.queues_.e1.l_.e0,I s_.queues_.e1.l_.e1,I s_.queues_.e1.l_.e2,I s_.queues_.e1.l_.e3]],.agg [I s_.queues_.e2.many_,.agg [I s_.queues_.e2.l_.e0,I s_.queues_.e2.l_.e1,I s_.queues_.e2.l_.e2,I s_.queues_.e2.l_.e3]],.agg [I s_.queues_.e3.many_,.agg [I s_.queues_.e3.l_.e0,I s_.queues_.e3.l_.e1,I s_.queues_.e3.l_.e2,I s_.queues_.e3.l_.e3]]])),Hh (.f),Hs (iM F9_ h4),Hh (.f),Hx (.a (.agg [.agg [I s_.queues_.e0.many_,.agg [I s_.queues_.e0.l_.e0,I s_.queues_.e0.l_.e1,I s_.queues_.e0.l_.e2,I s_.queues_.e0.l_.e3]],.agg [I s_.queues_.e1.many_,.agg [I s_.queues_.e1.l_.e0,I s_.queues_.e1.l_.e1,I s_.queues_.e1.l_.e2,I s_.queues_.e1.l_.e3]],.agg [I s_.queues_.e2.many_,.agg [I s_.queues_.e2.l_.e0,I s_.queues_.e2.l_.e1,I s_.queues_.e2.l_.e2,I s_.queues_.e2.l_.e3]],.agg [I s_.queues_.e3.many_,.agg [I s_.queues_.e3.l_.e0,I s_.queues_.e3.l_.e1,I s_.queues_.e3.l_.e2,I s_.queues_.e3.l_.e3]]])) (rfl : some (.agg [.agg [I s_.queues_.e0.many_,.agg [I s_.queues_.e0.l_.e0,I s_.queues_.e0.l_.e1,I s_.queues_.e0.l_.e2,I s_.queues_.e0.l_.e3]],.agg [I s_.queues_.e1.many_,.agg [I s_.queues_.e1.l_.e0,I s_.queues_.e1.l_.e1,I s_.queues_.e1.l_.e2,I s_.queues_.e1.l_.e3]],.agg [I s_.queues_.e2.many_,.agg [I s_.queues_.e2.l_.e0,I s_.queues_.e2.l_.e1,I s_.queues_.e2.l_.e2,I s_.queues_.e2.l_.e3]],.agg [I s_.queues_.e3.many_,.agg [I s_.queues_.e3.l_.e0,I s_.queues_.e3.l_.e1,I s_.queues_.e3.l_.e2,I s_.queues_.e3.l_.e3]]] : A) = some (.agg [.agg [I s_.queues_.e0.many_,.agg [I s_.queues_.e0.l_.e0,I s_.queues_.e0.l_.e1,I s_.queues_.e0.l_.e2,I s_.queues_.e0.l_.e3]],.agg [I s_.queues_.e1.many_,.agg [I s_.queues_.e1.l_.e0,I s_.queues_.e1.l_.e1,I s_.queues_.e1.l_.e2,I s_.queues_.e1.l_.e3]],.agg [I s_.queues_.e2.many_,.agg [I s_.queues_.e2.l_.e0,I s_.queues_.e2.l_.e1,I s_.queues_.e2.l_.e2,I s_.queues_.e2.l_.e3]],.agg [I s_.queues_.e3.many_,.agg [I s_.queues_.e3.l_.e0,I s_.queues_.e3.l_.e1,I s_.queues_.e3.l_.e2,I s_.queues_.e3.l_.e3]]])),Hh (.f),Hs (iM F9_ h4),Hx (.l ((ya.toL arr1).map F9_)) ((ya.setL F9_ s_.queues_ a_.Channel r_).trans (congrArg (fun q => (ya.toL q).map F9_) h5)),Hx (.l [.agg [I arr.e0,I arr.e1,I arr.e2,I arr.e3],.agg [.agg [I arr1.e0.many_,.agg [I arr1.e0.l_.e0,I arr1.e0.l_.e1,I arr1.e0.l_.e2,I arr1.e0.l_.e3]],.agg [I arr1.e1.many_,.agg [I arr1.e1.l_.e0,I arr1.e1.l_.e1,I arr1.e1.l_.e2,I arr1.e1.l_.e3]],.agg [I arr1.e2.many_,.agg [I arr1.e2.l_.e0,I arr1.e2.l_.e1,I arr1.e2.l_.e2,I arr1.e2.l_.e3]],.agg [I arr1.e3.many_,.agg [I arr1.e3.l_.e0,I arr1.e3.l_.e1,I arr1.e3.l_.e2,I arr1.e3.l_.e3]]]]) (rfl : ([.agg [I arr.e0,I arr.e1,I arr.e2,I arr.e3],.agg [.agg [I arr1.e0.many_,.agg [I arr1.e0.l_.e0,I arr1.e0.l_.e1,I arr1.e0.l_.e2,I arr1.e0.l_.e3]],.agg [I arr1.e1.many_,.agg [I arr1.e1.l_.e0,I arr1.e1.l_.e1,I arr1.e1.l_.e2,I arr1.e1.l_.e3]],.agg [I arr1.e2.many_,.agg [I arr1.e2.l_.e0,I arr1.e2.l_.e1,I arr1.e2.l_.e2,I arr1.e2.l_.e3]],.agg [I arr1.e3.many_,.agg [I arr1.e3.l_.e0,I arr1.e3.l_.e1,I arr1.e3.l_.e2,I arr1.e3.l_.e3]]]] : List A) = [.agg [I arr.e0,I arr.e1,I arr.e2,I arr.e3],.agg [.agg [I arr1.e0.many_,.agg [I arr1.e0.l_.e0,I arr1.e0.l_.e1,I arr1.e0.l_.e2,I arr1.e0.l_.e3]],.agg [I arr1.e1.many_,.agg [I arr1.e1.l_.e0,I arr1.e1.l_.e1,I arr1.e1.l_.e2,I arr1.e1.l_.e3]],.agg [I arr1.e2.many_,.agg [I arr1.e2.l_.e0,I arr1.e2.l_.e1,I arr1.e2.l_.e2,I arr1.e2.l_.e3]],.agg [I arr1.e3.many_,.agg [I arr1.e3.l_.e0,I arr1.e3.l_.e1,I arr1.e3.l_.e2,I arr1.e3.l_.e3]]]])]
     ·obtain ⟨r_1,h6,hf0⟩ := zo hf0
      obtain ⟨cell3,h7,hf0⟩ := zo hf0
      obtain ⟨arr2,h8,hf0⟩ := zo hf0
      replace h8 := zl h8
      exact yB X0 hC hJ1 arr2 hf0 [Hq c1,Hq c2,Hc h0M (x := cell1) h6 (loC F9_ cell1 <| loN),Hn (⟨arJ (by kernel_rfl) (i0 h7),(iL F9_ h7).2⟩ : Xe wl 113 ((ya.toL s_.queues_).map F9_) a_.Channel = true ∧ a_.Channel.toNat < ((ya.toL s_.queues_).map F9_).length),Hh (.op 2),Hh (.f),Hx (.a (.agg [.agg [I s_.queues_.e0.many_,.agg [I s_.queues_.e0.l_.e0,I s_.queues_.e0.l_.e1,I s_.queues_.e0.l_.e2,I s_.queues_.e0.l_.e3]],.agg [I s_.queues_.e1.many_,.agg [I s_.queues_.e1.l_.e0,I s_.queues_.e1.l_.e1,I s_.queues_.e1.l_.e2,I s_.queues_.e1.l_.e3]],.agg [I s_.queues_.e2.many_,.agg [I s_.queues_.e2.l_.e0,I s_.queues_.e2.l_.e1,I s_.queues_.e2.l_.e2,I s_.queues_.e2.l_.e3]],.agg [I s_.queues_.e3.many_,.agg [I s_.queues_.e3.l_.e0,I s_.queues_.e3.l_.e1,I s_.queues_.e3.l_.e2,I s_.queues_.e3.l_.e3]]])) (rfl : some (.agg [.agg [I s_.queues_.e0.many_,.agg [I s_.queues_.e0.l_.e0,I s_.queues_.e0.l_.e1,I s_.queues_.e0.l_.e2,I s_.queues_.e0.l_.e3]],.agg [I s_.queues_.e1.many_,.agg [I s_.queues_.e1.l_.e0,I s_.queues_.e1.l_.e1,I s_.queues_.e1.l_.e2,I s_.queues_.e1.l_.e3]],.agg [I s_.queues_.e2.many_,.agg [I s_.queues_.e2.l_.e0,I s_.queues_.e2.l_.e1,I s_.queues_.e2.l_.e2,I s_.queues_.e2.l_.e3]],.agg [I s_.queues_.e3.many_,.agg [I s_.queues_.e3.l_.e0,I s_.queues_.e3.l_.e1,I s_.queues_.e3.l_.e2,I s_.queues_.e3.l_.e3]]] : A) = some (.agg [.agg [I s_.queues_.e0.many_,.agg [I s_.queues_.e0.l_.e0,I s_.queues_.e0.l_.e1,I s_.queues_.e0.l_.e2,I s_.queues_.e0.l_.e3]],.agg [I s_.queues_.e1.many_,.agg [I s_.queues_.e1.l_.e0,I s_.queues_.e1.l_.e1,I s_.queues_.e1.l_.e2,I s_.queues_.e1.l_.e3]],.agg [I s_.queues_.e2.many_,.agg [I s_.queues_.e2.l_.e0,I s_.queues_.e2.l_.e1,I s_.queues_.e2.l_.e2,I s_.queues_.e2.l_.e3]],.agg [I s_.queues_.e3.many_,.agg [I s_.queues_.e3.l_.e0,I s_.queues_.e3.l_.e1,I s_.queues_.e3.l_.e2,I s_.queues_.e3.l_.e3]]])),Hh (.f),Hs (iM F9_ h7),Hh (.f),Hx (.a (.agg [.agg [I s_.queues_.e0.many_,.agg [I s_.queues_.e0.l_.e0,I s_.queues_.e0.l_.e1,I s_.queues_.e0.l_.e2,I s_.queues_.e0.l_.e3]],.agg [I s_.queues_.e1.many_,.agg [I s_.queues_.e1.l_.e0,I s_.queues_.e1.l_.e1,I s_.queues_.e1.l_.e2,I s_.queues_.e1.l_.e3]],.agg [I s_.queues_.e2.many_,.agg [I s_.queues_.e2.l_.e0,I s_.queues_.e2.l_.e1,I s_.queues_.e2.l_.e2,I s_.queues_.e2.l_.e3]],.agg [I s_.queues_.e3.many_,.agg [I s_.queues_.e3.l_.e0,I s_.queues_.e3.l_.e1,I s_.queues_.e3.l_.e2,I s_.queues_.e3.l_.e3]]])) (rfl : some (.agg [.agg [I s_.queues_.e0.many_,.agg [I s_.queues_.e0.l_.e0,I s_.queues_.e0.l_.e1,I s_.queues_.e0.l_.e2,I s_.queues_.e0.l_.e3]],.agg [I s_.queues_.e1.many_,.agg [I s_.queues_.e1.l_.e0,I s_.queues_.e1.l_.e1,I s_.queues_.e1.l_.e2,I s_.queues_.e1.l_.e3]],.agg [I s_.queues_.e2.many_,.agg [I s_.queues_.e2.l_.e0,I s_.queues_.e2.l_.e1,I s_.queues_.e2.l_.e2,I s_.queues_.e2.l_.e3]],.agg [I s_.queues_.e3.many_,.agg [I s_.queues_.e3.l_.e0,I s_.queues_.e3.l_.e1,I s_.queues_.e3.l_.e2,I s_.queues_.e3.l_.e3]]] : A) = some (.agg [.agg [I s_.queues_.e0.many_,.agg [I s_.queues_.e0.l_.e0,I s_.queues_.e0.l_.e1,I s_.queues_.e0.l_.e2,I s_.queues_.e0.l_.e3]],.agg [I s_.queues_.e1.many_,.agg [I s_.queues_.e1.l_.e0,I s_.queues_.e1.l_.e1,I s_.queues_.e1.l_.e2,I s_.queues_.e1.l_.e3]],.agg [I s_.queues_.e2.many_,.agg [I s_.queues_.e2.l_.e0,I s_.queues_.e2.l_.e1,I s_.queues_.e2.l_.e2,I s_.queues_.e2.l_.e3]],.agg [I s_.queues_.e3.many_,.agg [I s_.queues_.e3.l_.e0,I s_.queues_.e3.l_.e1,I s_.queues_.e3.l_.e2,I s_.queues_.e3.l_.e3]]])),Hh (.f),Hs (iM F9_ h7),Hx (.l ((ya.toL arr2).map F9_)) ((ya.setL F9_ s_.queues_ a_.Channel r_1).trans (congrArg (fun q => (ya.toL q).map F9_) h8)),Hx (.l [.agg [I arr.e0,I arr.e1,I arr.e2,I arr.e3],.agg [.agg [I arr2.e0.many_,.agg [I arr2.e0.l_.e0,I arr2.e0.l_.e1,I arr2.e0.l_.e2,I arr2.e0.l_.e3]],.agg [I arr2.e1.many_,.agg [I arr2.e1.l_.e0,I arr2.e1.l_.e1,I arr2.e1.l_.e2,I arr2.e1.l_.e3]],.agg [I arr2.e2.many_,.agg [I arr2.e2.l_.e0,I arr2.e2.l_.e1,I arr2.e2.l_.e2,I arr2.e2.l_.e3]],.agg [I arr2.e3.many_,.agg [I arr2.e3.l_.e0,I arr2.e3.l_.e1,I arr2.e3.l_.e2,I arr2.e3.l_.e3]]]]) (rfl : ([.agg [I arr.e0,I arr.e1,I arr.e2,I arr.e3],.agg [.agg [I arr2.e0.many_,.agg [I arr2.e0.l_.e0,I arr2.e0.l_.e1,I arr2.e0.l_.e2,I arr2.e0.l_.e3]],.agg [I arr2.e1.many_,.agg [I arr2.e1.l_.e0,I arr2.e1.l_.e1,I arr2.e1.l_.e2,I arr2.e1.l_.e3]],.agg [I arr2.e2.many_,.agg [I arr2.e2.l_.e0,I arr2.e2.l_.e1,I arr2.e2.l_.e2,I arr2.e2.l_.e3]],.agg [I arr2.e3.many_,.agg [I arr2.e3.l_.e0,I arr2.e3.l_.e1,I arr2.e3.l_.e2,I arr2.e3.l_.e3]]]] : List A) = [.agg [I arr.e0,I arr.e1,I arr.e2,I arr.e3],.agg [.agg [I arr2.e0.many_,.agg [I arr2.e0.l_.e0,I arr2.e0.l_.e1,I arr2.e0.l_.e2,I arr2.e0.l_.e3]],.agg [I arr2.e1.many_,.agg [I arr2.e1.l_.e0,I arr2.e1.l_.e1,I arr2.e1.l_.e2,I arr2.e1.l_.e3]],.agg [I arr2.e2.many_,.agg [I arr2.e2.l_.e0,I arr2.e2.l_.e1,I arr2.e2.l_.e2,I arr2.e2.l_.e3]],.agg [I arr2.e3.many_,.agg [I arr2.e3.l_.e0,I arr2.e3.l_.e1,I arr2.e3.l_.e2,I arr2.e3.l_.e3]]]])]
   ·obtain ⟨Channel_e,h9,hf0⟩ := zo hf0
    rcases zS hf0 with ⟨c3,hf0⟩ | ⟨c3,hf0⟩
    ·exact yB X0 hC hJ2 (Channel_e == 0) hf0 [Hi (eI .i64) h9,Hq c3]
    ·rcases zS hf0 with ⟨c4,hf0⟩ | ⟨c4,hf0⟩
     ·obtain ⟨Channel_e1,h10,hf0⟩ := zo hf0
      let Z0 : List HO := (Hi (eI .i64) h9 :: Hq c3 :: (rpN 7 (Hq c4) [Hi (eI .i64) h10,Hq c4,Hq c4,Hq c4]))
      rcases zS hf0 with ⟨c5,hf0⟩ | ⟨c5,hf0⟩
      ·exact yB X0 hC hJ2 (cell1.many_ == Channel_e1) hf0 (Z0 ++ [Hq c5])
      ·rcases zS hf0 with ⟨c6,hf0⟩ | ⟨c6,hf0⟩
       ·let Z1 : List HO := (Z0 ++ (Hq c5 :: (rpN 4 (Hq c6) [])))
        rcases zS hf0 with ⟨c7,hf0⟩ | ⟨c7,hf0⟩
        ·exact yB X0 hC hJ2 true hf0 (Z1 ++ (rpN 6 (Hq c7) [Hq c6,Hq c7,Hq c6]))
        ·exact yB X0 hC hJ2 (cell1.l_.e0 != a_.Message) hf0 (Z1 ++ (Hq c7 :: Hq c7 :: Hn (⟨rfl,by decide⟩ : true = true ∧ 0 < 4) :: (rpN 4 (Hq c7) [Hq c6,Hq c7,Hq c6])))
       ·exact yB X0 hC hJ2 false hf0 (Z0 ++ (Hq c5 :: (rpN 6 (Hq c6) [])))
     ·let Z2 : List HO := (Hi (eI .i64) h9 :: Hq c3 :: (rpN 10 (Hq c4) [qF]))
      rcases zS hf0 with ⟨c8,hf0⟩ | ⟨c8,hf0⟩
      ·let Z3 : List HO := (Z2 ++ (rpN 4 (Hq c8) []))
       rcases zS hf0 with ⟨c9,hf0⟩ | ⟨c9,hf0⟩
       ·exact yB X0 hC hJ2 true hf0 (Z3 ++ (rpN 6 (Hq c9) [Hq c8,Hq c9,Hq c8]))
       ·exact yB X0 hC hJ2 (cell1.l_.e0 != a_.Message) hf0 (Z3 ++ (Hq c9 :: Hq c9 :: Hn (⟨rfl,by decide⟩ : true = true ∧ 0 < 4) :: (rpN 4 (Hq c9) [Hq c8,Hq c9,Hq c8])))
      ·exact yB X0 hC hJ2 false hf0 (Z2 ++ (rpN 6 (Hq c8) []))
def Yy : xi := spF (α := Bool × Bool) (ρ := Bool) 85 (fun x => [(eEr 0 201) x.1,(eEr 0 201) x.2]) (fun r => eB r) (fun x => Kw x.1 x.2) [] (UV)
theorem z2N {ctr : Ctr} (hC : zZ Tryz.prog ctr) : Yy.Ok Tryz.prog := by
 refine yc ?_
 rintro ⟨e,t⟩ r0 hf0
 cases t with
 | false => cases hf0
 | true =>
  cases hf0
  exact zad e
def zB : Code := (Tryz.f82.body).getD .skip
abbrev ZC {σ : Type} (x0 : z8) (x1 : zb) (yv : Value) (YY : σ → z1j) (x16 : Int) (sg2 : σ) : List (Nat × T) := [(0,.own (.opq (YY sg2).q)),(1,.d (.sptr (x6 x0))),(2,.d (.sptr (xh x1))),(3,.own (.box (.atom yv))),(15,.d (I ((x0.Parts.length : Nat) : Int))),(16,.d (I x16))]
abbrev y7 {σ : Type} (x0 : z8) (x1 : zb) (yv : Value) (YY : σ → z1j) (x16 : Int) (r_ : z8 × Int × zb) (sg3 : σ) : List (Nat × T) := [(0,.own (.opq (YY sg3).q)),(1,.d (.sptr (x6 x0))),(2,.d (.sptr (xh x1))),(3,.own (.box (.atom yv))),(4,.own (.box (I x16))),(15,.d (I ((x0.Parts.length : Nat) : Int))),(16,.d (I x16)),(22,.d (.fn 103 [.sptr (.agg [I r_.1.Messages,I r_.1.Labels,eSl 1 false (eI .i64) r_.1.Channels,eSl 3 false ve r_.1.Parts]),.sptr (I r_.2.1),.sptr (.agg [.agg [I r_.2.2.states_.e0,I r_.2.2.states_.e1,I r_.2.2.states_.e2,I r_.2.2.states_.e3],.agg [.agg [I r_.2.2.queues_.e0.many_,.agg [I r_.2.2.queues_.e0.l_.e0,I r_.2.2.queues_.e0.l_.e1,I r_.2.2.queues_.e0.l_.e2,I r_.2.2.queues_.e0.l_.e3]],.agg [I r_.2.2.queues_.e1.many_,.agg [I r_.2.2.queues_.e1.l_.e0,I r_.2.2.queues_.e1.l_.e1,I r_.2.2.queues_.e1.l_.e2,I r_.2.2.queues_.e1.l_.e3]],.agg [I r_.2.2.queues_.e2.many_,.agg [I r_.2.2.queues_.e2.l_.e0,I r_.2.2.queues_.e2.l_.e1,I r_.2.2.queues_.e2.l_.e2,I r_.2.2.queues_.e2.l_.e3]],.agg [I r_.2.2.queues_.e3.many_,.agg [I r_.2.2.queues_.e3.l_.e0,I r_.2.2.queues_.e3.l_.e1,I r_.2.2.queues_.e3.l_.e2,I r_.2.2.queues_.e3.l_.e3]]]])]))]
abbrev ZB {σ : Type} (x0 : z8) (x1 : zb) (yv : Value) (YY : σ → z1j) (x16 : Int) (r_ : z8 × Int × zb) (x23 : Int) (x24 : zf) (Channel_e : Int) (x59 : Int) (sg5 : σ) : List (Nat × T) := [(0,.own (.opq (YY sg5).q)),(1,.d (.sptr (x6 x0))),(2,.d (.sptr (xh x1))),(3,.own (.box (.atom yv))),(4,.own (.box (I x16))),(5,.own (.box (I x23))),(6,.own (.box (vN x24))),(15,.d (I ((x0.Parts.length : Nat) : Int))),(16,.d (I x16)),(22,.d (.fn 103 [.sptr (.agg [I r_.1.Messages,I r_.1.Labels,eSl 1 false (eI .i64) r_.1.Channels,eSl 3 false ve r_.1.Parts]),.sptr (I r_.2.1),.sptr (.agg [.agg [I r_.2.2.states_.e0,I r_.2.2.states_.e1,I r_.2.2.states_.e2,I r_.2.2.states_.e3],.agg [.agg [I r_.2.2.queues_.e0.many_,.agg [I r_.2.2.queues_.e0.l_.e0,I r_.2.2.queues_.e0.l_.e1,I r_.2.2.queues_.e0.l_.e2,I r_.2.2.queues_.e0.l_.e3]],.agg [I r_.2.2.queues_.e1.many_,.agg [I r_.2.2.queues_.e1.l_.e0,I r_.2.2.queues_.e1.l_.e1,I r_.2.2.queues_.e1.l_.e2,I r_.2.2.queues_.e1.l_.e3]],.agg [I r_.2.2.queues_.e2.many_,.agg [I r_.2.2.queues_.e2.l_.e0,I r_.2.2.queues_.e2.l_.e1,I r_.2.2.queues_.e2.l_.e2,I r_.2.2.queues_.e2.l_.e3]],.agg [I r_.2.2.queues_.e3.many_,.agg [I r_.2.2.queues_.e3.l_.e0,I r_.2.2.queues_.e3.l_.e1,I r_.2.2.queues_.e3.l_.e2,I r_.2.2.queues_.e3.l_.e3]]]])])),(48,.d (.sptr (eSl 1 false (eI .i64) x0.Channels))),(49,.d (eSl 1 false (eI .i64) x0.Channels)),(51,.d (I x24.Channel)),(52,.d (.sptr (I Channel_e))),(53,.d (I Channel_e)),(54,.d (B (decide (Channel_e > 0)))),(58,.d (I ((x0.Parts.length : Nat) : Int))),(59,.d (I x59))]
abbrev yh {σ : Type} (x0 : z8) (x1 : zb) (yv : Value) (YY : σ → z1j) (x16 : Int) (r_ : z8 × Int × zb) (x23 : Int) (x24 : zf) (Channel_e : Int) (x59 : Int) (r_3 : z8 × Int × zb) (sg6 : σ) : List (Nat × T) := [(0,.own (.opq (YY sg6).q)),(1,.d (.sptr (x6 x0))),(2,.d (.sptr (xh x1))),(3,.own (.box (.atom yv))),(4,.own (.box (I x16))),(5,.own (.box (I x23))),(6,.own (.box (vN x24))),(9,.own (.box (I x59))),(15,.d (I ((x0.Parts.length : Nat) : Int))),(16,.d (I x16)),(22,.d (.fn 103 [.sptr (.agg [I r_.1.Messages,I r_.1.Labels,eSl 1 false (eI .i64) r_.1.Channels,eSl 3 false ve r_.1.Parts]),.sptr (I r_.2.1),.sptr (.agg [.agg [I r_.2.2.states_.e0,I r_.2.2.states_.e1,I r_.2.2.states_.e2,I r_.2.2.states_.e3],.agg [.agg [I r_.2.2.queues_.e0.many_,.agg [I r_.2.2.queues_.e0.l_.e0,I r_.2.2.queues_.e0.l_.e1,I r_.2.2.queues_.e0.l_.e2,I r_.2.2.queues_.e0.l_.e3]],.agg [I r_.2.2.queues_.e1.many_,.agg [I r_.2.2.queues_.e1.l_.e0,I r_.2.2.queues_.e1.l_.e1,I r_.2.2.queues_.e1.l_.e2,I r_.2.2.queues_.e1.l_.e3]],.agg [I r_.2.2.queues_.e2.many_,.agg [I r_.2.2.queues_.e2.l_.e0,I r_.2.2.queues_.e2.l_.e1,I r_.2.2.queues_.e2.l_.e2,I r_.2.2.queues_.e2.l_.e3]],.agg [I r_.2.2.queues_.e3.many_,.agg [I r_.2.2.queues_.e3.l_.e0,I r_.2.2.queues_.e3.l_.e1,I r_.2.2.queues_.e3.l_.e2,I r_.2.2.queues_.e3.l_.e3]]]])])),(48,.d (.sptr (eSl 1 false (eI .i64) x0.Channels))),(49,.d (eSl 1 false (eI .i64) x0.Channels)),(51,.d (I x24.Channel)),(52,.d (.sptr (I Channel_e))),(53,.d (I Channel_e)),(54,.d (B (decide (Channel_e > 0)))),(58,.d (I ((x0.Parts.length : Nat) : Int))),(59,.d (I x59)),(68,.d (.fn 103 [.sptr (.agg [I r_3.1.Messages,I r_3.1.Labels,eSl 1 false (eI .i64) r_3.1.Channels,eSl 3 false ve r_3.1.Parts]),.sptr (I r_3.2.1),.sptr (.agg [.agg [I r_3.2.2.states_.e0,I r_3.2.2.states_.e1,I r_3.2.2.states_.e2,I r_3.2.2.states_.e3],.agg [.agg [I r_3.2.2.queues_.e0.many_,.agg [I r_3.2.2.queues_.e0.l_.e0,I r_3.2.2.queues_.e0.l_.e1,I r_3.2.2.queues_.e0.l_.e2,I r_3.2.2.queues_.e0.l_.e3]],.agg [I r_3.2.2.queues_.e1.many_,.agg [I r_3.2.2.queues_.e1.l_.e0,I r_3.2.2.queues_.e1.l_.e1,I r_3.2.2.queues_.e1.l_.e2,I r_3.2.2.queues_.e1.l_.e3]],.agg [I r_3.2.2.queues_.e2.many_,.agg [I r_3.2.2.queues_.e2.l_.e0,I r_3.2.2.queues_.e2.l_.e1,I r_3.2.2.queues_.e2.l_.e2,I r_3.2.2.queues_.e2.l_.e3]],.agg [I r_3.2.2.queues_.e3.many_,.agg [I r_3.2.2.queues_.e3.l_.e0,I r_3.2.2.queues_.e3.l_.e1,I r_3.2.2.queues_.e3.l_.e2,I r_3.2.2.queues_.e3.l_.e3]]]])]))]
abbrev Zz {σ : Type} (x0 : z8) (x1 : zb) (yv : Value) (YY : σ → z1j) (x16 : Int) (r_ : z8 × Int × zb) (x23 : Int) (x24 : zf) (Channel_e : Int) (sg4 : σ) (x59 : Int) : List (Nat × T) := [(0,.own (.opq (YY sg4).q)),(1,.d (.sptr (x6 x0))),(2,.d (.sptr (xh x1))),(3,.own (.box (.atom yv))),(4,.own (.box (I x16))),(5,.own (.box (I x23))),(6,.own (.box (vN x24))),(15,.d (I ((x0.Parts.length : Nat) : Int))),(16,.d (I x16)),(22,.d (.fn 103 [.sptr (.agg [I r_.1.Messages,I r_.1.Labels,eSl 1 false (eI .i64) r_.1.Channels,eSl 3 false ve r_.1.Parts]),.sptr (I r_.2.1),.sptr (.agg [.agg [I r_.2.2.states_.e0,I r_.2.2.states_.e1,I r_.2.2.states_.e2,I r_.2.2.states_.e3],.agg [.agg [I r_.2.2.queues_.e0.many_,.agg [I r_.2.2.queues_.e0.l_.e0,I r_.2.2.queues_.e0.l_.e1,I r_.2.2.queues_.e0.l_.e2,I r_.2.2.queues_.e0.l_.e3]],.agg [I r_.2.2.queues_.e1.many_,.agg [I r_.2.2.queues_.e1.l_.e0,I r_.2.2.queues_.e1.l_.e1,I r_.2.2.queues_.e1.l_.e2,I r_.2.2.queues_.e1.l_.e3]],.agg [I r_.2.2.queues_.e2.many_,.agg [I r_.2.2.queues_.e2.l_.e0,I r_.2.2.queues_.e2.l_.e1,I r_.2.2.queues_.e2.l_.e2,I r_.2.2.queues_.e2.l_.e3]],.agg [I r_.2.2.queues_.e3.many_,.agg [I r_.2.2.queues_.e3.l_.e0,I r_.2.2.queues_.e3.l_.e1,I r_.2.2.queues_.e3.l_.e2,I r_.2.2.queues_.e3.l_.e3]]]])])),(48,.d (.sptr (eSl 1 false (eI .i64) x0.Channels))),(49,.d (eSl 1 false (eI .i64) x0.Channels)),(51,.d (I x24.Channel)),(52,.d (.sptr (I Channel_e))),(53,.d (I Channel_e)),(54,.d (B (decide (Channel_e > 0)))),(58,.d (I ((x0.Parts.length : Nat) : Int))),(59,.d (I x59))]
abbrev ZA {σ : Type} (x0 : z8) (x1 : zb) (yv : Value) (YY : σ → z1j) (sg1 : σ) (x16 : Int) : List (Nat × T) := [(0,.own (.opq (YY sg1).q)),(1,.d (.sptr (x6 x0))),(2,.d (.sptr (xh x1))),(3,.own (.box (.atom yv))),(15,.d (I ((x0.Parts.length : Nat) : Int))),(16,.d (I x16))]
theorem X3 {ctr : Ctr} (hC : zZ Tryz.prog ctr) (h0e : ctr.Has v8) (h0i : ctr.Has v7) (h0j : ctr.Has Yy) (x0 : z8) (x1 : zb) : z6t Tryz.prog (.fn 82 [.sptr (.agg [I x0.Messages,I x0.Labels,eSl 1 false (eI .i64) x0.Channels,eSl 3 false ve x0.Parts]),.sptr (.agg [.agg [I x1.states_.e0,I x1.states_.e1,I x1.states_.e2,I x1.states_.e3],.agg [.agg [I x1.queues_.e0.many_,.agg [I x1.queues_.e0.l_.e0,I x1.queues_.e0.l_.e1,I x1.queues_.e0.l_.e2,I x1.queues_.e0.l_.e3]],.agg [I x1.queues_.e1.many_,.agg [I x1.queues_.e1.l_.e0,I x1.queues_.e1.l_.e1,I x1.queues_.e1.l_.e2,I x1.queues_.e1.l_.e3]],.agg [I x1.queues_.e2.many_,.agg [I x1.queues_.e2.l_.e0,I x1.queues_.e2.l_.e1,I x1.queues_.e2.l_.e2,I x1.queues_.e2.l_.e3]],.agg [I x1.queues_.e3.many_,.agg [I x1.queues_.e3.l_.e0,I x1.queues_.e3.l_.e1,I x1.queues_.e3.l_.e2,I x1.queues_.e3.l_.e3]]]])]) (fun (x : ze × zb) (_ : Bool) (_ : Value) => [vM x.1,xh x.2]) (@xF x0 x1) := by
 refine z5I (tt := wl) (nt := 110) (body := zB) y5 Tryz.func82 rfl (by kernel_rfl) rfl rfl (by show (3 : Nat) ≤ 110; decide) ?_
 intro σ yv YY yy hy sg r0 hf0 E hE
 unfold xF at hf0
 obtain ⟨t1,ht1,hf0⟩ := zo hf0
 refine yL ((xBx Tryz.prog 3 0 yv).or X0) hC zB [1,1,0] [] (fun s => xG x0 x1 yy s.1 s.2) (fun x => ZA x0 x1 yv YY x.1 x.2) (sg,0) ht1  [Hn (⟨rfl,rfl⟩ : false = false ∧ some yv = some yv),Ha (lnM ve x0.Parts)] ?_
 rintro ⟨sg1,x16⟩ m1 lr1 hf1 hl1 J1 hJ1
 try unfold xG at hf1
 rcases zS hf1 with ⟨c0,hf1⟩ | ⟨c0,hf1⟩
 ·refine yJ X0 hC zB [1,1,0,0,1,1] [J1] [0,1,2,3,15,16] (fun z : σ => vI x16 z = some lr1) (fun z => ZC x0 x1 yv YY x16 z) [(0,.own (.opq (YY sg1).q)),(1,.d (.sptr (x6 x0))),(2,.d (.sptr (xh x1))),(3,.own (.box (.atom yv))),(15,.d (I ((x0.Parts.length : Nat) : Int))),(16,.d (I x16))] [Hq c0,Hh (.cut 0)] ?_ fun J2 hJ2 => ?_
  ·rintro sg2 hf1
   unfold vI at hf1
   obtain rfl := zl hf1
   exact yB X0 hC hJ1 (sg2,w64 (x16 + 1)) hl1 []
  ·obtain ⟨r_,h0,hf1⟩ := zo hf1
   obtain ⟨t3,ht3,hf1⟩ := zo hf1
   refine yAt X0 hC (sub [1,1,0,0,1,1,2,0,1,1,0] zB) (frs [1,1,0,0,1,1,2,0,1,1,0] [J1,J2] zB []) [(0,.own (.opq (YY sg1).q)),(1,.d (.sptr (x6 x0))),(2,.d (.sptr (xh x1))),(3,.own (.box (.atom yv))),(4,.own (.box (I x16))),(15,.d (I ((x0.Parts.length : Nat) : Int))),(16,.d (I x16)),(22,.d (.fn 103 [.sptr (.agg [I r_.1.Messages,I r_.1.Labels,eSl 1 false (eI .i64) r_.1.Channels,eSl 3 false ve r_.1.Parts]),.sptr (I r_.2.1),.sptr (.agg [.agg [I r_.2.2.states_.e0,I r_.2.2.states_.e1,I r_.2.2.states_.e2,I r_.2.2.states_.e3],.agg [.agg [I r_.2.2.queues_.e0.many_,.agg [I r_.2.2.queues_.e0.l_.e0,I r_.2.2.queues_.e0.l_.e1,I r_.2.2.queues_.e0.l_.e2,I r_.2.2.queues_.e0.l_.e3]],.agg [I r_.2.2.queues_.e1.many_,.agg [I r_.2.2.queues_.e1.l_.e0,I r_.2.2.queues_.e1.l_.e1,I r_.2.2.queues_.e1.l_.e2,I r_.2.2.queues_.e1.l_.e3]],.agg [I r_.2.2.queues_.e2.many_,.agg [I r_.2.2.queues_.e2.l_.e0,I r_.2.2.queues_.e2.l_.e1,I r_.2.2.queues_.e2.l_.e2,I r_.2.2.queues_.e2.l_.e3]],.agg [I r_.2.2.queues_.e3.many_,.agg [I r_.2.2.queues_.e3.l_.e0,I r_.2.2.queues_.e3.l_.e1,I r_.2.2.queues_.e3.l_.e2,I r_.2.2.queues_.e3.l_.e3]]]])]))] [Hc h0e (x := (x0,x1,x16)) h0 (loC x6 x0 <| loC xh x1 <| loC (eI .i64) x16 <| loN)] fun st0 h0 => ?_
   refine z3s (g := .tmp 22) (ps := [23,24]) (assign := (sub [1,1,0,0,1,1,2,0,1,1,0,0] zB)) (body := (sub [1,1,0,0,1,1,2,0,1,1,0,1] zB)) (K := 103) (caps := [.sptr (.agg [I r_.1.Messages,I r_.1.Labels,eSl 1 false (eI .i64) r_.1.Channels,eSl 3 false ve r_.1.Parts]),.sptr (I r_.2.1),.sptr (.agg [.agg [I r_.2.2.states_.e0,I r_.2.2.states_.e1,I r_.2.2.states_.e2,I r_.2.2.states_.e3],.agg [.agg [I r_.2.2.queues_.e0.many_,.agg [I r_.2.2.queues_.e0.l_.e0,I r_.2.2.queues_.e0.l_.e1,I r_.2.2.queues_.e0.l_.e2,I r_.2.2.queues_.e0.l_.e3]],.agg [I r_.2.2.queues_.e1.many_,.agg [I r_.2.2.queues_.e1.l_.e0,I r_.2.2.queues_.e1.l_.e1,I r_.2.2.queues_.e1.l_.e2,I r_.2.2.queues_.e1.l_.e3]],.agg [I r_.2.2.queues_.e2.many_,.agg [I r_.2.2.queues_.e2.l_.e0,I r_.2.2.queues_.e2.l_.e1,I r_.2.2.queues_.e2.l_.e2,I r_.2.2.queues_.e2.l_.e3]],.agg [I r_.2.2.queues_.e3.many_,.agg [I r_.2.2.queues_.e3.l_.e0,I r_.2.2.queues_.e3.l_.e1,I r_.2.2.queues_.e3.l_.e2,I r_.2.2.queues_.e3.l_.e3]]]])]) (by kernel_rfl) [0,1,2,3,4,15,16,22] (fun s => y7 x0 x1 yv YY x16 r_ s) (fun s => y7 x0 x1 yv YY x16 r_ s) (fun s => Code.ret) ((fun (x : Int × zf) (_ : Bool) (_ : Value) => [(eI .i64) x.1,vN x.2])) (F := @yx r_.1 r_.2.1 r_.2.2) (fun s x => xl x0 x1 yy x16 s x.1 x.2) sg1 t3 _ h0 inferInstance (by kernel_rfl) (by decide) (fun _ => rfl) (fun _ => rfl) (by kernel_rfl) (fun _ _ _ => rfl) (k8 hC r_.1 r_.2.1 r_.2.2) ht3 ?_ ?_
   ·rintro tv3 sg3 ⟨x23,x24⟩ vr lr2 hf2
    refine z19 (sz := 110) (k := 0) (u := tv3 0) (v := yv) (ps := List.map (fun t => (t,tv3 t)) [1,2,3,4,15,16,22] ++ ([(0,yv)])) rfl (by simp) ?_
    replace hf2 : xl x0 x1 yy x16 sg3 x23 x24 = some lr2 := hf2
    unfold xl at hf2
    refine yF X0 hC .normal [(0,.own (.opq (YY sg3).q)),(1,.d (.sptr (x6 x0))),(2,.d (.sptr (xh x1))),(3,.own (.box (.atom yv))),(4,.own (.box (I x16))),(5,.own (.box (I x23))),(6,.own (.box (vN x24))),(15,.d (I ((x0.Parts.length : Nat) : Int))),(16,.d (I x16)),(22,.d (.fn 103 [.sptr (.agg [I r_.1.Messages,I r_.1.Labels,eSl 1 false (eI .i64) r_.1.Channels,eSl 3 false ve r_.1.Parts]),.sptr (I r_.2.1),.sptr (.agg [.agg [I r_.2.2.states_.e0,I r_.2.2.states_.e1,I r_.2.2.states_.e2,I r_.2.2.states_.e3],.agg [.agg [I r_.2.2.queues_.e0.many_,.agg [I r_.2.2.queues_.e0.l_.e0,I r_.2.2.queues_.e0.l_.e1,I r_.2.2.queues_.e0.l_.e2,I r_.2.2.queues_.e0.l_.e3]],.agg [I r_.2.2.queues_.e1.many_,.agg [I r_.2.2.queues_.e1.l_.e0,I r_.2.2.queues_.e1.l_.e1,I r_.2.2.queues_.e1.l_.e2,I r_.2.2.queues_.e1.l_.e3]],.agg [I r_.2.2.queues_.e2.many_,.agg [I r_.2.2.queues_.e2.l_.e0,I r_.2.2.queues_.e2.l_.e1,I r_.2.2.queues_.e2.l_.e2,I r_.2.2.queues_.e2.l_.e3]],.agg [I r_.2.2.queues_.e3.many_,.agg [I r_.2.2.queues_.e3.l_.e0,I r_.2.2.queues_.e3.l_.e1,I r_.2.2.queues_.e3.l_.e2,I r_.2.2.queues_.e3.l_.e3]]]])]))] [] fun st0 h0 => ⟨rfl,z3r h0 ?_⟩
    refine z19 (sz := 110) (k := 0) (u := tv3 0) (v := yv) (ps := List.map (fun t => (t,tv3 t)) [1,2,3,4,15,16,22] ++ ([(0,yv)])) rfl (by simp) ?_
    obtain ⟨r_1,h1,hf2⟩ := zo hf2
    obtain ⟨r_2,h2,hf2⟩ := zo hf2
    let Z0 : List HO := [Hc h0i (x := (x0,x1,x16,x24)) h1 (loC x6 x0 <| loC xh x1 <| loC (eI .i64) x16 <| loC vN x24 <| loN),Hc h0j (x := (r_1.2,true)) h2 (loC (eEr 0 201) r_1.2 <| loC (eEr 0 201) true <| loN)]
    rcases zS hf2 with ⟨c1,hf2⟩ | ⟨c1,hf2⟩
    ·obtain ⟨yr,h3,hf2⟩ := zo hf2
     let Z1 : List HO := (Z0 ++ [Hq c1,Hn (⟨rfl,rfl,_,rfl⟩ : T.own (.box (.atom yv)) = T.own (.box (.atom yv)) ∧ some yv = some yv ∧ ∃ x,T.own (.opq (YY sg3).q) = T.own x),Hn (z2Q (yv := yv) (Y := YY) (enc := (fun (x : ze × zb) (_ : Bool) (_ : Value) => [vM x.1,xh x.2])) (s := sg3) (x := ((ze.mk x16 x23 (-1) (-1)),r_1.1)) (s' := yr.1) (b := yr.2) (v := .nilFunc) [vM (ze.mk x16 x23 (-1) (-1)),xh r_1.1] (show z1f [vM (ze.mk x16 x23 (-1) (-1)),xh r_1.1] [vM (ze.mk x16 x23 (-1) (-1)),xh r_1.1] from inferInstance))])
     rcases zS hf2 with ⟨c2,hf2⟩ | ⟨c2,hf2⟩
     ·obtain rfl := zl hf2
      exact yF ((z02 (P := Tryz.prog) wl hy 42 (s := sg3) (x := ((ze.mk x16 x23 (-1) (-1)),r_1.1)) (s' := yr.1) (b := yr.2) .nilFunc h3).or ((xLy y5 37 3 0 yv).or X0)) hC .ret (y7 x0 x1 yv YY x16 r_ yr.1) (Z1 ++ [Hq c2]) fun st0 h0 => ⟨rfl,_,h0,LeL.refl _⟩
     ·obtain rfl := zl hf2
      exact yF ((z02 (P := Tryz.prog) wl hy 42 (s := sg3) (x := ((ze.mk x16 x23 (-1) (-1)),r_1.1)) (s' := yr.1) (b := yr.2) .nilFunc h3).or ((xLy y5 37 3 0 yv).or X0)) hC .normal (y7 x0 x1 yv YY x16 r_ yr.1) (Z1 ++ [Hq c2]) fun st0 h0 => ⟨rfl,_,h0,LeL.refl _⟩
    ·rcases zS hf2 with ⟨c3,hf2⟩ | ⟨c3,hf2⟩
     ·obtain rfl := zl hf2
      exact yF X0 hC .normal (y7 x0 x1 yv YY x16 r_ sg3) (Z0 ++ (Hq c1 :: (rpN 8 (Hq c3) [qT]))) fun st0 h0 => ⟨rfl,_,h0,LeL.refl _⟩
     ·obtain ⟨Channel_e,h4,hf2⟩ := zo hf2
      let Z2 : List HO := (Z0 ++ (Hq c1 :: (rpN 5 (Hq c3) [Hi (eI .i64) h4,Hq c3,Hq c3,Hq c3])))
      rcases zS hf2 with ⟨c4,hf2⟩ | ⟨c4,hf2⟩
      ·obtain rfl := zl hf2
       exact yF X0 hC .normal (y7 x0 x1 yv YY x16 r_ sg3) (Z2 ++ [Hq c4]) fun st0 h0 => ⟨rfl,_,h0,LeL.refl _⟩
      ·obtain ⟨t4,ht4,hf2⟩ := zo hf2
       refine yL X0 hC zB [1,1,0,0,1,1,2,0,1,1,0,1,0,1,1,1,1,0] [J1,J2] (fun s => xj x0 x1 yy x16 x23 x24 s.1 s.2) (fun x => Zz x0 x1 yv YY x16 r_ x23 x24 Channel_e x.1 x.2) (sg3,0) ht4  (Z2 ++ [Hq c4,Ha (lnM ve x0.Parts)]) ?_
       rintro ⟨sg4,x59⟩ m4 lr3 hf3 hl3 J4 hJ4
       try unfold xj at hf3
       rcases zS hf3 with ⟨c5,hf3⟩ | ⟨c5,hf3⟩
       ·refine yJ X0 hC zB [1,1,0,0,1,1,2,0,1,1,0,1,0,1,1,1,1,0,0,1,1] [J1,J2,J4] [0,1,2,3,4,5,6,15,16,22,48,49,51,52,53,54,58,59] (fun z : σ => ww x59 z = some lr3) (fun z => ZB x0 x1 yv YY x16 r_ x23 x24 Channel_e x59 z) [(0,.own (.opq (YY sg4).q)),(1,.d (.sptr (x6 x0))),(2,.d (.sptr (xh x1))),(3,.own (.box (.atom yv))),(4,.own (.box (I x16))),(5,.own (.box (I x23))),(6,.own (.box (vN x24))),(15,.d (I ((x0.Parts.length : Nat) : Int))),(16,.d (I x16)),(22,.d (.fn 103 [.sptr (.agg [I r_.1.Messages,I r_.1.Labels,eSl 1 false (eI .i64) r_.1.Channels,eSl 3 false ve r_.1.Parts]),.sptr (I r_.2.1),.sptr (.agg [.agg [I r_.2.2.states_.e0,I r_.2.2.states_.e1,I r_.2.2.states_.e2,I r_.2.2.states_.e3],.agg [.agg [I r_.2.2.queues_.e0.many_,.agg [I r_.2.2.queues_.e0.l_.e0,I r_.2.2.queues_.e0.l_.e1,I r_.2.2.queues_.e0.l_.e2,I r_.2.2.queues_.e0.l_.e3]],.agg [I r_.2.2.queues_.e1.many_,.agg [I r_.2.2.queues_.e1.l_.e0,I r_.2.2.queues_.e1.l_.e1,I r_.2.2.queues_.e1.l_.e2,I r_.2.2.queues_.e1.l_.e3]],.agg [I r_.2.2.queues_.e2.many_,.agg [I r_.2.2.queues_.e2.l_.e0,I r_.2.2.queues_.e2.l_.e1,I r_.2.2.queues_.e2.l_.e2,I r_.2.2.queues_.e2.l_.e3]],.agg [I r_.2.2.queues_.e3.many_,.agg [I r_.2.2.queues_.e3.l_.e0,I r_.2.2.queues_.e3.l_.e1,I r_.2.2.queues_.e3.l_.e2,I r_.2.2.queues_.e3.l_.e3]]]])])),(48,.d (.sptr (eSl 1 false (eI .i64) x0.Channels))),(49,.d (eSl 1 false (eI .i64) x0.Channels)),(51,.d (I x24.Channel)),(52,.d (.sptr (I Channel_e))),(53,.d (I Channel_e)),(54,.d (B (decide (Channel_e > 0)))),(58,.d (I ((x0.Parts.length : Nat) : Int))),(59,.d (I x59))] [Hq c5,Hh (.cut 0)] ?_ fun J5 hJ5 => ?_
        ·rintro sg5 hf3
         unfold ww at hf3
         obtain rfl := zl hf3
         exact yB X0 hC hJ4 (sg5,w64 (x59 + 1)) hl3 []
        ·rcases zS hf3 with ⟨c6,hf3⟩ | ⟨c6,hf3⟩
         ·exact yB X0 hC hJ5 sg4 hf3 [Hq c6]
         ·obtain ⟨r_3,h5,hf3⟩ := zo hf3
          obtain ⟨t6,ht6,hf3⟩ := zo hf3
          refine yAt X0 hC (sub [1,1,0,0,1,1,2,0,1,1,0,1,0,1,1,1,1,0,0,1,1,2,0,1,1,1,0] zB) (frs [1,1,0,0,1,1,2,0,1,1,0,1,0,1,1,1,1,0,0,1,1,2,0,1,1,1,0] [J1,J2,J4,J5] zB []) [(0,.own (.opq (YY sg4).q)),(1,.d (.sptr (x6 x0))),(2,.d (.sptr (xh x1))),(3,.own (.box (.atom yv))),(4,.own (.box (I x16))),(5,.own (.box (I x23))),(6,.own (.box (vN x24))),(9,.own (.box (I x59))),(15,.d (I ((x0.Parts.length : Nat) : Int))),(16,.d (I x16)),(22,.d (.fn 103 [.sptr (.agg [I r_.1.Messages,I r_.1.Labels,eSl 1 false (eI .i64) r_.1.Channels,eSl 3 false ve r_.1.Parts]),.sptr (I r_.2.1),.sptr (.agg [.agg [I r_.2.2.states_.e0,I r_.2.2.states_.e1,I r_.2.2.states_.e2,I r_.2.2.states_.e3],.agg [.agg [I r_.2.2.queues_.e0.many_,.agg [I r_.2.2.queues_.e0.l_.e0,I r_.2.2.queues_.e0.l_.e1,I r_.2.2.queues_.e0.l_.e2,I r_.2.2.queues_.e0.l_.e3]],.agg [I r_.2.2.queues_.e1.many_,.agg [I r_.2.2.queues_.e1.l_.e0,I r_.2.2.queues_.e1.l_.e1,I r_.2.2.queues_.e1.l_.e2,I r_.2.2.queues_.e1.l_.e3]],.agg [I r_.2.2.queues_.e2.many_,.agg [I r_.2.2.queues_.e2.l_.e0,I r_.2.2.queues_.e2.l_.e1,I r_.2.2.queues_.e2.l_.e2,I r_.2.2.queues_.e2.l_.e3]],.agg [I r_.2.2.queues_.e3.many_,.agg [I r_.2.2.queues_.e3.l_.e0,I r_.2.2.queues_.e3.l_.e1,I r_.2.2.queues_.e3.l_.e2,I r_.2.2.queues_.e3.l_.e3]]]])])),(48,.d (.sptr (eSl 1 false (eI .i64) x0.Channels))),(49,.d (eSl 1 false (eI .i64) x0.Channels)),(51,.d (I x24.Channel)),(52,.d (.sptr (I Channel_e))),(53,.d (I Channel_e)),(54,.d (B (decide (Channel_e > 0)))),(58,.d (I ((x0.Parts.length : Nat) : Int))),(59,.d (I x59)),(68,.d (.fn 103 [.sptr (.agg [I r_3.1.Messages,I r_3.1.Labels,eSl 1 false (eI .i64) r_3.1.Channels,eSl 3 false ve r_3.1.Parts]),.sptr (I r_3.2.1),.sptr (.agg [.agg [I r_3.2.2.states_.e0,I r_3.2.2.states_.e1,I r_3.2.2.states_.e2,I r_3.2.2.states_.e3],.agg [.agg [I r_3.2.2.queues_.e0.many_,.agg [I r_3.2.2.queues_.e0.l_.e0,I r_3.2.2.queues_.e0.l_.e1,I r_3.2.2.queues_.e0.l_.e2,I r_3.2.2.queues_.e0.l_.e3]],.agg [I r_3.2.2.queues_.e1.many_,.agg [I r_3.2.2.queues_.e1.l_.e0,I r_3.2.2.queues_.e1.l_.e1,I r_3.2.2.queues_.e1.l_.e2,I r_3.2.2.queues_.e1.l_.e3]],.agg [I r_3.2.2.queues_.e2.many_,.agg [I r_3.2.2.queues_.e2.l_.e0,I r_3.2.2.queues_.e2.l_.e1,I r_3.2.2.queues_.e2.l_.e2,I r_3.2.2.queues_.e2.l_.e3]],.agg [I r_3.2.2.queues_.e3.many_,.agg [I r_3.2.2.queues_.e3.l_.e0,I r_3.2.2.queues_.e3.l_.e1,I r_3.2.2.queues_.e3.l_.e2,I r_3.2.2.queues_.e3.l_.e3]]]])]))] [Hq c6,Hc h0e (x := (x0,x1,x59)) h5 (loC x6 x0 <| loC xh x1 <| loC (eI .i64) x59 <| loN)] fun st0 h0 => ?_
          refine z3s (g := .tmp 68) (ps := [69,70]) (assign := (sub [1,1,0,0,1,1,2,0,1,1,0,1,0,1,1,1,1,0,0,1,1,2,0,1,1,1,0,0] zB)) (body := (sub [1,1,0,0,1,1,2,0,1,1,0,1,0,1,1,1,1,0,0,1,1,2,0,1,1,1,0,1] zB)) (K := 103) (caps := [.sptr (.agg [I r_3.1.Messages,I r_3.1.Labels,eSl 1 false (eI .i64) r_3.1.Channels,eSl 3 false ve r_3.1.Parts]),.sptr (I r_3.2.1),.sptr (.agg [.agg [I r_3.2.2.states_.e0,I r_3.2.2.states_.e1,I r_3.2.2.states_.e2,I r_3.2.2.states_.e3],.agg [.agg [I r_3.2.2.queues_.e0.many_,.agg [I r_3.2.2.queues_.e0.l_.e0,I r_3.2.2.queues_.e0.l_.e1,I r_3.2.2.queues_.e0.l_.e2,I r_3.2.2.queues_.e0.l_.e3]],.agg [I r_3.2.2.queues_.e1.many_,.agg [I r_3.2.2.queues_.e1.l_.e0,I r_3.2.2.queues_.e1.l_.e1,I r_3.2.2.queues_.e1.l_.e2,I r_3.2.2.queues_.e1.l_.e3]],.agg [I r_3.2.2.queues_.e2.many_,.agg [I r_3.2.2.queues_.e2.l_.e0,I r_3.2.2.queues_.e2.l_.e1,I r_3.2.2.queues_.e2.l_.e2,I r_3.2.2.queues_.e2.l_.e3]],.agg [I r_3.2.2.queues_.e3.many_,.agg [I r_3.2.2.queues_.e3.l_.e0,I r_3.2.2.queues_.e3.l_.e1,I r_3.2.2.queues_.e3.l_.e2,I r_3.2.2.queues_.e3.l_.e3]]]])]) (by kernel_rfl) [0,1,2,3,4,5,6,9,15,16,22,48,49,51,52,53,54,58,59,68] (fun s => yh x0 x1 yv YY x16 r_ x23 x24 Channel_e x59 r_3 s) (fun s => yh x0 x1 yv YY x16 r_ x23 x24 Channel_e x59 r_3 s) (fun s => Code.ret) ((fun (x : Int × zf) (_ : Bool) (_ : Value) => [(eI .i64) x.1,vN x.2])) (F := @yx r_3.1 r_3.2.1 r_3.2.2) (fun s x => xk x1 yy x16 x23 x24 x59 s x.1 x.2) sg4 t6 _ h0 inferInstance (by kernel_rfl) (by decide) (fun _ => rfl) (fun _ => rfl) (by kernel_rfl) (fun _ _ _ => rfl) (k8 hC r_3.1 r_3.2.1 r_3.2.2) ht6 ?_ ?_
          ·rintro tv6 sg6 ⟨x69,x70⟩ vr lr4 hf4
           refine z19 (sz := 110) (k := 0) (u := tv6 0) (v := yv) (ps := List.map (fun t => (t,tv6 t)) [1,2,3,4,5,6,9,15,16,22,48,49,51,52,53,54,58,59,68] ++ (List.map (fun t => (t,tv3 t)) [1,2,3,4,15,16,22] ++ ([(0,yv)]))) rfl (by simp) ?_
           replace hf4 : xk x1 yy x16 x23 x24 x59 sg6 x69 x70 = some lr4 := hf4
           unfold xk at hf4
           refine yF X0 hC .normal [(0,.own (.opq (YY sg6).q)),(1,.d (.sptr (x6 x0))),(2,.d (.sptr (xh x1))),(3,.own (.box (.atom yv))),(4,.own (.box (I x16))),(5,.own (.box (I x23))),(6,.own (.box (vN x24))),(9,.own (.box (I x59))),(10,.d (I x69)),(11,.own (.box (vN x70))),(15,.d (I ((x0.Parts.length : Nat) : Int))),(16,.d (I x16)),(22,.d (.fn 103 [.sptr (.agg [I r_.1.Messages,I r_.1.Labels,eSl 1 false (eI .i64) r_.1.Channels,eSl 3 false ve r_.1.Parts]),.sptr (I r_.2.1),.sptr (.agg [.agg [I r_.2.2.states_.e0,I r_.2.2.states_.e1,I r_.2.2.states_.e2,I r_.2.2.states_.e3],.agg [.agg [I r_.2.2.queues_.e0.many_,.agg [I r_.2.2.queues_.e0.l_.e0,I r_.2.2.queues_.e0.l_.e1,I r_.2.2.queues_.e0.l_.e2,I r_.2.2.queues_.e0.l_.e3]],.agg [I r_.2.2.queues_.e1.many_,.agg [I r_.2.2.queues_.e1.l_.e0,I r_.2.2.queues_.e1.l_.e1,I r_.2.2.queues_.e1.l_.e2,I r_.2.2.queues_.e1.l_.e3]],.agg [I r_.2.2.queues_.e2.many_,.agg [I r_.2.2.queues_.e2.l_.e0,I r_.2.2.queues_.e2.l_.e1,I r_.2.2.queues_.e2.l_.e2,I r_.2.2.queues_.e2.l_.e3]],.agg [I r_.2.2.queues_.e3.many_,.agg [I r_.2.2.queues_.e3.l_.e0,I r_.2.2.queues_.e3.l_.e1,I r_.2.2.queues_.e3.l_.e2,I r_.2.2.queues_.e3.l_.e3]]]])])),(48,.d (.sptr (eSl 1 false (eI .i64) x0.Channels))),(49,.d (eSl 1 false (eI .i64) x0.Channels)),(51,.d (I x24.Channel)),(52,.d (.sptr (I Channel_e))),(53,.d (I Channel_e)),(54,.d (B (decide (Channel_e > 0)))),(58,.d (I ((x0.Parts.length : Nat) : Int))),(59,.d (I x59)),(68,.d (.fn 103 [.sptr (.agg [I r_3.1.Messages,I r_3.1.Labels,eSl 1 false (eI .i64) r_3.1.Channels,eSl 3 false ve r_3.1.Parts]),.sptr (I r_3.2.1),.sptr (.agg [.agg [I r_3.2.2.states_.e0,I r_3.2.2.states_.e1,I r_3.2.2.states_.e2,I r_3.2.2.states_.e3],.agg [.agg [I r_3.2.2.queues_.e0.many_,.agg [I r_3.2.2.queues_.e0.l_.e0,I r_3.2.2.queues_.e0.l_.e1,I r_3.2.2.queues_.e0.l_.e2,I r_3.2.2.queues_.e0.l_.e3]],.agg [I r_3.2.2.queues_.e1.many_,.agg [I r_3.2.2.queues_.e1.l_.e0,I r_3.2.2.queues_.e1.l_.e1,I r_3.2.2.queues_.e1.l_.e2,I r_3.2.2.queues_.e1.l_.e3]],.agg [I r_3.2.2.queues_.e2.many_,.agg [I r_3.2.2.queues_.e2.l_.e0,I r_3.2.2.queues_.e2.l_.e1,I r_3.2.2.queues_.e2.l_.e2,I r_3.2.2.queues_.e2.l_.e3]],.agg [I r_3.2.2.queues_.e3.many_,.agg [I r_3.2.2.queues_.e3.l_.e0,I r_3.2.2.queues_.e3.l_.e1,I r_3.2.2.queues_.e3.l_.e2,I r_3.2.2.queues_.e3.l_.e3]]]])]))] [] fun st0 h0 => ⟨rfl,z3r h0 ?_⟩
           refine z19 (sz := 110) (k := 0) (u := tv6 0) (v := yv) (ps := List.map (fun t => (t,tv6 t)) [1,2,3,4,5,6,9,15,16,22,48,49,51,52,53,54,58,59,68] ++ (List.map (fun t => (t,tv3 t)) [1,2,3,4,15,16,22] ++ ([(0,yv)]))) rfl (by simp) ?_
           rcases zS hf4 with ⟨c7,hf4⟩ | ⟨c7,hf4⟩
           ·obtain rfl := zl hf4
            exact yF X0 hC .normal (yh x0 x1 yv YY x16 r_ x23 x24 Channel_e x59 r_3 sg6) (rpN 6 (Hq c7) (rpN 7 qT [])) fun st0 h0 => ⟨rfl,_,h0,LeL.refl _⟩
           ·let Z3 : List HO := (rpN 6 (Hq c7) [])
            rcases zS hf4 with ⟨c8,hf4⟩ | ⟨c8,hf4⟩
            ·obtain rfl := zl hf4
             exact yF X0 hC .normal (yh x0 x1 yv YY x16 r_ x23 x24 Channel_e x59 r_3 sg6) (Z3 ++ (rpN 6 (Hq c8) [qT])) fun st0 h0 => ⟨rfl,_,h0,LeL.refl _⟩
            ·let Z4 : List HO := (Z3 ++ (rpN 6 (Hq c8) []))
             rcases zS hf4 with ⟨c9,hf4⟩ | ⟨c9,hf4⟩
             ·obtain rfl := zl hf4
              exact yF X0 hC .normal (yh x0 x1 yv YY x16 r_ x23 x24 Channel_e x59 r_3 sg6) (Z4 ++ [Hq c9]) fun st0 h0 => ⟨rfl,_,h0,LeL.refl _⟩
             ·refine yA X0 hC zB [1,1,0,0,1,1,2,0,1,1,0,1,0,1,1,1,1,0,0,1,1,2,0,1,1,1,0,1,0,1,1] [J1,J2,J4,J5] [(0,.own (.opq (YY sg6).q)),(1,.d (.sptr (x6 x0))),(2,.d (.sptr (xh x1))),(3,.own (.box (.atom yv))),(4,.own (.box (I x16))),(5,.own (.box (I x23))),(6,.own (.box (vN x24))),(9,.own (.box (I x59))),(10,.d (I x69)),(11,.own (.box (vN x70))),(12,.own (.box (xh x1))),(15,.d (I ((x0.Parts.length : Nat) : Int))),(16,.d (I x16)),(22,.d (.fn 103 [.sptr (.agg [I r_.1.Messages,I r_.1.Labels,eSl 1 false (eI .i64) r_.1.Channels,eSl 3 false ve r_.1.Parts]),.sptr (I r_.2.1),.sptr (.agg [.agg [I r_.2.2.states_.e0,I r_.2.2.states_.e1,I r_.2.2.states_.e2,I r_.2.2.states_.e3],.agg [.agg [I r_.2.2.queues_.e0.many_,.agg [I r_.2.2.queues_.e0.l_.e0,I r_.2.2.queues_.e0.l_.e1,I r_.2.2.queues_.e0.l_.e2,I r_.2.2.queues_.e0.l_.e3]],.agg [I r_.2.2.queues_.e1.many_,.agg [I r_.2.2.queues_.e1.l_.e0,I r_.2.2.queues_.e1.l_.e1,I r_.2.2.queues_.e1.l_.e2,I r_.2.2.queues_.e1.l_.e3]],.agg [I r_.2.2.queues_.e2.many_,.agg [I r_.2.2.queues_.e2.l_.e0,I r_.2.2.queues_.e2.l_.e1,I r_.2.2.queues_.e2.l_.e2,I r_.2.2.queues_.e2.l_.e3]],.agg [I r_.2.2.queues_.e3.many_,.agg [I r_.2.2.queues_.e3.l_.e0,I r_.2.2.queues_.e3.l_.e1,I r_.2.2.queues_.e3.l_.e2,I r_.2.2.queues_.e3.l_.e3]]]])])),(48,.d (.sptr (eSl 1 false (eI .i64) x0.Channels))),(49,.d (eSl 1 false (eI .i64) x0.Channels)),(51,.d (I x24.Channel)),(52,.d (.sptr (I Channel_e))),(53,.d (I Channel_e)),(54,.d (B (decide (Channel_e > 0)))),(58,.d (I ((x0.Parts.length : Nat) : Int))),(59,.d (I x59)),(68,.d (.fn 103 [.sptr (.agg [I r_3.1.Messages,I r_3.1.Labels,eSl 1 false (eI .i64) r_3.1.Channels,eSl 3 false ve r_3.1.Parts]),.sptr (I r_3.2.1),.sptr (.agg [.agg [I r_3.2.2.states_.e0,I r_3.2.2.states_.e1,I r_3.2.2.states_.e2,I r_3.2.2.states_.e3],.agg [.agg [I r_3.2.2.queues_.e0.many_,.agg [I r_3.2.2.queues_.e0.l_.e0,I r_3.2.2.queues_.e0.l_.e1,I r_3.2.2.queues_.e0.l_.e2,I r_3.2.2.queues_.e0.l_.e3]],.agg [I r_3.2.2.queues_.e1.many_,.agg [I r_3.2.2.queues_.e1.l_.e0,I r_3.2.2.queues_.e1.l_.e1,I r_3.2.2.queues_.e1.l_.e2,I r_3.2.2.queues_.e1.l_.e3]],.agg [I r_3.2.2.queues_.e2.many_,.agg [I r_3.2.2.queues_.e2.l_.e0,I r_3.2.2.queues_.e2.l_.e1,I r_3.2.2.queues_.e2.l_.e2,I r_3.2.2.queues_.e2.l_.e3]],.agg [I r_3.2.2.queues_.e3.many_,.agg [I r_3.2.2.queues_.e3.l_.e0,I r_3.2.2.queues_.e3.l_.e1,I r_3.2.2.queues_.e3.l_.e2,I r_3.2.2.queues_.e3.l_.e3]]]])])),(76,.d (I x70.Channel)),(78,.d (I x24.Channel)),(79,.d (B (x70.Channel != x24.Channel))),(83,.d (I x70.Message)),(85,.d (I x24.Message)),(86,.d (B (x70.Message != x24.Message)))] (Z4 ++ [Hq c9,Hh (.cut 1)]) ?_
              obtain ⟨cell,h6,hf4⟩ := zo hf4
              obtain ⟨arr,h7,hf4⟩ := zo hf4
              replace h7 := zl h7
              obtain ⟨cell1,h8,hf4⟩ := zo hf4
              obtain ⟨arr1,h9,hf4⟩ := zo hf4
              replace h9 := zl h9
              refine z6g (by kernel_rfl) (x := (sub [1,1,0,0,1,1,2,0,1,1,0,1,0,1,1,1,1,0,0,1,1,2,0,1,1,1,0,1,0,1,1,0] zB)) (y := (sub [1,1,0,0,1,1,2,0,1,1,0,1,0,1,1,1,1,0,0,1,1,2,0,1,1,1,0,1,0,1,1,1] zB)) 12 (fun st1 => Own.canon [0,1,2,3,4,5,6,9,10,12,15,16,22,48,49,51,52,53,54,58,59,68,76,78,79,83,85,86] st1 = ofL [(0,.own (.opq (YY sg6).q)),(1,.d (.sptr (x6 x0))),(2,.d (.sptr (xh x1))),(3,.own (.box (.atom yv))),(4,.own (.box (I x16))),(5,.own (.box (I x23))),(6,.own (.box (vN x24))),(9,.own (.box (I x59))),(10,.d (I x69)),(12,.own (.box (.agg [F0_ arr1,zaO x1.queues_]))),(15,.d (I ((x0.Parts.length : Nat) : Int))),(16,.d (I x16)),(22,.d (.fn 103 [.sptr (.agg [I r_.1.Messages,I r_.1.Labels,eSl 1 false (eI .i64) r_.1.Channels,eSl 3 false ve r_.1.Parts]),.sptr (I r_.2.1),.sptr (.agg [.agg [I r_.2.2.states_.e0,I r_.2.2.states_.e1,I r_.2.2.states_.e2,I r_.2.2.states_.e3],.agg [.agg [I r_.2.2.queues_.e0.many_,.agg [I r_.2.2.queues_.e0.l_.e0,I r_.2.2.queues_.e0.l_.e1,I r_.2.2.queues_.e0.l_.e2,I r_.2.2.queues_.e0.l_.e3]],.agg [I r_.2.2.queues_.e1.many_,.agg [I r_.2.2.queues_.e1.l_.e0,I r_.2.2.queues_.e1.l_.e1,I r_.2.2.queues_.e1.l_.e2,I r_.2.2.queues_.e1.l_.e3]],.agg [I r_.2.2.queues_.e2.many_,.agg [I r_.2.2.queues_.e2.l_.e0,I r_.2.2.queues_.e2.l_.e1,I r_.2.2.queues_.e2.l_.e2,I r_.2.2.queues_.e2.l_.e3]],.agg [I r_.2.2.queues_.e3.many_,.agg [I r_.2.2.queues_.e3.l_.e0,I r_.2.2.queues_.e3.l_.e1,I r_.2.2.queues_.e3.l_.e2,I r_.2.2.queues_.e3.l_.e3]]]])])),(48,.d (.sptr (eSl 1 false (eI .i64) x0.Channels))),(49,.d (eSl 1 false (eI .i64) x0.Channels)),(51,.d (I x24.Channel)),(52,.d (.sptr (I Channel_e))),(53,.d (I Channel_e)),(54,.d (B (decide (Channel_e > 0)))),(58,.d (I ((x0.Parts.length : Nat) : Int))),(59,.d (I x59)),(68,.d (.fn 103 [.sptr (.agg [I r_3.1.Messages,I r_3.1.Labels,eSl 1 false (eI .i64) r_3.1.Channels,eSl 3 false ve r_3.1.Parts]),.sptr (I r_3.2.1),.sptr (.agg [.agg [I r_3.2.2.states_.e0,I r_3.2.2.states_.e1,I r_3.2.2.states_.e2,I r_3.2.2.states_.e3],.agg [.agg [I r_3.2.2.queues_.e0.many_,.agg [I r_3.2.2.queues_.e0.l_.e0,I r_3.2.2.queues_.e0.l_.e1,I r_3.2.2.queues_.e0.l_.e2,I r_3.2.2.queues_.e0.l_.e3]],.agg [I r_3.2.2.queues_.e1.many_,.agg [I r_3.2.2.queues_.e1.l_.e0,I r_3.2.2.queues_.e1.l_.e1,I r_3.2.2.queues_.e1.l_.e2,I r_3.2.2.queues_.e1.l_.e3]],.agg [I r_3.2.2.queues_.e2.many_,.agg [I r_3.2.2.queues_.e2.l_.e0,I r_3.2.2.queues_.e2.l_.e1,I r_3.2.2.queues_.e2.l_.e2,I r_3.2.2.queues_.e2.l_.e3]],.agg [I r_3.2.2.queues_.e3.many_,.agg [I r_3.2.2.queues_.e3.l_.e0,I r_3.2.2.queues_.e3.l_.e1,I r_3.2.2.queues_.e3.l_.e2,I r_3.2.2.queues_.e3.l_.e3]]]])])),(76,.d (I x70.Channel)),(78,.d (I x24.Channel)),(79,.d (B (x70.Channel != x24.Channel))),(83,.d (I x70.Message)),(85,.d (I x24.Message)),(86,.d (B (x70.Message != x24.Message)))]) ⟨_,rfl⟩ (fun b12 => yF ((xIa y5 98 12 0 b12).or ((xFa y5 97 12 0 b12).or ((xIa y5 96 12 0 b12).or ((xFa y5 95 12 0 b12).or X0)))) hC .normal [(0,.own (.opq (YY sg6).q)),(1,.d (.sptr (x6 x0))),(2,.d (.sptr (xh x1))),(3,.own (.box (.atom yv))),(4,.own (.box (I x16))),(5,.own (.box (I x23))),(6,.own (.box (vN x24))),(9,.own (.box (I x59))),(10,.d (I x69)),(12,.own (.box (.agg [F0_ arr1,zaO x1.queues_]))),(15,.d (I ((x0.Parts.length : Nat) : Int))),(16,.d (I x16)),(22,.d (.fn 103 [.sptr (.agg [I r_.1.Messages,I r_.1.Labels,eSl 1 false (eI .i64) r_.1.Channels,eSl 3 false ve r_.1.Parts]),.sptr (I r_.2.1),.sptr (.agg [.agg [I r_.2.2.states_.e0,I r_.2.2.states_.e1,I r_.2.2.states_.e2,I r_.2.2.states_.e3],.agg [.agg [I r_.2.2.queues_.e0.many_,.agg [I r_.2.2.queues_.e0.l_.e0,I r_.2.2.queues_.e0.l_.e1,I r_.2.2.queues_.e0.l_.e2,I r_.2.2.queues_.e0.l_.e3]],.agg [I r_.2.2.queues_.e1.many_,.agg [I r_.2.2.queues_.e1.l_.e0,I r_.2.2.queues_.e1.l_.e1,I r_.2.2.queues_.e1.l_.e2,I r_.2.2.queues_.e1.l_.e3]],.agg [I r_.2.2.queues_.e2.many_,.agg [I r_.2.2.queues_.e2.l_.e0,I r_.2.2.queues_.e2.l_.e1,I r_.2.2.queues_.e2.l_.e2,I r_.2.2.queues_.e2.l_.e3]],.agg [I r_.2.2.queues_.e3.many_,.agg [I r_.2.2.queues_.e3.l_.e0,I r_.2.2.queues_.e3.l_.e1,I r_.2.2.queues_.e3.l_.e2,I r_.2.2.queues_.e3.l_.e3]]]])])),(48,.d (.sptr (eSl 1 false (eI .i64) x0.Channels))),(49,.d (eSl 1 false (eI .i64) x0.Channels)),(51,.d (I x24.Channel)),(52,.d (.sptr (I Channel_e))),(53,.d (I Channel_e)),(54,.d (B (decide (Channel_e > 0)))),(58,.d (I ((x0.Parts.length : Nat) : Int))),(59,.d (I x59)),(68,.d (.fn 103 [.sptr (.agg [I r_3.1.Messages,I r_3.1.Labels,eSl 1 false (eI .i64) r_3.1.Channels,eSl 3 false ve r_3.1.Parts]),.sptr (I r_3.2.1),.sptr (.agg [.agg [I r_3.2.2.states_.e0,I r_3.2.2.states_.e1,I r_3.2.2.states_.e2,I r_3.2.2.states_.e3],.agg [.agg [I r_3.2.2.queues_.e0.many_,.agg [I r_3.2.2.queues_.e0.l_.e0,I r_3.2.2.queues_.e0.l_.e1,I r_3.2.2.queues_.e0.l_.e2,I r_3.2.2.queues_.e0.l_.e3]],.agg [I r_3.2.2.queues_.e1.many_,.agg [I r_3.2.2.queues_.e1.l_.e0,I r_3.2.2.queues_.e1.l_.e1,I r_3.2.2.queues_.e1.l_.e2,I r_3.2.2.queues_.e1.l_.e3]],.agg [I r_3.2.2.queues_.e2.many_,.agg [I r_3.2.2.queues_.e2.l_.e0,I r_3.2.2.queues_.e2.l_.e1,I r_3.2.2.queues_.e2.l_.e2,I r_3.2.2.queues_.e2.l_.e3]],.agg [I r_3.2.2.queues_.e3.many_,.agg [I r_3.2.2.queues_.e3.l_.e0,I r_3.2.2.queues_.e3.l_.e1,I r_3.2.2.queues_.e3.l_.e2,I r_3.2.2.queues_.e3.l_.e3]]]])])),(76,.d (I x70.Channel)),(78,.d (I x24.Channel)),(79,.d (B (x70.Channel != x24.Channel))),(83,.d (I x70.Message)),(85,.d (I x24.Message)),(86,.d (B (x70.Message != x24.Message)))] [Hn (rfl : some (z1Q b12) = some (z1Q b12)),Hn (⟨rfl,rfl⟩ : T.d (.atom (.pointer (some ⟨b12,0,none⟩))) = T.d (.atom (.pointer (some ⟨b12,0,none⟩))) ∧ some (z1Q b12) = some (z1Q b12)),Hn (⟨arJ (by kernel_rfl) (i0 h6),(iL (eI .i64) h6).2⟩ : Xe wl 110 ((ya.toL x1.states_).map (eI .i64)) x16 = true ∧ x16.toNat < ((ya.toL x1.states_).map (eI .i64)).length),Hh (.op 8),Hh (.f),Hx (.a (.agg [I x1.states_.e0,I x1.states_.e1,I x1.states_.e2,I x1.states_.e3])) (rfl : some (.agg [I x1.states_.e0,I x1.states_.e1,I x1.states_.e2,I x1.states_.e3] : A) = some (.agg [I x1.states_.e0,I x1.states_.e1,I x1.states_.e2,I x1.states_.e3])),Hh (.f),Hs (iM (eI .i64) h6),Hh (.f),Hx (.a (.agg [I x1.states_.e0,I x1.states_.e1,I x1.states_.e2,I x1.states_.e3])) (rfl : some (.agg [I x1.states_.e0,I x1.states_.e1,I x1.states_.e2,I x1.states_.e3] : A) = some (.agg [I x1.states_.e0,I x1.states_.e1,I x1.states_.e2,I x1.states_.e3])),Hh (.f),Hs (iM (eI .i64) h6),Hx (.l ((ya.toL arr).map (eI .i64))) ((ya.setL (eI .i64) x1.states_ x16 x24.To).trans (congrArg (fun q => (ya.toL q).map (eI .i64)) h7)),Hx (.l [.agg [I arr.e0,I arr.e1,I arr.e2,I arr.e3],.agg [.agg [I x1.queues_.e0.many_,.agg [I x1.queues_.e0.l_.e0,I x1.queues_.e0.l_.e1,I x1.queues_.e0.l_.e2,I x1.queues_.e0.l_.e3]],.agg [I x1.queues_.e1.many_,.agg [I x1.queues_.e1.l_.e0,I x1.queues_.e1.l_.e1,I x1.queues_.e1.l_.e2,I x1.queues_.e1.l_.e3]],.agg [I x1.queues_.e2.many_,.agg [I x1.queues_.e2.l_.e0,I x1.queues_.e2.l_.e1,I x1.queues_.e2.l_.e2,I x1.queues_.e2.l_.e3]],.agg [I x1.queues_.e3.many_,.agg [I x1.queues_.e3.l_.e0,I x1.queues_.e3.l_.e1,I x1.queues_.e3.l_.e2,I x1.queues_.e3.l_.e3]]]]) (rfl : ([.agg [I arr.e0,I arr.e1,I arr.e2,I arr.e3],.agg [.agg [I x1.queues_.e0.many_,.agg [I x1.queues_.e0.l_.e0,I x1.queues_.e0.l_.e1,I x1.queues_.e0.l_.e2,I x1.queues_.e0.l_.e3]],.agg [I x1.queues_.e1.many_,.agg [I x1.queues_.e1.l_.e0,I x1.queues_.e1.l_.e1,I x1.queues_.e1.l_.e2,I x1.queues_.e1.l_.e3]],.agg [I x1.queues_.e2.many_,.agg [I x1.queues_.e2.l_.e0,I x1.queues_.e2.l_.e1,I x1.queues_.e2.l_.e2,I x1.queues_.e2.l_.e3]],.agg [I x1.queues_.e3.many_,.agg [I x1.queues_.e3.l_.e0,I x1.queues_.e3.l_.e1,I x1.queues_.e3.l_.e2,I x1.queues_.e3.l_.e3]]]] : List A) = [.agg [I arr.e0,I arr.e1,I arr.e2,I arr.e3],.agg [.agg [I x1.queues_.e0.many_,.agg [I x1.queues_.e0.l_.e0,I x1.queues_.e0.l_.e1,I x1.queues_.e0.l_.e2,I x1.queues_.e0.l_.e3]],.agg [I x1.queues_.e1.many_,.agg [I x1.queues_.e1.l_.e0,I x1.queues_.e1.l_.e1,I x1.queues_.e1.l_.e2,I x1.queues_.e1.l_.e3]],.agg [I x1.queues_.e2.many_,.agg [I x1.queues_.e2.l_.e0,I x1.queues_.e2.l_.e1,I x1.queues_.e2.l_.e2,I x1.queues_.e2.l_.e3]],.agg [I x1.queues_.e3.many_,.agg [I x1.queues_.e3.l_.e0,I x1.queues_.e3.l_.e1,I x1.queues_.e3.l_.e2,I x1.queues_.e3.l_.e3]]]]),Hn (rfl : some (z1Q b12) = some (z1Q b12)),Hn (⟨rfl,rfl⟩ : T.d (.atom (.pointer (some ⟨b12,0,none⟩))) = T.d (.atom (.pointer (some ⟨b12,0,none⟩))) ∧ some (z1Q b12) = some (z1Q b12)),Hn (⟨arJ (by kernel_rfl) (i0 h8),(iL (eI .i64) h8).2⟩ : Xe wl 110 ((ya.toL arr).map (eI .i64)) x59 = true ∧ x59.toNat < ((ya.toL arr).map (eI .i64)).length),Hh (.op 2),Hh (.f),Hx (.a (.agg [I arr.e0,I arr.e1,I arr.e2,I arr.e3])) (rfl : some (.agg [I arr.e0,I arr.e1,I arr.e2,I arr.e3] : A) = some (.agg [I arr.e0,I arr.e1,I arr.e2,I arr.e3])),Hh (.f),Hs (iM (eI .i64) h8),Hh (.f),Hx (.a (.agg [I arr.e0,I arr.e1,I arr.e2,I arr.e3])) (rfl : some (.agg [I arr.e0,I arr.e1,I arr.e2,I arr.e3] : A) = some (.agg [I arr.e0,I arr.e1,I arr.e2,I arr.e3])),Hh (.f),Hs (iM (eI .i64) h8),Hx (.l ((ya.toL arr1).map (eI .i64))) ((ya.setL (eI .i64) arr x59 x70.To).trans (congrArg (fun q => (ya.toL q).map (eI .i64)) h9)),Hx (.l [.agg [I arr1.e0,I arr1.e1,I arr1.e2,I arr1.e3],.agg [.agg [I x1.queues_.e0.many_,.agg [I x1.queues_.e0.l_.e0,I x1.queues_.e0.l_.e1,I x1.queues_.e0.l_.e2,I x1.queues_.e0.l_.e3]],.agg [I x1.queues_.e1.many_,.agg [I x1.queues_.e1.l_.e0,I x1.queues_.e1.l_.e1,I x1.queues_.e1.l_.e2,I x1.queues_.e1.l_.e3]],.agg [I x1.queues_.e2.many_,.agg [I x1.queues_.e2.l_.e0,I x1.queues_.e2.l_.e1,I x1.queues_.e2.l_.e2,I x1.queues_.e2.l_.e3]],.agg [I x1.queues_.e3.many_,.agg [I x1.queues_.e3.l_.e0,I x1.queues_.e3.l_.e1,I x1.queues_.e3.l_.e2,I x1.queues_.e3.l_.e3]]]]) (rfl : ([.agg [I arr1.e0,I arr1.e1,I arr1.e2,I arr1.e3],.agg [.agg [I x1.queues_.e0.many_,.agg [I x1.queues_.e0.l_.e0,I x1.queues_.e0.l_.e1,I x1.queues_.e0.l_.e2,I x1.queues_.e0.l_.e3]],.agg [I x1.queues_.e1.many_,.agg [I x1.queues_.e1.l_.e0,I x1.queues_.e1.l_.e1,I x1.queues_.e1.l_.e2,I x1.queues_.e1.l_.e3]],.agg [I x1.queues_.e2.many_,.agg [I x1.queues_.e2.l_.e0,I x1.queues_.e2.l_.e1,I x1.queues_.e2.l_.e2,I x1.queues_.e2.l_.e3]],.agg [I x1.queues_.e3.many_,.agg [I x1.queues_.e3.l_.e0,I x1.queues_.e3.l_.e1,I x1.queues_.e3.l_.e2,I x1.queues_.e3.l_.e3]]]] : List A) = [.agg [I arr1.e0,I arr1.e1,I arr1.e2,I arr1.e3],.agg [.agg [I x1.queues_.e0.many_,.agg [I x1.queues_.e0.l_.e0,I x1.queues_.e0.l_.e1,I x1.queues_.e0.l_.e2,I x1.queues_.e0.l_.e3]],.agg [I x1.queues_.e1.many_,.agg [I x1.queues_.e1.l_.e0,I x1.queues_.e1.l_.e1,I x1.queues_.e1.l_.e2,I x1.queues_.e1.l_.e3]],.agg [I x1.queues_.e2.many_,.agg [I x1.queues_.e2.l_.e0,I x1.queues_.e2.l_.e1,I x1.queues_.e2.l_.e2,I x1.queues_.e2.l_.e3]],.agg [I x1.queues_.e3.many_,.agg [I x1.queues_.e3.l_.e0,I x1.queues_.e3.l_.e1,I x1.queues_.e3.l_.e2,I x1.queues_.e3.l_.e3]]]])] fun st0 h0 => ⟨rfl,h0⟩) fun st1 h1 => z3r h1 ?_
              obtain ⟨yr1,h10,hf4⟩ := zo hf4
              let Z5 : List HO := [Hn (⟨rfl,rfl,_,rfl⟩ : T.own (.box (.atom yv)) = T.own (.box (.atom yv)) ∧ some yv = some yv ∧ ∃ x,T.own (.opq (YY sg6).q) = T.own x),Hn (z2Q (yv := yv) (Y := YY) (enc := (fun (x : ze × zb) (_ : Bool) (_ : Value) => [vM x.1,xh x.2])) (s := sg6) (x := ((ze.mk x16 x23 x59 x69),(zb.mk arr1 x1.queues_))) (s' := yr1.1) (b := yr1.2) (v := .nilFunc) [vM (ze.mk x16 x23 x59 x69),xh (zb.mk arr1 x1.queues_)] (show z1f [vM (ze.mk x16 x23 x59 x69),xh (zb.mk arr1 x1.queues_)] [vM (ze.mk x16 x23 x59 x69),xh (zb.mk arr1 x1.queues_)] from inferInstance))]
              rcases zS hf4 with ⟨c10,hf4⟩ | ⟨c10,hf4⟩
              ·obtain rfl := zl hf4
               exact yF ((z02 (P := Tryz.prog) wl hy 106 (s := sg6) (x := ((ze.mk x16 x23 x59 x69),(zb.mk arr1 x1.queues_))) (s' := yr1.1) (b := yr1.2) .nilFunc h10).or ((xLy y5 99 3 0 yv).or X0)) hC .ret (yh x0 x1 yv YY x16 r_ x23 x24 Channel_e x59 r_3 yr1.1) (Z5 ++ [Hq c10]) fun st0 h0 => ⟨rfl,_,h0,LeL.refl _⟩
              ·obtain rfl := zl hf4
               exact yF ((z02 (P := Tryz.prog) wl hy 106 (s := sg6) (x := ((ze.mk x16 x23 x59 x69),(zb.mk arr1 x1.queues_))) (s' := yr1.1) (b := yr1.2) .nilFunc h10).or ((xLy y5 99 3 0 yv).or X0)) hC .normal (yh x0 x1 yv YY x16 r_ x23 x24 Channel_e x59 r_3 yr1.1) (Z5 ++ [Hq c10]) fun st0 h0 => ⟨rfl,_,h0,LeL.refl _⟩
          ·rcases t6 with sg6 | sg6
           ·dsimp only at hf3
            exact Ur (by kernel_rfl) (hJ5 _ [(0,.own (.opq (YY sg6).q)),(1,.d (.sptr (x6 x0))),(2,.d (.sptr (xh x1))),(3,.own (.box (.atom yv))),(4,.own (.box (I x16))),(5,.own (.box (I x23))),(6,.own (.box (vN x24))),(15,.d (I ((x0.Parts.length : Nat) : Int))),(16,.d (I x16)),(22,.d (.fn 103 [.sptr (.agg [I r_.1.Messages,I r_.1.Labels,eSl 1 false (eI .i64) r_.1.Channels,eSl 3 false ve r_.1.Parts]),.sptr (I r_.2.1),.sptr (.agg [.agg [I r_.2.2.states_.e0,I r_.2.2.states_.e1,I r_.2.2.states_.e2,I r_.2.2.states_.e3],.agg [.agg [I r_.2.2.queues_.e0.many_,.agg [I r_.2.2.queues_.e0.l_.e0,I r_.2.2.queues_.e0.l_.e1,I r_.2.2.queues_.e0.l_.e2,I r_.2.2.queues_.e0.l_.e3]],.agg [I r_.2.2.queues_.e1.many_,.agg [I r_.2.2.queues_.e1.l_.e0,I r_.2.2.queues_.e1.l_.e1,I r_.2.2.queues_.e1.l_.e2,I r_.2.2.queues_.e1.l_.e3]],.agg [I r_.2.2.queues_.e2.many_,.agg [I r_.2.2.queues_.e2.l_.e0,I r_.2.2.queues_.e2.l_.e1,I r_.2.2.queues_.e2.l_.e2,I r_.2.2.queues_.e2.l_.e3]],.agg [I r_.2.2.queues_.e3.many_,.agg [I r_.2.2.queues_.e3.l_.e0,I r_.2.2.queues_.e3.l_.e1,I r_.2.2.queues_.e3.l_.e2,I r_.2.2.queues_.e3.l_.e3]]]])])),(48,.d (.sptr (eSl 1 false (eI .i64) x0.Channels))),(49,.d (eSl 1 false (eI .i64) x0.Channels)),(51,.d (I x24.Channel)),(52,.d (.sptr (I Channel_e))),(53,.d (I Channel_e)),(54,.d (B (decide (Channel_e > 0)))),(58,.d (I ((x0.Parts.length : Nat) : Int))),(59,.d (I x59))] sg6 hf3 (show Own.canon [0,1,2,3,4,5,6,15,16,22,48,49,51,52,53,54,58,59] _ = ofL _ by kernel_rfl) inferInstance)
           ·dsimp only at hf3
            show AWP _ _ (Code.ret) _ _
            obtain rfl := zl hf3
            obtain rfl := hl3
            obtain rfl := zl hf2
            exact yF X0 hC .ret (y7 x0 x1 yv YY x16 r_ sg6) [] fun st0 h0 => ⟨rfl,_,h0,LeL.refl _⟩
       ·obtain rfl := zl hf3
        obtain rfl := hl3
        obtain rfl := zl hf2
        exact yF X0 hC .normal (y7 x0 x1 yv YY x16 r_ sg4) [Hq c5] fun st0 h0 => ⟨rfl,_,h0,LeL.refl _⟩
   ·rcases t3 with sg3 | sg3
    ·dsimp only at hf1
     exact Ur (by kernel_rfl) (hJ2 _ [(0,.own (.opq (YY sg3).q)),(1,.d (.sptr (x6 x0))),(2,.d (.sptr (xh x1))),(3,.own (.box (.atom yv))),(15,.d (I ((x0.Parts.length : Nat) : Int))),(16,.d (I x16))] sg3 hf1 (show Own.canon [0,1,2,3,15,16] _ = ofL _ by kernel_rfl) inferInstance)
    ·dsimp only at hf1
     show AWP _ _ (Code.ret) _ _
     obtain rfl := zl hf1
     obtain rfl := hl1
     obtain rfl := zl hf0
     exact yF X0 hC .ret [(0,.own (.opq (YY sg3).q))] [] fun st0 h0 => hE _ st0 (.inr rfl) h0
 ·obtain rfl := zl hf1
  obtain rfl := hl1
  obtain rfl := zl hf0
  exact yF X0 hC .normal [(0,.own (.opq (YY sg1).q))] [Hq c0] fun st0 h0 => hE _ st0 (.inl rfl) h0
def qC : Code := (Tryz.f71.body).getD .skip
def xo : xi := spF (α := List z6) (ρ := List z6) 71 (fun x => [qR x]) (fun r => wH r) (fun x => ye x) [] (Ja)
theorem qL {ctr : Ctr} (hC : zZ Tryz.prog ctr) : xo.Ok Tryz.prog := by
 refine yc ?_
 rintro s_ r0 hf0
 try unfold ye at hf0
 refine yO true [(2,none)] qC 9 Tryz.func71 fun E hE => ?_
 obtain ⟨g0,hf0⟩ := gdE hf0
 obtain rfl := zl hf0
 exact yE X0 hC hE [Ha (lnM qB s_),Ha (lnM qB s_),Hn (slB g0),Hn (slC g0),Hn (z4r qB g0),Ha (zaQ 5 qB s_ 0 ((s_.length : Nat) : Int).toNat)]
def uf : Code := (Tryz.f72.body).getD .skip
def zN : xi := spR (α := List (List z6)) (ρ := List (List z6)) 72 (fun x => [(eOs 1 false wH) x]) (fun r => (eOs 1 true wH) r) (fun x => yn x) [true] (Ja)
theorem u7 : ∀ x r,(fun x => yn x) x = some r → (Ky.add zN).run 72 ((Ky.add zN).norm 72 ((fun x => [(eOs 1 false wH) x]) x)) = some ((fun r => (eOs 1 true wH) r) r) := fun x r h => zhy h rfl
theorem u9 : (Ky.add zN).lend 72 = none ∧ (Ky.add zN).gives 72 = [true] := zeJ
theorem uh {ctr : Ctr} (hC : zZ Tryz.prog ctr) : zN.Ok Tryz.prog := by
 refine zbw ?_
 rintro s_ r0 hf0
 try unfold yn at hf0
 refine yO true [(2,none)] uf 9 Tryz.func72 fun E hE => ?_
 obtain rfl := zl hf0
 exact yE ((xCl y5 8).or X0) hC hE [Ha (lnM wH s_),Ha (lnM wH s_),Hn (Int.natCast_nonneg _ : (0 : Int) ≤ ((s_.length : Nat) : Int)),Hn (Int.natCast_nonneg _ : (0 : Int) ≤ ((s_.length : Nat) : Int)),Hn (clB wH s_),Ha (clE 1 wH s_)]
def y8 : Code := (Tryz.f41.body).getD .skip
def w6 : xi := spF (α := z8) (ρ := List zb × List (List z6) × Int) 41 (fun x => [x6 x]) (fun r => .tup [(eSl 24 false xh) r.1,z3v r.2.1,(eI .i64) r.2.2]) (fun x => zM x) [] (Ja)
abbrev Yk (x4 : Int) (list : List zb) (steps : List (List z6)) : List (Nat × T) := [(2,.own (.box (eOs 24 true xh []))),(3,.own (.box (eOs 1 true qR []))),(4,.own (.box (I x4))),(5,.own (.box (eOs 24 false xh list))),(7,.own (eOs 1 false wH steps))]
abbrev Yj (x_ : z8) (i_ : Int) (x42 : Int) (list2 : List zb) (at_1 : List (zb × Int)) (steps2 : List (List z6)) : List (Nat × T) := [(1,.own (.box (x6 x_))),(2,.own (.box (eOs 24 true xh []))),(3,.own (.box (eOs 1 true qR []))),(4,.own (.box (I x42))),(5,.own (.box (eOs 24 false xh list2))),(6,.own (.box (.opq (Xt (YW xh (eI .i64) at_1))))),(7,.own (eOs 1 false wH steps2)),(8,.d (I i_))]
abbrev Yi (x_ : z8) (steps1 : List (List z6)) (i_ : Int) (x43 : Int) (list3 : List zb) (at_2 : List (zb × Int)) (l_ : List z6) : List (Nat × T) := [(1,.own (.box (x6 x_))),(2,.own (.box (eOs 24 true xh []))),(3,.own (.box (eOs 1 true qR []))),(4,.own (.box (I x43))),(5,.own (.box (eOs 24 false xh list3))),(6,.own (.box (.opq (Xt (YW xh (eI .i64) at_2))))),(7,.own (eOs 1 false wH steps1)),(8,.d (I i_)),(9,.own (.box (eOs 5 false qB l_)))]
abbrev wo (x_ : z8) (steps1 : List (List z6)) (i_ : Int) (r_2 : z8 × zb) (x44 : Int) (list4 : List zb) (at_3 : List (zb × Int)) (l_1 : List z6) : List (Nat × T) := [(1,.own (.box (x6 x_))),(2,.own (.box (eOs 24 true xh []))),(3,.own (.box (eOs 1 true qR []))),(4,.own (.box (I x44))),(5,.own (.box (eOs 24 false xh list4))),(6,.own (.box (.opq (Xt (YW xh (eI .i64) at_3))))),(7,.own (eOs 1 false wH steps1)),(8,.d (I i_)),(9,.own (.box (eOs 5 false qB l_1))),(30,.d (.fn 82 [.sptr (.agg [I r_2.1.Messages,I r_2.1.Labels,eSl 1 false (eI .i64) r_2.1.Channels,eSl 3 false ve r_2.1.Parts]),.sptr (.agg [.agg [I r_2.2.states_.e0,I r_2.2.states_.e1,I r_2.2.states_.e2,I r_2.2.states_.e3],.agg [.agg [I r_2.2.queues_.e0.many_,.agg [I r_2.2.queues_.e0.l_.e0,I r_2.2.queues_.e0.l_.e1,I r_2.2.queues_.e0.l_.e2,I r_2.2.queues_.e0.l_.e3]],.agg [I r_2.2.queues_.e1.many_,.agg [I r_2.2.queues_.e1.l_.e0,I r_2.2.queues_.e1.l_.e1,I r_2.2.queues_.e1.l_.e2,I r_2.2.queues_.e1.l_.e3]],.agg [I r_2.2.queues_.e2.many_,.agg [I r_2.2.queues_.e2.l_.e0,I r_2.2.queues_.e2.l_.e1,I r_2.2.queues_.e2.l_.e2,I r_2.2.queues_.e2.l_.e3]],.agg [I r_2.2.queues_.e3.many_,.agg [I r_2.2.queues_.e3.l_.e0,I r_2.2.queues_.e3.l_.e1,I r_2.2.queues_.e3.l_.e2,I r_2.2.queues_.e3.l_.e3]]]])]))]
abbrev Yh (x_ : z8) (steps1 : List (List z6)) (i_ : Int) (r_2 : z8 × zb) (x44 : Int) (l_1 : List z6) (x31 : ze) (list5 : List zb) (at_4 : List (zb × Int)) (n_ : Int) : List (Nat × T) := [(1,.own (.box (x6 x_))),(2,.own (.box (eOs 24 true xh []))),(3,.own (.box (eOs 1 true qR []))),(4,.own (.box (I x44))),(5,.own (.box (eOs 24 false xh list5))),(6,.own (.box (.opq (Xt (YW xh (eI .i64) at_4))))),(7,.own (eOs 1 false wH steps1)),(8,.d (I i_)),(9,.own (.box (eOs 5 false qB l_1))),(10,.own (.box (vM x31))),(12,.d (I n_)),(30,.d (.fn 82 [.sptr (.agg [I r_2.1.Messages,I r_2.1.Labels,eSl 1 false (eI .i64) r_2.1.Channels,eSl 3 false ve r_2.1.Parts]),.sptr (.agg [.agg [I r_2.2.states_.e0,I r_2.2.states_.e1,I r_2.2.states_.e2,I r_2.2.states_.e3],.agg [.agg [I r_2.2.queues_.e0.many_,.agg [I r_2.2.queues_.e0.l_.e0,I r_2.2.queues_.e0.l_.e1,I r_2.2.queues_.e0.l_.e2,I r_2.2.queues_.e0.l_.e3]],.agg [I r_2.2.queues_.e1.many_,.agg [I r_2.2.queues_.e1.l_.e0,I r_2.2.queues_.e1.l_.e1,I r_2.2.queues_.e1.l_.e2,I r_2.2.queues_.e1.l_.e3]],.agg [I r_2.2.queues_.e2.many_,.agg [I r_2.2.queues_.e2.l_.e0,I r_2.2.queues_.e2.l_.e1,I r_2.2.queues_.e2.l_.e2,I r_2.2.queues_.e2.l_.e3]],.agg [I r_2.2.queues_.e3.many_,.agg [I r_2.2.queues_.e3.l_.e0,I r_2.2.queues_.e3.l_.e1,I r_2.2.queues_.e3.l_.e2,I r_2.2.queues_.e3.l_.e3]]]])]))]
abbrev Yg (x_ : z8) (x41 : Int) (list1 : List zb) (at_ : List (zb × Int)) (steps1 : List (List z6)) (i_ : Int) : List (Nat × T) := [(1,.own (.box (x6 x_))),(2,.own (.box (eOs 24 true xh []))),(3,.own (.box (eOs 1 true qR []))),(4,.own (.box (I x41))),(5,.own (.box (eOs 24 false xh list1))),(6,.own (.box (.opq (Xt (YW xh (eI .i64) at_))))),(7,.own (eOs 1 false wH steps1)),(8,.d (I i_))]
theorem XW {ctr : Ctr} (hC : zZ Tryz.prog ctr) (h0N : ctr.Has uw) (h0e : ctr.Has v8) (h0i : ctr.Has v7) (h0j : ctr.Has Yy) (h0o : ctr.Has xo) : w6.Ok Tryz.prog := by
 refine yc ?_
 rintro x_ r0 hf0
 try unfold zM at hf0
 refine yO false [(2,some 103),(3,some 32),(4,some 40)] y8 66 Tryz.func41 fun E hE => ?_
 refine yJ ((zgS z5v 16 (YW xh (eI .i64) ([] : List (zb × Int))) (YW xh (eI .i64) (KJ ([] : List (zb × Int)) (zb.mk (ya.mk 0 0 0 0) (ya.mk (zi.mk 0 (ya.mk 0 0 0 0)) (zi.mk 0 (ya.mk 0 0 0 0)) (zi.mk 0 (ya.mk 0 0 0 0)) (zi.mk 0 (ya.mk 0 0 0 0)))) 0))).or ((ze2 Tryz.prog 16).or X0)) hC y8 [1,1,1] [] [2,3,4,5,7] (fun z : Int × List zb × List (List z6) => uq z.1 z.2.1 z.2.2 = some r0) (fun z => Yk z.1 z.2.1 z.2.2) [(1,.own (.box (x6 x_))),(2,.own (.box (eOs 24 true xh []))),(3,.own (.box (eOs 1 true qR []))),(4,.own (.box (I 0))),(5,.own (.box (eOs 24 true xh ([(zb.mk (ya.mk 0 0 0 0) (ya.mk (zi.mk 0 (ya.mk 0 0 0 0)) (zi.mk 0 (ya.mk 0 0 0 0)) (zi.mk 0 (ya.mk 0 0 0 0)) (zi.mk 0 (ya.mk 0 0 0 0))))])))),(6,.own (.box (.opq (Xt (YW xh (eI .i64) (KJ ([] : List (zb × Int)) (zb.mk (ya.mk 0 0 0 0) (ya.mk (zi.mk 0 (ya.mk 0 0 0 0)) (zi.mk 0 (ya.mk 0 0 0 0)) (zi.mk 0 (ya.mk 0 0 0 0)) (zi.mk 0 (ya.mk 0 0 0 0)))) 0)))))),(7,.own (eOs 1 true qR []))] [Hn (⟨rfl,rfl,rfl,rfl,z5Z (fun _ => rfl) ([] : List (zb × Int))⟩ : T.own (.opq (Xt (YW xh (eI .i64) ([] : List (zb × Int))))) = T.own (.opq (Xt (YW xh (eI .i64) ([] : List (zb × Int))))) ∧ 1 = 1 ∧ (Ki [.i64,.i64,.i64,.i64,.i64,.i64,.i64,.i64,.i64,.i64,.i64,.i64,.i64,.i64,.i64,.i64,.i64,.i64,.i64,.i64,.i64,.i64,.i64,.i64]) (xh (zb.mk (ya.mk 0 0 0 0) (ya.mk (zi.mk 0 (ya.mk 0 0 0 0)) (zi.mk 0 (ya.mk 0 0 0 0)) (zi.mk 0 (ya.mk 0 0 0 0)) (zi.mk 0 (ya.mk 0 0 0 0))))) = true ∧ ((eI .i64) 0).isD = true ∧ ∀ p ∈ YW xh (eI .i64) ([] : List (zb × Int)),(Ki [.i64,.i64,.i64,.i64,.i64,.i64,.i64,.i64,.i64,.i64,.i64,.i64,.i64,.i64,.i64,.i64,.i64,.i64,.i64,.i64,.i64,.i64,.i64,.i64]) p.1 = true),Hn (z5e (f := xh) (g := (eI .i64)) (zb.mk (ya.mk 0 0 0 0) (ya.mk (zi.mk 0 (ya.mk 0 0 0 0)) (zi.mk 0 (ya.mk 0 0 0 0)) (zi.mk 0 (ya.mk 0 0 0 0)) (zi.mk 0 (ya.mk 0 0 0 0)))) 0 ([] : List (zb × Int))),Hh (.cut 3)] ?_ fun J1 hJ1 => ?_
 ·rintro ⟨x4,list,steps⟩ hf0
  unfold uq at hf0
  obtain ⟨r_,h0,hf0⟩ := zo hf0
  obtain rfl := zl hf0
  exact yE ((z2L y5 (uh hC) 65).or X0) hC hE [Hh (.g [true]),Hn u9,Hx (.a ((eOs 1 true wH) r_)) (u7 steps _ h0),Hm (shM xh xh list),Hm (shM wH wH r_)]
 ·obtain ⟨t2,ht2,hf0⟩ := zo hf0
  refine yLx X0 hC y8 [1,1,1,2,1,0] [J1] (fun s => xZ x_ s.1 s.2.1 s.2.2.1 s.2.2.2.1 s.2.2.2.2) (fun x => Yg x_ x.1 x.2.1 x.2.2.1 x.2.2.2.1 x.2.2.2.2) (0,([(zb.mk (ya.mk 0 0 0 0) (ya.mk (zi.mk 0 (ya.mk 0 0 0 0)) (zi.mk 0 (ya.mk 0 0 0 0)) (zi.mk 0 (ya.mk 0 0 0 0)) (zi.mk 0 (ya.mk 0 0 0 0))))] : List zb),(KJ ([] : List (zb × Int)) (zb.mk (ya.mk 0 0 0 0) (ya.mk (zi.mk 0 (ya.mk 0 0 0 0)) (zi.mk 0 (ya.mk 0 0 0 0)) (zi.mk 0 (ya.mk 0 0 0 0)) (zi.mk 0 (ya.mk 0 0 0 0)))) 0),([] : List (List z6)),0) ht2 [(1,.own (.box (x6 x_))),(2,.own (.box (eOs 24 true xh []))),(3,.own (.box (eOs 1 true qR []))),(4,.own (.box (I 0))),(5,.own (.box (eOs 24 true xh ([(zb.mk (ya.mk 0 0 0 0) (ya.mk (zi.mk 0 (ya.mk 0 0 0 0)) (zi.mk 0 (ya.mk 0 0 0 0)) (zi.mk 0 (ya.mk 0 0 0 0)) (zi.mk 0 (ya.mk 0 0 0 0))))])))),(6,.own (.box (.opq (Xt (YW xh (eI .i64) (KJ ([] : List (zb × Int)) (zb.mk (ya.mk 0 0 0 0) (ya.mk (zi.mk 0 (ya.mk 0 0 0 0)) (zi.mk 0 (ya.mk 0 0 0 0)) (zi.mk 0 (ya.mk 0 0 0 0)) (zi.mk 0 (ya.mk 0 0 0 0)))) 0)))))),(7,.own (eOs 1 true wH [])),(8,.d (I 0))] inferInstance [] ?_
  rintro ⟨x41,list1,at_,steps1,i_⟩ m2 lr1 hf1 hl1 J2 hJ2
  try unfold xZ at hf1
  let Z0 : List HO := [Ha (lnM xh list1)]
  rcases zS hf1 with ⟨c0,hf1⟩ | ⟨c0,hf1⟩
  ·refine yJ X0 hC y8 [1,1,1,2,1,0,0,1] [J1,J2] [1,2,3,4,5,6,7,8] (fun z : Int × List zb × (List (zb × Int)) × List (List z6) => wU i_ z.1 z.2.1 z.2.2.1 z.2.2.2 = some lr1) (fun z => Yj x_ i_ z.1 z.2.1 z.2.2.1 z.2.2.2) [(1,.own (.box (x6 x_))),(2,.own (.box (eOs 24 true xh []))),(3,.own (.box (eOs 1 true qR []))),(4,.own (.box (I x41))),(5,.own (.box (eOs 24 false xh list1))),(6,.own (.box (.opq (Xt (YW xh (eI .i64) at_))))),(7,.own (eOs 1 false wH steps1)),(8,.d (I i_))] (Z0 ++ [Hq c0,Hh (.cut 0)]) ?_ fun J3 hJ3 => ?_
   ·rintro ⟨x42,list2,at_1,steps2⟩ hf1
    unfold wU at hf1
    obtain rfl := zl hf1
    exact yB X0 hC hJ2 (x42,list2,at_1,steps2,w64 (i_ + 1)) hl1 []
   ·refine yJ X0 hC y8 [1,1,1,2,1,0,0,1,2,0,1] [J1,J2,J3] [1,2,3,4,5,6,7,8,9] (fun z : Int × List zb × (List (zb × Int)) × List z6 => w5 steps1 i_ z.1 z.2.1 z.2.2.1 z.2.2.2 = some lr1) (fun z => Yi x_ steps1 i_ z.1 z.2.1 z.2.2.1 z.2.2.2) [(1,.own (.box (x6 x_))),(2,.own (.box (eOs 24 true xh []))),(3,.own (.box (eOs 1 true qR []))),(4,.own (.box (I x41))),(5,.own (.box (eOs 24 false xh list1))),(6,.own (.box (.opq (Xt (YW xh (eI .i64) at_))))),(7,.own (eOs 1 false wH steps1)),(8,.d (I i_)),(9,.own (.box (eOs 5 true qB [])))] [Hh (.cut 1)] ?_ fun J4 hJ4 => ?_
    ·rintro ⟨x43,list3,at_2,l_⟩ hf1
     unfold w5 at hf1
     obtain ⟨r_1,h1,hf1⟩ := zo hf1
     obtain ⟨g0,hf1⟩ := gdE hf1
     exact yB X0 hC hJ3 (x43,list3,at_2,(steps1 ++ ([r_1] : List (List z6)))) hf1 [Hg (z2f h0o),Hm (shM qB qB l_),Hs (z2g h0o (x := l_) h1 (loC qR l_ <| loN)),Hm (shM qB qB l_),Hq (dM wH ([r_1] : List (List z6))),Hn (dM wH ([r_1] : List (List z6))),Hn (aL wH wH g0),Hl (aM wH steps1 ([r_1] : List (List z6)))]
    ·obtain ⟨list_e,h2,hf1⟩ := zo hf1
     obtain ⟨r_2,h3,hf1⟩ := zo hf1
     obtain ⟨t5,ht5,hf1⟩ := zo hf1
     refine yAt X0 hC (sub [1,1,1,2,1,0,0,1,2,0,1,2,1,0] y8) (frs [1,1,1,2,1,0,0,1,2,0,1,2,1,0] [J1,J2,J3,J4] y8 []) [(1,.own (.box (x6 x_))),(2,.own (.box (eOs 24 true xh []))),(3,.own (.box (eOs 1 true qR []))),(4,.own (.box (I x41))),(5,.own (.box (eOs 24 false xh list1))),(6,.own (.box (.opq (Xt (YW xh (eI .i64) at_))))),(7,.own (eOs 1 false wH steps1)),(8,.d (I i_)),(9,.own (.box (eOs 5 true qB []))),(30,.d (.fn 82 [.sptr (.agg [I r_2.1.Messages,I r_2.1.Labels,eSl 1 false (eI .i64) r_2.1.Channels,eSl 3 false ve r_2.1.Parts]),.sptr (.agg [.agg [I r_2.2.states_.e0,I r_2.2.states_.e1,I r_2.2.states_.e2,I r_2.2.states_.e3],.agg [.agg [I r_2.2.queues_.e0.many_,.agg [I r_2.2.queues_.e0.l_.e0,I r_2.2.queues_.e0.l_.e1,I r_2.2.queues_.e0.l_.e2,I r_2.2.queues_.e0.l_.e3]],.agg [I r_2.2.queues_.e1.many_,.agg [I r_2.2.queues_.e1.l_.e0,I r_2.2.queues_.e1.l_.e1,I r_2.2.queues_.e1.l_.e2,I r_2.2.queues_.e1.l_.e3]],.agg [I r_2.2.queues_.e2.many_,.agg [I r_2.2.queues_.e2.l_.e0,I r_2.2.queues_.e2.l_.e1,I r_2.2.queues_.e2.l_.e2,I r_2.2.queues_.e2.l_.e3]],.agg [I r_2.2.queues_.e3.many_,.agg [I r_2.2.queues_.e3.l_.e0,I r_2.2.queues_.e3.l_.e1,I r_2.2.queues_.e3.l_.e2,I r_2.2.queues_.e3.l_.e3]]]])]))] [Hn (iL xh h2),Hs (iM xh h2),Hc h0N (x := (x_,list_e)) h3 (loC x6 x_ <| loC xh list_e <| loN)] fun st0 h0 => ?_
     refine z3s (g := .tmp 30) (ps := [31,32]) (assign := (sub [1,1,1,2,1,0,0,1,2,0,1,2,1,0,0] y8)) (body := (sub [1,1,1,2,1,0,0,1,2,0,1,2,1,0,1] y8)) (K := 82) (caps := [.sptr (.agg [I r_2.1.Messages,I r_2.1.Labels,eSl 1 false (eI .i64) r_2.1.Channels,eSl 3 false ve r_2.1.Parts]),.sptr (.agg [.agg [I r_2.2.states_.e0,I r_2.2.states_.e1,I r_2.2.states_.e2,I r_2.2.states_.e3],.agg [.agg [I r_2.2.queues_.e0.many_,.agg [I r_2.2.queues_.e0.l_.e0,I r_2.2.queues_.e0.l_.e1,I r_2.2.queues_.e0.l_.e2,I r_2.2.queues_.e0.l_.e3]],.agg [I r_2.2.queues_.e1.many_,.agg [I r_2.2.queues_.e1.l_.e0,I r_2.2.queues_.e1.l_.e1,I r_2.2.queues_.e1.l_.e2,I r_2.2.queues_.e1.l_.e3]],.agg [I r_2.2.queues_.e2.many_,.agg [I r_2.2.queues_.e2.l_.e0,I r_2.2.queues_.e2.l_.e1,I r_2.2.queues_.e2.l_.e2,I r_2.2.queues_.e2.l_.e3]],.agg [I r_2.2.queues_.e3.many_,.agg [I r_2.2.queues_.e3.l_.e0,I r_2.2.queues_.e3.l_.e1,I r_2.2.queues_.e3.l_.e2,I r_2.2.queues_.e3.l_.e3]]]])]) (by kernel_rfl) [1,2,3,4,5,6,7,8,9,30] (fun s => wo x_ steps1 i_ r_2 s.1 s.2.1 s.2.2.1 s.2.2.2) (fun s => wo x_ steps1 i_ r_2 s.1 s.2.1 s.2.2.1 s.2.2.2) (fun s => Code.ret) ((fun (x : ze × zb) (_ : Bool) (_ : Value) => [vM x.1,xh x.2])) (F := @xF r_2.1 r_2.2) (fun s x => zK s.1 s.2.1 s.2.2.1 s.2.2.2 x.1 x.2) (x41,list1,at_,([] : List z6)) t5 _ h0 inferInstance (by kernel_rfl) (by decide) (fun _ => rfl) (fun _ => rfl) (by kernel_rfl) (fun _ _ _ => rfl) (X3 hC h0e h0i h0j r_2.1 r_2.2) ht5 ?_ ?_
     ·rintro tv5 ⟨x44,list4,at_3,l_1⟩ ⟨x31,x32⟩ vr lr2 hf2
      replace hf2 : zK x44 list4 at_3 l_1 x31 x32 = some lr2 := hf2
      unfold zK at hf2
      refine yF X0 hC .normal [(1,.own (.box (x6 x_))),(2,.own (.box (eOs 24 true xh []))),(3,.own (.box (eOs 1 true qR []))),(4,.own (.box (I x44))),(5,.own (.box (eOs 24 false xh list4))),(6,.own (.box (.opq (Xt (YW xh (eI .i64) at_3))))),(7,.own (eOs 1 false wH steps1)),(8,.d (I i_)),(9,.own (.box (eOs 5 false qB l_1))),(10,.own (.box (vM x31))),(11,.own (.box (xh x32))),(30,.d (.fn 82 [.sptr (.agg [I r_2.1.Messages,I r_2.1.Labels,eSl 1 false (eI .i64) r_2.1.Channels,eSl 3 false ve r_2.1.Parts]),.sptr (.agg [.agg [I r_2.2.states_.e0,I r_2.2.states_.e1,I r_2.2.states_.e2,I r_2.2.states_.e3],.agg [.agg [I r_2.2.queues_.e0.many_,.agg [I r_2.2.queues_.e0.l_.e0,I r_2.2.queues_.e0.l_.e1,I r_2.2.queues_.e0.l_.e2,I r_2.2.queues_.e0.l_.e3]],.agg [I r_2.2.queues_.e1.many_,.agg [I r_2.2.queues_.e1.l_.e0,I r_2.2.queues_.e1.l_.e1,I r_2.2.queues_.e1.l_.e2,I r_2.2.queues_.e1.l_.e3]],.agg [I r_2.2.queues_.e2.many_,.agg [I r_2.2.queues_.e2.l_.e0,I r_2.2.queues_.e2.l_.e1,I r_2.2.queues_.e2.l_.e2,I r_2.2.queues_.e2.l_.e3]],.agg [I r_2.2.queues_.e3.many_,.agg [I r_2.2.queues_.e3.l_.e0,I r_2.2.queues_.e3.l_.e1,I r_2.2.queues_.e3.l_.e2,I r_2.2.queues_.e3.l_.e3]]]])]))] [] fun st0 h0 => ⟨rfl,z3r h0 ?_⟩
      obtain ⟨val,h4,hf2⟩ := zo hf2
      replace h4 := zl h4
      refine yJ ((ze3 z5v 36 (YW xh (eI .i64) at_3)).or X0) hC y8 [1,1,1,2,1,0,0,1,2,0,1,2,1,0,1,0,1] [J1,J2,J3,J4] [1,2,3,4,5,6,7,8,9,10,12,30] (fun z : List zb × (List (zb × Int)) × Int => xx x44 l_1 x31 z.1 z.2.1 z.2.2 = some lr2) (fun z => Yh x_ steps1 i_ r_2 x44 l_1 x31 z.1 z.2.1 z.2.2) [(1,.own (.box (x6 x_))),(2,.own (.box (eOs 24 true xh []))),(3,.own (.box (eOs 1 true qR []))),(4,.own (.box (I x44))),(5,.own (.box (eOs 24 false xh list4))),(6,.own (.box (.opq (Xt (YW xh (eI .i64) at_3))))),(7,.own (eOs 1 false wH steps1)),(8,.d (I i_)),(9,.own (.box (eOs 5 false qB l_1))),(10,.own (.box (vM x31))),(11,.own (.box (xh x32))),(12,.d (I val)),(13,.d (B ((KK at_3 x32).isSome))),(30,.d (.fn 82 [.sptr (.agg [I r_2.1.Messages,I r_2.1.Labels,eSl 1 false (eI .i64) r_2.1.Channels,eSl 3 false ve r_2.1.Parts]),.sptr (.agg [.agg [I r_2.2.states_.e0,I r_2.2.states_.e1,I r_2.2.states_.e2,I r_2.2.states_.e3],.agg [.agg [I r_2.2.queues_.e0.many_,.agg [I r_2.2.queues_.e0.l_.e0,I r_2.2.queues_.e0.l_.e1,I r_2.2.queues_.e0.l_.e2,I r_2.2.queues_.e0.l_.e3]],.agg [I r_2.2.queues_.e1.many_,.agg [I r_2.2.queues_.e1.l_.e0,I r_2.2.queues_.e1.l_.e1,I r_2.2.queues_.e1.l_.e2,I r_2.2.queues_.e1.l_.e3]],.agg [I r_2.2.queues_.e2.many_,.agg [I r_2.2.queues_.e2.l_.e0,I r_2.2.queues_.e2.l_.e1,I r_2.2.queues_.e2.l_.e2,I r_2.2.queues_.e2.l_.e3]],.agg [I r_2.2.queues_.e3.many_,.agg [I r_2.2.queues_.e3.l_.e0,I r_2.2.queues_.e3.l_.e1,I r_2.2.queues_.e3.l_.e2,I r_2.2.queues_.e3.l_.e3]]]])]))] [Hn (⟨rfl,rfl,z5Z (fun _ => rfl) at_3⟩ : A.opq (Xt (YW xh (eI .i64) at_3)) = A.opq (Xt (YW xh (eI .i64) at_3)) ∧ (Ki [.i64,.i64,.i64,.i64,.i64,.i64,.i64,.i64,.i64,.i64,.i64,.i64,.i64,.i64,.i64,.i64,.i64,.i64,.i64,.i64,.i64,.i64,.i64,.i64]) (xh x32) = true ∧ ∀ p ∈ YW xh (eI .i64) at_3,(Ki [.i64,.i64,.i64,.i64,.i64,.i64,.i64,.i64,.i64,.i64,.i64,.i64,.i64,.i64,.i64,.i64,.i64,.i64,.i64,.i64,.i64,.i64,.i64,.i64]) p.1 = true),Hx (.a (.tup [I val,B ((KK at_3 x32).isSome)])) ((zhz (f := xh) (g := (eI .i64)) (z0 := 0) (z := .atom (.int .i64 0)) rfl x32 at_3).trans (congrArg (fun x => A.tup [(eI .i64) x,.atom (.bool (KK at_3 x32).isSome)]) h4)),Hh (.cut 0)] ?_ fun J6 hJ6 => ?_
      ·rintro ⟨list5,at_4,n_⟩ hf2
       unfold xx at hf2
       obtain ⟨g1,hf2⟩ := gdE hf2
       obtain rfl := zl hf2
       exact yF X0 hC .normal (wo x_ steps1 i_ r_2 x44 list5 at_4 (l_1 ++ ([(z6.mk x31 n_)] : List z6))) [Hq (dM qB ([(z6.mk x31 n_)] : List z6)),Hn (dM qB ([(z6.mk x31 n_)] : List z6)),Hn (aL qB qB g1),Hl (aM qB l_1 ([(z6.mk x31 n_)] : List z6))] fun st0 h0 => ⟨rfl,_,h0,LeL.refl _⟩
      ·rcases zS hf2 with ⟨c1,hf2⟩ | ⟨c1,hf2⟩
       ·let Z1 : List HO := [Hq c1,Ha (lnM xh list4)]
        rcases zS hf2 with ⟨c2,hf2⟩ | ⟨c2,hf2⟩
        ·obtain rfl := zl hf2
         exact yF X0 hC .ret (wo x_ steps1 i_ r_2 3 list4 at_3 l_1) (Z1 ++ [Hq c2]) fun st0 h0 => ⟨rfl,_,h0,LeL.refl _⟩
        ·obtain ⟨g2,hf2⟩ := gdE hf2
         exact yB ((ze0 z5v 45 (YW xh (eI .i64) at_3) (YW xh (eI .i64) (KJ at_3 x32 ((list4.length : Nat) : Int)))).or X0) hC hJ6 ((list4 ++ ([x32] : List zb)),(KJ at_3 x32 ((list4.length : Nat) : Int)),((list4.length : Nat) : Int)) hf2 (Z1 ++ [Hq c2,Hq (dM xh ([x32] : List zb)),Hn (dM xh ([x32] : List zb)),Hn (aL xh xh g2),Hl (aM xh list4 ([x32] : List zb)),Hn (⟨rfl,⟨rfl,rfl⟩,rfl,rfl,z5Z (fun _ => rfl) at_3⟩ : T.own (.box (.opq (Xt (YW xh (eI .i64) at_3)))) = T.own (.box (.opq (Xt (YW xh (eI .i64) at_3)))) ∧ (0 = 0 ∧ 0 = 0) ∧ (Ki [.i64,.i64,.i64,.i64,.i64,.i64,.i64,.i64,.i64,.i64,.i64,.i64,.i64,.i64,.i64,.i64,.i64,.i64,.i64,.i64,.i64,.i64,.i64,.i64]) (xh x32) = true ∧ ((eI .i64) ((list4.length : Nat) : Int)).isD = true ∧ ∀ p ∈ YW xh (eI .i64) at_3,(Ki [.i64,.i64,.i64,.i64,.i64,.i64,.i64,.i64,.i64,.i64,.i64,.i64,.i64,.i64,.i64,.i64,.i64,.i64,.i64,.i64,.i64,.i64,.i64,.i64]) p.1 = true),Hn (z5e (f := xh) (g := (eI .i64)) x32 ((list4.length : Nat) : Int) at_3)])
       ·exact yB X0 hC hJ6 (list4,at_3,val) hf2 [Hq c1]
     ·rcases t5 with ⟨x44,list4,at_3,l_1⟩ | z
      ·dsimp only at hf1
       exact Ur (by kernel_rfl) (hJ4 _ [(1,.own (.box (x6 x_))),(2,.own (.box (eOs 24 true xh []))),(3,.own (.box (eOs 1 true qR []))),(4,.own (.box (I x44))),(5,.own (.box (eOs 24 false xh list4))),(6,.own (.box (.opq (Xt (YW xh (eI .i64) at_3))))),(7,.own (eOs 1 false wH steps1)),(8,.d (I i_)),(9,.own (.box (eOs 5 false qB l_1)))] (x44,list4,at_3,l_1) hf1 (show Own.canon [1,2,3,4,5,6,7,8,9] _ = ofL _ by kernel_rfl) inferInstance)
      ·obtain ⟨x44,list4,at_3,l_1⟩ := z
       dsimp only at hf1
       show AWP _ _ (Code.ret) _ _
       obtain rfl := zl hf1
       obtain rfl := hl1
       obtain rfl := zl hf0
       exact yEx X0 hC hE [Hm (shM xh xh []),Hm (shM qR qR [])] (.tup [eSl 24 true xh [],eSl 1 true wH [],I x44]) (show LeV (.tup [eSl 24 true xh [],eSl 1 true wH [],I x44]) (.tup [eSl 24 false xh ([] : List zb),eSl 1 true wH ([] : List (List z6)),I x44]) from inferInstance)
  ·obtain rfl := zl hf1
   obtain rfl := hl1
   exact yB X0 hC hJ1 (x41,list1,steps1) hf0 (Z0 ++ [Hq c0])
def Jd : Code := (Tryz.f81.body).getD .skip
def ju : xi := spF (α := Int) (ρ := Bool) 81 (fun x => [(eI .i64) x]) (fun r => eB r) (fun x => vC x) [] (Ja)
theorem JQ {ctr : Ctr} (hC : zZ Tryz.prog ctr) : ju.Ok Tryz.prog := by
 refine yc ?_
 rintro x_ r0 hf0
 try unfold vC at hf0
 refine yO true [(2,none)] Jd 6 Tryz.func81 fun E hE => ?_
 obtain rfl := zl hf0
 exact yE X0 hC hE []
def KD : Code := (Tryz.f76.body).getD .skip
def ZM : xi := spF (α := Int × Int) (ρ := Bool) 76 (fun x => [(eI .i64) x.1,(eI .i64) x.2]) (fun r => eB r) (fun x => Za x.1 x.2) [] (UV)
theorem KQ {ctr : Ctr} (hC : zZ Tryz.prog ctr) (h0b : ctr.Has ju) : ZM.Ok Tryz.prog := by
 refine yc ?_
 rintro ⟨x_,y_⟩ r0 hf0
 try unfold Za at hf0
 refine yO true [(4,none)] KD 17 Tryz.func76 fun E hE => ?_
 obtain ⟨r_,h0,hf0⟩ := zo hf0
 let Z0 : List HO := [Hc h0b (x := x_) h0 (loC (eI .i64) x_ <| loN)]
 rcases zS hf0 with ⟨c0,hf0⟩ | ⟨c0,hf0⟩
 ·obtain ⟨r_1,h1,hf0⟩ := zo hf0
  let Z1 : List HO := (Z0 ++ [Hq c0,Hq c0,Hc h0b (x := y_) h1 (loC (eI .i64) y_ <| loN),Hq c0,Hq c0])
  rcases zS hf0 with ⟨c1,hf0⟩ | ⟨c1,hf0⟩
  ·obtain rfl := zl hf0
   exact yE X0 hC hE (Z1 ++ (rpN 4 (Hq c1) []))
  ·obtain rfl := zl hf0
   exact yE X0 hC hE (Z1 ++ (rpN 4 (Hq c1) []))
 ·obtain rfl := zl hf0
  exact yE X0 hC hE (Z0 ++ (rpN 4 (Hq c0) (rpN 4 qF [])))
def Vx : Code := (Tryz.f77.body).getD .skip
def jL : xi := spF (α := Int) (ρ := Bool) 77 (fun x => [(eI .i64) x]) (fun r => eB r) (fun x => uR x) [] (Ja)
theorem VX {ctr : Ctr} (hC : zZ Tryz.prog ctr) : jL.Ok Tryz.prog := by
 refine yc ?_
 rintro x_ r0 hf0
 try unfold uR at hf0
 refine yO true [(2,none)] Vx 6 Tryz.func77 fun E hE => ?_
 obtain rfl := zl hf0
 exact yE X0 hC hE []
def wG : Code := (Tryz.f47.body).getD .skip
def wB : xi := spF (α := List Int × Int) (ρ := Int × Bool) 47 (fun x => [F2_ x.1,(eI .i64) x.2]) (fun r => .tup [(eI .i64) r.1,eB r.2]) (fun x => yV x.1 x.2) [] (UV)
abbrev kA (x_ : List Int) (target : Int) (i_ : Int) : List (Nat × T) := [(0,.d (eSl 1 false (eI .i64) x_)),(1,.d (I target)),(6,.d (I ((x_.length : Nat) : Int))),(7,.d (I i_))]
abbrev kz (x_ : List Int) (target : Int) (i_1 : Int) (j_ : Int) : List (Nat × T) := [(0,.d (eSl 1 false (eI .i64) x_)),(1,.d (I target)),(6,.d (I ((x_.length : Nat) : Int))),(7,.d (I i_1)),(8,.d (I j_))]
theorem Ze {ctr : Ctr} (hC : zZ Tryz.prog ctr) (h0O : ctr.Has ZM) (h0p : ctr.Has jL) : wB.Ok Tryz.prog := by
 refine yc ?_
 rintro ⟨x_,target⟩ r0 hf0
 try unfold yV at hf0
 refine yO false [(4,none),(5,none)] wG 54 Tryz.func47 fun E hE => ?_
 refine yJ X0 hC wG [1,1,1] [] [0,1,6,7] (fun z : Int => xD x_ target z = some r0) (fun z => kA x_ target z) [(0,.d (eSl 1 false (eI .i64) x_)),(1,.d (I target)),(6,.d (I ((x_.length : Nat) : Int))),(7,.d (I 0)),(8,.d (I ((x_.length : Nat) : Int)))] [Ha (lnM (eI .i64) x_),Hh (.cut 1)] ?_ fun J1 hJ1 => ?_
 ·rintro i_ hf0
  unfold xD at hf0
  rcases zS hf0 with ⟨c0,hf0⟩ | ⟨c0,hf0⟩
  ·obtain ⟨x__e,h0,hf0⟩ := zo hf0
   let Z0 : List HO := (Hq c0 :: Hq c0 :: Hq c0 :: Hi (eI .i64) h0 :: (rpN 4 (Hq c0) []))
   rcases zS hf0 with ⟨c1,hf0⟩ | ⟨c1,hf0⟩
   ·obtain rfl := zl hf0
    exact yE X0 hC hE (Z0 ++ (rpN 7 (Hq c1) [Hq c0,Hq c1,Hq c0]))
   ·obtain ⟨x__e1,h1,hf0⟩ := zo hf0
    obtain ⟨r_,h2,hf0⟩ := zo hf0
    let Z1 : List HO := (Z0 ++ [Hq c1,Hq c1,Hq c1,Hi (eI .i64) h1,Hq c1,Hq c1,Hc h0p (x := x__e1) h2 (loC (eI .i64) x__e1 <| loN),Hq c1])
    rcases zS hf0 with ⟨c2,hf0⟩ | ⟨c2,hf0⟩
    ·obtain ⟨r_1,h3,hf0⟩ := zo hf0
     obtain rfl := zl hf0
     exact yE X0 hC hE (Z1 ++ [Hq c2,Hq c2,Hc h0p (x := target) h3 (loC (eI .i64) target <| loN),Hq c1,Hq c2,Hq c0,Hq c1,Hq c0])
    ·obtain rfl := zl hf0
     exact yE X0 hC hE (Z1 ++ [Hq c2,Hq c2,Hq c1,Hq c2,Hq c0,Hq c1,Hq c0])
  ·obtain rfl := zl hf0
   exact yE X0 hC hE (rpN 9 (Hq c0) [])
 ·obtain ⟨t2,ht2,hf0⟩ := zo hf0
  refine yL X0 hC wG [1,1,1,2,0] [J1] (fun s => x7 x_ target s.1 s.2) (fun x => kz x_ target x.1 x.2) (0,((x_.length : Nat) : Int)) ht2  [] ?_
  rintro ⟨i_1,j_⟩ m2 lr1 hf1 hl1 J2 hJ2
  try unfold x7 at hf1
  rcases zS hf1 with ⟨c3,hf1⟩ | ⟨c3,hf1⟩
  ·obtain ⟨x__e2,h4,hf1⟩ := zo hf1
   obtain ⟨r_2,h5,hf1⟩ := zo hf1
   let Z2 : List HO := [Hq c3,Hi (eI .i64) h4,Hc h0O (x := (x__e2,target)) h5 (loC (eI .i64) x__e2 <| loC (eI .i64) target <| loN)]
   rcases zS hf1 with ⟨c4,hf1⟩ | ⟨c4,hf1⟩
   ·obtain rfl := zl hf1
    exact yB ((zfD Tryz.prog).or X0) hC hJ2 (w64 ((w64 (Int.fdiv (IntKind.u64.wrap (w64 (i_1 + j_))) (2 ^ 1))) + 1),j_) hl1 (Z2 ++ [Hq c4])
   ·obtain rfl := zl hf1
    exact yB ((zfD Tryz.prog).or X0) hC hJ2 (i_1,w64 (Int.fdiv (IntKind.u64.wrap (w64 (i_1 + j_))) (2 ^ 1))) hl1 (Z2 ++ [Hq c4])
  ·obtain rfl := zl hf1
   obtain rfl := hl1
   exact yB X0 hC hJ1 i_1 hf0 [Hq c3]
def Up : Code := (Tryz.f80.body).getD .skip
def km : xi := spF (α := Int) (ρ := Bool) 80 (fun x => [(eI .u8) x]) (fun r => eB r) (fun x => qQ x) [] (Ja)
theorem UH {ctr : Ctr} (hC : zZ Tryz.prog ctr) : km.Ok Tryz.prog := by
 refine yc ?_
 rintro x_ r0 hf0
 try unfold qQ at hf0
 refine yO true [(2,none)] Up 6 Tryz.func80 fun E hE => ?_
 obtain rfl := zl hf0
 exact yE X0 hC hE []
def WX : Code := (Tryz.f51.body).getD .skip
def jd : xi := spF (α := Int × Int) (ρ := Int) 51 (fun x => [(eI .u8) x.1,(eI .u8) x.2]) (fun r => (eI .i64) r) (fun x => ub x.1 x.2) [] (UV)
theorem Vi {ctr : Ctr} (hC : zZ Tryz.prog ctr) (h0q : ctr.Has km) : jd.Ok Tryz.prog := by
 refine yc ?_
 rintro ⟨x_,y_⟩ r0 hf0
 try unfold ub at hf0
 refine yO true [(4,none)] WX 20 Tryz.func51 fun E hE => ?_
 obtain ⟨r_,h0,hf0⟩ := zo hf0
 obtain ⟨r_1,h1,hf0⟩ := zo hf0
 let Z0 : List HO := [Hc h0q (x := x_) h0 (loC (eI .u8) x_ <| loN),Hc h0q (x := y_) h1 (loC (eI .u8) y_ <| loN)]
 rcases zS hf0 with ⟨c0,hf0⟩ | ⟨c0,hf0⟩
 ·rcases zS hf0 with ⟨c1,hf0⟩ | ⟨c1,hf0⟩
  ·obtain rfl := zl hf0
   exact yE X0 hC hE (Z0 ++ [Hq c0,Hq c1])
  ·obtain rfl := zl hf0
   exact yE X0 hC hE (Z0 ++ [Hq c0,Hq c1])
 ·rcases zS hf0 with ⟨c2,hf0⟩ | ⟨c2,hf0⟩
  ·obtain rfl := zl hf0
   exact yE X0 hC hE (Z0 ++ [Hq c0,Hq c2])
  ·rcases zS hf0 with ⟨c3,hf0⟩ | ⟨c3,hf0⟩
   ·obtain rfl := zl hf0
    exact yE X0 hC hE (Z0 ++ [Hq c0,Hq c2,Hq c3])
   ·rcases zS hf0 with ⟨c4,hf0⟩ | ⟨c4,hf0⟩
    ·obtain rfl := zl hf0
     exact yE X0 hC hE (Z0 ++ [Hq c0,Hq c2,Hq c3,Hq c4])
    ·obtain rfl := zl hf0
     exact yE X0 hC hE (Z0 ++ [Hq c0,Hq c2,Hq c3,Hq c4])
def Uq : Code := (Tryz.f52.body).getD .skip
def kn : xi := spF (α := Int × Int) (ρ := Int) 52 (fun x => [(eI .i64) x.1,(eI .i64) x.2]) (fun r => (eI .i64) r) (fun x => uc x.1 x.2) [] (UV)
theorem UI {ctr : Ctr} (hC : zZ Tryz.prog ctr) (h0b : ctr.Has ju) : kn.Ok Tryz.prog := by
 refine yc ?_
 rintro ⟨x_,y_⟩ r0 hf0
 try unfold uc at hf0
 refine yO true [(4,none)] Uq 20 Tryz.func52 fun E hE => ?_
 obtain ⟨r_,h0,hf0⟩ := zo hf0
 obtain ⟨r_1,h1,hf0⟩ := zo hf0
 let Z0 : List HO := [Hc h0b (x := x_) h0 (loC (eI .i64) x_ <| loN),Hc h0b (x := y_) h1 (loC (eI .i64) y_ <| loN)]
 rcases zS hf0 with ⟨c0,hf0⟩ | ⟨c0,hf0⟩
 ·rcases zS hf0 with ⟨c1,hf0⟩ | ⟨c1,hf0⟩
  ·obtain rfl := zl hf0
   exact yE X0 hC hE (Z0 ++ [Hq c0,Hq c1])
  ·obtain rfl := zl hf0
   exact yE X0 hC hE (Z0 ++ [Hq c0,Hq c1])
 ·rcases zS hf0 with ⟨c2,hf0⟩ | ⟨c2,hf0⟩
  ·obtain rfl := zl hf0
   exact yE X0 hC hE (Z0 ++ [Hq c0,Hq c2])
  ·rcases zS hf0 with ⟨c3,hf0⟩ | ⟨c3,hf0⟩
   ·obtain rfl := zl hf0
    exact yE X0 hC hE (Z0 ++ [Hq c0,Hq c2,Hq c3])
   ·rcases zS hf0 with ⟨c4,hf0⟩ | ⟨c4,hf0⟩
    ·obtain rfl := zl hf0
     exact yE X0 hC hE (Z0 ++ [Hq c0,Hq c2,Hq c3,Hq c4])
    ·obtain rfl := zl hf0
     exact yE X0 hC hE (Z0 ++ [Hq c0,Hq c2,Hq c3,Hq c4])
def XM : Code := (Tryz.f50.body).getD .skip
def Xm : xi := spF (α := List Int) (ρ := Int) 50 (fun x => [F2_ x]) (fun r => (eI .i64) r) (fun x => Xd x) [] (Ja)
abbrev Jx : List (Nat × T) := [(3,.d (I 0))]
abbrev Jw (vals : List Int) (x8 : Int) : List (Nat × T) := [(3,.d (I 0)),(6,.d (eSl 1 false (eI .i64) vals)),(7,.d (I ((vals.length : Nat) : Int))),(8,.d (I x8))]
theorem z1s {ctr : Ctr} (hC : zZ Tryz.prog ctr) : Xm.Ok Tryz.prog := by
 refine yc ?_
 rintro vals r0 hf0
 try unfold Xd at hf0
 refine yO true [(2,none)] XM 18 Tryz.func50 fun E hE => ?_
 refine yJ X0 hC XM [1,1] [] [3] (fun z : Unit => XE = some r0) (fun z => Jx) [(0,.d (eSl 1 false (eI .i64) vals)),(3,.d (I 0))] [Hh (.cut 2)] ?_ fun J1 hJ1 => ?_
 ·rintro ⟨⟩ hf0
  unfold XE at hf0
  obtain rfl := zl hf0
  exact yE X0 hC hE []
 ·obtain ⟨t2,ht2,hf0⟩ := zo hf0
  refine yL X0 hC XM [1,1,2,1,0] [J1] (fun s => ky vals s) (fun x => Jw vals x) 0 ht2  [Ha (lnM (eI .i64) vals)] ?_
  rintro x8 m2 lr1 hf1 hl1 J2 hJ2
  try unfold ky at hf1
  rcases zS hf1 with ⟨c0,hf1⟩ | ⟨c0,hf1⟩
  ·obtain ⟨val_e,h0,hf1⟩ := zo hf1
   rcases zS hf1 with ⟨c1,hf1⟩ | ⟨c1,hf1⟩
   ·obtain rfl := zl hf1
    obtain rfl := hl1
    obtain rfl := zl hf0
    exact yE X0 hC hE [Hq c0,Hi (eI .i64) h0,Hq c1]
   ·obtain rfl := zl hf1
    exact yB X0 hC hJ2 (w64 (x8 + 1)) hl1 [Hq c0,Hi (eI .i64) h0,Hq c1]
  ·obtain rfl := zl hf1
   obtain rfl := hl1
   exact yB X0 hC hJ1 () hf0 [Hq c0]
def WW : Code := (Tryz.f49.body).getD .skip
def jb : xi := spF (α := za × za) (ρ := Int) 49 (fun x => [F8_ x.1,F8_ x.2]) (fun r => (eI .i64) r) (fun x => xR x.1 x.2) [] (UV)
theorem Vh {ctr : Ctr} (hC : zZ Tryz.prog ctr) (h0P : ctr.Has jd) (h0r : ctr.Has kn) (h0s : ctr.Has Xm) : jb.Ok Tryz.prog := by
 refine yc ?_
 rintro ⟨a_,b_⟩ r0 hf0
 try unfold xR at hf0
 refine yO true [(4,none)] WW 22 Tryz.func49 fun E hE => ?_
 obtain ⟨r_,h0,hf0⟩ := zo hf0
 obtain ⟨r_1,h1,hf0⟩ := zo hf0
 obtain ⟨r_2,h2,hf0⟩ := zo hf0
 obtain ⟨r_3,h3,hf0⟩ := zo hf0
 obtain rfl := zl hf0
 exact yE X0 hC hE [Hc h0P (x := (a_.Kind,b_.Kind)) h0 (loC (eI .u8) a_.Kind <| loC (eI .u8) b_.Kind <| loN),Hc h0r (x := (a_.Label,b_.Label)) h1 (loC (eI .i64) a_.Label <| loC (eI .i64) b_.Label <| loN),Hc h0r (x := (a_.To,b_.To)) h2 (loC (eI .i64) a_.To <| loC (eI .i64) b_.To <| loN),Hg (z2f h0s),Hm (shM (eI .i64) (eI .i64) ([r_,r_1,r_2])),Hs (z2g h0s (x := [r_,r_1,r_2]) h3 (loC F1_ ([r_,r_1,r_2] : List Int) <| loN))]
end Go.Own
end
