/- -/
import Derived.Test.YtiddgdfbhmmccaaPartF
import Derived.Test.YtiddgdfbhmmccaaPartD
noncomputable section
set_option linter.unusedVariables false
set_option linter.unusedSimpArgs false
namespace Go.Own
open Go.Proofs
set_option maxRecDepth 100000
set_option maxHeartbeats 8000000
def X0 : XH Try.prog := xB Yb
theorem z0m : Try.prog.follows .mixedOrders = true := by kernel_rfl
theorem z9n {l : List yn} {s : yn} (h : ((l.map yn.k).contains s.k) = false) : ∀ t ∈ l, t.k ≠ s.k := fun t ht e => by
 rw [List.contains_eq_mem, ← e, decide_eq_true (List.mem_map_of_mem ht)] at h
 cases h
class HS (X : outParam (XH Try.prog)) (l : outParam (List yn)) where
 c : Ctr
 ok : uM Try.prog c
 has : ∀ t ∈ l, c.Has t
noncomputable abbrev zbd (f : Func) : Code := f.body.getD .skip
def zdR : ResultVar → Nat × Option Nat
 | .tmp t => (t, none)
 | .cell t c => (t, some c)
noncomputable abbrev rsO (f : Func) := f.results.toList.map zdR
theorem z98 (f : Func) : f.results = ((rsO f).map K4).toArray := by
 have : K4 ∘ zdR = id := funext fun r => by cases r <;> rfl
 simp [List.map_map, this]
def OkH : List yn → Prop
 | s :: _ => s.Ok Try.prog
 | [] => True
def eT2 {α β : Type} (f : α → A) (g : β → A) (r : α × β) : A := .tup [f r.1, g r.2]
def eT3 {α β γ : Type} (f : α → A) (g : β → A) (h : γ → A) (r : α × β × γ) : A := .tup [f r.1, g r.2.1, h r.2.2]
def z8t {ρ : Type} (k : Nat) (er : ρ → A) (F : Option ρ) (g : List Bool := []) : yn := spF (α := Unit) k (fun _ => []) er (fun _ => F) g fun _ _ _ => rfl
section
variable {α β γ δ ε ρ : Type}
noncomputable abbrev Inj (f : α → A) : Prop := ∀ x y, f x = f y → x = y
def Zw (k : Nat) (e1 : α → A) (er : ρ → A) (F : α → Option ρ) (g : List Bool := []) (i1 : Inj e1 := by exact Yd.inj) : yn := spF k (fun x => [e1 x]) er F g fun x y h => i1 _ _ (List.cons.inj h).1
def kl (k : Nat) (e1 : α → A) (e2 : β → A) (er : ρ → A) (F : α → β → Option ρ) (g : List Bool := []) (i1 : Inj e1 := by exact Yd.inj) (i2 : Inj e2 := by exact Yd.inj) : yn := spF (α := α × β) k (fun x => [e1 x.1, e2 x.2]) er (fun x => F x.1 x.2) g fun x y h => by simp at h; exact Prod.ext (i1 _ _ h.1) (i2 _ _ h.2)
def Qp (k : Nat) (e1 : α → A) (e2 : β → A) (e3 : γ → A) (er : ρ → A) (F : α → β → γ → Option ρ) (g : List Bool := []) (i1 : Inj e1 := by exact Yd.inj) (i2 : Inj e2 := by exact Yd.inj) (i3 : Inj e3 := by exact Yd.inj) : yn := spF (α := α × β × γ) k (fun x => [e1 x.1, e2 x.2.1, e3 x.2.2]) er (fun x => F x.1 x.2.1 x.2.2) g fun x y h => by simp at h; exact Prod.ext (i1 _ _ h.1) (Prod.ext (i2 _ _ h.2.1) (i3 _ _ h.2.2))
def zcq (k : Nat) (e1 : α → A) (e2 : β → A) (e3 : γ → A) (e4 : δ → A) (er : ρ → A) (F : α → β → γ → δ → Option ρ) (g : List Bool := []) (i1 : Inj e1 := by exact Yd.inj) (i2 : Inj e2 := by exact Yd.inj) (i3 : Inj e3 := by exact Yd.inj) (i4 : Inj e4 := by exact Yd.inj) : yn := spF (α := α × β × γ × δ) k (fun x => [e1 x.1, e2 x.2.1, e3 x.2.2.1, e4 x.2.2.2]) er (fun x => F x.1 x.2.1 x.2.2.1 x.2.2.2) g fun x y h => by simp at h; exact Prod.ext (i1 _ _ h.1) (Prod.ext (i2 _ _ h.2.1) (Prod.ext (i3 _ _ h.2.2.1) (i4 _ _ h.2.2.2)))
variable {X : XH Try.prog} {l : List yn} [H : HS X l] {k : Nat} {e1 : α → A} {e2 : β → A} {e3 : γ → A} {e4 : δ → A} {er : ρ → A} {g : List Bool} {i1 : Inj e1} {i2 : Inj e2} {i3 : Inj e3} {i4 : Inj e4} {a : α} {b : β} {c : γ} {d : δ} {r : ρ} {vs : List A} {F0 : Option ρ} {F1 : α → Option ρ} {F2 : α → β → Option ρ} {F3 : α → β → γ → Option ρ} {F4 : α → β → γ → δ → Option ρ}
noncomputable abbrev zx (Y : XH Try.prog) : HS Y l := ⟨H.c, H.ok, H.has⟩
noncomputable abbrev zd {Y m} (n : Nat) (h : l.drop n = m := by rfl) : HS Y m := ⟨H.c, H.ok, fun t q => H.has t (List.mem_of_mem_drop (h ▸ q))⟩
noncomputable abbrev za {Y : XH Try.prog} (s : yn) (hs : s.Ok Try.prog) (h : ((l.map yn.k).contains s.k) = false := by kernel_rfl) : HS Y (s :: l) := ⟨H.c.add s, Ctr.add_ok H.ok hs, fun t q => (List.mem_cons.1 q).elim (fun e => e ▸ Ctr.add_has _ _) fun q => (H.has t q).add (z9n h t q)⟩
theorem hat (i : Nat) {s : yn} (h : l[i]? = some s := by rfl) : H.c.Has s := H.has s (List.mem_of_getElem? h)
def Hk (g : List Bool) {k : Nat} {vs : List A} {r : A} (zg : H.c.gives k = g) (h : H.c.run k (H.c.norm k vs) = some r) : HO := ([.g g, .a r], [ob zg, ob h])
def zg (i : Nat) {s : yn} (h : l[i]? = some s := by rfl) : HO := Hg (hat i h).gives
noncomputable abbrev zR [H : HS X l] (k : Nat) (vs : List A) (r : A) : Prop := H.c.run k (H.c.norm k vs) = some r
theorem zf0 (i : Nat) (hr : F0 = some r) (za : vs.map A.loose = []) (h : l[i]? = some (z8t k er F0 g) := by rfl) : zR k vs (er r) := zaE (x := ()) (hat i h) hr za
theorem zf1 (i : Nat) (hr : F1 a = some r) (za : vs.map A.loose = [e1 a]) (h : l[i]? = some (Zw k e1 er F1 g i1) := by rfl) : zR k vs (er r) := zaE (hat i h) hr za
theorem zf2 (i : Nat) (hr : F2 a b = some r) (za : vs.map A.loose = [e1 a, e2 b]) (h : l[i]? = some (kl k e1 e2 er F2 g i1 i2) := by rfl) : zR k vs (er r) := zaE (x := (a, b)) (hat i h) hr za
theorem zf3 (i : Nat) (hr : F3 a b c = some r) (za : vs.map A.loose = [e1 a, e2 b, e3 c]) (h : l[i]? = some (Qp k e1 e2 e3 er F3 g i1 i2 i3) := by rfl) : zR k vs (er r) := zaE (x := (a, b, c)) (hat i h) hr za
theorem zf4 (i : Nat) (hr : F4 a b c d = some r) (za : vs.map A.loose = [e1 a, e2 b, e3 c, e4 d]) (h : l[i]? = some (zcq k e1 e2 e3 e4 er F4 g i1 i2 i3 i4) := by rfl) : zR k vs (er r) := zaE (x := (a, b, c, d)) (hat i h) hr za
def zC0 (i : Nat) (hr : F0 = some r) (h : l[i]? = some (z8t k er F0 g) := by rfl) : HO := Hk g (z8A (hat i h)) (zf0 i hr loN h)
def zC1 (i : Nat) (hr : F1 a = some r) (h : l[i]? = some (Zw k e1 er F1 g i1) := by rfl) (za : [e1 a].map A.loose = [e1 a] := by exact loC _ _ loN) : HO := Hk g (z8A (hat i h)) (zf1 i hr za h)
def zC2 (i : Nat) (hr : F2 a b = some r) (h : l[i]? = some (kl k e1 e2 er F2 g i1 i2) := by rfl) (za : [e1 a, e2 b].map A.loose = [e1 a, e2 b] := by exact loC _ _ (loC _ _ loN)) : HO := Hk g (z8A (hat i h)) (zf2 i hr za h)
def zC3 (i : Nat) (hr : F3 a b c = some r) (h : l[i]? = some (Qp k e1 e2 e3 er F3 g i1 i2 i3) := by rfl) (za : [e1 a, e2 b, e3 c].map A.loose = [e1 a, e2 b, e3 c] := by exact loC _ _ (loC _ _ (loC _ _ loN))) : HO := Hk g (z8A (hat i h)) (zf3 i hr za h)
include H in
theorem zk2 (i : Nat) (hr : F2 a b = some r) (h : l[i]? = some (kl k e1 e2 er F2 g i1 i2) := by rfl) : qH Try.prog k [e1 a, e2 b] (er r) := z7S H.ok (hat i h) (x := (a, b)) hr
variable {fn : Func} {pn : List (Nat × Value)} {n : Fr} {Q : Exit → St → Prop} {c : Code} {fs : List Fm} {st : St} {σ τ : Type} {J : St → Prop}
noncomputable abbrev hEt (keep : Bool) (rs : List (Nat × Option Nat)) (r : A) (E : St → Prop) : Prop := ∀ st x R U, z8y Vq keep rs st = some (x, R, U) → LeV x r → E st
noncomputable abbrev zN (fn : Func) (pn : List (Nat × Value)) : Fr := ⟨fn.ntmps, pn⟩
noncomputable abbrev zW (fn : Func) (pn : List (Nat × Value)) (Q : Exit → St → Prop) (c : Code) (fs : List Fm) (s : St) : Prop := AWP Try.prog (zN fn pn) c s (Qf Try.prog (zN fn pn) fs Q)
def zOk (f : Func) (n : Nat) : Bool := f.body.isSome && !(f.name == "runtime.NumGoroutine") && Nat.ble n f.ntmps
noncomputable abbrev zB (keep : Bool) (fn : Func) (r : A) (vs : List A) : Prop := ∀ E, hEt keep (rsO fn) r E → zW fn [] (z8x E) (zbd fn) [] (ofL (z4N 0 vs))
theorem ySp {k : Nat} {r : A} {ls : List A} (keep : Bool) (hf : Try.prog.funcs[k]? = some fn) (h : zB keep fn r ls) {m : Nat} (hz : zOk fn m = true) (hm : ls.length = m) : qH Try.prog k ls r := by
 subst hm
 simp only [zOk, Bool.and_eq_true, Bool.not_eq_true'] at hz
 obtain ⟨b, hb⟩ := Option.isSome_iff_exists.1 hz.1.1
 exact z5h (tt := Vq) (keep := keep) (rs := rsO fn) (n := ⟨fn.ntmps, []⟩) (body := zbd fn) Yb hf hz.1.2 (by simp [zbd, hb]) rfl (z98 fn) (Nat.le_of_ble_eq_true hz.2) h
theorem zO0 (h : ∀ r, F0 = some r → qH Try.prog k [] (er r)) : (z8t k er F0 g).Ok Try.prog := Vu fun _ r q => h r q
theorem zO1 (h : ∀ a r, F1 a = some r → qH Try.prog k [e1 a] (er r)) : (Zw k e1 er F1 g i1).Ok Try.prog := Vu fun x r q => h x r q
theorem zO2 (h : ∀ a b r, F2 a b = some r → qH Try.prog k [e1 a, e2 b] (er r)) : (kl k e1 e2 er F2 g i1 i2).Ok Try.prog := Vu fun x r q => h x.1 x.2 r q
theorem zO3 (h : ∀ a b c r, F3 a b c = some r → qH Try.prog k [e1 a, e2 b, e3 c] (er r)) : (Qp k e1 e2 e3 er F3 g i1 i2 i3).Ok Try.prog := Vu fun x r q => h x.1 x.2.1 x.2.2 r q
theorem zO4 (h : ∀ a b c d r, F4 a b c d = some r → qH Try.prog k [e1 a, e2 b, e3 c, e4 d] (er r)) : (zcq k e1 e2 e3 e4 er F4 g i1 i2 i3 i4).Ok Try.prog := Vu fun x r q => h x.1 x.2.1 x.2.2.1 x.2.2.2 r q
theorem yS0 (keep : Bool) (hf : Try.prog.funcs[k]? = some fn) (h : ∀ r, F0 = some r → zB keep fn (er r) []) (hz : zOk fn 0 = true := by kernel_rfl) : (z8t k er F0 g).Ok Try.prog := Vu fun _ r q => ySp keep hf (h r q) hz rfl
theorem yS1 (keep : Bool) (hf : Try.prog.funcs[k]? = some fn) (h : ∀ a r, F1 a = some r → zB keep fn (er r) [e1 a]) (hz : zOk fn 1 = true := by kernel_rfl) : (Zw k e1 er F1 g i1).Ok Try.prog := zO1 fun a r q => ySp keep hf (h a r q) hz rfl
theorem yS2 (keep : Bool) (hf : Try.prog.funcs[k]? = some fn) (h : ∀ a b r, F2 a b = some r → zB keep fn (er r) [e1 a, e2 b]) (hz : zOk fn 2 = true := by kernel_rfl) : (kl k e1 e2 er F2 g i1 i2).Ok Try.prog := zO2 fun a b r q => ySp keep hf (h a b r q) hz rfl
theorem yS3 (keep : Bool) (hf : Try.prog.funcs[k]? = some fn) (h : ∀ a b c r, F3 a b c = some r → zB keep fn (er r) [e1 a, e2 b, e3 c]) (hz : zOk fn 3 = true := by kernel_rfl) : (Qp k e1 e2 e3 er F3 g i1 i2 i3).Ok Try.prog := zO3 fun a b c r q => ySp keep hf (h a b c r q) hz rfl
theorem yS4 (keep : Bool) (hf : Try.prog.funcs[k]? = some fn) (h : ∀ a b c d r, F4 a b c d = some r → zB keep fn (er r) [e1 a, e2 b, e3 c, e4 d]) (hz : zOk fn 4 = true := by kernel_rfl) : (zcq k e1 e2 e3 e4 er F4 g i1 i2 i3 i4).Ok Try.prog := zO4 fun a b c d r q => ySp keep hf (h a b c d r q) hz rfl
section
variable {E : St → Prop} {r : A} {keep : Bool} {rs : List (Nat × Option Nat)} (hE : hEt keep rs r E) (L : List HO)
noncomputable abbrev zrE [H : HS X l] (n : Fr) (keep : Bool) (rs : List (Nat × Option Nat)) (c : Code) (fs : List Fm) (st : St) (L : List HO) := zcI X Vq H.c n keep rs 4000 c fs st (hoH L)
include hE in
theorem yEx (x : A) (hle : LeV x r) (e : zrE n keep rs c fs st L = some (x, hoO L) := by kernel_rfl) : AWP Try.prog n c st (Qf Try.prog n fs (z8x E)) := zce X Yb H.ok z0m hE 4000 (hoB L) (by rw [← z5Y]; exact e) hle
include hE in
theorem yE (e : zrE n keep rs c fs st L = some (r, hoO L) := by kernel_rfl) : AWP Try.prog n c st (Qf Try.prog n fs (z8x E)) := yEx hE L r (LeV.refl _) e
def vE (r : Option (A × List Prop)) : A := match r with | some (x, _) => x | none => .dead 0
include hE in
theorem yEl (e : zrE n keep rs c fs st L = some (vE (zrE n keep rs c fs st L), hoO L) := by kernel_rfl) (e2 : (vE (zrE n keep rs c fs st L)).loose = r := by kernel_rfl) : AWP Try.prog n c st (Qf Try.prog n fs (z8x E)) := yEx hE L _ ⟨fun _ _ _ _ q => e2 ▸ q.loose⟩ e
end
noncomputable abbrev zzq [H : HS X l] (n : Fr) (ks : List Nat) (c : Code) (fs : List Fm) (st : St) (L : List HO) := zcH X Vq H.c n ks 4000 c fs st (hoH L)
theorem yW {ks : List Nat} {s : z14} {s0 : St} (L : List HO) (e : zzq n ks c fs st L = some (s, s0, hoO L)) (h : ∀ st0, canon ks st0 = s0 → s.sem Try.prog n Q st0) : AWP Try.prog n c st (Qf Try.prog n fs Q) :=
 z8k X Yb H.ok z0m ks 4000 (hoB L) (by rw [← z5Y]; exact e) h
noncomputable abbrev hJt (ks : List Nat) (J : St → Prop) (Inv : τ → Prop) (S : τ → List (Nat × T)) : Prop := ∀ st' l' z, Inv z → Own.canon ks st' = ofL l' → LeL l' (S z) → J st'
variable {live : List Nat} {S : τ → List (Nat × T)} {Inv : τ → Prop}
theorem yBx (hJ : hJt live J Inv S) (z : τ) (hz : Inv z) (l : List (Nat × T)) (hl : LeL l (S z)) (L : List HO) (e : zzq n live c fs st L = some (.back J, ofL l, hoO L) := by kernel_rfl) : AWP Try.prog n c st (Qf Try.prog n fs Q) := yW L e fun st0 h0 => hJ st0 _ z hz h0 hl
theorem yB (hJ : hJt live J Inv S) (z : τ) (hz : Inv z) (L : List HO) (e : zzq n live c fs st L = some (.back J, ofL (S z), hoO L) := by kernel_rfl) : AWP Try.prog n c st (Qf Try.prog n fs Q) := yBx hJ z hz _ (LeL.refl _) L e
theorem yF (ex : Exit) (l : List (Nat × T)) (L : List HO) (h : ∀ st0, Own.canon (Vb l) st0 = ofL l → Q ex st0) (e : zzq n (Vb l) c fs st L = some (.fin ex, ofL l, hoO L) := by kernel_rfl) : AWP Try.prog n c st (Qf Try.prog n fs Q) := yW L e h
theorem yAt (c' : Code) (fs' : List Fm) (l : List (Nat × T)) (L : List HO) (h : ∀ st0, Own.canon (Vb l) st0 = ofL l → AWP Try.prog n c' st0 (Qf Try.prog n fs' Q)) (e : zzq n (Vb l) c fs st L = some (.at c' fs', ofL l, hoO L) := by kernel_rfl) : AWP Try.prog n c st (Qf Try.prog n fs Q) := yW L e h
def dgL (n : Nat) : List Nat := Nat.rec (motive := fun _ => Nat → List Nat → List Nat) (fun _ l => l) (fun _ ih m l => if m < 10 then l else ih (m / 10) (m % 10 :: l)) 40 n []
noncomputable instance (n : Nat) : OfNat (List Nat) n := ⟨dgL n⟩
noncomputable abbrev zzt (p : List Nat) (d : Nat) (fn : Func) : Code := sub (p ++ [d]) (zbd fn)
noncomputable abbrev zzp (p : List Nat) (fn : Func) : Code := sub p (zbd fn)
noncomputable abbrev zzm (p : List Nat) (Js : List (St → Prop)) (fn : Func) := frs p Js (zbd fn) []
noncomputable abbrev zzr [H : HS X l] (fn : Func) (pn : List (Nat × Value)) (ks : List Nat) (c : Code) (fs : List Fm) (st : St) (L : List HO) := zzq (zN fn pn) ks c fs st L
noncomputable abbrev zzs [H : HS X l] (fn : Func) (pn : List (Nat × Value)) (ks : List Nat) (c : Code) (fs : List Fm) (st : St) (L : List HO) : St := stO (zzr fn pn ks c fs st L)
noncomputable abbrev zzu (p : List Nat) (Js : List (St → Prop)) (fn : Func) (s : St) (L : List HO) : Option (z14 × St × List Prop) := some (.at (zzp p fn) (zzm p Js fn), s, hoO L)
noncomputable abbrev zzv (fn : Func) (pn : List (Nat × Value)) (Q : Exit → St → Prop) (p : List Nat) (Js : List (St → Prop)) (Inv : σ → Prop) (S : σ → St) : Prop := ∀ z, Inv z → zW fn pn Q (zzt p 1 fn) (zzm p Js fn) (S z)
noncomputable abbrev zzw (fn : Func) (pn : List (Nat × Value)) (Q : Exit → St → Prop) (p : List Nat) (Js : List (St → Prop)) (live : List Nat) (Inv : σ → Prop) (S : σ → List (Nat × T)) (s : St) : Prop := ∀ J : St → Prop, hJt live J Inv S → zW fn pn Q (zzt p 2 fn) (.pre J :: zzm p Js fn) s
noncomputable abbrev rdT (fn : Func) (pn : List (Nat × Value)) (Q : Exit → St → Prop) (p : List Nat) (Js : List (St → Prop)) (ks : List Nat) (f : σ → Option (LR σ τ)) (t : τ) (S : σ → List (Nat × T)) : Prop := ∀ x m lr, f x = some lr → zez f m t lr → ∀ J : St → Prop, hJt ks J (fun x' => Xa f m x' = some t) S → zW fn pn Q (zzt p 0 fn) (.pre J :: zzm p Js fn) (ofL (S x))
variable (path : List Nat) (Js : List (St → Prop))
theorem yC (ks : List Nat) (L : List HO) (h : zW fn pn Q (zzp path fn) (zzm path Js fn) (zzs fn pn ks c fs st L)) (e : zzr fn pn ks c fs st L = zzu path Js fn (zzs fn pn ks c fs st L) L := by kernel_rfl) : zW fn pn Q c fs st := yW L e fun st0 h0 => AWP.canon ks (by rw [h0]; exact h)
section
variable {f : σ → Option (LR σ τ)} {t : τ}
theorem yLx (f : σ → Option (LR σ τ)) (S : σ → List (Nat × T)) (x0 : σ) {t : τ} (ht : loop f x0 = some t) (l : List (Nat × T)) (hl : LeL l (S x0)) (L : List HO) (round : rdT fn pn Q path Js (Vb l) f t S) (e : zzr fn pn (Vb l) c fs st L = zzu path Js fn (ofL l) L := by kernel_rfl) (e2 : zzp path fn = .loop (zzt path 0 fn) := by kernel_rfl) (hk : ∀ x, Vb (S x) = Vb l := by exact fun _ => rfl) : zW fn pn Q c fs st := by
 refine yW L e fun st0 h0 => ?_
 refine z5l (X := σ × Nat) e2 (Vb l) (fun x => Xa f x.2 x.1 = some t) (fun x => x.2) (fun x => S x.1) (x0, fuel) _ h0 hl ht ?_
 rintro ⟨x, k⟩ hx J hJ
 obtain ⟨m, lr, rfl, hf, hr⟩ := zcP hx
 exact round x m lr hf hr J fun st' l' x' h1 h2 h3 => hJ st' l' (x', m) h1 (Nat.lt_succ_self m) h2 h3
theorem yL (f : σ → Option (LR σ τ)) (S : σ → List (Nat × T)) (x0 : σ) {t : τ} (ht : loop f x0 = some t) (L : List HO) (round : rdT fn pn Q path Js (Vb (S x0)) f t S) (e : zzr fn pn (Vb (S x0)) c fs st L = zzu path Js fn (ofL (S x0)) L := by kernel_rfl) (e2 : zzp path fn = .loop (zzt path 0 fn) := by kernel_rfl) (hk : ∀ x, Vb (S x) = Vb (S x0) := by exact fun _ => rfl) : zW fn pn Q c fs st := yLx path Js f S x0 ht _ (LeL.refl _) L round e e2 hk
variable (ks : List Nat) (dl : σ → List (Nat × T)) {x0 : σ}
theorem yM (ht : loop f x0 = some t) (L : List HO) (round : rdT fn pn Q path Js ks f t fun x => clS ks (zzs fn pn ks c fs st L) (dl x)) (e : zzr fn pn ks c fs st L = zzu path Js fn (ofL (clS ks (zzs fn pn ks c fs st L) (dl x0))) L := by kernel_rfl) (e2 : zzp path fn = .loop (zzt path 0 fn) := by kernel_rfl) : zW fn pn Q c fs st := by
 have hk : ∀ x, Vb (clS ks (zzs fn pn ks c fs st L) (dl x)) = ks := fun x => z0x _ _ _
 refine yLx path Js f (fun x => clS ks (zzs fn pn ks c fs st L) (dl x)) x0 ht _ (LeL.refl _) L ?_ (by rw [hk]; exact e) e2 fun x => by rw [hk, hk]
 rw [hk]
 exact round
theorem yMb {ρ' : Type} {k : τ → Option ρ'} {r : ρ'} (hb : Option.bind (loop f x0) k = some r) (L : List HO) (round : ∀ t, k t = some r → rdT fn pn Q path Js ks f t fun x => clS ks (zzs fn pn ks c fs st L) (dl x)) (e : zzr fn pn ks c fs st L = zzu path Js fn (ofL (clS ks (zzs fn pn ks c fs st L) (dl x0))) L := by kernel_rfl) (e2 : zzp path fn = .loop (zzt path 0 fn) := by kernel_rfl) : zW fn pn Q c fs st := by
 obtain ⟨t, ht, h⟩ := zH hb
 exact yM path Js ks dl ht L (round t h) e e2
def okT : T → Bool
 | .own _ | .d _ | .gone => true
 | .als _ p _ _ => p.isEmpty
 | _ => false
theorem z9f {x : T} (h : okT x = true) : LeT x x := by
 cases x with
 | own x => exact ⟨x, rfl, inferInstance⟩
 | d x => exact ⟨x, rfl, inferInstance⟩
 | gone => rfl
 | als r p er ec => cases p with
  | nil => exact ⟨rfl, rfl⟩
  | cons a p => cases h
 | _ => cases h
theorem z5Z {s : St} : ∀ {d d' : List (Nat × T)}, Uf d d' → Vb d = Vb d' → ∀ {ks : List Nat}, (ks.all fun k => okT (s k).t) = true → Uf (clS ks s d) (clS ks s d')
 | _, _, _, _, [], _ => Uf.nil
 | d, d', hd, hk, k :: ks, h => by
  simp only [List.all_cons, Bool.and_eq_true] at h
  refine Uf.cons' ?_ (z5Z hd hk h.2)
  have q := (hd.ent k).2.2
  clear hd
  induction d generalizing d' with
  | nil => cases d' with
   | nil => exact z9f h.1
   | cons y d' => cases hk
  | cons x d ih => cases d' with
   | nil => cases hk
   | cons y d' =>
    simp only [Vb, List.map_cons, List.cons.injEq] at hk
    simp only [ofL, hk.1] at q
    simp only [List.lookup, hk.1]
    by_cases e : k = y.1
    ·subst e
     simpa using q
    ·simp only [e, if_false] at q
     rw [show (k == y.1) = false by simpa using e]
     exact ih _ hk.2 q
theorem yMx (ht : loop f x0 = some t) (d0 : List (Nat × T)) (L : List HO) (round : rdT fn pn Q path Js ks f t fun x => clS ks (zzs fn pn ks c fs st L) (dl x)) (e : zzr fn pn ks c fs st L = zzu path Js fn (ofL (clS ks (zzs fn pn ks c fs st L) d0)) L := by kernel_rfl) (e2 : zzp path fn = .loop (zzt path 0 fn) := by kernel_rfl) (ho : (ks.all fun k => okT (zzs fn pn ks c fs st L k).t) = true := by kernel_rfl) (hk : Vb d0 = Vb (dl x0) := by rfl) (hd : Uf d0 (dl x0) := by infer_instance) : zW fn pn Q c fs st := by
 have hk : ∀ d, Vb (clS ks (zzs fn pn ks c fs st L) d) = ks := fun d => z0x _ _ _
 refine yLx path Js f (fun x => clS ks (zzs fn pn ks c fs st L) (dl x)) x0 ht (clS ks (zzs fn pn ks c fs st L) d0) ⟨.inr (z5Z hd ‹_› ho)⟩ L ?_ (by rw [hk]; exact e) e2 fun x => by rw [hk, hk]
 rw [hk]
 exact round
end
noncomputable abbrev zI {ρ : Type} (F : σ → Option ρ) (r : ρ) (z : σ) : Prop := F z = some r
variable (live : List Nat) (Inv : σ → Prop) (S : σ → List (Nat × T))
theorem yK (ks : List Nat) (L : List HO) (h1 : zzv fn pn Q path Js Inv fun z => ofL (S z)) (h2 : zzw fn pn Q path Js live Inv S (zzs fn pn ks c fs st L)) (e : zzr fn pn ks c fs st L = zzu path Js fn (zzs fn pn ks c fs st L) L := by kernel_rfl) (e2 : zzp path fn = .seq (zzt path 2 fn) (zzt path 1 fn) := by kernel_rfl) : zW fn pn Q c fs st := by
 refine yW L e fun st0 h0 => ?_
 show AWP Try.prog _ (zzp path fn) st0 _
 rw [e2]
 refine AWP.canon ks ?_
 rw [h0]
 refine AWP.nextC live fun K hK => h2 K fun st' l' z hz he hl => hK st' ?_
 rw [he]
 exact z8l hl (h1 z hz)
theorem yN (ks : List Nat) (L : List HO) (h1 : zzv fn pn Q path Js Inv fun z => ofL (clS live (zzs fn pn ks c fs st L) (S z))) (h2 : zzw fn pn Q path Js live Inv (fun z => clS live (zzs fn pn ks c fs st L) (S z)) (zzs fn pn ks c fs st L)) (e : zzr fn pn ks c fs st L = zzu path Js fn (zzs fn pn ks c fs st L) L := by kernel_rfl) (e2 : zzp path fn = .seq (zzt path 2 fn) (zzt path 1 fn) := by kernel_rfl) : zW fn pn Q c fs st := yK path Js live Inv _ ks L h1 h2 e e2
theorem yNs (L : List HO) (h1 : zzv fn pn Q path Js Inv fun z => ofL (clS live (zzs fn pn live c fs st L) (S z))) (h2 : zzw fn pn Q path Js live Inv (fun z => clS live (zzs fn pn live c fs st L) (S z)) (zzs fn pn live c fs st L)) (e : zzr fn pn live c fs st L = zzu path Js fn (zzs fn pn live c fs st L) L := by kernel_rfl) (e2 : zzp path fn = .seq (zzt path 2 fn) (zzt path 1 fn) := by kernel_rfl) : zW fn pn Q c fs st := yK path Js live Inv _ live L h1 h2 e e2
theorem yKs (L : List HO) (h1 : zzv fn pn Q path Js Inv fun z => ofL (S z)) (h2 : zzw fn pn Q path Js live Inv S (zzs fn pn live c fs st L)) (e : zzr fn pn live c fs st L = zzu path Js fn (zzs fn pn live c fs st L) L := by kernel_rfl) (e2 : zzp path fn = .seq (zzt path 2 fn) (zzt path 1 fn) := by kernel_rfl) : zW fn pn Q c fs st := yK path Js live Inv S live L h1 h2 e e2
end
def Hb {t b : Bool} {p : Prop} (h : t = b ∧ p) : HO := Hq h.1
noncomputable instance {t b : Bool} {p : Prop} (h : t = b ∧ p) : CoeDep (t = b ∧ p) h HO := ⟨Hb h⟩
theorem xm {α β γ : Type} {x : Option α} {f : α → Option β} {g : α → β → Option γ} {r : γ} (h : Option.bind x (fun u => Option.bind (f u) (g u)) = some r) : ∃ u, x = some u ∧ ∃ v, f u = some v ∧ g u v = some r := by obtain ⟨u, h, q⟩ := zH h; exact ⟨u, h, zH q⟩
theorem V2 {α β γ δ : Type} {x : Option α} {f : α → Option β} {g : α → β → Option γ} {k : α → β → γ → Option δ} {r : δ} (h : Option.bind x (fun u => Option.bind (f u) fun v => Option.bind (g u v) (k u v)) = some r) : ∃ u, x = some u ∧ ∃ v, f u = some v ∧ ∃ w, g u v = some w ∧ k u v w = some r := by obtain ⟨u, h, q⟩ := zH h; exact ⟨u, h, xm q⟩
theorem zda {α β γ δ ε : Type} {x : Option α} {f : α → Option β} {g : α → β → Option γ} {k : α → β → γ → Option δ} {l : α → β → γ → δ → Option ε} {r : ε} (h : Option.bind x (fun u => Option.bind (f u) fun v => Option.bind (g u v) fun w => Option.bind (k u v w) (l u v w)) = some r) : ∃ u, x = some u ∧ ∃ v, f u = some v ∧ ∃ w, g u v = some w ∧ ∃ y, k u v w = some y ∧ l u v w y = some r := by obtain ⟨u, h, q⟩ := zH h; exact ⟨u, h, V2 q⟩
theorem Jr : z5q Try.prog 122 127 3 (WJ [.i64, .i64, .i64, .i64, .i64, .i64, .i64, .i64, .i64, .i64, .i64, .i64, .i64, .i64, .i64, .i64, .i64, .i64, .i64, .i64, .i64, .i64, .i64, .i64, .i64, .i64, .i64, .i64, .i64, .i64, .i64, .i64, .i64]) (.atom (.int .i64 0)) := z4w Try.underlying122 _ Try.underlying127 (exq Go.Ex.zcK) (KU.eqn rfl) rfl ⟨.int .i64 0, fun w => z3C (f := Try.t3) (by kernel_rfl) rfl w, fun S => w5.2 ⟨rfl, rfl⟩⟩ rfl
def l0 : List yn := []
def l1 : List yn := Zw 4 vz (eI .i64) qw :: l0
theorem Uu [H : HS X0 l0] : OkH l1 := yS1 true Try.func4 fun m_ r0 aa E hE => by
 let Z0 : List HO := [Ha (lnM F7_ m_.Rows)]
 obtain c0 | c0 := zE aa
 ·cases c0.2
  exact yE hE (Z0 ++ [c0])
 ·refine yK 111 [] [] (fun z : Unit => ZK = some r0) (fun z => []) [1] (Z0 ++ [c0, Hh (.cut 0)]) ?_ fun J1 ap => ?_
  ·rintro ⟨⟩ aa
   cases aa
   exact yE hE []
  ·refine yMb 111210 [J1] [1,3] (fun x => [(3, .d (I x))]) c0.2  [] fun t2 aa s_ m2 aw ae hl1 J2 aq => ?_
   let Z1 : List HO := [Ha (lnM F7_ m_.Rows)]
   obtain c1 | c1 := zE ae
   ·obtain ⟨al, h0, ae⟩ := zH c1.2
    let Z2 : List HO := (Z1 ++ [c1, Hi F7_ h0, Ha (lnM F5_ al)])
    obtain c2 | c2 := zE ae
    ·cases c2.2
     cases hl1
     cases aa
     exact yE hE (Z2 ++ [c2])
    ·cases c2.2
     exact yB aq _ hl1 (Z2 ++ [c2])
   ·cases c1.2
    cases hl1
    exact yB ap () aa (Z1 ++ [c1])
def l2 : List yn := Zw 5 F6_ (eI .i64) qd :: l1
theorem Up [H : HS X0 l1] : OkH l2 := yS1 true Try.func5 fun l_ r0 aa E hE => by
 refine yK 111 [] [3] (zI ZD r0) (fun z => [(3, .d (I z))]) [0,3] [Hh (.cut 2)] ?_ fun J1 ap => ?_
 ·rintro n_ aa
  cases aa
  exact yE hE []
 ·refine yMb 111210 [J1] [0,3,4] (fun x => [(3, .d (I x.1)), (4, .d (I x.2))]) aa  [] fun t2 aa ⟨av, i_⟩ m2 aw ae hl1 J2 aq => ?_
  let Z0 : List HO := [Ha (lnM F2_ l_)]
  obtain c0 | c0 := zE ae
  ·obtain ⟨au, h0, ae⟩ := zH c0.2
   cases ae
   exact yB aq _ hl1 (Z0 ++ [c0, Hi F2_ h0, Ha (lnM (eI .i64) au)])
  ·cases c0.2
   cases hl1
   exact yB ap av aa (Z0 ++ [c0])
def l3 : List yn := Zw 19 vz (eI .i64) vC :: l2
theorem Ut [H : HS X0 l2] : OkH l3 := yS1 true Try.func19 fun m_ r0 aa E hE => by
 obtain c0 | c0 := zE aa
 ·cases c0.2
  exact yE hE (rpN 4 (Hb c0) (rpN 6 qT []))
 ·let Z0 : List HO := (rpN 4 (Hb c0) [])
  obtain c1 | c1 := zE c0.2
  ·cases c1.2
   exact yE hE (Z0 ++ (rpN 5 (Hb c1) [qT]))
  ·let Z1 : List HO := (Z0 ++ [c1, c1, c1, Ha (lnM F7_ m_.Rows), c1, c1])
   obtain c2 | c2 := zE c1.2
   ·cases c2.2
    exact yE hE (Z1 ++ [c2])
   ·obtain c3 | c3 := zE c2.2
    ·cases c3.2
     exact yE hE (Z1 ++ (Hb c2 :: (rpN 4 (Hb c3) (rpN 6 qT []))))
    ·let Z2 : List HO := (Z1 ++ (Hb c2 :: (rpN 4 (Hb c3) [])))
     obtain c4 | c4 := zE c3.2
     ·cases c4.2
      exact yE hE (Z2 ++ (rpN 5 (Hb c4) [qT]))
     ·let Z3 : List HO := (Z2 ++ [c4, c4, c4, Ha (lnM F7_ m_.Rows), c4, c4])
      obtain c5 | c5 := zE c4.2
      ·cases c5.2
       exact yE hE (Z3 ++ [c5])
      ·refine yK 1111 [] [] (fun z : Unit => ZH = some r0) (fun z => []) [1] (Z3 ++ [c5, Hh (.cut 0)]) ?_ fun J1 ap => ?_
       ·rintro ⟨⟩ aa
        cases aa
        exact yE hE []
       ·refine yMb 1111210 [J1] [1,3] (fun x => [(3, .d (I x))]) c5.2  [] fun t2 aa s_ m2 aw ae hl1 J2 aq => ?_
        let Z4 : List HO := [Ha (lnM F7_ m_.Rows)]
        obtain c6 | c6 := zE ae
        ·refine yNs 111121001 [J1, J2] [1,3] (fun z : Unit => ZG s_ = some aw) (fun z => []) (Z4 ++ [c6, Hh (.cut 0)]) ?_ fun J3 a8 => ?_
         ·rintro ⟨⟩ ae
          cases ae
          exact yB aq _ hl1 []
         ·obtain ⟨al, h0, ae⟩ := zH c6.2
          let Z5 : List HO := [Hi F7_ h0, Ha (lnM F5_ al)]
          obtain c7 | c7 := zE ae
          ·cases c7.2
           cases hl1
           cases aa
           exact yE hE (Z5 ++ [c7])
          ·refine yMb 11112100120110 [J1, J2, J3] [1,3,4] (fun x => [(4, .d (I x))]) c7.2  (Z5 ++ [c7]) fun t4 ae i_ m4 de ak hl2 J4 cn => ?_
           obtain c8 | c8 := zE ak
           ·refine yNs 1111210012011001 [J1, J2, J3, J4] [1,3,4] (fun z : Unit => vZ i_ = some de) (fun z => []) [c8, Hh (.cut 0)] ?_ fun J5 hJ5 => ?_
            ·rintro ⟨⟩ ak
             cases ak
             exact yB cn _ hl2 []
            ·obtain ⟨ck, h1, ah, h2, ak⟩ := xm c8.2
             refine yNs 1111210012011001201 [J1, J2, J3, J4, J5] [1,3,4,5] (fun z : Unit => vY m_ i_ ah = some de) (fun z => []) [Hi F7_ h1, Hi F5_ h2, Hh (.cut 0)] ?_ fun J6 eb => ?_
             ·rintro ⟨⟩ ak
              obtain c9 | c9 := zE ak
              ·cases c9.2
               cases hl2
               cases ae
               cases hl1
               cases aa
               exact yE hE (rpN 7 (Hb c9) (rpN 11 qT []))
              ·let Z6 : List HO := (rpN 5 (Hb c9) [Ha (lnM F7_ m_.Rows), c9, c9])
               obtain c10 | c10 := zE c9.2
               ·cases c10.2
                cases hl2
                cases ae
                cases hl1
                cases aa
                exact yE hE (Z6 ++ (rpN 4 (Hb c10) (rpN 7 qT [])))
               ·let Z7 : List HO := (Z6 ++ (rpN 4 (Hb c10) []))
                obtain c11 | c11 := zE c10.2
                ·cases c11.2
                 cases hl2
                 cases ae
                 cases hl1
                 cases aa
                 exact yE hE (Z7 ++ (rpN 6 (Hb c11) [qT]))
                ·let Z8 : List HO := (Z7 ++ (rpN 6 (Hb c11) []))
                 obtain c12 | c12 := zE c11.2
                 ·cases c12.2
                  cases hl2
                  cases ae
                  cases hl1
                  cases aa
                  exact yE hE (Z8 ++ [c12])
                 ·exact yB hJ5 () c12.2 (Z8 ++ [c12])
             ·obtain c13 | c13 := zE ak
              ·let Z9 : List HO := (rpN 4 (Hb c13) [])
               obtain c14 | c14 := zE c13.2
               ·exact yB hJ5 () c14.2 (Z9 ++ [c14])
               ·exact yB eb () c14.2 (Z9 ++ [c14])
              ·exact yB eb () c13.2 (rpN 4 (Hb c13) [qF])
           ·cases c8.2
            cases hl2
            exact yB a8 () ae [c8]
        ·cases c6.2
         cases hl1
         exact yB ap () aa (Z4 ++ [c6])
def l4 : List yn := Zw 46 F2_ (eI .i64) jg :: l3
theorem Qx [H : HS X0 l3] : OkH l4 := yS1 true Try.func46 fun w_ r0 aa E hE => by
 obtain c0 | c0 := zE aa
 ·cases c0.2
  exact yE hE [Ha (lnM (eI .i64) w_), c0]
 ·cases c0.2
  exact yE hE [Ha (lnM (eI .i64) w_), c0]
def l5 : List yn := kl 47 F2_ (eI .i64) (eI .i64) uA :: l4
theorem W6 [H : HS X0 l4] : OkH l5 := yS2 true Try.func47 fun w_ inputs r0 aa E hE => by
 refine yK 11 [] [] (fun z : Unit => k8 = some r0) (fun z => []) [0,1] [Hh (.cut 1)] ?_ fun J1 ap => ?_
 ·rintro ⟨⟩ aa
  cases aa
  exact yE hE []
 ·refine yMb 11210 [J1] [0,1,5] (fun x => [(5, .d (I x))]) aa  [] fun t2 aa i_ m2 aw ae hl1 J2 aq => ?_
  obtain c0 | c0 := zE ae
  ·obtain ⟨bh, h0, ae⟩ := zH c0.2
   let Z0 : List HO := [Ha (lnM (eI .i64) w_), c0, Hi (eI .i64) h0]
   obtain c1 | c1 := zE ae
   ·cases c1.2
    cases hl1
    cases aa
    exact yE hE (Z0 ++ (rpN 7 (Hb c1) [qT]))
   ·obtain ⟨gf, h1, ae⟩ := zH c1.2
    let Z1 : List HO := (Z0 ++ (Hb c1 :: Hb c1 :: Hb c1 :: Hi (eI .i64) h1 :: (rpN 4 (Hb c1) [])))
    obtain c2 | c2 := zE ae
    ·cases c2.2
     cases hl1
     cases aa
     exact yE hE (Z1 ++ [c2])
    ·cases c2.2
     exact yB aq _ hl1 (Z1 ++ [c2])
  ·cases c0.2
   cases hl1
   exact yB ap () aa [Ha (lnM (eI .i64) w_), c0]
def l6 : List yn := kl 28 F6_ (eI .i64) (eI .i64) jF :: l5
theorem Uq [H : HS X0 l5] : OkH l6 := yS2 true Try.func28 fun l_ inputs r0 aa E hE => by
 obtain c0 | c0 := zE aa
 ·cases c0.2
  exact yE hE (rpN 4 (Hb c0) [qT])
 ·let Z0 : List HO := [c0, c0, Ha (lnM F2_ l_), c0, c0]
  obtain c1 | c1 := zE c0.2
  ·cases c1.2
   exact yE hE (Z0 ++ [c1])
  ·obtain c2 | c2 := zE c1.2
   ·cases c2.2
    exact yE hE (Z0 ++ [c1, c2])
   ·refine yK 1111 [] [] (fun z : Unit => ZE = some r0) (fun z => []) [0,1] (Z0 ++ [c1, c2, Hh (.cut 0)]) ?_ fun J1 ap => ?_
    ·rintro ⟨⟩ aa
     cases aa
     exact yE hE []
    ·refine yMb 1111210 [J1] [0,1,5] (fun x => [(5, .d (I x))]) c2.2  [] fun t2 aa i_ m2 aw ae hl1 J2 aq => ?_
     let Z1 : List HO := [Ha (lnM F2_ l_)]
     obtain c3 | c3 := zE ae
     ·obtain ⟨au, h0, r_, h1, ae⟩ := xm c3.2
      let Z2 : List HO := (Z1 ++ [c3, Hi F2_ h0, zC1 1 h1])
      obtain c4 | c4 := zE ae
      ·cases c4.2
       cases hl1
       cases aa
       exact yE hE (Z2 ++ [c4])
      ·obtain ⟨bl, h2, aj, h3, ae⟩ := xm c4.2
       let Z3 : List HO := (Z2 ++ [c4, Hi F2_ h2, zC2 0 h3])
       obtain c5 | c5 := zE ae
       ·cases c5.2
        cases hl1
        cases aa
        exact yE hE (Z3 ++ [c5])
       ·cases c5.2
        exact yB aq _ hl1 (Z3 ++ [c5])
     ·cases c3.2
      cases hl1
      exact yB ap () aa (Z1 ++ [c3])
def l7 : List yn := kl 29 F2_ F2_ (eI .i64) v8 :: l6
theorem W7 [H : HS X0 l6] : OkH l7 := yS2 true Try.func29 fun a_ b_ r0 aa E hE => by
 let Z0 : List HO := [Ha (lnM (eI .i64) a_), Ha (lnM (eI .i64) b_)]
 obtain c0 | c0 := zE aa
 ·let Z1 : List HO := (Z0 ++ [c0, Ha (lnM (eI .i64) a_), Ha (lnM (eI .i64) b_)])
  obtain c1 | c1 := zE c0.2
  ·cases c1.2
   exact yE hE (Z1 ++ [c1])
  ·cases c1.2
   exact yE hE (Z1 ++ [c1])
 ·refine yK 111 [] [] (fun z : Unit => k9 = some r0) (fun z => []) [0,1] (Z0 ++ [c0, Hh (.cut 0)]) ?_ fun J1 ap => ?_
  ·rintro ⟨⟩ aa
   cases aa
   exact yE hE []
  ·refine yMb 111210 [J1] [0,1,5] (fun x => [(5, .d (I x))]) c0.2  [] fun t2 aa i_ m2 aw ae hl1 J2 aq => ?_
   obtain c2 | c2 := zE ae
   ·obtain ⟨du, h0, dv, h1, ae⟩ := xm c2.2
    let Z2 : List HO := [Ha (lnM (eI .i64) a_), c2, Hi (eI .i64) h0, Hi (eI .i64) h1]
    obtain c3 | c3 := zE ae
    ·cases c3.2
     cases hl1
     cases aa
     exact yE hE (Z2 ++ [c3])
    ·obtain ⟨gg, h2, gh, h3, ae⟩ := xm c3.2
     let Z3 : List HO := (Z2 ++ [c3, Hi (eI .i64) h2, Hi (eI .i64) h3])
     obtain c4 | c4 := zE ae
     ·cases c4.2
      cases hl1
      cases aa
      exact yE hE (Z3 ++ [c4])
     ·cases c4.2
      exact yB aq _ hl1 (Z3 ++ [c4])
   ·cases c2.2
    cases hl1
    exact yB ap () aa [Ha (lnM (eI .i64) a_), c2]
def l8 : List yn := kl 15 F6_ (eI .i64) (eI .i64) qe :: l7
theorem Ur [H : HS X0 l7] : OkH l8 := yS2 true Try.func15 fun l_ inputs r0 aa E hE => by
 obtain ⟨r_, h0, aa⟩ := zH aa
 let Z0 : List HO := [zC2 1 h0]
 obtain c0 | c0 := zE aa
 ·cases c0.2
  exact yE hE (Z0 ++ [c0])
 ·refine yNs 111 [] [0] (fun z : Unit => j5 l_ = some r0) (fun z => []) (Z0 ++ [c0, Hh (.cut 0)]) ?_ fun J1 ap => ?_
  ·rintro ⟨⟩ aa
   obtain ⟨aj, h1, aa⟩ := zH aa
   let Z1 : List HO := [zC1 5 h1]
   obtain c1 | c1 := zE aa
   ·cases c1.2
    exact yE hE (Z1 ++ [c1])
   ·cases c1.2
    exact yE hE (Z1 ++ [c1])
  ·refine yMb 111210 [J1] [0,6] (fun x => [(6, .d (I x))]) c0.2  [] fun t2 aa i_ m2 aw ae hl1 J2 aq => ?_
   let Z2 : List HO := [Ha (lnM F2_ l_)]
   obtain c2 | c2 := zE ae
   ·obtain ⟨au, h2, bl, h3, bg, h4, ae⟩ := V2 c2.2
    let Z3 : List HO := (Z2 ++ [c2, Hi F2_ h2, Hi F2_ h3, zC2 0 h4])
    obtain c3 | c3 := zE ae
    ·cases c3.2
     cases hl1
     cases aa
     exact yE hE (Z3 ++ [c3])
    ·cases c3.2
     exact yB aq _ hl1 (Z3 ++ [c3])
   ·cases c2.2
    cases hl1
    exact yB ap () aa (Z2 ++ [c2])
def l9 : List yn := Qp 6 vz vz F6_ (eI .i64) jB :: l8
theorem Um [H : HS X0 l8] : OkH l9 := yS3 true Try.func6 fun m_ other l_ r0 aa E hE => by
 obtain ⟨r_, h0, aa⟩ := zH aa
 let Z0 : List HO := [zC1 5 h0]
 obtain c0 | c0 := zE aa
 ·cases c0.2
  exact yE hE (Z0 ++ [c0])
 ·obtain ⟨aj, h1, aa⟩ := zH c0.2
  let Z1 : List HO := (Z0 ++ [c0, zC1 5 h1])
  obtain c1 | c1 := zE aa
  ·cases c1.2
   exact yE hE (Z1 ++ [c1])
  ·obtain c2 | c2 := zE c1.2
   ·cases c2.2
    exact yE hE (Z1 ++ [c1, c2])
   ·obtain ⟨bg, h2, aa⟩ := zH c2.2
    cases aa
    exact yE hE (Z1 ++ [c1, c2, zC2 0 h2])
def l10 : List yn := z8t 65 F5_ vq :: l9
theorem Wb [H : HS X0 l9] : OkH l10 := yS0 false Try.func65 fun r0 aa E hE => by
 cases aa
 exact yE hE []
def l11 : List yn := kl 52 vz F5_ eB uE :: l10
theorem Wc [H : HS X0 l10] : OkH l11 := yS2 true Try.func52 fun m_ x_ r0 aa E hE => by
 obtain ⟨r_, h0, aa⟩ := zH aa
 let Z0 : List HO := [zC0 0 h0]
 obtain c0 | c0 := zE aa
 ·cases c0.2
  exact yE hE (Z0 ++ (rpN 10 (Hb c0) []))
 ·let Z1 : List HO := (Z0 ++ (rpN 4 (Hb c0) []))
  obtain c1 | c1 := zE c0.2
  ·let Z2 : List HO := (Z1 ++ (rpN 5 (Hb c1) [Ha (lnM F7_ m_.Rows), c1, c0, c1, c0]))
   obtain c2 | c2 := zE c1.2
   ·let Z3 : List HO := (Z2 ++ [c2, c2, c2, c0, c2, c0])
    obtain c3 | c3 := zE c2.2
    ·cases c3.2
     exact yE hE (Z3 ++ (rpN 5 (Hb c3) [c0, c3, c0]))
    ·cases c3.2
     exact yE hE (Z3 ++ (rpN 5 (Hb c3) [c0, c3, c0]))
   ·cases c2.2
    exact yE hE (Z2 ++ (Hb c2 :: Hb c2 :: Hb c2 :: Hb c0 :: Hb c2 :: Hb c0 :: (rpN 5 qF [c0, qF, c0])))
  ·cases c1.2
   exact yE hE (Z1 ++ (rpN 6 (Hb c1) (Hb c0 :: Hb c1 :: Hb c0 :: qF :: qF :: qF :: Hb c0 :: qF :: Hb c0 :: (rpN 5 qF [c0, qF, c0]))))
def l12 : List yn := kl 51 F5_ z3u eB ur :: l11
theorem Yk [H : HS X0 l11] : OkH l12 := yS2 true Try.func51 fun x_ x1 r0 aa E hE => by
 obtain ⟨r_, h0, aa⟩ := zH aa
 cases aa
 exact yE hE [zC2 0 h0]
def l13 : List yn := kl 64 F7_ (z0S 51 z3u) (eI .i64) yd :: l12
theorem wp [H : HS X0 l12] : OkH l13 := yS2 true Try.func64 fun s_ f_ r0 aa E hE => by
 refine yK 11 [] [] (fun z : Unit => yA = some r0) (fun z => []) [0,1] [Hh (.cut 1)] ?_ fun J1 ap => ?_
 ·rintro ⟨⟩ aa
  cases aa
  exact yE hE []
 ·refine yMb 11210 [J1] [0,1,7,8] (fun x => [(8, .d (I x))]) aa  [Ha (lnM F5_ s_)] fun t2 aa x8 m2 aw ae hl1 J2 aq => ?_
  obtain c0 | c0 := zE ae
  ·obtain ⟨co, h0, r_, h1, ae⟩ := xm c0.2
   let Z0 : List HO := [c0, Hi F5_ h0, zC2 0 h1]
   obtain c1 | c1 := zE ae
   ·cases c1.2
    cases hl1
    cases aa
    exact yE hE (Z0 ++ [c1])
   ·cases c1.2
    exact yB aq _ hl1 (Z0 ++ [c1])
  ·cases c0.2
   cases hl1
   exact yB ap () aa [c0]
def l14 : List yn := kl 50 F7_ (z0S 51 z3u) eB zO :: l13
theorem xS [H : HS X0 l13] : OkH l14 := yS2 true Try.func50 fun s_ f_ r0 aa E hE => by
 obtain ⟨r_, h0, aa⟩ := zH aa
 cases aa
 exact yE hE [zC2 0 h0]
def l15 : List yn := Zw 39 vz (eI .i64) yO :: l14
theorem Xz [H : HS X0 l14] : OkH l15 := yS1 true Try.func39 fun m_ r0 aa E hE => by
 obtain c0 | c0 := zE aa
 ·cases c0.2
  exact yE hE (rpN 4 (Hb c0) (rpN 6 qT []))
 ·let Z0 : List HO := (rpN 4 (Hb c0) [])
  obtain c1 | c1 := zE c0.2
  ·cases c1.2
   exact yE hE (Z0 ++ (rpN 5 (Hb c1) [qT]))
  ·let Z1 : List HO := (Z0 ++ [c1, c1, c1, Ha (lnM F7_ m_.Rows), c1, c1])
   obtain c2 | c2 := zE c1.2
   ·cases c2.2
    exact yE hE (Z1 ++ [c2])
   ·obtain c3 | c3 := zE c2.2
    ·cases c3.2
     exact yE hE (Z1 ++ (Hb c2 :: (rpN 4 (Hb c3) (rpN 6 qT []))))
    ·let Z2 : List HO := (Z1 ++ (Hb c2 :: (rpN 4 (Hb c3) [])))
     obtain c4 | c4 := zE c3.2
     ·cases c4.2
      exact yE hE (Z2 ++ (rpN 5 (Hb c4) [qT]))
     ·let Z3 : List HO := (Z2 ++ [c4, c4, c4, Ha (lnM F7_ m_.Rows), c4, c4])
      obtain c5 | c5 := zE c4.2
      ·cases c5.2
       exact yE hE (Z3 ++ [c5])
      ·refine yK 1111 [] [] (fun z : Unit => jl = some r0) (fun z => []) [1] (Z3 ++ [c5, Hh (.cut 0)]) ?_ fun J1 ap => ?_
       ·rintro ⟨⟩ aa
        cases aa
        exact yE hE []
       ·refine yMb 1111210 [J1] [1,34,35,36] (fun x => [(36, .d (I x))]) c5.2  [Ha (lnM F7_ m_.Rows), Hh (.n 1 [1])] fun t2 aa eg m2 aw ae hl1 J2 aq => ?_
        obtain c6 | c6 := zE ae
        ·obtain ⟨al, h0, ae⟩ := zH c6.2
         let Z4 : List HO := [c6, Hi F7_ h0, Ha (lnM F5_ al)]
         obtain c7 | c7 := zE ae
         ·cases c7.2
          cases hl1
          cases aa
          exact yE hE (Z4 ++ (rpN 4 (Hb c7) [qT]))
         ·obtain ⟨r_, h1, ae⟩ := zH c7.2
          let Z5 : List HO := (Z4 ++ [c7, c7, c7, zC2 0 h1, c7])
          obtain c8 | c8 := zE ae
          ·cases c8.2
           cases hl1
           cases aa
           exact yE hE (Z5 ++ [c8])
          ·cases c8.2
           exact yB aq _ hl1 (Z5 ++ [c8])
        ·cases c6.2
         cases hl1
         exact yB ap () aa [c6]
def l16 : List yn := kl 78 (eI .i64) (eSp (eI .i64)) eB js :: l15
theorem W5 [H : HS X0 l15] : OkH l16 := yS2 true Try.func78 fun c_ x1 r0 aa E hE => by
 obtain c0 | c0 := zE aa
 ·cases c0.2
  exact yE hE (rpN 4 (Hb c0) [])
 ·cases c0.2
  exact yE hE (rpN 4 (Hb c0) [])
def l17 : List yn := kl 87 F2_ (z0S 78 (eSp (eI .i64))) (eI .i64) xr :: l16
theorem qI [H : HS X0 l16] : OkH l17 := yS2 true Try.func87 fun s_ f_ r0 aa E hE => by
 refine yK 11 [] [] (fun z : Unit => xW = some r0) (fun z => []) [0,1] [Hh (.cut 1)] ?_ fun J1 ap => ?_
 ·rintro ⟨⟩ aa
  cases aa
  exact yE hE []
 ·refine yMb 11210 [J1] [0,1,7,8] (fun x => [(8, .d (I x))]) aa  [Ha (lnM (eI .i64) s_)] fun t2 aa x8 m2 aw ae hl1 J2 aq => ?_
  obtain c0 | c0 := zE ae
  ·obtain ⟨co, h0, r_, h1, ae⟩ := xm c0.2
   let Z0 : List HO := [c0, Hi (eI .i64) h0, zC2 0 h1]
   obtain c1 | c1 := zE ae
   ·cases c1.2
    cases hl1
    cases aa
    exact yE hE (Z0 ++ [c1])
   ·cases c1.2
    exact yB aq _ hl1 (Z0 ++ [c1])
  ·cases c0.2
   cases hl1
   exact yB ap () aa [c0]
def l18 : List yn := kl 77 F2_ (z0S 78 (eSp (eI .i64))) eB yR :: l17
theorem uf [H : HS X0 l17] : OkH l18 := yS2 true Try.func77 fun s_ f_ r0 aa E hE => by
 obtain ⟨r_, h0, aa⟩ := zH aa
 cases aa
 exact yE hE [zC2 0 h0]
def l19 : List yn := kl 66 F2_ (eI .i64) (eI .i64) uW :: l18
theorem Uh [H : HS X0 l18] : OkH l19 := yS2 true Try.func66 fun w_ inputs r0 aa E hE => by
 obtain c0 | c0 := zE aa
 ·cases c0.2
  exact yE hE (rpN 4 (Hb c0) [qT])
 ·let Z0 : List HO := [c0, c0, Ha (lnM (eI .i64) w_), c0, c0]
  obtain c1 | c1 := zE c0.2
  ·cases c1.2
   exact yE hE (Z0 ++ [c1])
  ·obtain c2 | c2 := zE c1.2
   ·cases c2.2
    exact yE hE (Z0 ++ (Hb c1 :: (rpN 4 (Hb c2) [qT])))
   ·obtain ⟨r_, h0, aa⟩ := zH c2.2
    let Z1 : List HO := (Z0 ++ [c1, c2, c2, c2, zC2 0 h0, c2])
    obtain c3 | c3 := zE aa
    ·cases c3.2
     exact yE hE (Z1 ++ [c3])
    ·cases c3.2
     exact yE hE (Z1 ++ [c3])
def l20 : List yn := kl 53 F6_ (eI .i64) (eI .i64) ju :: l19
theorem Uj [H : HS X0 l19] : OkH l20 := yS2 true Try.func53 fun l_ inputs r0 aa E hE => by
 obtain c0 | c0 := zE aa
 ·cases c0.2
  exact yE hE (rpN 4 (Hb c0) [qT])
 ·let Z0 : List HO := [c0, c0, Ha (lnM F2_ l_), c0, c0]
  obtain c1 | c1 := zE c0.2
  ·cases c1.2
   exact yE hE (Z0 ++ [c1])
  ·obtain c2 | c2 := zE c1.2
   ·cases c2.2
    exact yE hE (Z0 ++ [c1, c2])
   ·refine yK 1111 [] [] (fun z : Unit => ZB = some r0) (fun z => []) [0,1] (Z0 ++ [c1, c2, Hh (.cut 0)]) ?_ fun J1 ap => ?_
    ·rintro ⟨⟩ aa
     cases aa
     exact yE hE []
    ·refine yMb 1111210 [J1] [1,17,18,19] (fun x => [(19, .d (I x))]) c2.2  [Ha (lnM F2_ l_)] fun t2 aa em m2 aw ae hl1 J2 aq => ?_
     obtain c3 | c3 := zE ae
     ·obtain ⟨au, h0, r_, h1, ae⟩ := xm c3.2
      let Z1 : List HO := [c3, Hi F2_ h0, zC2 0 h1]
      obtain c4 | c4 := zE ae
      ·cases c4.2
       cases hl1
       cases aa
       exact yE hE (Z1 ++ [c4])
      ·cases c4.2
       exact yB aq _ hl1 (Z1 ++ [c4])
     ·cases c3.2
      cases hl1
      exact yB ap () aa [c3]
def l21 : List yn := Zw 88 (eI .i64) eB uI :: l20
theorem Wf [H : HS X0 l20] : OkH l21 := yS1 true Try.func88 fun x_ r0 aa E hE => by
 cases aa
 exact yE hE []
def l22 : List yn := kl 80 (eI .i64) (eI .i64) (eI .i64) wb :: l21
theorem YW [H : HS X0 l21] : OkH l22 := yS2 true Try.func80 fun x_ y_ r0 aa E hE => by
 obtain ⟨r_, h0, aj, h1, aa⟩ := xm aa
 let Z0 : List HO := [zC1 0 h0, zC1 0 h1]
 obtain c0 | c0 := zE aa
 ·obtain c1 | c1 := zE c0.2
  ·cases c1.2
   exact yE hE (Z0 ++ [c0, c1])
  ·cases c1.2
   exact yE hE (Z0 ++ [c0, c1])
 ·obtain c2 | c2 := zE c0.2
  ·cases c2.2
   exact yE hE (Z0 ++ [c0, c2])
  ·obtain c3 | c3 := zE c2.2
   ·cases c3.2
    exact yE hE (Z0 ++ [c0, c2, c3])
   ·obtain c4 | c4 := zE c3.2
    ·cases c4.2
     exact yE hE (Z0 ++ [c0, c2, c3, c4])
    ·cases c4.2
     exact yE hE (Z0 ++ [c0, c2, c3, c4])
def l23 : List yn := kl 81 F2_ F2_ (eI .i64) yU :: l22
theorem ja [H : HS X0 l22] : OkH l23 := yS2 true Try.func81 fun s1 s2 r0 aa E hE => by
 refine yNs 11 [] [0,1] (fun z : Unit => xo s1 s2 = some r0) (fun z => []) [Hh (.cut 1)] ?_ fun J1 ap => ?_
 ·rintro ⟨⟩ aa
  let Z0 : List HO := [Ha (lnM (eI .i64) s1), Ha (lnM (eI .i64) s2)]
  obtain c0 | c0 := zE aa
  ·cases c0.2
   exact yE hE (Z0 ++ [c0])
  ·cases c0.2
   exact yE hE (Z0 ++ [c0])
 ·refine yMb 11210 [J1] [0,1,9,10,11] (fun x => [(11, .d (I x))]) aa  [Ha (lnM (eI .i64) s1)] fun t2 aa dc m2 aw ae hl1 J2 aq => ?_
  obtain c1 | c1 := zE ae
  ·obtain ⟨ep, h0, ae⟩ := zH c1.2
   let Z1 : List HO := [c1, Hi (eI .i64) h0, Ha (lnM (eI .i64) s2)]
   obtain c2 | c2 := zE ae
   ·cases c2.2
    cases hl1
    cases aa
    exact yE hE (Z1 ++ [c2])
   ·obtain ⟨dw, h1, r_, h2, ae⟩ := xm c2.2
    let Z2 : List HO := (Z1 ++ [c2, Hi (eI .i64) h1, zC2 0 h2])
    obtain c3 | c3 := zE ae
    ·cases c3.2
     cases hl1
     cases aa
     exact yE hE (Z2 ++ [c3])
    ·cases c3.2
     exact yB aq _ hl1 (Z2 ++ [c3])
  ·cases c1.2
   cases hl1
   exact yB ap () aa [c1]
def l24 : List yn := Zw 79 F2_ (eI .i64) Zp :: l23
theorem QG [H : HS X0 l23] : OkH l24 := yS1 true Try.func79 fun vals r0 aa E hE => by
 refine yN 111 [] [3] (fun z : Unit => jV = some r0) (fun z => []) [0,3] [Hh (.cut 2)] ?_ fun J1 ap => ?_
 ·rintro ⟨⟩ aa
  cases aa
  exact yE hE []
 ·refine yMb 111210 [J1] [3,6,7,8] (fun x => [(8, .d (I x))]) aa  [Ha (lnM (eI .i64) vals)] fun t2 aa x8 m2 aw ae hl1 J2 aq => ?_
  obtain c0 | c0 := zE ae
  ·obtain ⟨fh, h0, ae⟩ := zH c0.2
   obtain c1 | c1 := zE ae
   ·cases c1.2
    cases hl1
    cases aa
    exact yE hE [c0, Hi (eI .i64) h0, c1]
   ·cases c1.2
    exact yB aq _ hl1 [c0, Hi (eI .i64) h0, c1]
  ·cases c0.2
   cases hl1
   exact yB ap () aa [c0]
def l25 : List yn := kl 67 F2_ F2_ (eI .i64) uv :: l24
theorem W3 [H : HS X0 l24] : OkH l25 := yS2 true Try.func67 fun a_ b_ r0 aa E hE => by
 obtain ⟨r_, h0, aj, h1, bg, h2, aa⟩ := V2 aa
 cases aa
 exact yE hE [Ha (lnM (eI .i64) a_), Ha (lnM (eI .i64) b_), zC2 2 h0, zC2 1 h1, zg 0, Hm (shM (eI .i64) (eI .i64) ([r_, aj])), Hs (zf1 0 h2 (loC F1_ [r_, aj] <| loN))]
def l26 : List yn := Zw 54 F6_ eB jv :: l25
theorem Uk [H : HS X0 l25] : OkH l26 := yS1 true Try.func54 fun l_ r0 aa E hE => by
 refine yK 11 [] [] (fun z : Unit => qX = some r0) (fun z => []) [0] [Hh (.cut 1)] ?_ fun J1 ap => ?_
 ·rintro ⟨⟩ aa
  cases aa
  exact yE hE []
 ·refine yMb 11210 [J1] [0,3] (fun x => [(3, .d (I x))]) aa  [] fun t2 aa i_ m2 aw ae hl1 J2 aq => ?_
  let Z0 : List HO := [Ha (lnM F2_ l_)]
  obtain c0 | c0 := zE ae
  ·obtain ⟨au, h0, bl, h1, r_, h2, ae⟩ := V2 c0.2
   let Z1 : List HO := (Z0 ++ [c0, Hi F2_ h0, Hi F2_ h1, zC2 0 h2])
   obtain c1 | c1 := zE ae
   ·cases c1.2
    cases hl1
    cases aa
    exact yE hE (Z1 ++ [c1])
   ·cases c1.2
    exact yB aq _ hl1 (Z1 ++ [c1])
  ·cases c0.2
   cases hl1
   exact yB ap () aa (Z0 ++ [c0])
def l27 : List yn := Zw 55 F6_ (eI .i64) jt :: l26
theorem Ui [H : HS X0 l26] : OkH l27 := yS1 true Try.func55 fun l_ r0 aa E hE => by
 refine yK 11 [] [2] (zI ZA r0) (fun z => [(2, .d (I z))]) [0,2] [Hh (.cut 1)] ?_ fun J1 ap => ?_
 ·rintro n_ aa
  cases aa
  exact yE hE []
 ·refine yMb 11210 [J1] [2,5,6,7] (fun x => [(2, .d (I x.1)), (7, .d (I x.2))]) aa  [Ha (lnM F2_ l_)] fun t2 aa ⟨av, x7⟩ m2 aw ae hl1 J2 aq => ?_
  obtain c0 | c0 := zE ae
  ·obtain ⟨au, h0, ae⟩ := zH c0.2
   cases ae
   exact yB aq _ hl1 [c0, Hi F2_ h0, Ha (lnM (eI .i64) au)]
  ·cases c0.2
   cases hl1
   exact yB ap av aa [c0]
def l28 : List yn := kl 40 F6_ (eI .i64) (eI .i64) uY :: l27
theorem Ul [H : HS X0 l27] : OkH l28 := yS2 true Try.func40 fun l_ inputs r0 aa E hE => by
 obtain ⟨r_, h0, aa⟩ := zH aa
 let Z0 : List HO := [zC2 7 h0]
 obtain c0 | c0 := zE aa
 ·cases c0.2
  exact yE hE (Z0 ++ [c0])
 ·obtain ⟨aj, h1, aa⟩ := zH c0.2
  let Z1 : List HO := (Z0 ++ [c0, zC1 1 h1])
  obtain c1 | c1 := zE aa
  ·cases c1.2
   exact yE hE (Z1 ++ [c1])
  ·obtain ⟨bg, h2, aa⟩ := zH c1.2
   let Z2 : List HO := (Z1 ++ [c1, zC1 0 h2])
   obtain c2 | c2 := zE aa
   ·cases c2.2
    exact yE hE (Z2 ++ [c2])
   ·cases c2.2
    exact yE hE (Z2 ++ [c2])
def l29 : List yn := Qp 20 vz vz F6_ (eI .i64) vI :: l28
theorem QB [H : HS X0 l28] : OkH l29 := yS3 true Try.func20 fun m_ other l_ r0 aa E hE => by
 refine yNs 11 [] [2,3,4] (fun z : Unit => uG m_ other l_ = some r0) (fun z => []) [Hh (.cut 1)] ?_ fun J1 ap => ?_
 ·rintro ⟨⟩ aa
  obtain c0 | c0 := zE aa
  ·cases c0.2
   exact yE hE [c0]
  ·obtain ⟨r_, h0, aa⟩ := zH c0.2
   cases aa
   exact yE hE [c0, zC2 0 h0]
 ·refine yMb 11210 [J1] [2,3,4,12,13,14] (fun x => [(14, .d (I x))]) aa  [Ha (lnM vz [m_, other])] fun t2 aa cp m2 aw ae hl1 J2 aq => ?_
  obtain c1 | c1 := zE ae
  ·obtain ⟨fg, h1, aj, h2, ae⟩ := xm c1.2
   let Z0 : List HO := [c1, Hn (iL vz h1), Hs (iM vz h1), zC1 13 h2]
   obtain c2 | c2 := zE ae
   ·cases c2.2
    cases hl1
    cases aa
    exact yE hE (Z0 ++ [c2])
   ·cases c2.2
    exact yB aq _ hl1 (Z0 ++ [c2])
  ·cases c1.2
   cases hl1
   exact yB ap () aa [c1]
def l30 : List yn := Qp 21 vz vz F2_ (eI .i64) kR :: l29
theorem K6 [H : HS X0 l29] : OkH l30 := yS3 true Try.func21 fun m_ other w_ r0 aa E hE => by
 refine yK 111 [] [] (fun z : Unit => Xt = some r0) (fun z => []) [2,3,4,7,8] [Hh (.cut 2)] ?_ fun J1 ap => ?_
 ·rintro ⟨⟩ aa
  cases aa
  exact yE hE []
 ·refine yMb 111210 [J1] [3,4,7,8,13,14,15] (fun x => [(7, .d (I x.1)), (8, .d (I x.2.1)), (15, .d (I x.2.2))]) aa  [Ha (lnM (eI .i64) w_)] fun t2 aa ⟨s_, t_, bf⟩ m2 aw ae hl1 J2 aq => ?_
  obtain c0 | c0 := zE ae
  ·obtain ⟨bh, h0, ae⟩ := zH c0.2
   refine yN 11121001100111 [J1, J2] [3,4,8,9,10,11,12,13,14,15] (fun z : Int × Int => wQ other t_ bf bh z.1 z.2 = some aw) (fun z => [(11, .own (.box (.agg [I z.1, I z.2])))]) [3,4,7,8,9,10,11,12,13,14,15] [c0, Hi (eI .i64) h0, Hh (.cut 2)] ?_ fun J3 a8 => ?_
   ·rintro ⟨ce, bw⟩ ae
    refine yN 111210011001111 [J1, J2] [3,4,9,11,12,13,14,15] (fun z : Int × Int => wP bf ce bw z.1 z.2 = some aw) (fun z => [(12, .own (.box (.agg [I z.1, I z.2])))]) [3,4,8,9,10,11,12,13,14,15] [Hh (.cut 0)] ?_ fun J4 cn => ?_
    ·rintro ⟨eu, ee⟩ ae
     obtain c1 | c1 := zE ae
     ·cases c1.2
      cases hl1
      cases aa
      exact yE hE [c1]
     ·cases c1.2
      exact yB aq _ hl1 [c1]
    ·obtain c2 | c2 := zE ae
     ·obtain ⟨al, h1, ah, h2, ae⟩ := xm c2.2
      exact yB cn (ah.To, ah.Out) ae [c2, Hi F7_ h1, Hi F5_ h2]
     ·exact yB cn ((-1), (-1)) c2.2 [c2]
   ·obtain c3 | c3 := zE ae
    ·obtain ⟨ck, h3, ax, h4, ae⟩ := xm c3.2
     exact yB a8 (ax.To, ax.Out) ae [c3, Hi F7_ h3, Hi F5_ h4]
    ·exact yB a8 ((-1), (-1)) c3.2 [c3]
  ·cases c0.2
   cases hl1
   exact yB ap () aa [c0]
def l31 : List yn := Qp 7 vz vz F6_ (eT3 (eI .i64) (eI .i64) (eI .i64)) vK :: l30
theorem Ux [H : HS X0 l30] : OkH l31 := yS3 false Try.func7 fun m_ other l_ r0 aa E hE => by
 obtain ⟨r_, h0, aa⟩ := zH aa
 let Z0 : List HO := [zC3 1 h0]
 obtain c0 | c0 := zE aa
 ·cases c0.2
  exact yE hE (Z0 ++ [c0])
 ·refine yK 111 [] [] (fun z : Unit => ZL = some r0) (fun z => []) [2,3,4] (Z0 ++ [c0, Hh (.cut 0)]) ?_ fun J1 ap => ?_
  ·rintro ⟨⟩ aa
   cases aa
   exact yE hE []
  ·refine yMb 111210 [J1] [3,4,20,21,22] (fun x => [(22, .d (I x))]) c0.2  [Ha (lnM F2_ l_)] fun t2 aa d8 m2 aw ae hl1 J2 aq => ?_
   obtain c1 | c1 := zE ae
   ·obtain ⟨au, h1, aj, h2, ae⟩ := xm c1.2
    let Z1 : List HO := [c1, Hi F2_ h1, zC3 0 h2]
    obtain c2 | c2 := zE ae
    ·cases c2.2
     cases hl1
     cases aa
     exact yE hE (Z1 ++ [c2])
    ·cases c2.2
     exact yB aq _ hl1 (Z1 ++ [c2])
   ·cases c1.2
    cases hl1
    exact yB ap () aa [c1]
def l32 : List yn := Zw 22 F2_ F1_ xA :: l31
theorem kw [H : HS X0 l31] : OkH l32 := yS1 true Try.func22 fun s_ r0 aa E hE => by
 obtain ⟨g0, aa⟩ := gdE aa
 cases aa
 exact yE hE [Ha (lnM (eI .i64) s_), Ha (lnM (eI .i64) s_), Hn (slB g0), Hn (slC g0), Hn (z90 (eI .i64) g0), Ha (zdN 1 (eI .i64) s_ 0 ((s_.length : Nat) : Int).toNat)]
def l33 : List yn := Qp 8 vz F6_ vz (eT2 F1_ (eI .i64)) uS :: l32
theorem QF [H : HS X0 l32] : OkH l33 := yS3 false Try.func8 fun m_ l_ other r0 aa E hE => by
 obtain ⟨r_, h0, aa⟩ := zH aa
 let Z0 : List HO := [zC3 3 h0]
 obtain c0 | c0 := zE aa
 ·cases c0.2
  exact yE hE (Z0 ++ [c0, Hm (shM (eI .i64) (eI .i64) [])])
 ·refine yK 1111 [] [9] (zI jQ r0) (fun z => [(9, .own (eOs 1 false (eI .i64) z))]) [1,3,5,9] (Z0 ++ [c0, Hh (.cut 1)]) ?_ fun J1 ap => ?_
  ·rintro out aa
   obtain ⟨aj, h1, aa⟩ := zH aa
   cases aa
   exact yE hE [zg 0, Hm (shM (eI .i64) (eI .i64) out), Hs (zf1 0 h1 (loC F2_ out <| loN)), Hm (shM (eI .i64) (eI .i64) out)]
  ·obtain ⟨t2, ht2, aa⟩ := zH c0.2
   refine yMx 1111210 [J1] [3,5,9,19,20,21] (fun x => [(9, .own (eOs 1 false (eI .i64) x.1)), (21, .d (I x.2))]) ht2 [(9, .own (eOs 1 true (eI .i64) [])), (21, .d (I 0))] [Ha (lnM F2_ l_)] fun ⟨ai, bt⟩ m2 aw ae hl1 J2 aq => ?_
   obtain c1 | c1 := zE ae
   ·refine yNs 1111210011 [J1, J2] [3,5,9,19,20,21] (zI (jP bt) aw) (fun z => [(9, .own (eOs 1 false (eI .i64) z))]) [c1, Hh (.cut 0)] ?_ fun J3 a8 => ?_
    ·rintro a7 ae
     cases ae
     exact yB aq _ hl1 []
    ·obtain ⟨au, h2, bg, h3, ae⟩ := xm c1.2
     let Z1 : List HO := [Hi F2_ h2, zC3 2 h3]
     obtain c2 | c2 := zE ae
     ·obtain ⟨g0, ae⟩ := gdE c2.2
      exact yB a8 (ai ++ [bt]) ae (Z1 ++ [c2, Hq (dM (eI .i64) [bt]), Hn (dM (eI .i64) [bt]), Hn (aL (eI .i64) (eI .i64) g0), Hl (aM (eI .i64) ai [bt])])
     ·exact yB a8 ai c2.2 (Z1 ++ [c2])
   ·cases c1.2
    cases hl1
    exact yB ap ai aa [c1]
def l34 : List yn := Qp 56 vz (eI .i64) (eI .i64) F5_ Zc :: l33
theorem Qz [H : HS X0 l33] : OkH l34 := yS3 false Try.func56 fun m_ s_ i_ r0 aa E hE => by
 obtain c0 | c0 := zE aa
 ·cases c0.2
  exact yE hE [c0]
 ·obtain ⟨al, h0, ah, h1, aa⟩ := xm c0.2
  cases aa
  exact yE hE [c0, Hi F7_ h0, Hi F5_ h1]
def l35 : List yn := Qp 41 vz (eI .i64) F2_ F3_ kJ :: l34
theorem K5 [H : HS X0 l34] : OkH l35 := yS3 true Try.func41 fun m_ s_ w_ r0 aa E hE => by
 refine yK 111 [] [7] (zI kI r0) (fun z => [(7, .own (eOs 1 false (eI .i64) z))]) [1,2,3,7] [Hh (.cut 2)] ?_ fun J1 ap => ?_
 ·rintro out aa
  cases aa
  exact yE hE []
 ·obtain ⟨t2, ht2, aa⟩ := zH aa
  refine yMx 111210 [J1] [1,2,3,7,8] (fun x => [(1, .d (I x.1)), (7, .own (eOs 1 false (eI .i64) x.2.1)), (8, .d (I x.2.2))]) ht2 [(1, .d (I s_)), (7, .own (eOs 1 true (eI .i64) [])), (8, .d (I 0))] [] fun ⟨cx, ai, k_⟩ m2 aw ae hl1 J2 aq => ?_
  obtain c0 | c0 := zE ae
  ·obtain ⟨bh, h0, r_, h1, ae⟩ := xm c0.2
   obtain ⟨g0, ae⟩ := gdE ae
   cases ae
   exact yB aq _ hl1 [Ha (lnM (eI .i64) w_), c0, Hi (eI .i64) h0, zC3 0 h1, Hq (dM (eI .i64) [r_.Out]), Hn (dM (eI .i64) [r_.Out]), Hn (aL (eI .i64) (eI .i64) g0), Hl (aM (eI .i64) ai [r_.Out])]
  ·cases c0.2
   cases hl1
   exact yB ap ai aa [Ha (lnM (eI .i64) w_), c0]
def l36 : List yn := Qp 23 vz vz F2_ (eI .i64) jf :: l35
theorem Qw [H : HS X0 l35] : OkH l36 := yS3 true Try.func23 fun m_ other w_ r0 aa E hE => by
 obtain ⟨r_, h0, aj, h1, aa⟩ := xm aa
 refine yK 1111 [] [] (fun z : Unit => Yv = some r0) (fun z => []) [7,8] [zC3 0 h0, zC3 0 h1, Hh (.cut 0)] ?_ fun J1 ap => ?_
 ·rintro ⟨⟩ aa
  cases aa
  exact yE hE []
 ·refine yMb 1111210 [J1] [7,8,9] (fun x => [(9, .d (I x))]) aa  [] fun t2 aa i_ m2 aw ae hl1 J2 aq => ?_
  obtain c0 | c0 := zE ae
  ·obtain ⟨dh, h2, dx, h3, ae⟩ := xm c0.2
   let Z0 : List HO := [Ha (lnM (eI .i64) r_), c0, Hn (iL (eI .i64) h2), Hs (iM (eI .i64) h2), Hn (iL (eI .i64) h3), Hs (iM (eI .i64) h3)]
   obtain c1 | c1 := zE ae
   ·cases c1.2
    cases hl1
    cases aa
    exact yE hE (Z0 ++ [c1])
   ·cases c1.2
    exact yB aq _ hl1 (Z0 ++ [c1])
  ·cases c0.2
   cases hl1
   exact yB ap () aa [Ha (lnM (eI .i64) r_), c0]
def l37 : List yn := Qp 9 vz vz F6_ (eT2 (eI .i64) (eI .i64)) qL :: l36
theorem Vg [H : HS X0 l36] : OkH l37 := yS3 false Try.func9 fun m_ other l_ r0 aa E hE => by
 refine yK 11 [] [] (fun z : Unit => kF = some r0) (fun z => []) [2,3,4] [Hh (.cut 1)] ?_ fun J1 ap => ?_
 ·rintro ⟨⟩ aa
  cases aa
  exact yE hE []
 ·refine yMb 11210 [J1] [2,3,4,8] (fun x => [(8, .d (I x))]) aa  [] fun t2 aa i_ m2 aw ae hl1 J2 aq => ?_
  let Z0 : List HO := [Ha (lnM F2_ l_)]
  obtain c0 | c0 := zE ae
  ·obtain ⟨au, h0, r_, h1, ae⟩ := xm c0.2
   let Z1 : List HO := (Z0 ++ [c0, Hi F2_ h0, zC3 0 h1])
   obtain c1 | c1 := zE ae
   ·cases c1.2
    cases hl1
    cases aa
    exact yE hE (Z1 ++ [c1])
   ·cases c1.2
    exact yB aq _ hl1 (Z1 ++ [c1])
  ·cases c0.2
   cases hl1
   exact yB ap () aa (Z0 ++ [c0])
def l38 : List yn := Qp 11 vz vz F6_ F3_ jC :: l37
theorem Un [H : HS X0 l37] : OkH l38 := yS3 true Try.func11 fun m_ other l_ r0 aa E hE => by
 refine yK 111 [] [7] (zI ZC r0) (fun z => [(7, .own (eOs 1 false (eI .i64) z))]) [2,3,4,7] [Hh (.cut 2)] ?_ fun J1 ap => ?_
 ·rintro out aa
  cases aa
  exact yE hE []
 ·obtain ⟨t2, ht2, aa⟩ := zH aa
  refine yMx 111210 [J1] [2,3,4,7,8] (fun x => [(7, .own (eOs 1 false (eI .i64) x.1)), (8, .d (I x.2))]) ht2 [(7, .own (eOs 1 true (eI .i64) [])), (8, .d (I 0))] [] fun ⟨ai, i_⟩ m2 aw ae hl1 J2 aq => ?_
  let Z0 : List HO := [Ha (lnM F2_ l_)]
  obtain c0 | c0 := zE ae
  ·refine yNs 11121001 [J1, J2] [2,3,4,7,8] (zI (qZ i_) aw) (fun z => [(7, .own (eOs 1 false (eI .i64) z))]) (Z0 ++ [c0, Hh (.cut 0)]) ?_ fun J3 a8 => ?_
   ·rintro a7 ae
    cases ae
    exact yB aq _ hl1 []
   ·obtain ⟨au, h0, r_, h1, ae⟩ := xm c0.2
    let Z1 : List HO := [Hi F2_ h0, zC3 1 h1]
    obtain c1 | c1 := zE ae
    ·obtain ⟨g0, ae⟩ := gdE c1.2
     exact yB a8 (ai ++ [i_]) ae (Z1 ++ [c1, Hq (dM (eI .i64) [i_]), Hn (dM (eI .i64) [i_]), Hn (aL (eI .i64) (eI .i64) g0), Hl (aM (eI .i64) ai [i_])])
    ·exact yB a8 ai c1.2 (Z1 ++ [c1])
  ·cases c0.2
   cases hl1
   exact yB ap ai aa (Z0 ++ [c0])
def l39 : List yn := kl 24 F6_ F6_ eB Zb :: l38
theorem Qy [H : HS X0 l38] : OkH l39 := yS2 true Try.func24 fun a_ b_ r0 aa E hE => by
 let Z0 : List HO := [Ha (lnM F2_ a_), Ha (lnM F2_ b_)]
 obtain c0 | c0 := zE aa
 ·cases c0.2
  exact yE hE (Z0 ++ [c0])
 ·refine yK 111 [] [] (fun z : Unit => jE = some r0) (fun z => []) [0,1] (Z0 ++ [c0, Hh (.cut 0)]) ?_ fun J1 ap => ?_
  ·rintro ⟨⟩ aa
   cases aa
   exact yE hE []
  ·refine yMb 111210 [J1] [0,1,5] (fun x => [(5, .d (I x))]) c0.2  [] fun t2 aa i_ m2 aw ae hl1 J2 aq => ?_
   let Z1 : List HO := [Ha (lnM F2_ a_)]
   obtain c1 | c1 := zE ae
   ·obtain ⟨du, h0, dv, h1, r_, h2, ae⟩ := V2 c1.2
    let Z2 : List HO := (Z1 ++ [c1, Hi F2_ h0, Hi F2_ h1, zC2 31 h2])
    obtain c2 | c2 := zE ae
    ·cases c2.2
     cases hl1
     cases aa
     exact yE hE (Z2 ++ [c2])
    ·cases c2.2
     exact yB aq _ hl1 (Z2 ++ [c2])
   ·cases c1.2
    cases hl1
    exact yB ap () aa (Z1 ++ [c1])
def l40 : List yn := kl 10 F1_ F2_ eB Zj :: l39
theorem QA [H : HS X0 l39] : OkH l40 := yS2 true Try.func10 fun a_ b_ r0 aa E hE => by
 obtain ⟨r_, h0, aa⟩ := zH aa
 let Z0 : List HO := [zg 0, Hm (shM F1_ F1_ ([a_])), Hm (shM F2_ F2_ ([b_])), Hs (zf2 0 h0 (loC (eSl 1 true F1_) [a_] <| loC (eSl 1 true F2_) [b_] <| loN))]
 obtain c0 | c0 := zE aa
 ·cases c0.2
  exact yE hE (Z0 ++ [c0, c0, Ha (lnM (eI .i64) a_), c0, c0, Ha (lnM (eI .i64) a_), c0, c0])
 ·cases c0.2
  exact yE hE (Z0 ++ (rpN 6 (Hb c0) []))
def l41 : List yn := Zw 57 vz (eI .i64) jH :: l40
theorem Wa [H : HS X0 l40] : OkH l41 := yS1 true Try.func57 fun m_ r0 aa E hE => by
 refine yK 111 [] [3] (zI uq r0) (fun z => [(3, .d (I z))]) [1,3] [Hh (.cut 2)] ?_ fun J1 ap => ?_
 ·rintro n_ aa
  cases aa
  exact yE hE []
 ·refine yMb 111210 [J1] [1,3,4] (fun x => [(3, .d (I x.1)), (4, .d (I x.2))]) aa  [] fun t2 aa ⟨av, s_⟩ m2 aw ae hl1 J2 aq => ?_
  let Z0 : List HO := [Ha (lnM F7_ m_.Rows)]
  obtain c0 | c0 := zE ae
  ·refine yNs 11121001 [J1, J2] [1,3,4] (zI (uo s_) aw) (fun z => [(3, .d (I z))]) (Z0 ++ [c0, Hh (.cut 0)]) ?_ fun J3 a8 => ?_
   ·rintro dj ae
    cases ae
    exact yB aq _ hl1 []
   ·refine yMb 111210012010 [J1, J2, J3] [1,3,4,5] (fun x => [(3, .d (I x.1)), (5, .d (I x.2))]) c0.2  [] fun t4 ae ⟨dr, i_⟩ m4 de ak hl2 J4 cn => ?_
    obtain c1 | c1 := zE ak
    ·refine yNs 11121001201001 [J1, J2, J3, J4] [1,3,4,5] (zI (wC i_) de) (fun z => [(3, .d (I z))]) [c1, Hh (.cut 0)] ?_ fun J5 hJ5 => ?_
     ·rintro fl ak
      cases ak
      exact yB cn _ hl2 []
     ·obtain ⟨al, h0, ah, h1, ak⟩ := xm c1.2
      let Z1 : List HO := [Hi F7_ h0, Hi F5_ h1]
      obtain c2 | c2 := zE ak
      ·exact yB hJ5 (w64 (dr + 1)) c2.2 (Z1 ++ [c2])
      ·exact yB hJ5 dr c2.2 (Z1 ++ [c2])
    ·cases c1.2
     cases hl2
     exact yB a8 dr ae [c1]
  ·cases c0.2
   cases hl1
   exact yB ap av aa (Z0 ++ [c0])
def l42 : List yn := Zw 42 vz eB vW :: l41
theorem Xx [H : HS X0 l41] : OkH l42 := yS1 true Try.func42 fun m_ r0 aa E hE => by
 obtain ⟨r_, h0, aa⟩ := zH aa
 cases aa
 exact yE hE [zC1 0 h0, Ha (lnM F7_ m_.Rows)]
def l43 : List yn := kl 58 vz (eI .i64) (eOs 1 true eB) uD :: l42
theorem W9 [H : HS X0 l42] : OkH l43 := yS2 true Try.func58 fun m_ dn r0 aa E hE => by
 obtain ⟨g0, aa⟩ := gdE aa
 obtain ⟨fg, h0, aa⟩ := zH aa
 refine yK 1111 [] [5] (zI ul r0) (fun z => [(5, .own (eOs 1 true eB z))]) [2,5] [Ha (lnM F7_ m_.Rows), Hn (rL g0), Ha (rM 1 eB ((m_.Rows.length : Nat) : Int) false), Hn (iL eB h0), Hs (iM eB h0), Hs (iM eB h0), Hl (sM eB (List.replicate ((m_.Rows.length : Nat) : Int).toNat false) dn true), Hh (.cut 0)] ?_ fun J1 ap => ?_
 ·rintro out aa
  cases aa
  exact yE hE []
 ·refine yMb 1111210 [J1] [2,5,6] (fun x => [(5, .own (eOs 1 true eB x.1)), (6, .d (I x.2))]) aa  [] fun t2 aa ⟨ai, round⟩ m2 aw ae hl1 J2 aq => ?_
  let Z0 : List HO := [Ha (lnM F7_ m_.Rows)]
  obtain c0 | c0 := zE ae
  ·refine yNs 111121001 [J1, J2] [2,5,6] (zI (uk round) aw) (fun z => [(5, .own (eOs 1 true eB z))]) (Z0 ++ [c0, Hh (.cut 0)]) ?_ fun J3 a8 => ?_
   ·rintro a7 ae
    cases ae
    exact yB aq _ hl1 []
   ·refine yMb 1111210012010 [J1, J2, J3] [2,5,6,7] (fun x => [(5, .own (eOs 1 true eB x.1)), (7, .d (I x.2))]) c0.2  [] fun t4 ae ⟨dm, s_⟩ m4 de ak hl2 J4 cn => ?_
    let Z1 : List HO := [Ha (lnM F7_ m_.Rows)]
    obtain c1 | c1 := zE ak
    ·refine yNs 111121001201001 [J1, J2, J3, J4] [2,5,6,7] (zI (uj s_) de) (fun z => [(5, .own (eOs 1 true eB z))]) (Z1 ++ [c1, Hh (.cut 0)]) ?_ fun J5 hJ5 => ?_
     ·rintro ew ak
      cases ak
      exact yB cn _ hl2 []
     ·refine yMb 1111210012010012010 [J1, J2, J3, J4, J5] [2,5,6,7,8] (fun x => [(5, .own (eOs 1 true eB x.1)), (8, .d (I x.2))]) c1.2  [] fun t6 ak ⟨cb, i_⟩ m6 gy ay hl3 J6 eb => ?_
      obtain c2 | c2 := zE ay
      ·refine yNs 111121001201001201001 [J1, J2, J3, J4, J5, J6] [2,5,6,7,8] (zI (xH i_) gy) (fun z => [(5, .own (eOs 1 true eB z))]) [c2, Hh (.cut 0)] ?_ fun J7 hJ7 => ?_
       ·rintro ez ay
        cases ay
        exact yB eb _ hl3 []
       ·obtain ⟨al, h1, ah, h2, cq, h3, ay⟩ := V2 c2.2
        let Z2 : List HO := [Hi F7_ h1, Hi F5_ h2, Hn (iL eB h3), Hs (iM eB h3)]
        obtain c3 | c3 := zE ay
        ·obtain c4 | c4 := zE c3.2
         ·obtain ⟨gj, h4, ay⟩ := zH c4.2
          exact yB hJ7 (cb.set ah.To.toNat true) ay (Z2 ++ [c3, c3, c3, c4, Hn (iL eB h4), Hs (iM eB h4), Hs (iM eB h4), Hl (sM eB cb ah.To true)])
         ·exact yB hJ7 cb c4.2 (Z2 ++ [c3, c3, c3, c4])
        ·exact yB hJ7 cb c3.2 (Z2 ++ [c3, c3, c3, qF])
      ·cases c2.2
       cases hl3
       exact yB hJ5 cb ak [c2]
    ·cases c1.2
     cases hl2
     exact yB a8 dm ae (Z1 ++ [c1])
  ·cases c0.2
   cases hl1
   exact yB ap ai aa (Z0 ++ [c0])
def l44 : List yn := Zw 43 vz eB vn :: l43
theorem YU [H : HS X0 l43] : OkH l44 := yS1 true Try.func43 fun m_ r0 aa E hE => by
 obtain ⟨r_, h0, aa⟩ := zH aa
 refine yK 111 [] [] (fun z : Unit => vj = some r0) (fun z => []) [3] [zC2 0 h0, Hh (.cut 0)] ?_ fun J1 ap => ?_
 ·rintro ⟨⟩ aa
  cases aa
  exact yE hE []
 ·refine yMb 111210 [J1] [3,4] (fun x => [(4, .d (I x))]) aa  [] fun t2 aa s_ m2 aw ae hl1 J2 aq => ?_
  obtain c0 | c0 := zE ae
  ·obtain ⟨dh, h1, ae⟩ := zH c0.2
   let Z0 : List HO := [Ha (lnM eB r_), c0, Hn (iL eB h1), Hs (iM eB h1)]
   obtain c1 | c1 := zE ae
   ·cases c1.2
    cases hl1
    cases aa
    exact yE hE (Z0 ++ [c1])
   ·cases c1.2
    exact yB aq _ hl1 (Z0 ++ [c1])
  ·cases c0.2
   cases hl1
   exact yB ap () aa [Ha (lnM eB r_), c0]
def l45 : List yn := zcq 82 vz (eSl 1 false (eSl 1 false eB)) (eI .i64) (eI .i64) (eI .i64) jG :: l44
theorem Us [H : HS X0 l44] : OkH l45 := yS4 true Try.func82 fun m_ am s_ t_ r0 aa E hE => by
 refine yK 11 [] [] (fun z : Unit => ZF = some r0) (fun z => []) [1,2,3,4] [Hh (.cut 1)] ?_ fun J1 ap => ?_
 ·rintro ⟨⟩ aa
  cases aa
  exact yE hE []
 ·refine yMb 11210 [J1] [1,2,3,4,9] (fun x => [(9, .d (I x))]) aa  [] fun t2 aa i_ m2 aw ae hl1 J2 aq => ?_
  obtain c0 | c0 := zE ae
  ·refine yN 1121001 [J1, J2] [1,2,3,4,9,41,42,43,47,48,58] (fun z : Int × Bool × Bool × Bool × Bool × Bool => wt i_ z.1 z.2.1 z.2.2.1 z.2.2.2.1 z.2.2.2.2.1 z.2.2.2.2.2 = some aw) (fun z => [(41, .d (I z.1)), (42, .d (B z.2.1)), (43, .d (B z.2.2.1)), (47, .d (B z.2.2.2.1)), (48, .d (B z.2.2.2.2.1)), (58, .d (B z.2.2.2.2.2))]) [1,2,3,4,9] [c0, Hh (.cut 0)] ?_ fun J3 a8 => ?_
   ·rintro ⟨gk, gl, gm, gn, gp, gq⟩ ae
    cases ae
    exact yB aq _ hl1 []
   ·obtain ⟨al, h0, ah, h1, ck, h2, ax, h3, ae⟩ := zda c0.2
    let Z0 : List HO := [Hi F7_ h0, Hi F5_ h1, Hi F7_ h2, Hi F5_ h3]
    obtain c1 | c1 := zE ae
    ·cases c1.2
     cases hl1
     cases aa
     exact yE hE (Z0 ++ (rpN 8 (Hb c1) [qT]))
    ·let Z1 : List HO := (Z0 ++ (rpN 4 (Hb c1) []))
     obtain c2 | c2 := zE c1.2
     ·let Z2 : List HO := (Z1 ++ [c2, c2, c2, c1, c2, c1])
      obtain c3 | c3 := zE c2.2
      ·obtain ⟨bn, h4, ba, h5, ae⟩ := xm c3.2
       let Z3 : List HO := (Z2 ++ (rpN 4 (Hb c3) (Hi (eSl 1 false eB) h4 :: (rpN 4 (Hb c3) [Hi eB h5, c3, c1, c3, c1]))))
       obtain c4 | c4 := zE ae
       ·cases c4.2
        cases hl1
        cases aa
        exact yE hE (Z3 ++ [c4])
       ·exact yB a8 (ah.To, decide (ah.To ≥ 0), decide (ah.To ≥ 0), decide (ax.To ≥ 0), decide (ax.To ≥ 0), ba) c4.2 (Z3 ++ [c4])
      ·exact yB a8 (ah.To, decide (ah.To ≥ 0), decide (ah.To ≥ 0), decide (ax.To ≥ 0), decide (ax.To ≥ 0), false) c3.2 (Z2 ++ (rpN 9 (Hb c3) [c1, c3, c1, qF]))
     ·exact yB a8 (ah.To, decide (ah.To ≥ 0), decide (ah.To ≥ 0), false, false, false) c2.2 (Z1 ++ (Hb c2 :: Hb c2 :: Hb c2 :: Hb c1 :: Hb c2 :: Hb c1 :: (rpN 9 qF [c1, qF, c1, qF])))
  ·cases c0.2
   cases hl1
   exact yB ap () aa [c0]
def l46 : List yn := kl 69 vz (eI .i64) (eOs 1 false (eOs 1 true eB)) qO :: l45
theorem Vj [H : HS X0 l45] : OkH l46 := yS2 true Try.func69 fun m_ k_ r0 aa E hE => by
 refine yNs 1111 [] [1,2,5,6] (zI (qq m_ k_) r0) (fun z => [(6, .own (eOs 1 false (eOs 1 true eB) z))]) [Ha (lnM F7_ m_.Rows), Hh (.cut 1)] ?_ fun J1 ap => ?_
 ·rintro am aa
  refine yK 11111 [] [6] (zI qp r0) (fun z => [(6, .own (eOs 1 false (eOs 1 true eB) z))]) [1,2,5,6] [Hh (.cut 0)] ?_ fun J2 aq => ?_
  ·rintro dp aa
   cases aa
   exact yE hE []
  ·refine yMb 11111210 [J2] [1,2,5,6,8] (fun x => [(6, .own (eOs 1 false (eOs 1 true eB) x.1)), (8, .d (I x.2))]) aa  [] fun t3 aa ⟨ar, round⟩ m3 aw ae hl1 J3 a8 => ?_
   obtain c0 | c0 := zE ae
   ·refine yNs 1111121001 [J2, J3] [1,2,5,6,8] (zI (qo round) aw) (fun z => [(6, .own (eOs 1 false (eOs 1 true eB) z))]) [c0, Hh (.cut 0)] ?_ fun J4 cn => ?_
    ·rintro da ae
     cases ae
     exact yB a8 _ hl1 []
    ·refine yN 1111121001201 [J2, J3, J4] [1,2,5,8,9] (zI (qn round) aw) (fun z => [(9, .own (eOs 1 false (eOs 1 true eB) z))]) [1,2,5,6,8,9] [Hh (.cut 1)] ?_ fun J5 hJ5 => ?_
     ·rintro next ae
      exact yB cn next ae []
     ·obtain ⟨t6, ht6, ae⟩ := zH c0.2
      refine yMx 1111121001201210 [J2, J3, J4, J5] [1,2,5,6,8,9,10] (fun x => [(9, .own (eOs 1 false (eOs 1 true eB) x.1)), (10, .d (I x.2))]) ht6 [(9, .own (eOs 1 true (eOs 1 true eB) [])), (10, .d (I 0))] [Hh (.n 3 [6]), Hm (shM (eOs 1 true eB) (eSl 1 true eB) ar)] fun ⟨cj, s_⟩ m6 de ak hl2 J6 eb => ?_
      obtain c1 | c1 := zE ak
      ·refine yNs 111112100120121001 [J2, J3, J4, J5, J6] [1,2,5,6,8,9,10] (zI (qm s_) de) (fun z => [(9, .own (eOs 1 false (eOs 1 true eB) z))]) [c1, Hh (.cut 0)] ?_ fun J7 hJ7 => ?_
       ·rintro dy ak
        cases ak
        exact yB eb _ hl2 []
       ·obtain ⟨g0, ak⟩ := gdE c1.2
        obtain ⟨g1, ak⟩ := gdE ak
        refine yMb 11111210012012100120110 [J2, J3, J4, J5, J6, J7] [1,2,5,6,8,9,10,11] (fun x => [(9, .own (eOs 1 false (eOs 1 true eB) x.1)), (11, .d (I x.2))]) ak  [Hn (rL g0), Ha (rM 1 eB ((m_.Rows.length : Nat) : Int) false), Hq (oC (eOs 1 true eB) (List.replicate ((m_.Rows.length : Nat) : Int).toNat false) []), Hn (aL (eOs 1 true eB) (eOs 1 true eB) g1), Hl (aM (eOs 1 true eB) cj [(List.replicate ((m_.Rows.length : Nat) : Int).toNat false)])] fun t8 ak ⟨bz, t_⟩ m8 gy ay hl3 J8 gz => ?_
        obtain c2 | c2 := zE ay
        ·obtain ⟨bo, h0, bn, h1, ba, h2, ay⟩ := V2 c2.2
         let Z0 : List HO := [c2, Hn (iL (eOs 1 true eB) h0), Hs (iM (eOs 1 true eB) h0), Hi (eSl 1 true eB) h1, Hi eB h2]
         obtain c3 | c3 := zE ay
         ·obtain ⟨fz, h3, ay⟩ := zH c3.2
          cases ay
          exact yB gz _ hl3 (Z0 ++ (rpN 7 (Hb c3) [Hs (iM (eOs 1 true eB) h0), Hn (iL eB h3), Hs (iM (eOs 1 true eB) h0), Hs (iM eB h3), Hs (iM (eOs 1 true eB) h0), Hs (iM eB h3), Hl (sM eB bo t_ true), Hl (sM (eOs 1 true eB) bz s_ (bo.set t_.toNat true))]))
         ·obtain ⟨r_, h4, fm, h5, ay⟩ := xm c3.2
          cases ay
          exact yB gz _ hl3 (Z0 ++ (rpN 5 (Hb c3) [Hk [] (z8A (hat 0)) (zf4 0 h4 (loC vz m_ <| loC (eSl 1 false (eSl 1 true eB)) ar <| loC (eI .i64) s_ <| loC (eI .i64) t_ <| loN)), c3, c3, Hs (iM (eOs 1 true eB) h0), Hn (iL eB h5), Hs (iM (eOs 1 true eB) h0), Hs (iM eB h5), Hs (iM (eOs 1 true eB) h0), Hs (iM eB h5), Hl (sM eB bo t_ (r_ == 1)), Hl (sM (eOs 1 true eB) bz s_ (bo.set t_.toNat (r_ == 1)))]))
        ·cases c2.2
         cases hl3
         exact yB hJ7 bz ak [c2]
      ·cases c1.2
       cases hl2
       exact yB hJ5 cj ae [c1]
   ·cases c0.2
    cases hl1
    exact yB aq ar aa [c0]
 ·obtain ⟨t9, ht9, aa⟩ := zH aa
  refine yMx 1111210 [J1] [1,2,5,6,7] (fun x => [(6, .own (eOs 1 false (eOs 1 true eB) x.1)), (7, .d (I x.2))]) ht9 [(6, .own (eOs 1 true (eOs 1 true eB) [])), (7, .d (I 0))] [] fun ⟨bq, cx⟩ m9 aw ae hl1 J9 ib => ?_
  obtain c4 | c4 := zE ae
  ·obtain ⟨g2, ae⟩ := gdE c4.2
   obtain ⟨g3, ae⟩ := gdE ae
   cases ae
   exact yB ib _ hl1 [c4, Hn (rL g2), Ha (rM 1 eB ((m_.Rows.length : Nat) : Int) false), Hq (oC (eOs 1 true eB) (List.replicate ((m_.Rows.length : Nat) : Int).toNat false) []), Hn (aL (eOs 1 true eB) (eOs 1 true eB) g3), Hl (aM (eOs 1 true eB) bq [(List.replicate ((m_.Rows.length : Nat) : Int).toNat false)])]
  ·cases c4.2
   cases hl1
   exact yB ap bq aa [c4]
def l47 : List yn := Zw 68 (eSl 1 false (eSl 1 false eB)) F3_ vg :: l46
theorem YT [H : HS X0 l46] : OkH l47 := yS1 true Try.func68 fun am r0 aa E hE => by
 refine yK 1111 [] [3] (zI qN r0) (fun z => [(3, .own (eOs 1 false (eI .i64) z))]) [0,3,4] [Hh (.cut 3)] ?_ fun J1 ap => ?_
 ·rintro out aa
  cases aa
  exact yE hE []
 ·obtain ⟨t2, ht2, aa⟩ := zH aa
  refine yMx 1111210 [J1] [0,3,4,5] (fun x => [(3, .own (eOs 1 false (eI .i64) x.1)), (4, .d (I x.2.1)), (5, .d (I x.2.2))]) ht2 [(3, .own (eOs 1 true (eI .i64) [])), (4, .d (I 0)), (5, .d (I 0))] [] fun ⟨ai, n_, s_⟩ m2 aw ae hl1 J2 aq => ?_
  let Z0 : List HO := [Ha (lnM (eSl 1 false eB) am)]
  obtain c0 | c0 := zE ae
  ·refine yNs 111121001 [J1, J2] [0,3,4,5] (fun z : List Int × Int => ve s_ z.1 z.2 = some aw) (fun z => [(3, .own (eOs 1 false (eI .i64) z.1)), (4, .d (I z.2))]) (Z0 ++ [c0, Hh (.cut 0)]) ?_ fun J3 a8 => ?_
   ·rintro ⟨a7, av⟩ ae
    cases ae
    exact yB aq _ hl1 []
   ·refine yNs 111121001201 [J1, J2, J3] [0,3,4,5,6] (zI (vd ai n_ s_) aw) (fun z => [(6, .d (I z))]) [Hh (.cut 1)] ?_ fun J4 cn => ?_
    ·rintro b_ ae
     refine yNs 1111210012011 [J1, J2, J3] [0,3,4,5,6] (fun z : Int × Int => xj ai s_ z.1 z.2 = some aw) (fun z => [(4, .d (I z.1)), (6, .d (I z.2))]) [Hh (.cut 0)] ?_ fun J5 hJ5 => ?_
     ·rintro ⟨dj, dz⟩ ae
      obtain ⟨g0, ae⟩ := gdE ae
      exact yB a8 ((ai ++ [dz]), dj) ae [Hq (dM (eI .i64) [dz]), Hn (dM (eI .i64) [dz]), Hn (aL (eI .i64) (eI .i64) g0), Hl (aM (eI .i64) ai [dz])]
     ·obtain c1 | c1 := zE ae
      ·exact yB hJ5 (w64 (n_ + 1), n_) c1.2 [c1]
      ·exact yB hJ5 (n_, b_) c1.2 [c1]
    ·refine yMb 111121001201210 [J1, J2, J3, J4] [0,3,4,5,6,7] (fun x => [(6, .d (I x.1)), (7, .d (I x.2))]) c0.2  [] fun t6 ae ⟨d9, t_⟩ m6 de ak hl2 J6 eb => ?_
     obtain c2 | c2 := zE ak
     ·refine yNs 11112100120121001 [J1, J2, J3, J4, J6] [0,3,4,5,6,7] (zI (xO t_) de) (fun z => [(6, .d (I z))]) [c2, Hh (.cut 0)] ?_ fun J7 hJ7 => ?_
      ·rintro fp ak
       cases ak
       exact yB eb _ hl2 []
      ·obtain ⟨bn, h0, ba, h1, ak⟩ := xm c2.2
       let Z1 : List HO := [Hi (eSl 1 false eB) h0, Hi eB h1]
       obtain c3 | c3 := zE ak
       ·obtain ⟨cq, h2, ak⟩ := zH c3.2
        exact yB hJ7 cq ak (Z1 ++ [c3, Hn (iL (eI .i64) h2), Hs (iM (eI .i64) h2)])
       ·exact yB hJ7 d9 c3.2 (Z1 ++ [c3])
     ·cases c2.2
      cases hl2
      exact yB cn d9 ae [c2]
  ·cases c0.2
   cases hl1
   exact yB ap ai aa (Z0 ++ [c0])
def l48 : List yn := kl 59 vz (eI .i64) F3_ kG :: l47
theorem Vi [H : HS X0 l47] : OkH l48 := yS2 true Try.func59 fun m_ k_ r0 aa E hE => by
 obtain ⟨r_, h0, aj, h1, aa⟩ := xm aa
 cases aa
 exact yE hE [zC2 1 h0, zg 0, Hm (shM (eOs 1 true eB) (eSl 1 true eB) r_), Hs (zf1 0 h1 (loC (eSl 1 false (eSl 1 true eB)) r_ <| loN)), Hm (shM (eOs 1 true eB) (eSl 1 true eB) r_)]
def l49 : List yn := Zw 44 vz F3_ uC :: l48
theorem W8 [H : HS X0 l48] : OkH l49 := yS1 true Try.func44 fun m_ r0 aa E hE => by
 obtain ⟨r_, h0, aa⟩ := zH aa
 cases aa
 exact yE hE [Ha (lnM F7_ m_.Rows), zC2 0 h0]
def l50 : List yn := Zw 25 vz (eI .i64) wO :: l49
theorem Vh [H : HS X0 l49] : OkH l50 := yS1 true Try.func25 fun m_ r0 aa E hE => by
 obtain ⟨r_, h0, aa⟩ := zH aa
 let Z0 : List HO := [zC1 46 h0]
 obtain c0 | c0 := zE aa
 ·cases c0.2
  exact yE hE (Z0 ++ [c0])
 ·obtain ⟨aj, h1, aa⟩ := zH c0.2
  let Z1 : List HO := (Z0 ++ [c0, zC1 7 h1])
  obtain c1 | c1 := zE aa
  ·cases c1.2
   exact yE hE (Z1 ++ [c1])
  ·obtain ⟨bg, h2, aa⟩ := zH c1.2
   let Z2 : List HO := (Z1 ++ [c1, zC1 5 h2])
   obtain c2 | c2 := zE aa
   ·cases c2.2
    exact yE hE (Z2 ++ [c2])
   ·obtain ⟨az, h3, aa⟩ := zH c2.2
    refine yK 111111 [] [] (fun z : Unit => qh = some r0) (fun z => []) [4] (Z2 ++ [c2, zC1 0 h3, Hh (.cut 0)]) ?_ fun J1 ap => ?_
    ·rintro ⟨⟩ aa
     cases aa
     exact yE hE []
    ·refine yMb 111111210 [J1] [4,5] (fun x => [(5, .d (I x))]) aa  [] fun t2 aa s_ m2 aw ae hl1 J2 aq => ?_
     obtain c3 | c3 := zE ae
     ·refine yNs 11111121001 [J1, J2] [4,5] (fun z : Unit => qg s_ = some aw) (fun z => []) [Ha (lnM (eI .i64) az), c3, Hh (.cut 0)] ?_ fun J3 a8 => ?_
      ·rintro ⟨⟩ ae
       cases ae
       exact yB aq _ hl1 []
      ·refine yMb 111111210012010 [J1, J2, J3] [4,5,6] (fun x => [(6, .d (I x))]) c3.2  [] fun t4 ae t_ m4 de ak hl2 J4 cn => ?_
       obtain c4 | c4 := zE ak
       ·obtain ⟨dh, h4, dx, h5, ak⟩ := xm c4.2
        let Z3 : List HO := [c4, Hn (iL (eI .i64) h4), Hs (iM (eI .i64) h4), Hn (iL (eI .i64) h5), Hs (iM (eI .i64) h5)]
        obtain c5 | c5 := zE ak
        ·cases c5.2
         cases hl2
         cases ae
         cases hl1
         cases aa
         exact yE hE (Z3 ++ [c5])
        ·cases c5.2
         exact yB cn _ hl2 (Z3 ++ [c5])
       ·cases c4.2
        cases hl2
        exact yB a8 () ae [c4]
     ·cases c3.2
      cases hl1
      exact yB ap () aa [Ha (lnM (eI .i64) az), c3]
def l51 : List yn := kl 14 vz (eI .i64) (eI .i64) yJ :: l50
theorem Vf [H : HS X0 l50] : OkH l51 := yS2 true Try.func14 fun m_ states r0 aa E hE => by
 obtain c0 | c0 := zE aa
 ·cases c0.2
  exact yE hE [c0]
 ·refine yK 1111 [] [5] (zI kE r0) (fun z => [(5, .d (I z))]) [1,2,5] [c0, Hh (.cut 1)] ?_ fun J1 ap => ?_
  ·rintro n_ aa
   cases aa
   exact yE hE []
  ·refine yMb 1111210 [J1] [1,2,5,6] (fun x => [(5, .d (I x.1)), (6, .d (I x.2))]) c0.2  [] fun t2 aa ⟨av, i_⟩ m2 aw ae hl1 J2 aq => ?_
   obtain c1 | c1 := zE ae
   ·cases c1.2
    exact yB aq _ hl1 [c1]
   ·cases c1.2
    cases hl1
    exact yB ap av aa [c1]
def l52 : List yn := kl 12 vz (eI .i64) (eI .i64) jD :: l51
theorem Uo [H : HS X0 l51] : OkH l52 := yS2 true Try.func12 fun m_ states r0 aa E hE => by
 obtain ⟨r_, h0, aa⟩ := zH aa
 let Z0 : List HO := [zC1 1 h0]
 obtain c0 | c0 := zE aa
 ·cases c0.2
  exact yE hE (Z0 ++ [c0])
 ·obtain c1 | c1 := zE c0.2
  ·cases c1.2
   exact yE hE (Z0 ++ [c0, c1])
  ·obtain ⟨aj, h1, aa⟩ := zH c1.2
   let Z1 : List HO := (Z0 ++ [c0, c1, zC2 0 h1])
   obtain c2 | c2 := zE aa
   ·cases c2.2
    exact yE hE (Z1 ++ [c2])
   ·cases c2.2
    exact yE hE (Z1 ++ [c2])
def l53 : List yn := Zw 60 vz (zeU (zd6 (eI .i64) (z0S 70 z3u)) (zd6 (eI .i64) (z0S 72 z3u)) (zd6 (eI .i64) (z0S 74 z3u))) qr :: l52
theorem YV [H : HS X0 l52] : OkH l53 := yS1 false Try.func60 fun m_ r0 aa E hE => by
 cases aa
 exact yE hE []
def l54 : List yn := Zw 89 vz (z0S 95 z3u) j6 :: l53
theorem Xy [H : HS X0 l53] : OkH l54 := yS1 true Try.func89 fun m_ r0 aa E hE => by
 cases aa
 exact yE hE []
variable {σ : Type}
abbrev kr (x0 : z6) (YY : σ → z16) (bc : Int) (fq : σ) : List (Nat × T) := [(0, .own (.opq (YY fq).q)), (8, .d (eSl 1 false F7_ x0.Rows)), (9, .d (I ((x0.Rows.length : Nat) : Int))), (10, .d (I bc))]
abbrev kp (x0 : z6) (YY : σ → z16) (bc : Int) (al : List zj) (d0 : σ) (cr : Int) : List (Nat × T) := [(0, .own (.opq (YY d0).q)), (3, .d (I bc)), (8, .d (eSl 1 false F7_ x0.Rows)), (9, .d (I ((x0.Rows.length : Nat) : Int))), (10, .d (I bc)), (15, .d (eSl 2 false F5_ al)), (16, .d (I ((al.length : Nat) : Int))), (17, .d (I cr))]
abbrev kq (x0 : z6) (YY : σ → z16) (cm : σ) (bc : Int) : List (Nat × T) := [(0, .own (.opq (YY cm).q)), (8, .d (eSl 1 false F7_ x0.Rows)), (9, .d (I ((x0.Rows.length : Nat) : Int))), (10, .d (I bc))]
theorem Yj [H : HS X0 l54] (x0 : z6) : z3t Try.prog (.fn 95 [.sptr (.agg [I x0.Inputs, I x0.Outputs, eSl 1 false F7_ x0.Rows])]) (fun (x : wo Int × zj) (_ : Bool) (_ : Value) => [F0_ x.1, F5_ x.2]) (@wD x0) := by
 refine z2I (tt := Vq) (nt := Try.f95.ntmps) (body := zbd Try.f95) Yb Try.func95 rfl (by kernel_rfl) rfl rfl (by show (2 : Nat) ≤ 31; decide) ?_
 intro σ yv YY yy hy sg r0 aa E hE
 obtain ⟨t1, ht1, aa⟩ := zH aa
 refine yL 110 [] (fun s => xF x0 yy s.1 s.2) (fun x => kq x0 YY x.1 x.2) (sg, 0) ht1  [Ha (lnM F7_ x0.Rows)] fun ⟨cm, bc⟩ m1 aw ae hl1 J1 ap => ?_
 obtain c0 | c0 := zE ae
 ·refine yKs 110011 [J1] [0,8,9,10] (zI (wI bc) aw) (fun z => kr x0 YY bc z) [c0, Hh (.cut 0)] ?_ fun J2 aq => ?_
  ·rintro fq ae
   cases ae
   exact yB ap _ hl1 []
  ·obtain ⟨al, h0, t3, ht3, ae⟩ := xm c0.2
   refine yL 11001120110 [J1, J2] (fun s => yT yy bc al s.1 s.2) (fun x => kp x0 YY bc al x.1 x.2) (cm,0) ht3  [Hi F7_ h0, Ha (lnM F5_ al)] fun ⟨d0, cr⟩ m3 de ak hl2 J3 a8 => ?_
   obtain c1 | c1 := zE ak
   ·obtain ⟨ah, h1, yr, h2, ak⟩ := xm c1.2
    let Z0 : List HO := [c1, Hi F5_ h1, Hn (z1M (yv := yv) (Y := YY) (enc := (fun (x : wo Int × zj) (_ : Bool) (_ : Value) => [F0_ x.1, F5_ x.2])) (s := d0) (x := ((wo.mk bc cr), ah)) (s' := yr.1) (b := yr.2) (v := .nilFunc) [F0_ (wo.mk bc cr), F5_ ah] (show z1z [F0_ (wo.mk bc cr), F5_ ah] [F0_ (wo.mk bc cr), F5_ ah] from inferInstance))]
    obtain c2 | c2 := zE ak
    ·cases c2.2
     cases hl2
     cases ae
     cases hl1
     cases aa
     exact yF (H := zx ((Qu (P := Try.prog) Vq hy 27 (s := d0) (x := ((wo.mk bc cr), ah)) (s' := yr.1) (b := yr.2) .nilFunc h2).or X0)) .ret [(0, .own (.opq (YY yr.1).q))] (Z0 ++ [c2]) fun st0 h0 => hE _ st0 (.inr rfl) h0
    ·cases c2.2
     exact yB (H := zx ((Qu (P := Try.prog) Vq hy 27 (s := d0) (x := ((wo.mk bc cr), ah)) (s' := yr.1) (b := yr.2) .nilFunc h2).or X0)) a8 _ hl2 (Z0 ++ [c2])
   ·cases c1.2
    cases hl2
    exact yB aq d0 ae [c1]
 ·cases c0.2
  cases hl1
  cases aa
  exact yF .normal [(0, .own (.opq (YY cm).q))] [c0] fun st0 h0 => hE _ st0 (.inl rfl) h0
def l55 : List yn := Zw 90 (eSl 2 false F0_) (eSl 2 true F0_) xC :: l54
theorem qW [H : HS X0 l54] : OkH l55 := yS1 true Try.func90 fun s_ r0 aa E hE => by
 obtain ⟨g0, aa⟩ := gdE aa
 cases aa
 exact yE hE [Ha (lnM F0_ s_), Ha (lnM F0_ s_), Hn (slB g0), Hn (slC g0), Hn (z90 F0_ g0), Ha (zdN 2 F0_ s_ 0 ((s_.length : Nat) : Int).toNat)]
def l56 : List yn := Zw 83 vz (eSl 2 true F0_) vp :: l55
theorem Zt [H : HS X0 l55] : OkH l56 := yS1 true Try.func83 fun m_ r0 aa E hE => by
 refine yK 111 [] [3] (zI wa r0) (fun z => [(3, .own (.box (eOs 2 false F0_ z)))]) [1,3] [Hh (.cut 2)] ?_ fun J1 ap => ?_
 ·rintro out aa
  obtain ⟨r_, h0, aa⟩ := zH aa
  cases aa
  exact yE hE [zg 0, Hm (shM F0_ F0_ out), Hs (zf1 0 h0 (loC (eSl 2 false F0_) out <| loN)), Hm (shM F0_ F0_ out)]
 ·obtain ⟨aj, h1, t2, ht2, aa⟩ := xm aa
  refine yAt (sub [1,1,2,1,0] (zbd Try.f83)) (frs [1,1,2,1,0] [J1] (zbd Try.f83) []) [(3, .own (.box (eOs 2 true F0_ []))), (7, .d (.fn 95 [.sptr (.agg [I aj.Inputs, I aj.Outputs, eSl 1 false F7_ aj.Rows])]))] [zC1 1 h1] fun st0 h0 => ?_
  refine z3k (g := .tmp 7) (ps := [8,9]) (assign := (sub [1,1,2,1,0,0] (zbd Try.f83))) (body := (sub [1,1,2,1,0,1] (zbd Try.f83))) (K := 95) (caps := [.sptr (.agg [I aj.Inputs, I aj.Outputs, eSl 1 false F7_ aj.Rows])]) (by kernel_rfl) [3,7] (fun s => [(3, .own (.box (eOs 2 false F0_ s))), (7, .d (.fn 95 [.sptr (.agg [I aj.Inputs, I aj.Outputs, eSl 1 false F7_ aj.Rows])]))]) (fun z => nomatch z) (fun z => nomatch z) ((fun (x : wo Int × zj) (_ : Bool) (_ : Value) => [F0_ x.1, F5_ x.2])) (F := @wD aj) (fun s x => zX s x.1 x.2) ([] : List (wo Int)) t2 _ h0 inferInstance (by kernel_rfl) (by decide) (fun _ => rfl) (by rintro ⟨⟩) (by kernel_rfl) (fun _ _ _ => rfl) (Yj (H := zd 1) aj) ht2 ?_ ?_
  ·rintro ic ai ⟨x8, x9⟩ vr aw ae
   replace ae : zX ai x8 x9 = some aw := ae
   refine yF .normal [(3, .own (.box (eOs 2 false F0_ ai))), (4, .own (.box (F0_ x8))), (5, .own (.box (F5_ x9))), (7, .d (.fn 95 [.sptr (.agg [I aj.Inputs, I aj.Outputs, eSl 1 false F7_ aj.Rows])]))] [] fun st0 h0 => ⟨rfl, zcd h0 ?_⟩
   obtain ⟨bg, h2, ae⟩ := zH ae
   let Z0 : List HO := [zC0 45 h2]
   obtain c0 | c0 := zE ae
   ·obtain ⟨g0, ae⟩ := gdE c0.2
    cases ae
    exact yF .normal ([(3, .own (.box (eOs 2 false F0_ (ai ++ [x8])))), (7, .d (.fn 95 [.sptr (.agg [I aj.Inputs, I aj.Outputs, eSl 1 false F7_ aj.Rows])]))]) (Z0 ++ [c0, Hq (dM F0_ [x8]), Hn (dM F0_ [x8]), Hn (aL F0_ F0_ g0), Hl (aM F0_ ai [x8])]) fun st0 h0 => ⟨rfl, _, h0, LeL.refl _⟩
   ·cases c0.2
    exact yF .normal ([(3, .own (.box (eOs 2 false F0_ ai))), (7, .d (.fn 95 [.sptr (.agg [I aj.Inputs, I aj.Outputs, eSl 1 false F7_ aj.Rows])]))]) (Z0 ++ [c0]) fun st0 h0 => ⟨rfl, _, h0, LeL.refl _⟩
  ·rcases t2 with ai | z
   ·dsimp only at aa
    exact V3 (by kernel_rfl) (ap _ [(3, .own (.box (eOs 2 false F0_ ai)))] ai aa (show Own.canon [3] _ = ofL _ by kernel_rfl) inferInstance)
   ·cases z
def l57 : List yn := Zw 71 vz (eT2 eB (eI .i64)) we :: l56
theorem ZR [H : HS X0 l56] : OkH l57 := yS1 false Try.func71 fun m_ r0 aa E hE => by
 obtain ⟨r_, h0, aa⟩ := zH aa
 let Z0 : List HO := [zC1 41 h0]
 obtain c0 | c0 := zE aa
 ·cases c0.2
  exact yE hE (Z0 ++ [c0])
 ·obtain ⟨aj, h1, aa⟩ := zH c0.2
  cases aa
  exact yE hE (Z0 ++ [c0, zC1 0 h1, Ha (lnM F0_ aj)])
def l58 : List yn := Zw 70 z3u eB vG :: l57
theorem ZQ [H : HS X0 l57] : OkH l58 := yS1 true Try.func70 fun x0 r0 aa E hE => by
 obtain ⟨r_, h0, aa⟩ := zH aa
 cases aa
 exact yE hE [zC1 0 h0]
theorem kh [H : HS X0 l58] (ct : Value) (cu : Value) (cw : Value) : ∀ (fu : Nat) (s_ : Int) (y0 : List Bool) (y1 : z6) (r0 : List Bool × z6), zP fu s_ y0 y1 = some r0 → qG Try.prog (.fn 84 [.atom ct, .atom cu, .atom cw]) [I s_] ([ct, cu, cw].zip [.box (eOs 1 true eB y0), .box (.agg [I y1.Inputs, I y1.Outputs, eSl 1 false F7_ y1.Rows]), .box (.fn 84 [.atom ct, .atom cu, .atom cw])]) (.tup []) [.box (eOs 1 true eB r0.1), .box (.agg [I r0.2.Inputs, I r0.2.Outputs, eSl 1 false F7_ r0.2.Rows]), .box (.fn 84 [.atom ct, .atom cu, .atom cw])] := by
 intro fu
 induction fu with
 | zero => intro s_ y0 y1 r0 aa; exact nomatch (show none = some r0 from aa)
 | succ fu ih =>
  intro s_ y0 y1 r0 aa
  replace aa : yV (zP fu) s_ y0 y1 = some r0 := aa
  generalize zP fu = ft at ih aa
  refine z4F (tt := Vq) (nt := Try.f84.ntmps) (body := zbd Try.f84) [1,2,3] Yb Try.func84 rfl (by kernel_rfl) rfl rfl (by show (4 : Nat) ≤ 33; decide) (by decide) rfl rfl (fun E hE => ?_) rfl
  obtain c0 | c0 := zE aa
  ·cases c0.2
   exact yF .ret [(1, .own (.box (eOs 1 true eB y0))), (2, .own (.box (.agg [I y1.Inputs, I y1.Outputs, eSl 1 false F7_ y1.Rows]))), (3, .own (.box (.fn 84 [.atom ct, .atom cu, .atom cw])))] (rpN 5 (Hb c0) [qT]) fun st0 h0 => hE _ st0 (.inr rfl) (UY h0 ⟨⟨rfl, rfl⟩, ⟨⟨rfl, rfl⟩, ⟨⟨rfl, rfl⟩, trivial⟩⟩⟩)
  ·obtain ⟨gw, h0, aa⟩ := zH c0.2
   let Z0 : List HO := [c0, c0, c0, Hn (iL eB h0), c0, Hs (iM eB h0), c0]
   obtain c1 | c1 := zE aa
   ·cases c1.2
    exact yF .ret [(1, .own (.box (eOs 1 true eB y0))), (2, .own (.box (.agg [I y1.Inputs, I y1.Outputs, eSl 1 false F7_ y1.Rows]))), (3, .own (.box (.fn 84 [.atom ct, .atom cu, .atom cw])))] (Z0 ++ [c1]) fun st0 h0 => hE _ st0 (.inr rfl) (UY h0 ⟨⟨rfl, rfl⟩, ⟨⟨rfl, rfl⟩, ⟨⟨rfl, rfl⟩, trivial⟩⟩⟩)
   ·obtain ⟨ia, h1, al, h2, t1, ht1, aa⟩ := V2 c1.2
    refine yM 11110 [] [1,2,3,22,23,24] (fun x => [(1, .own (.box (eOs 1 true eB x.1))), (2, .own (.box (.agg [I x.2.1, I x.2.2.1, eSl 1 false F7_ x.2.2.2.1]))), (24, .d (I x.2.2.2.2))]) ht1  (Z0 ++ [c1, Hn (iL eB h1), Hs (iM eB h1), Hs (iM eB h1), Hl (sM eB y0 s_ true), Hi F7_ h2, Ha (lnM F5_ al)]) fun ⟨x1, bp, bi, cg, fc⟩ m1 aw ae hl1 J1 ap => ?_
    obtain c2 | c2 := zE ae
    ·obtain ⟨ah, h3, r_, h4, ae⟩ := xm c2.2
     cases ae
     exact yB (H := zx ((z3G (P := Try.prog) Vq [1,2,3] (ih _ _ _ _ h4) 31).or X0)) ap _ hl1 [c2, Hi F5_ h3, Hn (Kb (f := .fn 84 [.atom ct, .atom cu, .atom cw]) (xs := [(eI .i64) ah.To]) (ls := [(ct, .box (eOs 1 true eB x1)), (cu, .box (.agg [I bp, I bi, eSl 1 false F7_ cg])), (cw, .box (.fn 84 [.atom ct, .atom cu, .atom cw]))]) (r := .tup []) (ys := [.box (eOs 1 true eB r_.1), .box (.agg [I r_.2.Inputs, I r_.2.Outputs, eSl 1 false F7_ r_.2.Rows]), .box (.fn 84 [.atom ct, .atom cu, .atom cw])]) [(eI .i64) ah.To] (show z1z [(eI .i64) ah.To] [(eI .i64) ah.To] from inferInstance))]
    ·cases c2.2
     cases hl1
     cases aa
     exact yF .normal [(1, .own (.box (eOs 1 true eB x1))), (2, .own (.box (.agg [I bp, I bi, eSl 1 false F7_ cg]))), (3, .own (.box (.fn 84 [.atom ct, .atom cu, .atom cw])))] [c2] fun st0 h0 => hE _ st0 (.inl rfl) (UY h0 ⟨⟨rfl, rfl⟩, ⟨⟨rfl, rfl⟩, ⟨⟨rfl, rfl⟩, trivial⟩⟩⟩)
def l59 : List yn := kl 91 (eSl 1 false eB) eB (eI .i64) xM :: l58
theorem j9 [H : HS X0 l58] : OkH l59 := yS2 true Try.func91 fun s_ v_ r0 aa E hE => by
 refine yK 11 [] [] (fun z : Unit => wq = some r0) (fun z => []) [0,1] [Hh (.cut 1)] ?_ fun J1 ap => ?_
 ·rintro ⟨⟩ aa
  cases aa
  exact yE hE []
 ·refine yMb 11210 [J1] [0,1,7,8] (fun x => [(8, .d (I x))]) aa  [Ha (lnM eB s_)] fun t2 aa x8 m2 aw ae hl1 J2 aq => ?_
  obtain c0 | c0 := zE ae
  ·obtain ⟨co, h0, ae⟩ := zH c0.2
   obtain c1 | c1 := zE ae
   ·cases c1.2
    cases hl1
    cases aa
    exact yE hE [c0, Hi eB h0, c1]
   ·cases c1.2
    exact yB aq _ hl1 [c0, Hi eB h0, c1]
  ·cases c0.2
   cases hl1
   exact yB ap () aa [c0]
def l60 : List yn := kl 85 (eSl 1 false eB) eB eB yp :: l59
theorem uX [H : HS X0 l59] : OkH l60 := yS2 true Try.func85 fun s_ v_ r0 aa E hE => by
 obtain ⟨r_, h0, aa⟩ := zH aa
 cases aa
 exact yE hE [zC2 0 h0]
def l61 : List yn := Zw 73 vz (eT2 eB (eI .i64)) xQ :: l60
theorem Zu [H : HS X0 l60] : OkH l61 := yS1 false Try.func73 fun m_ r0 aa E hE => by
 obtain ⟨r_, h0, aa⟩ := zH aa
 let Z0 : List HO := [zC1 45 h0]
 obtain c0 | c0 := zE aa
 ·cases c0.2
  exact yE hE (Z0 ++ [c0])
 ·obtain ⟨g0, aa⟩ := gdE c0.2
  refine yC 11111 [] [1,5,6] (Z0 ++ [c0, Ha (lnM F7_ m_.Rows), Hn (rL g0), Ha (rM 1 eB ((m_.Rows.length : Nat) : Int) false), Hh (.cut 1)]) ?_
  refine z3j (by kernel_rfl) 5 fun fw => ?_
  refine z3j (by kernel_rfl) 1 fun fx => ?_
  refine z3j (by kernel_rfl) 6 fun fy => ?_
  obtain ⟨aj, h1, bg, h2, aa⟩ := xm aa
  cases aa
  exact yE (H := zx ((z3G (P := Try.prog) Vq [5,1,6] (kh (H := zd 2) fw fx fy fuel _ _ _ _ h1) 18).or ((xMk Try.prog Vq).or X0))) hE [Hn (Kb (f := .fn 84 [.atom fw, .atom fx, .atom fy]) (xs := [(eI .i64) 0]) (ls := [(fw, .box (eOs 1 true eB (List.replicate ((m_.Rows.length : Nat) : Int).toNat false))), (fx, .box (.agg [I m_.Inputs, I m_.Outputs, eSl 1 false F7_ m_.Rows])), (fy, .box (.fn 84 [.atom fw, .atom fx, .atom fy]))]) (r := .tup []) (ys := [.box (eOs 1 true eB aj.1), .box (.agg [I aj.2.Inputs, I aj.2.Outputs, eSl 1 false F7_ aj.2.Rows]), .box (.fn 84 [.atom fw, .atom fx, .atom fy])]) [(eI .i64) 0] (show z1z [(eI .i64) 0] [(eI .i64) 0] from inferInstance)), zg 0, Hm (shM eB eB aj.1), Hs (zf2 0 h2 (loC (eSl 1 true eB) aj.1 <| loC eB false <| loN))]
def l62 : List yn := Zw 72 z3u eB vF :: l61
theorem ZP [H : HS X0 l61] : OkH l62 := yS1 true Try.func72 fun x0 r0 aa E hE => by
 obtain ⟨r_, h0, aa⟩ := zH aa
 cases aa
 exact yE hE [zC1 0 h0]
def l63 : List yn := Zw 86 vz (z0S 92 z3u) qY :: l62
theorem Xw [H : HS X0 l62] : OkH l63 := yS1 true Try.func86 fun m_ r0 aa E hE => by
 cases aa
 exact yE hE []
def l64 : List yn := Qp 96 vz F2_ (eI .i64) F4_ wN :: l63
theorem Ve [H : HS X0 l63] : OkH l64 := yS3 false Try.func96 fun m_ p_ s_ r0 aa E hE => by
 refine yN 111 [] [6,7] (zI qb r0) (fun z => [(7, .own (.box (F4_ z)))]) [1,2,3,6,7] [Hh (.cut 2)] ?_ fun J1 ap => ?_
 ·rintro out aa
  cases aa
  exact yE hE []
 ·obtain ⟨al, h0, t2, ht2, aa⟩ := xm aa
  refine yM 111210 [J1] [1,6,7,14,15,16] (fun x => [(7, .own (.box (F4_ x.1))), (16, .d (I x.2))]) ht2  [Hi F7_ h0, Ha (lnM F5_ al)] fun ⟨ai, bj⟩ m2 aw ae hl1 J2 aq => ?_
  obtain c0 | c0 := zE ae
  ·refine yNs 111210011 [J1, J2] [1,6,7,14,15,16] (zI (wV bj) aw) (fun z => [(7, .own (.box (F4_ z)))]) [c0, Hh (.cut 0)] ?_ fun J3 a8 => ?_
   ·rintro a7 ae
    cases ae
    exact yB aq _ hl1 []
   ·obtain ⟨ah, h1, cell, h2, arr, h3, ae⟩ := V2 c0.2
    replace h3 := z41 h3
    let Z0 : List HO := [Hi F5_ h1, Hn (⟨arJ (by kernel_rfl) (i0 h2), (iL F0_ h2).2⟩ : XE Vq 124 ((yh.toL ai).map F0_) bj = true ∧ bj.toNat < ((yh.toL ai).map F0_).length), Hh (.op 9), Hh (.f), Hs (iM F0_ h2), Hh (.f), Hs (iM F0_ h2), Hx (.l ((yh.toL arr).map F0_)) ((yh.setL F0_ ai bj (wo.mk ah.Out (-1))).trans (congrArg (fun q => (yh.toL q).map F0_) h3))]
    obtain c1 | c1 := zE ae
    ·obtain ⟨a6, h4, ca, h5, arr1, h6, ae⟩ := V2 c1.2
     replace h6 := z41 h6
     exact yB a8 arr1 ae (Z0 ++ [c1, Hi (eI .i64) h4, Hn (⟨arJ (by kernel_rfl) (i0 h5), (iL F0_ h5).2⟩ : XE Vq 124 ((yh.toL arr).map F0_) bj = true ∧ bj.toNat < ((yh.toL arr).map F0_).length), Hh (.op 2), Hh (.f), Hs (iM F0_ h5), Hn (⟨rfl, by decide⟩ : true = true ∧ 1 < 2), Hh (.op 0), Hh (.f), Hs (iM F0_ h5), Hh (.f), Hx (.a (I ca.e1)) (rfl : some (I ca.e1 : A) = some (I ca.e1)), Hh (.f), Hs (iM F0_ h5), Hh (.f), Hx (.a (I ca.e1)) (rfl : some (I ca.e1 : A) = some (I ca.e1)), Hx (.l [I ca.e0, I a6]) (rfl : [I ca.e0, I a6] = [I ca.e0, I a6]), Hx (.l ((yh.toL arr1).map F0_)) ((yh.setL F0_ arr bj (wo.mk ca.e0 a6)).trans (congrArg (fun q => (yh.toL q).map F0_) h6))])
    ·exact yB a8 arr c1.2 (Z0 ++ [c1])
  ·cases c0.2
   cases hl1
   exact yB ap ai aa [c0]
def l65 : List yn := kl 93 vz F2_ (eOs 1 true (eI .i64)) wY :: l64
theorem YR [H : HS X0 l64] : OkH l65 := yS2 true Try.func93 fun m_ p_ r0 aa E hE => by
 obtain ⟨g0, aa⟩ := gdE aa
 refine yK (H := zx ((zcD Try.prog 12).or X0)) 1111 [] [6] (zI wX r0) (fun z => [(6, .own (eOs 1 true (eI .i64) z))]) [1,2,5,6] [Ha (lnM (eI .i64) p_), Hn (rL g0), Ha (rM 1 (eI .i64) ((p_.length : Nat) : Int) (0 : Int)), Hh (.cut 0)] ?_ fun J1 ap => ?_
 ·rintro out aa
  cases aa
  exact yE hE []
 ·refine yMb 1111210 [J1] [1,2,5,6,16,17,18] (fun x => [(5, .own (.opq (XP (kf F8_ (eI .i64) x.1)))), (6, .own (eOs 1 true (eI .i64) x.2.1)), (18, .d (I x.2.2))]) aa  [Ha (lnM (eI .i64) p_)] fun t2 aa ⟨names, ai, bm⟩ m2 aw ae hl1 J2 aq => ?_
  obtain c0 | c0 := zE ae
  ·obtain ⟨a6, h0, r_, h1, ae⟩ := xm c0.2
   refine yNs 11112100110011 [J1, J2] [1,2,5,6,7,9,16,17,18] (zI (xg ai bm a6 r_) aw) (fun z => [(5, .own (.opq (XP (kf F8_ (eI .i64) z))))]) [c0, Hi (eI .i64) h0, zC3 0 h1, Hh (.cut 0)] ?_ fun J3 a8 => ?_
   ·rintro bk ae
    obtain ⟨val, h2, ae⟩ := zH ae
    replace h2 := z41 h2
    obtain ⟨cq, h3, ae⟩ := zH ae
    cases ae
    exact yB (H := zx ((z64 Jr 45 (kf F8_ (eI .i64) bk)).or X0)) aq _ hl1 [Hn (⟨rfl, rfl, z30 (fun _ => rfl) bk⟩ : A.opq (XP (kf F8_ (eI .i64) bk)) = A.opq (XP (kf F8_ (eI .i64) bk)) ∧ (WJ [.i64, .i64, .i64, .i64, .i64, .i64, .i64, .i64, .i64, .i64, .i64, .i64, .i64, .i64, .i64, .i64, .i64, .i64, .i64, .i64, .i64, .i64, .i64, .i64, .i64, .i64, .i64, .i64, .i64, .i64, .i64, .i64, .i64]) (F8_ (zr.mk a6 r_)) = true ∧ ∀ p ∈ kf F8_ (eI .i64) bk, (WJ [.i64, .i64, .i64, .i64, .i64, .i64, .i64, .i64, .i64, .i64, .i64, .i64, .i64, .i64, .i64, .i64, .i64, .i64, .i64, .i64, .i64, .i64, .i64, .i64, .i64, .i64, .i64, .i64, .i64, .i64, .i64, .i64, .i64]) p.1 = true), Hx (.a ((eI .i64) val)) ((zeT (f := F8_) (g := (eI .i64)) (z0 := 0) (z := .atom (.int .i64 0)) rfl (zr.mk a6 r_) bk).trans (congrArg (eI .i64) h2)), Hn (iL (eI .i64) h3), Hs (iM (eI .i64) h3), Hs (iM (eI .i64) h3), Hl (sM (eI .i64) ai bm val)]
   ·obtain ⟨gr, h4, ae⟩ := zH ae
    replace h4 := z41 h4
    let Z0 : List HO := [Hn (⟨rfl, rfl, z30 (fun _ => rfl) names⟩ : A.opq (XP (kf F8_ (eI .i64) names)) = A.opq (XP (kf F8_ (eI .i64) names)) ∧ (WJ [.i64, .i64, .i64, .i64, .i64, .i64, .i64, .i64, .i64, .i64, .i64, .i64, .i64, .i64, .i64, .i64, .i64, .i64, .i64, .i64, .i64, .i64, .i64, .i64, .i64, .i64, .i64, .i64, .i64, .i64, .i64, .i64, .i64]) (F8_ (zr.mk a6 r_)) = true ∧ ∀ p ∈ kf F8_ (eI .i64) names, (WJ [.i64, .i64, .i64, .i64, .i64, .i64, .i64, .i64, .i64, .i64, .i64, .i64, .i64, .i64, .i64, .i64, .i64, .i64, .i64, .i64, .i64, .i64, .i64, .i64, .i64, .i64, .i64, .i64, .i64, .i64, .i64, .i64, .i64]) p.1 = true), Hx (.a (.tup [I gr, B ((Xq names (zr.mk a6 r_)).isSome)])) ((zeS (f := F8_) (g := (eI .i64)) (z0 := 0) (z := .atom (.int .i64 0)) rfl (zr.mk a6 r_) names).trans (congrArg (fun x => A.tup [(eI .i64) x, .atom (.bool (Xq names (zr.mk a6 r_)).isSome)]) h4))]
    obtain c1 | c1 := zE ae
    ·exact yB (H := zx ((zeD Jr 37 (kf F8_ (eI .i64) names) (kf F8_ (eI .i64) (z1e names (zr.mk a6 r_) ((names.length : Nat) : Int)))).or ((zcE Jr 40 (kf F8_ (eI .i64) names)).or ((z64 Jr 32 (kf F8_ (eI .i64) names)).or X0)))) a8 (z1e names (zr.mk a6 r_) ((names.length : Nat) : Int)) c1.2 (Z0 ++ [c1, Hn (rfl : A.opq (XP (kf F8_ (eI .i64) names)) = A.opq (XP (kf F8_ (eI .i64) names))), Hx (aLn names.length) (z7Z F8_ (eI .i64) names), Hn (⟨rfl, rfl, rfl, rfl, z30 (fun _ => rfl) names⟩ : T.own (.opq (XP (kf F8_ (eI .i64) names))) = T.own (.opq (XP (kf F8_ (eI .i64) names))) ∧ 0 = 0 ∧ (WJ [.i64, .i64, .i64, .i64, .i64, .i64, .i64, .i64, .i64, .i64, .i64, .i64, .i64, .i64, .i64, .i64, .i64, .i64, .i64, .i64, .i64, .i64, .i64, .i64, .i64, .i64, .i64, .i64, .i64, .i64, .i64, .i64, .i64]) (F8_ (zr.mk a6 r_)) = true ∧ ((eI .i64) ((names.length : Nat) : Int)).isD = true ∧ ∀ p ∈ kf F8_ (eI .i64) names, (WJ [.i64, .i64, .i64, .i64, .i64, .i64, .i64, .i64, .i64, .i64, .i64, .i64, .i64, .i64, .i64, .i64, .i64, .i64, .i64, .i64, .i64, .i64, .i64, .i64, .i64, .i64, .i64, .i64, .i64, .i64, .i64, .i64, .i64]) p.1 = true), Hn (z75 (f := F8_) (g := (eI .i64)) (zr.mk a6 r_) ((names.length : Nat) : Int) names)])
    ·exact yB (H := zx ((z64 Jr 32 (kf F8_ (eI .i64) names)).or X0)) a8 names c1.2 (Z0 ++ [c1])
  ·cases c0.2
   cases hl1
   exact yB ap ai aa [c0]
def l66 : List yn := kl 94 F2_ F2_ eB xq :: l65
theorem kg [H : HS X0 l65] : OkH l66 := yS2 true Try.func94 fun s1 s2 r0 aa E hE => by
 let Z0 : List HO := [Ha (lnM (eI .i64) s1), Ha (lnM (eI .i64) s2)]
 obtain c0 | c0 := zE aa
 ·cases c0.2
  exact yE hE (Z0 ++ [c0])
 ·refine yK 111 [] [] (fun z : Unit => xz = some r0) (fun z => []) [0,1] (Z0 ++ [c0, Hh (.cut 0)]) ?_ fun J1 ap => ?_
  ·rintro ⟨⟩ aa
   cases aa
   exact yE hE []
  ·refine yMb 111210 [J1] [0,1,12,13] (fun x => [(13, .d (I x))]) c0.2  [Ha (lnM (eI .i64) s1)] fun t2 aa dg m2 aw ae hl1 J2 aq => ?_
   obtain c1 | c1 := zE ae
   ·obtain ⟨ep, h0, dw, h1, ae⟩ := xm c1.2
    let Z1 : List HO := [c1, Hi (eI .i64) h0, Hi (eI .i64) h1]
    obtain c2 | c2 := zE ae
    ·cases c2.2
     cases hl1
     cases aa
     exact yE hE (Z1 ++ [c2])
    ·cases c2.2
     exact yB aq _ hl1 (Z1 ++ [c2])
   ·cases c1.2
    cases hl1
    exact yB ap () aa [c1]
abbrev ko (x0 : z6) (YY : σ → z16) (cm : σ) (p_ : List Int) : List (Nat × T) := [(0, .own (.opq (YY cm).q)), (1, .d (.sptr (vz x0))), (3, .own (eOs 1 true (eI .i64) p_))]
theorem Yh [H : HS X0 l66] (x0 : z6) : z3t Try.prog (.fn 92 [.sptr (.agg [I x0.Inputs, I x0.Outputs, eSl 1 false F7_ x0.Rows])]) (fun (x : List Int) (_ : Bool) (_ : Value) => [F2_ x]) (@wx x0) := by
 refine z2I (tt := Vq) (nt := Try.f92.ntmps) (body := zbd Try.f92) Yb Try.func92 rfl (by kernel_rfl) rfl rfl (by show (2 : Nat) ≤ 19; decide) ?_
 intro σ yv YY yy hy sg r0 aa E hE
 obtain ⟨g0, aa⟩ := gdE aa
 obtain ⟨t1, ht1, aa⟩ := zH aa
 refine yL 110 [] (fun s => xD x0 yy s.1 s.2) (fun x => ko x0 YY x.1 x.2) (sg, (List.replicate ((x0.Rows.length : Nat) : Int).toNat (0 : Int))) ht1  [Ha (lnM F7_ x0.Rows), Hn (rL g0), Ha (rM 1 (eI .i64) ((x0.Rows.length : Nat) : Int) (0 : Int))] fun ⟨cm, p_⟩ m1 aw ae hl1 J1 ap => ?_
 obtain ⟨yr, h0, ae⟩ := zH ae
 let Z0 : List HO := [Hm (shM (eI .i64) (eI .i64) p_), Hn (z1M (yv := yv) (Y := YY) (enc := (fun (x : List Int) (_ : Bool) (_ : Value) => [F2_ x])) (s := cm) (x := p_) (s' := yr.1) (b := yr.2) (v := .nilFunc) [F1_ p_] (show z1z [F1_ p_] [F2_ p_] from inferInstance))]
 obtain c0 | c0 := zE ae
 ·obtain ⟨r_, h1, aj, h2, ae⟩ := xm c0.2
  let Z1 : List HO := (Z0 ++ [c0, Hk [] (z8A (hat 1)) (zf2 1 h1 (loC vz x0 <| loC F1_ p_ <| loN)), zg 0, Hm (shM (eI .i64) (eI .i64) r_), Hs (zf2 0 h2 (loC F1_ p_ <| loC F1_ r_ <| loN))])
  obtain c1 | c1 := zE ae
  ·cases c1.2
   cases hl1
   cases aa
   exact yF (H := zx ((Qu (P := Try.prog) Vq hy 11 (s := cm) (x := p_) (s' := yr.1) (b := yr.2) .nilFunc h0).or X0)) .ret [(0, .own (.opq (YY yr.1).q))] (Z1 ++ [c1]) fun st0 h0 => hE _ st0 (.inr rfl) h0
  ·cases c1.2
   exact yB (H := zx ((Qu (P := Try.prog) Vq hy 11 (s := cm) (x := p_) (s' := yr.1) (b := yr.2) .nilFunc h0).or X0)) ap _ hl1 (Z1 ++ [c1])
 ·cases c0.2
  cases hl1
  cases aa
  exact yF (H := zx ((Qu (P := Try.prog) Vq hy 11 (s := cm) (x := p_) (s' := yr.1) (b := yr.2) .nilFunc h0).or X0)) .normal [(0, .own (.opq (YY yr.1).q))] (Z0 ++ [c0]) fun st0 h0 => hE _ st0 (.inl rfl) h0
def l67 : List yn := Zw 75 vz (eT3 F2_ (eI .i64) (eI .i64)) v6 :: l66
theorem YS [H : HS X0 l66] : OkH l67 := yS1 false Try.func75 fun m_ r0 aa E hE => by
 obtain ⟨r_, h0, aa⟩ := zH aa
 let Z0 : List HO := [Hh (.v 2 [2]), Hm (shM (eI .i64) (eI .i64) []), zC1 51 h0]
 obtain c0 | c0 := zE aa
 ·cases c0.2
  exact yEl hE (Z0 ++ [c0, Hm (shM (eI .i64) (eI .i64) [])])
 ·refine yK 1111 [] [2,3] (fun z : List Int × Int => wZ z.1 z.2 = some r0) (fun z => [(2, .own (.box (eSl 1 false (eI .i64) z.1))), (3, .own (.box (I z.2)))]) [1,2,3] (Z0 ++ [Hb c0, Hh (.cut 1)]) ?_ fun J1 ap => ?_
  ·rintro ⟨p_, n_⟩ aa
   cases aa
   exact yE hE []
  ·obtain ⟨aj, h1, t2, ht2, aa⟩ := xm c0.2
   refine yAt (sub [1,1,1,2,1,0] (zbd Try.f75)) (frs [1,1,1,2,1,0] [J1] (zbd Try.f75) []) [(2, .own (.box (eSl 1 true (eI .i64) []))), (3, .own (.box (I (-1)))), (13, .d (.fn 92 [.sptr (.agg [I aj.Inputs, I aj.Outputs, eSl 1 false F7_ aj.Rows])]))] [zC1 3 h1] fun st0 h0 => ?_
   refine z3k (g := .tmp 13) (ps := [14]) (assign := (sub [1,1,1,2,1,0,0] (zbd Try.f75))) (body := (sub [1,1,1,2,1,0,1] (zbd Try.f75))) (K := 92) (caps := [.sptr (.agg [I aj.Inputs, I aj.Outputs, eSl 1 false F7_ aj.Rows])]) (by kernel_rfl) [2,3,13] (fun s => [(2, .own (.box (eSl 1 false (eI .i64) s.1))), (3, .own (.box (I s.2))), (13, .d (.fn 92 [.sptr (.agg [I aj.Inputs, I aj.Outputs, eSl 1 false F7_ aj.Rows])]))]) (fun z => nomatch z) (fun z => nomatch z) ((fun (x : List Int) (_ : Bool) (_ : Value) => [F2_ x])) (F := @wx aj) (fun s x => xh s.1 s.2 x) (([] : List Int), (-1)) t2 _ h0 inferInstance (by kernel_rfl) (by decide) (fun _ => rfl) (by rintro ⟨⟩) (by kernel_rfl) (fun _ _ _ => rfl) (Yh (H := zd 0) aj) ht2 ?_ ?_
   ·rintro ic ⟨dt, av⟩ cp vr aw ae
    replace ae : xh dt av cp = some aw := ae
    refine yF .normal [(2, .own (.box (eSl 1 false (eI .i64) dt))), (3, .own (.box (I av))), (6, .d (eSl 1 false (eI .i64) cp)), (13, .d (.fn 92 [.sptr (.agg [I aj.Inputs, I aj.Outputs, eSl 1 false F7_ aj.Rows])]))] [] fun st0 h0 => ⟨rfl, zcd h0 ?_⟩
    cases ae
    exact yF .normal ([(2, .own (.box (eSl 1 false (eI .i64) cp))), (3, .own (.box (I (w64 (av + 1))))), (13, .d (.fn 92 [.sptr (.agg [I aj.Inputs, I aj.Outputs, eSl 1 false F7_ aj.Rows])]))]) [] fun st0 h0 => ⟨rfl, _, h0, LeL.refl _⟩
   ·rcases t2 with ⟨dt, av⟩ | z
    ·dsimp only at aa
     exact V3 (by kernel_rfl) (ap _ [(2, .own (.box (eSl 1 false (eI .i64) dt))), (3, .own (.box (I av)))] (dt, av) aa (show Own.canon [2,3] _ = ofL _ by kernel_rfl) inferInstance)
    ·cases z
def l68 : List yn := Zw 76 F2_ (eI .i64) xN :: l67
theorem Zs [H : HS X0 l67] : OkH l68 := yS1 true Try.func76 fun x_ r0 aa E hE => by
 obtain c0 | c0 := zE aa
 ·cases c0.2
 ·obtain ⟨fk, h0, aa⟩ := zH c0.2
  refine yK 1111 [] [3] (zI xV r0) (fun z => [(3, .d (I z))]) [0,3] [Ha (lnM (eI .i64) x_), c0, Hi (eI .i64) h0, Hh (.cut 0)] ?_ fun J1 ap => ?_
  ·rintro m_ aa
   cases aa
   exact yE hE []
  ·refine yMb 1111210 [J1] [0,3,4] (fun x => [(3, .d (I x.1)), (4, .d (I x.2))]) aa  [] fun t2 aa ⟨fe, i_⟩ m2 aw ae hl1 J2 aq => ?_
   obtain c1 | c1 := zE ae
   ·obtain ⟨fj, h1, ae⟩ := zH c1.2
    cases ae
    exact yB aq _ hl1 [Ha (lnM (eI .i64) x_), c1, Hi (eI .i64) h1]
   ·cases c1.2
    cases hl1
    exact yB ap fe aa [Ha (lnM (eI .i64) x_), c1]
def l69 : List yn := Zw 74 z3u eB vD :: l68
theorem ZO [H : HS X0 l68] : OkH l69 := yS1 true Try.func74 fun x0 r0 aa E hE => by
 obtain ⟨r_, h0, aj, h1, aa⟩ := xm aa
 cases aa
 exact yE hE [zC1 1 h0, zC1 0 h1, Ha (lnM (eI .i64) r_.1)]
def l70 : List yn := Zw 45 vz (eI .i64) xc :: l69
theorem Yi [H : HS X0 l69] : OkH l70 := yS1 true Try.func45 fun m_ r0 aa E hE => by
 obtain ⟨r_, h0, aa⟩ := zH aa
 let Z0 : List HO := [zC1 54 h0]
 obtain c0 | c0 := zE aa
 ·cases c0.2
  exact yE hE (Z0 ++ [c0])
 ·refine yK 111 [] [] (fun z : Unit => wG = some r0) (fun z => []) [1] (Z0 ++ [c0, Hh (.cut 0)]) ?_ fun J1 ap => ?_
  ·rintro ⟨⟩ aa
   cases aa
   exact yE hE []
  ·obtain ⟨aj, h1, bg, h2, aa⟩ := xm c0.2
   let Z1 : List HO := [zC1 16 h1, Hh (.u 70), qT, zC1 11 h2]
   obtain c1 | c1 := zE aa
   ·cases c1.2
    exact yE hE (Z1 ++ [c1])
   ·obtain ⟨az, h3, aa⟩ := zH c1.2
    let Z2 : List HO := (Z1 ++ [c1, qT, zC1 7 h3])
    obtain c2 | c2 := zE aa
    ·cases c2.2
     exact yE hE (Z2 ++ [c2])
    ·obtain ⟨br, h4, aa⟩ := zH c2.2
     let Z3 : List HO := (Z2 ++ [c2, qT, zC1 0 h4])
     obtain c3 | c3 := zE aa
     ·cases c3.2
      exact yE hE (Z3 ++ [c3])
     ·exact yB ap () c3.2 (Z3 ++ [c3, qF])
def l71 : List yn := kl 27 vz (eI .i64) (eI .i64) wR :: l70
theorem QD [H : HS X0 l70] : OkH l71 := yS2 true Try.func27 fun m_ states r0 aa E hE => by
 obtain c0 | c0 := zE aa
 ·cases c0.2
  exact yE hE [c0]
 ·refine yK 1111 [] [5] (zI YE r0) (fun z => [(5, .d (I z))]) [1,2,5] [c0, Hh (.cut 1)] ?_ fun J1 ap => ?_
  ·rintro n_ aa
   cases aa
   exact yE hE []
  ·refine yMb 1111210 [J1] [1,2,5,6] (fun x => [(5, .d (I x.1)), (6, .d (I x.2))]) c0.2  [] fun t2 aa ⟨av, i_⟩ m2 aw ae hl1 J2 aq => ?_
   obtain c1 | c1 := zE ae
   ·obtain c2 | c2 := zE c1.2
    ·cases c2.2
     exact yB aq _ hl1 [c1, c1, c1, c2]
    ·cases c2.2
     cases hl1
     exact yB ap av aa [c1, c1, c1, c2]
   ·cases c1.2
    cases hl1
    exact yB ap av aa [c1, c1, c1, qF]
def l72 : List yn := kl 26 vz (eI .i64) (eI .i64) uR :: l71
theorem QE [H : HS X0 l71] : OkH l72 := yS2 true Try.func26 fun m_ states r0 aa E hE => by
 obtain ⟨r_, h0, aa⟩ := zH aa
 let Z0 : List HO := [zC1 1 h0]
 obtain c0 | c0 := zE aa
 ·cases c0.2
  exact yE hE (Z0 ++ [c0])
 ·obtain c1 | c1 := zE c0.2
  ·cases c1.2
   exact yE hE (Z0 ++ [c0, c1])
  ·obtain ⟨aj, h1, aa⟩ := zH c1.2
   let Z1 : List HO := (Z0 ++ [c0, c1, zC2 0 h1])
   obtain c2 | c2 := zE aa
   ·cases c2.2
    exact yE hE (Z1 ++ [c2])
   ·cases c2.2
    exact yE hE (Z1 ++ [c2])
def l73 : List yn := kl 13 vz (eI .i64) (eT2 (eI .i64) (eI .i64)) vJ :: l72
theorem Uw [H : HS X0 l72] : OkH l73 := yS2 false Try.func13 fun m_ states r0 aa E hE => by
 obtain ⟨r_, h0, aa⟩ := zH aa
 let Z0 : List HO := [zC2 0 h0]
 obtain c0 | c0 := zE aa
 ·cases c0.2
  exact yE hE (Z0 ++ [c0])
 ·obtain ⟨aj, h1, aa⟩ := zH c0.2
  cases aa
  exact yE hE (Z0 ++ [c0, zC2 1 h1])
def l74 : List yn := z8t 16 eB jN :: l73
theorem Uv [H : HS X0 l73] : OkH l74 := by
 refine zO0 fun  r0 aa => ?_
 cases aa
 exact Qc ⟨_, Try.func16, by decide, rfl⟩ Go.Ex.KE
def l75 : List yn := Qp 33 vz F6_ (eI .i64) (eI .i64) uQ :: l74
theorem QC [H : HS X0 l74] : OkH l75 := yS3 true Try.func33 fun m_ l_ states r0 aa E hE => by
 obtain ⟨r_, h0, aa⟩ := zH aa
 let Z0 : List HO := [zC2 2 h0]
 obtain c0 | c0 := zE aa
 ·cases c0.2
  exact yE hE (Z0 ++ [c0])
 ·obtain ⟨aj, h1, aa⟩ := zH c0.2
  cases aa
  exact yE hE (Z0 ++ [c0, zC2 46 h1])
def l76 : List yn := Qp 17 vz F6_ (eI .i64) (eT2 (y9 (eI .i64) (eI .i64) (eSl 1 true F7_)) (eI .i64)) XT :: l75
theorem z17 [H : HS X0 l75] : OkH l76 := yS3 false Try.func17 fun m_ l_ states r0 aa E hE => by
 obtain ⟨r_, h0, aa⟩ := zH aa
 let Z0 : List HO := [zC3 0 h0]
 obtain c0 | c0 := zE aa
 ·cases c0.2
  exact yE hE (Z0 ++ [c0, Hm (shM F7_ F7_ [])])
 ·cases c0.2
def l77 : List yn := Qp 18 vz F6_ (eI .i64) (eT2 (eI .i64) (eI .i64)) YF :: l76
theorem K7 [H : HS X0 l76] : OkH l77 := yS3 false Try.func18 fun m_ l_ states r0 aa E hE => by
 obtain ⟨r_, h0, aa⟩ := zH aa
 let Z0 : List HO := [zC3 1 h0]
 obtain c0 | c0 := zE aa
 ·cases c0.2
  exact yE hE (Z0 ++ [c0])
 ·cases c0.2
def l78 : List yn := kl 3 vz zeV eB jO :: l77
theorem We [H : HS X0 l77] : OkH l78 := yS2 true Try.func3 fun m_ y_ r0 aa E hE => by
 obtain ⟨r_, h0, aj, h1, aa⟩ := xm aa
 let Z0 : List HO := [zC1 76 h0, zC1 76 h1]
 obtain c0 | c0 := zE aa
 ·cases c0.2
  exact yE hE (Z0 ++ (rpN 5 (Hb c0) (rpN 6 qT [])))
 ·let Z1 : List HO := (Z0 ++ [c0, c0, c0, Ha (lnM F2_ y_.L), c0, c0])
  obtain c1 | c1 := zE c0.2
  ·cases c1.2
   exact yE hE (Z1 ++ (rpN 5 (Hb c1) [qT]))
  ·obtain ⟨bg, h2, aa⟩ := zH c1.2
   let Z2 : List HO := (Z1 ++ [c1, c1, c1, zC1 75 h2, c1, c1])
   obtain c2 | c2 := zE aa
   ·cases c2.2
    exact yE hE (Z2 ++ [c2])
   ·obtain ⟨az, h3, br, h4, bu, h5, aa⟩ := V2 c2.2
    refine yN 111111 [] [2,3,5,6,7,9] (fun z : Unit => xK m_ y_ az br bu = some r0) (fun z => []) [2,3,5,6,7,8,9,10] (Z2 ++ [c2, zC3 68 h3, zC3 46 h4, zC3 44 h5, Hh (.cut 0)]) ?_ fun J1 ap => ?_
    ·rintro ⟨⟩ aa
     refine yN 1111111 [] [2,3] (fun z : Unit => xJ m_ y_ = some r0) (fun z => []) [2,3,5,6,7,9] [Hh (.cut 0)] ?_ fun J2 aq => ?_
     ·rintro ⟨⟩ aa
      obtain ⟨cd, h6, ff, h7, aa⟩ := xm aa
      refine yN 1111111111 [] [2,3,5] (fun z : Unit => yz m_ y_ cd = some r0) (fun z => []) [2,3,5,8,13] [zC2 25 h6, zC2 4 h7, Hh (.cut 0)] ?_ fun J3 a8 => ?_
      ·rintro ⟨⟩ aa
       refine yNs 11111111111 [] [2,3,5] (zI (xI m_ y_) r0) (fun z => [(5, .d (I z))]) [Hh (.cut 0)] ?_ fun J4 cn => ?_
       ·rintro f_ aa
        obtain c3 | c3 := zE aa
        ·obtain ⟨gx, h8, aa⟩ := zH c3.2
         cases aa
         exact yE hE [c3, zC0 3 h8]
        ·obtain ⟨gi, h9, ga, h10, aa⟩ := xm c3.2
         let Z3 : List HO := [c3, zC3 1 h9, zC3 0 h10]
         obtain c4 | c4 := zE aa
         ·let Z4 : List HO := (Z3 ++ (rpN 4 (Hb c4) []))
          obtain c5 | c5 := zE c4.2
          ·let Z5 : List HO := (Z4 ++ [c5, c5, c5, Ha (lnM F7_ gi.1.Rows), c5, c5])
           obtain c6 | c6 := zE c5.2
           ·obtain c7 | c7 := zE c6.2
            ·obtain ⟨gt, h11, aa⟩ := zH c7.2
             cases aa
             exact yE hE (Z5 ++ [c6, c6, c6, c7, zC0 3 h11, c7])
            ·cases c7.2
             exact yE hE (Z5 ++ [c6, c6, c6, c7, c7])
           ·cases c6.2
            exact yE hE (Z5 ++ [c6, c6, c6, qF, qF])
          ·cases c5.2
           exact yE hE (Z4 ++ (rpN 5 (Hb c5) (rpN 5 qF [])))
         ·cases c4.2
          exact yE hE (Z3 ++ (rpN 4 (Hb c4) (rpN 10 qF [])))
       ·obtain c8 | c8 := zE aa
        ·obtain ⟨gb, h12, aa⟩ := zH c8.2
         exact yB cn gb aa [c8, zC2 69 h12]
        ·exact yB cn cd c8.2 [c8]
      ·obtain c9 | c9 := zE aa
       ·cases c9.2
        exact yE hE (rpN 5 (Hb c9) (rpN 6 qT []))
       ·obtain c10 | c10 := zE c9.2
        ·let Z6 : List HO := [c9, c9, c9, c10, c10, c9, c10, c9]
         obtain c11 | c11 := zE c10.2
         ·cases c11.2
          exact yE hE (Z6 ++ (rpN 5 (Hb c11) [qT]))
         ·obtain c12 | c12 := zE c11.2
          ·obtain ⟨gu, h13, aa⟩ := zH c12.2
           let Z7 : List HO := (Z6 ++ (Hb c11 :: Hb c11 :: Hb c11 :: (rpN 5 (Hb c12) [zC2 26 h13, c12, c11, c12, c11])))
           obtain c13 | c13 := zE aa
           ·cases c13.2
            exact yE hE (Z7 ++ [c13])
           ·exact yB a8 () c13.2 (Z7 ++ [c13])
          ·exact yB a8 () c12.2 (Z6 ++ (Hb c11 :: Hb c11 :: Hb c11 :: (rpN 6 (Hb c12) [c11, c12, c11, qF])))
        ·let Z8 : List HO := [c9, c9, c9, c10, c10, c9, c10, c9, qF, qF, qF]
         obtain c14 | c14 := zE c10.2
         ·obtain ⟨gv, h14, aa⟩ := zH c14.2
          let Z9 : List HO := (Z8 ++ (rpN 5 (Hb c14) [zC2 26 h14, c14, qF, c14, qF]))
          obtain c15 | c15 := zE aa
          ·cases c15.2
           exact yE hE (Z9 ++ [c15])
          ·exact yB a8 () c15.2 (Z9 ++ [c15])
         ·exact yB a8 () c14.2 (Z8 ++ (rpN 6 (Hb c14) [qF, c14, qF, qF]))
     ·obtain c16 | c16 := zE aa
      ·obtain ⟨gc, h15, aa⟩ := zH c16.2
       let Z10 : List HO := [c16, zC3 40 h15]
       obtain c17 | c17 := zE aa
       ·cases c17.2
        exact yE hE (Z10 ++ (rpN 4 (Hb c17) (rpN 11 qT [])))
       ·let Z11 : List HO := (Z10 ++ (rpN 4 (Hb c17) []))
        obtain c18 | c18 := zE c17.2
        ·cases c18.2
         exact yE hE (Z11 ++ (rpN 10 (Hb c18) [qT]))
        ·obtain ⟨db, h16, ge, h17, aa⟩ := xm c18.2
         let Z12 : List HO := (Z11 ++ (rpN 7 (Hb c18) [zC3 39 h16, c18, Hm (shM (eI .i64) (eI .i64) db), Hn (Kb (f := .fn 10 []) (xs := [F1_ bu.1, F2_ db]) (ls := []) (r := B ge) (ys := []) [F1_ bu.1, F2_ db] (show z1z [F1_ bu.1, F2_ db] [F1_ bu.1, F2_ db] from inferInstance)), c18, c18]))
         obtain c19 | c19 := zE aa
         ·cases c19.2
          exact yE (H := zx ((z3G (P := Try.prog) Vq [] (lentCall ((zk2 37 h17 :))) 112).or X0)) hE (Z12 ++ [c19])
         ·exact yB (H := zx ((z3G (P := Try.prog) Vq [] (lentCall ((zk2 37 h17 :))) 112).or X0)) aq () c19.2 (Z12 ++ [c19])
      ·exact yB aq () c16.2 [c16]
    ·obtain c20 | c20 := zE aa
     ·cases c20.2
      exact yE hE (rpN 4 (Hb c20) (rpN 6 qT []))
     ·let Z13 : List HO := (rpN 4 (Hb c20) [])
      obtain c21 | c21 := zE c20.2
      ·cases c21.2
       exact yE hE (Z13 ++ (rpN 5 (Hb c21) [qT]))
      ·obtain c22 | c22 := zE c21.2
       ·let Z14 : List HO := (Z13 ++ [c21, c21, c21, c22, c22, c22])
        obtain c23 | c23 := zE c22.2
        ·cases c23.2
         exact yE hE (Z14 ++ [c23, c23, c22, c23, c22, qT, qT, qT, c22, qT, c21, c22, c21, qT])
        ·let Z15 : List HO := (Z14 ++ [c23, c23, c22, c23, c22])
         obtain c24 | c24 := zE c23.2
         ·cases c24.2
          exact yE hE (Z15 ++ [c24, c24, c24, c22, c24, c21, c22, c21, qT])
         ·let Z16 : List HO := (Z15 ++ [c24, c24, Ha (lnM (eI .i64) bu.1), c24, c22, c24, c21, c22, c21])
          obtain c25 | c25 := zE c24.2
          ·cases c25.2
           exact yE hE (Z16 ++ [c25])
          ·exact yB ap () c25.2 (Z16 ++ [c25])
       ·exact yB ap () c22.2 (Z13 ++ (Hb c21 :: Hb c21 :: Hb c21 :: (rpN 6 (Hb c22) [c21, c22, c21, qF])))
theorem spc {X : XH Try.prog} {s : yn} {l : List yn} (w : ∀ [HS X l], OkH (s :: l)) (r : Xj Try.prog l) (h : ((l.map yn.k).contains s.k) = false := by kernel_rfl) : Xj Try.prog (s :: l) := ⟨fun c a b => @w ⟨c, a, b⟩, z9n h, r⟩
theorem zcj : Xj Try.prog l78 := spc We <|
 spc K7 <|
 spc z17 <|
 spc QC <|
 spc Uv <|
 spc Uw <|
 spc QE <|
 spc QD <|
 spc Yi <|
 spc ZO <|
 spc Zs <|
 spc YS <|
 spc kg <|
 spc YR <|
 spc Ve <|
 spc Xw <|
 spc ZP <|
 spc Zu <|
 spc uX <|
 spc j9 <|
 spc ZQ <|
 spc ZR <|
 spc Zt <|
 spc qW <|
 spc Xy <|
 spc YV <|
 spc Uo <|
 spc Vf <|
 spc Vh <|
 spc W8 <|
 spc Vi <|
 spc YT <|
 spc Vj <|
 spc Us <|
 spc YU <|
 spc W9 <|
 spc Xx <|
 spc Wa <|
 spc QA <|
 spc Qy <|
 spc Un <|
 spc Vg <|
 spc Qw <|
 spc K5 <|
 spc Qz <|
 spc QF <|
 spc kw <|
 spc Ux <|
 spc K6 <|
 spc QB <|
 spc Ul <|
 spc Ui <|
 spc Uk <|
 spc W3 <|
 spc QG <|
 spc ja <|
 spc YW <|
 spc Wf <|
 spc Uj <|
 spc Uh <|
 spc uf <|
 spc qI <|
 spc W5 <|
 spc Xz <|
 spc xS <|
 spc wp <|
 spc Yk <|
 spc Wc <|
 spc Wb <|
 spc Um <|
 spc Ur <|
 spc W7 <|
 spc Uq <|
 spc W6 <|
 spc Qx <|
 spc Ut <|
 spc Up <|
 spc Uu <|
 trivial
theorem yf {x : Int} (h1 : -9223372036854775808 ≤ x) (h2 : x ≤ 9223372036854775807) : w64 x = x := by
 simp only [w64, IntKind.wrap, IntKind.bits, IntKind.signed]
 simp
 omega
section
variable {α β σ τ ρ : Type}
def Ret (x : Option α) (Q : α → Prop) : Prop := ∃ a, x = some a ∧ Q a
theorem Ret.mono {x : Option α} {Q R : α → Prop} (h : Ret x Q) (q : ∀ a, Q a → R a) : Ret x R := by
 have ⟨a, e, h⟩ := h
 exact ⟨a, e, q a h⟩
theorem Ret.eq {x : Option α} {a : α} (h : Ret x fun b => b = a) : x = some a := by
 obtain ⟨b, e, rfl⟩ := h
 exact e
theorem ze {a : α} {Q : α → Prop} : Ret (some a) Q ↔ Q a := ⟨fun ⟨b, e, q⟩ => by cases e; exact q, fun q => ⟨a, rfl, q⟩⟩
theorem zJ {x : Option α} {f : α → Option β} {Q : β → Prop} : Ret (Option.bind x f) Q ↔ Ret x fun a => Ret (f a) Q := by
 cases x with
 | none => exact ⟨fun ⟨b, e, _⟩ => (by cases e), fun ⟨b, e, _⟩ => (by cases e)⟩
 | some a => exact ⟨fun h => ⟨a, rfl, h⟩, fun ⟨b, e, h⟩ => by cases e; exact h⟩
theorem z5G {p : Prop} [Decidable p] {x : Option α} {Q : α → Prop} : Ret (gd p x) Q ↔ p ∧ Ret x Q := by
 unfold gd
 by_cases h : p
 ·rw [if_pos h]; exact ⟨fun q => ⟨h, q⟩, fun q => q.2⟩
 ·rw [if_neg h]; exact ⟨fun ⟨b, e, _⟩ => by (cases e), fun q => (h q.1).elim⟩
theorem y7 {c : Bool} {x y : Option α} {Q : α → Prop} : Ret (bif c then x else y) Q ↔ (c = true → Ret x Q) ∧ (c = false → Ret y Q) := by
 cases c <;> simp
theorem z6Z {l : List α} {i : Int} {Q : α → Prop} : Ret (idx l i) Q ↔ 0 ≤ i ∧ ∃ x, l[i.toNat]? = some x ∧ Q x := by
 cases i with
 | ofNat n =>
  show (∃ a, l[n]? = some a ∧ Q a) ↔ _
  simp
 | negSucc n => exact ⟨fun ⟨b, e, _⟩ => by (cases e), fun ⟨h, _⟩ => by omega⟩
theorem yk (l : List α) (i : Nat) : idx l (i : Int) = l[i]? := rfl
theorem gdT {p : Prop} [Decidable p] {x : Option α} (h : p) : gd p x = x := by unfold gd; rw [if_pos h]
theorem bdT {x : Option α} {u : α} {f : α → Option ρ} (h : x = some u) : Option.bind x f = f u := by rw [h]; rfl
theorem jm (step : σ → Option (LR σ τ)) (n : Nat) (s : σ) : Xa step (n + 1) s = (match step s with | none => none | some (.next s') => Xa step n s' | some (.done t) => some t) := rfl
def LRP (N : σ → Prop) (D : τ → Prop) : LR σ τ → Prop
 | .next s => N s
 | .done t => D t
theorem yH {step : σ → Option (LR σ τ)} (I : σ → Prop) (m : σ → Nat) {R : τ → Prop} {s : σ} (hs : I s) (hm : m s < 18446744073709551616)
  (h : ∀ s, I s → Ret (step s) (LRP (fun s' => I s' ∧ m s' < m s) R)) : Ret (loop step s) R := by
 have gen : ∀ (n : Nat) (s : σ), I s → m s < n → Ret (Xa step n s) R := by
  intro n
  induction n with
  | zero => intro s _ h; omega
  | succ n ih =>
   intro s hs hm
   have ⟨a, e, q⟩ := h s hs
   rw [jm, e]
   cases a with
   | next s' => exact ih s' q.1 (by have := q.2; omega)
   | done t => exact ⟨t, rfl, q⟩
 exact gen fuel s hs hm
theorem jM {step : σ → Option (LR σ τ)} (st : Nat → σ) (n : Nat) {t : τ} (hn : n < 9223372036854775808) (h : ∀ i, i < n → step (st i) = some (.next (st (i + 1)))) (hd : step (st n) = some (.done t)) : loop step (st 0) = some t := by
 have gen : ∀ (k : Nat) (i : Nat), i ≤ n → n - i < k → Xa step k (st i) = some t := by
  intro k
  induction k with
  | zero => intro i _ h; omega
  | succ k ih =>
   intro i hi hk
   rw [jm]
   rcases Nat.lt_or_ge i n with q | q
   ·rw [h i q]
    exact ih (i + 1) q (by omega)
   ·have : i = n := by omega
    subst this
    rw [hd]
 exact gen fuel 0 (Nat.zero_le _) (by show n - 0 < 18446744073709551616; omega)
def zF (f : Nat → α → Option ρ) : List α → Nat → Option ρ
 | [], _ => none
 | x :: l, i => match f i x with | some r => some r | none => zF f l (i + 1)
theorem qA {f : Nat → α → Option ρ} : ∀ {l : List α} {k : Nat}, (∀ i x, l[i]? = some x → f (k + i) x = none) → zF f l k = none
 | [], _, _ => rfl
 | x :: l, k, h => by
  have h0 := h 0 x rfl
  simp [Nat.add_zero] at h0
  simp [zF, h0]
  exact qA fun i y hy => by have := h (i + 1) y (by simpa using hy); rwa [show k + 1 + i = k + (i + 1) by omega]
theorem ym {f : Nat → α → Option ρ} {r : ρ} : ∀ {l : List α} {k : Nat}, zF f l k = some r → ∃ i x, l[i]? = some x ∧ f (k + i) x = some r
 | [], _, h => by cases h
 | x :: l, k, h => by
  simp [zF] at h
  cases hf : f k x with
  | some r' => rw [hf] at h; exact ⟨0, x, rfl, by rw [Nat.add_zero, hf]; exact h⟩
  | none =>
   rw [hf] at h
   have ⟨i, y, h1, h2⟩ := ym h
   exact ⟨i + 1, y, by simpa using h1, by rw [← h2]; congr 1; omega⟩
theorem yw {f : Nat → α → Option ρ} {l : List α} {k : Nat} (h : zF f l k = none) : ∀ i x, l[i]? = some x → f (k + i) x = none := by
 induction l generalizing k with
 | nil => intro i x h; simp at h
 | cons y l ih =>
  intro i x hx
  simp [zF] at h
  cases hf : f k y with
  | some r' => rw [hf] at h; cases h
  | none =>
   rw [hf] at h
   cases i with
   | zero => simp at hx; subst hx; simpa using hf
   | succ i => have := ih h i x (by simpa using hx); rwa [show k + (i + 1) = k + 1 + i by omega]
def oS : Option ρ → Unit ⊕ ρ
 | some r => .inr r
 | none => .inl ()
def nS (i : Nat) : Option ρ → LR Int (Unit ⊕ ρ)
 | some r => .done (.inr r)
 | none => .next (w64 ((i : Int) + 1))
theorem y8 (l : List α) (hl : l.length < 4611686018427387904) {step : Int → Option (LR Int (Unit ⊕ ρ))} (f : Nat → α → Option ρ)
  (h : ∀ (i : Nat) (x : α), l[i]? = some x → step (i : Int) = some (nS i (f i x))) (h2 : step (l.length : Int) = some (.done (.inl ()))) :
  loop step 0 = some (oS (zF f l 0)) := by
 have gen : ∀ (n : Nat) (k : Nat), k ≤ l.length → l.length - k < n → Xa step n (k : Int) = some (oS (zF f (l.drop k) k)) := by
  intro n
  induction n with
  | zero => intro k _ h; omega
  | succ n ih =>
   intro k hk hn
   rw [jm]
   rcases Nat.lt_or_ge k l.length with hlt | hge
   ·have hx : l[k]? = some l[k] := List.getElem?_eq_getElem hlt
    rw [h k _ hx, List.drop_eq_getElem_cons hlt]
    simp [zF]
    cases hf : f k l[k] with
    | some r => rfl
    | none =>
     simp [nS]
     rw [yf (by omega) (by omega)]
     exact ih (k + 1) hlt (by omega)
   ·have : k = l.length := by omega
    subst this
    rw [h2, List.drop_length]
    rfl
 exact gen fuel 0 (Nat.zero_le _) (by show l.length - 0 < 18446744073709551616; omega)
end
section
variable {S : Type}
variable {k : Nat} {bad : S → Nat → Bool} {nx : S → Nat → Option S} {p0 : S}
def Mk (k : Nat) (bad : S → Nat → Bool) (nx : S → Nat → Option S) : Nat → S → Prop
 | 0, _ => False
 | n + 1, p => Mk k bad nx n p ∨ ∃ i, i < k ∧ (bad p i = true ∨ ∃ q, nx p i = some q ∧ Mk k bad nx n q)
theorem Mk.mono {n m : Nat} {p : S} (h : Mk k bad nx n p) (hm : n ≤ m) : Mk k bad nx m p := by
 induction hm with
 | refl => exact h
 | step _ ih => exact .inl ih
end
variable {α : Type}
theorem WZ {p q : α → Bool} : ∀ {l : List α}, (∀ x ∈ l, p x = true → q x = true) → (∃ x ∈ l, q x = true ∧ p x = false) → l.countP p < l.countP q
 | [], _, ⟨x, hx, _⟩ => by cases hx
 | y :: l, h, ⟨x, hx, h1, h2⟩ => by
  have hm : l.countP p ≤ l.countP q := List.countP_mono_left fun z hz => h z (List.mem_cons_of_mem _ hz)
  simp [List.countP_cons]
  rcases List.mem_cons.1 hx with rfl | hx
  ·simp [h1, h2, if_true, Bool.false_eq_true, if_false]
   omega
  ·have := WZ (fun z hz => h z (List.mem_cons_of_mem _ hz)) ⟨x, hx, h1, h2⟩
   cases hp : p y with
   | true => simp [h y (by simp) hp, if_true]; omega
   | false =>
    simp [Bool.false_eq_true, if_false]
    split <;> omega
open Classical in
def z5H (N : Nat) (R : Nat → Nat → Prop) : Nat := (List.range N).countP fun s => decide (∀ t, t < s → ¬ R s t)
theorem zeG {N : Nat} (hN : 0 < N) (R : Nat → Nat → Nat → Prop) (symm : ∀ k s t, s < N → t < N → R k s t → R k t s) (trans : ∀ k s t u, s < N → t < N → u < N → R k s t → R k t u → R k s u)
  (refl : ∀ k s, s < N → R k s s) (mono : ∀ k s t, s < N → t < N → R (k + 1) s t → R k s t) (stat : ∀ k, (∀ s t, s < N → t < N → R k s t → R (k + 1) s t) → ∀ s t, s < N → t < N → R (k + 1) s t → R (k + 2) s t) :
  ∀ s t, s < N → t < N → R (N - 1) s t → ∀ j, R j s t := by
 classical
 have step : ∀ k, (¬ ∀ s t, s < N → t < N → R k s t → R (k + 1) s t) → z5H N (R k) < z5H N (R (k + 1)) := by
  intro k hk
  simp only [Classical.not_forall] at hk
  have ⟨s, t, hs, ht, h1, h2⟩ := hk
  unfold z5H
  refine WZ (fun x hx => ?_) ?_
  ·have hx := List.mem_range.1 hx
   simp only [decide_eq_true_eq]
   exact fun h t ht q => h t ht (mono k x t hx (by omega) q)
  ·
   have hmin : ∃ z, z < N ∧ R k z s ∧ ∀ y, y < z → ¬ R k y s := by
    have key : ∀ n, ∀ z, z ≤ n → z < N → R k z s → ∃ z, z < N ∧ R k z s ∧ ∀ y, y < z → ¬ R k y s := by
     intro n
     induction n with
     | zero => intro z hz hzN hr; exact ⟨z, hzN, hr, fun y hy => by omega⟩
     | succ n ih =>
      intro z hz hzN hr
      by_cases q : ∃ y, y < z ∧ R k y s
      ·have ⟨y, y1, y2⟩ := q
       exact ih y (by omega) (by omega) y2
      ·exact ⟨z, hzN, hr, fun y hy g => q ⟨y, hy, g⟩⟩
    exact key s s (Nat.le_refl _) hs (refl k s hs)
   have ⟨z, hz, hzs, hzm⟩ := hmin
   have hzt : R k z t := trans k z s t hz hs ht hzs h1
   obtain ⟨u, hu, hzu, hne⟩ : ∃ u, u < N ∧ R k z u ∧ ¬ R (k + 1) z u := by
    by_cases q : R (k + 1) z s
    ·by_cases g : R (k + 1) z t
     ·exact (h2 (trans (k + 1) s z t hs hz ht (symm _ _ _ hz hs q) g)).elim
     ·exact ⟨t, ht, hzt, g⟩
    ·exact ⟨s, hs, hzs, q⟩
   have hmin : ∃ y, y < N ∧ R (k + 1) y u ∧ ∀ x, x < y → ¬ R (k + 1) x u := by
    have key : ∀ n, ∀ z, z ≤ n → z < N → R (k + 1) z u → ∃ z, z < N ∧ R (k + 1) z u ∧ ∀ y, y < z → ¬ R (k + 1) y u := by
     intro n
     induction n with
     | zero => intro z hz hzN hr; exact ⟨z, hzN, hr, fun y hy => by omega⟩
     | succ n ih =>
      intro z hz hzN hr
      by_cases q : ∃ y, y < z ∧ R (k + 1) y u
      ·have ⟨y, y1, y2⟩ := q
       exact ih y (by omega) (by omega) y2
      ·exact ⟨z, hzN, hr, fun y hy g => q ⟨y, hy, g⟩⟩
    exact key u u (Nat.le_refl _) hu (refl _ u hu)
   have ⟨y, hy, hyu, hym⟩ := hmin
   have hyk : R k y u := mono k y u hy hu hyu
   have hyz : R k y z := trans k y u z hy hu hz hyk (symm _ _ _ hz hu hzu)
   have hzy : z < y := by
    rcases Nat.lt_trichotomy z y with g | g | g
    ·exact g
    ·subst g; exact (hne hyu).elim
    ·exact (hzm y g (trans k y z s hy hz hs hyz hzs)).elim
   refine ⟨y, List.mem_range.2 hy, ?_, ?_⟩
   ·simp only [decide_eq_true_eq]
    intro x hx q
    exact hym x hx (trans (k + 1) x y u (by omega) hy hu (symm _ _ _ hy (by omega) q) hyu)
   ·simp only [decide_eq_false_iff_not]
    intro q
    exact q z hzy hyz
 have le : ∀ k, z5H N (R k) ≤ N := by
  intro k
  unfold z5H
  refine Nat.le_trans (List.countP_le_length) ?_
  simp
 have one : ∀ k, 1 ≤ z5H N (R k) := by
  intro k
  unfold z5H
  refine List.countP_pos_iff.2 ⟨0, List.mem_range.2 hN, ?_⟩
  simp
 have rest : ∃ k, k < N ∧ ∀ s t, s < N → t < N → R k s t → R (k + 1) s t := by
  refine Classical.byContradiction fun hno => ?_
  have : ∀ k, k ≤ N → k + 1 ≤ z5H N (R k) := by
   intro k
   induction k with
   | zero => intro _; exact one 0
   | succ k ih =>
    intro hk
    have := step k fun h => hno ⟨k, by omega, h⟩
    have := ih (by omega)
    omega
  have := this N (Nat.le_refl _)
  have := le N
  omega
 have ⟨k, hk, hst⟩ := rest
 have up : ∀ d, ∀ s t, s < N → t < N → R (k + d) s t → R (k + d + 1) s t := by
  intro d
  induction d with
  | zero => exact hst
  | succ d ih => exact stat (k + d) ih
 have down : ∀ d j s t, s < N → t < N → R (j + d) s t → R j s t := by
  intro d
  induction d with
  | zero => intro j s t _ _ h; exact h
  | succ d ih => intro j s t hs ht h; exact ih j s t hs ht (mono _ s t hs ht h)
 intro s t hs ht h j
 have hk' : R k s t := down (N - 1 - k) k s t hs ht (by rw [show k + (N - 1 - k) = N - 1 by omega]; exact h)
 have far : ∀ d, R (k + d) s t := by
  intro d
  induction d with
  | zero => exact hk'
  | succ d ih => exact up d s t hs ht ih
 exact down k j s t hs ht (by rw [Nat.add_comm]; exact far j)
section
variable {S S' : Type} {k : Nat} {bad : S → Nat → Bool} {nx : S → Nat → Option S} {bad' : S' → Nat → Bool} {nx' : S' → Nat → Option S'} (φ : S → S') (I : S → Prop)
 (hI : ∀ p i q, I p → i < k → nx p i = some q → I q) (hb : ∀ p i, I p → i < k → bad' (φ p) i = bad p i) (hn : ∀ p i, I p → i < k → nx' (φ p) i = (nx p i).map φ)
include hI hb hn
end
def XV (m : z6) (x : zj) : Bool := (x.To == -1 && x.Out == -1) || (decide (0 ≤ x.To) && decide (x.To < (m.Rows.length : Int)) && decide (0 ≤ x.Out) && decide (x.Out < m.Outputs))
def Vm (m : z6) (r : List zj) : Bool := decide ((r.length : Int) = m.Inputs) && r.all (XV m)
def chk (m : z6) : Int :=
 if m.Inputs > 16 ∨ m.Outputs > 16 ∨ (m.Rows.length : Int) > 64 then 3 else if m.Inputs < 1 ∨ m.Outputs < 1 ∨ m.Rows.length = 0 then 1 else if m.Rows.all (Vm m) = true then 0 else 1
theorem z7U (m : z6) (x : zj) : uE m x = some (XV m x) := by
 unfold uE vq
 simp [Option.bind_some, Bool.and_true]
 rcases Bool.eq_false_or_eq_true (x.To == (-1) && x.Out == (-1)) with h | h
 ·simp [XV, h]
 ·rw [h]
  simp [XV, h, Bool.false_or, cond_false]
  by_cases h1 : (0 : Int) ≤ x.To
  ·by_cases h2 : x.To < (m.Rows.length : Int)
   ·by_cases h3 : (0 : Int) ≤ x.Out
    ·simp [Bool.cond_eq_ite, h1, h2, h3]
    ·simp [Bool.cond_eq_ite, h1, h2, h3]
   ·simp [Bool.cond_eq_ite, h1, h2]
  ·simp [h1]
theorem KL (m : z6) (r : List zj) (hl : r.length < 4611686018427387904) : zO r m = some (!r.all (XV m)) := by
 have hloop : loop (fun s => zM r m s) 0 = some (oS (zF (fun i x => if XV m x = true then none else some (i : Int)) r 0)) := by
  refine y8 r hl _ ?_ ?_
  ·intro i x hx
   have hi := (List.getElem?_eq_some_iff.1 hx).1
   unfold zM
   have hd : decide ((i : Int) < ((r.length : Nat) : Int)) = true := by simpa using hi
   rw [hd, cond_true, yk, bdT hx]
   unfold ur
   simp [z7U, Option.bind_some]
   cases XV m x <;> rfl
  ·unfold zM
   simp
 unfold zO yd
 rw [hloop]
 simp [Option.bind_some]
 cases hf : zF (fun i x => if XV m x = true then none else some (i : Int)) r 0 with
 | some q =>
  have ⟨i, x, h1, h2⟩ := ym hf
  have hx : XV m x ≠ true := by
   intro h; rw [if_pos h] at h2; cases h2
  rw [if_neg hx] at h2
  simp [Option.some.injEq] at h2
  have : r.all (XV m) = false := by
   rw [List.all_eq_false]
   exact ⟨x, List.mem_of_getElem? h1, hx⟩
  rw [this]
  have : (q : Int) ≥ 0 := by rw [← h2]; omega
  show some (decide (q ≥ 0)) = _
  simp [this]
 | none =>
  have : r.all (XV m) = true := by
   rw [List.all_eq_true]
   intro x hx
   have ⟨i, hi⟩ := List.getElem?_of_mem hx
   have := yw hf i x hi
   by_cases h : XV m x = true
   ·exact h
   ·rw [if_neg h] at this; cases this
  rw [this]
  rfl
variable {m : z6}
theorem z1s (h0 : (m.Rows.length : Int) ≤ 64) (h1 : m.Inputs ≤ 16) : loop (fun s => wg m s) 0 = some (oS (zF (fun _ r => if Vm m r = true then none else some (1 : Int)) m.Rows 0)) := by
 refine y8 m.Rows (by omega) _ ?_ ?_
 ·intro i r hr
  have hi := (List.getElem?_eq_some_iff.1 hr).1
  unfold wg
  have hd : decide ((i : Int) < ((m.Rows.length : Nat) : Int)) = true := by simpa using hi
  rw [hd, cond_true, yk, bdT hr]
  by_cases hlen : (r.length : Int) = m.Inputs
  ·have hne : (((r.length : Nat) : Int) != m.Inputs) = false := by simpa using hlen
   rw [hne, cond_false, bdT (KL m r (by omega))]
   have : Vm m r = r.all (XV m) := by simp [Vm, hlen]
   rw [this]
   cases r.all (XV m) <;> rfl
  ·have hne : (((r.length : Nat) : Int) != m.Inputs) = true := by simpa using hlen
   rw [hne, cond_true]
   have : Vm m r = false := by simp [Vm, hlen]
   rw [this]; rfl
 ·unfold wg
  simp
theorem VE (m : z6) : zF (fun _ r => if Vm m r = true then none else some (1 : Int)) m.Rows 0 = if m.Rows.all (Vm m) = true then none else some 1 := by
 by_cases h : m.Rows.all (Vm m) = true
 ·rw [if_pos h]
  refine qA fun i r hr => ?_
  rw [if_pos (List.all_eq_true.1 h r (List.mem_of_getElem? hr))]
 ·rw [if_neg h]
  cases hf : zF (fun _ r => if Vm m r = true then none else some (1 : Int)) m.Rows 0 with
  | some q =>
   have ⟨i, x, h1, h2⟩ := ym hf
   split at h2
   ·cases h2
   ·exact h2.symm ▸ rfl
  | none =>
   exfalso
   apply h
   rw [List.all_eq_true]
   intro x hx
   have ⟨i, hi⟩ := List.getElem?_of_mem hx
   have := yw hf i x hi
   by_cases h : Vm m x = true
   ·exact h
   ·rw [if_neg h] at this; cases this
theorem Zq (m : z6) : yO m = some (chk m) := by
 unfold yO chk
 by_cases h1 : m.Inputs > 16
 ·simp [h1]
 by_cases h2 : m.Outputs > 16
 ·simp [Bool.cond_eq_ite, h1, h2]
 by_cases h3 : (m.Rows.length : Int) > 64
 ·simp [Bool.cond_eq_ite, h1, h2, h3]
 rw [if_neg (by simp [h1, h2, h3])]
 by_cases h4 : m.Inputs < 1
 ·simp [Bool.cond_eq_ite, h1, h2, h3, h4]
 by_cases h5 : m.Outputs < 1
 ·simp [Bool.cond_eq_ite, h1, h2, h3, h4, h5]
 by_cases h6 : m.Rows.length = 0
 ·simp [Bool.cond_eq_ite, h1, h2, h4, h5, h6]
 rw [if_neg (by simp [h4, h5, h6])]
 have h6' : decide (((m.Rows.length : Nat) : Int) < 1) = false := by simp; omega
 have e1 : decide (m.Inputs > 16) = false := by simpa using h1
 have e2 : decide (m.Outputs > 16) = false := by simpa using h2
 have e3 : decide (((m.Rows.length : Nat) : Int) > 64) = false := by simpa using h3
 have e4 : decide (m.Inputs < 1) = false := by simpa using h4
 have e5 : decide (m.Outputs < 1) = false := by simpa using h5
 simp only [e1, e2, e3, e4, e5, h6', cond_false]
 rw [bdT (z1s (by omega) (by omega)), VE]
 by_cases h : m.Rows.all (Vm m) = true
 ·rw [if_pos h, if_pos h]; rfl
 ·rw [if_neg h, if_neg h]; rfl
theorem z2b {s : Nat} {r : List zj} (hr : m.Rows[s]? = some r) (hlen : (r.length : Int) = m.Inputs) (h1 : m.Inputs ≤ 16) : loop (fun q => wu m (s : Int) q) 0 = some (if r.all (XV m) = true then .inl () else .inr 1) := by
 have hl : loop (fun q => wu m (s : Int) q) 0 = some (oS (zF (fun _ x => if XV m x = true then none else some (1 : Int)) r 0)) := by
  refine y8 r (by omega) _ ?_ ?_
  ·intro i x hx
   have hi := (List.getElem?_eq_some_iff.1 hx).1
   unfold wu
   have hd : decide ((i : Int) < m.Inputs) = true := by rw [← hlen]; simpa using hi
   rw [hd, cond_true, yk, bdT hr, yk, bdT hx]
   unfold vY vZ XV
   by_cases a1 : x.To = -1
   ·by_cases a2 : x.Out = -1
    ·simp [nS, Bool.cond_eq_ite, a1, a2]
    ·simp [nS, Bool.cond_eq_ite, a1, a2]
   ·by_cases a2 : x.To < 0
    ·have : ¬ 0 ≤ x.To := by omega
     simp [nS, Bool.cond_eq_ite, a1, a2, this]
    ·by_cases a3 : (m.Rows.length : Int) ≤ x.To
     ·have : ¬ x.To < (m.Rows.length : Int) := by omega
      simp [nS, Bool.cond_eq_ite, a1, a2, a3, this]
     ·by_cases a4 : x.Out < 0
      ·have : ¬ 0 ≤ x.Out := by omega
       simp [nS, Bool.cond_eq_ite, a1, a2, a3, a4, this]
      ·by_cases a5 : m.Outputs ≤ x.Out
       ·have : ¬ x.Out < m.Outputs := by omega
        simp [nS, Bool.cond_eq_ite, a1, a2, a3, a4, a5, this]
       ·have b1 : 0 ≤ x.To := by omega
        have b2 : x.To < (m.Rows.length : Int) := by omega
        have b3 : 0 ≤ x.Out := by omega
        have b4 : x.Out < m.Outputs := by omega
        simp [nS, Bool.cond_eq_ite, a2, a3, a4, a5, b1, b2, b3, b4]
  ·unfold wu
   simp [hlen]
 rw [hl]
 by_cases h : r.all (XV m) = true
 ·rw [if_pos h]
  rw [qA fun i x hx => by rw [if_pos (List.all_eq_true.1 h x (List.mem_of_getElem? hx))]]
  rfl
 ·rw [if_neg h]
  cases hf : zF (fun _ x => if XV m x = true then none else some (1 : Int)) r 0 with
  | some q =>
   have ⟨i, x, h1, h2⟩ := ym hf
   split at h2
   ·cases h2
   ·simp [Option.some.injEq] at h2; rw [← h2]; rfl
  | none =>
   exfalso
   apply h
   rw [List.all_eq_true]
   intro x hx
   have ⟨i, hi⟩ := List.getElem?_of_mem hx
   have := yw hf i x hi
   by_cases h : XV m x = true
   ·exact h
   ·rw [if_neg h] at this; cases this
theorem Yt (m : z6) : vC m = some (chk m) := by
 unfold vC chk
 by_cases h1 : m.Inputs > 16
 ·simp [h1]
 by_cases h2 : m.Outputs > 16
 ·simp [Bool.cond_eq_ite, h1, h2]
 by_cases h3 : (m.Rows.length : Int) > 64
 ·simp [Bool.cond_eq_ite, h1, h2, h3]
 rw [if_neg (by simp [h1, h2, h3])]
 by_cases h4 : m.Inputs < 1
 ·simp [Bool.cond_eq_ite, h1, h2, h3, h4]
 by_cases h5 : m.Outputs < 1
 ·simp [Bool.cond_eq_ite, h1, h2, h3, h4, h5]
 by_cases h6 : m.Rows.length = 0
 ·simp [Bool.cond_eq_ite, h1, h2, h4, h5, h6]
 rw [if_neg (by simp [h4, h5, h6])]
 have e1 : decide (m.Inputs > 16) = false := by simpa using h1
 have e2 : decide (m.Outputs > 16) = false := by simpa using h2
 have e3 : decide (((m.Rows.length : Nat) : Int) > 64) = false := by simpa using h3
 have e4 : decide (m.Inputs < 1) = false := by simpa using h4
 have e5 : decide (m.Outputs < 1) = false := by simpa using h5
 have e6 : (((m.Rows.length : Nat) : Int) == 0) = false := by simp; intro h; rw [h] at h6; exact h6 rfl
 simp only [e1, e2, e3, e4, e5, e6, cond_false]
 have hl : loop (fun s => vX m s) 0 = some (oS (zF (fun _ r => if Vm m r = true then none else some (1 : Int)) m.Rows 0)) := by
  refine y8 m.Rows (by omega) _ ?_ ?_
  ·intro i r hr
   have hi := (List.getElem?_eq_some_iff.1 hr).1
   unfold vX
   have hd : decide ((i : Int) < ((m.Rows.length : Nat) : Int)) = true := by simpa using hi
   rw [hd, cond_true, yk, bdT hr]
   by_cases hlen : (r.length : Int) = m.Inputs
   ·have hne : (((r.length : Nat) : Int) != m.Inputs) = false := by simpa using hlen
    rw [hne, cond_false, bdT (z2b hr hlen (by omega))]
    have : Vm m r = r.all (XV m) := by simp [Vm, hlen]
    rw [this]
    cases r.all (XV m) <;> rfl
   ·have hne : (((r.length : Nat) : Int) != m.Inputs) = true := by simpa using hlen
    rw [hne, cond_true]
    have : Vm m r = false := by simp [Vm, hlen]
    rw [this]; rfl
  ·unfold vX
   simp
 rw [bdT hl, VE]
 by_cases h : m.Rows.all (Vm m) = true
 ·rw [if_pos h, if_pos h]; rfl
 ·rw [if_neg h, if_neg h]; rfl
structure VM (m : z6) : Prop where
 in1 : 1 ≤ m.Inputs
 in16 : m.Inputs ≤ 16
 out1 : 1 ≤ m.Outputs
 out16 : m.Outputs ≤ 16
 len1 : 1 ≤ m.Rows.length
 len64 : m.Rows.length ≤ 64
 row : ∀ r ∈ m.Rows, (r.length : Int) = m.Inputs
 edge : ∀ r ∈ m.Rows, ∀ x ∈ r, (x.To = -1 ∧ x.Out = -1) ∨ (0 ≤ x.To ∧ x.To < (m.Rows.length : Int) ∧ 0 ≤ x.Out ∧ x.Out < m.Outputs)
theorem z1F (h : chk m = 0) : VM m := by
 unfold chk at h
 split at h
 ·cases h
 split at h
 ·cases h
 split at h
 ·rename_i h1 h2 h3
  rw [List.all_eq_true] at h3
  refine ⟨by omega, by omega, by omega, by omega, by omega, by omega, fun r hr => ?_, fun r hr x hx => ?_⟩
  ·have := h3 r hr
   simp [Vm, Bool.and_eq_true, decide_eq_true_eq] at this
   exact this.1
  ·have := h3 r hr
   simp [Vm, Bool.and_eq_true, decide_eq_true_eq, List.all_eq_true] at this
   have := this.2 x hx
   simp [XV, Bool.or_eq_true, Bool.and_eq_true, beq_iff_eq, decide_eq_true_eq] at this
   rcases this with ⟨a, b⟩ | ⟨⟨⟨a, b⟩, c⟩, d⟩
   ·exact .inl ⟨a, b⟩
   ·exact .inr ⟨a, b, c, d⟩
 ·cases h
theorem VX (h : VM m) : chk m = 0 := by
 unfold chk
 have := h.in1; have := h.in16; have := h.out1; have := h.out16; have := h.len1; have := h.len64
 rw [if_neg (by omega), if_neg (by omega), if_pos]
 rw [List.all_eq_true]
 intro r hr
 simp [Vm, Bool.and_eq_true, decide_eq_true_eq, List.all_eq_true]
 refine ⟨h.row r hr, fun x hx => ?_⟩
 simp [XV, Bool.or_eq_true, Bool.and_eq_true, beq_iff_eq, decide_eq_true_eq]
 rcases h.edge r hr x hx with ⟨a, b⟩ | ⟨a, b, c, d⟩
 ·exact .inl ⟨a, b⟩
 ·exact .inr ⟨⟨⟨a, b⟩, c⟩, d⟩
def kk (m : z6) : Nat := m.Inputs.toNat
def E (m : z6) (s i : Nat) : zj := ((m.Rows[s]?.getD [])[i]?).getD ⟨-1, -1⟩
variable {s i : Nat}{β : Type}
section
variable {m : z6} (h : VM m)
include h
theorem VM.kk_eq : ((kk m : Nat) : Int) = m.Inputs := by have := h.in1; unfold kk; omega
theorem VM.kk_pos : 1 ≤ kk m := by have := h.in1; unfold kk; omega
theorem VM.kk_le : kk m ≤ 16 := by have := h.in16; unfold kk; omega
theorem VM.rowAt {s : Nat} (hs : s < m.Rows.length) : ∃ r, m.Rows[s]? = some r ∧ r.length = kk m ∧ ∀ i, i < kk m → r[i]? = some (E m s i) := by
 have hr := List.getElem?_eq_getElem hs
 have hl := h.row _ (List.getElem_mem hs)
 have hl' : m.Rows[s].length = kk m := by unfold kk; omega
 refine ⟨_, hr, hl', fun i hi => ?_⟩
 have hi' : i < m.Rows[s].length := by omega
 unfold E
 rw [hr]
 simp [Option.getD_some]
 rw [List.getElem?_eq_getElem hi']
 rfl
theorem VM.edgeAt (hs : s < m.Rows.length) (hi : i < kk m) : ((E m s i).To = -1 ∧ (E m s i).Out = -1) ∨ (0 ≤ (E m s i).To ∧ (E m s i).To < (m.Rows.length : Int) ∧ 0 ≤ (E m s i).Out ∧ (E m s i).Out < m.Outputs) := by
 have ⟨r, h1, _, h2⟩ := h.rowAt hs
 exact h.edge r (List.mem_of_getElem? h1) _ (List.mem_of_getElem? (h2 i hi))
theorem VM.ret_edge (hs : s < m.Rows.length) (hi : i < kk m)  {f : zj → Option β} {Q : β → Prop} (q : Ret (f (E m s i)) Q) :
  Ret (Option.bind (idx m.Rows (s : Int)) fun r => Option.bind (idx r (i : Int)) f) Q := by
 have ⟨r, h1, _, h2⟩ := h.rowAt hs
 rw [yk, h1, Option.bind_some, yk, h2 i hi, Option.bind_some]
 exact q
theorem VM.edge_eq (hs : s < m.Rows.length) (hi : i < kk m)  {f : zj → Option β} :
  (Option.bind (idx m.Rows (s : Int)) fun r => Option.bind (idx r (i : Int)) f) = f (E m s i) := by
 have ⟨r, h1, _, h2⟩ := h.rowAt hs
 rw [yk, h1, Option.bind_some, yk, h2 i hi, Option.bind_some]
end
section
variable {K V : Type} [BEq K] [LawfulBEq K]
theorem XO (l : List (K × V)) (x y : K) (v : V) : Xq (z1e l x v) y = if (x == y) = true then some v else Xq l y := by
 induction l with
 | nil => simp [z1e, Xq]
 | cons p l ih =>
  simp [z1e]
  by_cases h : p.1 = x
  ·rw [if_pos (by simpa using h)]
   simp [Xq]
   by_cases q : x = y
   ·rw [if_pos (by simpa using q), if_pos (by simpa using q)]
   ·rw [if_neg (by simpa using q), if_neg (by simpa using q), if_neg (by rw [h]; simpa using q)]
  ·rw [if_neg (by simpa using h)]
   simp [Xq, ih]
   by_cases q : p.1 = y
   ·have q' : ¬ x = y := by rintro rfl; exact h q
    have e1 : (p.1 == y) = true := by simpa using q
    have e2 : (x == y) = false := by simpa using q'
    simp [e1, e2]
   ·have e1 : (p.1 == y) = false := by simpa using q
    simp [e1]
end
theorem Y0 : ∀ (n : Nat) (l : List Nat), l.Nodup → (∀ x ∈ l, x < n) → l.length ≤ n
 | 0, l, _, h => by
  cases l with
  | nil => simp
  | cons x l => have := h x (by simp); omega
 | n + 1, l, hd, h => by
  by_cases hm : n ∈ l
  ·have h1 := List.length_erase_of_mem hm
   have h2 := Y0 n (l.erase n) (hd.erase n) fun x hx => by
    have h3 := (hd.mem_erase_iff).1 hx
    have := h x h3.2
    have := h3.1
    omega
   have : 0 < l.length := List.length_pos_of_mem hm
   omega
  ·have := Y0 n l hd fun x hx => by
    have := h x hx
    have : x ≠ n := fun e => hm (e ▸ hx)
    omega
   omega
def YK (a b : z6) (p : Nat × Nat) (i : Nat) : Bool := (E a p.1 i).Out != (E b p.2 i).Out
def nxP (a b : z6) (p : Nat × Nat) (i : Nat) : Option (Nat × Nat) := if 0 ≤ (E a p.1 i).To ∧ 0 ≤ (E b p.2 i).To then some ((E a p.1 i).To.toNat, (E b p.2 i).To.toNat) else none
structure WM (m : z6) : Prop where
 in1 : 1 ≤ m.Inputs
 in16 : m.Inputs ≤ 16
 len1 : 1 ≤ m.Rows.length
 len : m.Rows.length ≤ 128
 row : ∀ r ∈ m.Rows, (r.length : Int) = m.Inputs
 edge : ∀ r ∈ m.Rows, ∀ x ∈ r, (x.To = -1 ∧ x.Out = -1) ∨ (0 ≤ x.To ∧ x.To < (m.Rows.length : Int) ∧ 0 ≤ x.Out)
theorem VM.wm (h : VM m) : WM m := ⟨h.in1, h.in16, h.len1, by have := h.len64; omega, h.row, fun r hr x hx => by
 rcases h.edge r hr x hx with g | ⟨g1, g2, g3, _⟩
 ·exact .inl g
 ·exact .inr ⟨g1, g2, g3⟩⟩
section
variable {m : z6} (h : WM m)
include h
theorem WM.kk_eq : ((kk m : Nat) : Int) = m.Inputs := by have := h.in1; unfold kk; omega
theorem WM.kk_le : kk m ≤ 16 := by have := h.in16; unfold kk; omega
theorem WM.rowAt {s : Nat} (hs : s < m.Rows.length) : ∃ r, m.Rows[s]? = some r ∧ r.length = kk m ∧ ∀ i, i < kk m → r[i]? = some (E m s i) := by
 have hr := List.getElem?_eq_getElem hs
 have hl := h.row _ (List.getElem_mem hs)
 have hl' : m.Rows[s].length = kk m := by unfold kk; omega
 refine ⟨_, hr, hl', fun i hi => ?_⟩
 have hi' : i < m.Rows[s].length := by omega
 unfold E
 rw [hr]
 simp [Option.getD_some]
 rw [List.getElem?_eq_getElem hi']
 rfl
theorem WM.edgeAt (hs : s < m.Rows.length) (hi : i < kk m) : ((E m s i).To = -1 ∧ (E m s i).Out = -1) ∨ (0 ≤ (E m s i).To ∧ (E m s i).To < (m.Rows.length : Int) ∧ 0 ≤ (E m s i).Out) := by
 have ⟨r, h1, _, h2⟩ := h.rowAt hs
 exact h.edge r (List.mem_of_getElem? h1) _ (List.mem_of_getElem? (h2 i hi))
theorem WM.edge_eq (hs : s < m.Rows.length) (hi : i < kk m)  {f : zj → Option β} :
  (Option.bind (idx m.Rows (s : Int)) fun r => Option.bind (idx r (i : Int)) f) = f (E m s i) := by
 have ⟨r, h1, _, h2⟩ := h.rowAt hs
 rw [yk, h1, Option.bind_some, yk, h2 i hi, Option.bind_some]
theorem WM.nx_in {p : Nat × Nat} {i : Nat} {q : Nat × Nat} (h1 : p.1 < m.Rows.length) (h2 : p.2 < m.Rows.length) (hi : i < kk m) (hq : nxP m m p i = some q) : q.1 < m.Rows.length ∧ q.2 < m.Rows.length := by
 unfold nxP at hq
 split at hq
 ·rename_i hc
  cases hq
  have a := h.edgeAt h1 hi
  have b := h.edgeAt h2 hi
  simp only
  omega
 ·cases hq
end
def mkb (k : Nat) (bad : Nat × Nat → Nat → Bool) (nx : Nat × Nat → Nat → Option (Nat × Nat)) : Nat → Nat × Nat → Bool
 | 0, _ => false
 | n + 1, p => mkb k bad nx n p || (List.range k).any fun i => bad p i || (match nx p i with | some q => mkb k bad nx n q | none => false)
theorem Q1 (k : Nat) (bad : Nat × Nat → Nat → Bool) (nx : Nat × Nat → Nat → Option (Nat × Nat)) : ∀ (n : Nat) (p : Nat × Nat), mkb k bad nx n p = true ↔ Mk k bad nx n p
 | 0, p => by simp [mkb, Mk]
 | n + 1, p => by
  simp only [mkb, Mk, Bool.or_eq_true, List.any_eq_true, List.mem_range, Q1 k bad nx n p]
  constructor
  ·rintro (h | ⟨i, hi, h | h⟩)
   ·exact .inl h
   ·exact .inr ⟨i, hi, .inl h⟩
   ·cases hq : nx p i with
    | none => rw [hq] at h; cases h
    | some q => rw [hq] at h; exact .inr ⟨i, hi, .inr ⟨q, hq, (Q1 k bad nx n q).1 h⟩⟩
  ·rintro (h | ⟨i, hi, h | ⟨q, hq, h⟩⟩)
   ·exact .inl h
   ·exact .inr ⟨i, hi, .inl h⟩
   ·exact .inr ⟨i, hi, .inr (by rw [hq]; exact (Q1 k bad nx n q).2 h)⟩
def tab (N : Nat) (f : Nat → Nat → Bool) : List (List Bool) := (List.range N).map fun s => (List.range N).map fun t => f s t
theorem z1L {N s t : Nat} (f : Nat → Nat → Bool) (hs : s < N) (ht : t < N)  {g : Bool → Option β} : (Option.bind (idx (tab N f) (s : Int)) fun r => Option.bind (idx r (t : Int)) g) = g (f s t) := by
 have e1 : (tab N f)[s]? = some ((List.range N).map fun t => f s t) := by simp [tab, hs]
 have e2 : ((List.range N).map fun t => f s t)[t]? = some (f s t) := by simp [ht]
 rw [yk, e1, Option.bind_some, yk, e2, Option.bind_some]
theorem z1U (N t : Nat) (g : Nat → α) (v : α) : ((List.range N).map g).set t v = (List.range N).map fun x => if x = t then v else g x := by
 refine List.ext_getElem (by simp) fun n h1 h2 => ?_
 simp [List.getElem_set, List.getElem_map, List.getElem_range]
 by_cases e : t = n
 ·rw [if_pos e, if_pos e.symm]
 ·rw [if_neg e, if_neg (Ne.symm e)]
def K9 (m : z6) (f : Nat → Nat → Bool) (p : Nat × Nat) (i : Nat) : Bool := YK m m p i || (match nxP m m p i with | some q => f q.1 q.2 | none => false)
theorem z5n (h : WM m) (f : Nat → Nat → Bool) {s t : Nat} (hs : s < m.Rows.length) (ht : t < m.Rows.length) :
  jG m (tab m.Rows.length f) (s : Int) (t : Int) = some (if (List.range (kk m)).any (K9 m f (s, t)) = true then 1 else 0) := by
 have hk := h.kk_eq
 have k16 := h.kk_le
 have hl : loop (fun q => vV m (tab m.Rows.length f) (s : Int) (t : Int) q) 0 = some (oS (zF (fun _ i => if K9 m f (s, t) i = true then some (1 : Int) else none) (List.range (kk m)) 0)) := by
  refine y8 (List.range (kk m)) (by simp; omega) _ ?_ ?_
  ·intro i x hx
   have hi : i < kk m := by have := (List.getElem?_eq_some_iff.1 hx).1; simpa using this
   have : x = i := by rw [List.getElem?_range hi] at hx; exact (Option.some.inj hx).symm
   subst this
   unfold vV wt
   have hd : decide ((x : Int) < m.Inputs) = true := by rw [← hk]; simpa using hi
   rw [hd, cond_true, h.edge_eq hs hi, h.edge_eq ht hi]
   have e1 := h.edgeAt hs hi
   have e2 := h.edgeAt ht hi
   by_cases hbad : (E m s x).Out = (E m t x).Out
   ·have n1 : ((E m s x).Out != (E m t x).Out) = false := by simpa using hbad
    rw [n1, cond_false]
    by_cases t1 : (E m s x).To ≥ 0
    ·by_cases t2 : (E m t x).To ≥ 0
     ·have hnx : nxP m m (s, t) x = some ((E m s x).To.toNat, (E m t x).To.toNat) := by unfold nxP; rw [if_pos ⟨t1, t2⟩]
      have hin := h.nx_in hs ht hi hnx
      have c1 : (E m s x).To = (((E m s x).To.toNat : Nat) : Int) := by omega
      have c2 : (E m t x).To = (((E m t x).To.toNat : Nat) : Int) := by omega
      have ht1 : K9 m f (s, t) x = f (E m s x).To.toNat (E m t x).To.toNat := by
       unfold K9 YK
       rw [hnx]
       simp [n1, Bool.false_or]
      rw [decide_eq_true t1, decide_eq_true t2]
      simp [cond_true]
      have := z1L f hin.1 hin.2 (g := fun v => bif v then some (LR.done (Sum.inr (1 : Int)) : LR Int (Unit ⊕ Int)) else some (LR.next (w64 ((x : Int) + 1))))
      rw [← c1, ← c2] at this
      rw [this, ht1]
      cases f (E m s x).To.toNat (E m t x).To.toNat <;> rfl
     ·have ht1 : K9 m f (s, t) x = false := by
       unfold K9 YK nxP
       rw [if_neg (by simp only; omega)]
       simp [n1, Bool.false_or]
      rw [decide_eq_true t1, decide_eq_false t2, ht1]
      rfl
    ·have ht1 : K9 m f (s, t) x = false := by
      unfold K9 YK nxP
      rw [if_neg (by simp only; omega)]
      simp [n1, Bool.false_or]
     rw [decide_eq_false t1, ht1]
     rfl
   ·have n1 : ((E m s x).Out != (E m t x).Out) = true := by simpa using hbad
    have ht1 : K9 m f (s, t) x = true := by
     unfold K9 YK
     simp [n1, Bool.true_or]
    rw [n1, ht1]
    rfl
  ·unfold vV
   rw [List.length_range, hk]
   simp
 unfold jG
 rw [bdT hl]
 cases hf : zF (fun (_ : Nat) i => if K9 m f (s, t) i = true then some (1 : Int) else none) (List.range (kk m)) 0 with
 | some q =>
  have ⟨i, x, h1, h2⟩ := ym hf
  split at h2
  ·rename_i hx
   cases h2
   have : (List.range (kk m)).any (K9 m f (s, t)) = true := List.any_eq_true.2 ⟨x, List.mem_of_getElem? h1, hx⟩
   rw [if_pos this]
   rfl
  ·cases h2
 | none =>
  have : ¬ (List.range (kk m)).any (K9 m f (s, t)) = true := by
   rw [List.any_eq_true]
   rintro ⟨x, hx, hx2⟩
   have ⟨i, hi⟩ := List.getElem?_of_mem hx
   have := yw hf i x hi
   rw [if_pos hx2] at this
   cases this
  rw [if_neg this]
  rfl
theorem z29 (N : Nat) : List.replicate ((N : Nat) : Int).toNat false = (List.range N).map fun _ => false := by
 refine List.ext_getElem (by simp) fun n h1 h2 => ?_
 simp
def qJ (m : z6) (f : Nat → Nat → Bool) (s t : Nat) : Bool := f s t || (List.range (kk m)).any (K9 m f (s, t))
theorem z4e (h : WM m) (f : Nat → Nat → Bool) : loop (fun q => w8 m (tab m.Rows.length f) q.1 q.2) (([] : List (List Bool)), 0) = some (tab m.Rows.length (qJ m f)) := by
 have l128 := h.len
 have row : ∀ (s : Nat), s < m.Rows.length → loop (fun q => w7 m (tab m.Rows.length f) (s : Int) q.1 q.2) (((List.range s).map fun s => (List.range m.Rows.length).map fun t => qJ m f s t) ++ [(List.range m.Rows.length).map fun _ => false], 0) = some ((List.range (s + 1)).map fun s => (List.range m.Rows.length).map fun t => qJ m f s t) := by
  intro s hs
  have hst := jM (step := fun q => w7 m (tab m.Rows.length f) (s : Int) q.1 q.2) (fun t : Nat => (((List.range s).map fun s => (List.range m.Rows.length).map fun t => qJ m f s t) ++ [(List.range m.Rows.length).map fun t' => if t' < t then qJ m f s t' else false], (t : Int))) m.Rows.length (t := (List.range (s + 1)).map fun s => (List.range m.Rows.length).map fun t => qJ m f s t) (by omega) ?_ ?_
  ·simpa using hst
  ·intro t ht
   unfold w7
   have hd : decide ((t : Int) < ((m.Rows.length : Nat) : Int)) = true := by simpa using ht
   have hw : w64 ((t : Int) + 1) = ((t + 1 : Nat) : Int) := by rw [yf (by omega) (by omega)]; rfl
   simp only [hd, cond_true]
   have e1 : (((List.range s).map fun s => (List.range m.Rows.length).map fun t => qJ m f s t) ++ [(List.range m.Rows.length).map fun t' => if t' < t then qJ m f s t' else false])[s]? = some ((List.range m.Rows.length).map fun t' => if t' < t then qJ m f s t' else false) := by
    rw [List.getElem?_append_right (by simp)]
    simp
   have e2 : ∀ x, ((List.range m.Rows.length).map fun t' => if t' < t then qJ m f s t' else false)[t]? = some x ↔ x = false := by
    intro x
    simp [ht, eq_comm]
   have e2' := (e2 false).2 rfl
   have fin : ∀ v : Bool, v = qJ m f s t → (((List.range s).map fun s => (List.range m.Rows.length).map fun t => qJ m f s t) ++ [(List.range m.Rows.length).map fun t' => if t' < t then qJ m f s t' else false]).set s (((List.range m.Rows.length).map fun t' => if t' < t then qJ m f s t' else false).set t v) = ((List.range s).map fun s => (List.range m.Rows.length).map fun t => qJ m f s t) ++ [(List.range m.Rows.length).map fun t' => if t' < t + 1 then qJ m f s t' else false] := by
    intro v hv
    rw [List.set_append, if_neg (by simp), z1U]
    simp only [List.length_map, List.length_range, Nat.sub_self, List.set_cons_zero]
    congr 3
    funext x
    by_cases e : x = t
    ·subst e; rw [if_pos rfl, if_pos (by omega)]; exact hv
    ·rw [if_neg e]
     by_cases g : x < t
     ·rw [if_pos g, if_pos (by omega)]
     ·rw [if_neg g, if_neg (by omega)]
   rw [yk, bdT e1, z1L f hs ht]
   cases hf : f s t with
   | true =>
    simp only [cond_true]
    rw [yk, bdT e2', hw, Int.toNat_natCast, Int.toNat_natCast, fin true (by simp [qJ, hf])]
   | false =>
    simp only [cond_false]
    rw [bdT (z5n h f hs ht), yk, bdT e2', hw, Int.toNat_natCast, Int.toNat_natCast, fin _ ?_]
    unfold qJ
    rw [hf, Bool.false_or]
    cases (List.range (kk m)).any (K9 m f (s, t)) <;> rfl
  ·unfold w7
   simp only [Int.lt_irrefl, decide_false, cond_false]
   congr 3
   rw [List.range_succ, List.map_append]
   congr 1
   simp only [List.map_cons, List.map_nil]
   congr 1
   refine List.map_congr_left fun x hx => ?_
   rw [if_pos (List.mem_range.1 hx)]
 have := jM (step := fun q => w8 m (tab m.Rows.length f) q.1 q.2) (fun s : Nat => ((List.range s).map fun s => (List.range m.Rows.length).map fun t => qJ m f s t, (s : Int))) m.Rows.length (t := tab m.Rows.length (qJ m f)) (by omega) ?_ ?_
 ·exact this
 ·intro s hs
  unfold w8 qm
  have hd : decide ((s : Int) < ((m.Rows.length : Nat) : Int)) = true := by simpa using hs
  have hw : w64 ((s : Int) + 1) = ((s + 1 : Nat) : Int) := by rw [yf (by omega) (by omega)]; rfl
  simp only [hd, cond_true]
  rw [gdT (by omega), gdT (by simp; omega), z29, bdT (row s hs), hw]
 ·unfold w8
  simp only [Int.lt_irrefl, decide_false, cond_false]
  rfl
def mrk (m : z6) (n s t : Nat) : Bool := mkb (kk m) (YK m m) (nxP m m) n (s, t)
theorem z4u (m : z6) (n : Nat) : qJ m (mrk m n) = mrk m (n + 1) := by
 funext s t
 unfold qJ mrk
 simp [mkb]
 congr 1
theorem z2y (h : WM m) (n : Nat) (hn : n ≤ 1000000) : qO m (n : Int) = some (tab m.Rows.length (mrk m n)) := by
 have l128 := h.len
 have l9 : loop (fun q => w6 m q.1 q.2) (([] : List (List Bool)), 0) = some (tab m.Rows.length (mrk m 0)) := by
  have := jM (step := fun q => w6 m q.1 q.2) (fun s : Nat => ((List.range s).map fun _ => (List.range m.Rows.length).map fun _ => false, (s : Int))) m.Rows.length (t := tab m.Rows.length (mrk m 0)) (by omega) ?_ ?_
  ·exact this
  ·intro s hs
   unfold w6
   have hd : decide ((s : Int) < ((m.Rows.length : Nat) : Int)) = true := by simpa using hs
   have hw : w64 ((s : Int) + 1) = ((s + 1 : Nat) : Int) := by rw [yf (by omega) (by omega)]; rfl
   simp only [hd, cond_true]
   rw [gdT (by omega), gdT (by simp; omega), z29, hw, List.range_succ, List.map_append]
   rfl
  ·unfold w6
   simp only [Int.lt_irrefl, decide_false, cond_false]
   rfl
 have l3 := jM (step := fun q => w9 m (n : Int) q.1 q.2) (fun r : Nat => (tab m.Rows.length (mrk m r), (r : Int))) n (t := tab m.Rows.length (mrk m n)) (by omega) ?_ ?_
 ·unfold qO qq qp
  rw [bdT l9]
  have l3' : loop (fun q => w9 m (n : Int) q.1 q.2) (tab m.Rows.length (mrk m 0), 0) = some (tab m.Rows.length (mrk m n)) := l3
  rw [bdT l3']
 ·intro r hr
  unfold w9 qn qo
  have hd : decide ((r : Int) < (n : Int)) = true := by simpa using hr
  have hw : w64 ((r : Int) + 1) = ((r + 1 : Nat) : Int) := by rw [yf (by omega) (by omega)]; rfl
  simp only [hd, cond_true]
  rw [bdT (z4e h (mrk m r)), z4u, hw]
 ·unfold w9
  simp only [Int.lt_irrefl, decide_false, cond_false]
theorem z4v (h : WM m) {s t : Nat} (hs : s < m.Rows.length) (ht : t < m.Rows.length) {j : Nat} (hj : Mk (kk m) (YK m m) (nxP m m) j (s, t)) : Mk (kk m) (YK m m) (nxP m m) (m.Rows.length - 1) (s, t) := by
 refine Classical.byContradiction fun hno => ?_
 have same : ∀ {p : Nat × Nat} {i : Nat}, p.1 < m.Rows.length → p.2 < m.Rows.length → i < kk m → YK m m p i = false → ((E m p.1 i).To ≥ 0 ↔ (E m p.2 i).To ≥ 0) := by
  intro p i h1 h2 hi hb
  have e : (E m p.1 i).Out = (E m p.2 i).Out := by simpa [YK] using hb
  have a := h.edgeAt h1 hi
  have b := h.edgeAt h2 hi
  omega
 have symm : ∀ k s t, Mk (kk m) (YK m m) (nxP m m) k (s, t) → Mk (kk m) (YK m m) (nxP m m) k (t, s) := by
  intro k
  induction k with
  | zero => intro s t h; exact h
  | succ k ih =>
   rintro s t (h | ⟨i, hi, h | ⟨q, hq, h⟩⟩)
   ·exact .inl (ih _ _ h)
   ·exact .inr ⟨i, hi, .inl (by
     unfold YK at h ⊢
     simp [bne_iff_ne, ne_eq] at h ⊢
     exact fun e => h e.symm)⟩
   ·refine .inr ⟨i, hi, .inr ⟨(q.2, q.1), ?_, ih _ _ h⟩⟩
    unfold nxP at hq ⊢
    split at hq
    ·rename_i hc
     cases hq
     rw [if_pos ⟨hc.2, hc.1⟩]
    ·cases hq
 have trans : ∀ k s t u, s < m.Rows.length → t < m.Rows.length → u < m.Rows.length → Mk (kk m) (YK m m) (nxP m m) k (s, u) → Mk (kk m) (YK m m) (nxP m m) k (s, t) ∨ Mk (kk m) (YK m m) (nxP m m) k (t, u) := by
  intro k
  induction k with
  | zero => intro s t u _ _ _ h; exact h.elim
  | succ k ih =>
   rintro s t u hs ht hu (g | ⟨i, hi, g | ⟨q, hq, g⟩⟩)
   ·rcases ih s t u hs ht hu g with g | g
    ·exact .inl (.inl g)
    ·exact .inr (.inl g)
   ·cases b1 : YK m m (s, t) i with
    | true => exact .inl (.inr ⟨i, hi, .inl b1⟩)
    | false =>
     refine .inr (.inr ⟨i, hi, .inl ?_⟩)
     unfold YK at b1 g ⊢
     simp [bne_iff_ne, ne_eq, bne_eq_false_iff_eq] at b1 g ⊢
     rw [← b1]
     exact g
   ·cases b1 : YK m m (s, t) i with
    | true => exact .inl (.inr ⟨i, hi, .inl b1⟩)
    | false =>
     cases b2 : YK m m (t, u) i with
     | true => exact .inr (.inr ⟨i, hi, .inl b2⟩)
     | false =>
      have c1 := same (p := (s, t)) hs ht hi b1
      have c2 := same (p := (t, u)) ht hu hi b2
      simp only at c1 c2
      unfold nxP at hq
      split at hq
      ·rename_i hc
       cases hq
       simp only at hc g
       have e1 := h.edgeAt hs hi
       have e2 := h.edgeAt ht hi
       have e3 := h.edgeAt hu hi
       rcases ih (E m s i).To.toNat (E m t i).To.toNat (E m u i).To.toNat (by omega) (by omega) (by omega) g with g | g
       ·exact .inl (.inr ⟨i, hi, .inr ⟨_, by unfold nxP; rw [if_pos ⟨hc.1, by simp only; omega⟩], g⟩⟩)
       ·exact .inr (.inr ⟨i, hi, .inr ⟨_, by unfold nxP; rw [if_pos ⟨by simp only; omega, hc.2⟩], g⟩⟩)
      ·cases hq
 have refl : ∀ k s, ¬ Mk (kk m) (YK m m) (nxP m m) k (s, s) := by
  intro k
  induction k with
  | zero => intro s h; exact h
  | succ k ih =>
   rintro s (g | ⟨i, hi, g | ⟨q, hq, g⟩⟩)
   ·exact ih s g
   ·simp [YK] at g
   ·unfold nxP at hq
    split at hq
    ·cases hq; exact ih _ g
    ·cases hq
 exact zeG (N := m.Rows.length) h.len1 (fun k s t => ¬ Mk (kk m) (YK m m) (nxP m m) k (s, t)) (fun k s t _ _ g q => g (symm k t s q)) (fun k s t u hs ht hu g1 g2 q => by
   rcases trans k s t u hs ht hu q with g | g
   ·exact g1 g
   ·exact g2 g) (fun k s _ => refl k s) (fun k s t _ _ g q => g (.inl q)) (fun k hk s t hs ht g q => by
   rcases q with q | ⟨i, hi, q | ⟨r, hr, q⟩⟩
   ·exact g q
   ·exact g (.inr ⟨i, hi, .inl q⟩)
   ·have hin := h.nx_in (p := (s, t)) hs ht hi hr
    have : Mk (kk m) (YK m m) (nxP m m) k r := Classical.byContradiction fun c => hk r.1 r.2 hin.1 hin.2 c q
    exact g (.inr ⟨i, hi, .inr ⟨r, hr, this⟩⟩)) s t hs ht hno j hj
def nxE (m : z6) (s : Int) (i : Nat) : zj := if s < 0 then ⟨-1, -1⟩ else E m s.toNat i
def rsp (m : z6) : Int → List Nat → List Int
 | _, [] => []
 | s, i :: w => (nxE m s i).Out :: rsp m (nxE m s i).To w
def aft (m : z6) : Int → List Nat → Int
 | s, [] => s
 | s, i :: w => aft m (nxE m s i).To w
theorem XJ (m : z6) : ∀ (w : List Nat) (s : Int) (i : Nat), rsp m s (w ++ [i]) = rsp m s w ++ [(nxE m (aft m s w) i).Out] ∧ aft m s (w ++ [i]) = (nxE m (aft m s w) i).To
 | [], s, i => ⟨rfl, rfl⟩
 | j :: w, s, i => by
  have := XJ m w (nxE m s j).To i
  simp only [List.cons_append, rsp, aft, this.1, this.2, and_self]
theorem UM (m : z6) : ∀ (w : List Nat) (s : Int), (rsp m s w).length = w.length
 | [], _ => rfl
 | i :: w, s => by simp [rsp, UM m w]
def Vc (m : z6) (s : Int) : Prop := -1 ≤ s ∧ s < (m.Rows.length : Int)
theorem z78 (h : VM m) {s : Int} (hs : Vc m s) {i : Nat} (hi : i < kk m) : Vc m (nxE m s i).To := by
 unfold nxE
 have := h.len1
 by_cases h0 : s < 0
 ·rw [if_pos h0]
  unfold Vc
  simp only
  omega
 ·rw [if_neg h0]
  have hl : s.toNat < m.Rows.length := by have := hs.2; omega
  have := h.edgeAt hl hi
  unfold Vc
  omega
theorem z7a (h : VM m) {s : Int} (hs : Vc m s) {i : Nat} (hi : i < kk m) : Zc m s (i : Int) = some (nxE m s i) ∧ Vc m (nxE m s i).To := by
 unfold Zc nxE
 have := h.len1
 by_cases h0 : s < 0
 ·rw [decide_eq_true h0, cond_true, if_pos h0]
  exact ⟨rfl, by unfold Vc; simp only; omega⟩
 ·rw [decide_eq_false h0, cond_false, if_neg h0]
  have hl : s.toNat < m.Rows.length := by have := hs.2; omega
  have he := h.edge_eq hl hi (f := fun e => some e)
  have hc : ((s.toNat : Nat) : Int) = s := by omega
  rw [hc] at he
  refine ⟨he, ?_⟩
  have := h.edgeAt hl hi
  unfold Vc
  omega
theorem z5F (h : VM m) {s : Int} (hs : Vc m s) (w : List Nat) (hw : ∀ i ∈ w, i < kk m) (hl : w.length ≤ 100000) : kJ m s (w.map Int.ofNat) = some (rsp m s w) := by
 have hloop : loop (fun q => kH m (w.map Int.ofNat) q.1 q.2.1 q.2.2) (s, ([] : List Int), 0) = some (rsp m s w) := by
  refine Ret.eq (yH (fun q => ∃ k : Nat, q.2.2 = (k : Int) ∧ k ≤ w.length ∧ Vc m q.1 ∧ q.2.1.length = k ∧ q.2.1 ++ rsp m q.1 (w.drop k) = rsp m s w) (fun q => 200000 - q.2.2.toNat) ⟨0, rfl, Nat.zero_le _, hs, rfl, rfl⟩ (by simp) ?_)
  rintro ⟨s', out, k'⟩ ⟨k, hk, hkl, hst, hol, ho⟩
  simp only at hk hst hol ho
  subst hk
  unfold kH
  rw [y7]
  refine ⟨fun hlt => ?_, fun hge => ?_⟩
  ·have hlt : k < w.length := by simpa using hlt
   have hx : (w.map Int.ofNat)[k]? = some ((w[k] : Nat) : Int) := by simp [hlt]
   have hi := hw _ (List.getElem_mem hlt)
   have hn := z7a h hst hi
   have hw1 : w64 ((k : Int) + 1) = ((k + 1 : Nat) : Int) := by rw [yf (by omega) (by omega)]; rfl
   rw [yk, bdT hx, bdT hn.1, gdT (by simp; omega), ze, hw1]
   refine ⟨⟨k + 1, rfl, hlt, hn.2, by simp [hol], ?_⟩, by simp only; omega⟩
   rw [← ho, List.drop_eq_getElem_cons hlt]
   simp [rsp]
  ·have : k = w.length := by simp at hge; omega
   subst this
   rw [ze]
   rw [List.drop_length] at ho
   show out = rsp m s w
   simpa [rsp] using ho
 unfold kJ kI
 rw [bdT hloop]
section
variable {N : Nat} {f : Nat → Nat → Bool}
structure zci (N : Nat) (f : Nat → Nat → Bool) (out : List Int) (n : Int) (s : Nat) : Prop where
 len : out.length = s
 sN : s ≤ N
 n0 : 0 ≤ n
 nS : n ≤ (s : Int)
 lt : ∀ (i : Nat) (x : Int), out[i]? = some x → 0 ≤ x ∧ x < n
 cls : ∀ (i j : Nat), i < s → j < s → (out[i]? = out[j]? ↔ f i j = false)
theorem z4q (hN : N ≤ 1000) (hr : ∀ s, s < N → f s s = false) (hs : ∀ s t, s < N → t < N → f s t = false → f t s = false) (ht : ∀ s t u, s < N → t < N → u < N → f s t = false → f t u = false → f s u = false) :
  Ret (vg (tab N f)) fun out => out.length = N ∧ ∀ i j, i < N → j < N → (out[i]? = out[j]? ↔ f i j = false) := by
 have hl : (tab N f).length = N := by simp [tab]
 unfold vg
 rw [zJ]
 refine Ret.mono (Q := fun out => out.length = N ∧ ∀ i j, i < N → j < N → (out[i]? = out[j]? ↔ f i j = false)) ?_ fun out h => ze.2 h
 refine yH (fun q => zci N f q.1 q.2.1 q.2.2.toNat ∧ 0 ≤ q.2.2) (fun q => N - q.2.2.toNat) ⟨⟨rfl, Nat.zero_le _, Int.le_refl 0, Int.le_refl 0, fun i x h => by simp at h, fun i j h => by simp at h⟩, Int.le_refl 0⟩ (by show N - 0 < _; omega) ?_
 rintro ⟨out, n, s⟩ ⟨hI, h0⟩
 obtain ⟨s, rfl⟩ := Int.eq_ofNat_of_zero_le h0
 simp [Int.toNat_natCast] at hI ⊢
 unfold qM
 rw [y7]
 refine ⟨fun hc => ?_, fun hc => ?_⟩
 ·rw [hl] at hc
  have hsN : s < N := by simpa using hc
  rw [zJ]
  have inner : Ret (loop (fun s_1 => vb (tab N f) out (s : Int) s_1.1 s_1.2) (-1, 0)) fun b => (b = -1 ∧ ∀ t, t < s → f s t = true) ∨ ∃ t, t < s ∧ f s t = false ∧ out[t]? = some b := by
   refine yH (fun q => 0 ≤ q.2 ∧ q.2 ≤ (s : Int) ∧ ((q.1 = -1 ∧ ∀ t : Nat, (t : Int) < q.2 → f s t = true) ∨ ∃ t, t < s ∧ f s t = false ∧ out[t]? = some q.1)) (fun q => s - q.2.toNat) ⟨by omega, by omega, .inl ⟨rfl, fun t ht => by simp at ht; omega⟩⟩ (by show s - 0 < _; omega) ?_
   rintro ⟨b, t⟩ ⟨g0, g1, g2⟩
   simp only at g0 g1 g2 ⊢
   obtain ⟨t, rfl⟩ := Int.eq_ofNat_of_zero_le g0
   unfold vb xO
   rw [y7]
   refine ⟨fun hc => ?_, fun hc => ?_⟩
   ·have hts : t < s := by simpa using hc
    have hw : w64 ((t : Int) + 1) = ((t + 1 : Nat) : Int) := by rw [yf (by omega) (by omega)]; rfl
    rw [z1L f hsN (by omega), hw, y7]
    refine ⟨fun hf => ?_, fun hf => ?_⟩
    ·rw [zJ, z6Z]
     have : ∃ x, out[t]? = some x := ⟨out[t]'(by rw [hI.len]; exact hts), List.getElem?_eq_getElem _⟩
     have ⟨x, hx⟩ := this
     refine ⟨by omega, x, by rw [Int.toNat_natCast]; exact hx, ze.2 ⟨⟨by omega, by omega, .inr ⟨t, hts, by simpa using hf, hx⟩⟩, by simp [Int.toNat_natCast]; omega⟩⟩
    ·refine ze.2 ⟨⟨by omega, by omega, ?_⟩, by simp [Int.toNat_natCast]; omega⟩
     rcases g2 with ⟨e, g2⟩ | g2
     ·refine .inl ⟨e, fun u hu => ?_⟩
      rcases Nat.lt_or_ge u t with q | q
      ·exact g2 u (by omega)
      ·have : u = t := by omega
       subst this; simpa using hf
     ·exact .inr g2
   ·have hts : ¬ t < s := by simpa using hc
    refine ze.2 ?_
    rcases g2 with ⟨e, g2⟩ | g2
    ·exact .inl ⟨e, fun u hu => g2 u (by omega)⟩
    ·exact .inr g2
  refine inner.mono fun b hb => ?_
  have hw : w64 ((s : Int) + 1) = ((s + 1 : Nat) : Int) := by rw [yf (by omega) (by omega)]; rfl
  have hlen := hI.len
  have hnS := hI.nS
  have hn0 := hI.n0
  have fin : ∀ (n' c : Int), 0 ≤ n' → n' ≤ ((s + 1 : Nat) : Int) → n ≤ n' → 0 ≤ c → c < n' → (∀ t, t < s → (out[t]? = some c ↔ f s t = false)) →
    Ret (xj out (s : Int) n' c) (LRP (fun s' => (zci N f s'.1 s'.2.1 s'.2.2.toNat ∧ 0 ≤ s'.2.2) ∧ N - s'.2.2.toNat < N - s) fun out => out.length = N ∧ ∀ i j, i < N → j < N → (out[i]? = out[j]? ↔ f i j = false)) := by
   intro n' c a1 a2 a3 a4 a5 a6
   unfold xj ve
   rw [z5G, hw]
   refine ⟨by simp [hlen]; omega, ze.2 ⟨⟨⟨by simp [hlen], by simp; omega, a1, by simp; exact a2, ?_, ?_⟩, Int.natCast_nonneg _⟩, by simp; omega⟩⟩
   ·intro i x hx
    rcases Nat.lt_or_ge i s with q | q
    ·rw [List.getElem?_append_left (by omega)] at hx
     have := hI.lt i x hx
     exact ⟨this.1, by have := this.2; simp only; omega⟩
    ·rw [List.getElem?_append_right (by omega)] at hx
     cases hh : i - out.length with
     | zero => rw [hh] at hx; simp at hx; subst hx; exact ⟨a4, a5⟩
     | succ k => rw [hh] at hx; simp at hx
   ·intro i j hi hj
    simp at hi hj
    have at_ : ∀ i, i < s → (out ++ [c])[i]? = out[i]? := fun i h => List.getElem?_append_left (by omega)
    have at_s : (out ++ [c])[s]? = some c := by rw [← hlen, List.getElem?_append_right (Nat.le_refl _)]; simp
    rcases Nat.lt_or_ge i s with q | q <;> rcases Nat.lt_or_ge j s with q' | q'
    ·show (out ++ [c])[i]? = (out ++ [c])[j]? ↔ _
     rw [at_ i q, at_ j q']; exact hI.cls i j q q'
    ·have : j = s := by omega
     subst this
     show (out ++ [c])[i]? = (out ++ [c])[j]? ↔ _
     rw [at_ i q, at_s, a6 i q]
     exact ⟨fun h => hs _ _ (by omega) (by omega) h, fun h => hs _ _ (by omega) (by omega) h⟩
    ·have : i = s := by omega
     subst this
     show (out ++ [c])[i]? = (out ++ [c])[j]? ↔ _
     rw [at_ j q', at_s, eq_comm, a6 j q']
    ·have e1 : i = s := by omega
     have e2 : j = s := by omega
     subst e1; subst e2
     exact ⟨fun _ => hr _ hsN, fun _ => rfl⟩
  unfold vd
  rw [y7]
  rcases hb with ⟨rfl, hb⟩ | ⟨t, ht1, ht2, ht3⟩
  ·refine ⟨fun _ => ?_, fun h => by simp at h⟩
   rw [yf (by omega) (by omega)]
   refine fin (n + 1) n (by omega) (by omega) (by omega) hn0 (by omega) fun t hts => ?_
   rw [hb t hts]
   refine ⟨fun h => ?_, fun h => by cases h⟩
   have := hI.lt t n h
   omega
  ·have hb0 := hI.lt t b ht3
   refine ⟨fun h => by simp at h; omega, fun _ => fin n b hn0 (by omega) (by omega) hb0.1 hb0.2 fun u hu => ?_⟩
   rw [← ht3, hI.cls u t hu ht1]
   exact ⟨fun h => ht _ _ _ (by omega) (by omega) (by omega) ht2 (hs _ _ (by omega) (by omega) h), fun h => ht _ _ _ (by omega) (by omega) (by omega) (hs _ _ (by omega) (by omega) h) ht2⟩
 ·rw [hl] at hc
  have hsN : ¬ s < N := by simpa using hc
  have : s = N := by have := hI.sN; omega
  subst this
  exact ze.2 ⟨hI.len, hI.cls⟩
end
def SEq (m : z6) (s t : Nat) : Prop := ∀ w : List Nat, (∀ i ∈ w, i < kk m) → rsp m (s : Int) w = rsp m (t : Int) w
theorem kK (m : z6) (s i : Nat) : nxE m (s : Int) i = E m s i := by
 unfold nxE
 rw [if_neg (by omega), Int.toNat_natCast]
section
variable {m : z6} (h : WM m)
include h
theorem Kz : ∀ (n : Nat) (p : Nat × Nat), p.1 < m.Rows.length → p.2 < m.Rows.length → Mk (kk m) (YK m m) (nxP m m) n p → ∃ w : List Nat, (∀ i ∈ w, i < kk m) ∧ rsp m (p.1 : Int) w ≠ rsp m (p.2 : Int) w
 | 0, p, _, _, q => q.elim
 | n + 1, p, h1, h2, q => by
  rcases q with q | ⟨i, hi, q | ⟨r, hr, q⟩⟩
  ·exact Kz n p h1 h2 q
  ·refine ⟨[i], by simpa using hi, fun e => ?_⟩
   simp [rsp, kK, List.cons.injEq, and_true] at e
   simp [YK, e] at q
  ·have hin := h.nx_in h1 h2 hi hr
   have ⟨w, hw, hne⟩ := Kz n r hin.1 hin.2 q
   refine ⟨i :: w, fun j hj => by rcases List.mem_cons.1 hj with rfl | hj; exact hi; exact hw j hj, fun e => hne ?_⟩
   simp [rsp, kK, List.cons.injEq] at e
   unfold nxP at hr
   split at hr
   ·rename_i hc
    cases hr
    have e1 : (((E m p.1 i).To.toNat : Nat) : Int) = (E m p.1 i).To := by omega
    have e2 : (((E m p.2 i).To.toNat : Nat) : Int) = (E m p.2 i).To := by omega
    simp [e1, e2]
    exact e.2
   ·cases hr
theorem z1C : ∀ (w : List Nat) (p : Nat × Nat), p.1 < m.Rows.length → p.2 < m.Rows.length → (∀ i ∈ w, i < kk m) → rsp m (p.1 : Int) w ≠ rsp m (p.2 : Int) w → Mk (kk m) (YK m m) (nxP m m) w.length p
 | [], p, _, _, _, q => (q rfl).elim
 | i :: w, p, h1, h2, hw, q => by
  have hi := hw i (by simp)
  refine .inr ⟨i, hi, ?_⟩
  by_cases hb : YK m m p i = true
  ·exact .inl hb
  ·have he : (E m p.1 i).Out = (E m p.2 i).Out := by simpa [YK] using hb
   simp [rsp, kK, he, ne_eq, List.cons.injEq, true_and] at q
   have a := h.edgeAt h1 hi
   have b := h.edgeAt h2 hi
   by_cases hc : 0 ≤ (E m p.1 i).To ∧ 0 ≤ (E m p.2 i).To
   ·have hr : nxP m m p i = some ((E m p.1 i).To.toNat, (E m p.2 i).To.toNat) := by unfold nxP; rw [if_pos hc]
    have hin := h.nx_in h1 h2 hi hr
    have e1 : (((E m p.1 i).To.toNat : Nat) : Int) = (E m p.1 i).To := by omega
    have e2 : (((E m p.2 i).To.toNat : Nat) : Int) = (E m p.2 i).To := by omega
    exact .inr ⟨_, hr, z1C w _ hin.1 hin.2 (fun j hj => hw j (by simp [hj])) (by simpa only [e1, e2] using q)⟩
   ·exfalso
    refine q ?_
    have e1 : (E m p.1 i).To = -1 := by omega
    have e2 : (E m p.2 i).To = -1 := by omega
    rw [e1, e2]
theorem Y2 {s t : Nat} (hs : s < m.Rows.length) (ht : t < m.Rows.length) : mrk m m.Rows.length s t = false ↔ SEq m s t := by
 have e : mrk m m.Rows.length s t = true ↔ ¬ SEq m s t := by
  unfold mrk
  rw [Q1]
  constructor
  ·intro q g
   have ⟨w, hw, hne⟩ := Kz h _ (s, t) hs ht q
   exact hne (g w hw)
  ·intro q
   have ⟨w, hw⟩ := Classical.not_forall.1 q
   have ⟨hw, hne⟩ := Classical.not_imp.1 hw
   have := z4v h hs ht (z1C h w (s, t) hs ht hw hne)
   exact this.mono (by omega)
 constructor
 ·intro q
  exact Classical.byContradiction fun g => by rw [e.2 g] at q; cases q
 ·intro q
  cases hm : mrk m m.Rows.length s t with
  | false => rfl
  | true => exact (e.1 hm q).elim
theorem KO : Ret (uC m) fun l => l.length = m.Rows.length ∧ ∀ s t, s < m.Rows.length → t < m.Rows.length → (l[s]? = l[t]? ↔ SEq m s t) := by
 have hl := h.len
 unfold uC kG
 rw [zJ, bdT (z2y h m.Rows.length (by omega)), zJ]
 refine Ret.mono (z4q (by omega) (fun s hs => (Y2 h hs hs).2 fun w _ => rfl) (fun s t hs ht q => (Y2 h ht hs).2 fun w hw => ((Y2 h hs ht).1 q w hw).symm) (fun s t u hs ht hu q r => (Y2 h hs hu).2 fun w hw => ((Y2 h hs ht).1 q w hw).trans ((Y2 h ht hu).1 r w hw))) ?_
 rintro l ⟨h1, h2⟩
 exact ze.2 (ze.2 ⟨h1, fun s t hs ht => (h2 s t hs ht).trans (Y2 h hs ht)⟩)
end
def GG (k : Nat) : Nat → Nat
 | 0 => 0
 | n + 1 => GG k n + k ^ n
def Wd (k : Nat) (w : List Nat) : Prop := ∀ i ∈ w, i < k
section
variable {m : z6}
theorem z13 (h : VM m) : ∀ (w : List Nat) (s : Int), Vc m s → Wd (kk m) w → Vc m (aft m s w)
 | [], s, hs, _ => hs
 | i :: w, s, hs, hw => z13 h w _ (z78 h hs (hw i (by simp))) fun j hj => hw j (by simp [hj])
end
def ww : List Int → List Int → Int
 | [], [] => 0
 | [], _ :: _ => -1
 | _ :: _, [] => 1
 | x :: a, y :: b => if x < y then -1 else if y < x then 1 else ww a b
def XD (a b : List Int) : Int := if a.length < b.length then -1 else if b.length < a.length then 1 else ww a b
theorem z2D : ∀ {a b : List Int}, ww a b = 0 → a = b
 | [], [], _ => rfl
 | [], _ :: _, h => by simp [ww] at h
 | _ :: _, [], h => by simp [ww] at h
 | x :: a, y :: b, h => by
  simp [ww] at h
  split at h
  ·simp at h
  ·split at h
   ·simp at h
   ·rw [show x = y by omega, z2D h]
theorem Jy : ∀ a : List Int, ww a a = 0
 | [] => rfl
 | x :: a => by simp [ww, Jy a]
theorem VQ : ∀ {a b c : List Int}, ww a b < 0 → ww b c < 0 → ww a c < 0
 | [], [], _, h, _ => by simp [ww] at h
 | [], _ :: _, [], _, h => by simp [ww] at h
 | [], _ :: _, _ :: _, _, _ => by simp [ww]
 | _ :: _, [], _, h, _ => by simp [ww] at h
 | _ :: _, _ :: _, [], _, h => by simp [ww] at h
 | x :: a, y :: b, z :: c, h1, h2 => by
  simp [ww] at h1 h2 ⊢
  by_cases e1 : x < y
  ·by_cases e2 : y < z
   ·rw [if_pos (by omega)]; omega
   ·rw [if_neg e2] at h2
    by_cases e3 : z < y
    ·rw [if_pos e3] at h2; omega
    ·rw [if_pos (by omega)]; omega
  ·rw [if_neg e1] at h1
   by_cases e3 : y < x
   ·rw [if_pos e3] at h1; omega
   ·rw [if_neg e3] at h1
    have : x = y := by omega
    subst this
    by_cases e2 : x < z
    ·rw [if_pos e2]; omega
    ·rw [if_neg e2] at h2 ⊢
     by_cases e4 : z < x
     ·rw [if_pos e4] at h2; omega
     ·rw [if_neg e4] at h2 ⊢
      exact VQ h1 h2
theorem z84 {a b : List Int} (h : XD a b = 0) : a = b := by
 unfold XD at h
 split at h
 ·simp at h
 ·split at h
  ·simp at h
  ·exact z2D h
theorem z38 (a : List Int) : XD a a = 0 := by simp [XD, Jy]
theorem z1q {a b c : List Int} (h1 : XD a b < 0) (h2 : XD b c < 0) : XD a c < 0 := by
 unfold XD at *
 by_cases e1 : a.length < b.length
 ·by_cases e2 : b.length < c.length
  ·rw [if_pos (by omega)]; omega
  ·rw [if_neg e2] at h2
   by_cases e3 : c.length < b.length
   ·rw [if_pos e3] at h2; omega
   ·rw [if_pos (by omega)]; omega
 ·rw [if_neg e1] at h1
  by_cases e3 : b.length < a.length
  ·rw [if_pos e3] at h1; omega
  ·rw [if_neg e3] at h1
   have e : a.length = b.length := by omega
   rw [e]
   by_cases e2 : b.length < c.length
   ·rw [if_pos e2]; omega
   ·rw [if_neg e2] at h2 ⊢
    by_cases e4 : c.length < b.length
    ·rw [if_pos e4] at h2; omega
    ·rw [if_neg e4] at h2 ⊢
     exact VQ h1 h2
def SW (l : List (List Int)) : Prop := l.Pairwise fun a b => XD a b < 0
variable {l : List (List Int)}{x : List Int}
theorem SW.tail (h : SW (x :: l)) : SW l := (List.pairwise_cons.1 h).2
theorem SW.head (h : SW (x :: l)) : ∀ y ∈ l, XD x y < 0 := (List.pairwise_cons.1 h).1
theorem zG {l : List α} {i : Nat} {x : α} (h : l[i]? = some x) : idx l (i : Int) = some x := h
theorem z2O (b : List Int) (g : Nat → Int → Option Int) (hg : ∀ i x y, b[i]? = some y → g i x = if x < y then some (-1) else if y < x then some 1 else none) :
  ∀ (a : List Int) (k : Nat), k + a.length = b.length → (zF g a k).getD 0 = ww a (b.drop k)
 | [], k, h => by
  have : b.drop k = [] := List.drop_eq_nil_of_le (by simp at h; omega)
  rw [this]; rfl
 | x :: a, k, h => by
  simp [List.length_cons] at h
  have hk : k < b.length := by omega
  rw [List.drop_eq_getElem_cons hk]
  simp [zF, ww, hg k x b[k] (List.getElem?_eq_getElem hk)]
  by_cases h1 : x < b[k]
  ·simp [h1]
  ·by_cases h2 : b[k] < x
   ·simp [h1, h2]
   ·simp [h1, h2]
    exact z2O b g hg a (k + 1) (by omega)
theorem JU (a b : List Int) (h : a.length = b.length → a.length < 4611686018427387904) : v8 a b = some (XD a b) := by
 unfold v8
 by_cases hl : a.length = b.length
 ·have h' := h hl
  simp only [hl, bne_self_eq_false, cond_false]
  rw [bdT (y8 a h' (fun i x => match b[i]? with | some y => if x < y then some (-1 : Int) else if y < x then some 1 else none | none => none) ?_ ?_)]
  ·have q := z2O b (fun i x => match b[i]? with | some y => if x < y then some (-1 : Int) else if y < x then some 1 else none | none => none) (fun i x y hy => by simp only [hy]) a 0 (by omega)
   rw [List.drop_zero] at q
   have hc : XD a b = ww a b := by unfold XD; rw [if_neg (by omega), if_neg (by omega)]
   rw [hc, ← q]
   cases zF (fun i x => match b[i]? with | some y => if x < y then some (-1 : Int) else if y < x then some 1 else none | none => none) a 0 <;> rfl
  ·intro i x hx
   have hi : i < a.length := (List.getElem?_eq_some_iff.1 hx).1
   have hy : b[i]? = some b[i] := List.getElem?_eq_getElem (by omega)
   unfold ug
   have hc : decide ((i : Int) < (a.length : Int)) = true := by simpa using hi
   simp only [hc, cond_true, zG hx, zG hy, hy, Option.bind_some]
   by_cases h1 : x < b[i]
   ·simp [h1, nS]
   ·by_cases h2 : b[i] < x
    ·simp [h1, h2, nS]
    ·simp [h1, h2, nS]
  ·unfold ug
   simp
 ·have h1 : (((a.length : Nat) : Int) != ((b.length : Nat) : Int)) = true := by simp; omega
  simp only [h1, cond_true]
  unfold XD
  by_cases h2 : a.length < b.length
  ·simp [h2]
  ·have h3 : b.length < a.length := by omega
   simp [h2, h3]
def cI (x y : Int) : Int := if x < y then -1 else if y < x then 1 else 0
theorem z37 (x y : Int) : wb x y = some (cI x y) := by
 unfold wb uI cI
 simp [bne_self_eq_false, Option.bind_some, cond_false]
 by_cases h1 : x < y
 ·simp [h1]
 ·by_cases h2 : y < x
  ·simp [h1, h2]
  ·simp [h1, h2]
theorem z6U (a b : List Int) (h : a.length < 4611686018427387904) : ∃ c, yU a b = some c ∧ (a.length = b.length → c = ww a b) := by
 unfold yU
 have hloop := y8 a h (step := fun s => yq a b s) (fun i x => match b[i]? with | some y => if x < y then some (-1 : Int) else if y < x then some 1 else none | none => some 1) (by
  intro i x hx
  have hi : i < a.length := (List.getElem?_eq_some_iff.1 hx).1
  unfold yq
  have hc : decide ((i : Int) < (a.length : Int)) = true := by simpa using hi
  simp only [hc, cond_true, zG hx, Option.bind_some]
  by_cases hb : i < b.length
  ·have hy : b[i]? = some b[i] := List.getElem?_eq_getElem hb
   have hd : decide ((i : Int) ≥ (b.length : Int)) = false := by simp; omega
   simp only [hd, cond_false, zG hy, hy, Option.bind_some, z37]
   unfold cI
   by_cases h1 : x < b[i]
   ·simp [h1, nS]
   ·by_cases h2 : b[i] < x
    ·simp [h1, h2, nS]
    ·simp [h1, h2, nS]
  ·have hy : b[i]? = none := List.getElem?_eq_none (by omega)
   have hd : decide ((i : Int) ≥ (b.length : Int)) = true := by simp; omega
   simp only [hd, cond_true, hy, nS]) (by unfold yq; simp)
 rw [bdT hloop]
 have q := fun hl => z2O b (fun i x => match b[i]? with | some y => if x < y then some (-1 : Int) else if y < x then some 1 else none | none => some 1) (fun i x y hy => by simp only [hy]) a 0 hl
 cases hf : zF (fun i x => match b[i]? with | some y => if x < y then some (-1 : Int) else if y < x then some 1 else none | none => some 1) a 0 with
 | some r =>
  refine ⟨r, rfl, fun hl => ?_⟩
  have := q (by omega)
  rw [hf] at this
  simpa using this
 | none =>
  unfold xo
  by_cases hl : a.length < b.length
  ·refine ⟨-1, by simp [oS, hl], fun hl2 => by omega⟩
  ·refine ⟨0, by simp [oS, hl], fun hl2 => ?_⟩
   have := q (by omega)
   rw [hf] at this
   simpa using this
theorem zeQ (x y : Int) : Zp [x, y] = some (if x = 0 then y else x) := by
 unfold Zp
 rw [bdT (y8 [x, y] (by simp) (step := fun s => uJ [x, y] s) (fun i v => if v ≠ 0 then some v else none) ?_ ?_)]
 ·by_cases h1 : x = 0
  ·by_cases h2 : y = 0
   ·simp [zF, h1, h2, oS, jV]
   ·simp [zF, h1, h2, oS]
  ·simp [zF, h1, oS]
 ·intro i v hv
  have hi : i < [x, y].length := (List.getElem?_eq_some_iff.1 hv).1
  unfold uJ
  have hc : decide ((i : Int) < (([x, y] : List Int).length : Int)) = true := by simp only [decide_eq_true_eq]; omega
  simp only [hc, cond_true, zG hv, Option.bind_some]
  by_cases h : v = 0
  ·simp [h, nS]
  ·have hb : (v != 0) = true := by simpa using h
   simp [h, hb, nS]
 ·unfold uJ; simp
theorem z1v (a b : List Int) (h : a.length < 4611686018427387904) : uv a b = some (XD a b) := by
 unfold uv
 have ⟨c, hc, hl⟩ := z6U a b h
 rw [z37, hc]
 simp [Option.bind_some, zeQ]
 unfold cI XD
 by_cases h1 : a.length < b.length
 ·simp [h1]
 ·by_cases h2 : b.length < a.length
  ·simp [h1, h2]
  ·simp [h1, h2, hl (by omega)]
def wE (n : Int) (w : List Int) : Int := if 256 < w.length then 3 else if w.any (fun c => decide (c < 0) || decide (n ≤ c)) then 1 else 0
variable {n : Int}
theorem z1D {w : List Int} : wE n w = 0 ↔ w.length ≤ 256 ∧ ∀ c ∈ w, 0 ≤ c ∧ c < n := by
 unfold wE
 by_cases h : 256 < w.length
 ·rw [if_pos h]
  exact ⟨fun q => by simp at q, fun q => by omega⟩
 ·rw [if_neg h]
  by_cases h2 : w.any (fun c => decide (c < 0) || decide (n ≤ c)) = true
  ·rw [if_pos h2]
   simp [List.any_eq_true, Bool.or_eq_true, decide_eq_true_eq] at h2
   have ⟨c, h3, h4⟩ := h2
   refine ⟨fun q => by simp at q, fun q => ?_⟩
   have := q.2 c h3
   omega
  ·rw [if_neg h2]
   simp [List.any_eq_true, Bool.or_eq_true, decide_eq_true_eq, not_exists, not_and, not_or] at h2
   refine ⟨fun _ => ⟨by omega, fun c hc => ?_⟩, fun _ => rfl⟩
   have := h2 c hc
   omega
variable {ρ : Type}
theorem z2P (p : Int → Bool) (g : Nat → Int → Option ρ) (hg : ∀ i x, (g i x).isSome = p x) : ∀ (w : List Int) (k : Nat), (zF g w k).isSome = w.any p
 | [], k => rfl
 | x :: w, k => by
  simp [zF, List.any_cons]
  have := hg k x
  cases hx : g k x with
  | some r => rw [hx] at this; simp at this; simp [← this]
  | none => rw [hx] at this; simp at this; rw [this, Bool.false_or]; exact z2P p g hg w (k + 1)
theorem z65 (n : Int) (w : List Int) : (Option.bind (jg w) fun r => bif r != 0 then some r else uA w n) = some (wE n w) := by
 unfold jg wE
 by_cases h : 256 < w.length
 ·have h' : (256 : Int) < (w.length : Int) := by omega
  simp [h, h']
 ·have hd : decide (((w.length : Nat) : Int) > 256) = false := by simp; omega
  simp only [hd, cond_false, Option.bind_some, bne_self_eq_false, if_neg h]
  unfold uA
  have hl := y8 w (by omega) (step := fun s => wy w n s) (fun i c => if c < 0 ∨ n ≤ c then some (1 : Int) else none) (by
   intro i c hc
   have hi : i < w.length := (List.getElem?_eq_some_iff.1 hc).1
   unfold wy
   have hq : decide ((i : Int) < (w.length : Int)) = true := by simpa using hi
   simp only [hq, cond_true, zG hc, Option.bind_some]
   by_cases h1 : c < 0
   ·simp [h1, nS]
   ·by_cases h2 : n ≤ c
    ·simp [h1, h2, nS]
    ·simp [h1, h2, nS]) (by unfold wy; simp)
  rw [bdT hl]
  have q := z2P (fun c => decide (c < 0) || decide (n ≤ c)) (fun i c => if c < 0 ∨ n ≤ c then some (1 : Int) else none) (fun i c => by by_cases h : c < 0 ∨ n ≤ c <;> simp [h] <;> simpa using h) w 0
  cases hf : zF (fun i c => if c < 0 ∨ n ≤ c then some (1 : Int) else none) w 0 with
  | none => rw [hf] at q; rw [← q]; rfl
  | some r =>
   rw [hf] at q
   have ⟨i, x, h1, h2⟩ := ym hf
   rw [← q]
   split at h2
   ·cases h2; rfl
   ·cases h2
theorem z1E (n : Int) (w : List Int) : uW w n = some (if 16 < n then 3 else if 256 < w.length then 3 else if n < 1 then 1 else wE n w) := by
 unfold uW
 by_cases h0 : 16 < n
 ·simp [h0]
 by_cases h : 256 < w.length
 ·have h' : (256 : Int) < (w.length : Int) := by omega
  simp [h0, h, h']
 by_cases h1 : n < 1
 ·have h' : ¬ (256 : Int) < (w.length : Int) := by omega
  simp [h0, h, h', h1]
 ·have hd : decide (((w.length : Nat) : Int) > 256) = false := by simp; omega
  have hd0 : decide (n > 16) = false := by simp; omega
  have hd1 : decide (n < 1) = false := by simp; omega
  simp only [hd, hd0, hd1, cond_false, if_neg h, if_neg h0, if_neg h1]
  unfold yR xr wE
  have hl := y8 w (by omega) (step := fun s => yg w n s) (fun i c => if c < 0 ∨ n ≤ c then some (i : Int) else none) (by
   intro i c hc
   have hi : i < w.length := (List.getElem?_eq_some_iff.1 hc).1
   unfold yg js
   have hq : decide ((i : Int) < (w.length : Int)) = true := by simpa using hi
   simp only [hq, cond_true, zG hc, Option.bind_some]
   by_cases h1 : c < 0
   ·simp [h1, nS]
   ·by_cases h2 : n ≤ c
    ·simp [h1, h2, nS]
    ·simp [h1, h2, nS]) (by unfold yg; simp)
  rw [bdT hl, if_neg h]
  have q := z2P (fun c => decide (c < 0) || decide (n ≤ c)) (fun i c => if c < 0 ∨ n ≤ c then some (i : Int) else none) (fun i c => by by_cases h : c < 0 ∨ n ≤ c <;> simp [h] <;> simpa using h) w 0
  cases hf : zF (fun i c => if c < 0 ∨ n ≤ c then some (i : Int) else none) w 0 with
  | none => rw [hf] at q; rw [← q]; rfl
  | some r =>
   rw [hf] at q
   have ⟨i, x, h1, h2⟩ := ym hf
   rw [← q]
   split at h2
   ·cases h2
    simp [oS]
   ·cases h2
def eS (e : Int) : Option Int := if e = 0 then none else some e
def loE (n : Int) (l : List (List Int)) : Int := if 16 < n then 3 else if 4096 < l.length then 3 else if n < 1 then 1 else (zF (fun _ w => eS (wE n w)) l 0).getD 0
theorem z0L : ∀ {l : List (List Int)} {k : Nat}, (zF (fun _ w => eS (wE n w)) l k).getD 0 = 0 ↔ ∀ w ∈ l, wE n w = 0
 | [], _ => by simp [zF]
 | w :: l, k => by
  by_cases h : wE n w = 0
  ·have : eS (wE n w) = none := by simp [eS, h]
   simp [zF, this]
   rw [z0L]
   simp [h]
  ·have : eS (wE n w) = some (wE n w) := by simp [eS, h]
   simp [zF, this, h]
theorem z0u : loE n l = 0 ↔ (1 ≤ n ∧ n ≤ 16) ∧ l.length ≤ 4096 ∧ ∀ w ∈ l, w.length ≤ 256 ∧ ∀ c ∈ w, 0 ≤ c ∧ c < n := by
 unfold loE
 by_cases h0 : 16 < n
 ·rw [if_pos h0]; exact ⟨fun q => by simp at q, fun q => by omega⟩
 by_cases h1 : 4096 < l.length
 ·rw [if_neg h0, if_pos h1]; exact ⟨fun q => by simp at q, fun q => by omega⟩
 by_cases h2 : n < 1
 ·rw [if_neg h0, if_neg h1, if_pos h2]; exact ⟨fun q => by simp at q, fun q => by omega⟩
 rw [if_neg h0, if_neg h1, if_neg h2, z0L]
 constructor
 ·intro q; exact ⟨by omega, by omega, fun w hw => z1D.1 (q w hw)⟩
 ·intro q w hw; exact z1D.2 (q.2.2 w hw)
theorem z5r (l : List (List Int)) (n : Int) : jF l n = some (loE n l) := by
 unfold jF loE
 by_cases h0 : 16 < n
 ·simp [h0]
 by_cases h1 : 4096 < l.length
 ·have h' : (4096 : Int) < (l.length : Int) := by omega
  simp [h0, h1, h']
 by_cases h2 : n < 1
 ·have h' : ¬ (4096 : Int) < (l.length : Int) := by omega
  simp [h0, h1, h2, h']
 have d0 : decide (n > 16) = false := by simp; omega
 have d1 : decide (((l.length : Nat) : Int) > 4096) = false := by simp; omega
 have d2 : decide (n < 1) = false := by simp; omega
 simp only [d0, d1, d2, cond_false, if_neg h0, if_neg h1, if_neg h2]
 rw [bdT (y8 l (by omega) (step := fun s => vT l n s) (fun _ w => eS (wE n w)) ?_ ?_)]
 ·cases zF (fun _ w => eS (wE n w)) l 0 <;> rfl
 ·intro i w hw
  have hi : i < l.length := (List.getElem?_eq_some_iff.1 hw).1
  have hq : decide ((i : Int) < (l.length : Int)) = true := by simpa using hi
  have he := z65 n w
  unfold vT
  simp only [hq, cond_true, zG hw, Option.bind_some]
  unfold jg at he ⊢
  by_cases h : 256 < w.length
  ·have h' : (256 : Int) < (w.length : Int) := by omega
   have : wE n w = 3 := by unfold wE; rw [if_pos h]
   simp [h', this, eS, nS]
  ·have hd : decide (((w.length : Nat) : Int) > 256) = false := by simp; omega
   simp only [hd, cond_false, Option.bind_some, bne_self_eq_false] at he ⊢
   rw [he]
   simp only [Option.bind_some]
   by_cases hz : wE n w = 0
   ·simp [hz, eS, nS]
   ·have hb : (wE n w != 0) = true := by simpa using hz
    simp [hz, hb, eS, nS]
 ·unfold vT; simp
theorem z4z (l : List (List Int)) (n : Int) : ju l n = some (loE n l) := by
 unfold ju loE
 by_cases h0 : 16 < n
 ·simp [h0]
 by_cases h1 : 4096 < l.length
 ·have h' : (4096 : Int) < (l.length : Int) := by omega
  simp [h0, h1, h']
 by_cases h2 : n < 1
 ·have h' : ¬ (4096 : Int) < (l.length : Int) := by omega
  simp [h0, h1, h2, h']
 have d0 : decide (n > 16) = false := by simp; omega
 have d1 : decide (((l.length : Nat) : Int) > 4096) = false := by simp; omega
 have d2 : decide (n < 1) = false := by simp; omega
 simp only [d0, d1, d2, cond_false, if_neg h0, if_neg h1, if_neg h2]
 rw [bdT (y8 l (by omega) (step := fun s => vP l n s) (fun _ w => eS (wE n w)) ?_ ?_)]
 ·cases zF (fun _ w => eS (wE n w)) l 0 <;> rfl
 ·intro i w hw
  have hi : i < l.length := (List.getElem?_eq_some_iff.1 hw).1
  have hq : decide ((i : Int) < (l.length : Int)) = true := by simpa using hi
  have he : uW w n = some (wE n w) := by
   rw [z1E, if_neg h0, if_neg h2]
   by_cases h : 256 < w.length
   ·rw [if_pos h]; unfold wE; rw [if_pos h]
   ·rw [if_neg h]
  unfold vP
  simp only [hq, cond_true, zG hw, Option.bind_some, he]
  by_cases hz : wE n w = 0
  ·simp [hz, eS, nS]
  ·have hb : (wE n w != 0) = true := by simpa using hz
   simp [hz, hb, eS, nS]
 ·unfold vP; simp
theorem z0r (l : List (List Int)) (hl : l.length < 4611686018427387904) {step : Int × Int → Option (LR (Int × Int) Int)}
  (h : ∀ (n : Int) (i : Nat) (x : List Int), l[i]? = some x → step (n, (i : Int)) = some (.next (w64 (n + ((x.length : Nat) : Int)), w64 ((i : Int) + 1)))) (h2 : ∀ n, step (n, (l.length : Int)) = some (.done n)) :
  loop step (0, 0) = some (l.foldl (fun n x => w64 (n + ((x.length : Nat) : Int))) 0) := by
 have gen : ∀ (m k : Nat) (n : Int), k ≤ l.length → l.length - k < m → Xa step m (n, (k : Int)) = some ((l.drop k).foldl (fun n x => w64 (n + ((x.length : Nat) : Int))) n) := by
  intro m
  induction m with
  | zero => intro k n _ h; omega
  | succ m ih =>
   intro k n hk hn
   rw [jm]
   rcases Nat.lt_or_ge k l.length with hlt | hge
   ·have hx : l[k]? = some l[k] := List.getElem?_eq_getElem hlt
    rw [h n k _ hx, List.drop_eq_getElem_cons hlt]
    simp only [List.foldl_cons]
    rw [yf (x := (k : Int) + 1) (by omega) (by omega)]
    exact ih (k + 1) _ hlt (by omega)
   ·have : k = l.length := by omega
    subst this
    rw [h2, List.drop_length]
    rfl
 exact gen fuel 0 0 (Nat.zero_le _) (by show l.length - 0 < 18446744073709551616; omega)
def stW (l : List (List Int)) : Int := l.foldl (fun n x => w64 (n + ((x.length : Nat) : Int))) 0
theorem z15 (l : List (List Int)) (hl : l.length < 4611686018427387904) : qd l = some (stW l) := by
 unfold qd
 rw [bdT (z0r l hl (step := fun s => vS l s.1 s.2) ?_ ?_)]
 ·rfl
 ·intro n i x hx
  have hi : i < l.length := (List.getElem?_eq_some_iff.1 hx).1
  have hq : decide ((i : Int) < (l.length : Int)) = true := by simpa using hi
  unfold vS
  simp only [hq, cond_true, zG hx, Option.bind_some]
 ·intro n; unfold vS; simp
theorem z3X (l : List (List Int)) (hl : l.length < 4611686018427387904) : jt l = some (stW l) := by
 unfold jt
 rw [bdT (z0r l hl (step := fun s => vO l s.1 s.2) ?_ ?_)]
 ·rfl
 ·intro n i x hx
  have hi : i < l.length := (List.getElem?_eq_some_iff.1 hx).1
  have hq : decide ((i : Int) < (l.length : Int)) = true := by simpa using hi
  unfold vO
  simp only [hq, cond_true, zG hx, Option.bind_some]
 ·intro n; unfold vO; simp
def XG (l : List (List Int)) : Nat := (l.map List.length).sum
theorem z5x (h : XG l < 4611686018427387904) : stW l = (XG l : Int) := by
 have gen : ∀ (l : List (List Int)) (n : Nat), n + XG l < 4611686018427387904 → l.foldl (fun n x => w64 (n + ((x.length : Nat) : Int))) (n : Int) = ((n + XG l : Nat) : Int) := by
  intro l
  induction l with
  | nil => intro n _; simp [XG]
  | cons x l ih =>
   intro n hn
   have hs : XG (x :: l) = x.length + XG l := by simp [XG]
   rw [hs] at hn ⊢
   rw [List.foldl_cons, yf (by omega) (by omega), ← Int.natCast_add, ih (n + x.length) (by omega)]
   congr 1; omega
 have := gen l 0 (by omega)
 simpa [stW] using this
theorem z6F {m : Nat} (h : ∀ w ∈ l, w.length ≤ m) : XG l ≤ l.length * m := by
 induction l with
 | nil => simp [XG]
 | cons x l ih =>
  have hs : XG (x :: l) = x.length + XG l := by simp [XG]
  have h1 := h x (by simp)
  have h2 := ih fun w hw => h w (by simp [hw])
  rw [hs, List.length_cons, Nat.add_mul]
  omega
theorem KW : ∀ {l : List (List Int)}, SW l ↔ ∀ i x y, l[i]? = some x → l[i + 1]? = some y → XD x y < 0
 | [] => by simp [SW]
 | [x] => ⟨fun _ i a b _ h2 => by simp at h2, fun _ => by simp [SW]⟩
 | x :: y :: l => by
  constructor
  ·intro h i a b h1 h2
   cases i with
   | zero =>
    simp at h1 h2
    subst h1; subst h2
    exact h.head y (by simp)
   | succ i => exact KW.1 h.tail i a b (by simpa using h1) (by simpa using h2)
  ·intro h
   have ht : SW (y :: l) := KW.2 fun i a b h1 h2 => h (i + 1) a b (by simpa using h1) (by simpa using h2)
   have h0 := h 0 x y rfl rfl
   refine List.pairwise_cons.2 ⟨fun z hz => ?_, ht⟩
   rcases List.mem_cons.1 hz with rfl | hz
   ·exact h0
   ·exact z1q h0 (ht.head z hz)
theorem VO {α ρ : Type} (l : List α) (hl : l.length < 4611686018427387904) {step : Int → Option (LR Int (Unit ⊕ ρ))} (f : Nat → α → Option ρ)
  (h : ∀ (i : Nat) (x : α), 1 ≤ i → l[i]? = some x → step (i : Int) = some (nS i (f i x))) (h2 : ∀ k : Nat, l.length ≤ k → step (k : Int) = some (.done (.inl ()))) :
  loop step 1 = some (oS (zF f (l.drop 1) 1)) := by
 have gen : ∀ (n : Nat) (k : Nat), 1 ≤ k → l.length - k < n → Xa step n (k : Int) = some (oS (zF f (l.drop k) k)) := by
  intro n
  induction n with
  | zero => intro k _ h; omega
  | succ n ih =>
   intro k hk hn
   rw [jm]
   rcases Nat.lt_or_ge k l.length with hlt | hge
   ·have hx : l[k]? = some l[k] := List.getElem?_eq_getElem hlt
    rw [h k _ hk hx, List.drop_eq_getElem_cons hlt]
    simp [zF]
    cases hf : f k l[k] with
    | some r => rfl
    | none =>
     simp [nS]
     rw [yf (by omega) (by omega)]
     exact ih (k + 1) (by omega) (by omega)
   ·rw [h2 k hge, List.drop_eq_nil_of_le hge]
    rfl
 exact gen fuel 1 (Nat.le_refl _) (by show l.length - 1 < 18446744073709551616; omega)
instance (l : List (List Int)) : Decidable (SW l) := by unfold SW; infer_instance
theorem z0K (l : List (List Int)) (r : ρ) : zF (fun i x => match l[i - 1]? with | some y => if 0 ≤ XD y x then some r else none | none => none) (l.drop 1) 1 = if SW l then none else some r := by
 by_cases hs : SW l
 ·rw [if_pos hs]
  refine qA fun i x hx => ?_
  rw [List.getElem?_drop] at hx
  have hi : 1 + i < l.length := (List.getElem?_eq_some_iff.1 hx).1
  have hy : l[1 + i - 1]? = some l[i] := by rw [show 1 + i - 1 = i by omega]; exact List.getElem?_eq_getElem (by omega)
  rw [hy]
  have := KW.1 hs i l[i] x (List.getElem?_eq_getElem (by omega)) (by rw [Nat.add_comm]; exact hx)
  simp only
  rw [if_neg (by omega)]
 ·rw [if_neg hs]
  cases hf : zF (fun i x => match l[i - 1]? with | some y => if 0 ≤ XD y x then some r else none | none => none) (l.drop 1) 1 with
  | some r' =>
   have ⟨i, x, h1, h2⟩ := ym hf
   split at h2
   ·split at h2
    ·exact h2.symm
    ·cases h2
   ·cases h2
  | none =>
   exfalso
   refine hs (KW.2 fun i x y hx hy => ?_)
   have := yw hf i y (by rw [List.getElem?_drop, Nat.add_comm]; exact hy)
   rw [show 1 + i - 1 = i by omega, hx] at this
   simp only at this
   split at this
   ·cases this
   ·omega
theorem z5o (l : List (List Int)) (h : l.length ≤ 4096) (hw : ∀ w ∈ l, w.length < 4611686018427387904) : jv l = some (decide (SW l)) := by
 unfold jv
 rw [bdT (VO l (by omega) (step := fun s => vQ l s) (fun i x => match l[i - 1]? with | some y => if 0 ≤ XD y x then some false else none | none => none) ?_ ?_), z0K]
 ·by_cases hs : SW l
  ·simp [hs, oS, qX]
  ·simp [hs, oS]
 ·intro i x hi hx
  have hil : i < l.length := (List.getElem?_eq_some_iff.1 hx).1
  have hy : l[i - 1]? = some l[i - 1] := List.getElem?_eq_getElem (by omega)
  have hq : decide ((i : Int) < (l.length : Int)) = true := by simpa using hil
  unfold vQ
  rw [yf (x := (i : Int) - 1) (by omega) (by omega), show ((i : Int) - 1) = ((i - 1 : Nat) : Int) by omega]
  have hE := z1v l[i - 1] x (hw _ (List.getElem_mem (by omega)))
  simp only [hq, cond_true, zG hx, zG hy, Option.bind_some, hy, hE]
  by_cases hc : 0 ≤ XD l[i - 1] x
  ·simp [hc, nS]
  ·simp [hc, nS]
 ·intro k hk; unfold vQ; have : decide ((k : Int) < (l.length : Int)) = false := by simp; omega
  simp only [this, cond_false]
def chE (n : Int) (l : List (List Int)) : Int := if loE n l ≠ 0 then loE n l else if SW l then (if 65536 < XG l then 3 else 0) else 1
theorem z5c : chE n l = 0 ↔ loE n l = 0 ∧ SW l ∧ XG l ≤ 65536 := by
 unfold chE
 by_cases h : loE n l = 0
 ·rw [if_neg (by simp [h])]
  by_cases h2 : SW l
  ·rw [if_pos h2]
   by_cases h3 : 65536 < XG l
   ·rw [if_pos h3]; exact ⟨fun q => by simp at q, fun q => by omega⟩
   ·rw [if_neg h3]; exact ⟨fun _ => ⟨h, h2, by omega⟩, fun _ => rfl⟩
  ·rw [if_neg h2]; exact ⟨fun q => by simp at q, fun q => absurd q.2.1 h2⟩
 ·rw [if_pos h]; exact ⟨fun q => absurd q h, fun q => absurd q.1 h⟩
theorem WP (h : loE n l = 0) : l.length ≤ 4096 ∧ (∀ w ∈ l, w.length ≤ 256) ∧ XG l ≤ 1048576 := by
 have ⟨_, h1, h2⟩ := z0u.1 h
 refine ⟨h1, fun w hw => (h2 w hw).1, ?_⟩
 have := z6F (m := 256) fun w hw => (h2 w hw).1
 omega
theorem QI (l : List (List Int)) (n : Int) : uY l n = some (chE n l) := by
 unfold uY chE
 rw [z4z]
 simp [Option.bind_some]
 by_cases h : loE n l = 0
 ·have ⟨h1, h2, h3⟩ := WP h
  rw [z5o l h1 fun w hw => by have := h2 w hw; omega, z3X l (by omega), z5x (by omega)]
  simp [h, bne_self_eq_false, cond_false, Option.bind_some]
  by_cases hs : SW l
  ·by_cases hq : 65536 < XG l
   ·have : (65536 : Int) < (XG l : Int) := by omega
    simp [hs, hq, this]
   ·have : ¬ (65536 : Int) < (XG l : Int) := by omega
    simp [hs, hq, this]
  ·simp [hs]
 ·have hb : (loE n l != 0) = true := by simpa using h
  simp [h, hb]
theorem Je (l : List (List Int)) (n : Int) : qe l n = some (chE n l) := by
 unfold qe chE
 rw [z5r]
 simp only [Option.bind_some]
 by_cases h : loE n l = 0
 ·have ⟨h1, h2, h3⟩ := WP h
  simp only [h, bne_self_eq_false, cond_false, ne_eq, not_true, if_false]
  rw [bdT (VO l (by omega) (step := fun s => vU l s) (fun i x => match l[i - 1]? with | some y => if 0 ≤ XD y x then some (1 : Int) else none | none => none) ?_ ?_), z0K]
  ·by_cases hs : SW l
   ·simp only [hs, if_true, oS]
    unfold j5
    rw [z15 l (by omega), z5x (by omega)]
    simp only [Option.bind_some]
    by_cases hq : 65536 < XG l
    ·have : (65536 : Int) < (XG l : Int) := by omega
     simp [hq, this]
    ·have : ¬ (65536 : Int) < (XG l : Int) := by omega
     simp [hq, this]
   ·simp [hs, oS]
  ·intro i x hi hx
   have hil : i < l.length := (List.getElem?_eq_some_iff.1 hx).1
   have hy : l[i - 1]? = some l[i - 1] := List.getElem?_eq_getElem (by omega)
   have hq : decide ((i : Int) < (l.length : Int)) = true := by simpa using hil
   unfold vU
   rw [yf (x := (i : Int) - 1) (by omega) (by omega), show ((i : Int) - 1) = ((i - 1 : Nat) : Int) by omega]
   have hE := JU l[i - 1] x (fun _ => by have := h2 _ (List.getElem_mem (show i - 1 < l.length by omega)); omega)
   simp only [hq, cond_true, zG hx, zG hy, Option.bind_some, hy, hE]
   by_cases hc : 0 ≤ XD l[i - 1] x
   ·simp [hc, nS]
   ·simp [hc, nS]
  ·intro k hk; unfold vU; have : decide ((k : Int) < (l.length : Int)) = false := by simp; omega
   simp only [this, cond_false]
 ·have hb : (loE n l != 0) = true := by simpa using h
  simp [h, hb]
theorem XF (x : yh α) (i : Nat) (v : α) : (yh.setI x (i : Int) v).toL = x.toL.set i v := by
 unfold yh.setI
 rw [yh.toL_ofL _ _ (by simp [yh.toL]), Int.toNat_natCast]
theorem z68 {x y : yh α} (h : x.toL = y.toL) : x = y := by
 cases x; cases y
 simp [yh.toL, List.cons.injEq, and_true] at h
 simp [yh.mk.injEq]
 exact h
instance : LawfulBEq (yh (wo Int)) := {
 eq_of_beq := by
  intro a b h
  cases a; cases b
  simp [BEq.beq, Bool.and_eq_true, decide_eq_true_eq] at h
  simp [yh.mk.injEq]
  obtain ⟨⟨⟨⟨⟨⟨⟨⟨⟨⟨⟨⟨⟨⟨⟨h0, h1⟩, h2⟩, h3⟩, h4⟩, h5⟩, h6⟩, h7⟩, h8⟩, h9⟩, h10⟩, h11⟩, h12⟩, h13⟩, h14⟩, h15⟩ := h
  have e : ∀ {p q : wo Int}, (p.e0 = q.e0 ∧ p.e1 = q.e1) → p = q := by
   rintro ⟨a0, a1⟩ ⟨b0, b1⟩ ⟨rfl, rfl⟩; rfl
  exact ⟨e h0, e h1, e h2, e h3, e h4, e h5, e h6, e h7, e h8, e h9, e h10, e h11, e h12, e h13, e h14, e h15⟩
 rfl := by
  intro a
  cases a
  simp [BEq.beq] }
instance : LawfulBEq zr := {
 eq_of_beq := by
  intro a b h
  have h : (a.block_ == b.block_ && a.signature_ == b.signature_) = true := h
  rw [Bool.and_eq_true, beq_iff_eq, beq_iff_eq] at h
  have ⟨a0, a1⟩ := a
  have ⟨b0, b1⟩ := b
  have ⟨h0, h1⟩ := h
  have h0 : a0 = b0 := h0
  have h1 : a1 = b1 := h1
  rw [h0, h1]
 rfl := by
  intro a
  show (a.block_ == a.block_ && a.signature_ == a.signature_) = true
  rw [beq_self_eq_true, beq_self_eq_true]; rfl }
def sgN (m : z6) (p : List Int) (s j : Nat) : wo Int := if j < kk m then ⟨(E m s j).Out, if (E m s j).To = -1 then -1 else (p[(E m s j).To.toNat]?).getD 0⟩ else ⟨0, 0⟩
theorem z2c (f g : Nat → α) {n i : Nat} (v : α) (h : ∀ j, j < n → g j = if j = i then v else f j) : ((List.range n).map f).set i v = (List.range n).map g := by
 apply List.ext_getElem?
 intro j
 by_cases hj : j < n
 ·have e1 : ((List.range n).map g)[j]? = some (g j) := by simp [hj]
  have e2 : ((List.range n).map f)[j]? = some (f j) := by simp [hj]
  rw [e1, h j hj]
  by_cases e : j = i
  ·subst e
   rw [List.getElem?_set_self (by simpa using hj), if_pos rfl]
  ·rw [List.getElem?_set_ne (fun q => e q.symm), e2, if_neg e]
 ·rw [List.getElem?_eq_none (by simp; omega), List.getElem?_eq_none (by simp; omega)]
variable {p : List Int}
section
variable {m : z6} (h : VM m)
include h
theorem z42 (hp : p.length = m.Rows.length) {s : Nat} (hs : s < m.Rows.length) : Ret (wN m p (s : Int)) fun a => a.toL = (List.range 16).map (sgN m p s) := by
 have ⟨r, r1, r2, r3⟩ := h.rowAt hs
 have hk := h.kk_le
 unfold wN qb
 rw [bdT (zG r1), zJ]
 refine Ret.mono ?_ fun a ha => ze.2 ha
 refine yH (fun st => ∃ i : Nat, st.2 = (i : Int) ∧ i ≤ kk m ∧ st.1.toL = (List.range 16).map fun j => if j < i then sgN m p s j else ⟨0, 0⟩) (fun st => 20 - st.2.toNat) ⟨0, rfl, by omega, by simp [yh.toL, List.range_succ]⟩ (by show 20 - _ < _; omega) ?_
 rintro ⟨a, _⟩ ⟨i, rfl, hi, ha⟩
 simp only at ha
 show Ret (qa p r a (i : Int)) _
 unfold qa wV
 rw [y7]
 refine ⟨fun hc => ?_, fun hc => ?_⟩
 ·have hc : (i : Int) < ((r.length : Nat) : Int) := of_decide_eq_true hc
  have hik : i < kk m := by omega
  have e1 : a.toL[i]? = some ⟨0, 0⟩ := by rw [ha]; simp [show i < 16 by omega]
  have w2 : w64 ((i : Int) + 1) = ((i + 1 : Nat) : Int) := by rw [yf (by omega) (by omega)]; rfl
  have hed := h.edgeAt hs hik
  have step : ∀ v : wo Int, sgN m p s i = v → ∀ b : yh (wo Int), b.toL = ((List.range 16).map fun j => if j < i then sgN m p s j else ⟨0, 0⟩).set i v → b.toL = (List.range 16).map fun j => if j < i + 1 then sgN m p s j else ⟨0, 0⟩ := by
   intro v hv b hb
   rw [hb]
   refine z2c _ _ v fun j hj => ?_
   by_cases e : j = i
   ·subst e
    rw [if_pos (by omega), if_pos rfl, hv]
   ·rw [if_neg e]
    by_cases e2 : j < i
    ·rw [if_pos e2, if_pos (by omega)]
    ·rw [if_neg e2, if_neg (by omega)]
  rw [bdT (zG (r3 i hik)), bdT (zG e1), Option.bind_some, y7]
  refine ⟨fun ht => ?_, fun ht => ?_⟩
  ·have ht : (E m s i).To ≠ -1 := by simpa using ht
   obtain ⟨t, htn⟩ : ∃ t : Nat, (E m s i).To = t := ⟨(E m s i).To.toNat, by omega⟩
   have hpt : p[t]? = some p[t] := List.getElem?_eq_getElem (by omega)
   have e2 : (yh.setI a (i : Int) ⟨(E m s i).Out, -1⟩).toL[i]? = some ⟨(E m s i).Out, -1⟩ := by
    rw [XF, List.getElem?_set_self (by rw [ha]; simp; omega)]
   rw [htn, bdT (zG hpt), bdT (zG e2), Option.bind_some, ze, w2]
   refine ⟨⟨i + 1, rfl, by omega, step _ ?_ _ (by rw [XF, XF, ha, List.set_set])⟩, by simp [Int.toNat_natCast]; omega⟩
   unfold sgN
   rw [if_pos hik, if_neg ht, htn, Int.toNat_natCast, hpt, Option.getD_some]
  ·have ht : (E m s i).To = -1 := by simpa using ht
   rw [ze, w2]
   refine ⟨⟨i + 1, rfl, by omega, step _ ?_ _ (by rw [XF, ha])⟩, by simp [Int.toNat_natCast]; omega⟩
   unfold sgN
   rw [if_pos hik, if_pos ht]
 ·have hc := of_decide_eq_false hc
  have : i = kk m := by omega
  subst this
  refine ze.2 ?_
  show a.toL = _
  rw [ha]
  refine List.map_congr_left fun j hj => ?_
  unfold sgN
  by_cases e : j < kk m
  ·rw [if_pos e, if_pos e]
  ·rw [if_neg e, if_neg e]
end
def Rgf (l : List Int) : Prop := ∀ (s : Nat) (x : Int), l[s]? = some x → ∃ v : Nat, x = (v : Int) ∧ ∀ w : Nat, w < v → ∃ t, t < s ∧ l[t]? = some (w : Int)
theorem z0b {l r : List Int} (hl : Rgf l) (hr : Rgf r) (hlen : l.length = r.length) (h : ∀ s t : Nat, s < l.length → t < l.length → (l[s]? = l[t]? ↔ r[s]? = r[t]?)) : l = r := by
 have gen : ∀ n s, s < n → s < l.length → l[s]? = r[s]? := by
  intro n
  induction n with
  | zero => intro s q; omega
  | succ n ih =>
   intro s hs hsl
   have hx : l[s]? = some l[s] := List.getElem?_eq_getElem hsl
   have hy : r[s]? = some r[s] := List.getElem?_eq_getElem (by omega)
   by_cases old : ∃ t, t < s ∧ l[t]? = l[s]?
   ·have ⟨t, t1, t2⟩ := old
    rw [← t2, ih t (by omega) (by omega)]
    exact (h t s (by omega) hsl).1 t2
   ·have ⟨v, v1, v2⟩ := hl s _ hx
    have ⟨u, u1, u2⟩ := hr s _ hy
    rw [hx, hy, v1, u1]
    rcases Nat.lt_trichotomy v u with q | q | q
    ·exfalso
     have ⟨t, t1, t2⟩ := u2 v q
     exact old ⟨t, t1, by rw [ih t (by omega) (by omega), t2, hx, v1]⟩
    ·rw [q]
    ·exfalso
     have ⟨t, t1, t2⟩ := v2 u q
     have : r[t]? = r[s]? := by rw [← ih t (by omega) (by omega), t2, hy, u1]
     exact old ⟨t, t1, (h t s (by omega) hsl).2 this⟩
 apply List.ext_getElem?
 intro s
 by_cases hs : s < l.length
 ·exact gen (s + 1) s (by omega) hs
 ·rw [List.getElem?_eq_none (by omega), List.getElem?_eq_none (by omega)]
theorem z0q {K V : Type} [BEq K] (x : K) (v : V) : ∀ l : List (K × V), Xq l x = none → (z1e l x v).length = l.length + 1
 | [], _ => rfl
 | p :: l, hg => by
  simp only [Xq] at hg
  split at hg
  ·cases hg
  ·rename_i q
   simp only [z1e, q]
   show ((p :: z1e l x v).length) = _
   rw [List.length_cons, z0q x v l hg, List.length_cons]
section
variable {m : z6} (h : VM m)
include h
def z5u (m : z6) (p : List Int) (s t : Nat) : Prop := p[s]? = p[t]? ∧ ∀ j, j < kk m → sgN m p s j = sgN m p t j
theorem Ks (hp : p.length = m.Rows.length) : Ret (wY m p) fun q => q.length = m.Rows.length ∧ Rgf q ∧ ∀ s t : Nat, s < m.Rows.length → t < m.Rows.length → (q[s]? = q[t]? ↔ z5u m p s t) := by
 have hN := h.len64
 have hk := h.kk_le
 have hkey : ∀ s, s < m.Rows.length → ∃ key : zr, key.block_ = (p[s]?).getD 0 ∧ key.signature_.toL = (List.range 16).map (sgN m p s) ∧ wN m p (s : Int) = some key.signature_ := by
  intro s hs
  have ⟨a, a1, a2⟩ := z42 h hp hs
  exact ⟨⟨(p[s]?).getD 0, a⟩, rfl, a2, a1⟩
 have : ∃ key : Nat → zr, ∀ s, s < m.Rows.length → (key s).block_ = (p[s]?).getD 0 ∧ (key s).signature_.toL = (List.range 16).map (sgN m p s) ∧ wN m p (s : Int) = some (key s).signature_ := by
  classical
  refine ⟨fun s => if q : s < m.Rows.length then (hkey s q).choose else ⟨0, yh.mk ⟨0, 0⟩ ⟨0, 0⟩ ⟨0, 0⟩ ⟨0, 0⟩ ⟨0, 0⟩ ⟨0, 0⟩ ⟨0, 0⟩ ⟨0, 0⟩ ⟨0, 0⟩ ⟨0, 0⟩ ⟨0, 0⟩ ⟨0, 0⟩ ⟨0, 0⟩ ⟨0, 0⟩ ⟨0, 0⟩ ⟨0, 0⟩⟩, fun s hs => ?_⟩
  simp [hs]
  exact (hkey s hs).choose_spec
 have ⟨key, hkey⟩ := this
 have alike : ∀ s t, s < m.Rows.length → t < m.Rows.length → (key s = key t ↔ z5u m p s t) := by
  intro s t hs ht
  have ⟨a1, a2, _⟩ := hkey s hs
  have ⟨b1, b2, _⟩ := hkey t ht
  have xs : p[s]? = some p[s] := List.getElem?_eq_getElem (by omega)
  have xt : p[t]? = some p[t] := List.getElem?_eq_getElem (by omega)
  rw [xs, Option.getD_some] at a1
  rw [xt, Option.getD_some] at b1
  constructor
  ·intro e
   refine ⟨by rw [xs, xt, ← a1, ← b1, e], fun j hj => ?_⟩
   have e2 : (List.range 16).map (sgN m p s) = (List.range 16).map (sgN m p t) := by rw [← a2, ← b2, e]
   have := congrArg (fun l => l[j]?) e2
   simpa [show j < 16 by omega] using this
  ·rintro ⟨e1, e2⟩
   have e3 : (key s).signature_ = (key t).signature_ := z68 (by
    rw [a2, b2]
    refine List.map_congr_left fun j hj => ?_
    by_cases q : j < kk m
    ·exact e2 j q
    ·unfold sgN
     rw [if_neg q, if_neg q])
   have e4 : (key s).block_ = (key t).block_ := by
    rw [a1, b1]
    rw [xs, xt] at e1
    exact Option.some.inj e1
   revert e3 e4
   generalize key s = u
   generalize key t = v
   intro e3 e4
   have ⟨u0, u1⟩ := u
   have ⟨v0, v1⟩ := v
   simp only at e3 e4
   rw [e3, e4]
 unfold wY wX
 rw [gdT (by omega), zJ]
 refine Ret.mono ?_ fun q hq => ze.2 hq
 refine yH (fun st => ∃ i : Nat, st.2.2 = (i : Int) ∧ i ≤ m.Rows.length ∧ st.2.1.length = m.Rows.length ∧ (∀ s, s < i → ∃ v : Nat, st.2.1[s]? = some (v : Int) ∧ v < st.1.length ∧ Xq st.1 (key s) = some (v : Int) ∧ ∀ w : Nat, w < v → ∃ t, t < s ∧ st.2.1[t]? = some (w : Int)) ∧ (∀ w : Nat, w < st.1.length → ∃ t, t < i ∧ st.2.1[t]? = some (w : Int)) ∧
   (∀ k v, Xq st.1 k = some v → ∃ t, t < i ∧ key t = k) ∧ ∀ s t : Nat, s < i → t < i → st.2.1[s]? = st.2.1[t]? → key s = key t) (fun st => 100 - st.2.2.toNat) ⟨0, rfl, by omega, by simp [hp], fun s q => by omega, fun w q => by simp at q, fun k v q => by simp [Xq] at q, fun s t q => by omega⟩ (by show 100 - _ < _; omega) ?_
 rintro ⟨names, out, _⟩ ⟨i, rfl, hi, ho, h1, h2, h3, h4⟩
 simp only at ho h1 h2 h3 h4
 show Ret (wW m p names out (i : Int)) _
 unfold wW
 rw [y7]
 refine ⟨fun hc => ?_, fun hc => ?_⟩
 ·have hc : (i : Int) < ((p.length : Nat) : Int) := of_decide_eq_true hc
  have hiN : i < m.Rows.length := by omega
  have ⟨a1, a2, a3⟩ := hkey i hiN
  have xi : p[i]? = some p[i] := List.getElem?_eq_getElem (by omega)
  rw [xi, Option.getD_some] at a1
  have hmk : zr.mk p[i] (key i).signature_ = key i := by
   rw [← a1]
  have w2 : w64 ((i : Int) + 1) = ((i + 1 : Nat) : Int) := by rw [yf (by omega) (by omega)]; rfl
  have hoi : out[i]? = some out[i] := List.getElem?_eq_getElem (by omega)
  rw [bdT (zG xi), bdT a3, Option.bind_some, hmk]
  cases hg : Xq names (key i) with
  | none =>
   rw [Option.isSome_none, Bool.not_false, cond_true]
   unfold xg
   have hfresh : ∀ t, t < i → key t ≠ key i := fun t ht e => by
    have ⟨v, _, _, v3, _⟩ := h1 t ht
    rw [e, hg] at v3
    cases v3
   have hlen := z0q (key i) ((names.length : Nat) : Int) names hg
   rw [hmk, XO, if_pos (by simp), Option.getD_some, Option.bind_some, bdT (zG hoi), ze, w2, Int.toNat_natCast]
   have keep : ∀ t : Nat, t < i → (out.set i ((names.length : Nat) : Int))[t]? = out[t]? := fun t ht => List.getElem?_set_ne (by omega)
   have new : (out.set i ((names.length : Nat) : Int))[i]? = some ((names.length : Nat) : Int) := List.getElem?_set_self (by omega)
   refine ⟨⟨i + 1, rfl, by omega, by simp [ho], fun s hs => ?_, fun w hw => ?_, fun k v q => ?_, fun s t hs ht q => ?_⟩, by simp; omega⟩
   ·simp only
    by_cases e : s = i
    ·subst e
     refine ⟨names.length, new, by omega, by rw [XO, if_pos (by simp)], fun w hw => ?_⟩
     have ⟨t, t1, t2⟩ := h2 w hw
     exact ⟨t, t1, by rw [keep t t1]; exact t2⟩
    ·have ⟨v, v1, v2, v3, v4⟩ := h1 s (by omega)
     refine ⟨v, by rw [keep s (by omega)]; exact v1, by omega, ?_, fun w hw => ?_⟩
     ·rw [XO, if_neg (by simpa using fun q => hfresh s (by omega) q.symm)]
      exact v3
     ·have ⟨t, t1, t2⟩ := v4 w hw
      exact ⟨t, t1, by rw [keep t (by omega)]; exact t2⟩
   ·simp only at hw ⊢
    by_cases e : w < names.length
    ·have ⟨t, t1, t2⟩ := h2 w e
     exact ⟨t, by omega, by rw [keep t t1]; exact t2⟩
    ·have : w = names.length := by omega
     subst this
     exact ⟨i, by omega, new⟩
   ·simp only at q
    rw [XO] at q
    by_cases e : key i = k
    ·exact ⟨i, by omega, e⟩
    ·rw [if_neg (by simpa using e)] at q
     have ⟨t, t1, t2⟩ := h3 k v q
     exact ⟨t, by omega, t2⟩
   ·simp only at q
    have low : ∀ t, t < i → out[t]? ≠ some ((names.length : Nat) : Int) := fun t ht g => by
     have ⟨v, v1, v2, _⟩ := h1 t ht
     rw [v1] at g
     have := Option.some.inj g
     omega
    by_cases es : s = i
    ·by_cases et : t = i
     ·rw [es, et]
     ·exfalso
      rw [es, new, keep t (by omega)] at q
      exact low t (by omega) q.symm
    ·by_cases et : t = i
     ·exfalso
      rw [et, new, keep s (by omega)] at q
      exact low s (by omega) q
     ·rw [keep s (by omega), keep t (by omega)] at q
      exact h4 s t (by omega) (by omega) q
  | some v =>
   rw [Option.isSome_some, Bool.not_true, cond_false]
   unfold xg
   have ⟨t0, t1, t2⟩ := h3 _ _ hg
   have ⟨u, u1, u2, u3, u4⟩ := h1 t0 t1
   rw [t2, hg] at u3
   have hvu : v = (u : Int) := Option.some.inj u3
   rw [hmk, hg, Option.getD_some, Option.bind_some, bdT (zG hoi), ze, w2, Int.toNat_natCast]
   have keep : ∀ t : Nat, t < i → (out.set i v)[t]? = out[t]? := fun t ht => List.getElem?_set_ne (by omega)
   have new : (out.set i v)[i]? = some v := List.getElem?_set_self (by omega)
   refine ⟨⟨i + 1, rfl, by omega, by simp [ho], fun s hs => ?_, fun w hw => ?_, fun k v q => ?_, fun s t hs ht q => ?_⟩, by simp; omega⟩
   ·simp only
    by_cases e : s = i
    ·subst e
     refine ⟨u, by rw [new, hvu], u2, by rw [hg, hvu], fun w hw => ?_⟩
     have ⟨t, g1, g2⟩ := u4 w hw
     exact ⟨t, by omega, by rw [keep t (by omega)]; exact g2⟩
    ·have ⟨v', v1, v2, v3, v4⟩ := h1 s (by omega)
     refine ⟨v', by rw [keep s (by omega)]; exact v1, v2, v3, fun w hw => ?_⟩
     have ⟨t, g1, g2⟩ := v4 w hw
     exact ⟨t, g1, by rw [keep t (by omega)]; exact g2⟩
   ·simp only at hw ⊢
    have ⟨t, g1, g2⟩ := h2 w hw
    exact ⟨t, by omega, by rw [keep t g1]; exact g2⟩
   ·have ⟨t, g1, g2⟩ := h3 k v q
    exact ⟨t, by omega, g2⟩
   ·simp only at q
    have like : ∀ t, t < i → out[t]? = some v → key t = key i := fun t ht g => by
     rw [← t2]
     exact h4 t t0 ht t1 (by rw [g, u1, hvu])
    by_cases es : s = i
    ·by_cases et : t = i
     ·rw [es, et]
     ·rw [es, new, keep t (by omega)] at q
      rw [es]
      exact (like t (by omega) q.symm).symm
    ·by_cases et : t = i
     ·rw [et, new, keep s (by omega)] at q
      rw [et]
      exact like s (by omega) q
     ·rw [keep s (by omega), keep t (by omega)] at q
      exact h4 s t (by omega) (by omega) q
 ·have hc := of_decide_eq_false hc
  have : i = m.Rows.length := by omega
  subst this
  refine ze.2 ⟨ho, fun s x hx => ?_, fun s t hs ht => ?_⟩
  ·have hs : s < m.Rows.length := by have := (List.getElem?_eq_some_iff.1 hx).1; omega
   have ⟨v, v1, _, _, v4⟩ := h1 s hs
   rw [hx] at v1
   exact ⟨v, Option.some.inj v1, v4⟩
  ·rw [← alike s t hs ht]
   refine ⟨h4 s t hs ht, fun e => ?_⟩
   have ⟨v, v1, _, v3, _⟩ := h1 s hs
   have ⟨u, u1, _, u3, _⟩ := h1 t ht
   rw [e, u3] at v3
   rw [v1, u1, ← Option.some.inj v3]
end
theorem z2X (a b : List Int) (ha : a.length < 4611686018427387904) : xq a b = some (decide (a = b)) := by
 unfold xq xz
 by_cases hl : a.length = b.length
 ·have e : (((a.length : Nat) : Int) != ((b.length : Nat) : Int)) = false := by simp [hl]
  rw [e, cond_false, y8 a ha (step := fun s => yG a b s) (fun i x => if b[i]? = some x then none else some false) ?_ ?_]
  ·by_cases q : a = b
   ·rw [qA fun i x hx => by rw [Nat.zero_add, ← q, if_pos hx]]
    simp [oS, q]
   ·cases hf : zF (fun i x => if b[i]? = some x then none else some false) a 0 with
    | none =>
     exfalso
     refine q (List.ext_getElem? fun i => ?_)
     by_cases hi : i < a.length
     ·have hx : a[i]? = some a[i] := List.getElem?_eq_getElem hi
      have := yw hf i _ hx
      rw [Nat.zero_add] at this
      split at this
      ·rename_i g; rw [hx, g]
      ·cases this
     ·rw [List.getElem?_eq_none (by omega), List.getElem?_eq_none (by omega)]
    | some r =>
     have ⟨i, x, _, h2⟩ := ym hf
     split at h2
     ·cases h2
     ·cases h2
      simp [oS, q]
  ·intro i x hx
   have hi := (List.getElem?_eq_some_iff.1 hx).1
   have hy : b[i]? = some b[i] := List.getElem?_eq_getElem (by omega)
   unfold yG
   rw [decide_eq_true (by omega), cond_true, bdT (zG hx), bdT (zG hy), hy]
   by_cases e2 : x = b[i]
   ·rw [e2, bne_self_eq_false, cond_false, if_pos rfl]
    rfl
   ·have e3 : (x != b[i]) = true := by simpa using e2
    rw [e3, cond_true, if_neg fun g => e2 (Option.some.inj g).symm]
    rfl
  ·unfold yG
   rw [decide_eq_false (by omega), cond_false]
 ·have e : (((a.length : Nat) : Int) != ((b.length : Nat) : Int)) = true := by simpa using fun g : (a.length : Int) = b.length => hl (by omega)
  rw [e, cond_true, decide_eq_false fun q => hl (by rw [q])]
section
variable {m : z6} (h : VM m)
include h
omit h in theorem seq_out {s t : Nat} (q : SEq m s t) {j : Nat} (hj : j < kk m) : (E m s j).Out = (E m t j).Out ∧ ∀ w : List Nat, (∀ i ∈ w, i < kk m) → rsp m (E m s j).To w = rsp m (E m t j).To w := by
 have gen : ∀ w : List Nat, (∀ i ∈ w, i < kk m) → (E m s j).Out = (E m t j).Out ∧ rsp m (E m s j).To w = rsp m (E m t j).To w := by
  intro w hw
  have := q (j :: w) (fun i hi => by rcases List.mem_cons.1 hi with rfl | g; exact hj; exact hw i g)
  simp only [rsp, kK, List.cons.injEq] at this
  exact this
 exact ⟨(gen [] (by simp)).1, fun w hw => (gen w hw).2⟩
theorem z1V (hp : p.length = m.Rows.length) (hq : ∀ s t, s < m.Rows.length → t < m.Rows.length → SEq m s t → p[s]? = p[t]?) {s t : Nat} (hs : s < m.Rows.length) (ht : t < m.Rows.length) (q : SEq m s t) : z5u m p s t := by
 refine ⟨hq s t hs ht q, fun j hj => ?_⟩
 have ⟨o1, o2⟩ := seq_out q hj
 have hes := h.edgeAt hs hj
 have het := h.edgeAt ht hj
 unfold sgN
 rw [if_pos hj, if_pos hj, o1]
 rcases hes with ⟨a1, a2⟩ | ⟨a1, a2, a3, a4⟩
 ·rcases het with ⟨b1, b2⟩ | ⟨b1, b2, b3, b4⟩
  ·rw [if_pos a1, if_pos b1]
  ·omega
 ·rcases het with ⟨b1, b2⟩ | ⟨b1, b2, b3, b4⟩
  ·omega
  ·rw [if_neg (by omega), if_neg (by omega)]
   have e1 : (((E m s j).To.toNat : Nat) : Int) = (E m s j).To := by omega
   have e2 : (((E m t j).To.toNat : Nat) : Int) = (E m t j).To := by omega
   have := hq _ _ (by omega) (by omega) (show SEq m (E m s j).To.toNat (E m t j).To.toNat from fun w hw => by rw [e1, e2]; exact o2 w hw)
   rw [this]
theorem z2S (hp : p.length = m.Rows.length) (hr : Rgf p) (hf : ∀ s t, s < m.Rows.length → t < m.Rows.length → p[s]? = p[t]? → z5u m p s t) : ∀ (w : List Nat) (s t : Nat), s < m.Rows.length → t < m.Rows.length → p[s]? = p[t]? → (∀ i ∈ w, i < kk m) → rsp m (s : Int) w = rsp m (t : Int) w
 | [], _, _, _, _, _, _ => rfl
 | j :: w, s, t, hs, ht, e, hw => by
  have hj : j < kk m := hw j (by simp)
  have hw' : ∀ i ∈ w, i < kk m := fun i hi => hw i (by simp [hi])
  have hal := (hf s t hs ht e).2 j hj
  have hes := h.edgeAt hs hj
  have het := h.edgeAt ht hj
  have pos : ∀ u : Nat, u < m.Rows.length → 0 ≤ (p[u]?).getD 0 := fun u hu => by
   have hx : p[u]? = some p[u] := List.getElem?_eq_getElem (by omega)
   have ⟨v, v1, _⟩ := hr u _ hx
   rw [hx, Option.getD_some, v1]
   omega
  unfold sgN at hal
  rw [if_pos hj, if_pos hj] at hal
  have a0 := congrArg wo.e0 hal
  have a1 := congrArg wo.e1 hal
  simp only at a0 a1
  simp [rsp, kK, a0, List.cons.injEq, true_and]
  rcases hes with ⟨b1, b2⟩ | ⟨b1, b2, b3, b4⟩
  ·rcases het with ⟨c1, c2⟩ | ⟨c1, c2, c3, c4⟩
   ·rw [b1, c1]
   ·rw [if_pos b1, if_neg (by omega)] at a1
    have := pos (E m t j).To.toNat (by omega)
    omega
  ·rcases het with ⟨c1, c2⟩ | ⟨c1, c2, c3, c4⟩
   ·rw [if_neg (by omega), if_pos c1] at a1
    have := pos (E m s j).To.toNat (by omega)
    omega
   ·rw [if_neg (by omega), if_neg (by omega)] at a1
    have x1 : p[(E m s j).To.toNat]? = some p[(E m s j).To.toNat] := List.getElem?_eq_getElem (by omega)
    have x2 : p[(E m t j).To.toNat]? = some p[(E m t j).To.toNat] := List.getElem?_eq_getElem (by omega)
    have := z2S hp hr hf w (E m s j).To.toNat (E m t j).To.toNat (by omega) (by omega) (by rw [x1, x2] at a1 ⊢; exact congrArg some a1) hw'
    have e1 : (((E m s j).To.toNat : Nat) : Int) = (E m s j).To := by omega
    have e2 : (((E m t j).To.toNat : Nat) : Int) = (E m t j).To := by omega
    rw [e1, e2] at this
    exact this
def kZ (N : Nat) (p : List Int) : Nat := ((List.range N).flatMap fun s => (List.range N).map fun t => (s, t)).countP fun x => decide (p[x.1]? = p[x.2]?)
omit h in
theorem Ju {N s t : Nat} : (s, t) ∈ ((List.range N).flatMap fun s => (List.range N).map fun t => (s, t)) ↔ s < N ∧ t < N := by
 simp only [List.mem_flatMap, List.mem_map, List.mem_range, Prod.mk.injEq]
 constructor
 ·rintro ⟨a, ha, b, hb, rfl, rfl⟩; exact ⟨ha, hb⟩
 ·rintro ⟨a, b⟩; exact ⟨s, a, t, b, rfl, rfl⟩
theorem z1r : Ret (v6 m) fun r => r.2.2 = 0 ∧ r.1.length = m.Rows.length ∧ Rgf r.1 ∧ ∀ s t : Nat, s < m.Rows.length → t < m.Rows.length → (r.1[s]? = r.1[t]? ↔ SEq m s t) := by
 have hN := h.len64
 have hN1 := h.len1
 unfold v6 qY
 rw [Zq, VX h, Option.bind_some, bne_self_eq_false, cond_false, Option.bind_some]
 unfold wx
 rw [gdT (by omega), zJ, zJ]
 have e0 : ((m.Rows.length : Nat) : Int).toNat = m.Rows.length := by simp
 rw [e0]
 refine (yH (R := fun y : LR (List Int × Int) Empty => ∃ p n, y = .next (p, n) ∧ p.length = m.Rows.length ∧ Rgf p ∧ ∀ s t : Nat, s < m.Rows.length → t < m.Rows.length → (p[s]? = p[t]? ↔ SEq m s t))
  (fun st : LR (List Int × Int) Empty × List Int => (∃ x, st.1 = .next x) ∧ st.2.length = m.Rows.length ∧ Rgf st.2 ∧ ∀ s t : Nat, s < m.Rows.length → t < m.Rows.length → SEq m s t → st.2[s]? = st.2[t]?) (fun st => kZ m.Rows.length st.2) ⟨⟨_, rfl⟩, by simp, ?_, ?_⟩ ?_ ?_).mono ?_
 ·intro s x hx
  simp only [List.getElem?_replicate] at hx
  split at hx
  ·cases hx
   exact ⟨0, rfl, fun w q => by omega⟩
  ·cases hx
 ·intro s t hs ht _
  simp only [List.getElem?_replicate]
  rw [if_pos hs, if_pos ht]
 ·have : kZ m.Rows.length (List.replicate m.Rows.length (0 : Int)) ≤ ((List.range m.Rows.length).flatMap fun s => (List.range m.Rows.length).map fun t => (s, t)).length := List.countP_le_length
  have e : ((List.range m.Rows.length).flatMap fun s => (List.range m.Rows.length).map fun t => (s, t)).length = m.Rows.length * m.Rows.length := by
   rw [List.length_flatMap]
   simp only [List.length_map, List.length_range, List.map_const', List.sum_replicate_nat]
  rw [e] at this
  have := Nat.mul_le_mul hN hN
  show kZ m.Rows.length (List.replicate m.Rows.length (0 : Int)) < 18446744073709551616
  omega
 ·rintro ⟨y, p⟩ ⟨⟨⟨x, n⟩, rfl⟩, hp, hr, hq⟩
  simp only at hp hr hq
  show Ret (xD m (yOf fun s x => xh s.1 s.2 x) (.next (x, n)) p) _
  unfold xD
  simp only [yOf, xh, Option.bind_some, cond_true]
  rw [zJ]
  refine (Ks h hp).mono ?_
  rintro q ⟨q1, q2, q3⟩
  rw [z2X p q (by omega), Option.bind_some, y7]
  refine ⟨fun hc => ?_, fun hc => ?_⟩
  ·have hc : p = q := of_decide_eq_true hc
   rw [ze]
   refine ⟨p, w64 (n + 1), rfl, hp, hr, fun s t hs ht => ⟨fun e w hw => ?_, hq s t hs ht⟩⟩
   exact z2S h hp hr (fun s t hs ht e => (q3 s t hs ht).1 (by rw [← hc]; exact e)) w s t hs ht e hw
  ·have hc : ¬ p = q := of_decide_eq_false hc
   rw [ze]
   refine ⟨⟨⟨_, rfl⟩, q1, q2, fun s t hs ht e => (q3 s t hs ht).2 (z1V h hp hq hs ht e)⟩, ?_⟩
   show kZ m.Rows.length q < kZ m.Rows.length p
   unfold kZ
   refine WZ (fun z hz hd => ?_) ?_
   ·have ⟨s, t⟩ := z
    have ⟨hs, ht⟩ := Ju.1 hz
    simp only [decide_eq_true_eq] at hd ⊢
    exact ((q3 s t hs ht).1 hd).1
   ·refine Classical.byContradiction fun g => hc (z0b hr q2 (by omega) fun s t hs ht => ⟨fun e => ?_, fun e => ((q3 s t (by omega) (by omega)).1 e).1⟩)
    refine Classical.byContradiction fun g2 => g ⟨(s, t), Ju.2 ⟨by omega, by omega⟩, by simpa using e, by simpa using g2⟩
 ·rintro y ⟨p, n, rfl, g1, g2, g3⟩
  rw [ze]
  unfold wZ
  simp only
  rw [ze]
  exact ⟨rfl, g1, g2, g3⟩
end
theorem Qn (m : z6) : ∀ (u w : List Nat) (s : Int), aft m s (u ++ w) = aft m (aft m s u) w
 | [], _, _ => rfl
 | i :: u, w, s => by simp [List.cons_append, aft, Qn m u w]
theorem z3r (m : z6) : ∀ (w : List Nat) (s : Int), s < 0 → aft m s w < 0
 | [], s, h => h
 | i :: w, s, h => by
  simp [aft, nxE, if_pos h]
  exact z3r m w (-1) (by omega)
section
variable {m : z6} (h : VM m)
include h
theorem Wx : ∀ (n : Nat) (u : List Nat), u.length ≤ n → Wd (kk m) u → 0 ≤ aft m 0 u → ∃ w, Wd (kk m) w ∧ w.length < m.Rows.length ∧ w.length ≤ u.length ∧ aft m 0 w = aft m 0 u
 | n, u, hn, hu, h0 => by
  have l1 := h.len1
  rcases Nat.lt_or_ge u.length m.Rows.length with q | q
  ·exact ⟨u, hu, q, Nat.le_refl _, rfl⟩
  ·cases n with
   | zero => omega
   | succ n =>
    have hin0 : Vc m 0 := ⟨by omega, by omega⟩
    have hpre : ∀ i, 0 ≤ aft m 0 (u.take i) ∧ aft m 0 (u.take i) < (m.Rows.length : Int) := by
     intro i
     have e := Qn m (u.take i) (u.drop i) 0
     rw [List.take_append_drop] at e
     have h1 := z13 h (u.take i) 0 hin0 fun j hj => hu j (List.mem_of_mem_take hj)
     refine ⟨?_, h1.2⟩
     rcases Int.lt_or_le (aft m 0 (u.take i)) 0 with g | g
     ·have := z3r m (u.drop i) _ g
      omega
     ·exact g
    have hex : ∃ i j, i < j ∧ j ≤ m.Rows.length ∧ aft m 0 (u.take i) = aft m 0 (u.take j) := by
     refine Classical.byContradiction fun hno => ?_
     have hnd : ((List.range (m.Rows.length + 1)).map fun i => (aft m 0 (u.take i)).toNat).Nodup := by
      unfold List.Nodup
      rw [List.pairwise_map]
      refine List.Pairwise.imp_of_mem ?_ (List.pairwise_lt_range (n := m.Rows.length + 1))
      intro a b ha hb hab e
      have h1 := (hpre a).1
      have h2 := (hpre b).1
      exact hno ⟨a, b, hab, by have := List.mem_range.1 hb; omega, by omega⟩
     have := Y0 m.Rows.length _ hnd fun x hx => by
      obtain ⟨i, _, rfl⟩ := List.mem_map.1 hx
      have := hpre i
      omega
     simp at this
     omega
    have ⟨i, j, hij, hj, e⟩ := hex
    have e1 : aft m 0 (u.take i ++ u.drop j) = aft m 0 u := by
     rw [Qn, e, ← Qn, List.take_append_drop]
    have hlen : (u.take i ++ u.drop j).length ≤ n := by simp; omega
    have ⟨w, w1, w2, w3, w4⟩ := Wx n (u.take i ++ u.drop j) hlen (fun x hx => by
     rcases List.mem_append.1 hx with q | q
     ·exact hu x (List.mem_of_mem_take q)
     ·exact hu x (List.mem_of_mem_drop q)) (by rw [e1]; exact h0)
    exact ⟨w, w1, w2, by simp at w3; omega, w4.trans e1⟩
end
end Go.Own
end
