/- -/
import Derived.Test.YtkalhfmehmcofaaGreatPartE
noncomputable section
set_option linter.unusedVariables false
set_option linter.unusedSimpArgs false
namespace Go.Own
open Go.Proofs
set_option maxRecDepth 100000
set_option maxHeartbeats 8000000
def X0 : XH Tryz.prog := xB zo
theorem z2M : Tryz.prog.follows .mixedOrders = true := by kernel_rfl
theorem zbS {l : List y6} {s : y6} (h : ((l.map y6.k).contains s.k) = false) : ∀ t ∈ l, t.k ≠ s.k := fun t ht e => by
 rw [List.contains_eq_mem, ← e, decide_eq_true (List.mem_map_of_mem ht)] at h
 cases h
class HS (X : outParam (XH Tryz.prog)) (l : outParam (List y6)) where
 c : Ctr
 ok : vT Tryz.prog c
 has : ∀ t ∈ l, c.Has t
noncomputable abbrev zbd (f : Func) : Code := f.body.getD .skip
def zeP : ResultVar → Nat × Option Nat
 | .tmp t => (t, none)
 | .cell t c => (t, some c)
noncomputable abbrev rsO (f : Func) := f.results.toList.map zeP
theorem zbs (f : Func) : f.results = ((rsO f).map z0K).toArray := by
 have : z0K ∘ zeP = id := funext fun r => by cases r <;> rfl
 simp [List.map_map, this]
def OkH : List y6 → Prop
 | s :: _ => s.Ok Tryz.prog
 | [] => True
def eT2 {α β : Type} (f : α → A) (g : β → A) (r : α × β) : A := .tup [f r.1, g r.2]
def eT3 {α β γ : Type} (f : α → A) (g : β → A) (h : γ → A) (r : α × β × γ) : A := .tup [f r.1, g r.2.1, h r.2.2]
def z9S {ρ : Type} (k : Nat) (er : ρ → A) (F : Option ρ) (g : List Bool := []) : y6 := spF (α := Unit) k (fun _ => []) er (fun _ => F) g fun _ _ _ => rfl
section
variable {α β γ δ ε ρ : Type}
noncomputable abbrev Inj (f : α → A) : Prop := ∀ x y, f x = f y → x = y
def kA (k : Nat) (e1 : α → A) (er : ρ → A) (F : α → Option ρ) (g : List Bool := []) (i1 : Inj e1 := by exact vS.inj) : y6 := spF k (fun x => [e1 x]) er F g fun x y h => i1 _ _ (List.cons.inj h).1
def uV (k : Nat) (e1 : α → A) (e2 : β → A) (er : ρ → A) (F : α → β → Option ρ) (g : List Bool := []) (i1 : Inj e1 := by exact vS.inj) (i2 : Inj e2 := by exact vS.inj) : y6 := spF (α := α × β) k (fun x => [e1 x.1, e2 x.2]) er (fun x => F x.1 x.2) g fun x y h => by simp at h; exact Prod.ext (i1 _ _ h.1) (i2 _ _ h.2)
def Jp (k : Nat) (e1 : α → A) (e2 : β → A) (e3 : γ → A) (er : ρ → A) (F : α → β → γ → Option ρ) (g : List Bool := []) (i1 : Inj e1 := by exact vS.inj) (i2 : Inj e2 := by exact vS.inj) (i3 : Inj e3 := by exact vS.inj) : y6 := spF (α := α × β × γ) k (fun x => [e1 x.1, e2 x.2.1, e3 x.2.2]) er (fun x => F x.1 x.2.1 x.2.2) g fun x y h => by simp at h; exact Prod.ext (i1 _ _ h.1) (Prod.ext (i2 _ _ h.2.1) (i3 _ _ h.2.2))
def zbc (k : Nat) (e1 : α → A) (e2 : β → A) (e3 : γ → A) (e4 : δ → A) (er : ρ → A) (F : α → β → γ → δ → Option ρ) (g : List Bool := []) (i1 : Inj e1 := by exact vS.inj) (i2 : Inj e2 := by exact vS.inj) (i3 : Inj e3 := by exact vS.inj) (i4 : Inj e4 := by exact vS.inj) : y6 := spF (α := α × β × γ × δ) k (fun x => [e1 x.1, e2 x.2.1, e3 x.2.2.1, e4 x.2.2.2]) er (fun x => F x.1 x.2.1 x.2.2.1 x.2.2.2) g fun x y h => by simp at h; exact Prod.ext (i1 _ _ h.1) (Prod.ext (i2 _ _ h.2.1) (Prod.ext (i3 _ _ h.2.2.1) (i4 _ _ h.2.2.2)))
variable {X : XH Tryz.prog} {l : List y6} [H : HS X l] {k : Nat} {e1 : α → A} {e2 : β → A} {e3 : γ → A} {e4 : δ → A} {er : ρ → A} {g : List Bool} {i1 : Inj e1} {i2 : Inj e2} {i3 : Inj e3} {i4 : Inj e4} {a : α} {b : β} {c : γ} {d : δ} {r : ρ} {vs : List A} {F0 : Option ρ} {F1 : α → Option ρ} {F2 : α → β → Option ρ} {F3 : α → β → γ → Option ρ} {F4 : α → β → γ → δ → Option ρ}
noncomputable abbrev zx (Y : XH Tryz.prog) : HS Y l := ⟨H.c, H.ok, H.has⟩
noncomputable abbrev zd {Y m} (n : Nat) (h : l.drop n = m := by rfl) : HS Y m := ⟨H.c, H.ok, fun t q => H.has t (List.mem_of_mem_drop (h ▸ q))⟩
noncomputable abbrev za {Y : XH Tryz.prog} (s : y6) (hs : s.Ok Tryz.prog) (h : ((l.map y6.k).contains s.k) = false := by kernel_rfl) : HS Y (s :: l) := ⟨H.c.add s, Ctr.add_ok H.ok hs, fun t q => (List.mem_cons.1 q).elim (fun e => e ▸ Ctr.add_has _ _) fun q => (H.has t q).add (zbS h t q)⟩
theorem hat (i : Nat) {s : y6} (h : l[i]? = some s := by rfl) : H.c.Has s := H.has s (List.mem_of_getElem? h)
def Hk (g : List Bool) {k : Nat} {vs : List A} {r : A} (zg : H.c.gives k = g) (h : H.c.run k (H.c.norm k vs) = some r) : HO := ([.g g, .a r], [ob zg, ob h])
def zg (i : Nat) {s : y6} (h : l[i]? = some s := by rfl) : HO := Hg (hat i h).gives
noncomputable abbrev zR [H : HS X l] (k : Nat) (vs : List A) (r : A) : Prop := H.c.run k (H.c.norm k vs) = some r
theorem zf0 (i : Nat) (hr : F0 = some r) (za : vs.map A.loose = []) (h : l[i]? = some (z9S k er F0 g) := by rfl) : zR k vs (er r) := z9W (x := ()) (hat i h) hr za
theorem zf1 (i : Nat) (hr : F1 a = some r) (za : vs.map A.loose = [e1 a]) (h : l[i]? = some (kA k e1 er F1 g i1) := by rfl) : zR k vs (er r) := z9W (hat i h) hr za
theorem zf2 (i : Nat) (hr : F2 a b = some r) (za : vs.map A.loose = [e1 a, e2 b]) (h : l[i]? = some (uV k e1 e2 er F2 g i1 i2) := by rfl) : zR k vs (er r) := z9W (x := (a, b)) (hat i h) hr za
theorem zf3 (i : Nat) (hr : F3 a b c = some r) (za : vs.map A.loose = [e1 a, e2 b, e3 c]) (h : l[i]? = some (Jp k e1 e2 e3 er F3 g i1 i2 i3) := by rfl) : zR k vs (er r) := z9W (x := (a, b, c)) (hat i h) hr za
theorem zf4 (i : Nat) (hr : F4 a b c d = some r) (za : vs.map A.loose = [e1 a, e2 b, e3 c, e4 d]) (h : l[i]? = some (zbc k e1 e2 e3 e4 er F4 g i1 i2 i3 i4) := by rfl) : zR k vs (er r) := z9W (x := (a, b, c, d)) (hat i h) hr za
def zC0 (i : Nat) (hr : F0 = some r) (h : l[i]? = some (z9S k er F0 g) := by rfl) : HO := Hk g (Us (hat i h)) (zf0 i hr loN h)
def zC1 (i : Nat) (hr : F1 a = some r) (h : l[i]? = some (kA k e1 er F1 g i1) := by rfl) (za : [e1 a].map A.loose = [e1 a] := by exact loC _ _ loN) : HO := Hk g (Us (hat i h)) (zf1 i hr za h)
def zC2 (i : Nat) (hr : F2 a b = some r) (h : l[i]? = some (uV k e1 e2 er F2 g i1 i2) := by rfl) (za : [e1 a, e2 b].map A.loose = [e1 a, e2 b] := by exact loC _ _ (loC _ _ loN)) : HO := Hk g (Us (hat i h)) (zf2 i hr za h)
def zC3 (i : Nat) (hr : F3 a b c = some r) (h : l[i]? = some (Jp k e1 e2 e3 er F3 g i1 i2 i3) := by rfl) (za : [e1 a, e2 b, e3 c].map A.loose = [e1 a, e2 b, e3 c] := by exact loC _ _ (loC _ _ (loC _ _ loN))) : HO := Hk g (Us (hat i h)) (zf3 i hr za h)
def zC4 (i : Nat) (hr : F4 a b c d = some r) (h : l[i]? = some (zbc k e1 e2 e3 e4 er F4 g i1 i2 i3 i4) := by rfl) (za : [e1 a, e2 b, e3 c, e4 d].map A.loose = [e1 a, e2 b, e3 c, e4 d] := by exact loC _ _ (loC _ _ (loC _ _ (loC _ _ loN)))) : HO := Hk g (Us (hat i h)) (zf4 i hr za h)
include H in
theorem zk2 (i : Nat) (hr : F2 a b = some r) (h : l[i]? = some (uV k e1 e2 er F2 g i1 i2) := by rfl) : wB Tryz.prog k [e1 a, e2 b] (er r) := z9k H.ok (hat i h) (x := (a, b)) hr
variable {fn : Func} {pn : List (Nat × Value)} {n : Fr} {Q : Exit → St → Prop} {c : Code} {fs : List Fm} {st : St} {σ τ : Type} {J : St → Prop}
noncomputable abbrev hEt (keep : Bool) (rs : List (Nat × Option Nat)) (r : A) (E : St → Prop) : Prop := ∀ st x R U, z9U wp keep rs st = some (x, R, U) → LeV x r → E st
noncomputable abbrev zN (fn : Func) (pn : List (Nat × Value)) : Fr := ⟨fn.ntmps, pn⟩
noncomputable abbrev zW (fn : Func) (pn : List (Nat × Value)) (Q : Exit → St → Prop) (c : Code) (fs : List Fm) (s : St) : Prop := AWP Tryz.prog (zN fn pn) c s (Qf Tryz.prog (zN fn pn) fs Q)
def zOk (f : Func) (n : Nat) : Bool := f.body.isSome && !(f.name == "runtime.NumGoroutine") && Nat.ble n f.ntmps
noncomputable abbrev zB (keep : Bool) (fn : Func) (r : A) (vs : List A) : Prop := ∀ E, hEt keep (rsO fn) r E → zW fn [] (z7O E) (zbd fn) [] (ofL (z0q 0 vs))
theorem ySp {k : Nat} {r : A} {ls : List A} (keep : Bool) (hf : Tryz.prog.funcs[k]? = some fn) (h : zB keep fn r ls) {m : Nat} (hz : zOk fn m = true) (hm : ls.length = m) : wB Tryz.prog k ls r := by
 subst hm
 simp only [zOk, Bool.and_eq_true, Bool.not_eq_true'] at hz
 obtain ⟨b, hb⟩ := Option.isSome_iff_exists.1 hz.1.1
 exact z7i (tt := wp) (keep := keep) (rs := rsO fn) (n := ⟨fn.ntmps, []⟩) (body := zbd fn) zo hf hz.1.2 (by simp [zbd, hb]) rfl (zbs fn) (Nat.le_of_ble_eq_true hz.2) h
theorem zY {k : Nat} {r : A} {ls : List A} (keep : Bool) (hf : Tryz.prog.funcs[k]? = some fn) (h : zB keep fn r ls) (hz : zOk fn ls.length = true := by kernel_rfl) : wB Tryz.prog k ls r := ySp keep hf h hz rfl
theorem zO1 (h : ∀ a r, F1 a = some r → wB Tryz.prog k [e1 a] (er r)) : (kA k e1 er F1 g i1).Ok Tryz.prog := WE fun x r q => h x r q
theorem zO2 (h : ∀ a b r, F2 a b = some r → wB Tryz.prog k [e1 a, e2 b] (er r)) : (uV k e1 e2 er F2 g i1 i2).Ok Tryz.prog := WE fun x r q => h x.1 x.2 r q
theorem zO3 (h : ∀ a b c r, F3 a b c = some r → wB Tryz.prog k [e1 a, e2 b, e3 c] (er r)) : (Jp k e1 e2 e3 er F3 g i1 i2 i3).Ok Tryz.prog := WE fun x r q => h x.1 x.2.1 x.2.2 r q
theorem zO4 (h : ∀ a b c d r, F4 a b c d = some r → wB Tryz.prog k [e1 a, e2 b, e3 c, e4 d] (er r)) : (zbc k e1 e2 e3 e4 er F4 g i1 i2 i3 i4).Ok Tryz.prog := WE fun x r q => h x.1 x.2.1 x.2.2.1 x.2.2.2 r q
theorem yS0 (keep : Bool) (hf : Tryz.prog.funcs[k]? = some fn) (h : ∀ r, F0 = some r → zB keep fn (er r) []) (hz : zOk fn 0 = true := by kernel_rfl) : (z9S k er F0 g).Ok Tryz.prog := WE fun _ r q => ySp keep hf (h r q) hz rfl
theorem yS1 (keep : Bool) (hf : Tryz.prog.funcs[k]? = some fn) (h : ∀ a r, F1 a = some r → zB keep fn (er r) [e1 a]) (hz : zOk fn 1 = true := by kernel_rfl) : (kA k e1 er F1 g i1).Ok Tryz.prog := zO1 fun a r q => ySp keep hf (h a r q) hz rfl
theorem yS2 (keep : Bool) (hf : Tryz.prog.funcs[k]? = some fn) (h : ∀ a b r, F2 a b = some r → zB keep fn (er r) [e1 a, e2 b]) (hz : zOk fn 2 = true := by kernel_rfl) : (uV k e1 e2 er F2 g i1 i2).Ok Tryz.prog := zO2 fun a b r q => ySp keep hf (h a b r q) hz rfl
theorem yS3 (keep : Bool) (hf : Tryz.prog.funcs[k]? = some fn) (h : ∀ a b c r, F3 a b c = some r → zB keep fn (er r) [e1 a, e2 b, e3 c]) (hz : zOk fn 3 = true := by kernel_rfl) : (Jp k e1 e2 e3 er F3 g i1 i2 i3).Ok Tryz.prog := zO3 fun a b c r q => ySp keep hf (h a b c r q) hz rfl
theorem yS4 (keep : Bool) (hf : Tryz.prog.funcs[k]? = some fn) (h : ∀ a b c d r, F4 a b c d = some r → zB keep fn (er r) [e1 a, e2 b, e3 c, e4 d]) (hz : zOk fn 4 = true := by kernel_rfl) : (zbc k e1 e2 e3 e4 er F4 g i1 i2 i3 i4).Ok Tryz.prog := zO4 fun a b c d r q => ySp keep hf (h a b c d r q) hz rfl
section
variable {E : St → Prop} {r : A} {keep : Bool} {rs : List (Nat × Option Nat)} (hE : hEt keep rs r E) (L : List HO)
noncomputable abbrev zrE [H : HS X l] (n : Fr) (keep : Bool) (rs : List (Nat × Option Nat)) (c : Code) (fs : List Fm) (st : St) (L : List HO) := zdd X wp H.c n keep rs 4000 c fs st (hoH L)
include hE in
theorem yEx (x : A) (hle : LeV x r) (e : zrE n keep rs c fs st L = some (x, hoO L) := by kernel_rfl) : AWP Tryz.prog n c st (Qf Tryz.prog n fs (z7O E)) := zcf X zo H.ok z2M hE 4000 (hoB L) (by rw [← z2X]; exact e) hle
include hE in
theorem yE (e : zrE n keep rs c fs st L = some (r, hoO L) := by kernel_rfl) : AWP Tryz.prog n c st (Qf Tryz.prog n fs (z7O E)) := yEx hE L r (LeV.refl _) e
def vE (r : Option (A × List Prop)) : A := match r with | some (x, _) => x | none => .dead 0
include hE in
theorem yEl (e : zrE n keep rs c fs st L = some (vE (zrE n keep rs c fs st L), hoO L) := by kernel_rfl) (e2 : (vE (zrE n keep rs c fs st L)).loose = r := by kernel_rfl) : AWP Tryz.prog n c st (Qf Tryz.prog n fs (z7O E)) := yEx hE L _ ⟨fun _ _ _ _ q => e2 ▸ q.loose⟩ e
end
noncomputable abbrev zzq [H : HS X l] (n : Fr) (ks : List Nat) (c : Code) (fs : List Fm) (st : St) (L : List HO) := zdc X wp H.c n ks 4000 c fs st (hoH L)
theorem yW {ks : List Nat} {s : z3c} {s0 : St} (L : List HO) (e : zzq n ks c fs st L = some (s, s0, hoO L)) (h : ∀ st0, canon ks st0 = s0 → s.sem Tryz.prog n Q st0) : AWP Tryz.prog n c st (Qf Tryz.prog n fs Q) :=
 z9F X zo H.ok z2M ks 4000 (hoB L) (by rw [← z2X]; exact e) h
noncomputable abbrev hJt (ks : List Nat) (J : St → Prop) (Inv : τ → Prop) (S : τ → List (Nat × T)) : Prop := ∀ st' l' z, Inv z → Own.canon ks st' = ofL l' → LeL l' (S z) → J st'
variable {live : List Nat} {S : τ → List (Nat × T)} {Inv : τ → Prop}
theorem yBx (hJ : hJt live J Inv S) (z : τ) (hz : Inv z) (l : List (Nat × T)) (hl : LeL l (S z)) (L : List HO) (e : zzq n live c fs st L = some (.back J, ofL l, hoO L) := by kernel_rfl) : AWP Tryz.prog n c st (Qf Tryz.prog n fs Q) := yW L e fun st0 h0 => hJ st0 _ z hz h0 hl
theorem yB (hJ : hJt live J Inv S) (z : τ) (hz : Inv z) (L : List HO) (e : zzq n live c fs st L = some (.back J, ofL (S z), hoO L) := by kernel_rfl) : AWP Tryz.prog n c st (Qf Tryz.prog n fs Q) := yBx hJ z hz _ (LeL.refl _) L e
theorem yF (ex : Exit) (l : List (Nat × T)) (L : List HO) (h : ∀ st0, Own.canon (UM l) st0 = ofL l → Q ex st0) (e : zzq n (UM l) c fs st L = some (.fin ex, ofL l, hoO L) := by kernel_rfl) : AWP Tryz.prog n c st (Qf Tryz.prog n fs Q) := yW L e h
theorem yAt (c' : Code) (fs' : List Fm) (l : List (Nat × T)) (L : List HO) (h : ∀ st0, Own.canon (UM l) st0 = ofL l → AWP Tryz.prog n c' st0 (Qf Tryz.prog n fs' Q)) (e : zzq n (UM l) c fs st L = some (.at c' fs', ofL l, hoO L) := by kernel_rfl) : AWP Tryz.prog n c st (Qf Tryz.prog n fs Q) := yW L e h
theorem yD (i : Nat) (L : List Nat) {k : Nat} {xs0 : List A} {ls : List (Value × A)} {pv : Value} (hd : Va Tryz.prog k xs0 ls pv) (xs : List A) (hx : Yy xs xs0) (Lh : List HO) (hQ : ∀ st', Q (.panic (vu pv)) st') (e : zdI X wp H.c n c i L st (hoH Lh) = some ([.fn k []], xs, ls, hoO Lh) := by kernel_rfl) : AWP Tryz.prog n c st (Qf Tryz.prog n fs Q) := yD6 X zo H.ok i L hd xs hx Lh e hQ
theorem yP (i : Nat) {T : Nat} {v : Value} (Lh : List HO) (hQ : ∀ st', Q (.panic (vu (.iface T v))) st') (e : zdk X wp H.c n c i st (hoH Lh) = some (.atom (.iface T v), hoO Lh) := by kernel_rfl) : AWP Tryz.prog n c st (Qf Tryz.prog n fs Q) := yP6 X zo H.ok i Lh e hQ
def dgL (n : Nat) : List Nat := Nat.rec (motive := fun _ => Nat → List Nat → List Nat) (fun _ l => l) (fun _ ih m l => if m < 10 then l else ih (m / 10) (m % 10 :: l)) 40 n []
noncomputable instance (n : Nat) : OfNat (List Nat) n := ⟨dgL n⟩
noncomputable abbrev zzt (p : List Nat) (d : Nat) (fn : Func) : Code := sub (p ++ [d]) (zbd fn)
noncomputable abbrev zzp (p : List Nat) (fn : Func) : Code := sub p (zbd fn)
noncomputable abbrev zzm (p : List Nat) (Js : List (St → Prop)) (fn : Func) := frs p Js (zbd fn) []
noncomputable abbrev zzr [H : HS X l] (fn : Func) (pn : List (Nat × Value)) (ks : List Nat) (c : Code) (fs : List Fm) (st : St) (L : List HO) := zzq (zN fn pn) ks c fs st L
noncomputable abbrev zzs [H : HS X l] (fn : Func) (pn : List (Nat × Value)) (ks : List Nat) (c : Code) (fs : List Fm) (st : St) (L : List HO) : St := stO (zzr fn pn ks c fs st L)
noncomputable abbrev zzu (p : List Nat) (Js : List (St → Prop)) (fn : Func) (s : St) (L : List HO) : Option (z3c × St × List Prop) := some (.at (zzp p fn) (zzm p Js fn), s, hoO L)
noncomputable abbrev zzv (fn : Func) (pn : List (Nat × Value)) (Q : Exit → St → Prop) (p : List Nat) (Js : List (St → Prop)) (Inv : σ → Prop) (S : σ → St) : Prop := ∀ z, Inv z → zW fn pn Q (zzt p 1 fn) (zzm p Js fn) (S z)
noncomputable abbrev zzw (fn : Func) (pn : List (Nat × Value)) (Q : Exit → St → Prop) (p : List Nat) (Js : List (St → Prop)) (live : List Nat) (Inv : σ → Prop) (S : σ → List (Nat × T)) (s : St) : Prop := ∀ J : St → Prop, hJt live J Inv S → zW fn pn Q (zzt p 2 fn) (.pre J :: zzm p Js fn) s
noncomputable abbrev rdT (fn : Func) (pn : List (Nat × Value)) (Q : Exit → St → Prop) (p : List Nat) (Js : List (St → Prop)) (ks : List Nat) (f : σ → Option (LR σ τ)) (t : τ) (S : σ → List (Nat × T)) : Prop := ∀ x m lr, f x = some lr → zfw f m t lr → ∀ J : St → Prop, hJt ks J (fun x' => JN f m x' = some t) S → zW fn pn Q (zzt p 0 fn) (.pre J :: zzm p Js fn) (ofL (S x))
variable (path : List Nat) (Js : List (St → Prop))
theorem yC (ks : List Nat) (L : List HO) (h : zW fn pn Q (zzp path fn) (zzm path Js fn) (zzs fn pn ks c fs st L)) (e : zzr fn pn ks c fs st L = zzu path Js fn (zzs fn pn ks c fs st L) L := by kernel_rfl) : zW fn pn Q c fs st := yW L e fun st0 h0 => AWP.canon ks (by rw [h0]; exact h)
theorem yA (l : List (Nat × T)) (L : List HO) (h : zW fn pn Q (zzp path fn) (zzm path Js fn) (ofL l)) (e : zzr fn pn (UM l) c fs st L = zzu path Js fn (ofL l) L := by kernel_rfl) : zW fn pn Q c fs st := yW L e fun st0 h0 => JR h0 h
section
variable {f : σ → Option (LR σ τ)} {t : τ}
theorem yLx (f : σ → Option (LR σ τ)) (S : σ → List (Nat × T)) (x0 : σ) {t : τ} (ht : loop f x0 = some t) (l : List (Nat × T)) (hl : LeL l (S x0)) (L : List HO) (round : rdT fn pn Q path Js (UM l) f t S) (e : zzr fn pn (UM l) c fs st L = zzu path Js fn (ofL l) L := by kernel_rfl) (e2 : zzp path fn = .loop (zzt path 0 fn) := by kernel_rfl) (hk : ∀ x, UM (S x) = UM l := by exact fun _ => rfl) : zW fn pn Q c fs st := by
 refine yW L e fun st0 h0 => ?_
 refine z7B (X := σ × Nat) e2 (UM l) (fun x => JN f x.2 x.1 = some t) (fun x => x.2) (fun x => S x.1) (x0, z3s) _ h0 hl ht ?_
 rintro ⟨x, k⟩ hx J hJ
 obtain ⟨m, lr, rfl, hf, hr⟩ := zdt hx
 exact round x m lr hf hr J fun st' l' x' h1 h2 h3 => hJ st' l' (x', m) h1 (Nat.lt_succ_self m) h2 h3
theorem yL (f : σ → Option (LR σ τ)) (S : σ → List (Nat × T)) (x0 : σ) {t : τ} (ht : loop f x0 = some t) (L : List HO) (round : rdT fn pn Q path Js (UM (S x0)) f t S) (e : zzr fn pn (UM (S x0)) c fs st L = zzu path Js fn (ofL (S x0)) L := by kernel_rfl) (e2 : zzp path fn = .loop (zzt path 0 fn) := by kernel_rfl) (hk : ∀ x, UM (S x) = UM (S x0) := by exact fun _ => rfl) : zW fn pn Q c fs st := yLx path Js f S x0 ht _ (LeL.refl _) L round e e2 hk
variable (ks : List Nat) (dl : σ → List (Nat × T)) {x0 : σ}
theorem yM (ht : loop f x0 = some t) (L : List HO) (round : rdT fn pn Q path Js ks f t fun x => clS ks (zzs fn pn ks c fs st L) (dl x)) (e : zzr fn pn ks c fs st L = zzu path Js fn (ofL (clS ks (zzs fn pn ks c fs st L) (dl x0))) L := by kernel_rfl) (e2 : zzp path fn = .loop (zzt path 0 fn) := by kernel_rfl) : zW fn pn Q c fs st := by
 have hk : ∀ x, UM (clS ks (zzs fn pn ks c fs st L) (dl x)) = ks := fun x => z2P _ _ _
 refine yLx path Js f (fun x => clS ks (zzs fn pn ks c fs st L) (dl x)) x0 ht _ (LeL.refl _) L ?_ (by rw [hk]; exact e) e2 fun x => by rw [hk, hk]
 rw [hk]
 exact round
theorem yMb {ρ' : Type} {k : τ → Option ρ'} {r : ρ'} (hb : Option.bind (loop f x0) k = some r) (L : List HO) (round : ∀ t, k t = some r → rdT fn pn Q path Js ks f t fun x => clS ks (zzs fn pn ks c fs st L) (dl x)) (e : zzr fn pn ks c fs st L = zzu path Js fn (ofL (clS ks (zzs fn pn ks c fs st L) (dl x0))) L := by kernel_rfl) (e2 : zzp path fn = .loop (zzt path 0 fn) := by kernel_rfl) : zW fn pn Q c fs st := by
 obtain ⟨t, ht, h⟩ := zt hb
 exact yM path Js ks dl ht L (round t h) e e2
def okT : T → Bool
 | .own _ | .d _ | .gone => true
 | .als _ p _ _ => p.isEmpty
 | _ => false
theorem zbI {x : T} (h : okT x = true) : LeT x x := by
 cases x with
 | own x => exact ⟨x, rfl, inferInstance⟩
 | d x => exact ⟨x, rfl, inferInstance⟩
 | gone => rfl
 | als r p er ec => cases p with
  | nil => exact ⟨rfl, rfl⟩
  | cons a p => cases h
 | _ => cases h
theorem z85 {s : St} : ∀ {d d' : List (Nat × T)}, Q1 d d' → UM d = UM d' → ∀ {ks : List Nat}, (ks.all fun k => okT (s k).t) = true → Q1 (clS ks s d) (clS ks s d')
 | _, _, _, _, [], _ => Q1.nil
 | d, d', hd, hk, k :: ks, h => by
  simp only [List.all_cons, Bool.and_eq_true] at h
  refine Q1.cons' ?_ (z85 hd hk h.2)
  have q := (hd.ent k).2.2
  clear hd
  induction d generalizing d' with
  | nil => cases d' with
   | nil => exact zbI h.1
   | cons y d' => cases hk
  | cons x d ih => cases d' with
   | nil => cases hk
   | cons y d' =>
    simp only [UM, List.map_cons, List.cons.injEq] at hk
    simp only [ofL, hk.1] at q
    simp only [List.lookup, hk.1]
    by_cases e : k = y.1
    ·subst e
     simpa using q
    ·simp only [e, if_false] at q
     rw [show (k == y.1) = false by simpa using e]
     exact ih _ hk.2 q
theorem yMx (ht : loop f x0 = some t) (d0 : List (Nat × T)) (L : List HO) (round : rdT fn pn Q path Js ks f t fun x => clS ks (zzs fn pn ks c fs st L) (dl x)) (e : zzr fn pn ks c fs st L = zzu path Js fn (ofL (clS ks (zzs fn pn ks c fs st L) d0)) L := by kernel_rfl) (e2 : zzp path fn = .loop (zzt path 0 fn) := by kernel_rfl) (ho : (ks.all fun k => okT (zzs fn pn ks c fs st L k).t) = true := by kernel_rfl) (hk : UM d0 = UM (dl x0) := by rfl) (hd : Q1 d0 (dl x0) := by infer_instance) : zW fn pn Q c fs st := by
 have hk : ∀ d, UM (clS ks (zzs fn pn ks c fs st L) d) = ks := fun d => z2P _ _ _
 refine yLx path Js f (fun x => clS ks (zzs fn pn ks c fs st L) (dl x)) x0 ht (clS ks (zzs fn pn ks c fs st L) d0) ⟨.inr (z85 hd ‹_› ho)⟩ L ?_ (by rw [hk]; exact e) e2 fun x => by rw [hk, hk]
 rw [hk]
 exact round
end
noncomputable abbrev zI {ρ : Type} (F : σ → Option ρ) (r : ρ) (z : σ) : Prop := F z = some r
variable (live : List Nat) (Inv : σ → Prop) (S : σ → List (Nat × T))
theorem yK (ks : List Nat) (L : List HO) (h1 : zzv fn pn Q path Js Inv fun z => ofL (S z)) (h2 : zzw fn pn Q path Js live Inv S (zzs fn pn ks c fs st L)) (e : zzr fn pn ks c fs st L = zzu path Js fn (zzs fn pn ks c fs st L) L := by kernel_rfl) (e2 : zzp path fn = .seq (zzt path 2 fn) (zzt path 1 fn) := by kernel_rfl) : zW fn pn Q c fs st := by
 refine yW L e fun st0 h0 => ?_
 show AWP Tryz.prog _ (zzp path fn) st0 _
 rw [e2]
 refine AWP.canon ks ?_
 rw [h0]
 refine AWP.nextC live fun K hK => h2 K fun st' l' z hz he hl => hK st' ?_
 rw [he]
 exact z7C hl (h1 z hz)
theorem yJ (l : List (Nat × T)) (L : List HO) (h1 : zzv fn pn Q path Js Inv fun z => ofL (S z)) (h2 : zzw fn pn Q path Js live Inv S (ofL l)) (e : zzr fn pn (UM l) c fs st L = zzu path Js fn (ofL l) L := by kernel_rfl) (e2 : zzp path fn = .seq (zzt path 2 fn) (zzt path 1 fn) := by kernel_rfl) : zW fn pn Q c fs st := yW L e fun st0 h0 => z7D e2 live (UM l) _ h0 Inv S h1 h2
theorem yN (ks : List Nat) (L : List HO) (h1 : zzv fn pn Q path Js Inv fun z => ofL (clS live (zzs fn pn ks c fs st L) (S z))) (h2 : zzw fn pn Q path Js live Inv (fun z => clS live (zzs fn pn ks c fs st L) (S z)) (zzs fn pn ks c fs st L)) (e : zzr fn pn ks c fs st L = zzu path Js fn (zzs fn pn ks c fs st L) L := by kernel_rfl) (e2 : zzp path fn = .seq (zzt path 2 fn) (zzt path 1 fn) := by kernel_rfl) : zW fn pn Q c fs st := yK path Js live Inv _ ks L h1 h2 e e2
theorem yNs (L : List HO) (h1 : zzv fn pn Q path Js Inv fun z => ofL (clS live (zzs fn pn live c fs st L) (S z))) (h2 : zzw fn pn Q path Js live Inv (fun z => clS live (zzs fn pn live c fs st L) (S z)) (zzs fn pn live c fs st L)) (e : zzr fn pn live c fs st L = zzu path Js fn (zzs fn pn live c fs st L) L := by kernel_rfl) (e2 : zzp path fn = .seq (zzt path 2 fn) (zzt path 1 fn) := by kernel_rfl) : zW fn pn Q c fs st := yK path Js live Inv _ live L h1 h2 e e2
theorem yKs (L : List HO) (h1 : zzv fn pn Q path Js Inv fun z => ofL (S z)) (h2 : zzw fn pn Q path Js live Inv S (zzs fn pn live c fs st L)) (e : zzr fn pn live c fs st L = zzu path Js fn (zzs fn pn live c fs st L) L := by kernel_rfl) (e2 : zzp path fn = .seq (zzt path 2 fn) (zzt path 1 fn) := by kernel_rfl) : zW fn pn Q c fs st := yK path Js live Inv S live L h1 h2 e e2
end
def Hb {t b : Bool} {p : Prop} (h : t = b ∧ p) : HO := Hq h.1
noncomputable instance {t b : Bool} {p : Prop} (h : t = b ∧ p) : CoeDep (t = b ∧ p) h HO := ⟨Hb h⟩
theorem ye {α β γ : Type} {x : Option α} {f : α → Option β} {g : α → β → Option γ} {r : γ} (h : Option.bind x (fun u => Option.bind (f u) (g u)) = some r) : ∃ u, x = some u ∧ ∃ v, f u = some v ∧ g u v = some r := by obtain ⟨u, h, q⟩ := zt h; exact ⟨u, h, zt q⟩
theorem jG {α β γ δ : Type} {x : Option α} {f : α → Option β} {g : α → β → Option γ} {k : α → β → γ → Option δ} {r : δ} (h : Option.bind x (fun u => Option.bind (f u) fun v => Option.bind (g u v) (k u v)) = some r) : ∃ u, x = some u ∧ ∃ v, f u = some v ∧ ∃ w, g u v = some w ∧ k u v w = some r := by obtain ⟨u, h, q⟩ := zt h; exact ⟨u, h, ye q⟩
theorem z7x {α β γ δ ε : Type} {x : Option α} {f : α → Option β} {g : α → β → Option γ} {k : α → β → γ → Option δ} {l : α → β → γ → δ → Option ε} {r : ε} (h : Option.bind x (fun u => Option.bind (f u) fun v => Option.bind (g u v) fun w => Option.bind (k u v w) (l u v w)) = some r) : ∃ u, x = some u ∧ ∃ v, f u = some v ∧ ∃ w, g u v = some w ∧ ∃ y, k u v w = some y ∧ l u v w y = some r := by obtain ⟨u, h, q⟩ := zt h; exact ⟨u, h, jG q⟩
theorem z3x {α β γ δ ε ζ : Type} {x : Option α} {f : α → Option β} {g : α → β → Option γ} {k : α → β → γ → Option δ} {l : α → β → γ → δ → Option ε} {m : α → β → γ → δ → ε → Option ζ} {r : ζ} (h : Option.bind x (fun u => Option.bind (f u) fun v => Option.bind (g u v) fun w => Option.bind (k u v w) fun y => Option.bind (l u v w y) (m u v w y)) = some r) : ∃ u, x = some u ∧ ∃ v, f u = some v ∧ ∃ w, g u v = some w ∧ ∃ y, k u v w = some y ∧ ∃ z, l u v w y = some z ∧ m u v w y z = some r := by obtain ⟨u, h, q⟩ := zt h; exact ⟨u, h, z7x q⟩
theorem z8Z : zcB Tryz.prog 22 9 := z8J (e := 5) Tryz.underlying22 Tryz.underlying5 Tryz.underlying9
theorem z4m : z5g Tryz.prog 220 9 4 z05 (.atom (.bool false)) := z6I Tryz.underlying220 Tryz.underlying9 ⟨.bool false, fun w => z2n (f := Tryz.t4) (by kernel_rfl) rfl w, fun S => yc.2 ⟨rfl, rfl⟩⟩ rfl
theorem z1d : z5g Tryz.prog 229 234 3 (QM [.i64, .i64, .i64, .i64, .i64, .i64, .i64, .i64, .i64, .i64, .i64, .i64, .i64, .i64, .i64, .i64, .i64, .i64, .i64, .i64, .i64, .i64, .i64, .i64, .i64, .i64, .i64, .i64, .i64, .i64, .i64, .i64, .i64]) (.atom (.int .i64 0)) := z6J Tryz.underlying229 _ Tryz.underlying234 (exq Go.Ex.zeM) (z2q.eqn rfl) rfl ⟨.int .i64 0, fun w => z2n (f := Tryz.t3) (by kernel_rfl) rfl w, fun S => yc.2 ⟨rfl, rfl⟩⟩ rfl
theorem zcT : z9K Tryz.prog 66 1 false := z6o zo (t := 57) Tryz.so66 rfl rfl (by kernel_rfl) (by decide)
def l0 : List y6 := []
def l1 : List y6 := kA 17 yj zO xF :: l0
theorem Qa [H : HS X0 l0] : OkH l1 := yS1 false Tryz.func17 fun l_ r0 aa E hE => by
 refine yN 111 [] [2,3] (zI ZZ r0) (fun z => [(3, .own (.box (.agg [I 1, I 2, eOs 1 false yj z])))]) [0,2,3] [Hh (.cut 2)] ?_ fun J1 au => ?_
 ·rintro fl aa
  cases aa
  exact yE hE [Hm (shM yj yj fl)]
 ·obtain ⟨t2, ht2, aa⟩ := zt aa
  refine yMx 111210 [J1] [0,2,3,4] (fun x => [(3, .own (.box (.agg [I 1, I 2, eOs 1 false yj x.1]))), (4, .d (I x.2))]) ht2 [(3, .own (.box (.agg [I 1, I 2, eOs 1 true yj []]))), (4, .d (I 0))] [] fun ⟨dv, i_⟩ m2 aw ae hl1 J2 ax => ?_
  let Z0 : List HO := [Ha (lnM F9_ l_)]
  obtain c0 | c0 := zy ae
  ·obtain ⟨g0, ae⟩ := gdE c0.2
   obtain ⟨g1, ae⟩ := gdE ae
   cases ae
   exact yB ax _ hl1 (Z0 ++ [c0, Hn (slA g0), Hn (slB g0), Hn (zcV F9_ g0), Ha (slM 2 false F9_ l_ i_.toNat (w64 (i_ + 1)).toNat), Hq (dM yj ([((l_.drop i_.toNat).take ((w64 (i_ + 1)).toNat - i_.toNat))] : List (List z7))), Hn (dM yj ([((l_.drop i_.toNat).take ((w64 (i_ + 1)).toNat - i_.toNat))] : List (List z7))), Hn (aL yj yj g1), Hl (aM yj dv ([((l_.drop i_.toNat).take ((w64 (i_ + 1)).toNat - i_.toNat))] : List (List z7)))])
  ·cases c0.2
   cases hl1
   exact yB au dv aa (Z0 ++ [c0])
def l2 : List y6 := z9S 124 F9_ qg :: l1
theorem Q8 [H : HS X0 l1] : OkH l2 := yS0 false Tryz.func124 fun r0 aa E hE => by
 cases aa
 exact yE hE []
def l3 : List y6 := uV 97 zO F9_ eB WR :: l2
theorem Q9 [H : HS X0 l2] : OkH l3 := yS2 true Tryz.func97 fun m_ x_ r0 aa E hE => by
 obtain ⟨r_, h0, aa⟩ := zt aa
 let Z0 : List HO := [zC0 0 h0]
 obtain c0 | c0 := zy aa
 ·cases c0.2
  exact yE hE (Z0 ++ (rpN 10 (Hb c0) []))
 ·let Z1 : List HO := (Z0 ++ (rpN 4 (Hb c0) []))
  obtain c1 | c1 := zy c0.2
  ·let Z2 : List HO := (Z1 ++ (rpN 5 (Hb c1) [Ha (lnM yj m_.Rows), c1, c0, c1, c0]))
   obtain c2 | c2 := zy c1.2
   ·let Z3 : List HO := (Z2 ++ [c2, c2, c2, c0, c2, c0])
    obtain c3 | c3 := zy c2.2
    ·cases c3.2
     exact yE hE (Z3 ++ (rpN 5 (Hb c3) [c0, c3, c0]))
    ·cases c3.2
     exact yE hE (Z3 ++ (rpN 5 (Hb c3) [c0, c3, c0]))
   ·cases c2.2
    exact yE hE (Z2 ++ (Hb c2 :: Hb c2 :: Hb c2 :: Hb c0 :: Hb c2 :: Hb c0 :: (rpN 5 qF [c0, qF, c0])))
  ·cases c1.2
   exact yE hE (Z1 ++ (rpN 6 (Hb c1) (Hb c0 :: Hb c1 :: Hb c0 :: qF :: qF :: qF :: Hb c0 :: qF :: Hb c0 :: (rpN 5 qF [c0, qF, c0]))))
def l4 : List y6 := uV 96 F9_ JS eB ZY :: l3
theorem Wz [H : HS X0 l3] : OkH l4 := yS2 true Tryz.func96 fun x_ x1 r0 aa E hE => by
 obtain ⟨r_, h0, aa⟩ := zt aa
 cases aa
 exact yE hE [zC2 0 h0]
def l5 : List y6 := uV 123 yj (Ve 96 JS) (eI .i64) xy :: l4
theorem wN [H : HS X0 l4] : OkH l5 := yS2 true Tryz.func123 fun s_ f_ r0 aa E hE => by
 refine yK 11 [] [] (fun z : Unit => xh = some r0) (fun z => []) [0,1] [Hh (.cut 1)] ?_ fun J1 au => ?_
 ·rintro ⟨⟩ aa
  cases aa
  exact yE hE []
 ·refine yMb 11210 [J1] [0,1,7,8] (fun x => [(8, .d (I x))]) aa  [Ha (lnM F9_ s_)] fun t2 aa x8 m2 aw ae hl1 J2 ax => ?_
  obtain c0 | c0 := zy ae
  ·obtain ⟨d9, h0, r_, h1, ae⟩ := ye c0.2
   let Z0 : List HO := [c0, Hi F9_ h0, zC2 0 h1]
   obtain c1 | c1 := zy ae
   ·cases c1.2
    cases hl1
    cases aa
    exact yE hE (Z0 ++ [c1])
   ·cases c1.2
    exact yB ax _ hl1 (Z0 ++ [c1])
  ·cases c0.2
   cases hl1
   exact yB au () aa [c0]
def l6 : List y6 := uV 95 yj (Ve 96 JS) eB xi :: l5
theorem wq [H : HS X0 l5] : OkH l6 := yS2 true Tryz.func95 fun s_ f_ r0 aa E hE => by
 obtain ⟨r_, h0, aa⟩ := zt aa
 cases aa
 exact yE hE [zC2 0 h0]
def l7 : List y6 := kA 64 zO (eI .i64) yR :: l6
theorem UH [H : HS X0 l6] : OkH l7 := yS1 true Tryz.func64 fun m_ r0 aa E hE => by
 obtain c0 | c0 := zy aa
 ·cases c0.2
  exact yE hE (rpN 4 (Hb c0) (rpN 6 qT []))
 ·let Z0 : List HO := (rpN 4 (Hb c0) [])
  obtain c1 | c1 := zy c0.2
  ·cases c1.2
   exact yE hE (Z0 ++ (rpN 5 (Hb c1) [qT]))
  ·let Z1 : List HO := (Z0 ++ [c1, c1, c1, Ha (lnM yj m_.Rows), c1, c1])
   obtain c2 | c2 := zy c1.2
   ·cases c2.2
    exact yE hE (Z1 ++ [c2])
   ·obtain c3 | c3 := zy c2.2
    ·cases c3.2
     exact yE hE (Z1 ++ (Hb c2 :: (rpN 4 (Hb c3) (rpN 6 qT []))))
    ·let Z2 : List HO := (Z1 ++ (Hb c2 :: (rpN 4 (Hb c3) [])))
     obtain c4 | c4 := zy c3.2
     ·cases c4.2
      exact yE hE (Z2 ++ (rpN 5 (Hb c4) [qT]))
     ·let Z3 : List HO := (Z2 ++ [c4, c4, c4, Ha (lnM yj m_.Rows), c4, c4])
      obtain c5 | c5 := zy c4.2
      ·cases c5.2
       exact yE hE (Z3 ++ [c5])
      ·refine yK 1111 [] [] (fun z : Unit => kW = some r0) (fun z => []) [1] (Z3 ++ [c5, Hh (.cut 0)]) ?_ fun J1 au => ?_
       ·rintro ⟨⟩ aa
        cases aa
        exact yE hE []
       ·refine yMb 1111210 [J1] [1,34,35,36] (fun x => [(36, .d (I x))]) c5.2  [Ha (lnM yj m_.Rows), Hh (.n 1 [1])] fun t2 aa ov m2 aw ae hl1 J2 ax => ?_
        obtain c6 | c6 := zy ae
        ·obtain ⟨al, h0, ae⟩ := zt c6.2
         let Z4 : List HO := [c6, Hi yj h0, Ha (lnM F9_ al)]
         obtain c7 | c7 := zy ae
         ·cases c7.2
          cases hl1
          cases aa
          exact yE hE (Z4 ++ (rpN 4 (Hb c7) [qT]))
         ·obtain ⟨r_, h1, ae⟩ := zt c7.2
          let Z5 : List HO := (Z4 ++ [c7, c7, c7, zC2 0 h1, c7])
          obtain c8 | c8 := zy ae
          ·cases c8.2
           cases hl1
           cases aa
           exact yE hE (Z5 ++ [c8])
          ·cases c8.2
           exact yB ax _ hl1 (Z5 ++ [c8])
        ·cases c6.2
         cases hl1
         exact yB au () aa [c6]
def l8 : List y6 := kA 83 zO (zg6 (zdG (eI .i64) (Ve 106 JS)) (zdG (eI .i64) (Ve 108 JS)) (zdG (eI .i64) (Ve 110 JS))) YW :: l7
theorem Vi [H : HS X0 l7] : OkH l8 := yS1 false Tryz.func83 fun m_ r0 aa E hE => by
 cases aa
 exact yE hE []
def l9 : List y6 := kA 153 zO (Ve 165 JS) XR :: l8
theorem UG [H : HS X0 l8] : OkH l9 := yS1 true Tryz.func153 fun m_ r0 aa E hE => by
 cases aa
 exact yE hE []
variable {σ : Type}
abbrev Yv (x0 : z6) (YY : σ → kB) (fk : Int) (kp : σ) : List (Nat × T) := [(0, .own (.opq (YY kp).q)), (8, .d (eSl 1 false yj x0.Rows)), (9, .d (I ((x0.Rows.length : Nat) : Int))), (10, .d (I fk))]
abbrev Yt (x0 : z6) (YY : σ → kB) (fk : Int) (al : List z7) (gx : σ) (ba : Int) : List (Nat × T) := [(0, .own (.opq (YY gx).q)), (3, .d (I fk)), (8, .d (eSl 1 false yj x0.Rows)), (9, .d (I ((x0.Rows.length : Nat) : Int))), (10, .d (I fk)), (15, .d (eSl 2 false F9_ al)), (16, .d (I ((al.length : Nat) : Int))), (17, .d (I ba))]
abbrev Yu (x0 : z6) (YY : σ → kB) (de : σ) (fk : Int) : List (Nat × T) := [(0, .own (.opq (YY de).q)), (8, .d (eSl 1 false yj x0.Rows)), (9, .d (I ((x0.Rows.length : Nat) : Int))), (10, .d (I fk))]
theorem Wy [H : HS X0 l9] (x0 : z6) : z2m Tryz.prog (.fn 165 [.sptr (.agg [I x0.Inputs, I x0.Outputs, eSl 1 false yj x0.Rows])]) (fun (x : wC Int × z7) (_ : Bool) (_ : Value) => [F0_ x.1, F9_ x.2]) (@uP x0) := by
 refine QQ (tt := wp) (nt := Tryz.f165.ntmps) (body := zbd Tryz.f165) zo Tryz.func165 rfl (by kernel_rfl) rfl rfl (by show (2 : Nat) ≤ 31; decide) ?_
 intro σ yv YY yy hy sg r0 aa E hE
 obtain ⟨t1, ht1, aa⟩ := zt aa
 refine yL 110 [] (fun s => qU x0 yy s.1 s.2) (fun x => Yu x0 YY x.1 x.2) (sg, 0) ht1  [Ha (lnM yj x0.Rows)] fun ⟨de, fk⟩ m1 aw ae hl1 J1 au => ?_
 obtain c0 | c0 := zy ae
 ·refine yKs 110011 [J1] [0,8,9,10] (zI (qV fk) aw) (fun z => Yv x0 YY fk z) [c0, Hh (.cut 0)] ?_ fun J2 ax => ?_
  ·rintro kp ae
   cases ae
   exact yB au _ hl1 []
  ·obtain ⟨al, h0, t3, ht3, ae⟩ := ye c0.2
   refine yL 11001120110 [J1, J2] (fun s => qS yy fk al s.1 s.2) (fun x => Yt x0 YY fk al x.1 x.2) (de,0) ht3  [Hi yj h0, Ha (lnM F9_ al)] fun ⟨gx, ba⟩ m3 dc ah hl2 J3 bk => ?_
   obtain c1 | c1 := zy ah
   ·obtain ⟨ak, h1, yr, h2, ah⟩ := ye c1.2
    let Z0 : List HO := [c1, Hi F9_ h1, Hn (Qo (yv := yv) (Y := YY) (enc := (fun (x : wC Int × z7) (_ : Bool) (_ : Value) => [F0_ x.1, F9_ x.2])) (s := gx) (x := ((wC.mk fk ba), ak)) (s' := yr.1) (b := yr.2) (v := .nilFunc) [F0_ (wC.mk fk ba), F9_ ak] (show Yy [F0_ (wC.mk fk ba), F9_ ak] [F0_ (wC.mk fk ba), F9_ ak] from inferInstance))]
    obtain c2 | c2 := zy ah
    ·cases c2.2
     cases hl2
     cases ae
     cases hl1
     cases aa
     exact yF (H := zx ((YA (P := Tryz.prog) wp hy 27 (s := gx) (x := ((wC.mk fk ba), ak)) (s' := yr.1) (b := yr.2) .nilFunc h2).or X0)) .ret [(0, .own (.opq (YY yr.1).q))] (Z0 ++ [c2]) fun st0 h0 => hE _ st0 (.inr rfl) h0
    ·cases c2.2
     exact yB (H := zx ((YA (P := Tryz.prog) wp hy 27 (s := gx) (x := ((wC.mk fk ba), ak)) (s' := yr.1) (b := yr.2) .nilFunc h2).or X0)) bk _ hl2 (Z0 ++ [c2])
   ·cases c1.2
    cases hl2
    exact yB ax gx ae [c1]
 ·cases c0.2
  cases hl1
  cases aa
  exact yF .normal [(0, .own (.opq (YY de).q))] [c0] fun st0 h0 => hE _ st0 (.inl rfl) h0
def l10 : List y6 := kA 154 (eSl 2 false F0_) (eSl 2 true F0_) vJ :: l9
theorem jX [H : HS X0 l9] : OkH l10 := yS1 true Tryz.func154 fun s_ r0 aa E hE => by
 obtain ⟨g0, aa⟩ := gdE aa
 cases aa
 exact yE hE [Ha (lnM F0_ s_), Ha (lnM F0_ s_), Hn (slB g0), Hn (slC g0), Hn (z8L F0_ g0), Ha (zcU 2 F0_ s_ 0 ((s_.length : Nat) : Int).toNat)]
def l11 : List y6 := kA 139 zO (eSl 2 true F0_) jP :: l10
theorem Xr [H : HS X0 l10] : OkH l11 := yS1 true Tryz.func139 fun m_ r0 aa E hE => by
 refine yK 111 [] [3] (zI uC r0) (fun z => [(3, .own (.box (eOs 2 false F0_ z)))]) [1,3] [Hh (.cut 2)] ?_ fun J1 au => ?_
 ·rintro out aa
  obtain ⟨r_, h0, aa⟩ := zt aa
  cases aa
  exact yE hE [zg 0, Hm (shM F0_ F0_ out), Hs (zf1 0 h0 (loC (eSl 2 false F0_) out <| loN)), Hm (shM F0_ F0_ out)]
 ·obtain ⟨ai, h1, t2, ht2, aa⟩ := ye aa
  refine yAt (sub [1,1,2,1,0] (zbd Tryz.f139)) (frs [1,1,2,1,0] [J1] (zbd Tryz.f139) []) [(3, .own (.box (eOs 2 true F0_ []))), (7, .d (.fn 165 [.sptr (.agg [I ai.Inputs, I ai.Outputs, eSl 1 false yj ai.Rows])]))] [zC1 1 h1] fun st0 h0 => ?_
  refine VV (g := .tmp 7) (ps := [8,9]) (assign := (sub [1,1,2,1,0,0] (zbd Tryz.f139))) (body := (sub [1,1,2,1,0,1] (zbd Tryz.f139))) (K := 165) (caps := [.sptr (.agg [I ai.Inputs, I ai.Outputs, eSl 1 false yj ai.Rows])]) (by kernel_rfl) [3,7] (fun s => [(3, .own (.box (eOs 2 false F0_ s))), (7, .d (.fn 165 [.sptr (.agg [I ai.Inputs, I ai.Outputs, eSl 1 false yj ai.Rows])]))]) (fun z => nomatch z) (fun z => nomatch z) ((fun (x : wC Int × z7) (_ : Bool) (_ : Value) => [F0_ x.1, F9_ x.2])) (F := @uP ai) (fun s x => wz s x.1 x.2) ([] : List (wC Int)) t2 _ h0 inferInstance (by kernel_rfl) (by decide) (fun _ => rfl) (by rintro ⟨⟩) (by kernel_rfl) (fun _ _ _ => rfl) (Wy (H := zd 1) ai) ht2 ?_ ?_
  ·rintro qu aj ⟨x8, x9⟩ vr aw ae
   replace ae : wz aj x8 x9 = some aw := ae
   refine yF .normal [(3, .own (.box (eOs 2 false F0_ aj))), (4, .own (.box (F0_ x8))), (5, .own (.box (F9_ x9))), (7, .d (.fn 165 [.sptr (.agg [I ai.Inputs, I ai.Outputs, eSl 1 false yj ai.Rows])]))] [] fun st0 h0 => ⟨rfl, JR h0 ?_⟩
   obtain ⟨am, h2, ae⟩ := zt ae
   let Z0 : List HO := [zC0 8 h2]
   obtain c0 | c0 := zy ae
   ·obtain ⟨g0, ae⟩ := gdE c0.2
    cases ae
    exact yF .normal ([(3, .own (.box (eOs 2 false F0_ (aj ++ [x8])))), (7, .d (.fn 165 [.sptr (.agg [I ai.Inputs, I ai.Outputs, eSl 1 false yj ai.Rows])]))]) (Z0 ++ [c0, Hq (dM F0_ [x8]), Hn (dM F0_ [x8]), Hn (aL F0_ F0_ g0), Hl (aM F0_ aj [x8])]) fun st0 h0 => ⟨rfl, _, h0, LeL.refl _⟩
   ·cases c0.2
    exact yF .normal ([(3, .own (.box (eOs 2 false F0_ aj))), (7, .d (.fn 165 [.sptr (.agg [I ai.Inputs, I ai.Outputs, eSl 1 false yj ai.Rows])]))]) (Z0 ++ [c0]) fun st0 h0 => ⟨rfl, _, h0, LeL.refl _⟩
  ·rcases t2 with aj | z
   ·dsimp only at aa
    exact uF (by kernel_rfl) (au _ [(3, .own (.box (eOs 2 false F0_ aj)))] aj aa (show Own.canon [3] _ = ofL _ by kernel_rfl) inferInstance)
   ·cases z
def l12 : List y6 := kA 107 zO (eT2 eB (eI .i64)) kV :: l11
theorem W1 [H : HS X0 l11] : OkH l12 := yS1 false Tryz.func107 fun m_ r0 aa E hE => by
 obtain ⟨r_, h0, aa⟩ := zt aa
 let Z0 : List HO := [zC1 4 h0]
 obtain c0 | c0 := zy aa
 ·cases c0.2
  exact yE hE (Z0 ++ [c0])
 ·obtain ⟨ai, h1, aa⟩ := zt c0.2
  cases aa
  exact yE hE (Z0 ++ [c0, zC1 0 h1, Ha (lnM F0_ ai)])
def l13 : List y6 := kA 106 JS eB kR :: l12
theorem W0 [H : HS X0 l12] : OkH l13 := yS1 true Tryz.func106 fun x0 r0 aa E hE => by
 obtain ⟨r_, h0, aa⟩ := zt aa
 cases aa
 exact yE hE [zC1 0 h0]
theorem Y5 [H : HS X0 l13] (ct : Value) (lv : Value) (lw : Value) : ∀ (fu : Nat) (s_ : Int) (y0 : List Bool) (y1 : z6) (r0 : List Bool × z6), xO fu s_ y0 y1 = some r0 → yl Tryz.prog (.fn 140 [.atom ct, .atom lv, .atom lw]) [I s_] ([ct, lv, lw].zip [.box (eOs 1 true eB y0), .box (.agg [I y1.Inputs, I y1.Outputs, eSl 1 false yj y1.Rows]), .box (.fn 140 [.atom ct, .atom lv, .atom lw])]) (.tup []) [.box (eOs 1 true eB r0.1), .box (.agg [I r0.2.Inputs, I r0.2.Outputs, eSl 1 false yj r0.2.Rows]), .box (.fn 140 [.atom ct, .atom lv, .atom lw])] := by
 intro fu
 induction fu with
 | zero => intro s_ y0 y1 r0 aa; exact nomatch (show none = some r0 from aa)
 | succ fu ih =>
  intro s_ y0 y1 r0 aa
  replace aa : ua (xO fu) s_ y0 y1 = some r0 := aa
  generalize xO fu = mg at ih aa
  refine z0b (tt := wp) (nt := Tryz.f140.ntmps) (body := zbd Tryz.f140) [1,2,3] zo Tryz.func140 rfl (by kernel_rfl) rfl rfl (by show (4 : Nat) ≤ 33; decide) (by decide) rfl rfl (fun E hE => ?_) rfl
  obtain c0 | c0 := zy aa
  ·cases c0.2
   exact yF .ret [(1, .own (.box (eOs 1 true eB y0))), (2, .own (.box (.agg [I y1.Inputs, I y1.Outputs, eSl 1 false yj y1.Rows]))), (3, .own (.box (.fn 140 [.atom ct, .atom lv, .atom lw])))] (rpN 5 (Hb c0) [qT]) fun st0 h0 => hE _ st0 (.inr rfl) (ui h0 ⟨⟨rfl, rfl⟩, ⟨⟨rfl, rfl⟩, ⟨⟨rfl, rfl⟩, trivial⟩⟩⟩)
  ·obtain ⟨se, h0, aa⟩ := zt c0.2
   let Z0 : List HO := [c0, c0, c0, Hn (iL eB h0), c0, Hs (iM eB h0), c0]
   obtain c1 | c1 := zy aa
   ·cases c1.2
    exact yF .ret [(1, .own (.box (eOs 1 true eB y0))), (2, .own (.box (.agg [I y1.Inputs, I y1.Outputs, eSl 1 false yj y1.Rows]))), (3, .own (.box (.fn 140 [.atom ct, .atom lv, .atom lw])))] (Z0 ++ [c1]) fun st0 h0 => hE _ st0 (.inr rfl) (ui h0 ⟨⟨rfl, rfl⟩, ⟨⟨rfl, rfl⟩, ⟨⟨rfl, rfl⟩, trivial⟩⟩⟩)
   ·obtain ⟨sk, h1, al, h2, t1, ht1, aa⟩ := jG c1.2
    refine yM 11110 [] [1,2,3,22,23,24] (fun x => [(1, .own (.box (eOs 1 true eB x.1))), (2, .own (.box (.agg [I x.2.1, I x.2.2.1, eSl 1 false yj x.2.2.2.1]))), (24, .d (I x.2.2.2.2))]) ht1  (Z0 ++ [c1, Hn (iL eB h1), Hs (iM eB h1), Hs (iM eB h1), Hl (sM eB y0 s_ true), Hi yj h2, Ha (lnM F9_ al)]) fun ⟨x1, iy, il, ki, fe⟩ m1 aw ae hl1 J1 au => ?_
    obtain c2 | c2 := zy ae
    ·obtain ⟨ak, h3, r_, h4, ae⟩ := ye c2.2
     cases ae
     exact yB (H := zx ((Jt (P := Tryz.prog) wp [1,2,3] (ih _ _ _ _ h4) 31).or X0)) au _ hl1 [c2, Hi F9_ h3, Hn (Zp (f := .fn 140 [.atom ct, .atom lv, .atom lw]) (xs := [(eI .i64) ak.To]) (ls := [(ct, .box (eOs 1 true eB x1)), (lv, .box (.agg [I iy, I il, eSl 1 false yj ki])), (lw, .box (.fn 140 [.atom ct, .atom lv, .atom lw]))]) (r := .tup []) (ys := [.box (eOs 1 true eB r_.1), .box (.agg [I r_.2.Inputs, I r_.2.Outputs, eSl 1 false yj r_.2.Rows]), .box (.fn 140 [.atom ct, .atom lv, .atom lw])]) [(eI .i64) ak.To] (show Yy [(eI .i64) ak.To] [(eI .i64) ak.To] from inferInstance))]
    ·cases c2.2
     cases hl1
     cases aa
     exact yF .normal [(1, .own (.box (eOs 1 true eB x1))), (2, .own (.box (.agg [I iy, I il, eSl 1 false yj ki]))), (3, .own (.box (.fn 140 [.atom ct, .atom lv, .atom lw])))] [c2] fun st0 h0 => hE _ st0 (.inl rfl) (ui h0 ⟨⟨rfl, rfl⟩, ⟨⟨rfl, rfl⟩, ⟨⟨rfl, rfl⟩, trivial⟩⟩⟩)
def l14 : List y6 := uV 155 (eSl 1 false eB) eB (eI .i64) u4 :: l13
theorem kC [H : HS X0 l13] : OkH l14 := yS2 true Tryz.func155 fun s_ v_ r0 aa E hE => by
 refine yK 11 [] [] (fun z : Unit => wP = some r0) (fun z => []) [0,1] [Hh (.cut 1)] ?_ fun J1 au => ?_
 ·rintro ⟨⟩ aa
  cases aa
  exact yE hE []
 ·refine yMb 11210 [J1] [0,1,7,8] (fun x => [(8, .d (I x))]) aa  [Ha (lnM eB s_)] fun t2 aa x8 m2 aw ae hl1 J2 ax => ?_
  obtain c0 | c0 := zy ae
  ·obtain ⟨d9, h0, ae⟩ := zt c0.2
   obtain c1 | c1 := zy ae
   ·cases c1.2
    cases hl1
    cases aa
    exact yE hE [c0, Hi eB h0, c1]
   ·cases c1.2
    exact yB ax _ hl1 [c0, Hi eB h0, c1]
  ·cases c0.2
   cases hl1
   exact yB au () aa [c0]
def l15 : List y6 := uV 141 (eSl 1 false eB) eB eB wR :: l14
theorem qC [H : HS X0 l14] : OkH l15 := yS2 true Tryz.func141 fun s_ v_ r0 aa E hE => by
 obtain ⟨r_, h0, aa⟩ := zt aa
 cases aa
 exact yE hE [zC2 0 h0]
def l16 : List y6 := kA 109 zO (eT2 eB (eI .i64)) vM :: l15
theorem Xs [H : HS X0 l15] : OkH l16 := yS1 false Tryz.func109 fun m_ r0 aa E hE => by
 obtain ⟨r_, h0, aa⟩ := zt aa
 let Z0 : List HO := [zC1 8 h0]
 obtain c0 | c0 := zy aa
 ·cases c0.2
  exact yE hE (Z0 ++ [c0])
 ·obtain ⟨g0, aa⟩ := gdE c0.2
  refine yC 11111 [] [1,5,6] (Z0 ++ [c0, Ha (lnM yj m_.Rows), Hn (rL g0), Ha (rM 1 eB ((m_.Rows.length : Nat) : Int) false), Hh (.cut 1)]) ?_
  refine z1z (by kernel_rfl) 5 fun bm => ?_
  refine z1z (by kernel_rfl) 1 fun qn => ?_
  refine z1z (by kernel_rfl) 6 fun ly => ?_
  obtain ⟨ai, h1, am, h2, aa⟩ := ye aa
  cases aa
  exact yE (H := zx ((Jt (P := Tryz.prog) wp [5,1,6] (Y5 (H := zd 2) bm qn ly z3s _ _ _ _ h1) 18).or ((xMk Tryz.prog wp).or X0))) hE [Hn (Zp (f := .fn 140 [.atom bm, .atom qn, .atom ly]) (xs := [(eI .i64) 0]) (ls := [(bm, .box (eOs 1 true eB (List.replicate ((m_.Rows.length : Nat) : Int).toNat false))), (qn, .box (.agg [I m_.Inputs, I m_.Outputs, eSl 1 false yj m_.Rows])), (ly, .box (.fn 140 [.atom bm, .atom qn, .atom ly]))]) (r := .tup []) (ys := [.box (eOs 1 true eB ai.1), .box (.agg [I ai.2.Inputs, I ai.2.Outputs, eSl 1 false yj ai.2.Rows]), .box (.fn 140 [.atom bm, .atom qn, .atom ly])]) [(eI .i64) 0] (show Yy [(eI .i64) 0] [(eI .i64) 0] from inferInstance)), zg 0, Hm (shM eB eB ai.1), Hs (zf2 0 h2 (loC (eSl 1 true eB) ai.1 <| loC eB false <| loN))]
def l17 : List y6 := kA 108 JS eB kQ :: l16
theorem XZ [H : HS X0 l16] : OkH l17 := yS1 true Tryz.func108 fun x0 r0 aa E hE => by
 obtain ⟨r_, h0, aa⟩ := zt aa
 cases aa
 exact yE hE [zC1 0 h0]
def l18 : List y6 := kA 142 zO (Ve 156 JS) XO :: l17
theorem UE [H : HS X0 l17] : OkH l18 := yS1 true Tryz.func142 fun m_ r0 aa E hE => by
 cases aa
 exact yE hE []
def l19 : List y6 := Jp 166 zO F5_ (eI .i64) F8_ Uj :: l18
theorem JB [H : HS X0 l18] : OkH l19 := yS3 false Tryz.func166 fun m_ p_ s_ r0 aa E hE => by
 refine yN 111 [] [6,7] (zI YT r0) (fun z => [(7, .own (.box (F8_ z)))]) [1,2,3,6,7] [Hh (.cut 2)] ?_ fun J1 au => ?_
 ·rintro out aa
  cases aa
  exact yE hE []
 ·obtain ⟨al, h0, t2, ht2, aa⟩ := ye aa
  refine yM 111210 [J1] [1,6,7,14,15,16] (fun x => [(7, .own (.box (F8_ x.1))), (16, .d (I x.2))]) ht2  [Hi yj h0, Ha (lnM F9_ al)] fun ⟨aj, ep⟩ m2 aw ae hl1 J2 ax => ?_
  obtain c0 | c0 := zy ae
  ·refine yNs 111210011 [J1, J2] [1,6,7,14,15,16] (zI (qN ep) aw) (fun z => [(7, .own (.box (F8_ z)))]) [c0, Hh (.cut 0)] ?_ fun J3 bk => ?_
   ·rintro ay ae
    cases ae
    exact yB ax _ hl1 []
   ·obtain ⟨ak, h1, cell, h2, arr, h3, ae⟩ := jG c0.2
    replace h3 := yY h3
    let Z0 : List HO := [Hi F9_ h1, Hn (⟨arJ (by kernel_rfl) (i0 h2), (iL F0_ h2).2⟩ : vR wp 231 ((zD.toL aj).map F0_) ep = true ∧ ep.toNat < ((zD.toL aj).map F0_).length), Hh (.op 9), Hh (.f), Hs (iM F0_ h2), Hh (.f), Hs (iM F0_ h2), Hx (.l ((zD.toL arr).map F0_)) ((zD.setL F0_ aj ep (wC.mk ak.Out (-1))).trans (congrArg (fun q => (zD.toL q).map F0_) h3))]
    obtain c1 | c1 := zy ae
    ·obtain ⟨bg, h4, ca, h5, arr1, h6, ae⟩ := jG c1.2
     replace h6 := yY h6
     exact yB bk arr1 ae (Z0 ++ [c1, Hi (eI .i64) h4, Hn (⟨arJ (by kernel_rfl) (i0 h5), (iL F0_ h5).2⟩ : vR wp 231 ((zD.toL arr).map F0_) ep = true ∧ ep.toNat < ((zD.toL arr).map F0_).length), Hh (.op 2), Hh (.f), Hs (iM F0_ h5), Hn (⟨rfl, by decide⟩ : true = true ∧ 1 < 2), Hh (.op 0), Hh (.f), Hs (iM F0_ h5), Hh (.f), Hx (.a (I ca.e1)) (rfl : some (I ca.e1 : A) = some (I ca.e1)), Hh (.f), Hs (iM F0_ h5), Hh (.f), Hx (.a (I ca.e1)) (rfl : some (I ca.e1 : A) = some (I ca.e1)), Hx (.l [I ca.e0, I bg]) (rfl : [I ca.e0, I bg] = [I ca.e0, I bg]), Hx (.l ((zD.toL arr1).map F0_)) ((zD.setL F0_ arr ep (wC.mk ca.e0 bg)).trans (congrArg (fun q => (zD.toL q).map F0_) h6))])
    ·exact yB bk arr c1.2 (Z0 ++ [c1])
  ·cases c0.2
   cases hl1
   exact yB au aj aa [c0]
def l20 : List y6 := uV 157 zO F5_ F2_ YU :: l19
theorem Vg [H : HS X0 l19] : OkH l20 := yS2 true Tryz.func157 fun m_ p_ r0 aa E hE => by
 obtain ⟨g0, aa⟩ := gdE aa
 refine yK (H := zx ((za9 Tryz.prog 12).or X0)) 1111 [] [6] (zI jL r0) (fun z => [(6, .own (eOs 1 true (eI .i64) z))]) [1,2,5,6] [Ha (lnM (eI .i64) p_), Hn (rL g0), Ha (rM 1 (eI .i64) ((p_.length : Nat) : Int) (0 : Int)), Hh (.cut 0)] ?_ fun J1 au => ?_
 ·rintro out aa
  cases aa
  exact yE hE []
 ·refine yMb 1111210 [J1] [1,2,5,6,16,17,18] (fun x => [(5, .own (.opq (Xx (uE Ux (eI .i64) x.1)))), (6, .own (eOs 1 true (eI .i64) x.2.1)), (18, .d (I x.2.2))]) aa  [Ha (lnM (eI .i64) p_)] fun t2 aa ⟨names, aj, fh⟩ m2 aw ae hl1 J2 ax => ?_
  obtain c0 | c0 := zy ae
  ·obtain ⟨bg, h0, r_, h1, ae⟩ := ye c0.2
   refine yNs 11112100110011 [J1, J2] [1,2,5,6,7,9,16,17,18] (zI (vK aj fh bg r_) aw) (fun z => [(5, .own (.opq (Xx (uE Ux (eI .i64) z))))]) [c0, Hi (eI .i64) h0, zC3 0 h1, Hh (.cut 0)] ?_ fun J3 bk => ?_
   ·rintro io ae
    obtain ⟨val, h2, ae⟩ := zt ae
    replace h2 := yY h2
    obtain ⟨fx, h3, ae⟩ := zt ae
    cases ae
    exact yB (H := zx ((z3B z1d 45 (uE Ux (eI .i64) io)).or X0)) ax _ hl1 [Hn (⟨rfl, rfl, z1w (fun _ => rfl) io⟩ : A.opq (Xx (uE Ux (eI .i64) io)) = A.opq (Xx (uE Ux (eI .i64) io)) ∧ (QM [.i64, .i64, .i64, .i64, .i64, .i64, .i64, .i64, .i64, .i64, .i64, .i64, .i64, .i64, .i64, .i64, .i64, .i64, .i64, .i64, .i64, .i64, .i64, .i64, .i64, .i64, .i64, .i64, .i64, .i64, .i64, .i64, .i64]) (Ux (zK.mk bg r_)) = true ∧ ∀ p ∈ uE Ux (eI .i64) io, (QM [.i64, .i64, .i64, .i64, .i64, .i64, .i64, .i64, .i64, .i64, .i64, .i64, .i64, .i64, .i64, .i64, .i64, .i64, .i64, .i64, .i64, .i64, .i64, .i64, .i64, .i64, .i64, .i64, .i64, .i64, .i64, .i64, .i64]) p.1 = true), Hx (.a ((eI .i64) val)) ((zfh (f := Ux) (g := (eI .i64)) (z0 := 0) (z := .atom (.int .i64 0)) rfl (zK.mk bg r_) io).trans (congrArg (eI .i64) h2)), Hn (iL (eI .i64) h3), Hs (iM (eI .i64) h3), Hs (iM (eI .i64) h3), Hl (sM (eI .i64) aj fh val)]
   ·obtain ⟨qw, h4, ae⟩ := zt ae
    replace h4 := yY h4
    let Z0 : List HO := [Hn (⟨rfl, rfl, z1w (fun _ => rfl) names⟩ : A.opq (Xx (uE Ux (eI .i64) names)) = A.opq (Xx (uE Ux (eI .i64) names)) ∧ (QM [.i64, .i64, .i64, .i64, .i64, .i64, .i64, .i64, .i64, .i64, .i64, .i64, .i64, .i64, .i64, .i64, .i64, .i64, .i64, .i64, .i64, .i64, .i64, .i64, .i64, .i64, .i64, .i64, .i64, .i64, .i64, .i64, .i64]) (Ux (zK.mk bg r_)) = true ∧ ∀ p ∈ uE Ux (eI .i64) names, (QM [.i64, .i64, .i64, .i64, .i64, .i64, .i64, .i64, .i64, .i64, .i64, .i64, .i64, .i64, .i64, .i64, .i64, .i64, .i64, .i64, .i64, .i64, .i64, .i64, .i64, .i64, .i64, .i64, .i64, .i64, .i64, .i64, .i64]) p.1 = true), Hx (.a (.tup [I qw, B ((z1F names (zK.mk bg r_)).isSome)])) ((zg4 (f := Ux) (g := (eI .i64)) (z0 := 0) (z := .atom (.int .i64 0)) rfl (zK.mk bg r_) names).trans (congrArg (fun x => A.tup [(eI .i64) x, .atom (.bool (z1F names (zK.mk bg r_)).isSome)]) h4))]
    obtain c1 | c1 := zy ae
    ·exact yB (H := zx ((ze9 z1d 37 (uE Ux (eI .i64) names) (uE Ux (eI .i64) (z5j names (zK.mk bg r_) ((names.length : Nat) : Int)))).or ((zcI z1d 40 (uE Ux (eI .i64) names)).or ((z3B z1d 32 (uE Ux (eI .i64) names)).or X0)))) bk (z5j names (zK.mk bg r_) ((names.length : Nat) : Int)) c1.2 (Z0 ++ [c1, Hn (rfl : A.opq (Xx (uE Ux (eI .i64) names)) = A.opq (Xx (uE Ux (eI .i64) names))), Hx (aLn names.length) (z9q Ux (eI .i64) names), Hn (⟨rfl, rfl, rfl, rfl, z1w (fun _ => rfl) names⟩ : T.own (.opq (Xx (uE Ux (eI .i64) names))) = T.own (.opq (Xx (uE Ux (eI .i64) names))) ∧ 0 = 0 ∧ (QM [.i64, .i64, .i64, .i64, .i64, .i64, .i64, .i64, .i64, .i64, .i64, .i64, .i64, .i64, .i64, .i64, .i64, .i64, .i64, .i64, .i64, .i64, .i64, .i64, .i64, .i64, .i64, .i64, .i64, .i64, .i64, .i64, .i64]) (Ux (zK.mk bg r_)) = true ∧ ((eI .i64) ((names.length : Nat) : Int)).isD = true ∧ ∀ p ∈ uE Ux (eI .i64) names, (QM [.i64, .i64, .i64, .i64, .i64, .i64, .i64, .i64, .i64, .i64, .i64, .i64, .i64, .i64, .i64, .i64, .i64, .i64, .i64, .i64, .i64, .i64, .i64, .i64, .i64, .i64, .i64, .i64, .i64, .i64, .i64, .i64, .i64]) p.1 = true), Hn (z43 (f := Ux) (g := (eI .i64)) (zK.mk bg r_) ((names.length : Nat) : Int) names)])
    ·exact yB (H := zx ((z3B z1d 32 (uE Ux (eI .i64) names)).or X0)) bk names c1.2 (Z0 ++ [c1])
  ·cases c0.2
   cases hl1
   exact yB au aj aa [c0]
def l21 : List y6 := uV 158 F5_ F5_ eB uW :: l20
theorem Y3 [H : HS X0 l20] : OkH l21 := yS2 true Tryz.func158 fun s1 s2 r0 aa E hE => by
 let Z0 : List HO := [Ha (lnM (eI .i64) s1), Ha (lnM (eI .i64) s2)]
 obtain c0 | c0 := zy aa
 ·cases c0.2
  exact yE hE (Z0 ++ [c0])
 ·refine yK 111 [] [] (fun z : Unit => vI = some r0) (fun z => []) [0,1] (Z0 ++ [c0, Hh (.cut 0)]) ?_ fun J1 au => ?_
  ·rintro ⟨⟩ aa
   cases aa
   exact yE hE []
  ·refine yMb 111210 [J1] [0,1,12,13] (fun x => [(13, .d (I x))]) c0.2  [Ha (lnM (eI .i64) s1)] fun t2 aa em m2 aw ae hl1 J2 ax => ?_
   obtain c1 | c1 := zy ae
   ·obtain ⟨ow, h0, nh, h1, ae⟩ := ye c1.2
    let Z1 : List HO := [c1, Hi (eI .i64) h0, Hi (eI .i64) h1]
    obtain c2 | c2 := zy ae
    ·cases c2.2
     cases hl1
     cases aa
     exact yE hE (Z1 ++ [c2])
    ·cases c2.2
     exact yB ax _ hl1 (Z1 ++ [c2])
   ·cases c1.2
    cases hl1
    exact yB au () aa [c1]
abbrev Ys (x0 : z6) (YY : σ → kB) (de : σ) (p_ : List Int) : List (Nat × T) := [(0, .own (.opq (YY de).q)), (1, .d (.sptr (zO x0))), (3, .own (eOs 1 true (eI .i64) p_))]
theorem Ww [H : HS X0 l21] (x0 : z6) : z2m Tryz.prog (.fn 156 [.sptr (.agg [I x0.Inputs, I x0.Outputs, eSl 1 false yj x0.Rows])]) (fun (x : List Int) (_ : Bool) (_ : Value) => [F5_ x]) (@uO x0) := by
 refine QQ (tt := wp) (nt := Tryz.f156.ntmps) (body := zbd Tryz.f156) zo Tryz.func156 rfl (by kernel_rfl) rfl rfl (by show (2 : Nat) ≤ 19; decide) ?_
 intro σ yv YY yy hy sg r0 aa E hE
 obtain ⟨g0, aa⟩ := gdE aa
 obtain ⟨t1, ht1, aa⟩ := zt aa
 refine yL 110 [] (fun s => qO x0 yy s.1 s.2) (fun x => Ys x0 YY x.1 x.2) (sg, (List.replicate ((x0.Rows.length : Nat) : Int).toNat (0 : Int))) ht1  [Ha (lnM yj x0.Rows), Hn (rL g0), Ha (rM 1 (eI .i64) ((x0.Rows.length : Nat) : Int) (0 : Int))] fun ⟨de, p_⟩ m1 aw ae hl1 J1 au => ?_
 obtain ⟨yr, h0, ae⟩ := zt ae
 let Z0 : List HO := [Hm (shM (eI .i64) (eI .i64) p_), Hn (Qo (yv := yv) (Y := YY) (enc := (fun (x : List Int) (_ : Bool) (_ : Value) => [F5_ x])) (s := de) (x := p_) (s' := yr.1) (b := yr.2) (v := .nilFunc) [F3_ p_] (show Yy [F3_ p_] [F5_ p_] from inferInstance))]
 obtain c0 | c0 := zy ae
 ·obtain ⟨r_, h1, ai, h2, ae⟩ := ye c0.2
  let Z1 : List HO := (Z0 ++ [c0, Hk [] (Us (hat 1)) (zf2 1 h1 (loC zO x0 <| loC F3_ p_ <| loN)), zg 0, Hm (shM (eI .i64) (eI .i64) r_), Hs (zf2 0 h2 (loC F3_ p_ <| loC F3_ r_ <| loN))])
  obtain c1 | c1 := zy ae
  ·cases c1.2
   cases hl1
   cases aa
   exact yF (H := zx ((YA (P := Tryz.prog) wp hy 11 (s := de) (x := p_) (s' := yr.1) (b := yr.2) .nilFunc h0).or X0)) .ret [(0, .own (.opq (YY yr.1).q))] (Z1 ++ [c1]) fun st0 h0 => hE _ st0 (.inr rfl) h0
  ·cases c1.2
   exact yB (H := zx ((YA (P := Tryz.prog) wp hy 11 (s := de) (x := p_) (s' := yr.1) (b := yr.2) .nilFunc h0).or X0)) au _ hl1 (Z1 ++ [c1])
 ·cases c0.2
  cases hl1
  cases aa
  exact yF (H := zx ((YA (P := Tryz.prog) wp hy 11 (s := de) (x := p_) (s' := yr.1) (b := yr.2) .nilFunc h0).or X0)) .normal [(0, .own (.opq (YY yr.1).q))] (Z0 ++ [c0]) fun st0 h0 => hE _ st0 (.inl rfl) h0
def l22 : List y6 := kA 111 zO (eT3 F5_ (eI .i64) (eI .i64)) YV :: l21
theorem Vh [H : HS X0 l21] : OkH l22 := yS1 false Tryz.func111 fun m_ r0 aa E hE => by
 obtain ⟨r_, h0, aa⟩ := zt aa
 let Z0 : List HO := [Hh (.v 2 [2]), Hm (shM (eI .i64) (eI .i64) []), zC1 14 h0]
 obtain c0 | c0 := zy aa
 ·cases c0.2
  exact yEl hE (Z0 ++ [c0, Hm (shM (eI .i64) (eI .i64) [])])
 ·refine yK 1111 [] [2,3] (fun z : List Int × Int => jM z.1 z.2 = some r0) (fun z => [(2, .own (.box (eSl 1 false (eI .i64) z.1))), (3, .own (.box (I z.2)))]) [1,2,3] (Z0 ++ [Hb c0, Hh (.cut 1)]) ?_ fun J1 au => ?_
  ·rintro ⟨p_, n_⟩ aa
   cases aa
   exact yE hE []
  ·obtain ⟨ai, h1, t2, ht2, aa⟩ := ye c0.2
   refine yAt (sub [1,1,1,2,1,0] (zbd Tryz.f111)) (frs [1,1,1,2,1,0] [J1] (zbd Tryz.f111) []) [(2, .own (.box (eSl 1 true (eI .i64) []))), (3, .own (.box (I (-1)))), (13, .d (.fn 156 [.sptr (.agg [I ai.Inputs, I ai.Outputs, eSl 1 false yj ai.Rows])]))] [zC1 3 h1] fun st0 h0 => ?_
   refine VV (g := .tmp 13) (ps := [14]) (assign := (sub [1,1,1,2,1,0,0] (zbd Tryz.f111))) (body := (sub [1,1,1,2,1,0,1] (zbd Tryz.f111))) (K := 156) (caps := [.sptr (.agg [I ai.Inputs, I ai.Outputs, eSl 1 false yj ai.Rows])]) (by kernel_rfl) [2,3,13] (fun s => [(2, .own (.box (eSl 1 false (eI .i64) s.1))), (3, .own (.box (I s.2))), (13, .d (.fn 156 [.sptr (.agg [I ai.Inputs, I ai.Outputs, eSl 1 false yj ai.Rows])]))]) (fun z => nomatch z) (fun z => nomatch z) ((fun (x : List Int) (_ : Bool) (_ : Value) => [F5_ x])) (F := @uO ai) (fun s x => vL s.1 s.2 x) (([] : List Int), (-1)) t2 _ h0 inferInstance (by kernel_rfl) (by decide) (fun _ => rfl) (by rintro ⟨⟩) (by kernel_rfl) (fun _ _ _ => rfl) (Ww (H := zd 0) ai) ht2 ?_ ?_
   ·rintro qu ⟨nd, cb⟩ k9 vr aw ae
    replace ae : vL nd cb k9 = some aw := ae
    refine yF .normal [(2, .own (.box (eSl 1 false (eI .i64) nd))), (3, .own (.box (I cb))), (6, .d (eSl 1 false (eI .i64) k9)), (13, .d (.fn 156 [.sptr (.agg [I ai.Inputs, I ai.Outputs, eSl 1 false yj ai.Rows])]))] [] fun st0 h0 => ⟨rfl, JR h0 ?_⟩
    cases ae
    exact yF .normal ([(2, .own (.box (eSl 1 false (eI .i64) k9))), (3, .own (.box (I (w64 (cb + 1))))), (13, .d (.fn 156 [.sptr (.agg [I ai.Inputs, I ai.Outputs, eSl 1 false yj ai.Rows])]))]) [] fun st0 h0 => ⟨rfl, _, h0, LeL.refl _⟩
   ·rcases t2 with ⟨nd, cb⟩ | z
    ·dsimp only at aa
     exact uF (by kernel_rfl) (au _ [(2, .own (.box (eSl 1 false (eI .i64) nd))), (3, .own (.box (I cb)))] (nd, cb) aa (show Own.canon [2,3] _ = ofL _ by kernel_rfl) inferInstance)
    ·cases z
def l23 : List y6 := kA 112 F5_ (eI .i64) jK :: l22
theorem Xq [H : HS X0 l22] : OkH l23 := yS1 true Tryz.func112 fun x_ r0 aa E hE => by
 obtain c0 | c0 := zy aa
 ·cases c0.2
 ·obtain ⟨mc, h0, aa⟩ := zt c0.2
  refine yK 1111 [] [3] (zI uw r0) (fun z => [(3, .d (I z))]) [0,3] [Ha (lnM (eI .i64) x_), c0, Hi (eI .i64) h0, Hh (.cut 0)] ?_ fun J1 au => ?_
  ·rintro m_ aa
   cases aa
   exact yE hE []
  ·refine yMb 1111210 [J1] [0,3,4] (fun x => [(3, .d (I x.1)), (4, .d (I x.2))]) aa  [] fun t2 aa ⟨ox, i_⟩ m2 aw ae hl1 J2 ax => ?_
   obtain c1 | c1 := zy ae
   ·obtain ⟨lp, h1, ae⟩ := zt c1.2
    cases ae
    exact yB ax _ hl1 [Ha (lnM (eI .i64) x_), c1, Hi (eI .i64) h1]
   ·cases c1.2
    cases hl1
    exact yB au ox aa [Ha (lnM (eI .i64) x_), c1]
def l24 : List y6 := kA 110 JS eB kP :: l23
theorem XY [H : HS X0 l23] : OkH l24 := yS1 true Tryz.func110 fun x0 r0 aa E hE => by
 obtain ⟨r_, h0, ai, h1, aa⟩ := ye aa
 cases aa
 exact yE hE [zC1 1 h0, zC1 0 h1, Ha (lnM (eI .i64) r_.1)]
def l25 : List y6 := kA 56 zO (eI .i64) wi :: l24
theorem Wx [H : HS X0 l24] : OkH l25 := yS1 true Tryz.func56 fun m_ r0 aa E hE => by
 obtain ⟨r_, h0, aa⟩ := zt aa
 let Z0 : List HO := [zC1 17 h0]
 obtain c0 | c0 := zy aa
 ·cases c0.2
  exact yE hE (Z0 ++ [c0])
 ·refine yK 111 [] [] (fun z : Unit => qP = some r0) (fun z => []) [1] (Z0 ++ [c0, Hh (.cut 0)]) ?_ fun J1 au => ?_
  ·rintro ⟨⟩ aa
   cases aa
   exact yE hE []
  ·obtain ⟨ai, h1, am, h2, aa⟩ := ye c0.2
   let Z1 : List HO := [zC1 16 h1, Hh (.u 70), qT, zC1 11 h2]
   obtain c1 | c1 := zy aa
   ·cases c1.2
    exact yE hE (Z1 ++ [c1])
   ·obtain ⟨az, h3, aa⟩ := zt c1.2
    let Z2 : List HO := (Z1 ++ [c1, qT, zC1 7 h3])
    obtain c2 | c2 := zy aa
    ·cases c2.2
     exact yE hE (Z2 ++ [c2])
    ·obtain ⟨cp, h4, aa⟩ := zt c2.2
     let Z3 : List HO := (Z2 ++ [c2, qT, zC1 0 h4])
     obtain c3 | c3 := zy aa
     ·cases c3.2
      exact yE hE (Z3 ++ [c3])
     ·exact yB au () c3.2 (Z3 ++ [c3, qF])
def l26 : List y6 := uV 35 zO (eI .i64) (eI .i64) VL :: l25
theorem z0B [H : HS X0 l25] : OkH l26 := yS2 true Tryz.func35 fun m_ states r0 aa E hE => by
 obtain c0 | c0 := zy aa
 ·cases c0.2
  exact yE hE [c0]
 ·refine yK 1111 [] [5] (zI WZ r0) (fun z => [(5, .d (I z))]) [1,2,5] [c0, Hh (.cut 1)] ?_ fun J1 au => ?_
  ·rintro n_ aa
   cases aa
   exact yE hE []
  ·refine yMb 1111210 [J1] [1,2,5,6] (fun x => [(5, .d (I x.1)), (6, .d (I x.2))]) c0.2  [] fun t2 aa ⟨cb, i_⟩ m2 aw ae hl1 J2 ax => ?_
   obtain c1 | c1 := zy ae
   ·obtain c2 | c2 := zy c1.2
    ·cases c2.2
     exact yB ax _ hl1 [c1, c1, c1, c2]
    ·cases c2.2
     cases hl1
     exact yB au cb aa [c1, c1, c1, c2]
   ·cases c1.2
    cases hl1
    exact yB au cb aa [c1, c1, c1, qF]
def l27 : List y6 := uV 34 zO (eI .i64) (eI .i64) VP :: l26
theorem z0C [H : HS X0 l26] : OkH l27 := yS2 true Tryz.func34 fun m_ states r0 aa E hE => by
 obtain ⟨r_, h0, aa⟩ := zt aa
 let Z0 : List HO := [zC1 1 h0]
 obtain c0 | c0 := zy aa
 ·cases c0.2
  exact yE hE (Z0 ++ [c0])
 ·obtain c1 | c1 := zy c0.2
  ·cases c1.2
   exact yE hE (Z0 ++ [c0, c1])
  ·obtain ⟨ai, h1, aa⟩ := zt c1.2
   let Z1 : List HO := (Z0 ++ [c0, c1, zC2 0 h1])
   obtain c2 | c2 := zy aa
   ·cases c2.2
    exact yE hE (Z1 ++ [c2])
   ·cases c2.2
    exact yE hE (Z1 ++ [c2])
def l28 : List y6 := uV 12 zO (eI .i64) (eT2 (eI .i64) (eI .i64)) xL :: l27
theorem KJ [H : HS X0 l27] : OkH l28 := yS2 false Tryz.func12 fun m_ states r0 aa E hE => by
 obtain ⟨r_, h0, aa⟩ := zt aa
 let Z0 : List HO := [zC2 0 h0]
 obtain c0 | c0 := zy aa
 ·cases c0.2
  exact yE hE (Z0 ++ [c0])
 ·obtain ⟨ai, h1, aa⟩ := zt c0.2
  cases aa
  exact yE hE (Z0 ++ [c0, zC2 1 h1])
def l29 : List y6 := uV 138 (eI .i64) (eSp (eI .i64)) eB Wr :: l28
theorem Q5 [H : HS X0 l28] : OkH l29 := yS2 true Tryz.func138 fun c_ x1 r0 aa E hE => by
 obtain c0 | c0 := zy aa
 ·cases c0.2
  exact yE hE (rpN 4 (Hb c0) [])
 ·cases c0.2
  exact yE hE (rpN 4 (Hb c0) [])
def l30 : List y6 := uV 152 F5_ (Ve 138 (eSp (eI .i64))) (eI .i64) vz :: l29
theorem jA [H : HS X0 l29] : OkH l30 := yS2 true Tryz.func152 fun s_ f_ r0 aa E hE => by
 refine yK 11 [] [] (fun z : Unit => wr = some r0) (fun z => []) [0,1] [Hh (.cut 1)] ?_ fun J1 au => ?_
 ·rintro ⟨⟩ aa
  cases aa
  exact yE hE []
 ·refine yMb 11210 [J1] [0,1,7,8] (fun x => [(8, .d (I x))]) aa  [Ha (lnM (eI .i64) s_)] fun t2 aa x8 m2 aw ae hl1 J2 ax => ?_
  obtain c0 | c0 := zy ae
  ·obtain ⟨d9, h0, r_, h1, ae⟩ := ye c0.2
   let Z0 : List HO := [c0, Hi (eI .i64) h0, zC2 0 h1]
   obtain c1 | c1 := zy ae
   ·cases c1.2
    cases hl1
    cases aa
    exact yE hE (Z0 ++ [c1])
   ·cases c1.2
    exact yB ax _ hl1 (Z0 ++ [c1])
  ·cases c0.2
   cases hl1
   exact yB au () aa [c0]
def l31 : List y6 := uV 137 F5_ (Ve 138 (eSp (eI .i64))) eB ws :: l30
theorem uJ [H : HS X0 l30] : OkH l31 := yS2 true Tryz.func137 fun s_ f_ r0 aa E hE => by
 obtain ⟨r_, h0, aa⟩ := zt aa
 cases aa
 exact yE hE [zC2 0 h0]
def l32 : List y6 := uV 105 F5_ (eI .i64) (eI .i64) XW :: l31
theorem Kw [H : HS X0 l31] : OkH l32 := yS2 true Tryz.func105 fun w_ inputs r0 aa E hE => by
 obtain c0 | c0 := zy aa
 ·cases c0.2
  exact yE hE (rpN 4 (Hb c0) [qT])
 ·let Z0 : List HO := [c0, c0, Ha (lnM (eI .i64) w_), c0, c0]
  obtain c1 | c1 := zy c0.2
  ·cases c1.2
   exact yE hE (Z0 ++ [c1])
  ·obtain c2 | c2 := zy c1.2
   ·cases c2.2
    exact yE hE (Z0 ++ (Hb c1 :: (rpN 4 (Hb c2) [qT])))
   ·obtain ⟨r_, h0, aa⟩ := zt c2.2
    let Z1 : List HO := (Z0 ++ [c1, c2, c2, c2, zC2 0 h0, c2])
    obtain c3 | c3 := zy aa
    ·cases c3.2
     exact yE hE (Z1 ++ [c3])
    ·cases c3.2
     exact yE hE (Z1 ++ [c3])
def l33 : List y6 := uV 78 yS (eI .i64) (eI .i64) W3 :: l32
theorem Kz [H : HS X0 l32] : OkH l33 := yS2 true Tryz.func78 fun l_ inputs r0 aa E hE => by
 obtain c0 | c0 := zy aa
 ·cases c0.2
  exact yE hE (rpN 4 (Hb c0) [qT])
 ·let Z0 : List HO := [c0, c0, Ha (lnM F5_ l_), c0, c0]
  obtain c1 | c1 := zy c0.2
  ·cases c1.2
   exact yE hE (Z0 ++ [c1])
  ·obtain c2 | c2 := zy c1.2
   ·cases c2.2
    exact yE hE (Z0 ++ [c1, c2])
   ·refine yK 1111 [] [] (fun z : Unit => XJ = some r0) (fun z => []) [0,1] (Z0 ++ [c1, c2, Hh (.cut 0)]) ?_ fun J1 au => ?_
    ·rintro ⟨⟩ aa
     cases aa
     exact yE hE []
    ·refine yMb 1111210 [J1] [1,17,18,19] (fun x => [(19, .d (I x))]) c2.2  [Ha (lnM F5_ l_)] fun t2 aa gc m2 aw ae hl1 J2 ax => ?_
     obtain c3 | c3 := zy ae
     ·obtain ⟨cq, h0, r_, h1, ae⟩ := ye c3.2
      let Z1 : List HO := [c3, Hi F5_ h0, zC2 0 h1]
      obtain c4 | c4 := zy ae
      ·cases c4.2
       cases hl1
       cases aa
       exact yE hE (Z1 ++ [c4])
      ·cases c4.2
       exact yB ax _ hl1 (Z1 ++ [c4])
     ·cases c3.2
      cases hl1
      exact yB au () aa [c3]
def l34 : List y6 := kA 135 (eI .i64) eB ZL :: l33
theorem Qd [H : HS X0 l33] : OkH l34 := yS1 true Tryz.func135 fun x_ r0 aa E hE => by
 cases aa
 exact yE hE []
def l35 : List y6 := uV 101 (eI .i64) (eI .i64) (eI .i64) ju :: l34
theorem Vm [H : HS X0 l34] : OkH l35 := yS2 true Tryz.func101 fun x_ y_ r0 aa E hE => by
 obtain ⟨r_, h0, ai, h1, aa⟩ := ye aa
 let Z0 : List HO := [zC1 0 h0, zC1 0 h1]
 obtain c0 | c0 := zy aa
 ·obtain c1 | c1 := zy c0.2
  ·cases c1.2
   exact yE hE (Z0 ++ [c0, c1])
  ·cases c1.2
   exact yE hE (Z0 ++ [c0, c1])
 ·obtain c2 | c2 := zy c0.2
  ·cases c2.2
   exact yE hE (Z0 ++ [c0, c2])
  ·obtain c3 | c3 := zy c2.2
   ·cases c3.2
    exact yE hE (Z0 ++ [c0, c2, c3])
   ·obtain c4 | c4 := zy c3.2
    ·cases c4.2
     exact yE hE (Z0 ++ [c0, c2, c3, c4])
    ·cases c4.2
     exact yE hE (Z0 ++ [c0, c2, c3, c4])
def l36 : List y6 := uV 102 F5_ F5_ (eI .i64) u9 :: l35
theorem kD [H : HS X0 l35] : OkH l36 := yS2 true Tryz.func102 fun s1 s2 r0 aa E hE => by
 refine yNs 11 [] [0,1] (fun z : Unit => wS s1 s2 = some r0) (fun z => []) [Hh (.cut 1)] ?_ fun J1 au => ?_
 ·rintro ⟨⟩ aa
  let Z0 : List HO := [Ha (lnM (eI .i64) s1), Ha (lnM (eI .i64) s2)]
  obtain c0 | c0 := zy aa
  ·cases c0.2
   exact yE hE (Z0 ++ [c0])
  ·cases c0.2
   exact yE hE (Z0 ++ [c0])
 ·refine yMb 11210 [J1] [0,1,9,10,11] (fun x => [(11, .d (I x))]) aa  [Ha (lnM (eI .i64) s1)] fun t2 aa gn m2 aw ae hl1 J2 ax => ?_
  obtain c1 | c1 := zy ae
  ·obtain ⟨ow, h0, ae⟩ := zt c1.2
   let Z1 : List HO := [c1, Hi (eI .i64) h0, Ha (lnM (eI .i64) s2)]
   obtain c2 | c2 := zy ae
   ·cases c2.2
    cases hl1
    cases aa
    exact yE hE (Z1 ++ [c2])
   ·obtain ⟨nh, h1, r_, h2, ae⟩ := ye c2.2
    let Z2 : List HO := (Z1 ++ [c2, Hi (eI .i64) h1, zC2 0 h2])
    obtain c3 | c3 := zy ae
    ·cases c3.2
     cases hl1
     cases aa
     exact yE hE (Z2 ++ [c3])
    ·cases c3.2
     exact yB ax _ hl1 (Z2 ++ [c3])
  ·cases c1.2
   cases hl1
   exact yB au () aa [c1]
def l37 : List y6 := kA 100 F5_ (eI .i64) Kj :: l36
theorem z0D [H : HS X0 l36] : OkH l37 := yS1 true Tryz.func100 fun vals r0 aa E hE => by
 refine yN 111 [] [3] (fun z : Unit => V4 = some r0) (fun z => []) [0,3] [Hh (.cut 2)] ?_ fun J1 au => ?_
 ·rintro ⟨⟩ aa
  cases aa
  exact yE hE []
 ·refine yMb 111210 [J1] [3,6,7,8] (fun x => [(8, .d (I x))]) aa  [Ha (lnM (eI .i64) vals)] fun t2 aa x8 m2 aw ae hl1 J2 ax => ?_
  obtain c0 | c0 := zy ae
  ·obtain ⟨pn, h0, ae⟩ := zt c0.2
   obtain c1 | c1 := zy ae
   ·cases c1.2
    cases hl1
    cases aa
    exact yE hE [c0, Hi (eI .i64) h0, c1]
   ·cases c1.2
    exact yB ax _ hl1 [c0, Hi (eI .i64) h0, c1]
  ·cases c0.2
   cases hl1
   exact yB au () aa [c0]
def l38 : List y6 := uV 67 F5_ F5_ (eI .i64) wD :: l37
theorem Q4 [H : HS X0 l37] : OkH l38 := yS2 true Tryz.func67 fun a_ b_ r0 aa E hE => by
 obtain ⟨r_, h0, ai, h1, am, h2, aa⟩ := jG aa
 cases aa
 exact yE hE [Ha (lnM (eI .i64) a_), Ha (lnM (eI .i64) b_), zC2 2 h0, zC2 1 h1, zg 0, Hm (shM (eI .i64) (eI .i64) ([r_, ai])), Hs (zf1 0 h2 (loC F3_ [r_, ai] <| loN))]
def l39 : List y6 := kA 79 yS eB Qi :: l38
theorem KA [H : HS X0 l38] : OkH l39 := yS1 true Tryz.func79 fun l_ r0 aa E hE => by
 refine yK 11 [] [] (fun z : Unit => XK = some r0) (fun z => []) [0] [Hh (.cut 1)] ?_ fun J1 au => ?_
 ·rintro ⟨⟩ aa
  cases aa
  exact yE hE []
 ·refine yMb 11210 [J1] [0,3] (fun x => [(3, .d (I x))]) aa  [] fun t2 aa i_ m2 aw ae hl1 J2 ax => ?_
  let Z0 : List HO := [Ha (lnM F5_ l_)]
  obtain c0 | c0 := zy ae
  ·obtain ⟨cq, h0, iu, h1, r_, h2, ae⟩ := jG c0.2
   let Z1 : List HO := (Z0 ++ [c0, Hi F5_ h0, Hi F5_ h1, zC2 0 h2])
   obtain c1 | c1 := zy ae
   ·cases c1.2
    cases hl1
    cases aa
    exact yE hE (Z1 ++ [c1])
   ·cases c1.2
    exact yB ax _ hl1 (Z1 ++ [c1])
  ·cases c0.2
   cases hl1
   exact yB au () aa (Z0 ++ [c0])
def l40 : List y6 := kA 71 yS (eI .i64) W2 :: l39
theorem Ky [H : HS X0 l39] : OkH l40 := yS1 true Tryz.func71 fun l_ r0 aa E hE => by
 refine yK 11 [] [2] (zI XI r0) (fun z => [(2, .d (I z))]) [0,2] [Hh (.cut 1)] ?_ fun J1 au => ?_
 ·rintro n_ aa
  cases aa
  exact yE hE []
 ·refine yMb 11210 [J1] [2,5,6,7] (fun x => [(2, .d (I x.1)), (7, .d (I x.2))]) aa  [Ha (lnM F5_ l_)] fun t2 aa ⟨cb, x7⟩ m2 aw ae hl1 J2 ax => ?_
  obtain c0 | c0 := zy ae
  ·obtain ⟨cq, h0, ae⟩ := zt c0.2
   cases ae
   exact yB ax _ hl1 [c0, Hi F5_ h0, Ha (lnM (eI .i64) cq)]
  ·cases c0.2
   cases hl1
   exact yB au cb aa [c0]
def l41 : List y6 := uV 53 yS (eI .i64) (eI .i64) qE :: l40
theorem KD [H : HS X0 l40] : OkH l41 := yS2 true Tryz.func53 fun l_ inputs r0 aa E hE => by
 obtain ⟨r_, h0, aa⟩ := zt aa
 let Z0 : List HO := [zC2 7 h0]
 obtain c0 | c0 := zy aa
 ·cases c0.2
  exact yE hE (Z0 ++ [c0])
 ·obtain ⟨ai, h1, aa⟩ := zt c0.2
  let Z1 : List HO := (Z0 ++ [c0, zC1 1 h1])
  obtain c1 | c1 := zy aa
  ·cases c1.2
   exact yE hE (Z1 ++ [c1])
  ·obtain ⟨am, h2, aa⟩ := zt c1.2
   let Z2 : List HO := (Z1 ++ [c1, zC1 0 h2])
   obtain c2 | c2 := zy aa
   ·cases c2.2
    exact yE hE (Z2 ++ [c2])
   ·cases c2.2
    exact yE hE (Z2 ++ [c2])
def l42 : List y6 := Jp 28 zO yS (eI .i64) (eI .i64) qq :: l41
theorem z0z [H : HS X0 l41] : OkH l42 := yS3 true Tryz.func28 fun m_ l_ states r0 aa E hE => by
 obtain ⟨r_, h0, aa⟩ := zt aa
 let Z0 : List HO := [zC2 14 h0]
 obtain c0 | c0 := zy aa
 ·cases c0.2
  exact yE hE (Z0 ++ [c0])
 ·obtain ⟨ai, h1, aa⟩ := zt c0.2
  cases aa
  exact yE hE (Z0 ++ [c0, zC2 0 h1])
def l43 : List y6 := uV 54 zO (eI .i64) (zfi 80 JS (eSp (eI .i64))) jd :: l42
theorem KI [H : HS X0 l42] : OkH l43 := yS2 true Tryz.func54 fun m_ states r0 aa E hE => by
 cases aa
 exact yE hE []
def l44 : List y6 := kA 81 zO eB XS :: l43
theorem UJ [H : HS X0 l43] : OkH l44 := yS1 true Tryz.func81 fun t_ r0 aa E hE => by
 refine yNs 111 [] [1,3] (zI (Ze t_) r0) (fun z => [(3, .d (I z))]) [Hh (.cut 2)] ?_ fun J1 au => ?_
 ·rintro next aa
  cases aa
  exact yE hE [Ha (lnM yj t_.Rows)]
 ·refine yMb 111210 [J1] [1,3,4] (fun x => [(3, .d (I x.1)), (4, .d (I x.2))]) aa  [] fun t2 aa ⟨cr, s_⟩ m2 aw ae hl1 J2 ax => ?_
  obtain c0 | c0 := zy ae
  ·refine yNs 11121001 [J1, J2] [1,3,4] (zI (Zd s_) aw) (fun z => [(3, .d (I z))]) [c0, Hh (.cut 0)] ?_ fun J3 bk => ?_
   ·rintro fm ae
    cases ae
    exact yB ax _ hl1 []
   ·obtain ⟨al, h0, t4, ht4, ae⟩ := ye c0.2
    refine yM 111210012010 [J1, J2, J3] [1,3,4,16,17,18] (fun x => [(3, .d (I x.1)), (18, .d (I x.2))]) ht4  [Hi yj h0, Ha (lnM F9_ al)] fun ⟨cm, fh⟩ m4 dc ah hl2 J4 cx => ?_
    obtain c1 | c1 := zy ah
    ·refine yNs 111210012010011 [J1, J2, J3, J4] [1,3,4,16,17,18] (zI (ul fh) dc) (fun z => [(3, .d (I z))]) [c1, Hh (.cut 0)] ?_ fun J5 dh => ?_
     ·rintro gv ah
      cases ah
      exact yB cx _ hl2 []
     ·obtain ⟨ak, h1, ah⟩ := zt c1.2
      let Z0 : List HO := [Hi F9_ h1]
      obtain c2 | c2 := zy ah
      ·cases c2.2
       cases hl2
       cases ae
       cases hl1
       cases aa
       exact yE hE (Z0 ++ [c2])
      ·obtain c3 | c3 := zy c2.2
       ·exact yB dh (w64 (cm + 1)) c3.2 (Z0 ++ [c2, c3])
       ·exact yB dh cm c3.2 (Z0 ++ [c2, c3])
    ·cases c1.2
     cases hl2
     exact yB bk cm ae [c1]
  ·cases c0.2
   cases hl1
   exact yB au cr aa [c0]
def l45 : List y6 := Jp 42 zO zO F5_ (eI .i64) Ja :: l44
theorem z1O [H : HS X0 l44] : OkH l45 := yS3 true Tryz.func42 fun m_ other w_ r0 aa E hE => by
 refine yK 111 [] [] (fun z : Unit => Ut = some r0) (fun z => []) [2,3,4,7,8] [Hh (.cut 2)] ?_ fun J1 au => ?_
 ·rintro ⟨⟩ aa
  cases aa
  exact yE hE []
 ·refine yMb 111210 [J1] [3,4,7,8,13,14,15] (fun x => [(7, .d (I x.1)), (8, .d (I x.2.1)), (15, .d (I x.2.2))]) aa  [Ha (lnM (eI .i64) w_)] fun t2 aa ⟨s_, t_, gr⟩ m2 aw ae hl1 J2 ax => ?_
  obtain c0 | c0 := zy ae
  ·obtain ⟨ge, h0, ae⟩ := zt c0.2
   refine yN 11121001100111 [J1, J2] [3,4,8,9,10,11,12,13,14,15] (fun z : Int × Int => X6 other t_ gr ge z.1 z.2 = some aw) (fun z => [(11, .own (.box (.agg [I z.1, I z.2])))]) [3,4,7,8,9,10,11,12,13,14,15] [c0, Hi (eI .i64) h0, Hh (.cut 2)] ?_ fun J3 bk => ?_
   ·rintro ⟨kj, jn⟩ ae
    refine yN 111210011001111 [J1, J2] [3,4,9,11,12,13,14,15] (fun z : Int × Int => X5 gr kj jn z.1 z.2 = some aw) (fun z => [(12, .own (.box (.agg [I z.1, I z.2])))]) [3,4,8,9,10,11,12,13,14,15] [Hh (.cut 0)] ?_ fun J4 cx => ?_
    ·rintro ⟨oy, oj⟩ ae
     obtain c1 | c1 := zy ae
     ·cases c1.2
      cases hl1
      cases aa
      exact yE hE [c1]
     ·cases c1.2
      exact yB ax _ hl1 [c1]
    ·obtain c2 | c2 := zy ae
     ·obtain ⟨al, h1, ak, h2, ae⟩ := ye c2.2
      exact yB cx (ak.To, ak.Out) ae [c2, Hi yj h1, Hi F9_ h2]
     ·exact yB cx ((-1), (-1)) c2.2 [c2]
   ·obtain c3 | c3 := zy ae
    ·obtain ⟨dp, h3, ar, h4, ae⟩ := ye c3.2
     exact yB bk (ar.To, ar.Out) ae [c3, Hi yj h3, Hi F9_ h4]
    ·exact yB bk ((-1), (-1)) c3.2 [c3]
  ·cases c0.2
   cases hl1
   exact yB au () aa [c0]
def l46 : List y6 := uV 82 zO zO eB Ke :: l45
def z1B : XH Tryz.prog := ((zcJ zo 37).or X0)
theorem z0A [H : HS z1B l45] : OkH l46 := yS2 true Tryz.func82 fun m_ t_ r0 aa E hE => by
 obtain ⟨g0, aa⟩ := gdE aa
 obtain ⟨l5, h0, aa⟩ := zt aa
 refine yK 11111 [] [] (fun z : Unit => WY = some r0) (fun z => []) [2,3,5,6] [Ha (lnM yj m_.Rows), Ha (lnM yj t_.Rows), Hn (rL g0), Ha (rM 1 eB (w64 (((m_.Rows.length : Nat) : Int) * ((t_.Rows.length : Nat) : Int))) false), Hn (iL eB h0), Hs (iM eB h0), Hs (iM eB h0), Hl (sM eB (List.replicate (w64 (((m_.Rows.length : Nat) : Int) * ((t_.Rows.length : Nat) : Int))).toNat false) 0 true), Hh (.cut 1)] ?_ fun J1 au => ?_
 ·rintro ⟨⟩ aa
  cases aa
  exact yE hE []
 ·obtain ⟨t2, ht2, aa⟩ := zt aa
  refine yMx 1111120 [J1] [2,3,5,6] (fun x => [(5, .own (eOs 1 true eB x.1)), (6, .own (eOs 2 false F0_ x.2))]) ht2 [(5, .own (eOs 1 true eB ((List.replicate (w64 (((m_.Rows.length : Nat) : Int) * ((t_.Rows.length : Nat) : Int))).toNat false).set (0 : Int).toNat true))), (6, .own (eOs 2 true F0_ ([(wC.mk 0 0)])))] [] fun ⟨ia, list⟩ m2 aw ae hl1 J2 ax => ?_
  let Z0 : List HO := [Ha (lnM F0_ list)]
  obtain c0 | c0 := zy ae
  ·obtain ⟨ic, h1, ae⟩ := zt c0.2
   obtain ⟨g1, ae⟩ := gdE ae
   obtain ⟨al, h2, t3, ht3, ae⟩ := ye ae
   refine yM 11111200101110 [J1, J2] [2,3,5,6,7,43,44,45] (fun x => [(5, .own (eOs 1 true eB x.1)), (6, .own (eOs 2 false F0_ x.2.1)), (45, .d (I x.2.2))]) ht3  (Z0 ++ [c0, Ha (lnM F0_ list), Hn (iL F0_ h1), Hs (iM F0_ h1), Ha (lnM F0_ list), Hn g1.1, Hn (cuB F0_ g1), Hl (cuM F0_ list (w64 (((list.length : Nat) : Int) - 1))), Hn (⟨rfl, by decide⟩ : true = true ∧ 0 < 2), Hi yj h2, Ha (lnM F9_ al)]) fun ⟨dg, jo, jv⟩ m3 dc ah hl2 J3 bk => ?_
   obtain c1 | c1 := zy ah
   ·refine yNs 11111200101110011 [J1, J2, J3] [2,3,5,6,7,43,44,45] (fun z : List Bool × List (wC Int) => ZF jv z.1 z.2 = some dc) (fun z => [(5, .own (eOs 1 true eB z.1)), (6, .own (eOs 2 false F0_ z.2))]) [c1, Hh (.cut 0)] ?_ fun J4 cx => ?_
    ·rintro ⟨cw, ni⟩ ah
     cases ah
     exact yB bk _ hl2 []
    ·obtain ⟨ak, h3, dp, h4, ar, h5, ah⟩ := jG c1.2
     let Z1 : List HO := [Hi F9_ h3, Hn (⟨rfl, by decide⟩ : true = true ∧ 1 < 2), Hi yj h4, Hi F9_ h5]
     obtain c2 | c2 := zy ah
     ·cases c2.2
      cases hl2
      cases ae
      cases hl1
      cases aa
      exact yE hE (Z1 ++ [c2])
     ·obtain ⟨mi, h6, ah⟩ := zt c2.2
      let Z2 : List HO := (Z1 ++ [c2, Ha (lnM yj t_.Rows), Hn (iL eB h6), Hs (iM eB h6)])
      obtain c3 | c3 := zy ah
      ·obtain ⟨oc, h7, ah⟩ := zt c3.2
       obtain ⟨g2, ah⟩ := gdE ah
       exact yB cx ((dg.set (w64 ((w64 (ak.To * ((t_.Rows.length : Nat) : Int))) + ar.To)).toNat true), (jo ++ [(wC.mk ak.To ar.To)])) ah (Z2 ++ [c3, Hn (iL eB h7), Hs (iM eB h7), Hs (iM eB h7), Hl (sM eB dg (w64 ((w64 (ak.To * ((t_.Rows.length : Nat) : Int))) + ar.To)) true), Hq (dM F0_ [(wC.mk ak.To ar.To)]), Hn (dM F0_ [(wC.mk ak.To ar.To)]), Hn (aL F0_ F0_ g2), Hl (aM F0_ jo [(wC.mk ak.To ar.To)])])
      ·exact yB cx (dg, jo) c3.2 (Z2 ++ [c3])
   ·cases c1.2
    cases hl2
    cases ae
    exact yB ax _ hl1 [c1]
  ·cases c0.2
   cases hl1
   exact yB au () aa (Z0 ++ [c0])
def l47 : List y6 := uV 55 (xm zO yS eAn) zO eB zS :: l46
theorem Vk [H : HS X0 l46] : OkH l47 := yS2 true Tryz.func55 fun x_ t_ r0 aa E hE => by
 obtain ⟨r_, h0, aa⟩ := zt aa
 let Z0 : List HO := [zC1 2 h0]
 obtain c0 | c0 := zy aa
 ·cases c0.2
  exact yE hE (Z0 ++ [c0])
 ·refine yNs 111 [] [2,3] (fun z : Unit => jS x_ t_ = some r0) (fun z => []) (Z0 ++ [c0, Hh (.cut 0)]) ?_ fun J1 au => ?_
  ·rintro ⟨⟩ aa
   obtain ⟨ai, h1, aa⟩ := zt aa
   cases aa
   exact yE hE [zC2 0 h1]
  ·refine yMb 111210 [J1] [2,3,11,12,13] (fun x => [(13, .d (I x))]) c0.2  [Ha (lnM F5_ x_.l_)] fun t2 aa em m2 aw ae hl1 J2 ax => ?_
   obtain c1 | c1 := zy ae
   ·obtain ⟨cq, h2, am, h3, ae⟩ := ye c1.2
    let Z1 : List HO := [c1, Hi F5_ h2, zC3 1 h3]
    obtain c2 | c2 := zy ae
    ·cases c2.2
     cases hl1
     cases aa
     exact yE hE (Z1 ++ [c2])
    ·cases c2.2
     exact yB ax _ hl1 (Z1 ++ [c2])
   ·cases c1.2
    cases hl1
    exact yB au () aa [c1]
abbrev Wn (x0 : z6) (x1 : Int) (YY : σ → kB) (bm : Value) (eu : List (Option (Int × Int × Int))) (yr : σ × Bool) (oz : List z7) (k_ : Int) : List (Nat × T) := [(0, .own (.opq (YY yr.1).q)), (1, .d (.sptr (zO x0))), (2, .d (.sptr (I x1))), (4, .own (.box (.agg [I x0.Inputs, I x0.Outputs, eOs 1 true (eNv 2 bm) eu]))), (5, .own (eOs 2 true F9_ oz)), (7, .d (I k_))]
abbrev Wl (x0 : z6) (x1 : Int) (YY : σ → kB) (bm : Value) (eu : List (Option (Int × Int × Int))) (yr : σ × Bool) (fp : List z7) (aq : Int) : List (Nat × T) := [(0, .own (.opq (YY yr.1).q)), (1, .d (.sptr (zO x0))), (2, .d (.sptr (I x1))), (4, .own (.box (.agg [I x0.Inputs, I x0.Outputs, eOs 1 true (eNv 2 bm) eu]))), (5, .own (eOs 2 true F9_ fp)), (7, .d (I aq))]
abbrev Wm (x0 : z6) (x1 : Int) (YY : σ → kB) (bm : Value) (eu : List (Option (Int × Int × Int))) (de : σ) (all : List z7) : List (Nat × T) := [(0, .own (.opq (YY de).q)), (1, .d (.sptr (zO x0))), (2, .d (.sptr (I x1))), (4, .own (.box (.agg [I x0.Inputs, I x0.Outputs, eOs 1 true (eNv 2 bm) eu]))), (5, .own (eOs 2 true F9_ all))]
abbrev Wo (x0 : z6) (x1 : Int) (YY : σ → kB) (sg : σ) (bm : Value) (eu : List (Option (Int × Int × Int))) : List (Nat × T) := [(0, .own (.opq (YY sg).q)), (1, .d (.sptr (zO x0))), (2, .d (.sptr (I x1))), (4, .own (.box (.agg [I x0.Inputs, I x0.Outputs, eOs 1 true (eNv 2 bm) eu]))), (5, .own (eOs 2 true F9_ (List.replicate (w64 (x1 * x0.Inputs)).toNat (z7.mk 0 0))))]
abbrev Wk (x0 : z6) (x1 : Int) (YY : σ → kB) (sg : σ) (bm : Value) (je : List (Option (Int × Int × Int))) (fj : Int) : List (Nat × T) := [(0, .own (.opq (YY sg).q)), (1, .d (.sptr (zO x0))), (2, .d (.sptr (I x1))), (4, .own (.box (.agg [I x0.Inputs, I x0.Outputs, eOs 1 true (eNv 2 bm) je]))), (5, .own (eOs 2 true F9_ (List.replicate (w64 (x1 * x0.Inputs)).toNat (z7.mk 0 0)))), (21, .d (I x1)), (22, .d (I fj))]
theorem Qb [H : HS X0 l47] (x0 : z6) (x1 : Int) : z9M Tryz.prog (.fn 80 [.sptr (.agg [I x0.Inputs, I x0.Outputs, eSl 1 false yj x0.Rows]), .sptr (I x1)]) (fun (x : z6) (_ : Bool) (_ : Value) => [zO x]) (@xk x0 x1) := by
 refine z9f (tt := wp) (nt := Tryz.f80.ntmps) (body := zbd Tryz.f80) zo Tryz.func80 rfl (by kernel_rfl) rfl rfl (by show (3 : Nat) ≤ 95; decide) ?_
 intro σ yv YY yy hy hw sg r0 aa E hE
 obtain ⟨g0, aa⟩ := gdE aa
 obtain ⟨g1, aa⟩ := gdE aa
 refine yC 111 [] [0,1,2,4,5] [Hn (rL g0), Ha (rM 1 zfy x1 ([] : List z7)), Hn (rL g1), Ha (rM 2 F9_ (w64 (x1 * x0.Inputs)) (z7.mk 0 0)), Hh (.cut 0)] ?_
 refine Jk (y := eOs 2 true F9_ (List.replicate (w64 (x1 * x0.Inputs)).toNat (z7.mk 0 0))) (by kernel_rfl) 5 (by kernel_rfl) (by kernel_rfl) fun bm hv5 => ?_
 refine yKs 111 [] [0,1,2,4,5] (zI (uS x0 x1 yy sg) r0) (fun z => Wo x0 x1 YY sg bm z) [Hh (.cut 0)] ?_ fun J1 au => ?_
 ·rintro eu aa
  obtain ⟨t2, ht2, aa⟩ := zt aa
  refine yL 11110 [] (fun s => y4 x0 x1 yy eu s.1 s.2) (fun x => Wm x0 x1 YY bm eu x.1 x.2) (sg, (List.replicate (w64 (x1 * x0.Inputs)).toNat (z7.mk 0 0))) ht2  [] fun ⟨de, all⟩ m2 aw ae hl1 J2 ax => ?_
  obtain ⟨rows, h0, yr, h1, ae⟩ := ye ae
  obtain c0 | c0 := zy ae
  ·refine yKs (H := zx ((xTy (P := Tryz.prog) wp hy hw 48 4 5 2 bm (tg := true) (tg5 := true) (u1 := .int .i64 x0.Inputs) (u2 := .int .i64 x0.Outputs) F9_ h0 (by decide) (s := de) (x := (z6.mk x0.Inputs x0.Outputs rows)) (s' := yr.1) (b := true) (yrE h1 c0.1) (fun _ => (inferInstance : Yy [z9N (z6.mk x0.Inputs x0.Outputs rows)] [zO (z6.mk x0.Inputs x0.Outputs rows)]))).or X0)) 111100011 [J2] [0,1,2,4,5,7] (fun z : List z7 × Int => uR yr z.1 z.2 = some aw) (fun z => Wn x0 x1 YY bm eu yr z.1 z.2) [Hn (⟨rfl, rfl, rfl, rfl, rfl, rfl⟩ : [A.atom yv] = [A.atom yv] ∧ [(yv, A.opq (YY de).q)] = [(yv, A.opq (YY de).q)] ∧ T.als 4 [.deref] 0 0 = T.als 4 [.deref] 0 0 ∧ T.own (.box (.agg [I x0.Inputs, I x0.Outputs, eOs 1 true (eNv 2 bm) eu])) = T.own (.box (.agg [I x0.Inputs, I x0.Outputs, eOs 1 true (eNv 2 bm) eu])) ∧ T.own (eOs 2 true F9_ all) = T.own (eOs 2 true F9_ all) ∧ some bm = some bm), Hq (congrArg Bool.not (Eq.refl true)), Ha (lnM F9_ all), Hh (.cut 0)] ?_ fun J3 bk => ?_
   ·rintro ⟨oz, k_⟩ ae
    obtain c1 | c1 := zy ae
    ·cases c1.2
     cases hl1
     cases aa
     exact yF .ret [(0, .own (.opq (YY yr.1).q))] [c1] fun st0 h0 => hE _ st0 (.inr rfl) h0
    ·cases c1.2
     exact yB ax _ hl1 [c1]
   ·obtain ⟨t4, ht4, ae⟩ := zt c0.2
    refine yL 11110001120 [J2, J3] (fun s => xC x0 x1 s.1 s.2) (fun x => Wl x0 x1 YY bm eu yr x.1 x.2) (all, w64 (((all.length : Nat) : Int) - 1)) ht4  [] fun ⟨fp, aq⟩ m4 dc ah hl2 J4 cx => ?_
    obtain c2 | c2 := zy ah
    ·obtain ⟨r9, h2, bw, h3, l5, h4, ah⟩ := jG c2.2
     let Z0 : List HO := [c2, Hn (⟨rfl, rfl⟩ : T.als 5 [] 0 0 = T.als 5 [] 0 0 ∧ some bm = some bm), Hn (⟨i0 h2, (iL F9_ h2).2⟩ : (0 : Int) ≤ aq ∧ aq.toNat < (fp.map F9_).length), Hn (rfl : T.d (.atom (ZV 2 bm aq)) = T.d (.atom (ZV 2 bm aq))), Hn (⟨rfl, rfl⟩ : T.d (.atom (ZV 2 bm aq)) = T.d (.atom (ZV 2 bm aq)) ∧ some bm = some bm), Hn ((iL F9_ h3).2 : aq.toNat < (fp.map F9_).length), Hs (iM F9_ h3), Hs (iM F9_ h3), Hs (iM F9_ h3), Hs (iM F9_ h3), Hs (iM F9_ h3), Hs (iM F9_ h3), Hs (iM F9_ h3), Hl (sM F9_ fp aq (z7.mk bw.To (w64 (bw.Out + 1)))), Hn (⟨rfl, rfl⟩ : T.d (.atom (ZV 2 bm aq)) = T.d (.atom (ZV 2 bm aq)) ∧ some bm = some bm), Hn ((iL F9_ h4).2 : aq.toNat < ((fp.set aq.toNat (z7.mk bw.To (w64 (bw.Out + 1)))).map F9_).length), Hs (iM F9_ h4), Hs (iM F9_ h4), Hs (iM F9_ h4)]
     obtain c3 | c3 := zy ah
     ·cases c3.2
      cases hl2
      exact yB (H := zx ((xPm (P := Tryz.prog) 67 5 2 bm aq).or ((xPm (P := Tryz.prog) 60 5 2 bm aq).or ((xAs Tryz.prog 8 (ZV 2 bm aq)).or ((xPa zo 59 5 bm).or X0))))) bk ((fp.set aq.toNat (z7.mk bw.To (w64 (bw.Out + 1)))), aq) ae (Z0 ++ [c3])
     ·obtain ⟨j6, h5, ib, h6, ra, h7, ah⟩ := jG c3.2
      let Z1 : List HO := (Z0 ++ [c3, Hn (⟨rfl, rfl⟩ : T.d (.atom (ZV 2 bm aq)) = T.d (.atom (ZV 2 bm aq)) ∧ some bm = some bm), Hn ((iL F9_ h5).2 : aq.toNat < ((fp.set aq.toNat (z7.mk bw.To (w64 (bw.Out + 1)))).map F9_).length), Hs (iM F9_ h5), Hs (iM F9_ h5), Hs (iM F9_ h5), Hs (iM F9_ h5), Hl (sM F9_ (fp.set aq.toNat (z7.mk bw.To (w64 (bw.Out + 1)))) aq (z7.mk j6.To 0)), Hn (⟨rfl, rfl⟩ : T.d (.atom (ZV 2 bm aq)) = T.d (.atom (ZV 2 bm aq)) ∧ some bm = some bm), Hn ((iL F9_ h6).2 : aq.toNat < (((fp.set aq.toNat (z7.mk bw.To (w64 (bw.Out + 1)))).set aq.toNat (z7.mk j6.To 0)).map F9_).length), Hs (iM F9_ h6), Hs (iM F9_ h6), Hs (iM F9_ h6), Hs (iM F9_ h6), Hs (iM F9_ h6), Hs (iM F9_ h6), Hs (iM F9_ h6), Hl (sM F9_ ((fp.set aq.toNat (z7.mk bw.To (w64 (bw.Out + 1)))).set aq.toNat (z7.mk j6.To 0)) aq (z7.mk (w64 (ib.To + 1)) ib.Out)), Hn (⟨rfl, rfl⟩ : T.d (.atom (ZV 2 bm aq)) = T.d (.atom (ZV 2 bm aq)) ∧ some bm = some bm), Hn ((iL F9_ h7).2 : aq.toNat < ((((fp.set aq.toNat (z7.mk bw.To (w64 (bw.Out + 1)))).set aq.toNat (z7.mk j6.To 0)).set aq.toNat (z7.mk (w64 (ib.To + 1)) ib.Out)).map F9_).length), Hs (iM F9_ h7), Hs (iM F9_ h7), Hs (iM F9_ h7)])
      obtain c4 | c4 := zy ah
      ·cases c4.2
       cases hl2
       exact yB (H := zx ((xPm (P := Tryz.prog) 84 5 2 bm aq).or ((xPm (P := Tryz.prog) 77 5 2 bm aq).or ((xPm (P := Tryz.prog) 74 5 2 bm aq).or ((xPm (P := Tryz.prog) 67 5 2 bm aq).or ((xPm (P := Tryz.prog) 60 5 2 bm aq).or ((xAs Tryz.prog 8 (ZV 2 bm aq)).or ((xPa zo 59 5 bm).or X0)))))))) bk ((((fp.set aq.toNat (z7.mk bw.To (w64 (bw.Out + 1)))).set aq.toNat (z7.mk j6.To 0)).set aq.toNat (z7.mk (w64 (ib.To + 1)) ib.Out)), aq) ae (Z1 ++ [c4])
      ·obtain ⟨po, h8, ah⟩ := zt c4.2
       cases ah
       exact yB (H := zx ((xPm (P := Tryz.prog) 90 5 2 bm aq).or ((xPm (P := Tryz.prog) 84 5 2 bm aq).or ((xPm (P := Tryz.prog) 77 5 2 bm aq).or ((xPm (P := Tryz.prog) 74 5 2 bm aq).or ((xPm (P := Tryz.prog) 67 5 2 bm aq).or ((xPm (P := Tryz.prog) 60 5 2 bm aq).or ((xAs Tryz.prog 8 (ZV 2 bm aq)).or ((xPa zo 59 5 bm).or X0))))))))) cx _ hl2 (Z1 ++ [c4, Hn (⟨rfl, rfl⟩ : T.d (.atom (ZV 2 bm aq)) = T.d (.atom (ZV 2 bm aq)) ∧ some bm = some bm), Hn ((iL F9_ h8).2 : aq.toNat < ((((fp.set aq.toNat (z7.mk bw.To (w64 (bw.Out + 1)))).set aq.toNat (z7.mk j6.To 0)).set aq.toNat (z7.mk (w64 (ib.To + 1)) ib.Out)).map F9_).length), Hs (iM F9_ h8), Hs (iM F9_ h8), Hs (iM F9_ h8), Hs (iM F9_ h8), Hl (sM F9_ (((fp.set aq.toNat (z7.mk bw.To (w64 (bw.Out + 1)))).set aq.toNat (z7.mk j6.To 0)).set aq.toNat (z7.mk (w64 (ib.To + 1)) ib.Out)) aq (z7.mk 0 po.Out))])
    ·cases c2.2
     cases hl2
     exact yB bk (fp, aq) ae [c2]
  ·cases c0.2
   cases hl1
   cases aa
   exact yF (H := zx ((xTy (P := Tryz.prog) wp hy hw 48 4 5 2 bm (tg := true) (tg5 := true) (u1 := .int .i64 x0.Inputs) (u2 := .int .i64 x0.Outputs) F9_ h0 (by decide) (s := de) (x := (z6.mk x0.Inputs x0.Outputs rows)) (s' := yr.1) (b := false) (yrE h1 c0.1) (fun _ => (inferInstance : Yy [z9N (z6.mk x0.Inputs x0.Outputs rows)] [zO (z6.mk x0.Inputs x0.Outputs rows)]))).or X0)) .ret [(0, .own (.opq (YY yr.1).q))] [Hn (⟨rfl, rfl, rfl, rfl, rfl, rfl⟩ : [A.atom yv] = [A.atom yv] ∧ [(yv, A.opq (YY de).q)] = [(yv, A.opq (YY de).q)] ∧ T.als 4 [.deref] 0 0 = T.als 4 [.deref] 0 0 ∧ T.own (.box (.agg [I x0.Inputs, I x0.Outputs, eOs 1 true (eNv 2 bm) eu])) = T.own (.box (.agg [I x0.Inputs, I x0.Outputs, eOs 1 true (eNv 2 bm) eu])) ∧ T.own (eOs 2 true F9_ all) = T.own (eOs 2 true F9_ all) ∧ some bm = some bm), Hq (congrArg Bool.not (Eq.refl false))] fun st0 h0 => hE _ st0 (.inr rfl) h0
 ·obtain ⟨t5, ht5, aa⟩ := zt aa
  refine yLx 111210 [J1] (fun s => yx x0 x1 s.1 s.2) (fun x => Wk x0 x1 YY sg bm x.1 x.2) ((List.replicate x1.toNat none), 0) ht5 [(0, .own (.opq (YY sg).q)), (1, .d (.sptr (zO x0))), (2, .d (.sptr (I x1))), (4, .own (.box (.agg [I x0.Inputs, I x0.Outputs, eOs 1 true zfy (List.replicate x1.toNat ([] : List z7))]))), (5, .own (eOs 2 true F9_ (List.replicate (w64 (x1 * x0.Inputs)).toNat (z7.mk 0 0)))), (21, .d (I x1)), (22, .d (I 0))] inferInstance [] fun ⟨je, fj⟩ m5 aw ae hl1 J5 dh => ?_
  obtain c5 | c5 := zy ae
  ·obtain ⟨g2, ae⟩ := gdE c5.2
   obtain ⟨ph, h9, ae⟩ := zt ae
   obtain ⟨g3, ae⟩ := gdE ae
   cases ae
   exact yB (H := zx ((xS3 zo 43 5 bm).or X0)) dh _ hl1 [c5, Hn (⟨rfl, rfl⟩ : T.als 5 [] 0 0 = T.als 5 [] 0 0 ∧ some bm = some bm), Hn (⟨g2.1, g2.2.1, g2.2.2.1, s3B F9_ g2.2.2.2⟩ : (0 : Int) ≤ w64 (fj * x0.Inputs) ∧ (w64 (fj * x0.Inputs) : Int) ≤ w64 ((w64 (fj + 1)) * x0.Inputs) ∧ (w64 ((w64 (fj + 1)) * x0.Inputs) : Int) ≤ w64 ((w64 (fj + 1)) * x0.Inputs) ∧ (w64 ((w64 (fj + 1)) * x0.Inputs)).toNat ≤ ((List.replicate (w64 (x1 * x0.Inputs)).toNat (z7.mk 0 0)).map F9_).length), Hn (iL (eNv 2 bm) h9), Hx (.a (.osl 2 true [])) (iMn 2 bm h9 g3), Hx (.a (.osl 2 true [])) (iMn 2 bm h9 g3), Hl (sM (eNv 2 bm) je fj (some (w64 (fj * x0.Inputs), w64 ((w64 (fj + 1)) * x0.Inputs), w64 ((w64 (fj + 1)) * x0.Inputs))))]
  ·cases c5.2
   cases hl1
   exact yB au je aa [c5]
variable {v : Value}
theorem z8a [H : HS X0 l47]  {s : Int} {x : z6} {s' : Int} {b : Bool} (h : some (w64 (s + 1), true) = some (s', b)) : yl Tryz.prog (.fn 33 [.atom v]) [zO x] [(v, .box ((eI .i64) s))] (.atom (.bool b)) [.box ((eI .i64) s')] := by
 cases h
 exact z0a (tt := wp) (nt := 6) (body := (Tryz.f33.body).getD .skip) (t := 3) [1] (args := [zO x]) (caps := [.atom v]) (xs := [.box (I s)]) (vals := [v]) (r := .atom (.bool true)) (ys := [.box (I (w64 (s + 1)))]) zo Tryz.func33 rfl (by kernel_rfl) rfl rfl (by show (2 : Nat) ≤ 6; decide) (by decide) rfl rfl rfl rfl (fun E hE => yF .ret [(1, .own (.box (I (w64 (s + 1))))), (3, .d (.atom (.bool true)))] [] fun st0 h0 => hE _ st0 (.inr rfl) (ui h0 ⟨⟨rfl, rfl⟩, trivial⟩) (zcz h0 rfl rfl)) rfl
theorem z3D [H : HS X0 l47]  {s x s' : z6} {b : Bool} (h : some (x, false) = some (s', b)) : yl Tryz.prog (.fn 29 [.atom v]) [zO x] [(v, .box (zO s))] (.atom (.bool b)) [.box (zO s')] := by
 cases h
 exact z0a (tt := wp) (nt := 5) (body := (Tryz.f29.body).getD .skip) (t := 3) [1] (args := [zO x]) (caps := [.atom v]) (xs := [.box (zO s)]) (vals := [v]) (r := .atom (.bool false)) (ys := [.box (zO x)]) zo Tryz.func29 rfl (by kernel_rfl) rfl rfl (by show (2 : Nat) ≤ 5; decide) (by decide) rfl rfl rfl rfl (fun E hE => yF .ret [(1, .own (.box (zO x))), (3, .d (.atom (.bool false)))] [] fun st0 h0 => hE _ st0 (.inr rfl) (ui h0 ⟨⟨rfl, rfl⟩, trivial⟩) (zcz h0 rfl rfl)) rfl
theorem uc [H : HS X0 l47] {τ : Type} {K : Nat} {c : τ → A} {y : τ → z6 → Option (τ × Bool)} (hy : ∀ (v : Value) s x s' b, y s x = some (s', b) → yl Tryz.prog (.fn K [.atom v]) [zO x] [(v, .box (c s))] (.atom (.bool b)) [.box (c s')])
  (hw : ∀ s x s', y s x = some (s', true) → WkA (.box (c s'))) (m_ : z6) (l_ : List (List Int)) (states : Int) (s_ : τ) (hi : WkA (.box (c s_))) (r0 : τ) (aa : y8 y m_ l_ states s_ = some r0) (cv : Value) : yl Tryz.prog (.fn 30 []) [.agg [zO m_, yS l_, .fn K [.atom cv]], I states] [(cv, .box (c s_))] (.tup []) [.box (c r0)] := by
 refine z4t (nt := Tryz.f30.ntmps) (body := zbd Tryz.f30) 3 hi Tryz.func30 rfl (by kernel_rfl) rfl rfl (by show (2 : Nat) ≤ 3; decide) (by decide) (by kernel_rfl) fun E hG hE => ?_
 unfold y8 at aa
 refine yA 11 [] [(1, .d (I states)), (2, .own (.box (.agg [zO m_, yS l_, .fn K [.atom cv]]))), (3, .own (.opq (ghQ (WkA (.box (c s_))) cv (.box (c s_)))))] [] ?_
 refine z4Z (c' := (sub [1,0] (zbd Tryz.f30))) (l := 0) (by kernel_rfl) (by kernel_rfl) ?_
 refine yL 110010 [] (fun q => zQ y m_ l_ states q.1 q.2) (fun q => [(1, .d (I states)), (2, .d (.sptr (.agg [zO m_, yS l_, .fn K [.atom cv]]))), (3, .own (.opq (ghQ (WkA (.box (c q.2))) cv (.box (c q.2))))), (4, .d (I q.1))]) (1, s_) aa [Hh (.n 0 [2])] fun ⟨i_, bf⟩ m1 aw ae hl1 J1 au => ?_
 refine zce (g := 3) rfl fun hs1 => ?_
 unfold zQ at ae
 obtain c0 | c0 := zy ae
 ·refine yJ 11001001 [J1] [1,2,3,4] (fun z : τ => (some (LR.next (w64 (i_ + 1), z)) : Option (LR (Int × τ) τ)) = some aw) (fun z => [(1, .d (I states)), (2, .d (.sptr (.agg [zO m_, yS l_, .fn K [.atom cv]]))), (3, .own (.opq (ghQ (WkA (.box (c z))) cv (.box (c z))))), (4, .d (I i_))]) [(1, .d (I states)), (2, .d (.sptr (.agg [zO m_, yS l_, .fn K [.atom cv]]))), (3, .own (.opq (ghQ (WkA (.box (c bf))) cv (.box (c bf))))), (4, .d (I i_))] [c0, Hh (.cut 0)] ?_ fun J2 ax => ?_
  ·rintro z hz
   obtain rfl := yY hz
   exact yB au _ hl1 []
  ·obtain ⟨r_, h0, t_, ht, ae⟩ := ye c0.2
   refine yAt (sub [1,0,0,1,0,0,1,2,0,1,0] (zbd Tryz.f30)) (frs [1,0,0,1,0,0,1,2,0,1,0] [J1, J2] (zbd Tryz.f30) []) [(1, .d (I states)), (2, .d (.sptr (.agg [zO m_, yS l_, .fn K [.atom cv]]))), (3, .own (.opq (ghQ (WkA (.box (c bf))) cv (.box (c bf))))), (4, .d (I i_)), (14, .d (.fn 80 [.sptr (zO r_.1), .sptr (I r_.2)]))] [zC2 4 h0] fun st0 hs0 => ?_
   obtain rfl : r_ = (m_, i_) := (yY h0).symm
   refine z37 (g := .tmp 14) (ps := [15]) (assign := (sub [1,0,0,1,0,0,1,2,0,1,0,0] (zbd Tryz.f30))) (body := (sub [1,0,0,1,0,0,1,2,0,1,0,1] (zbd Tryz.f30))) (K := 80) (caps := [.sptr (zO m_), .sptr (I i_)]) (by kernel_rfl) [1,2,3,4,14] (fun s => [(1, .d (I states)), (2, .d (.sptr (.agg [zO m_, yS l_, .fn K [.atom cv]]))), (3, .own (.opq (ghQ (WkA (.box (c s))) cv (.box (c s))))), (4, .d (I i_)), (14, .d (.fn 80 [.sptr (zO m_), .sptr (I i_)]))]) (fun s => [(1, .d (I states)), (2, .d (.sptr (.agg [zO m_, yS l_, .fn K [.atom cv]]))), (3, .own (.opq (ghQ True cv (.box (c s))))), (4, .d (I i_)), (14, .d (.fn 80 [.sptr (zO m_), .sptr (I i_)]))]) (fun _ => Code.goto 0) (fun (x : z6) (_ : Bool) (_ : Value) => [zO x]) (fun s x => zX y m_ l_ s x) bf t_ _ hs0 inferInstance (by kernel_rfl) (by decide) (fun _ => rfl) (fun _ => rfl) (by kernel_rfl) (fun _ _ _ => rfl) (z4z (Qb (H := zd 0) m_ i_) (fun s => WkA (.box (c s))) ?_ ?_ ht) ?_ ?_
   ·exact hs1
   ·intro s x s' hs hst
    refine (fun h => ⟨h, .d 1 _ (.d 2 _ (.own 3 (zcK h) (.d 4 _ (.d 14 _ .nil))))⟩) ?_
    unfold zX at hst
    obtain ⟨b, hb, hst⟩ := zt hst
    obtain c1 | c1 := zy hst
    ·obtain ⟨q, hq, hst⟩ := zt c1.2
     obtain c2 | c2 := zy hst
     ·cases c2.2
      exact hw s x q.1 (by rw [hq, ← c2.1])
     ·cases c2.2
    ·cases c1.2
     exact hs
   ·rintro sr bl x_ vr dc ah
    replace ah : zX y m_ l_ bl x_ = some dc := ah
    unfold zX at ah
    obtain ⟨rg, hg, ah⟩ := zt ah
    refine zce (g := 3) rfl fun hs2 => ?_
    refine yF .normal [(1, .d (I states)), (2, .d (.sptr (.agg [zO m_, yS l_, .fn K [.atom cv]]))), (3, .own (.opq (ghQ (WkA (.box (c bl))) cv (.box (c bl))))), (4, .d (I i_)), (5, .own (.box (zO x_))), (14, .d (.fn 80 [.sptr (zO m_), .sptr (I i_)]))] [] fun st0 h0 => ⟨rfl, JR h0 ?_⟩
    obtain c1 | c1 := zy ah
    ·obtain ⟨ry, hry, ah⟩ := zt c1.2
     have hcall := hy cv bl x_ ry.1 ry.2 hry
     have hZ : ∀ q : Prop, ([A.fn K [.atom cv]] = [A.fn K [.atom cv]] ∧ Yy [zO x_] [zO x_] ∧ T.own (.opq (ghQ (WkA (.box (c bl))) cv (.box (c bl)))) = T.own (.opq (ghQ (WkA (.box (c bl))) cv (.box (c bl))))) := fun _ => ⟨rfl, inferInstance, rfl⟩
     obtain c2 | c2 := zy ah
     ·obtain rfl := yY c2.2
      exact yF (H := zx ((xGh (P := Tryz.prog) wp 23 3 (p := WkA (.box (c bl))) (p' := WkA (.box (c ry.1))) (fun _ => hw bl x_ ry.1 (by rw [hry, ← c2.1])) rfl hcall).or (((xLs zo 16 (.agg [zO m_, yS l_, .fn K [.atom cv]]) (.agg [zO m_, yS l_, .dop zch]) inferInstance)).or X0))) .normal [(1, .d (I states)), (2, .d (.sptr (.agg [zO m_, yS l_, .fn K [.atom cv]]))), (3, .own (.opq (ghQ (WkA (.box (c ry.1))) cv (.box (c ry.1))))), (4, .d (I i_)), (14, .d (.fn 80 [.sptr (zO m_), .sptr (I i_)]))] (Hn (rfl : T.d (.agg [zO m_, yS l_, .fn K [.atom cv]]) = T.d (.agg [zO m_, yS l_, .fn K [.atom cv]])) :: Hk [] (Us (hat 0)) (zf2 0 hg (loC ((xm zO yS eAn)) (xo.mk m_ l_ ()) <| loC zO x_ <| loN)) :: (rpN 4 (Hb c1) [Hn (hZ True), c1, c1, Hq (congrArg Bool.not c2.1)])) fun st0 h0 => ⟨rfl, _, h0, LeL.refl _⟩
     ·obtain rfl := yY c2.2
      refine yAt (H := zx ((xGh (P := Tryz.prog) wp 23 3 (p := WkA (.box (c bl))) (p' := True) (fun _ => trivial) rfl hcall).or (((xLs zo 16 (.agg [zO m_, yS l_, .fn K [.atom cv]]) (.agg [zO m_, yS l_, .dop zch]) inferInstance)).or X0))) (.goto 0) [.blk 3] [(1, .d (I states)), (2, .d (.sptr (.agg [zO m_, yS l_, .fn K [.atom cv]]))), (3, .own (.opq (ghQ True cv (.box (c ry.1))))), (4, .d (I i_)), (14, .d (.fn 80 [.sptr (zO m_), .sptr (I i_)]))] (Hn (rfl : T.d (.agg [zO m_, yS l_, .fn K [.atom cv]]) = T.d (.agg [zO m_, yS l_, .fn K [.atom cv]])) :: Hk [] (Us (hat 0)) (zf2 0 hg (loC ((xm zO yS eAn)) (xo.mk m_ l_ ()) <| loC zO x_ <| loN)) :: (rpN 4 (Hb c1) [Hn (hZ True), c1, c1, Hq (congrArg Bool.not c2.1)])) fun st0 h0 => AWP.goto (Vz _ ⟨rfl, _, h0, LeL.refl _⟩)
    ·obtain rfl := yY c1.2
     exact yF (H := zx (((xLs zo 16 (.agg [zO m_, yS l_, .fn K [.atom cv]]) (.agg [zO m_, yS l_, .dop zch]) inferInstance)).or X0)) .normal [(1, .d (I states)), (2, .d (.sptr (.agg [zO m_, yS l_, .fn K [.atom cv]]))), (3, .own (.opq (ghQ (WkA (.box (c bl))) cv (.box (c bl))))), (4, .d (I i_)), (14, .d (.fn 80 [.sptr (zO m_), .sptr (I i_)]))] (Hn (rfl : T.d (.agg [zO m_, yS l_, .fn K [.atom cv]]) = T.d (.agg [zO m_, yS l_, .fn K [.atom cv]])) :: Hk [] (Us (hat 0)) (zf2 0 hg (loC ((xm zO yS eAn)) (xo.mk m_ l_ ()) <| loC zO x_ <| loN)) :: (rpN 6 (Hb c1) [qF])) fun st0 h0 => ⟨rfl, _, h0, LeL.refl _⟩
   ·rcases t_ with bl | bl
    ·exact uF (by kernel_rfl) (ax _ [(1, .d (I states)), (2, .d (.sptr (.agg [zO m_, yS l_, .fn K [.atom cv]]))), (3, .own (.opq (ghQ (WkA (.box (c bl))) cv (.box (c bl))))), (4, .d (I i_))] bl ae (show Own.canon [1,2,3,4] _ = ofL _ by kernel_rfl) inferInstance)
    ·obtain rfl := yY ae
     obtain rfl := hl1
     refine AWP.goto (Vz _ ⟨rfl, hE _ _ (.inl rfl) ⟨_, rfl⟩⟩)
 ·obtain rfl := yY c0.2
  obtain rfl := hl1
  exact yF .normal [(3, .own (.opq (ghQ (WkA (.box (c bf))) cv (.box (c bf)))))] [c0] fun st0 h0 => hE _ st0 (.inl rfl) ⟨_, z7U h0 rfl rfl⟩
def l48 : List y6 := Jp 11 zO yS (eI .i64) (eT2 (eI .i64) (eI .i64)) xG :: l47
theorem z1P [H : HS X0 l47] : OkH l48 := yS3 false Tryz.func11 fun m_ l_ states r0 aa E hE => by
 obtain ⟨r_, h0, aa⟩ := zt aa
 let Z0 : List HO := [zC3 5 h0]
 obtain c0 | c0 := zy aa
 ·cases c0.2
  exact yE hE (Z0 ++ [c0])
 ·refine yC 1111 [] [1,2,3,9] (Z0 ++ [c0, Hh (.cut 1)]) ?_
  refine z1z (by kernel_rfl) 9 fun lz => ?_
  obtain ⟨ai, h1, aa⟩ := zt c0.2
  cases aa
  exact yE (H := zx ((Jt (P := Tryz.prog) wp [9] (uc (H := zd 0) (K := 33) (c := (eI .i64)) (fun v s x s' b h => z8a (H := zd 0) h) (fun _ _ _ _ => UN rfl) _ _ _ _ (UN rfl) _ h1 lz) 24).or ((xMk Tryz.prog wp).or X0))) hE [Hn (Zp (f := .fn 30 []) (xs := [.agg [zO m_, yS l_, .fn 33 [.atom lz]], I states]) (ls := [(lz, .box ((eI .i64) 0))]) (r := .tup []) (ys := [.box ((eI .i64) ai)]) [.agg [zO m_, yS l_, .fn 33 [.atom lz]], I states] (show Yy [.agg [zO m_, yS l_, .fn 33 [.atom lz]], I states] [.agg [zO m_, yS l_, .fn 33 [.atom lz]], I states] from inferInstance))]
def l49 : List y6 := uV 60 zO (eI .i64) (eI .i64) Ue :: l48
theorem Jy [H : HS X0 l48] : OkH l49 := yS2 true Tryz.func60 fun m_ bound r0 aa E hE => by
 obtain ⟨r_, h0, aa⟩ := zt aa
 let Z0 : List HO := [zC1 23 h0]
 obtain c0 | c0 := zy aa
 ·cases c0.2
  exact yE hE (Z0 ++ [c0])
 ·let Z1 : List HO := (Z0 ++ [c0, Ha (lnM yj m_.Rows)])
  obtain c1 | c1 := zy c0.2
  ·cases c1.2
   exact yE hE (Z1 ++ (rpN 7 (Hb c1) [qT]))
  ·let Z2 : List HO := (Z1 ++ (rpN 4 (Hb c1) [Ha (lnM yj m_.Rows), c1, c1, c1]))
   obtain c2 | c2 := zy c1.2
   ·cases c2.2
    exact yE hE (Z2 ++ [c2])
   ·cases c2.2
    exact yE hE (Z2 ++ [c2])
def l50 : List y6 := uV 159 zO (eI .i64) (zfi 167 JS (eSp (eI .i64))) XF :: l49
theorem Uz [H : HS X0 l49] : OkH l50 := yS2 true Tryz.func159 fun m_ from_ r0 aa E hE => by
 cases aa
 exact yE hE []
abbrev Ye (x0 : z6) (YY : σ → kB) (cj : zp) (yr : σ × Bool) (al : List z7) (iv : Int) (cw : List Bool) (mj : List zp) : List (Nat × T) := [(0, .own (.opq (YY yr.1).q)), (1, .d (.sptr (zO x0))), (4, .own (eOs 1 true eB cw)), (5, .own (eDq 3 vW mj)), (6, .own (.box (vW cj))), (36, .d (eSl 2 false F9_ al)), (37, .d (I ((al.length : Nat) : Int))), (38, .d (I iv))]
abbrev Yc (x0 : z6) (YY : σ → kB) (cj : zp) (yr : σ × Bool) (al : List z7) (dg : List Bool) (ew : List zp) (iv : Int) : List (Nat × T) := [(0, .own (.opq (YY yr.1).q)), (1, .d (.sptr (zO x0))), (4, .own (eOs 1 true eB dg)), (5, .own (eDq 3 vW ew)), (6, .own (.box (vW cj))), (36, .d (eSl 2 false F9_ al)), (37, .d (I ((al.length : Nat) : Int))), (38, .d (I iv))]
abbrev Yd (x0 : z6) (YY : σ → kB) (de : σ) (ia : List Bool) (dn : List zp) : List (Nat × T) := [(0, .own (.opq (YY de).q)), (1, .d (.sptr (zO x0))), (4, .own (eOs 1 true eB ia)), (5, .own (eDq 3 vW dn))]
theorem Ws [H : HS X0 l50] (x0 : z6) (x1 : Int) : z2m Tryz.prog (.fn 167 [.sptr (.agg [I x0.Inputs, I x0.Outputs, eSl 1 false yj x0.Rows]), .sptr (I x1)]) (fun (x : zp) (_ : Bool) (_ : Value) => [vW x]) (@uI x0 x1) := by
 refine QQ (tt := wp) (nt := Tryz.f167.ntmps) (body := zbd Tryz.f167) zo Tryz.func167 rfl (by kernel_rfl) rfl rfl (by show (3 : Nat) ≤ 68; decide) ?_
 intro σ yv YY yy hy sg r0 aa E hE
 obtain ⟨g0, aa⟩ := gdE aa
 obtain ⟨l5, h0, t1, ht1, aa⟩ := ye aa
 refine yLx 11110 [] (fun s => qz x0 yy s.1 s.2.1 s.2.2) (fun x => Yd x0 YY x.1 x.2.1 x.2.2) (sg, ((List.replicate ((x0.Rows.length : Nat) : Int).toNat false).set x1.toNat true), ([(zp.mk x1 (-1) (-1))] : List zp)) ht1 [(0, .own (.opq (YY sg).q)), (1, .d (.sptr (zO x0))), (4, .own (eOs 1 true eB ((List.replicate ((x0.Rows.length : Nat) : Int).toNat false).set x1.toNat true))), (5, .own (eOs 3 true vW ([(zp.mk x1 (-1) (-1))])))] inferInstance [Ha (lnM yj x0.Rows), Hn (rL g0), Ha (rM 1 eB ((x0.Rows.length : Nat) : Int) false), Hn (iL eB h0), Hs (iM eB h0), Hs (iM eB h0), Hl (sM eB (List.replicate ((x0.Rows.length : Nat) : Int).toNat false) x1 true)] fun ⟨de, ia, dn⟩ m1 aw ae hl1 J1 au => ?_
 let Z0 : List HO := [Hn (rfl : eDq 3 vW dn = A.opq (QB 3 (dn.map vW)).q), Ha (lnM vW dn)]
 obtain c0 | c0 := zy ae
 ·refine yC (H := zx ((xQl zo 20 236 3 (dn.map vW) (by kernel_rfl)).or X0)) 11110010 [J1] [0,1,4,5] (Z0 ++ [c0, Hh (.cut 0)]) ?_
  obtain ⟨cj, h1, ae⟩ := zt c0.2
  refine z1y (by kernel_rfl) (x := (sub [1,1,1,0,0,1,0,0] (zbd Tryz.f167))) (y := (sub [1,1,1,0,0,1,0,1] (zbd Tryz.f167))) 5 (fun st1 => Own.canon [0,1,4,5,6] st1 = ofL [(0, .own (.opq (YY de).q)), (1, .d (.sptr (zO x0))), (4, .own (eOs 1 true eB ia)), (5, .own (eDq 3 vW dn)), (6, .own (.box (vW cj)))]) (fun bm => yF (H := zx ((xQd zo 24 3 5 bm (0 : Int) (dn.map vW) (vW cj)).or ((xQi zo 23 3 5 bm (dn.map vW)).or X0))) .normal [(0, .own (.opq (YY de).q)), (1, .d (.sptr (zO x0))), (4, .own (eOs 1 true eB ia)), (5, .own (eDq 3 vW dn)), (6, .own (.box (vW cj)))] [Hn (⟨rfl, rfl, rfl, rfl, i0 h1, (iL vW h1).2⟩ : T.als 5 [] 0 0 = T.als 5 [] 0 0 ∧ some bm = some bm ∧ T.own (eDq 3 vW dn) = T.own (eDq 3 vW dn) ∧ some 3 = some 3 ∧ (0 : Int) ≤ 0 ∧ (0 : Int).toNat < (dn.map vW).length), Hn (⟨rfl, rfl, rfl, iM vW h1, rfl, Wq.isD cj⟩ : T.d (.atom (ZV 3 bm (0 : Int))) = T.d (.atom (ZV 3 bm (0 : Int))) ∧ some bm = some bm ∧ T.own (eDq 3 vW dn) = T.own (eDq 3 vW dn) ∧ (dn.map vW)[(0 : Int).toNat]? = some (vW cj) ∧ true = true ∧ (vW cj).isD = true)] fun st0 h0 => ⟨rfl, h0⟩) fun st1 h1 => JR h1 ?_
  obtain ⟨g1, ae⟩ := gdE ae
  obtain ⟨yr, h2, ae⟩ := zt ae
  let Z1 : List HO := [Hn (rfl : eDq 3 vW dn = A.opq (QB 3 (dn.map vW)).q), Hn (⟨g1.1, cuB vW g1⟩ : (0 : Int) ≤ 1 ∧ (1 : Int).toNat ≤ (dn.map vW).length), Hn (drM vW dn (1 : Int).toNat), Hn (Qo (yv := yv) (Y := YY) (enc := (fun (x : zp) (_ : Bool) (_ : Value) => [vW x])) (s := de) (x := cj) (s' := yr.1) (b := yr.2) (v := .nilFunc) [vW cj] (show Yy [vW cj] [vW cj] from inferInstance))]
  obtain c1 | c1 := zy ae
  ·cases c1.2
   cases hl1
   cases aa
   exact yF (H := zx ((YA (P := Tryz.prog) wp hy 29 (s := de) (x := cj) (s' := yr.1) (b := yr.2) .nilFunc h2).or ((xQs zo 26 3 (dn.map vW) ((dn.drop (1 : Int).toNat).map vW)).or X0))) .ret [(0, .own (.opq (YY yr.1).q))] (Z1 ++ [c1]) fun st0 h0 => hE _ st0 (.inr rfl) h0
  ·obtain ⟨al, h3, t2, ht2, ae⟩ := ye c1.2
   refine yL (H := zx ((YA (P := Tryz.prog) wp hy 29 (s := de) (x := cj) (s' := yr.1) (b := yr.2) .nilFunc h2).or ((xQs zo 26 3 (dn.map vW) ((dn.drop (1 : Int).toNat).map vW)).or X0))) 1111001011110 [J1] (fun s => qt cj yr al s.1 s.2.1 s.2.2) (fun x => Yc x0 YY cj yr al x.1 x.2.1 x.2.2) (ia, (dn.drop (1 : Int).toNat), 0) ht2  (Z1 ++ [c1, Hi yj h3, Ha (lnM F9_ al)]) fun ⟨dg, ew, iv⟩ m2 dc ah hl2 J2 ax => ?_
   obtain c2 | c2 := zy ah
   ·refine yKs 1111001011110011 [J1, J2] [0,1,4,5,6,36,37,38] (fun z : List Bool × List zp => w4 iv z.1 z.2 = some dc) (fun z => Ye x0 YY cj yr al iv z.1 z.2) [c2, Hh (.cut 0)] ?_ fun J3 bk => ?_
    ·rintro ⟨cw, mj⟩ ah
     cases ah
     exact yB ax _ hl2 []
    ·obtain ⟨ak, h4, ah⟩ := zt c2.2
     let Z2 : List HO := [Hi F9_ h4]
     obtain c3 | c3 := zy ah
     ·obtain ⟨mi, h5, ah⟩ := zt c3.2
      let Z3 : List HO := (Z2 ++ (rpN 4 (Hb c3) [Hn (iL eB h5), c3, Hs (iM eB h5), c3, c3]))
      obtain c4 | c4 := zy ah
      ·obtain ⟨oc, h6, ah⟩ := zt c4.2
       obtain ⟨g2, ah⟩ := gdE ah
       exact yB (H := zx ((xQa zo 66 3 (ew.map vW) ((ew ++ [(zp.mk ak.To cj.state_ iv)]).map vW)).or X0)) bk ((dg.set ak.To.toNat true), (ew ++ [(zp.mk ak.To cj.state_ iv)])) ah (Z3 ++ [c4, Hn (iL eB h6), Hs (iM eB h6), Hs (iM eB h6), Hl (sM eB dg ak.To true), Hn (⟨rfl, dM vW [(zp.mk ak.To cj.state_ iv)], rfl⟩ : 3 = 3 ∧ A.areD ([(zp.mk ak.To cj.state_ iv)].map vW) = true ∧ true = true), Hn (⟨rfl, aL vW vW g2, dM vW ew⟩ : eDq 3 vW ew = A.opq (QB 3 (ew.map vW)).q ∧ (ew.map vW).length + ([(zp.mk ak.To cj.state_ iv)].map vW).length ≤ lim ∧ A.areD (ew.map vW) = true), Hn (aM vW ew [(zp.mk ak.To cj.state_ iv)])])
      ·exact yB bk (dg, ew) c4.2 (Z3 ++ [c4])
     ·exact yB bk (dg, ew) c3.2 (Z2 ++ (rpN 7 (Hb c3) [qF]))
   ·cases c2.2
    cases hl2
    cases ae
    exact yB au _ hl1 [c2]
 ·cases c0.2
  cases hl1
  cases aa
  exact yF (H := zx ((xQl zo 20 236 3 (dn.map vW) (by kernel_rfl)).or X0)) .normal [(0, .own (.opq (YY de).q))] (Z0 ++ [c0]) fun st0 h0 => hE _ st0 (.inl rfl) h0
def l51 : List y6 := kA 73 F5_ F6_ xN :: l50
theorem Y4 [H : HS X0 l50] : OkH l51 := yS1 true Tryz.func73 fun s_ r0 aa E hE => by
 refine z2g rfl 0 (sz := 1) (t := false) (es := s_.map (eI .i64)) (by kernel_rfl) fun bn hv0 hn => ?_
 rcases hn with ⟨hn0, he0⟩ | hn0
 ·obtain ⟨_, aa⟩ := gdE aa
  rw [show s_ = [] from List.map_eq_nil_iff.1 he0] at aa
  cases aa
  exact yEl (H := zx ((z9Q zo 4 57 (by kernel_rfl) hn0).or ((xMv Tryz.prog 3 0 bn hv0).or X0))) hE [Hn (rfl : some bn = some bn), Hn (⟨rfl, rfl⟩ : T.d (.atom bn) = T.d (.atom bn) ∧ T.d (.atom (.slice none 0 0)) = T.d (.atom (.slice none 0 0))), qT]
 ·obtain ⟨g0, aa⟩ := gdE aa
  cases aa
  exact yE (H := zx ((z9Q zo 4 57 (by kernel_rfl) hn0).or ((xMv Tryz.prog 3 0 bn hv0).or X0))) hE [Hn (rfl : some bn = some bn), Hn (⟨rfl, rfl⟩ : T.d (.atom bn) = T.d (.atom bn) ∧ T.d (.atom (.slice none 0 0)) = T.d (.atom (.slice none 0 0))), qF, Hn (dM (eI .i64) s_), Hn (aL (eI .i64) (eI .i64) g0), Hl (aM0 (eI .i64) s_)]
def l52 : List y6 := kA 72 F5_ F3_ y3 :: l51
theorem YD [H : HS X0 l51] : OkH l52 := yS1 true Tryz.func72 fun s_ r0 aa E hE => by
 obtain ⟨g0, aa⟩ := gdE aa
 cases aa
 exact yE hE [Ha (lnM (eI .i64) s_), Ha (lnM (eI .i64) s_), Hn (slB g0), Hn (slC g0), Hn (z8L (eI .i64) g0), Ha (zcU 1 (eI .i64) s_ 0 ((s_.length : Nat) : Int).toNat)]
def l53 : List y6 := uV 143 zO (eI .i64) (eT2 XV (eSl 1 true eB)) Q3 :: l52
theorem Kx [H : HS X0 l52] : OkH l53 := yS2 false Tryz.func143 fun m_ from_ r0 aa E hE => by
 obtain ⟨g0, aa⟩ := gdE aa
 obtain ⟨g1, aa⟩ := gdE aa
 refine yK (H := zx ((xMs zo 12 57).or X0)) 111 [] [6,7] (fun z : List (List Int) × List Bool => XE z.1 z.2 = some r0) (fun z => [(6, .own (.box (eOs 1 true F3_ z.1))), (7, .own (.box (eOs 1 true eB z.2)))]) [1,2,6,7] [Ha (lnM yj m_.Rows), Hn (rL g0), Ha (rM 1 F3_ ((m_.Rows.length : Nat) : Int) ([] : List Int)), Ha (lnM yj m_.Rows), Hn (rL g1), Ha (rM 1 eB ((m_.Rows.length : Nat) : Int) false), Hh (.cut 0)] ?_ fun J1 au => ?_
 ·rintro ⟨l_, is⟩ aa
  cases aa
  exact yE hE [Hm (shM F3_ F3_ l_), Hm (shM eB eB is)]
 ·obtain ⟨r_, h0, t2, ht2, aa⟩ := ye aa
  refine yAt (sub [1,1,2,1,0] (zbd Tryz.f143)) (frs [1,1,2,1,0] [J1] (zbd Tryz.f143) []) [(6, .own (.box (eOs 1 true F3_ (List.replicate ((m_.Rows.length : Nat) : Int).toNat ([] : List Int))))), (7, .own (.box (eOs 1 true eB (List.replicate ((m_.Rows.length : Nat) : Int).toNat false)))), (19, .d (.fn 167 [.sptr (.agg [I r_.1.Inputs, I r_.1.Outputs, eSl 1 false yj r_.1.Rows]), .sptr (I r_.2)]))] [zC2 2 h0] fun st0 h0 => ?_
  refine VV (g := .tmp 19) (ps := [20]) (assign := (sub [1,1,2,1,0,0] (zbd Tryz.f143))) (body := (sub [1,1,2,1,0,1] (zbd Tryz.f143))) (K := 167) (caps := [.sptr (.agg [I r_.1.Inputs, I r_.1.Outputs, eSl 1 false yj r_.1.Rows]), .sptr (I r_.2)]) (by kernel_rfl) [6,7,19] (fun s => [(6, .own (.box (eOs 1 true F3_ s.1))), (7, .own (.box (eOs 1 true eB s.2))), (19, .d (.fn 167 [.sptr (.agg [I r_.1.Inputs, I r_.1.Outputs, eSl 1 false yj r_.1.Rows]), .sptr (I r_.2)]))]) (fun z => nomatch z) (fun z => nomatch z) ((fun (x : zp) (_ : Bool) (_ : Value) => [vW x])) (F := @uI r_.1 r_.2) (fun s x => jV s.1 s.2 x) ((List.replicate ((m_.Rows.length : Nat) : Int).toNat ([] : List Int)), (List.replicate ((m_.Rows.length : Nat) : Int).toNat false)) t2 _ h0 inferInstance (by kernel_rfl) (by decide) (fun _ => rfl) (by rintro ⟨⟩) (by kernel_rfl) (fun _ _ _ => rfl) (Ws (H := zd 2) r_.1 r_.2) ht2 ?_ ?_
  ·rintro qu ⟨fq, gp⟩ iw vr aw ae
   replace ae : jV fq gp iw = some aw := ae
   refine yF .normal [(6, .own (.box (eOs 1 true F3_ fq))), (7, .own (.box (eOs 1 true eB gp))), (8, .own (.box (vW iw))), (19, .d (.fn 167 [.sptr (.agg [I r_.1.Inputs, I r_.1.Outputs, eSl 1 false yj r_.1.Rows]), .sptr (I r_.2)]))] [] fun st0 h0 => ⟨rfl, JR h0 ?_⟩
   obtain ⟨pq, h1, ae⟩ := zt ae
   let Z0 : List HO := [Hn (iL eB h1), Hs (iM eB h1), Hs (iM eB h1), Hl (sM eB gp iw.state_ true)]
   obtain c0 | c0 := zy ae
   ·obtain ⟨cq, h2, ai, h3, ae⟩ := ye c0.2
    obtain ⟨g2, ae⟩ := gdE ae
    obtain ⟨am, h4, iu, h5, ae⟩ := ye ae
    cases ae
    exact yF .normal ([(6, .own (.box (eOs 1 true F3_ (fq.set iw.state_.toNat am)))), (7, .own (.box (eOs 1 true eB (gp.set iw.state_.toNat true)))), (19, .d (.fn 167 [.sptr (.agg [I r_.1.Inputs, I r_.1.Outputs, eSl 1 false yj r_.1.Rows]), .sptr (I r_.2)]))]) (Z0 ++ [c0, Hn (iL F3_ h2), Hs (iM F3_ h2), Hk [] (Us (hat 1)) (zf1 1 h3 (loC F3_ cq <| loN)), Hq (dM (eI .i64) [iw.input_]), Hn (dM (eI .i64) [iw.input_]), Hn (aL (eI .i64) (eI .i64) g2), Hl (aM (eI .i64) ai [iw.input_]), zg 0, Hm (shM (eI .i64) (eI .i64) (ai ++ [iw.input_])), Hs (zf1 0 h4 (loC F5_ (ai ++ [iw.input_]) <| loN)), Hm (shM (eI .i64) (eI .i64) (ai ++ [iw.input_])), Hn (iL F3_ h5), Hs (iM F3_ h5), Hs (iM F3_ h5), Hl (sM F3_ fq iw.state_ am)]) fun st0 h0 => ⟨rfl, _, h0, LeL.refl _⟩
   ·cases c0.2
    exact yF .normal ([(6, .own (.box (eOs 1 true F3_ fq))), (7, .own (.box (eOs 1 true eB (gp.set iw.state_.toNat true)))), (19, .d (.fn 167 [.sptr (.agg [I r_.1.Inputs, I r_.1.Outputs, eSl 1 false yj r_.1.Rows]), .sptr (I r_.2)]))]) (Z0 ++ [c0]) fun st0 h0 => ⟨rfl, _, h0, LeL.refl _⟩
  ·rcases t2 with ⟨fq, gp⟩ | z
   ·dsimp only at aa
    exact uF (by kernel_rfl) (au _ [(6, .own (.box (eOs 1 true F3_ fq))), (7, .own (.box (eOs 1 true eB gp)))] (fq, gp) aa (show Own.canon [6,7] _ = ofL _ by kernel_rfl) inferInstance)
   ·cases z
def l54 : List y6 := kA 116 zO (eT3 XV (eSl 1 true eB) (eI .i64)) VY :: l53
theorem Ju [H : HS X0 l53] : OkH l54 := yS1 false Tryz.func116 fun m_ r0 aa E hE => by
 obtain ⟨r_, h0, aa⟩ := zt aa
 let Z0 : List HO := [zC1 46 h0]
 obtain c0 | c0 := zy aa
 ·cases c0.2
  exact yE hE (Z0 ++ [c0, Hm (shM F5_ F5_ []), Hm (shM eB eB [])])
 ·obtain ⟨ai, h1, aa⟩ := zt c0.2
  cases aa
  exact yE hE (Z0 ++ [c0, zC2 0 h1])
def l55 : List y6 := kA 47 yS z9O wu :: l54
theorem Zm [H : HS X0 l54] : OkH l55 := yS1 true Tryz.func47 fun s_ r0 aa E hE => by
 refine z2g rfl 0 (sz := 1) (t := false) (es := s_.map F5_) (by kernel_rfl) fun bn hv0 hn => ?_
 rcases hn with ⟨hn0, he0⟩ | hn0
 ·obtain ⟨_, aa⟩ := gdE aa
  rw [show s_ = [] from List.map_eq_nil_iff.1 he0] at aa
  cases aa
  exact yEl (H := zx ((z9Q zo 4 37 (by kernel_rfl) hn0).or ((xMv Tryz.prog 3 0 bn hv0).or X0))) hE [Hn (rfl : some bn = some bn), Hn (⟨rfl, rfl⟩ : T.d (.atom bn) = T.d (.atom bn) ∧ T.d (.atom (.slice none 0 0)) = T.d (.atom (.slice none 0 0))), qT]
 ·obtain ⟨g0, aa⟩ := gdE aa
  cases aa
  exact yE (H := zx ((z9Q zo 4 37 (by kernel_rfl) hn0).or ((xMv Tryz.prog 3 0 bn hv0).or X0))) hE [Hn (rfl : some bn = some bn), Hn (⟨rfl, rfl⟩ : T.d (.atom bn) = T.d (.atom bn) ∧ T.d (.atom (.slice none 0 0)) = T.d (.atom (.slice none 0 0))), qF, Hn (dM F5_ s_), Hn (aL F5_ F5_ g0), Hl (aM0 F5_ s_)]
def l56 : List y6 := uV 70 F5_ F5_ eB jY :: l55
theorem UA [H : HS X0 l55] : OkH l56 := yS2 true Tryz.func70 fun a_ b_ r0 aa E hE => by
 obtain ⟨r_, h0, aa⟩ := zt aa
 cases aa
 exact yE hE [zC2 17 h0]
def l57 : List y6 := uV 69 z9O (z9Z 70) z9O wt [true, false] :: l56
def zM : XH Tryz.prog := ((zcJ zo 64).or X0)
theorem uK [H : HS zM l56] : OkH l57 := yS2 true Tryz.func69 fun s_ eq r0 aa E hE => by
 refine Jk (y := eOs 1 false F5_ s_) rfl 0 (by kernel_rfl) (by kernel_rfl) fun bn hv0 => ?_
 let Z0 : List HO := [Ha (lnM F5_ s_)]
 obtain c0 | c0 := zy aa
 ·cases c0.2
  exact yE hE (Z0 ++ [c0])
 ·refine yN 111 [] [0] (fun z : Unit => xY s_ = some r0) (fun z => []) [0,1] (Z0 ++ [c0, Hh (.cut 0)]) ?_ fun J1 au => ?_
  ·rintro ⟨⟩ aa
   cases aa
   exact yE hE []
  ·refine yMb 111210 [J1] [0,1,5] (fun x => [(5, .d (I x))]) c0.2  [] fun t2 aa k_ m2 aw ae hl1 J2 ax => ?_
   let Z1 : List HO := [Ha (lnM F5_ s_)]
   obtain c1 | c1 := zy ae
   ·refine yNs 11121001 [J1, J2] [0,1,5] (fun z : Unit => xX k_ = some aw) (fun z => []) (Z1 ++ [c1, Hh (.cut 0)]) ?_ fun J3 bk => ?_
    ·rintro ⟨⟩ ae
     cases ae
     exact yB ax _ hl1 []
    ·obtain ⟨d9, h0, mz, h1, r_, h2, ae⟩ := jG c1.2
     let Z2 : List HO := [Hn (iL F5_ h0), Hs (iM F5_ h0), Hn (iL F5_ h1), Hs (iM F5_ h1), zC2 0 h2]
     obtain c2 | c2 := zy ae
     ·obtain ⟨g0, ae⟩ := gdE c2.2
      refine yK (H := zx ((xAs Tryz.prog 6 (Zg 1 bn k_)).or ((xVw zo 31 0 bn).or zM))) 1112100120101 [J1, J2, J3] [0,5] (fun z : List (List Int) × Int => xW z.1 z.2 = some aw) (fun z => [(0, .own (eOs 1 false F5_ z.1)), (5, .d (I z.2))]) [0,1,5,6] (Z2 ++ [c2, Hn (⟨.inl rfl, rfl⟩ : (T.als 0 [] 0 0 = T.als 0 [] 0 0 ∨ T.als 0 [] 0 0 = T.d (.atom bn)) ∧ some bn = some bn), Hn (⟨g0.1, cuB F5_ g0⟩ : (0 : Int) ≤ k_ ∧ k_.toNat ≤ (s_.map F5_).length), Hn (rfl : T.d (.atom (Zg 1 bn k_)) = T.d (.atom (Zg 1 bn k_))), Hh (.cut 1)]) ?_ fun J4 cx => ?_
      ·rintro ⟨bf, aq⟩ ae
       obtain ⟨g1, ae⟩ := gdE ae
       obtain ⟨g2, ae⟩ := gdE ae
       obtain ⟨g3, ae⟩ := gdE ae
       cases ae
       cases hl1
       cases aa
       exact yE (H := zx ((xVc zo 61 1 0 bn aq).or ((xVw zo 61 0 bn).or zM))) hE [Hn (⟨.inl rfl, rfl⟩ : (T.als 0 [] 0 0 = T.als 0 [] 0 0 ∨ T.als 0 [] 0 0 = T.d (.atom bn)) ∧ some bn = some bn), Hn (⟨g1.1, cuB F5_ g1⟩ : (0 : Int) ≤ aq ∧ aq.toNat ≤ (bf.map F5_).length), Hn (⟨rfl, rfl⟩ : T.d (.atom (Zg 1 bn aq)) = T.d (.atom (Zg 1 bn aq)) ∧ some bn = some bn), Hn (⟨g2.1, cuB F5_ g2, dM F5_ bf⟩ : (0 : Int) ≤ aq ∧ aq.toNat ≤ (bf.map F5_).length ∧ A.areD (bf.map F5_) = true), Hx (.l ((bf.take aq.toNat ++ List.replicate (bf.length - aq.toNat) []).map F5_)) (vcM F5_ bf aq.toNat ([] : List Int)), Hn g3.1, Hn (cuB F5_ g3), Hl (cuM F5_ (bf.take aq.toNat ++ List.replicate (bf.length - aq.toNat) []) aq)]
      ·refine yMb 1112100120101210 [J1, J2, J3, J4] [0,1,5,6,7] (fun x => [(0, .own (eOs 1 false F5_ x.1)), (5, .d (I x.2.1)), (7, .d (I x.2.2))]) ae  [] fun t5 ae ⟨bl, jw, k2⟩ m5 dc ah hl2 J5 dh => ?_
       let Z3 : List HO := [Hn (⟨rfl, rfl⟩ : T.d (.atom (Zg 1 bn k_)) = T.d (.atom (Zg 1 bn k_)) ∧ some bn = some bn), Hx (.a (.atom (.int .i64 ((bl.length - k_.toNat : Nat) : Int)))) (vlM F5_ bl k_.toNat)]
       obtain c3 | c3 := zy ah
       ·refine yNs (H := zx ((xVl zo 34 37 1 0 bn k_ (by kernel_rfl)).or zM)) 111210012010121001 [J1, J2, J3, J4, J5] [0,1,5,6,7] (fun z : List (List Int) × Int => yT k2 z.1 z.2 = some dc) (fun z => [(0, .own (eOs 1 false F5_ z.1)), (5, .d (I z.2))]) (Z3 ++ [c3, Hh (.cut 0)]) ?_ fun J6 fz => ?_
        ·rintro ⟨ml, px⟩ ah
         cases ah
         exact yB dh _ hl2 []
        ·obtain ⟨g4, ah⟩ := gdE c3.2
         obtain ⟨ol, h3, ah⟩ := zt ah
         obtain ⟨g5, ah⟩ := gdE ah
         obtain ⟨om, h4, ai, h5, ah⟩ := ye ah
         let Z4 : List HO := [Hn (⟨rfl, rfl⟩ : T.d (.atom (Zg 1 bn k_)) = T.d (.atom (Zg 1 bn k_)) ∧ some bn = some bn), Hn (⟨g4.1, g4.2, (iL F5_ h3).2⟩ : (0 : Int) ≤ k_ ∧ (0 : Int) ≤ k2 ∧ (k_ + k2).toNat < (bl.map F5_).length), Hs (iM F5_ h3), Hn (⟨rfl, rfl⟩ : T.d (.atom (Zg 1 bn k_)) = T.d (.atom (Zg 1 bn k_)) ∧ some bn = some bn), Hn (⟨g5.1, g5.2, (iL F5_ h4).2⟩ : (0 : Int) ≤ k_ ∧ (0 : Int) ≤ w64 (k2 - 1) ∧ (k_ + (w64 (k2 - 1))).toNat < (bl.map F5_).length), Hs (iM F5_ h4), zC2 0 h5]
         obtain c4 | c4 := zy ah
         ·obtain ⟨g6, ah⟩ := gdE c4.2
          obtain ⟨oq, h6, sa, h7, ah⟩ := ye ah
          exact yB (H := zx ((xVi zo 54 1 0 bn k_).or ((xVi zo 46 1 0 bn k_).or ((xVi zo 41 1 0 bn k_).or zM)))) fz ((bl.set jw.toNat oq), w64 (jw + 1)) ah (Z4 ++ [c4, Hn (⟨rfl, rfl⟩ : T.d (.atom (Zg 1 bn k_)) = T.d (.atom (Zg 1 bn k_)) ∧ some bn = some bn), Hn (⟨g6.1, g6.2, (iL F5_ h6).2⟩ : (0 : Int) ≤ k_ ∧ (0 : Int) ≤ k2 ∧ (k_ + k2).toNat < (bl.map F5_).length), Hs (iM F5_ h6), Hn (iL F5_ h7), Hs (iM F5_ h7), Hs (iM F5_ h7), Hl (sM F5_ bl jw oq)])
         ·exact yB (H := zx ((xVi zo 46 1 0 bn k_).or ((xVi zo 41 1 0 bn k_).or zM))) fz (bl, jw) c4.2 (Z4 ++ [c4])
       ·cases c3.2
        cases hl2
        exact yB (H := zx ((xVl zo 34 37 1 0 bn k_ (by kernel_rfl)).or zM)) cx (bl, jw) ae (Z3 ++ [c3])
     ·exact yB bk () c2.2 (Z2 ++ [c2])
   ·cases c1.2
    cases hl1
    exact yB au () aa (Z1 ++ [c1])
def yG : y6 := spR (α := List (List Int)) (ρ := List (List Int)) 68 (fun x => [z9O x]) (fun r => (eOs 1 true F5_) r) (fun x => wa x) [true] (zff)
theorem jD : ∀ x r, (fun x => wa x) x = some r → (VT.add yG).run 68 ((VT.add yG).norm 68 ((fun x => [z9O x]) x)) = some ((fun r => (eOs 1 true F5_) r) r) := fun x r h => zdC h rfl
theorem jF : (VT.add yG).gives 68 = [true] := z9j
theorem xJ [H : HS X0 l57] : yG.Ok Tryz.prog := by
 refine z3I ?_
 rintro s_ r0 aa
 refine zY true Tryz.func68 fun E hE => ?_
 cases aa
 exact yE (H := zx ((xCl zo 8).or X0)) hE [Ha (lnM F5_ s_), Ha (lnM F5_ s_), Hn (Int.natCast_nonneg _ : (0 : Int) ≤ ((s_.length : Nat) : Int)), Hn (Int.natCast_nonneg _ : (0 : Int) ≤ ((s_.length : Nat) : Int)), Hn (clB F5_ s_), Ha (clE 1 F5_ s_)]
def l58 : List y6 := kA 46 yS (eT2 XV (eI .i64)) ut :: l57
theorem Jv [H : HS X0 l57] : OkH l58 := yS1 false Tryz.func46 fun l_ r0 aa E hE => by
 obtain ⟨r_, h0, aa⟩ := zt aa
 refine yC 111 [] [4] [zC1 2 h0, Hh (.cut 0)] ?_
 obtain ⟨sorted, h1, aa⟩ := zt aa
 refine z1y (by kernel_rfl) (x := (sub [1,1,0] (zbd Tryz.f46))) (y := (sub [1,1,1] (zbd Tryz.f46))) 4 (fun st1 => Own.canon [4] st1 = ofL [(4, .own (eOs 1 false F5_ sorted))]) (fun ix => yF (H := zx ((Jt (P := Tryz.prog) wp [4] (z3J zcT (f := F5_) (t := false) (v := ix) (fun _ => rfl) (fun _ => rfl) (fun x y c h => (zk2 19 h :)) h1) 10).or X0)) .normal [(4, .own (eOs 1 false F5_ sorted))] [Hn (Zp (f := .fn 66 []) (xs := [.atom ix, .fn 67 []]) (ls := [(ix, eOs 1 false F5_ r_)]) (r := .tup []) (ys := [eOs 1 false F5_ sorted]) [.atom ix, .fn 67 []] (show Yy [.atom ix, .fn 67 []] [.atom ix, .fn 67 []] from inferInstance))] fun st0 h0 => ⟨rfl, h0⟩) fun st1 h1 => JR h1 ?_
 obtain ⟨ai, h2, am, h3, aa⟩ := ye aa
 let Z0 : List HO := [zC2 0 h2, Hh (.g [true]), Hn jF, Hx (.a ((eOs 1 true F5_) am)) (jD ai _ h3), Ha (lnM F5_ am)]
 obtain c0 | c0 := zy aa
 ·cases c0.2
  exact yEx (H := zx ((Kt zo (xJ (H := zd 0)) 13).or X0)) hE (Z0 ++ (rpN 4 (Hb c0) [qT, Hm (shM F5_ F5_ [])])) (.tup [eSl 1 true F3_ [], I 3]) (show LeV (.tup [eSl 1 true F3_ [], I 3]) (.tup [eSl 1 true F3_ ([] : List (List Int)), I 3]) from inferInstance)
 ·obtain ⟨az, h4, aa⟩ := zt c0.2
  let Z1 : List HO := (Z0 ++ [Hb c0, Hb c0, zg 17, Hm (shM F5_ F5_ am), Hs (zf1 17 h4 (loC z0s am <| loN)), Hb c0, Hb c0])
  obtain c1 | c1 := zy aa
  ·cases c1.2
   exact yEx (H := zx ((Kt zo (xJ (H := zd 0)) 13).or X0)) hE (Z1 ++ [c1, Hm (shM F5_ F5_ [])]) (.tup [eSl 1 true F3_ [], I 3]) (show LeV (.tup [eSl 1 true F3_ [], I 3]) (.tup [eSl 1 true F3_ ([] : List (List Int)), I 3]) from inferInstance)
  ·refine yC (H := zx ((Kt zo (xJ (H := zd 0)) 13).or X0)) 111111 [] [4] (Z1 ++ [Hb c1, Hh (.cut 0)]) ?_
   refine Jk (y := eOs 1 true F5_ am) (by kernel_rfl) 4 (by kernel_rfl) (by kernel_rfl) fun ix hv4 => ?_
   refine yKs 111111 [] [4] (zI YF r0) (fun z => [(4, .own (eOs 1 true (eFl 1 (eI .i64)) z))]) [Hh (.cut 0)] ?_ fun J1 au => ?_
   ·rintro out aa
    obtain ⟨hfl0, aa⟩ := gdE aa
    cases aa
    exact yEx hE [Hm (shM (eFl 1 (eI .i64)) (eFl 1 (eI .i64)) out)] (.tup [eSl 1 true (eFl 1 (eI .i64)) out, I 0]) (haveI := flA (s := 1) (t := 1) (b := true) (f := (eI .i64)) hfl0; show LeV (.tup [eSl 1 true (eFl 1 (eI .i64)) out, I 0]) (.tup [eSl 1 true F3_ (out.map (·.1)), I 0]) from inferInstance)
   ·obtain ⟨t2, ht2, aa⟩ := zt c1.2
    refine yLx (H := zx ((xVl zo 23 37 1 4 ix (0 : Int) (by kernel_rfl)).or ((xMw Tryz.prog 22 4 1 ix).or X0))) 111111210 [J1] (fun s => YE am s.1 s.2) (fun x => [(4, .own (eOs 1 true (eFl 1 (eI .i64)) x.1)), (22, .d (.atom (Zg 1 ix (0 : Int)))), (23, .d (I ((am.length - (0 : Int).toNat : Nat) : Int))), (24, .d (I x.2))]) ((am.map fun q => (q, false)), 0) ht2 [(4, .own (eOs 1 true F5_ am)), (22, .d (.atom (Zg 1 ix (0 : Int)))), (23, .d (I ((am.length - (0 : Int).toNat : Nat) : Int))), (24, .d (I 0))] inferInstance [Hn (rfl : some ix = some ix), Hn (⟨rfl, rfl⟩ : T.d (.atom (Zg 1 ix (0 : Int))) = T.d (.atom (Zg 1 ix (0 : Int))) ∧ some ix = some ix), Hx (.a (.atom (.int .i64 ((am.length - (0 : Int).toNat : Nat) : Int)))) (vlM F5_ am (0 : Int).toNat)] fun ⟨ay, fe⟩ m2 aw ae hl1 J2 ax => ?_
    obtain c2 | c2 := zy ae
    ·obtain ⟨g0, ae⟩ := gdE c2.2
     obtain ⟨fx, h5, cp, h6, gh, h7, lc, h8, ae⟩ := z7x ae
     cases ae
     exact yB (H := zx ((xVi zo 27 1 4 ix (0 : Int)).or X0)) ax _ hl1 [Hb c2, Hn (⟨rfl, rfl⟩ : T.d (.atom (Zg 1 ix (0 : Int))) = T.d (.atom (Zg 1 ix (0 : Int))) ∧ some ix = some ix), Hn (⟨g0.1, g0.2, (iL (eFl 1 (eI .i64)) h5).2⟩ : (0 : Int) ≤ 0 ∧ (0 : Int) ≤ fe ∧ (0 + fe).toNat < (ay.map (eFl 1 (eI .i64))).length), Hs (iM (eFl 1 (eI .i64)) h5), Hk [] (Us (hat 6)) (zf1 6 h6 (loC (eSl 1 fx.2 (eI .i64)) fx.1 <| loN)), zg 5, Hm (shM (eI .i64) (eI .i64) cp), Hs (zf1 5 h7 (loC F5_ cp <| loN)), Hm (shM (eI .i64) (eI .i64) cp), Hn (iL (eFl 1 (eI .i64)) h8), Hs (iM (eFl 1 (eI .i64)) h8), Hs (iM (eFl 1 (eI .i64)) h8), Hl (sM (eFl 1 (eI .i64)) ay fe (gh, true))]
    ·cases c2.2
     cases hl1
     exact yB au ay aa [Hb c2]
def l59 : List y6 := uV 117 yS (eI .i64) (eT2 XV (eI .i64)) Xd :: l58
theorem z0v [H : HS X0 l58] : OkH l59 := yS2 false Tryz.func117 fun l_ inputs r0 aa E hE => by
 obtain ⟨r_, h0, aa⟩ := zt aa
 let Z0 : List HO := [zC2 25 h0]
 obtain c0 | c0 := zy aa
 ·cases c0.2
  exact yE hE (Z0 ++ [c0, Hm (shM F5_ F5_ [])])
 ·obtain ⟨ai, h1, aa⟩ := zt c0.2
  cases aa
  exact yE hE (Z0 ++ [c0, zC1 0 h1])
def l60 : List y6 := kA 87 zO (eT2 XV (eI .i64)) ZK :: l59
theorem Qc [H : HS X0 l59] : OkH l60 := yS1 false Tryz.func87 fun m_ r0 aa E hE => by
 obtain ⟨r_, h0, aa⟩ := zt aa
 let Z0 : List HO := [zC1 43 h0]
 obtain c0 | c0 := zy aa
 ·cases c0.2
  exact yE hE (Z0 ++ [c0, Hm (shM F5_ F5_ [])])
 ·obtain c1 | c1 := zy c0.2
  ·cases c1.2
   exact yE hE (Z0 ++ [c0, c1, Hm (shM F5_ F5_ [])])
  ·obtain ⟨ai, h1, aa⟩ := zt c1.2
   let Z1 : List HO := (Z0 ++ [c0, c1, zC1 5 h1])
   obtain c2 | c2 := zy aa
   ·cases c2.2
    exact yE hE (Z1 ++ [c2, Hm (shM F5_ F5_ [])])
   ·obtain ⟨am, h2, aa⟩ := zt c2.2
    cases aa
    exact yE hE (Z1 ++ [c2, Hk [] (Us (hat 0)) (zf2 0 h2 (loC XV ai.1 <| loC (eI .i64) m_.Inputs <| loN))])
def l61 : List y6 := Jp 121 (eI .i64) (eI .i64) (eI .i64) (eT2 XV (eI .i64)) Qh :: l60
def z2k : XH Tryz.prog := ((YB zo (.inl 83) [82]).or X0)
theorem z1M [H : HS z2k l60] : OkH l61 := yS3 false Tryz.func121 fun inputs from_ to r0 aa E hE => by
 obtain c0 | c0 := zy aa
 ·cases c0.2
  exact yE hE [c0, Hm (shM F5_ F5_ [])]
 ·obtain c1 | c1 := zy c0.2
  ·cases c1.2
   exact yE hE [c0, c1, c1, c1, qT, Hm (shM F5_ F5_ [])]
  ·let Z0 : List HO := [c0, c1, c1, c1]
   obtain c2 | c2 := zy c1.2
   ·cases c2.2
    exact yE hE (Z0 ++ [c2, Hm (shM F5_ F5_ [])])
   ·obtain c3 | c3 := zy c2.2
    ·cases c3.2
     exact yE hE (Z0 ++ [c2, c3, Hm (shM F5_ F5_ [])])
    ·obtain ⟨t1, ht1, aa⟩ := zt c3.2
     refine yMx 1111111110 [] [0,1,2,8,9,10,11] (fun x => [(8, .own (eOs 1 false F5_ x.1)), (9, .own (eOs 1 false F5_ x.2.1)), (10, .d (I x.2.2.1)), (11, .d (I x.2.2.2))]) ht1 [(8, .own (eOs 1 true F5_ [])), (9, .own (eOs 1 true F3_ ([[]]))), (10, .d (I 0)), (11, .d (I 0))] (Z0 ++ [c2, c3, Hh (.v 5 [9]), Hm (shM F2_ F3_ ([[]] : List (List Int)))]) fun ⟨out, av, n_, k_⟩ m1 aw ae hl1 J1 au => ?_
     refine yN 11111111100 [J1] [0,1,2,8,9,10,11,45,46,49,50,51,52,58] (fun z : List (List Int) × List (List Int) × Int × Int × Bool × Bool => Ub k_ z.1 z.2.1 z.2.2.1 z.2.2.2.1 z.2.2.2.2.1 z.2.2.2.2.2 = some aw) (fun z => [(8, .own (eOs 1 false F5_ z.1)), (9, .own (eOs 1 false F5_ z.2.1)), (10, .d (I z.2.2.1)), (45, .d (I z.2.2.2.1)), (46, .d (B z.2.2.2.2.1)), (49, .d (I k_)), (50, .d (I to)), (51, .d (B (decide (k_ < to)))), (52, .d (B (decide (k_ < to)))), (58, .d (B z.2.2.2.2.2))]) [0,1,2,8,9,10,11] [Hh (.cut 0)] ?_ fun J2 ax => ?_
     ·rintro ⟨aj, mp, cb, jv, rb, o7⟩ ae
      cases ae
      exact yB au _ hl1 []
     ·refine yNs 1111111110020 [J1, J2] [0,1,2,8,9,10,11] (fun z : List (List Int) × Int => YH inputs to av k_ z.1 z.2 = some aw) (fun z => [(8, .own (eOs 1 false F5_ z.1)), (10, .d (I z.2))]) [Hh (.cut 0)] ?_ fun J3 bk => ?_
      ·rintro ⟨ay, bz⟩ ae
       refine yN 11111111100201 [J1, J2] [0,1,2,8,9,10,11,45,46,49,50,51,52,58] (zI (YG inputs to av k_ ay bz) aw) (fun z => [(45, .d (I bz)), (46, .d (B (decide (bz > 65536)))), (49, .d (I k_)), (50, .d (I to)), (51, .d (B (decide (k_ < to)))), (52, .d (B (decide (k_ < to)))), (58, .d (B z))]) [0,1,2,8,9,10,11] [Hh (.cut 0)] ?_ fun J4 cx => ?_
       ·rintro gt ae
        obtain c4 | c4 := zy ae
        ·obtain ⟨r_, h0, ae⟩ := zt c4.2
         cases ae
         cases hl1
         cases aa
         exact yE hE [c4, zg 2, Hm (shM F5_ F5_ ay), Hs (zf1 2 h0 (loC yS ay <| loN)), Hm (shM F5_ F5_ ay)]
        ·refine yN 11111111100201111 [J1, J2] [0,1,2,8,10,11,12,45,46,49,50,51,52,58] (zI (Ua k_ ay bz gt) aw) (fun z => [(12, .own (eOs 1 false F5_ z))]) [0,1,2,8,9,10,11,12,45,46,49,50,51,52,58] [c4, Hh (.cut 1)] ?_ fun J5 dh => ?_
         ·rintro next ae
          exact yB ax (ay, next, bz, bz, decide (bz > 65536), gt) ae []
         ·obtain ⟨t6, kz, ae⟩ := zt c4.2
          refine yMx 11111111100201111210 [J1, J2, J5] [0,1,2,8,9,10,11,12,45,46,49,50,51,52,58,67,68,69] (fun x => [(12, .own (eOs 1 false F5_ x.1)), (69, .d (I x.2))]) kz [(12, .own (eOs 1 true F5_ [])), (69, .d (I 0))] [Ha (lnM F5_ av)] fun ⟨cr, kq⟩ m6 dc ah hl2 J6 fz => ?_
          obtain c5 | c5 := zy ah
          ·refine yNs 11111111100201111210011 [J1, J2, J5, J6] [0,1,2,8,9,10,11,12,45,46,49,50,51,52,58,67,68,69] (zI (U0 kq) dc) (fun z => [(12, .own (eOs 1 false F5_ z))]) [c5, Hh (.cut 0)] ?_ fun J7 j5 => ?_
           ·rintro fm ah
            cases ah
            exact yB fz _ hl2 []
           ·obtain ⟨bt, h1, t8, ht8, ah⟩ := ye c5.2
            refine yM 1111111110020111121001120110 [J1, J2, J5, J6, J7] [0,1,2,8,9,10,11,12,14,45,46,49,50,51,52,58,67,68,69,73,74] (fun x => [(12, .own (eOs 1 false F5_ x.1)), (74, .d (I x.2))]) ht8  [Hn (iL F5_ h1), Hs (iM F5_ h1)] fun ⟨cm, kr⟩ m8 oa a8 hl3 J8 mb => ?_
            obtain c6 | c6 := zy a8
            ·obtain ⟨ai, h2, a8⟩ := zt c6.2
             obtain ⟨g0, a8⟩ := gdE a8
             obtain ⟨g1, a8⟩ := gdE a8
             cases a8
             exact yB mb _ hl3 [c6, zC1 8 h2, Hq (dM (eI .i64) [kr]), Hn (dM (eI .i64) [kr]), Hn (aN (eI .i64) (eI .i64) g0 (by simp)), Hl (aM (eI .i64) ai [kr]), Hm (shM (eI .i64) (eI .i64) (ai ++ [kr])), Hq (dM F5_ [(ai ++ [kr])]), Hn (dM F5_ [(ai ++ [kr])]), Hn (aL F5_ F5_ g1), Hl (aM F5_ cm [(ai ++ [kr])])]
            ·cases c6.2
             cases hl3
             exact yB j5 cm ah [c6]
          ·cases c5.2
           cases hl2
           exact yB dh cr ae [c5]
       ·let Z1 : List HO := [Ha (lnM F5_ ay)]
        obtain c7 | c7 := zy ae
        ·cases c7.2
         cases hl1
         cases aa
         exact yE hE (Z1 ++ (Hb c7 :: Hb c7 :: Hb c7 :: (rpN 7 qT [Hm (shM F5_ F5_ [])])))
        ·obtain c8 | c8 := zy c7.2
         ·cases c8.2
          cases hl1
          cases aa
          exact yE hE (Z1 ++ (Hb c7 :: Hb c7 :: Hb c7 :: (rpN 6 (Hb c8) [qT, Hm (shM F5_ F5_ [])])))
         ·let Z2 : List HO := (Z1 ++ (Hb c7 :: Hb c7 :: Hb c7 :: (rpN 4 (Hb c8) [])))
          obtain c9 | c9 := zy c8.2
          ·let Z3 : List HO := (Z2 ++ [c9, c9, Ha (lnM F5_ av), c9, c9, c9, c8, c9, c8])
           obtain c10 | c10 := zy c9.2
           ·cases c10.2
            cases hl1
            cases aa
            exact yE hE (Z3 ++ [c10, Hm (shM F5_ F5_ [])])
           ·exact yB cx (decide ((w64 (((av.length : Nat) : Int) * inputs)) > 4096)) c10.2 (Z3 ++ [c10])
          ·exact yB cx false c9.2 (Z2 ++ (rpN 5 (Hb c9) [c8, c9, c8, qF]))
      ·obtain c11 | c11 := zy ae
       ·obtain ⟨g2, ae⟩ := gdE c11.2
        exact yB bk ((out ++ av), w64 (n_ + (w64 (k_ * ((av.length : Nat) : Int))))) ae [c11, Hq (dM F5_ av), Hn (dM F5_ av), Hn (aL F5_ F5_ g2), Hl (aM F5_ out av), Ha (lnM F5_ av)]
       ·exact yB bk (out, n_) c11.2 [c11]
def l62 : List y6 := uV 90 (eI .i64) (eI .i64) (eT2 XV (eI .i64)) Vp :: l61
theorem z0u [H : HS X0 l61] : OkH l62 := yS2 false Tryz.func90 fun inputs k_ r0 aa E hE => by
 obtain ⟨r_, h0, aa⟩ := zt aa
 cases aa
 exact yE hE [zC3 0 h0]
def l63 : List y6 := uV 45 (eI .i64) zfx (eI .i64) Vo :: l62
theorem z0t [H : HS X0 l62] : OkH l63 := yS2 true Tryz.func45 fun inputs l_ r0 aa E hE => by
 refine yK 11 [] [] (fun z : Unit => WB = some r0) (fun z => []) [0,1] [Hh (.cut 1)] ?_ fun J1 au => ?_
 ·rintro ⟨⟩ aa
  cases aa
  exact yE hE []
 ·refine yMb 11210 [J1] [0,8,9,10] (fun x => [(10, .d (I x))]) aa  [Ha (lnM yS l_)] fun t2 aa fk m2 aw ae hl1 J2 ax => ?_
  obtain c0 | c0 := zy ae
  ·obtain ⟨cq, h0, r_, h1, ae⟩ := ye c0.2
   let Z0 : List HO := [c0, Hi yS h0, zC2 21 h1]
   obtain c1 | c1 := zy ae
   ·cases c1.2
    cases hl1
    cases aa
    exact yE hE (Z0 ++ [c1])
   ·cases c1.2
    exact yB ax _ hl1 (Z0 ++ [c1])
  ·cases c0.2
   cases hl1
   exact yB au () aa [c0]
def l64 : List y6 := kA 160 F5_ V0 z0G :: l63
theorem z1L [H : HS X0 l63] : OkH l64 := yS1 true Tryz.func160 fun w_ r0 aa E hE => by
 obtain ⟨g0, aa⟩ := gdE aa
 refine yK 111 [] [3] (zI VZ r0) (fun z => [(3, .own (eOs 1 true (eI .u8) z))]) [0,3] [Ha (lnM (eI .i64) w_), Hn (rL g0), Ha (rM 1 (eI .u8) ((w_.length : Nat) : Int) (0 : Int)), Hh (.cut 0)] ?_ fun J1 au => ?_
 ·rintro b_ aa
  cases aa
  exact yE (H := zx ((zfA Tryz.prog z8Z).or X0)) hE [Hx (.a (V0 (u8s b_))) (stM b_)]
 ·refine yMb 111210 [J1] [3,9,10,11] (fun x => [(3, .own (eOs 1 true (eI .u8) x.1)), (11, .d (I x.2))]) aa  [Ha (lnM (eI .i64) w_)] fun t2 aa ⟨j7, gn⟩ m2 aw ae hl1 J2 ax => ?_
  obtain c0 | c0 := zy ae
  ·obtain ⟨ge, h0, gf, h1, ae⟩ := ye c0.2
   cases ae
   exact yB ax _ hl1 [c0, Hi (eI .i64) h0, Hn (iL (eI .u8) h1), Hs (iM (eI .u8) h1), Hs (iM (eI .u8) h1), Hl (sM (eI .u8) j7 gn (IntKind.u8.wrap (ge)))]
  ·cases c0.2
   cases hl1
   exact yB au j7 aa [c0]
def l65 : List y6 := Jp 144 yS yS (eI .i64) (eT2 XV (eI .i64)) Uc :: l64
theorem Jw [H : HS X0 l64] : OkH l65 := yS3 false Tryz.func144 fun a_ b_ inputs r0 aa E hE => by
 obtain ⟨r_, h0, aa⟩ := zt aa
 let Z0 : List HO := [zg 1, Hm (shM yS yS ([a_, b_])), Hs (zf2 1 h0 (loC (eI .i64) inputs <| loC (eSl 1 true yS) [a_, b_] <| loN))]
 obtain c0 | c0 := zy aa
 ·cases c0.2
  exact yE hE (Z0 ++ [c0, Hm (shM F5_ F5_ [])])
 ·refine yK (H := zx ((za9 Tryz.prog 26).or X0)) 111111 [] [11] (zI YJ r0) (fun z => [(11, .own (eOs 1 false F5_ z))]) [0,1,9,10,11] (Z0 ++ [c0, Hh (.cut 3)]) ?_ fun J1 au => ?_
  ·rintro out aa
   obtain ⟨ai, h1, aa⟩ := zt aa
   cases aa
   exact yE hE [zg 6, Hm (shM F5_ F5_ out), Hs (zf1 6 h1 (loC yS out <| loN)), Hm (shM F5_ F5_ out)]
  ·obtain ⟨t2, ht2, aa⟩ := zt c0.2
   refine yMx 111111210 [J1] [1,9,10,11,27,28,29] (fun x => [(9, .own (.opq (Xx (uE V0 eB x.1)))), (10, .d (I x.2.1)), (11, .own (eOs 1 false F5_ x.2.2.1)), (29, .d (I x.2.2.2))]) ht2 [(9, .own (.opq (Xx (uE V0 eB ([] : List ((List UInt8) × Bool)))))), (10, .d (I 0)), (11, .own (eOs 1 true F5_ [])), (29, .d (I 0))] [Ha (lnM F5_ a_)] fun ⟨ia, n_, aj, dz⟩ m2 aw ae hl1 J2 ax => ?_
   obtain c1 | c1 := zy ae
   ·refine yNs 111111210011 [J1, J2] [1,9,10,11,27,28,29] (fun z : (List ((List UInt8) × Bool)) × Int × List (List Int) => YI dz z.1 z.2.1 z.2.2 = some aw) (fun z => [(9, .own (.opq (Xx (uE V0 eB z.1)))), (10, .d (I z.2.1)), (11, .own (eOs 1 false F5_ z.2.2))]) [c1, Hh (.cut 0)] ?_ fun J3 bk => ?_
    ·rintro ⟨dg, cb, ay⟩ ae
     cases ae
     exact yB ax _ hl1 []
    ·obtain ⟨ie, h2, t4, ht4, ae⟩ := ye c1.2
     refine yM 11111121001120110 [J1, J2, J3] [1,9,10,11,13,27,28,29,33,34,35] (fun x => [(9, .own (.opq (Xx (uE V0 eB x.1)))), (10, .d (I x.2.1)), (11, .own (eOs 1 false F5_ x.2.2.1)), (35, .d (I x.2.2.2))]) ht4  [Hi F5_ h2, Ha (lnM F5_ b_)] fun ⟨cw, bz, cu, gk⟩ m4 dc ah hl2 J4 cx => ?_
     obtain c2 | c2 := zy ah
     ·obtain ⟨gf, h3, am, h4, ah⟩ := ye c2.2
      obtain ⟨g0, ah⟩ := gdE ah
      let Z1 : List HO := [c2, Hi F5_ h3, zC1 12 h4, Hn (apM (eI .i64) g0), Hl (aM (eI .i64) am gf), Ha (lnM (eI .i64) (am ++ gf))]
      obtain c3 | c3 := zy ah
      ·cases c3.2
       cases hl2
       cases ae
       cases hl1
       cases aa
       exact yE (H := zx ((xAp zo 42).or X0)) hE (Z1 ++ [c3, Hm (shM F5_ F5_ [])])
      ·refine yN (H := zx ((xAp zo 42).or X0)) 1111112100112011001100111 [J1, J2, J3, J4] [1,9,10,11,13,27,28,29,33,34,35] (fun z : (List ((List UInt8) × Bool)) × Int × List (List Int) => qD gk z.1 z.2.1 z.2.2 = some dc) (fun z => [(9, .own (.opq (Xx (uE V0 eB z.1)))), (10, .d (I z.2.1)), (11, .own (eOs 1 false F5_ z.2.2))]) [1,9,10,11,13,16,27,28,29,33,34,35] (Z1 ++ [c3, Hh (.cut 0)]) ?_ fun J5 dh => ?_
       ·rintro ⟨nj, pi, im⟩ ah
        let Z2 : List HO := [Ha (lnM F5_ im)]
        obtain c4 | c4 := zy ah
        ·cases c4.2
         cases hl2
         cases ae
         cases hl1
         cases aa
         exact yE hE (Z2 ++ [c4, c4, c4, qT, Hm (shM F5_ F5_ [])])
        ·obtain c5 | c5 := zy c4.2
         ·cases c5.2
          cases hl2
          cases ae
          cases hl1
          cases aa
          exact yE hE (Z2 ++ [c4, c4, c4, c5, Hm (shM F5_ F5_ [])])
         ·cases c5.2
          exact yB cx _ hl2 (Z2 ++ [c4, c4, c4, c5])
       ·obtain ⟨az, h5, val, h6, ah⟩ := ye c3.2
        replace h6 := yY h6
        let Z3 : List HO := [zC1 0 h5, Hn (⟨rfl, rfl, z1w (fun _ => rfl) cw⟩ : A.opq (Xx (uE V0 eB cw)) = A.opq (Xx (uE V0 eB cw)) ∧ z05 (V0 az) = true ∧ ∀ p ∈ uE V0 eB cw, z05 p.1 = true), Hx (.a (eB val)) ((zfh (f := V0) (g := eB) (z0 := false) (z := .atom (.bool false)) rfl az cw).trans (congrArg eB h6))]
        obtain c6 | c6 := zy ah
        ·obtain ⟨g1, ah⟩ := gdE c6.2
         exact yB (H := zx ((ze9 z4m 52 (uE V0 eB cw) (uE V0 eB (z5j cw az true))).or ((z3B z4m 50 (uE V0 eB cw)).or X0))) dh ((z5j cw az true), w64 (bz + (((am ++ gf).length : Nat) : Int)), (cu ++ [(am ++ gf)])) ah (Z3 ++ [c6, Hn (⟨rfl, rfl, rfl, rfl, z1w (fun _ => rfl) cw⟩ : T.own (.opq (Xx (uE V0 eB cw))) = T.own (.opq (Xx (uE V0 eB cw))) ∧ 0 = 0 ∧ z05 (V0 az) = true ∧ (eB true).isD = true ∧ ∀ p ∈ uE V0 eB cw, z05 p.1 = true), Hn (z43 (f := V0) (g := eB) az true cw), Hq (dM F5_ [(am ++ gf)]), Hn (dM F5_ [(am ++ gf)]), Hn (aL F5_ F5_ g1), Hl (aM F5_ cu [(am ++ gf)]), Ha (lnM (eI .i64) (am ++ gf))])
        ·exact yB (H := zx ((z3B z4m 50 (uE V0 eB cw)).or X0)) dh (cw, bz, cu) c6.2 (Z3 ++ [c6])
     ·cases c2.2
      cases hl2
      exact yB bk (cw, bz, cu) ae [c2]
   ·cases c1.2
    cases hl1
    exact yB au aj aa [c1]
def l66 : List y6 := uV 118 zO (eI .i64) (eT2 XV (eI .i64)) X8 :: l65
theorem Vl [H : HS X0 l65] : OkH l66 := yS2 false Tryz.func118 fun m_ k_ r0 aa E hE => by
 obtain ⟨r_, h0, aa⟩ := zt aa
 let Z0 : List HO := [zC1 5 h0]
 obtain c0 | c0 := zy aa
 ·cases c0.2
  exact yE hE (Z0 ++ [c0, Hm (shM F5_ F5_ [])])
 ·obtain c1 | c1 := zy c0.2
  ·cases c1.2
   exact yE hE (Z0 ++ [c0, c1, Hm (shM F5_ F5_ [])])
  ·obtain ⟨ai, h1, aa⟩ := zt c1.2
   let Z1 : List HO := (Z0 ++ [c0, c1, zC2 3 h1])
   obtain c2 | c2 := zy aa
   ·cases c2.2
    exact yE hE (Z1 ++ [c2, Hm (shM F5_ F5_ [])])
   ·obtain ⟨am, h2, aa⟩ := zt c2.2
    cases aa
    exact yE hE (Z1 ++ [c2, Hk [] (Us (hat 0)) (zf3 0 h2 (loC XV r_.1 <| loC XV ai.1 <| loC (eI .i64) m_.Inputs <| loN))])
def l67 : List y6 := kA 88 zO (eT2 XV (eI .i64)) jU :: l66
theorem Xt [H : HS X0 l66] : OkH l67 := yS1 false Tryz.func88 fun m_ r0 aa E hE => by
 obtain ⟨r_, h0, aa⟩ := zt aa
 cases aa
 exact yE hE [zC2 0 h0]
def l68 : List y6 := kA 145 (eI .i64) (Ve 161 (eSp (eI .i64))) X2 :: l67
theorem JE [H : HS X0 l67] : OkH l68 := yS1 true Tryz.func145 fun n_ r0 aa E hE => by
 cases aa
 exact yE hE []
abbrev XD (x0 : Int) (YY : σ → kB) (x6 : Int) (kp : σ) : List (Nat × T) := [(0, .own (.opq (YY kp).q)), (1, .d (.sptr (I x0))), (5, .d (I x0)), (6, .d (I x6))]
abbrev XB (x0 : Int) (YY : σ → kB) (x6 : Int) (gx : σ) (b_ : Int) : List (Nat × T) := [(0, .own (.opq (YY gx).q)), (1, .d (.sptr (I x0))), (3, .d (I x6)), (4, .d (I b_)), (5, .d (I x0)), (6, .d (I x6))]
abbrev XC (x0 : Int) (YY : σ → kB) (de : σ) (x6 : Int) : List (Nat × T) := [(0, .own (.opq (YY de).q)), (1, .d (.sptr (I x0))), (5, .d (I x0)), (6, .d (I x6))]
theorem ZS [H : HS X0 l68] (x0 : Int) : z2m Tryz.prog (.fn 161 [.sptr (I x0)]) (fun (x : Int × Int) (_ : Bool) (_ : Value) => [(eI .i64) x.1, (eI .i64) x.2]) (@wV x0) := by
 refine QQ (tt := wp) (nt := Tryz.f161.ntmps) (body := zbd Tryz.f161) zo Tryz.func161 rfl (by kernel_rfl) rfl rfl (by show (2 : Nat) ≤ 22; decide) ?_
 intro σ yv YY yy hy sg r0 aa E hE
 obtain ⟨t1, ht1, aa⟩ := zt aa
 refine yL 110 [] (fun s => Zb x0 yy s.1 s.2) (fun x => XC x0 YY x.1 x.2) (sg, 0) ht1  [] fun ⟨de, x6⟩ m1 aw ae hl1 J1 au => ?_
 obtain c0 | c0 := zy ae
 ·refine yKs 110011 [J1] [0,1,5,6] (zI (Zc x6) aw) (fun z => XD x0 YY x6 z) [c0, Hh (.cut 0)] ?_ fun J2 ax => ?_
  ·rintro kp ae
   cases ae
   exact yB au _ hl1 []
  ·obtain ⟨t3, ht3, ae⟩ := zt c0.2
   refine yL 11001120110 [J1, J2] (fun s => Za x0 yy x6 s.1 s.2) (fun x => XB x0 YY x6 x.1 x.2) (de, w64 (x6 + 1)) ht3  [] fun ⟨gx, b_⟩ m3 dc ah hl2 J3 bk => ?_
   obtain c1 | c1 := zy ah
   ·obtain ⟨yr, h0, ah⟩ := zt c1.2
    let Z0 : List HO := [c1, Hn (Qo (yv := yv) (Y := YY) (enc := (fun (x : Int × Int) (_ : Bool) (_ : Value) => [(eI .i64) x.1, (eI .i64) x.2])) (s := gx) (x := (x6, b_)) (s' := yr.1) (b := yr.2) (v := .nilFunc) [(eI .i64) x6, (eI .i64) b_] (show Yy [(eI .i64) x6, (eI .i64) b_] [(eI .i64) x6, (eI .i64) b_] from inferInstance))]
    obtain c2 | c2 := zy ah
    ·cases c2.2
     cases hl2
     cases ae
     cases hl1
     cases aa
     exact yF (H := zx ((YA (P := Tryz.prog) wp hy 19 (s := gx) (x := (x6, b_)) (s' := yr.1) (b := yr.2) .nilFunc h0).or X0)) .ret [(0, .own (.opq (YY yr.1).q))] (Z0 ++ [c2]) fun st0 h0 => hE _ st0 (.inr rfl) h0
    ·cases c2.2
     exact yB (H := zx ((YA (P := Tryz.prog) wp hy 19 (s := gx) (x := (x6, b_)) (s' := yr.1) (b := yr.2) .nilFunc h0).or X0)) bk _ hl2 (Z0 ++ [c2])
   ·cases c1.2
    cases hl2
    exact yB ax gx ae [c1]
 ·cases c0.2
  cases hl1
  cases aa
  exact yF .normal [(0, .own (.opq (YY de).q))] [c0] fun st0 h0 => hE _ st0 (.inl rfl) h0
def l69 : List y6 := uV 120 (eI .i64) (eI .i64) eB Uq :: l68
theorem JF [H : HS X0 l68] : OkH l69 := yS2 true Tryz.func120 fun a_ b_ r0 aa E hE => by
 cases aa
 exact yE hE []
def l70 : List y6 := uV 168 (eI .i64) JS eB XM :: l69
theorem UC [H : HS X0 l69] : OkH l70 := yS2 true Tryz.func168 fun s_ x1 r0 aa E hE => by
 obtain c0 | c0 := zy aa
 ·cases c0.2
  exact yE hE (rpN 6 (Hb c0) [])
 ·cases c0.2
  exact yE hE (rpN 4 (Hb c0) [Ha (lnM yj x1.Rows), c0, c0])
def xP : y6 := spF (α := List Int × z6) (ρ := Int) 152 (fun x => [F5_ x.1, (Ve 168 JS) x.2]) (fun r => (eI .i64) r) (fun x => wk x.1 x.2) [] (by
 rintro ⟨a0, a1⟩ ⟨b0, b1⟩ h
 have e0 := vS.inj (f := F5_) _ _ (List.cons.inj h).1
 replace h := (List.cons.inj h).2
 have e1 := vS.inj (f := (Ve 168 JS)) _ _ (List.cons.inj h).1
 subst e0 e1
 rfl)
theorem uq [H : HS X0 l70] : xP.Ok Tryz.prog := by
 refine WE ?_
 rintro ⟨s_, f_⟩ r0 aa
 refine zY true Tryz.func152 fun E hE => ?_
 refine yK 11 [] [] (fun z : Unit => xQ = some r0) (fun z => []) [0,1] [Hh (.cut 1)] ?_ fun J1 au => ?_
 ·rintro ⟨⟩ aa
  cases aa
  exact yE hE []
 ·refine yMb 11210 [J1] [0,1,7,8] (fun x => [(8, .d (I x))]) aa  [Ha (lnM (eI .i64) s_)] fun t2 aa x8 m2 aw ae hl1 J2 ax => ?_
  obtain c0 | c0 := zy ae
  ·obtain ⟨d9, h0, r_, h1, ae⟩ := ye c0.2
   let Z0 : List HO := [c0, Hi (eI .i64) h0, zC2 0 h1]
   obtain c1 | c1 := zy ae
   ·cases c1.2
    cases hl1
    cases aa
    exact yE hE (Z0 ++ [c1])
   ·cases c1.2
    exact yB ax _ hl1 (Z0 ++ [c1])
  ·cases c0.2
   cases hl1
   exact yB au () aa [c0]
def xx : y6 := spF (α := List Int × z6) (ρ := Bool) 137 (fun x => [F5_ x.1, (Ve 168 JS) x.2]) (fun r => eB r) (fun x => xR x.1 x.2) [] (by
 rintro ⟨a0, a1⟩ ⟨b0, b1⟩ h
 have e0 := vS.inj (f := F5_) _ _ (List.cons.inj h).1
 replace h := (List.cons.inj h).2
 have e1 := vS.inj (f := (Ve 168 JS)) _ _ (List.cons.inj h).1
 subst e0 e1
 rfl)
theorem xE [H : HS X0 l70] : xx.Ok Tryz.prog := by
 refine WE ?_
 rintro ⟨s_, f_⟩ r0 aa
 refine zY true Tryz.func137 fun E hE => ?_
 obtain ⟨r_, h0, aa⟩ := zt aa
 cases aa
 exact yE (H := zx ((Kt zo (uq (H := zd 0)) 7).or X0)) hE [Hc (Ctr.add_has VT xP) (x := (s_, f_)) h0 (loC F5_ s_ <| loC (Ve 168 JS) f_ <| loN)]
def l71 : List y6 := uV 162 zO F5_ (eI .i64) Uf :: l70
theorem Jz [H : HS X0 l70] : OkH l71 := yS2 true Tryz.func162 fun m_ l_ r0 aa E hE => by
 obtain ⟨r_, h0, aa⟩ := zt aa
 let Z0 : List HO := [zC1 63 h0]
 obtain c0 | c0 := zy aa
 ·cases c0.2
  exact yE hE (Z0 ++ [c0])
 ·obtain ⟨ai, h1, aa⟩ := zt c0.2
  let Z1 : List HO := (Z0 ++ [c0, Hc (Ctr.add_has VT xx) (x := (l_, m_)) h1 (loC F5_ l_ <| loC (Ve 168 JS) m_ <| loN)])
  obtain c1 | c1 := zy aa
  ·cases c1.2
   exact yE (H := zx ((Kt zo (xE (H := zd 0)) 13).or X0)) hE (Z1 ++ [c1])
  ·cases c1.2
   exact yE (H := zx ((Kt zo (xE (H := zd 0)) 13).or X0)) hE (Z1 ++ [c1])
def l72 : List y6 := kA 169 zO (Ve 172 JS) Ug :: l71
theorem JA [H : HS X0 l71] : OkH l72 := yS1 true Tryz.func169 fun m_ r0 aa E hE => by
 cases aa
 exact yE hE []
abbrev XA (x0 : z6) (YY : σ → kB) (x8 : Int) (kp : σ) : List (Nat × T) := [(0, .own (.opq (YY kp).q)), (1, .d (.sptr (zO x0))), (7, .d (I ((x0.Rows.length : Nat) : Int))), (8, .d (I x8))]
abbrev Xy (x0 : z6) (YY : σ → kB) (x8 : Int) (gx : σ) (t_ : Int) : List (Nat × T) := [(0, .own (.opq (YY gx).q)), (1, .d (.sptr (zO x0))), (3, .d (I x8)), (4, .d (I t_)), (7, .d (I ((x0.Rows.length : Nat) : Int))), (8, .d (I x8))]
abbrev Xz (x0 : z6) (YY : σ → kB) (de : σ) (x8 : Int) : List (Nat × T) := [(0, .own (.opq (YY de).q)), (1, .d (.sptr (zO x0))), (7, .d (I ((x0.Rows.length : Nat) : Int))), (8, .d (I x8))]
theorem UD [H : HS X0 l72] (x0 : z6) : z2m Tryz.prog (.fn 172 [.sptr (.agg [I x0.Inputs, I x0.Outputs, eSl 1 false yj x0.Rows])]) (fun (x : Int × Int) (_ : Bool) (_ : Value) => [(eI .i64) x.1, (eI .i64) x.2]) (@jZ x0) := by
 refine QQ (tt := wp) (nt := Tryz.f172.ntmps) (body := zbd Tryz.f172) zo Tryz.func172 rfl (by kernel_rfl) rfl rfl (by show (2 : Nat) ≤ 26; decide) ?_
 intro σ yv YY yy hy sg r0 aa E hE
 obtain ⟨t1, ht1, aa⟩ := zt aa
 refine yL 110 [] (fun s => kK x0 yy s.1 s.2) (fun x => Xz x0 YY x.1 x.2) (sg, 0) ht1  [Ha (lnM yj x0.Rows)] fun ⟨de, x8⟩ m1 aw ae hl1 J1 au => ?_
 obtain c0 | c0 := zy ae
 ·refine yKs 110011 [J1] [0,1,7,8] (zI (kL x8) aw) (fun z => XA x0 YY x8 z) [c0, Hh (.cut 0)] ?_ fun J2 ax => ?_
  ·rintro kp ae
   cases ae
   exact yB au _ hl1 []
  ·obtain ⟨t3, ht3, ae⟩ := zt c0.2
   refine yL 11001120110 [J1, J2] (fun s => kJ x0 yy x8 s.1 s.2) (fun x => Xy x0 YY x8 x.1 x.2) (de, w64 (x8 + 1)) ht3  [] fun ⟨gx, t_⟩ m3 dc ah hl2 J3 bk => ?_
   let Z0 : List HO := [Ha (lnM yj x0.Rows)]
   obtain c1 | c1 := zy ah
   ·obtain ⟨yr, h0, ah⟩ := zt c1.2
    let Z1 : List HO := (Z0 ++ [c1, Hn (Qo (yv := yv) (Y := YY) (enc := (fun (x : Int × Int) (_ : Bool) (_ : Value) => [(eI .i64) x.1, (eI .i64) x.2])) (s := gx) (x := (x8, t_)) (s' := yr.1) (b := yr.2) (v := .nilFunc) [(eI .i64) x8, (eI .i64) t_] (show Yy [(eI .i64) x8, (eI .i64) t_] [(eI .i64) x8, (eI .i64) t_] from inferInstance))])
    obtain c2 | c2 := zy ah
    ·cases c2.2
     cases hl2
     cases ae
     cases hl1
     cases aa
     exact yF (H := zx ((YA (P := Tryz.prog) wp hy 23 (s := gx) (x := (x8, t_)) (s' := yr.1) (b := yr.2) .nilFunc h0).or X0)) .ret [(0, .own (.opq (YY yr.1).q))] (Z1 ++ [c2]) fun st0 h0 => hE _ st0 (.inr rfl) h0
    ·cases c2.2
     exact yB (H := zx ((YA (P := Tryz.prog) wp hy 23 (s := gx) (x := (x8, t_)) (s' := yr.1) (b := yr.2) .nilFunc h0).or X0)) bk _ hl2 (Z1 ++ [c2])
   ·cases c1.2
    cases hl2
    exact yB ax gx ae (Z0 ++ [c1])
 ·cases c0.2
  cases hl1
  cases aa
  exact yF .normal [(0, .own (.opq (YY de).q))] [c0] fun st0 h0 => hE _ st0 (.inl rfl) h0
def yz : y6 := spR (α := List Int × Int) (ρ := List Int) 174 (fun x : List Int × Int => [F3_ x.1, (eI .i64) x.2]) (fun r : List Int => F6_ r) (fun x : List Int × Int => xj x.1 x.2) [] (zg3)
theorem jC : ∀ x r, (fun x : List Int × Int => xj x.1 x.2) x = some r → (VT.add yz).run 174 ((VT.add yz).norm 174 ((fun x : List Int × Int => [F3_ x.1, (eI .i64) x.2]) x)) = some ((fun r : List Int => F6_ r) r) := fun x r h => zdC (F := fun x : List Int × Int => xj x.1 x.2) (x := x) h rfl
theorem jE : (VT.add yz).gives 174 = [] := z9j
theorem jW [H : HS X0 l72] : yz.Ok Tryz.prog := by
 refine z3I ?_
 rintro ⟨l, n⟩ r0 aa
 cases l with
 | cons a l => cases aa
 | nil =>
  have h1 : 0 < n ∧ n ≤ 1000000 := by
   have h2 : (decide (0 < n) && decide (n ≤ 1000000)) = true := by
    cases h : (decide (0 < n) && decide (n ≤ 1000000)) with
    | true => rfl
    | false => have h3 : (bif (true && (decide (0 < n) && decide (n ≤ 1000000))) then some [] else none) = some r0 := aa; rw [h] at h3; cases h3
   simpa using h2
  have h3 : (bif (true && (decide (0 < n) && decide (n ≤ 1000000))) then some ([] : List Int) else none) = some r0 := aa
  rw [decide_eq_true h1.1, decide_eq_true h1.2] at h3
  cases h3
  exact z4D n h1.1 h1.2
def l73 : List y6 := kA 173 yS F6_ uz :: l72
theorem Zl [H : HS X0 l72] : OkH l73 := yS1 true Tryz.func173 fun slices r0 aa E hE => by
 refine yNs 111 [] [0,3] (zI (vB slices) r0) (fun z => [(3, .d (I z))]) [Hh (.cut 2)] ?_ fun J1 au => ?_
 ·rintro size aa
  obtain ⟨r_, h0, aa⟩ := zt aa
  refine yK (H := zx ((Kt zo (jW (H := zd 0)) 24).or X0)) 11111 [] [6] (zI vA r0) (fun z => [(6, .own (eOs 1 false (eI .i64) z))]) [0,6] [Hh (.g []), Hn jE, Hx (.a (F6_ r_)) (jC ([], size) _ h0), Hh (.cut 0)] ?_ fun J2 ax => ?_
  ·rintro md aa
   cases aa
   exact yE hE []
  ·refine yMb 11111210 [J2] [6,25,26,27] (fun x => [(6, .own (eOs 1 false (eI .i64) x.1)), (27, .d (I x.2))]) aa  [Ha (lnM F5_ slices)] fun t3 aa ⟨gy, o8⟩ m3 aw ae hl1 J3 bk => ?_
   obtain c0 | c0 := zy ae
   ·obtain ⟨lb, h1, ae⟩ := zt c0.2
    obtain ⟨g0, ae⟩ := gdE ae
    cases ae
    exact yB bk _ hl1 [c0, Hi F5_ h1, Hn (dM (eI .i64) lb), Hn (aL (eI .i64) (eI .i64) g0), Hl (aM (eI .i64) gy lb)]
   ·cases c0.2
    cases hl1
    exact yB ax gy aa [c0]
 ·refine yMb 111210 [J1] [0,3,9,10,11] (fun x => [(3, .d (I x.1)), (11, .d (I x.2))]) aa  [Ha (lnM F5_ slices)] fun t4 aa ⟨lq, gn⟩ m4 aw ae hl1 J4 cx => ?_
  obtain c1 | c1 := zy ae
  ·obtain ⟨ld, h2, ae⟩ := zt c1.2
   let Z0 : List HO := [c1, Hi F5_ h2, Ha (lnM (eI .i64) ld)]
   obtain c2 | c2 := zy ae
   ·cases c2.2
   ·cases c2.2
    exact yB cx _ hl1 (Z0 ++ [c2])
  ·cases c1.2
   cases hl1
   exact yB au lq aa [c1]
abbrev ZR (n_ : Int) (f_ : ArN 64 (ArN 64 (List Int))) (out : List Int) : List (Nat × T) := [(0, .own (.box (yp 64 (yp 64 (eNl 1 (eI .i64))) f_))), (4, .d (I n_)), (11, .own (eOs 1 false (eI .i64) out))]
abbrev ZQ (m_ : z6) (t_ : Int) (n_ : Int) (f_ : ArN 64 (ArN 64 (List Int))) (al : List z7) (ig : Int) : List (Nat × T) := [(0, .own (.box (yp 64 (yp 64 (eNl 1 (eI .i64))) f_))), (3, .d (I t_)), (4, .d (I n_)), (6, .own (.box (zO m_))), (11, .own (eOs 1 true (eI .i64) [])), (19, .d (eSl 2 false F9_ al)), (20, .d (I ((al.length : Nat) : Int))), (21, .d (I ig))]
abbrev ZP (m_ : z6) (t_ : Int) (n_ : Int) (f_ : ArN 64 (ArN 64 (List Int))) (al : List z7) (ig : Int) : List (Nat × T) := [(0, .own (.box (yp 64 (yp 64 (eNl 1 (eI .i64))) f_))), (3, .d (I t_)), (4, .d (I n_)), (6, .own (.box (zO m_))), (11, .own (eOs 1 true (eI .i64) [])), (19, .d (eSl 2 false F9_ al)), (20, .d (I ((al.length : Nat) : Int))), (21, .d (I ig))]
theorem qA [H : HS X0 l73] (ct : Value) : ∀ (m_ : z6) (s_ : Int) (t_ : Int) (n_ : Int) (f_ : ArN 64 (ArN 64 (List Int))) (r0 : List Int × ArN 64 (ArN 64 (List Int))), uf m_ s_ t_ n_ f_ = some r0 → yl Tryz.prog (.fn 170 []) [.atom ct, .agg [I m_.Inputs, I m_.Outputs, eSl 1 false yj m_.Rows], I s_, I t_, I n_] ([ct].zip [.box (yp 64 (yp 64 (eNl 1 (eI .i64))) f_)]) (eNl 1 (eI .i64) r0.1) [.box (yp 64 (yp 64 (eNl 1 (eI .i64))) r0.2)] := by
 intro m_ s_ t_ n_ f_ r0 aa
 refine z4s (tt := wp) (nt := Tryz.f170.ntmps) (body := zbd Tryz.f170) [0] zo Tryz.func170 rfl (by kernel_rfl) rfl rfl (by show (5 : Nat) ≤ 85; decide) (by decide) rfl rfl rfl rfl (fun E hG hE => ?_) rfl
 unfold uf at aa
 refine yA (H := zx ((xRe Tryz.prog 10 (.atom (.slice none 0 0)) (eNl 1 (eI .i64) ([] : List Int)) (z7Q 1)).or ((YB zo (.inl 76) [66]).or X0))) 11 [] [(0, .own (.box (yp 64 (yp 64 (eNl 1 (eI .i64))) f_))), (2, .d (I s_)), (3, .d (I t_)), (4, .d (I n_)), (6, .own (.box (zO m_)))] [Hn (rfl : T.d (.atom (.slice none 0 0)) = T.d (.atom (.slice none 0 0)))] ?_
 refine z7A (c' := (sub [1,0] (zbd Tryz.f170))) (by kernel_rfl) hG ?_
 refine yJ (H := zx ((YB zo (.inl 76) [66]).or X0)) 11011 [] [0,4,11] (fun z : List Int => wL n_ f_ z = some r0) (fun z => ZR n_ f_ z) [(0, .own (.box (yp 64 (yp 64 (eNl 1 (eI .i64))) f_))), (2, .d (I s_)), (3, .d (I t_)), (4, .d (I n_)), (6, .own (.box (zO m_))), (11, .own (eOs 1 true (eI .i64) []))] [Hh (.cut 2)] ?_ fun J1 au => ?_
 ·rintro out aa
  unfold wL at aa
  obtain c0 | c0 := zy aa
  ·obtain rfl := yY c0.2
   exact yF (H := zx ((xRe Tryz.prog 10 (.atom (.slice none 0 0)) (eNl 1 (eI .i64) ([] : List Int)) (z7Q 1)).or ((YB zo (.inl 76) [66]).or X0))) .ret [(0, .own (.box (yp 64 (yp 64 (eNl 1 (eI .i64))) f_))), (10, .d (eNl 1 (eI .i64) ([] : List Int)))] [Ha (lnM (eI .i64) out), c0, Hn (rfl : T.d (.atom (.slice none 0 0)) = T.d (.atom (.slice none 0 0)))] fun st0 h0 => hE _ st0 (.inr rfl) (ui h0 ⟨⟨rfl, rfl⟩, trivial⟩) (zcz h0 rfl rfl)
  ·obtain ⟨r_, h0, aa⟩ := zt c0.2
   obtain ⟨g0, aa⟩ := gdE aa
   obtain rfl := yY aa
   exact yF (H := zx ((xRe Tryz.prog 10 (eSl 1 true (eI .i64) r_) (eNl 1 (eI .i64) r_) (fun S v q => (LeA.slNl 1 true (eI .i64) g0).repV q)).or ((YB zo (.inl 76) [66]).or X0))) .ret [(0, .own (.box (yp 64 (yp 64 (eNl 1 (eI .i64))) f_))), (10, .d (eNl 1 (eI .i64) r_))] [Ha (lnM (eI .i64) out), c0, zg 21, Hm (shM (eI .i64) (eI .i64) out), Hs (zf1 21 h0 (loC F5_ out <| loN)), Hm (shM (eI .i64) (eI .i64) out), Hn (rfl : T.d (eSl 1 true (eI .i64) r_) = T.d (eSl 1 true (eI .i64) r_))] fun st0 h0 => hE _ st0 (.inr rfl) (ui h0 ⟨⟨rfl, rfl⟩, trivial⟩) (zcz h0 rfl rfl)
 ·obtain ⟨al, h1, t2, ht2, aa⟩ := ye aa
  refine yL (H := zx ((YB zo (.inl 76) [66]).or X0)) 11011210 [J1] (fun s => wK m_ t_ n_ f_ al s) (fun x => ZP m_ t_ n_ f_ al x) 0 ht2  [Hi yj h1, Ha (lnM F9_ al)] fun ig m2 aw ae hl1 J2 ax => ?_
  try unfold wK at ae
  obtain c1 | c1 := zy ae
  ·refine yJ (H := zx ((YB zo (.inl 76) [66]).or X0)) 11011210011 [J1, J2] [0,3,4,6,11,19,20,21] (fun z : Unit => xg ig = some aw) (fun z => ZQ m_ t_ n_ f_ al ig) [(0, .own (.box (yp 64 (yp 64 (eNl 1 (eI .i64))) f_))), (3, .d (I t_)), (4, .d (I n_)), (6, .own (.box (zO m_))), (11, .own (eOs 1 true (eI .i64) [])), (19, .d (eSl 2 false F9_ al)), (20, .d (I ((al.length : Nat) : Int))), (21, .d (I ig))] [c1, Hh (.cut 0)] ?_ fun J3 bk => ?_
   ·rintro ⟨⟩ ae
    unfold xg at ae
    obtain rfl := yY ae
    exact yB (H := zx ((YB zo (.inl 76) [66]).or X0)) ax _ hl1 []
   ·obtain ⟨ak, h2, dp, h3, ar, h4, ae⟩ := jG c1.2
    let Z0 : List HO := [Hi F9_ h2, Hi yj h3, Hi F9_ h4]
    obtain c2 | c2 := zy ae
    ·obtain rfl := yY c2.2
     obtain rfl := hl1
     exact yBx (H := zx ((YB zo (.inl 76) [66]).or X0)) au [ig] aa [(0, .own (.box (yp 64 (yp 64 (eNl 1 (eI .i64))) f_))), (4, .d (I n_)), (11, .own (eOs 1 true (eI .i64) ([ig])))] inferInstance (Z0 ++ [c2])
    ·obtain c3 | c3 := zy c2.2
     ·let Z1 : List HO := (Z0 ++ (Hb c2 :: (rpN 4 (Hb c3) [])))
      obtain c4 | c4 := zy c3.2
      ·obtain ⟨cell, h5, ca, h6, ae⟩ := ye c4.2
       let Z2 : List HO := (Z1 ++ (rpN 7 (Hb c4) (Hn (⟨Xa (by kernel_rfl) f_ (i0 h5), (iL (yp 64 (eNl 1 (eI .i64))) h5).2⟩ : vR wp 238 ((f_.l).map (yp 64 (eNl 1 (eI .i64)))) ak.To = true ∧ ak.To.toNat < ((f_.l).map (yp 64 (eNl 1 (eI .i64)))).length) :: Hb c4 :: Hh (.f) :: Hs (iM (yp 64 (eNl 1 (eI .i64))) h5) :: Hn (⟨Xa (by kernel_rfl) cell (i0 h6), (iL (eNl 1 (eI .i64)) h6).2⟩ : vR wp 223 ((cell.l).map (eNl 1 (eI .i64))) ar.To = true ∧ ar.To.toNat < ((cell.l).map (eNl 1 (eI .i64))).length) :: Hb c4 :: Hh (.f) :: Hs (iM (yp 64 (eNl 1 (eI .i64))) h5) :: Hh (.f) :: Hs (iM (eNl 1 (eI .i64)) h6) :: Hn (rfl : T.d (eNl 1 (eI .i64) ca) = T.d (eNl 1 (eI .i64) ca)) :: Hb c4 :: Ha (lnM (eI .i64) ca) :: (rpN 4 (Hb c4) []))))
       obtain c5 | c5 := zy ae
       ·obtain ⟨jf, h7, jp, h8, ai, h9, ae⟩ := jG c5.2
        obtain rfl := yY ae
        obtain rfl := hl1
        exact yB (H := zx ((xLs zo 75 (eNl 1 (eI .i64) jp) (eSl 1 false (eI .i64) jp) inferInstance).or ((xBl zo 66).or ((xLs zo 59 (eNl 1 (eI .i64) ca) (eSl 1 false (eI .i64) ca) inferInstance).or ((YB zo (.inl 76) [66]).or X0))))) au ai aa (Z2 ++ [c5, Hn (⟨Xa (by kernel_rfl) f_ (i0 h7), (iL (yp 64 (eNl 1 (eI .i64))) h7).2⟩ : vR wp 238 ((f_.l).map (yp 64 (eNl 1 (eI .i64)))) ak.To = true ∧ ak.To.toNat < ((f_.l).map (yp 64 (eNl 1 (eI .i64)))).length), Hh (.op 9), Hh (.f), Hs (iM (yp 64 (eNl 1 (eI .i64))) h7), Hn (⟨Xa (by kernel_rfl) jf (i0 h8), (iL (eNl 1 (eI .i64)) h8).2⟩ : vR wp 223 ((jf.l).map (eNl 1 (eI .i64))) ar.To = true ∧ ar.To.toNat < ((jf.l).map (eNl 1 (eI .i64))).length), Hh (.op 0), Hh (.f), Hs (iM (yp 64 (eNl 1 (eI .i64))) h7), Hh (.f), Hs (iM (eNl 1 (eI .i64)) h8), Hn (rfl : T.d (eNl 1 (eI .i64) jp) = T.d (eNl 1 (eI .i64) jp)), Hm (shM (eI .i64) (eI .i64) ([ig])), zg 0, Hm (shM F5_ F5_ ([[ig], jp])), Hs (zf1 0 h9 (loC z0s [[ig], jp] <| loN)), Hm (shM F5_ F5_ ([[ig], jp]))])
       ·exact yB (H := zx ((xLs zo 59 (eNl 1 (eI .i64) ca) (eSl 1 false (eI .i64) ca) inferInstance).or ((YB zo (.inl 76) [66]).or X0))) bk () c5.2 (Z2 ++ [c5])
      ·exact yB (H := zx ((YB zo (.inl 76) [66]).or X0)) bk () c4.2 (Z1 ++ (rpN 14 (Hb c4) [qF]))
     ·exact yB (H := zx ((YB zo (.inl 76) [66]).or X0)) bk () c3.2 (Z0 ++ (Hb c2 :: (rpN 4 (Hb c3) (rpN 15 qF []))))
  ·obtain rfl := yY c1.2
   obtain rfl := hl1
   exact yBx (H := zx ((YB zo (.inl 76) [66]).or X0)) au ([] : List Int) aa [(0, .own (.box (yp 64 (yp 64 (eNl 1 (eI .i64))) f_))), (4, .d (I n_)), (11, .own (eOs 1 true (eI .i64) []))] inferInstance [c1]
theorem Wv [H : HS X0 l73] (ct : Value) : ∀ (s_ : Int) (t_ : Int) (w_ : List Int) (f_ : ArN 64 (ArN 64 (List Int))) (r0 : ArN 64 (ArN 64 (List Int))), uM s_ t_ w_ f_ = some r0 → yl Tryz.prog (.fn 171 []) [.atom ct, I s_, I t_, eNl 1 (eI .i64) w_] ([ct].zip [.box (yp 64 (yp 64 (eNl 1 (eI .i64))) f_)]) (.tup []) [.box (yp 64 (yp 64 (eNl 1 (eI .i64))) r0)] := by
 intro s_ t_ w_ f_ r0 aa
 refine z0b (tt := wp) (nt := Tryz.f171.ntmps) (body := zbd Tryz.f171) [0] zo Tryz.func171 rfl (by kernel_rfl) rfl rfl (by show (4 : Nat) ≤ 22; decide) (by decide) rfl rfl (fun E hE => ?_) rfl
 unfold uM at aa
 refine z9G 0 (v := ct) ⟨_, rfl⟩ (by kernel_rfl) fun b0 hb0 => ?_
 subst hb0
 obtain ⟨cell, h0, ca, h1, arr, h2, aa⟩ := jG aa
 replace h2 := yY h2
 obtain ⟨arr1, h3, aa⟩ := zt aa
 replace h3 := yY h3
 obtain ⟨jf, h4, jp, h5, arr2, h6, aa⟩ := jG aa
 replace h6 := yY h6
 obtain ⟨pr, h7, aa⟩ := zt aa
 replace h7 := yY h7
 obtain rfl := yY aa
 exact yF (H := zx ((xIr zo 21 0 t_.toNat b0).or ((xRi zo 20 64 64 b0).or ((xNr Tryz.prog 19 b0).or ((xMv Tryz.prog 11 0 (QF b0) rfl).or X0))))) .normal [(0, .own (.box (yp 64 (yp 64 (eNl 1 (eI .i64))) pr)))] [Hn (rfl : some (QF b0) = some (QF b0)), Hn (⟨Xa (by kernel_rfl) f_ (i0 h0), (iL (yp 64 (eNl 1 (eI .i64))) h0).2⟩ : vR wp 238 ((f_.l).map (yp 64 (eNl 1 (eI .i64)))) s_ = true ∧ s_.toNat < ((f_.l).map (yp 64 (eNl 1 (eI .i64)))).length), Hh (.op 10), Hh (.f), Hs (iM (yp 64 (eNl 1 (eI .i64))) h0), Hn (⟨Xa (by kernel_rfl) cell (i0 h1), (iL (eNl 1 (eI .i64)) h1).2⟩ : vR wp 223 ((cell.l).map (eNl 1 (eI .i64))) t_ = true ∧ t_.toNat < ((cell.l).map (eNl 1 (eI .i64))).length), Hh (.op 0), Hh (.f), Hs (iM (yp 64 (eNl 1 (eI .i64))) h0), Hh (.f), Hs (iM (eNl 1 (eI .i64)) h1), Hh (.f), Hs (iM (yp 64 (eNl 1 (eI .i64))) h0), Hh (.f), Hs (iM (eNl 1 (eI .i64)) h1), Hx (.l ((arr.l).map (eNl 1 (eI .i64)))) ((ArN.setL (eNl 1 (eI .i64)) cell t_ w_).trans (congrArg (fun q => (ArN.l q).map (eNl 1 (eI .i64))) h2)), Hx (.l ((arr1.l).map (yp 64 (eNl 1 (eI .i64))))) ((ArN.setL (yp 64 (eNl 1 (eI .i64))) f_ s_ arr).trans (congrArg (fun q => (ArN.l q).map (yp 64 (eNl 1 (eI .i64)))) h3)), Hn (rfl : T.d (.atom (QF b0)) = T.d (.atom (QF b0))), Hn (⟨rfl, i0 h4, z88 (x := arr1) h4⟩ : T.d (.atom (QF b0)) = T.d (.atom (QF b0)) ∧ 0 ≤ t_ ∧ t_.toNat < 64), Hn (⟨⟨congrArg (fun k => T.d (.atom (.pointer (some ⟨b0, k, none⟩)))) (z9H (f := (yp 64 (eNl 1 (eI .i64)))) arr1 h4).symm, (iL (yp 64 (eNl 1 (eI .i64))) h4).2⟩, rfl⟩ : (T.d (.atom (.pointer (some ⟨b0, t_.toNat * 64, none⟩))) = T.d (.atom (.pointer (some ⟨b0, A.sizes (((arr1.l).map (yp 64 (eNl 1 (eI .i64)))).take t_.toNat), none⟩))) ∧ t_.toNat < ((arr1.l).map (yp 64 (eNl 1 (eI .i64)))).length) ∧ some (QF b0) = some (QF b0)), Hh (.op 2), Hh (.f), Hs (iM (yp 64 (eNl 1 (eI .i64))) h4), Hn (⟨Xa (by kernel_rfl) jf (i0 h5), (iL (eNl 1 (eI .i64)) h5).2⟩ : vR wp 223 ((jf.l).map (eNl 1 (eI .i64))) s_ = true ∧ s_.toNat < ((jf.l).map (eNl 1 (eI .i64))).length), Hh (.op 0), Hh (.f), Hs (iM (yp 64 (eNl 1 (eI .i64))) h4), Hh (.f), Hs (iM (eNl 1 (eI .i64)) h5), Hh (.f), Hs (iM (yp 64 (eNl 1 (eI .i64))) h4), Hh (.f), Hs (iM (eNl 1 (eI .i64)) h5), Hx (.l ((arr2.l).map (eNl 1 (eI .i64)))) ((ArN.setL (eNl 1 (eI .i64)) jf s_ w_).trans (congrArg (fun q => (ArN.l q).map (eNl 1 (eI .i64))) h6)), Hx (.l ((pr.l).map (yp 64 (eNl 1 (eI .i64))))) ((ArN.setL (yp 64 (eNl 1 (eI .i64))) arr1 t_ arr2).trans (congrArg (fun q => (ArN.l q).map (yp 64 (eNl 1 (eI .i64)))) h7))] fun st0 h0 => hE _ st0 (.inl rfl) (ui h0 ⟨⟨rfl, rfl⟩, trivial⟩)
def l74 : List y6 := kA 163 zO (eBx (yp 64 (yp 64 (eNl 1 (eI .i64))))) uL :: l73
abbrev Yr (f_ : ArN 64 (ArN 64 (List Int))) : List (Nat × T) := [(3, .own (.box (.box (yp 64 (yp 64 (eNl 1 (eI .i64))) f_))))]
abbrev Yq (m_ : z6) (n_ : Int) (py : ArN 64 (ArN 64 (List Int))) : List (Nat × T) := [(1, .own (.box (zO m_))), (3, .own (.box (.box (yp 64 (yp 64 (eNl 1 (eI .i64))) py)))), (4, .own (.box (I n_)))]
abbrev Yn (m_ : z6) (n_ : Int) (now : List zT) (nk : ArN 64 (ArN 64 (List Int))) (o9 : Int) : List (Nat × T) := [(1, .own (.box (zO m_))), (3, .own (.box (.box (yp 64 (yp 64 (eNl 1 (eI .i64))) nk)))), (4, .own (.box (I n_))), (48, .d (eSl 4 false (zG (eI .i64) (eI .i64) (eNl 1 (eI .i64)) eB) now)), (49, .d (I ((now.length : Nat) : Int))), (50, .d (I o9))]
abbrev Yp (m_ : z6) (n_ : Int) (pz : ArN 64 (ArN 64 (List Int))) (now : List zT) : List (Nat × T) := [(1, .own (.box (zO m_))), (3, .own (.box (.box (yp 64 (yp 64 (eNl 1 (eI .i64))) pz)))), (4, .own (.box (I n_))), (5, .own (.box (eOs 4 false (zG (eI .i64) (eI .i64) (eNl 1 (eI .i64)) eB) now)))]
abbrev xw (m_ : z6) (n_ : Int) (ai : z6) (jj : ArN 64 (ArN 64 (List Int))) (ir : List zT) : List (Nat × T) := [(1, .own (.box (zO m_))), (3, .own (.box (.box (yp 64 (yp 64 (eNl 1 (eI .i64))) jj)))), (4, .own (.box (I n_))), (5, .own (.box (eOs 4 false (zG (eI .i64) (eI .i64) (eNl 1 (eI .i64)) eB) ir))), (22, .d (.fn 172 [.sptr (.agg [I ai.Inputs, I ai.Outputs, eSl 1 false yj ai.Rows])]))]
abbrev Yo (m_ : z6) (ng : ArN 64 (ArN 64 (List Int))) (n_ : Int) : List (Nat × T) := [(1, .own (.box (zO m_))), (3, .own (.box (.box (yp 64 (yp 64 (eNl 1 (eI .i64))) ng)))), (4, .own (.box (I n_)))]
theorem Wu [H : HS X0 l73] : OkH l74 := by
 refine zO1 fun m_ r0 aa => ?_
 try unfold uL at aa
 refine z35 (tt := wp) (rs := [(true, 2, none)]) (n := ⟨Tryz.f163.ntmps, []⟩) (body := zbd Tryz.f163) zo Tryz.func163 rfl (by kernel_rfl) rfl rfl (by show (1 : Nat) ≤ 65; decide) fun E hE => ?_
 refine yJ 111 [] [3] (fun z : ArN 64 (ArN 64 (List Int)) => vo z = some r0) (fun z => Yr z) [(1, .own (.box (zO m_))), (3, .own (.box (.box (yp 64 (yp 64 (eNl 1 (eI .i64))) (ArN.rep 64 (ArN.rep 64 ([] : List Int)))))))] [Hh (.cut 2)] ?_ fun J1 au => ?_
 ·rintro f_ aa
  unfold vo at aa
  obtain rfl := yY aa
  let ZE : List HO := []
  exact z51 X0 zo H.ok z2M hE 4000 (hs := hoH ZE) (x := (.box (yp 64 (yp 64 (eNl 1 (eI .i64))) f_))) (hoB ZE) (by kernel_rfl) (LeV.refl _)
 ·obtain ⟨t2, ht2, aa⟩ := zt aa
  refine yL 111210 [J1] (fun s => vj m_ s.1 s.2) (fun x => Yo m_ x.1 x.2) ((ArN.rep 64 (ArN.rep 64 ([] : List Int))), 1) ht2  [] fun ⟨ng, n_⟩ m2 aw ae hl1 J2 ax => ?_
  try unfold vj at ae
  let Z0 : List HO := [Ha (lnM yj m_.Rows)]
  obtain c0 | c0 := zy ae
  ·refine yJ 11121001 [J1, J2] [1,3,4] (fun z : ArN 64 (ArN 64 (List Int)) => vn n_ z = some aw) (fun z => Yq m_ n_ z) [(1, .own (.box (zO m_))), (3, .own (.box (.box (yp 64 (yp 64 (eNl 1 (eI .i64))) ng)))), (4, .own (.box (I n_)))] (Z0 ++ [c0, Hh (.cut 0)]) ?_ fun J3 bk => ?_
   ·rintro py ae
    unfold vn at ae
    obtain rfl := yY ae
    exact yB ax _ hl1 []
   ·refine yJ 11121001201 [J1, J2, J3] [1,3,4,5] (fun z : ArN 64 (ArN 64 (List Int)) × List zT => vm n_ z.1 z.2 = some aw) (fun z => Yp m_ n_ z.1 z.2) [(1, .own (.box (zO m_))), (3, .own (.box (.box (yp 64 (yp 64 (eNl 1 (eI .i64))) ng)))), (4, .own (.box (I n_))), (5, .own (.box (eOs 4 true (zG (eI .i64) (eI .i64) F5_ eB) [])))] [Hh (.cut 1)] ?_ fun J4 cx => ?_
    ·rintro ⟨pz, now⟩ ae
     unfold vm at ae
     obtain ⟨t5, ht5, ae⟩ := zt ae
     refine yL 11121001201110 [J1, J2, J3] (fun s => vh now s.1 s.2) (fun x => Yn m_ n_ now x.1 x.2) (pz,0) ht5  [Hh (.v 0 [5]), Hm (shM (zG (eI .i64) (eI .i64) (eNl 1 (eI .i64)) eB) (zG (eI .i64) (eI .i64) (eNl 1 (eI .i64)) eB) now), Hh (.v 1 [5]), Ha (lnM (zG (eI .i64) (eI .i64) (eNl 1 (eI .i64)) eB) now)] fun ⟨nk, o9⟩ m5 dc ah hl2 J5 dh => ?_
     try unfold vh at ah
     obtain c1 | c1 := zy ah
     ·obtain ⟨gl, h0, r_, h1, ah⟩ := ye c1.2
      obtain rfl := yY ah
      exact yB (H := zx ((z3C (P := Tryz.prog) wp 3 0 (fa := .fn 171 []) (z := .box (yp 64 (yp 64 (eNl 1 (eI .i64))) nk)) (z' := .box (yp 64 (yp 64 (eNl 1 (eI .i64))) r_)) (r := .tup []) (xl := []) (xr := [(eI .i64) gl.S, (eI .i64) gl.T, (eNl 1 (eI .i64)) gl.Word]) rfl rfl (fun v => Wv (H := zd 0) v _ _ _ _ _ h1) 61).or X0)) dh _ hl2 [c1, Hi (zG (eI .i64) (eI .i64) (eNl 1 (eI .i64)) eB) h0, Hn (⟨rfl, leP (show Yy [] [] from inferInstance), leP (show Yy [(eI .i64) gl.S, (eI .i64) gl.T, (eNl 1 (eI .i64)) gl.Word] [(eI .i64) gl.S, (eI .i64) gl.T, (eNl 1 (eI .i64)) gl.Word] from inferInstance), rfl, rfl⟩ : ([.fn 171 []] : List A) = [.fn 171 []] ∧ LeP [] [] ∧ LeP [(eI .i64) gl.S, (eI .i64) gl.T, (eNl 1 (eI .i64)) gl.Word] [(eI .i64) gl.S, (eI .i64) gl.T, (eNl 1 (eI .i64)) gl.Word] ∧ T.als 3 [.deref] 0 0 = T.als 3 [.deref] 0 0 ∧ T.own (.box (.box (yp 64 (yp 64 (eNl 1 (eI .i64))) nk))) = T.own (.box (.box (yp 64 (yp 64 (eNl 1 (eI .i64))) nk))))]
     ·obtain rfl := yY c1.2
      obtain rfl := hl2
      exact yB bk nk ae [c1]
    ·obtain ⟨ai, h2, t6, kz, ae⟩ := ye c0.2
     refine yAt (sub [1,1,2,1,0,0,1,2,0,1,2,1,0] (zbd Tryz.f163)) (frs [1,1,2,1,0,0,1,2,0,1,2,1,0] [J1, J2, J3, J4] (zbd Tryz.f163) []) [(1, .own (.box (zO m_))), (3, .own (.box (.box (yp 64 (yp 64 (eNl 1 (eI .i64))) ng)))), (4, .own (.box (I n_))), (5, .own (.box (eOs 4 true (zG (eI .i64) (eI .i64) (eNl 1 (eI .i64)) eB) []))), (22, .d (.fn 172 [.sptr (.agg [I ai.Inputs, I ai.Outputs, eSl 1 false yj ai.Rows])]))] [zC1 1 h2] fun st0 h0 => ?_
     refine VV (g := .tmp 22) (ps := [23,24]) (assign := (sub [1,1,2,1,0,0,1,2,0,1,2,1,0,0] (zbd Tryz.f163))) (body := (sub [1,1,2,1,0,0,1,2,0,1,2,1,0,1] (zbd Tryz.f163))) (K := 172) (caps := [.sptr (.agg [I ai.Inputs, I ai.Outputs, eSl 1 false yj ai.Rows])]) (by kernel_rfl) [1,3,4,5,22] (fun s => xw m_ n_ ai s.1 s.2) (fun z => nomatch z) (fun z => nomatch z) ((fun (x : Int × Int) (_ : Bool) (_ : Value) => [(eI .i64) x.1, (eI .i64) x.2])) (F := @jZ ai) (fun s x => w9 m_ n_ s.1 s.2 x.1 x.2) (ng, ([] : List zT)) t6 _ h0 inferInstance (by kernel_rfl) (by decide) (fun _ => rfl) (by rintro ⟨⟩) (by kernel_rfl) (fun _ _ _ => rfl) (UD (H := zd 1) ai) kz ?_ ?_
     ·rintro su ⟨jj, ir⟩ ⟨j8, fe⟩ vr dc ah
      replace ah : w9 m_ n_ jj ir j8 fe = some dc := ah
      unfold w9 at ah
      refine yF .normal [(1, .own (.box (zO m_))), (3, .own (.box (.box (yp 64 (yp 64 (eNl 1 (eI .i64))) jj)))), (4, .own (.box (I n_))), (5, .own (.box (eOs 4 false (zG (eI .i64) (eI .i64) (eNl 1 (eI .i64)) eB) ir))), (6, .d (I j8)), (7, .d (I fe)), (22, .d (.fn 172 [.sptr (.agg [I ai.Inputs, I ai.Outputs, eSl 1 false yj ai.Rows])]))] [] fun st0 h0 => ⟨rfl, JR h0 ?_⟩
      obtain ⟨cell, h3, ca, h4, ah⟩ := ye ah
      let Z1 : List HO := [Hn (⟨Xa (by kernel_rfl) jj (i0 h3), (iL (yp 64 (eNl 1 (eI .i64))) h3).2⟩ : vR wp 238 ((jj.l).map (yp 64 (eNl 1 (eI .i64)))) j8 = true ∧ j8.toNat < ((jj.l).map (yp 64 (eNl 1 (eI .i64)))).length), Hh (.op 5), Hh (.f), Hs (iM (yp 64 (eNl 1 (eI .i64))) h3), Hn (⟨Xa (by kernel_rfl) cell (i0 h4), (iL (eNl 1 (eI .i64)) h4).2⟩ : vR wp 223 ((cell.l).map (eNl 1 (eI .i64))) fe = true ∧ fe.toNat < ((cell.l).map (eNl 1 (eI .i64))).length), Hh (.op 0), Hh (.f), Hs (iM (yp 64 (eNl 1 (eI .i64))) h3), Hh (.f), Hs (iM (eNl 1 (eI .i64)) h4), Hn (⟨rfl, rfl⟩ : T.d (eNl 1 (eI .i64) ca) = T.d (eNl 1 (eI .i64) ca) ∧ T.d (.atom (.slice none 0 0)) = T.d (.atom (.slice none 0 0)))]
      obtain c2 | c2 := zy ah
      ·obtain rfl := yY c2.2
       exact yF (H := zx ((za8 zo 32 57 1 (ca.map (eI .i64)) true (!ca.isEmpty) (by kernel_rfl) (nlB true (eI .i64) ca)).or X0)) .normal (xw m_ n_ ai jj ir) (Z1 ++ [c2]) fun st0 h0 => ⟨rfl, _, h0, LeL.refl _⟩
      ·obtain ⟨am, h5, ah⟩ := zt c2.2
       let Z2 : List HO := (Z1 ++ [c2, Hn (⟨rfl, leP (show Yy [] [] from inferInstance), leP (show Yy [zO m_, (eI .i64) j8, (eI .i64) fe, (eI .i64) n_] [zO m_, (eI .i64) j8, (eI .i64) fe, (eI .i64) n_] from inferInstance), rfl, rfl⟩ : ([.fn 170 []] : List A) = [.fn 170 []] ∧ LeP [] [] ∧ LeP [zO m_, (eI .i64) j8, (eI .i64) fe, (eI .i64) n_] [zO m_, (eI .i64) j8, (eI .i64) fe, (eI .i64) n_] ∧ T.als 3 [.deref] 0 0 = T.als 3 [.deref] 0 0 ∧ T.own (.box (.box (yp 64 (yp 64 (eNl 1 (eI .i64))) jj))) = T.own (.box (.box (yp 64 (yp 64 (eNl 1 (eI .i64))) jj)))), Hn (⟨rfl, rfl⟩ : T.d (eNl 1 (eI .i64) am.1) = T.d (eNl 1 (eI .i64) am.1) ∧ T.d (.atom (.slice none 0 0)) = T.d (.atom (.slice none 0 0)))])
       obtain c3 | c3 := zy ah
       ·obtain ⟨g0, ah⟩ := gdE c3.2
        obtain rfl := yY ah
        exact yF (H := zx ((za8 zo 40 57 1 (am.1.map (eI .i64)) true (!am.1.isEmpty) (by kernel_rfl) (nlB true (eI .i64) am.1)).or ((z3C (P := Tryz.prog) wp 3 0 (fa := .fn 170 []) (z := .box (yp 64 (yp 64 (eNl 1 (eI .i64))) jj)) (z' := .box (yp 64 (yp 64 (eNl 1 (eI .i64))) am.2)) (r := eNl 1 (eI .i64) am.1) (xl := []) (xr := [zO m_, (eI .i64) j8, (eI .i64) fe, (eI .i64) n_]) rfl rfl (fun v => qA (H := zd 0) v _ _ _ _ _ _ h5) 38).or ((za8 zo 32 57 1 (ca.map (eI .i64)) true (!ca.isEmpty) (by kernel_rfl) (nlB true (eI .i64) ca)).or X0)))) .normal (xw m_ n_ ai am.2 (ir ++ [(zT.mk j8 fe am.1 false)])) (Z2 ++ [c3, Hq (dM (zG (eI .i64) (eI .i64) (eNl 1 (eI .i64)) eB) [(zT.mk j8 fe am.1 false)]), Hn (dM (zG (eI .i64) (eI .i64) (eNl 1 (eI .i64)) eB) [(zT.mk j8 fe am.1 false)]), Hn (aL (zG (eI .i64) (eI .i64) (eNl 1 (eI .i64)) eB) (zG (eI .i64) (eI .i64) (eNl 1 (eI .i64)) eB) g0), Hl (aM (zG (eI .i64) (eI .i64) (eNl 1 (eI .i64)) eB) ir [(zT.mk j8 fe am.1 false)])]) fun st0 h0 => ⟨rfl, _, h0, LeL.refl _⟩
       ·obtain rfl := yY c3.2
        exact yF (H := zx ((za8 zo 40 57 1 (am.1.map (eI .i64)) true (!am.1.isEmpty) (by kernel_rfl) (nlB true (eI .i64) am.1)).or ((z3C (P := Tryz.prog) wp 3 0 (fa := .fn 170 []) (z := .box (yp 64 (yp 64 (eNl 1 (eI .i64))) jj)) (z' := .box (yp 64 (yp 64 (eNl 1 (eI .i64))) am.2)) (r := eNl 1 (eI .i64) am.1) (xl := []) (xr := [zO m_, (eI .i64) j8, (eI .i64) fe, (eI .i64) n_]) rfl rfl (fun v => qA (H := zd 0) v _ _ _ _ _ _ h5) 38).or ((za8 zo 32 57 1 (ca.map (eI .i64)) true (!ca.isEmpty) (by kernel_rfl) (nlB true (eI .i64) ca)).or X0)))) .normal (xw m_ n_ ai am.2 ir) (Z2 ++ [c3]) fun st0 h0 => ⟨rfl, _, h0, LeL.refl _⟩
     ·rcases t6 with ⟨jj, ir⟩ | z
      ·dsimp only at ae
       exact uF (by kernel_rfl) (cx _ [(1, .own (.box (zO m_))), (3, .own (.box (.box (yp 64 (yp 64 (eNl 1 (eI .i64))) jj)))), (4, .own (.box (I n_))), (5, .own (.box (eOs 4 false (zG (eI .i64) (eI .i64) (eNl 1 (eI .i64)) eB) ir)))] (jj, ir) ae (show Own.canon [1,3,4,5] _ = ofL _ by kernel_rfl) inferInstance)
      ·cases z
  ·obtain rfl := yY c0.2
   obtain rfl := hl1
   exact yB au ng aa (Z0 ++ [c0])
def l75 : List y6 := Jp 146 zO (eI .i64) (eI .i64) (eT3 F3_ eB (eI .i64)) qH :: l74
theorem Vf [H : HS X0 l74] : OkH l75 := yS3 false Tryz.func146 fun m_ s_ t_ r0 aa E hE => by
 obtain ⟨r_, h0, aa⟩ := zt aa
 let Z0 : List HO := [zg 3, Hm (shM (eI .i64) (eI .i64) ([s_, t_])), Hs (zf2 3 h0 (loC zO m_ <| loC F3_ [s_, t_] <| loN))]
 obtain c0 | c0 := zy aa
 ·cases c0.2
  exact yE hE (Z0 ++ [c0, Hm (shM (eI .i64) (eI .i64) [])])
 ·obtain ⟨ai, h1, cell, h2, ca, h3, am, h4, az, h5, aa⟩ := z3x c0.2
  cases aa
  exact yE (H := zx ((xLs zo 26 (eNl 1 (eI .i64) ca) (eSl 1 false (eI .i64) ca) inferInstance).or X0)) hE (Z0 ++ [c0, zC1 0 h1, Hn (⟨Xa (by kernel_rfl) ai (i0 h2), (iL (yp 64 (eNl 1 (eI .i64))) h2).2⟩ : vR wp 238 ((ai.l).map (yp 64 (eNl 1 (eI .i64)))) s_ = true ∧ s_.toNat < ((ai.l).map (yp 64 (eNl 1 (eI .i64)))).length), Hh (.op 4), Hh (.f), Hs (iM (yp 64 (eNl 1 (eI .i64))) h2), Hn (⟨Xa (by kernel_rfl) cell (i0 h3), (iL (eNl 1 (eI .i64)) h3).2⟩ : vR wp 223 ((cell.l).map (eNl 1 (eI .i64))) t_ = true ∧ t_.toNat < ((cell.l).map (eNl 1 (eI .i64))).length), Hh (.op 0), Hh (.f), Hs (iM (yp 64 (eNl 1 (eI .i64))) h2), Hh (.f), Hs (iM (eNl 1 (eI .i64)) h3), Hn (rfl : T.d (eNl 1 (eI .i64) ca) = T.d (eNl 1 (eI .i64) ca)), zC1 23 h4, zg 22, Hm (shM (eI .i64) (eI .i64) am), Hs (zf1 22 h5 (loC F5_ am <| loN)), Hm (shM (eI .i64) (eI .i64) am), Ha (lnM (eI .i64) az)])
def l76 : List y6 := uV 119 zO (z9Z 120) (eT2 XV (eI .i64)) Up :: l75
abbrev V9 (m_ : z6) (x5 : Int) (out : List (List Int)) : List (Nat × T) := [(2, .own (.box (zO m_))), (4, .own (.box (eOs 1 true F5_ []))), (5, .own (.box (I x5))), (6, .own (.box (eOs 1 false F3_ out)))]
abbrev xI (m_ : z6) (ai : Int) (fg : Int) (aj : List (List Int)) : List (Nat × T) := [(2, .own (.box (zO m_))), (3, .own (.box (.fn 120 []))), (4, .own (.box (eOs 1 true F5_ []))), (5, .own (.box (I fg))), (6, .own (.box (eOs 1 false F3_ aj))), (15, .d (.fn 161 [.sptr (I ai)]))]
theorem JD [H : HS X0 l75] : OkH l76 := yS2 false Tryz.func119 fun m_ is r0 aa E hE => by
 refine yJ 111 [] [2,4,5,6] (fun z : Int × List (List Int) => qY m_ z.1 z.2 = some r0) (fun z => V9 m_ z.1 z.2) [(2, .own (.box (zO m_))), (3, .own (.box (.fn 120 []))), (4, .own (.box (eOs 1 true F5_ []))), (5, .own (.box (I 0))), (6, .own (.box (eOs 1 true F5_ [])))] [Hh (.cut 2)] ?_ fun J1 au => ?_
 ·rintro ⟨x5, out⟩ aa
  unfold qY at aa
  obtain ⟨r_, h0, aa⟩ := zt aa
  obtain rfl := yY aa
  exact yE hE [zg 16, Hm (shM F3_ F3_ out), Hs (zf2 16 h0 (loC (eSl 1 false F3_) out <| loC (eI .i64) m_.Inputs <| loN)), Hm (shM F3_ F3_ out)]
 ·obtain ⟨ai, h1, t2, ht2, aa⟩ := ye aa
  refine yAt (sub [1,1,2,1,0] (zbd Tryz.f119)) (frs [1,1,2,1,0] [J1] (zbd Tryz.f119) []) [(2, .own (.box (zO m_))), (3, .own (.box (.fn 120 []))), (4, .own (.box (eOs 1 true F5_ []))), (5, .own (.box (I 0))), (6, .own (.box (eOs 1 true F3_ []))), (15, .d (.fn 161 [.sptr (I ai)]))] [Ha (lnM yj m_.Rows), zC1 7 h1] fun st0 h0 => ?_
  refine VV (g := .tmp 15) (ps := [16,17]) (assign := (sub [1,1,2,1,0,0] (zbd Tryz.f119))) (body := (sub [1,1,2,1,0,1] (zbd Tryz.f119))) (K := 161) (caps := [.sptr (I ai)]) (by kernel_rfl) [2,3,4,5,6,15] (fun s => xI m_ ai s.1 s.2) (fun s => xI m_ ai s.1 s.2) (fun s => Code.ret) ((fun (x : Int × Int) (_ : Bool) (_ : Value) => [(eI .i64) x.1, (eI .i64) x.2])) (F := @wV ai) (fun s x => vO m_ s.1 s.2 x.1 x.2) (0, ([] : List (List Int))) t2 _ h0 inferInstance (by kernel_rfl) (by decide) (fun _ => rfl) (fun _ => rfl) (by kernel_rfl) (fun _ _ _ => rfl) (ZS (H := zd 7) ai) ht2 ?_ ?_
  ·rintro qu ⟨fg, aj⟩ ⟨ep, ba⟩ vr aw ae
   replace ae : vO m_ fg aj ep ba = some aw := ae
   unfold vO at ae
   refine yF .normal [(2, .own (.box (zO m_))), (3, .own (.box (.fn 120 []))), (4, .own (.box (eOs 1 true F5_ []))), (5, .own (.box (I fg))), (6, .own (.box (eOs 1 false F3_ aj))), (7, .d (I ep)), (8, .d (I ba)), (15, .d (.fn 161 [.sptr (I ai)]))] [] fun st0 h0 => ⟨rfl, JR h0 ?_⟩
   obtain ⟨am, h2, ae⟩ := zt ae
   let Z0 : List HO := [zC2 6 h2]
   obtain c0 | c0 := zy ae
   ·obtain rfl := yY c0.2
    exact yF .normal (xI m_ ai fg aj) (Z0 ++ [c0]) fun st0 h0 => ⟨rfl, _, h0, LeL.refl _⟩
   ·obtain ⟨az, h3, ae⟩ := zt c0.2
    let Z1 : List HO := (Z0 ++ [c0, zC3 0 h3])
    obtain c1 | c1 := zy ae
    ·obtain rfl := yY c1.2
     exact yF .ret (xI m_ ai az.2.2 aj) (Z1 ++ [c1]) fun st0 h0 => ⟨rfl, _, h0, LeL.refl _⟩
    ·obtain ⟨g0, ae⟩ := gdE c1.2
     obtain rfl := yY ae
     exact yF .normal (xI m_ ai fg (aj ++ [az.1])) (Z1 ++ [c1, Hq (dM F3_ [az.1]), Hn (dM F3_ [az.1]), Hn (aL F3_ F3_ g0), Hl (aM F3_ aj [az.1])]) fun st0 h0 => ⟨rfl, _, h0, LeL.refl _⟩
  ·rcases t2 with ⟨fg, aj⟩ | z
   ·dsimp only at aa
    exact uF (by kernel_rfl) (au _ [(2, .own (.box (zO m_))), (4, .own (.box (eOs 1 true F5_ []))), (5, .own (.box (I fg))), (6, .own (.box (eOs 1 false F3_ aj)))] (fg, aj) aa (show Own.canon [2,4,5,6] _ = ofL _ by kernel_rfl) inferInstance)
   ·obtain ⟨fg, aj⟩ := z
    dsimp only at aa
    show AWP _ _ (Code.ret) _ _
    obtain rfl := yY aa
    exact yE hE [Hm (shM F5_ F5_ [])]
def l77 : List y6 := kA 89 zO (eT2 XV (eI .i64)) Kb :: l76
theorem z0x [H : HS X0 l76] : OkH l77 := yS1 false Tryz.func89 fun m_ r0 aa E hE => by
 obtain ⟨r_, h0, aa⟩ := zt aa
 let Z0 : List HO := [zC1 51 h0]
 obtain c0 | c0 := zy aa
 ·cases c0.2
  exact yE hE (Z0 ++ [c0, Hm (shM F5_ F5_ [])])
 ·obtain ⟨ai, h1, aa⟩ := zt c0.2
  cases aa
  exact yE hE (Z0 ++ [c0, zC2 0 h1])
def l78 : List y6 := uV 91 (eI .i64) (eI .i64) (eT2 XV (eI .i64)) Qk :: l77
theorem KC [H : HS X0 l77] : OkH l78 := yS2 false Tryz.func91 fun inputs k_ r0 aa E hE => by
 obtain ⟨r_, h0, aa⟩ := zt aa
 cases aa
 exact yE hE [zC3 16 h0]
def l79 : List y6 := kA 92 yS yS W4 :: l78
theorem KE [H : HS X0 l78] : OkH l79 := yS1 false Tryz.func92 fun l_ r0 aa E hE => by
 let Z0 : List HO := [Ha (lnM F5_ l_)]
 obtain c0 | c0 := zy aa
 ·cases c0.2
  exact yEl hE (Z0 ++ [c0, Hm (shM F2_ F3_ ([[]]))])
 ·cases c0.2
  exact yE hE (Z0 ++ [Hb c0])
def l80 : List y6 := Jp 122 (eI .i64) (eI .i64) (eSp (eI .i64)) eB QZ :: l79
theorem KH [H : HS X0 l79] : OkH l80 := yS3 true Tryz.func122 fun a_ b_ x2 r0 aa E hE => by
 obtain c0 | c0 := zy aa
 ·cases c0.2
  exact yE hE (rpN 4 (Hb c0) [])
 ·cases c0.2
  exact yE hE (rpN 4 (Hb c0) [])
def qI : y6 := spF (α := z6 × Int) (ρ := List (List Int) × Int) 119 (fun x => [zO x.1, (Ve 122 (eSp (eI .i64))) x.2]) (fun r => .tup [XV r.1, (eI .i64) r.2]) (fun x => uQ x.1 x.2) [] (by
 rintro ⟨a0, a1⟩ ⟨b0, b1⟩ h
 have e0 := vS.inj (f := zO) _ _ (List.cons.inj h).1
 replace h := (List.cons.inj h).2
 have e1 := vS.inj (f := (Ve 122 (eSp (eI .i64)))) _ _ (List.cons.inj h).1
 subst e0 e1
 rfl)
abbrev Yw (m_ : z6) (x5 : Int) (out : List (List Int)) : List (Nat × T) := [(2, .own (.box (zO m_))), (4, .own (.box (eOs 1 true F5_ []))), (5, .own (.box (I x5))), (6, .own (.box (eOs 1 false F3_ out)))]
abbrev yI (m_ : z6) (is : Int) (ai : Int) (fg : Int) (aj : List (List Int)) : List (Nat × T) := [(2, .own (.box (zO m_))), (3, .own (.box (.fn 122 [.sptr (I is)]))), (4, .own (.box (eOs 1 true F5_ []))), (5, .own (.box (I fg))), (6, .own (.box (eOs 1 false F3_ aj))), (15, .d (.fn 161 [.sptr (I ai)]))]
theorem WA [H : HS X0 l80] : qI.Ok Tryz.prog := by
 refine WE ?_
 rintro ⟨m_, is⟩ r0 aa
 try unfold uQ at aa
 refine zY false Tryz.func119 fun E hE => ?_
 refine yJ 111 [] [2,4,5,6] (fun z : Int × List (List Int) => vt m_ z.1 z.2 = some r0) (fun z => Yw m_ z.1 z.2) [(2, .own (.box (zO m_))), (3, .own (.box (.fn 122 [.sptr (I is)]))), (4, .own (.box (eOs 1 true F5_ []))), (5, .own (.box (I 0))), (6, .own (.box (eOs 1 true F5_ [])))] [Hh (.cut 2)] ?_ fun J1 au => ?_
 ·rintro ⟨x5, out⟩ aa
  unfold vt at aa
  obtain ⟨r_, h0, aa⟩ := zt aa
  obtain rfl := yY aa
  exact yE hE [zg 21, Hm (shM F3_ F3_ out), Hs (zf2 21 h0 (loC (eSl 1 false F3_) out <| loC (eI .i64) m_.Inputs <| loN)), Hm (shM F3_ F3_ out)]
 ·obtain ⟨ai, h1, t2, ht2, aa⟩ := ye aa
  refine yAt (sub [1,1,2,1,0] (zbd Tryz.f119)) (frs [1,1,2,1,0] [J1] (zbd Tryz.f119) []) [(2, .own (.box (zO m_))), (3, .own (.box (.fn 122 [.sptr (I is)]))), (4, .own (.box (eOs 1 true F5_ []))), (5, .own (.box (I 0))), (6, .own (.box (eOs 1 true F3_ []))), (15, .d (.fn 161 [.sptr (I ai)]))] [Ha (lnM yj m_.Rows), zC1 12 h1] fun st0 h0 => ?_
  refine VV (g := .tmp 15) (ps := [16,17]) (assign := (sub [1,1,2,1,0,0] (zbd Tryz.f119))) (body := (sub [1,1,2,1,0,1] (zbd Tryz.f119))) (K := 161) (caps := [.sptr (I ai)]) (by kernel_rfl) [2,3,4,5,6,15] (fun s => yI m_ is ai s.1 s.2) (fun s => yI m_ is ai s.1 s.2) (fun s => Code.ret) ((fun (x : Int × Int) (_ : Bool) (_ : Value) => [(eI .i64) x.1, (eI .i64) x.2])) (F := @wV ai) (fun s x => wc m_ is s.1 s.2 x.1 x.2) (0, ([] : List (List Int))) t2 _ h0 inferInstance (by kernel_rfl) (by decide) (fun _ => rfl) (fun _ => rfl) (by kernel_rfl) (fun _ _ _ => rfl) (ZS (H := zd 12) ai) ht2 ?_ ?_
  ·rintro qu ⟨fg, aj⟩ ⟨ep, ba⟩ vr aw ae
   replace ae : wc m_ is fg aj ep ba = some aw := ae
   unfold wc at ae
   refine yF .normal [(2, .own (.box (zO m_))), (3, .own (.box (.fn 122 [.sptr (I is)]))), (4, .own (.box (eOs 1 true F5_ []))), (5, .own (.box (I fg))), (6, .own (.box (eOs 1 false F3_ aj))), (7, .d (I ep)), (8, .d (I ba)), (15, .d (.fn 161 [.sptr (I ai)]))] [] fun st0 h0 => ⟨rfl, JR h0 ?_⟩
   obtain ⟨am, h2, ae⟩ := zt ae
   let Z0 : List HO := [zC3 0 h2]
   obtain c0 | c0 := zy ae
   ·obtain rfl := yY c0.2
    exact yF .normal (yI m_ is ai fg aj) (Z0 ++ [c0]) fun st0 h0 => ⟨rfl, _, h0, LeL.refl _⟩
   ·obtain ⟨az, h3, ae⟩ := zt c0.2
    let Z1 : List HO := (Z0 ++ [c0, zC3 5 h3])
    obtain c1 | c1 := zy ae
    ·obtain rfl := yY c1.2
     exact yF .ret (yI m_ is ai az.2.2 aj) (Z1 ++ [c1]) fun st0 h0 => ⟨rfl, _, h0, LeL.refl _⟩
    ·obtain ⟨g0, ae⟩ := gdE c1.2
     obtain rfl := yY ae
     exact yF .normal (yI m_ is ai fg (aj ++ [az.1])) (Z1 ++ [c1, Hq (dM F3_ [az.1]), Hn (dM F3_ [az.1]), Hn (aL F3_ F3_ g0), Hl (aM F3_ aj [az.1])]) fun st0 h0 => ⟨rfl, _, h0, LeL.refl _⟩
  ·rcases t2 with ⟨fg, aj⟩ | z
   ·dsimp only at aa
    exact uF (by kernel_rfl) (au _ [(2, .own (.box (zO m_))), (4, .own (.box (eOs 1 true F5_ []))), (5, .own (.box (I fg))), (6, .own (.box (eOs 1 false F3_ aj)))] (fg, aj) aa (show Own.canon [2,4,5,6] _ = ofL _ by kernel_rfl) inferInstance)
   ·obtain ⟨fg, aj⟩ := z
    dsimp only at aa
    show AWP _ _ (Code.ret) _ _
    obtain rfl := yY aa
    exact yE hE [Hm (shM F5_ F5_ [])]
def l81 : List y6 := uV 93 zO (eI .i64) (eT2 XV (eI .i64)) z1n :: l80
theorem z1N [H : HS X0 l80] : OkH l81 := yS2 false Tryz.func93 fun m_ s_ r0 aa E hE => by
 obtain ⟨r_, h0, aa⟩ := zt aa
 let Z0 : List HO := [zC1 55 h0]
 obtain c0 | c0 := zy aa
 ·cases c0.2
  exact yE hE (Z0 ++ [c0, Hm (shM F5_ F5_ [])])
 ·obtain c1 | c1 := zy c0.2
  ·cases c1.2
   exact yE hE (Z0 ++ (Hb c0 :: (rpN 6 (Hb c1) [qT, Hm (shM F5_ F5_ [])])))
  ·let Z1 : List HO := (Z0 ++ (Hb c0 :: (rpN 4 (Hb c1) [Ha (lnM yj m_.Rows), c1, c1])))
   obtain c2 | c2 := zy c1.2
   ·cases c2.2
    exact yE hE (Z1 ++ [c2, Hm (shM F5_ F5_ [])])
   ·obtain ⟨ai, h1, aa⟩ := zt c2.2
    cases aa
    exact yE (H := zx ((Kt zo (WA (H := zd 0)) 23).or X0)) hE (Z1 ++ [c2, Hc (Ctr.add_has VT qI) (x := (m_, s_)) h1 (loC zO m_ <| loC (Ve 122 (eSp (eI .i64))) s_ <| loN)])
def l82 : List y6 := uV 61 zO (eI .i64) (eT2 (ePo Kr) (eI .i64)) XL :: l81
theorem UB [H : HS X0 l81] : OkH l82 := yS2 false Tryz.func61 fun m_ bound r0 aa E hE => by
 refine yC 111 [] [1,2,6] [Hh (.cut 2)] ?_
 refine Jk (y := .box (.agg [.agg [I m_.Inputs, I m_.Outputs, eSl 1 false yj m_.Rows], eOs 1 true F5_ [], eOs 1 true F5_ [], eOs 1 true F5_ [], eOs 1 true yS [], eOs 1 true F5_ [], eOs 1 true F5_ []])) (by kernel_rfl) 6 (by kernel_rfl) (by kernel_rfl) fun ly hv6 => ?_
 obtain ⟨r_, h0, ai, h1, am, h2, az, h3, cp, h4, aa⟩ := z3x aa
 refine yN 111111111 [] [2,6] (fun z : Unit => kG m_ r_ ai am az cp = some r0) (fun z => []) [2,6,7] [zC1 21 h0, Hn (⟨rfl, by decide⟩ : true = true ∧ 0 < 5), zC1 14 h1, Hn (⟨rfl, by decide⟩ : true = true ∧ 1 < 5), zC1 4 h2, Hn (⟨rfl, by decide⟩ : true = true ∧ 2 < 5), Ha (lnM yj m_.Rows), zC2 19 h3, Hn (⟨rfl, by decide⟩ : true = true ∧ 3 < 5), Ha (lnM yj m_.Rows), zC2 3 h4, Hn (⟨rfl, by decide⟩ : true = true ∧ 4 < 5), Hh (.cut 0)] ?_ fun J1 au => ?_
 ·rintro ⟨⟩ aa
  obtain ⟨gh, h5, aa⟩ := zt aa
  refine yK 11111111111 [] [6] (zI (kF m_ r_ ai az cp gh) r0) (fun z => [(6, .own (.box (.agg [zO m_, eSl 1 true F3_ r_.1, eSl 1 true F3_ ai.1, eSl 1 false F5_ gh, eOs 1 false yS z, eSl 1 true F3_ az.1, eSl 1 true F3_ cp.1])))]) [2,6] [Hk [] (Us (hat 2)) (zf1 2 h5 (loC XV am.1 <| loN)), Hh (.cut 0)] ?_ fun J2 ax => ?_
  ·rintro ku aa
   cases aa
   exact yEx hE [Hm (shM yS yS ku)] (.tup [.sptr (.agg [.agg [I m_.Inputs, I m_.Outputs, eSl 1 false yj m_.Rows], eSl 1 true F3_ r_.1, eSl 1 true F3_ ai.1, eSl 1 false F5_ gh, eSl 1 false yS ku, eSl 1 true F3_ az.1, eSl 1 true F3_ cp.1]), I 0]) (show LeV (.tup [.sptr (.agg [.agg [I m_.Inputs, I m_.Outputs, eSl 1 false yj m_.Rows], eSl 1 true F3_ r_.1, eSl 1 true F3_ ai.1, eSl 1 false F5_ gh, eSl 1 false yS ku, eSl 1 true F3_ az.1, eSl 1 true F3_ cp.1]), I 0]) (.tup [.dop (poQ (some (.agg [.agg [I m_.Inputs, I m_.Outputs, eSl 1 false yj m_.Rows], eSl 1 false F5_ r_.1, eSl 1 false F5_ ai.1, eSl 1 false F5_ gh, eSl 1 false yS ku, eSl 1 false F5_ az.1, eSl 1 false F5_ cp.1]))), I 0]) from inferInstance)
  ·obtain ⟨t3, ht3, aa⟩ := zt aa
   refine yMx 11111111111210 [J2] [2,6,91,92] (fun x => [(6, .own (.box (.agg [zO m_, eSl 1 true F3_ r_.1, eSl 1 true F3_ ai.1, eSl 1 false F5_ gh, eOs 1 false yS x.1, eSl 1 true F3_ az.1, eSl 1 true F3_ cp.1]))), (92, .d (I x.2))]) ht3 [(6, .own (.box (.agg [zO m_, eSl 1 true F3_ r_.1, eSl 1 true F3_ ai.1, eSl 1 false F5_ gh, eOs 1 true yS [], eSl 1 true F3_ az.1, eSl 1 true F3_ cp.1]))), (92, .d (I 0))] [Ha (lnM yj m_.Rows)] fun ⟨jg, nl⟩ m3 aw ae hl1 J3 bk => ?_
   obtain c0 | c0 := zy ae
   ·obtain ⟨iz, h6, ae⟩ := zt c0.2
    let Z0 : List HO := [Hb c0, zC2 0 h6]
    obtain c1 | c1 := zy ae
    ·cases c1.2
     cases hl1
     cases aa
     exact yEx hE (Z0 ++ [c1]) (.tup [.atom (.pointer none), I iz.2]) (show LeV (.tup [.atom (.pointer none), I iz.2]) (.tup [.dop (poQ none), I iz.2]) from inferInstance)
    ·obtain ⟨jk, h7, ae⟩ := zt c1.2
     obtain ⟨g0, ae⟩ := gdE ae
     cases ae
     exact yB (H := zx ((xNc Tryz.prog 113 6 ly).or ((xMv Tryz.prog 104 6 ly hv6).or X0))) bk _ hl1 (Z0 ++ [Hb c1, Hn (rfl : some ly = some ly), Hk [] (Us (hat 2)) (zf1 2 h7 (loC XV iz.1 <| loN)), Hq (dM yS [jk]), Hn (dM yS [jk]), Hn (aL yS yS g0), Hl (aM yS jg [jk]), Hn (⟨rfl, rfl⟩ : T.d (.atom ly) = T.d (.atom ly) ∧ some ly = some ly)])
   ·cases c0.2
    cases hl1
    exact yB ax jg aa [Hb c0]
 ·obtain c2 | c2 := zy aa
  ·cases c2.2
   exact yEx hE [Hh (.u 70), qT, c2] (.tup [.atom (.pointer none), I r_.2]) (show LeV (.tup [.atom (.pointer none), I r_.2]) (.tup [.dop (poQ none), I r_.2]) from inferInstance)
  ·let Z1 : List HO := [Hh (.u 70), qT, Hb c2, qT]
   obtain c3 | c3 := zy c2.2
   ·cases c3.2
    exact yEx hE (Z1 ++ [c3]) (.tup [.atom (.pointer none), I ai.2]) (show LeV (.tup [.atom (.pointer none), I ai.2]) (.tup [.dop (poQ none), I ai.2]) from inferInstance)
   ·obtain c4 | c4 := zy c3.2
    ·cases c4.2
     exact yEx hE (Z1 ++ [c3, qT, c4]) (.tup [.atom (.pointer none), I am.2]) (show LeV (.tup [.atom (.pointer none), I am.2]) (.tup [.dop (poQ none), I am.2]) from inferInstance)
    ·obtain c5 | c5 := zy c4.2
     ·cases c5.2
      exact yEx hE (Z1 ++ [c3, qT, c4, qT, c5]) (.tup [.atom (.pointer none), I az.2]) (show LeV (.tup [.atom (.pointer none), I az.2]) (.tup [.dop (poQ none), I az.2]) from inferInstance)
     ·let Z2 : List HO := (Z1 ++ [Hb c3, qT, Hb c4, qT, Hb c5, qT])
      obtain c6 | c6 := zy c5.2
      ·cases c6.2
       exact yEx hE (Z2 ++ [c6]) (.tup [.atom (.pointer none), I cp.2]) (show LeV (.tup [.atom (.pointer none), I cp.2]) (.tup [.dop (poQ none), I cp.2]) from inferInstance)
      ·exact yB au () c6.2 (Z2 ++ [Hb c6, qF])
theorem yw [H : HS X0 l82] (ct : Value) : ∀ (parts : List (List Int)) (b_ : zk) (r0 : zk × Bool), wO parts b_ = some r0 → z2l Tryz.prog 191 [.atom ct, eSl 1 false F5_ parts] ([ct].zip [.box (.agg [eOs 16 false F1_ b_.nodes_, I b_.leaves_, I b_.most_])]) r0.2 (.iface 137 (.agg #[])) (.tup []) [.box (.agg [eOs 16 false F1_ r0.1.nodes_, I r0.1.leaves_, I r0.1.most_])] := by
 intro parts b_ r0 aa
 refine z09 (tt := wp) (nt := Tryz.f191.ntmps) (body := zbd Tryz.f191) [0] zo Tryz.func191 rfl (by kernel_rfl) rfl rfl (by show (2 : Nat) ≤ 105; decide) (by decide) rfl rfl rfl (fun E hE hD => ?_)
 refine yK 111 [] [0] (fun z : List (zD Int) × Int => kI b_ z.1 z.2 = some r0) (fun z => [(0, .own (.box (.agg [eOs 16 false F1_ z.1, I z.2, I b_.most_])))]) [0,1,4,5] [Hh (.cut 2)] ?_ fun J1 au => ?_
 ·rintro ⟨cn, bu⟩ aa
  obtain c0 | c0 := zy aa
  ·refine yC 111110 [] [0] [c0, Hh (.stp 0)] ?_
   cases c0.2
   exact yP (H := zx ((zec Tryz.prog 104 137 Tryz.underlying137).or X0)) 2 [] fun st0 => hD rfl st0
  ·cases c0.2
   exact yF .normal [(0, .own (.box (.agg [eOs 16 false F1_ cn, I bu, I b_.most_])))] [c0] fun st0 h0 => hE rfl _ st0 (.inl rfl) (ui h0 ⟨⟨rfl, rfl⟩, trivial⟩)
 ·refine yMb 111210 [J1] [0,4,5,11,12,13] (fun x => [(0, .own (.box (.agg [eOs 16 false F1_ x.1, I x.2.1, I b_.most_]))), (4, .d (.atom (.int .i32 x.2.2.1))), (5, .d (B x.2.2.2.1)), (13, .d (I x.2.2.2.2))]) aa  [Ha (lnM F5_ parts)] fun t2 aa ⟨cg, bq, at_, m0, em⟩ m2 aw ae hl1 J2 ax => ?_
  obtain c1 | c1 := zy ae
  ·refine yNs 111210011 [J1, J2] [0,4,5,11,12,13] (fun z : List (zD Int) × Int × Int × Bool => kH em z.1 z.2.1 z.2.2.1 z.2.2.2 = some aw) (fun z => [(0, .own (.box (.agg [eOs 16 false F1_ z.1, I z.2.1, I b_.most_]))), (4, .d (.atom (.int .i32 z.2.2.1))), (5, .d (B z.2.2.2))]) [c1, Hh (.cut 0)] ?_ fun J3 bk => ?_
   ·rintro ⟨cd, bo, pa, mq⟩ ae
    cases ae
    exact yB ax _ hl1 []
   ·obtain ⟨eb, h0, t4, ht4, ae⟩ := ye c1.2
    refine yM 11121001120110 [J1, J2, J3] [0,4,5,11,12,13,17,18,19] (fun x => [(0, .own (.box (.agg [eOs 16 false F1_ x.1, I x.2.1, I b_.most_]))), (4, .d (.atom (.int .i32 x.2.2.1))), (5, .d (B x.2.2.2.1)), (19, .d (I x.2.2.2.2))]) ht4  [Hi F5_ h0, Ha (lnM (eI .i64) eb)] fun ⟨ap, bc, ff, jl, gc⟩ m4 dc ah hl2 J4 cx => ?_
    obtain c2 | c2 := zy ah
    ·obtain ⟨da, h1, me, h2, cell, h3, ah⟩ := jG c2.2
     refine yN 111210011201100110011 [J1, J2, J3, J4] [0,5,10,11,12,13,17,18,19] (fun z : List (zD Int) × Int × Bool × Int => ue gc z.1 z.2.1 z.2.2.1 z.2.2.2 = some dc) (fun z => [(0, .own (.box (.agg [eOs 16 false F1_ z.1, I z.2.1, I b_.most_]))), (5, .d (B z.2.2.1)), (10, .d (.atom (.int .i32 z.2.2.2)))]) [0,4,5,9,10,11,12,13,17,18,19] [c2, Hi (eI .i64) h1, Hn (iL F1_ h2), Hs (iM F1_ h2), Hn (⟨arJ (by kernel_rfl) (i0 h3), (iL (eI .i32) h3).2⟩ : vR wp 147 ((zD.toL me).map (eI .i32)) da = true ∧ da.toNat < ((zD.toL me).map (eI .i32)).length), Hh (.op 0), Hh (.f), Hx (.a (eOs 16 false F1_ ap)) (rfl : some (eOs 16 false F1_ ap : A) = some (eOs 16 false F1_ ap)), Hs (iM F1_ h2), Hh (.f), Hs (iM (eI .i32) h3), Hh (.cut 0)] ?_ fun J5 dh => ?_
     ·rintro ⟨ce, bp, mr, next⟩ ah
      cases ah
      exact yB cx _ hl2 []
     ·obtain c3 | c3 := zy ah
      ·refine yN 1112100112011001100112101 [J1, J2, J3, J4, J5] [0,4,9,10,11,12,13,17,18,19] (zI (yO ap ff gc da) dc) (fun z => [(0, .own (.box (.agg [eOs 16 false F1_ ap, I z, I b_.most_])))]) [0,4,5,9,10,11,12,13,17,18,19] [c3, Ha (lnM F1_ ap), Hh (.cut 0)] ?_ fun J6 fz => ?_
       ·rintro dr ah
        obtain ⟨jx, h4, ca, h5, arr, h6, ah⟩ := jG ah
        replace h6 := yY h6
        obtain ⟨g0, ah⟩ := gdE ah
        exact yB dh (((ap.set ff.toNat arr) ++ ([(zD.mk 0 0 0 0 0 0 0 0 0 0 0 0 0 0 0 0)] : List (zD Int))), dr, true, IntKind.i32.wrap (((ap.length : Nat) : Int))) ah [Hn (iL F1_ h4), Hs (iM F1_ h4), Hn (⟨arJ (by kernel_rfl) (i0 h5), (iL (eI .i32) h5).2⟩ : vR wp 147 ((zD.toL jx).map (eI .i32)) da = true ∧ da.toNat < ((zD.toL jx).map (eI .i32)).length), Hh (.op 0), Hh (.f), Hx (.a (eOs 16 false F1_ ap)) (rfl : some (eOs 16 false F1_ ap : A) = some (eOs 16 false F1_ ap)), Hs (iM F1_ h4), Hh (.f), Hs (iM (eI .i32) h5), Hh (.f), Hx (.a (eOs 16 false F1_ ap)) (rfl : some (eOs 16 false F1_ ap : A) = some (eOs 16 false F1_ ap)), Hs (iM F1_ h4), Hh (.f), Hs (iM (eI .i32) h5), Hx (.l ((zD.toL arr).map (eI .i32))) ((zD.setL (eI .i32) jx da (IntKind.i32.wrap (((ap.length : Nat) : Int)))).trans (congrArg (fun q => (zD.toL q).map (eI .i32)) h6)), Hl (sM F1_ ap ff arr), Hx (.l [eOs 16 false F1_ (ap.set ff.toNat arr), I dr, I b_.most_]) (rfl : ([eOs 16 false F1_ (ap.set ff.toNat arr), I dr, I b_.most_] : List A) = [eOs 16 false F1_ (ap.set ff.toNat arr), I dr, I b_.most_]), Hq (dM F1_ ([(zD.mk 0 0 0 0 0 0 0 0 0 0 0 0 0 0 0 0)] : List (zD Int))), Hn (dM F1_ ([(zD.mk 0 0 0 0 0 0 0 0 0 0 0 0 0 0 0 0)] : List (zD Int))), Hn (aL F1_ F1_ g0), Hl (aM F1_ (ap.set ff.toNat arr) ([(zD.mk 0 0 0 0 0 0 0 0 0 0 0 0 0 0 0 0)] : List (zD Int)))]
       ·obtain c4 | c4 := zy c3.2
        ·obtain c5 | c5 := zy c4.2
         ·let Z0 : List HO := (Hb c4 :: Hb c4 :: Hb c4 :: (rpN 5 (Hb c5) [Ha (lnM F1_ ap), c5, c4, c5, c4]))
          obtain c6 | c6 := zy c5.2
          ·exact yB fz (w64 (bc + 1)) c6.2 (Z0 ++ (rpN 9 (Hb c6) [c4, c6, c4, qT]))
          ·obtain ⟨dt, h7, ah⟩ := zt c6.2
           let Z1 : List HO := (Z0 ++ (rpN 6 (Hb c6) [Hn (iL F1_ h7), c6, Hs (iM F1_ h7), c6, c6, c4, c6, c4]))
           obtain c7 | c7 := zy ah
           ·exact yB fz (w64 (bc + 1)) c7.2 (Z1 ++ [c7])
           ·exact yB fz bc c7.2 (Z1 ++ [c7])
         ·obtain ⟨du, h8, ah⟩ := zt c5.2
          let Z2 : List HO := (Hb c4 :: Hb c4 :: Hb c4 :: (rpN 6 (Hb c5) (Hb c4 :: Hb c5 :: Hb c4 :: (rpN 6 qF [Hn (iL F1_ h8), qF, Hs (iM F1_ h8), qF, qF, c4, qF, c4]))))
          obtain c8 | c8 := zy ah
          ·exact yB fz (w64 (bc + 1)) c8.2 (Z2 ++ [c8])
          ·exact yB fz bc c8.2 (Z2 ++ [c8])
        ·exact yB fz bc c4.2 (rpN 7 (Hb c4) [qF])
      ·exact yB dh (ap, bc, jl, cell) c3.2 [c3]
    ·cases c2.2
     cases hl2
     exact yB bk (ap, bc, ff, jl) ae [c2]
  ·cases c1.2
   cases hl1
   exact yB au (cg, bq) aa [c1]
theorem Xp [H : HS X0 l82] (ct : Value) : ∀ (x0 : Xc) (x_ : zu) (b_ : zk) (r0 : zk × Bool), jJ x0 x_ b_ = some r0 → z2l Tryz.prog 190 [.agg [], .sptr (.agg [.agg [I x_.m_.Inputs, I x_.m_.Outputs, eSl 1 false yj x_.m_.Rows], eSl 1 false F5_ x_.q_, eSl 1 false F5_ x_.p_, eSl 1 false F5_ x_.all_, eSl 1 false yS x_.each_, eSl 1 false F5_ x_.short_, eSl 1 false F5_ x_.exact_]), .atom ct] ([ct].zip [.box (.agg [eOs 16 false F1_ b_.nodes_, I b_.leaves_, I b_.most_])]) r0.2 (.iface 137 (.agg #[])) (.tup []) [.box (.agg [eOs 16 false F1_ r0.1.nodes_, I r0.1.leaves_, I r0.1.most_])] := by
 intro x0 x_ b_ r0 aa
 refine z09 (tt := wp) (nt := Tryz.f190.ntmps) (body := zbd Tryz.f190) [2] zo Tryz.func190 rfl (by kernel_rfl) rfl rfl (by show (3 : Nat) ≤ 48; decide) (by decide) rfl rfl rfl (fun E hE hD => ?_)
 refine yMb 1110 [] [1,2,15,16,17] (fun x => [(2, .own (.box (.agg [eOs 16 false F1_ x.1, I x.2.1, I x.2.2.1]))), (17, .d (I x.2.2.2))]) aa  [Ha (lnM F5_ x_.p_)] fun t1 aa ⟨cn, bu, ee, ba⟩ m1 aw ae hl1 J1 au => ?_
 obtain c0 | c0 := zy ae
 ·refine yNs 1110011 [J1] [1,2,15,16,17] (fun z : List (zD Int) × Int × Int => uv ba z.1 z.2.1 z.2.2 = some aw) (fun z => [(2, .own (.box (.agg [eOs 16 false F1_ z.1, I z.2.1, I z.2.2])))]) [c0, Hh (.cut 0)] ?_ fun J2 ax => ?_
  ·rintro ⟨cg, bq, d0⟩ ae
   cases ae
   exact yB au _ hl1 []
  ·obtain ⟨bg, h0, t3, ht3, ae⟩ := ye c0.2
   refine yM 111001120110 [J1, J2] [1,2,7,15,16,17,24,25,26] (fun x => [(2, .own (.box (.agg [eOs 16 false F1_ x.1, I x.2.1, I x.2.2.1]))), (26, .d (I x.2.2.2))]) ht3  [Hi F5_ h0, Ha (lnM F5_ x_.short_)] fun ⟨cd, bo, dm, fy⟩ m3 dc ah hl2 J3 bk => ?_
   obtain c1 | c1 := zy ah
   ·refine yNs 111001120110011 [J1, J2, J3] [1,2,7,15,16,17,24,25,26] (fun z : List (zD Int) × Int × Int => uu fy z.1 z.2.1 z.2.2 = some dc) (fun z => [(2, .own (.box (.agg [eOs 16 false F1_ z.1, I z.2.1, I z.2.2])))]) [c1, Hh (.cut 0)] ?_ fun J4 cx => ?_
    ·rintro ⟨ap, bc, d8⟩ ah
     cases ah
     exact yB bk _ hl2 []
    ·obtain ⟨a7, h1, t5, ht5, ah⟩ := ye c1.2
     refine yM 11100112011001120110 [J1, J2, J3, J4] [1,2,7,9,15,16,17,24,25,26,33,34,35] (fun x => [(2, .own (.box (.agg [eOs 16 false F1_ x.1, I x.2.1, I x.2.2.1]))), (35, .d (I x.2.2.2))]) ht5  [Hi F5_ h1, Ha (lnM F5_ x_.all_)] fun ⟨ce, bp, dj, gk⟩ m5 oa a8 hl3 J5 dh => ?_
     obtain c2 | c2 := zy a8
     ·obtain ⟨ez, h2, a8⟩ := zt c2.2
      refine yC 11100112011001120110011001 [J1, J2, J3, J4, J5] [1,2,7,9,11,15,16,17,24,25,26,33,34,35] [c2, Hi F5_ h2, Hh (.stp 0)] ?_
      obtain ⟨r_, h3, a8⟩ := zt a8
      obtain c3 | c3 := zy a8
      ·cases c3.2
       cases hl3
       cases ah
       cases hl2
       cases ae
       cases hl1
       cases aa
       exact yD 5 [2] ((yw (H := zd 0) ct _ _ _ h3).2 c3.1) [.atom ct, z0s [bg, a7, ez]] inferInstance [Hm (shM F5_ F5_ ([bg, a7, ez]))] fun st0 => hD rfl st0
      ·cases c3.2
       exact yB (H := zx ((Jt (P := Tryz.prog) wp [2] ((yw (H := zd 0) ct _ _ _ h3).1 c3.1) 44).or X0)) dh _ hl3 [Hm (shM F5_ F5_ ([bg, a7, ez])), Hn (Zp (f := .fn 191 []) (xs := [.atom ct, yS [bg, a7, ez]]) (ls := [(ct, .box (.agg [eOs 16 false F1_ ce, I bp, I dj]))]) (r := .tup []) (ys := [.box (.agg [eOs 16 false F1_ r_.1.nodes_, I r_.1.leaves_, I r_.1.most_])]) [.atom ct, z0s [bg, a7, ez]] (show Yy [.atom ct, z0s [bg, a7, ez]] [.atom ct, yS [bg, a7, ez]] from inferInstance))]
     ·cases c2.2
      cases hl3
      exact yB cx (ce, bp, dj) ah [c2]
   ·cases c1.2
    cases hl2
    exact yB ax (cd, bo, dm) ae [c1]
 ·cases c0.2
  cases hl1
  cases aa
  exact yF .normal [(2, .own (.box (.agg [eOs 16 false F1_ cn, I bu, I ee])))] [c0] fun st0 h0 => hE rfl _ st0 (.inl rfl) (ui h0 ⟨⟨rfl, rfl⟩, trivial⟩)
def l83 : List y6 := Jp 200 yS F5_ (z9Z 67) (eT2 (eI .i64) eB) xp :: l82
theorem wE [H : HS X0 l82] : OkH l83 := yS3 false Tryz.func200 fun x_ target cmp r0 aa E hE => by
 refine yN 1111 [] [0,1,2,8,9] (zI (yU x_ target) r0) (fun z => [(9, .d (I z))]) [0,1,2,8,9,10] [Ha (lnM F5_ x_), Hh (.cut 1)] ?_ fun J1 au => ?_
 ·rintro i_ aa
  obtain c0 | c0 := zy aa
  ·obtain ⟨mc, h0, r_, h1, aa⟩ := ye c0.2
   cases aa
   exact yE hE (rpN 4 (Hb c0) [Hi F5_ h0, c0, c0, c0, zC2 44 h1, c0, c0])
  ·cases c0.2
   exact yE hE (rpN 9 (Hb c0) [])
 ·refine yMb 111120 [J1] [0,1,2,8,9,10] (fun x => [(9, .d (I x.1)), (10, .d (I x.2))]) aa  [] fun t2 aa ⟨fw, j_⟩ m2 aw ae hl1 J2 ax => ?_
  obtain c1 | c1 := zy ae
  ·obtain ⟨lp, h2, ai, h3, ae⟩ := ye c1.2
   let Z0 : List HO := [c1, Hi F5_ h2, zC2 44 h3]
   obtain c2 | c2 := zy ae
   ·cases c2.2
    exact yB (H := zx ((zea Tryz.prog).or X0)) ax _ hl1 (Z0 ++ [c2])
   ·cases c2.2
    exact yB (H := zx ((zea Tryz.prog).or X0)) ax _ hl1 (Z0 ++ [c2])
  ·cases c1.2
   cases hl1
   exact yB au fw aa [c1]
def l84 : List y6 := uV 197 yS F5_ eB z2p :: l83
theorem z3g [H : HS X0 l83] : OkH l84 := yS2 true Tryz.func197 fun l_ w_ r0 aa E hE => by
 obtain ⟨r_, h0, aa⟩ := zt aa
 cases aa
 exact yE hE [zC3 0 h0]
def l85 : List y6 := uV 196 F5_ zcF eB Zn :: l84
theorem Q6 [H : HS X0 l84] : OkH l85 := yS2 true Tryz.func196 fun w_ x1 r0 aa E hE => by
 obtain ⟨r_, h0, aa⟩ := zt aa
 cases aa
 exact yE hE [zC2 0 h0]
def l86 : List y6 := uV 199 yS (Ve 196 zcF) (eI .i64) wQ :: l85
theorem qB [H : HS X0 l85] : OkH l86 := yS2 true Tryz.func199 fun s_ f_ r0 aa E hE => by
 refine yK 11 [] [] (fun z : Unit => wl = some r0) (fun z => []) [0,1] [Hh (.cut 1)] ?_ fun J1 au => ?_
 ·rintro ⟨⟩ aa
  cases aa
  exact yE hE []
 ·refine yMb 11210 [J1] [0,1,7,8] (fun x => [(8, .d (I x))]) aa  [Ha (lnM F5_ s_)] fun t2 aa x8 m2 aw ae hl1 J2 ax => ?_
  obtain c0 | c0 := zy ae
  ·obtain ⟨d9, h0, r_, h1, ae⟩ := ye c0.2
   let Z0 : List HO := [c0, Hi F5_ h0, zC2 0 h1]
   obtain c1 | c1 := zy ae
   ·cases c1.2
    cases hl1
    cases aa
    exact yE hE (Z0 ++ [c1])
   ·cases c1.2
    exact yB ax _ hl1 (Z0 ++ [c1])
  ·cases c0.2
   cases hl1
   exact yB au () aa [c0]
def l87 : List y6 := uV 195 z9O (Ve 196 zcF) z9O wJ [true, false] :: l86
def wo : XH Tryz.prog := ((zcJ zo 41).or X0)
theorem uY [H : HS wo l86] : OkH l87 := yS2 true Tryz.func195 fun s_ kc r0 aa E hE => by
 refine Jk (y := eOs 1 false F5_ s_) rfl 0 (by kernel_rfl) (by kernel_rfl) fun bn hv0 => ?_
 obtain ⟨r_, h0, aa⟩ := zt aa
 let Z0 : List HO := [zg 0, Hm (shM F5_ F5_ s_), Hs (zf2 0 h0 (loC yS s_ <| loC (Ve 196 zcF) kc <| loN))]
 obtain c0 | c0 := zy aa
 ·cases c0.2
  exact yE hE (Z0 ++ [c0])
 ·refine yK 1111 [] [0,5] (fun z : List (List Int) × Int => we z.1 z.2 = some r0) (fun z => [(0, .own (eOs 1 false F5_ z.1)), (5, .d (I z.2))]) [0,1,5] (Z0 ++ [c0, Hh (.cut 0)]) ?_ fun J1 au => ?_
  ·rintro ⟨bf, i_⟩ aa
   obtain ⟨g0, aa⟩ := gdE aa
   obtain ⟨g1, aa⟩ := gdE aa
   obtain ⟨g2, aa⟩ := gdE aa
   cases aa
   exact yE (H := zx ((xVc zo 38 1 0 bn i_).or ((xVw zo 38 0 bn).or wo))) hE [Hn (⟨.inl rfl, rfl⟩ : (T.als 0 [] 0 0 = T.als 0 [] 0 0 ∨ T.als 0 [] 0 0 = T.d (.atom bn)) ∧ some bn = some bn), Hn (⟨g0.1, cuB F5_ g0⟩ : (0 : Int) ≤ i_ ∧ i_.toNat ≤ (bf.map F5_).length), Hn (⟨rfl, rfl⟩ : T.d (.atom (Zg 1 bn i_)) = T.d (.atom (Zg 1 bn i_)) ∧ some bn = some bn), Hn (⟨g1.1, cuB F5_ g1, dM F5_ bf⟩ : (0 : Int) ≤ i_ ∧ i_.toNat ≤ (bf.map F5_).length ∧ A.areD (bf.map F5_) = true), Hx (.l ((bf.take i_.toNat ++ List.replicate (bf.length - i_.toNat) []).map F5_)) (vcM F5_ bf i_.toNat ([] : List Int)), Hn g2.1, Hn (cuB F5_ g2), Hl (cuM F5_ (bf.take i_.toNat ++ List.replicate (bf.length - i_.toNat) []) i_)]
  ·refine yMb 1111210 [J1] [0,1,5,6] (fun x => [(0, .own (eOs 1 false F5_ x.1)), (5, .d (I x.2.1)), (6, .d (I x.2.2))]) c0.2  [] fun t2 aa ⟨bl, fw, j_⟩ m2 aw ae hl1 J2 ax => ?_
   let Z1 : List HO := [Ha (lnM F5_ bl)]
   obtain c1 | c1 := zy ae
   ·refine yNs 111121001 [J1, J2] [0,1,5,6] (fun z : List (List Int) × Int => yZ j_ z.1 z.2 = some aw) (fun z => [(0, .own (eOs 1 false F5_ z.1)), (5, .d (I z.2))]) (Z1 ++ [c1, Hh (.cut 0)]) ?_ fun J3 bk => ?_
    ·rintro ⟨ml, p0⟩ ae
     cases ae
     exact yB ax _ hl1 []
    ·obtain ⟨d9, h1, ai, h2, ae⟩ := ye c1.2
     let Z2 : List HO := [Hn (iL F5_ h1), Hs (iM F5_ h1), zC2 1 h2]
     obtain c2 | c2 := zy ae
     ·obtain ⟨mz, h3, ae⟩ := zt c2.2
      exact yB bk ((bl.set fw.toNat d9), w64 (fw + 1)) ae (Z2 ++ [c2, Hn (iL F5_ h3), Hs (iM F5_ h3), Hs (iM F5_ h3), Hl (sM F5_ bl fw d9)])
     ·exact yB bk (bl, fw) c2.2 (Z2 ++ [c2])
   ·cases c1.2
    cases hl1
    exact yB au (bl, fw) aa (Z1 ++ [c1])
def l88 : List y6 := Jp 193 yS yS (eI .i64) (eT2 XV (eI .i64)) Qj :: l87
theorem KB [H : HS X0 l87] : OkH l88 := yS3 false Tryz.func193 fun a_ b_ inputs r0 aa E hE => by
 obtain ⟨r_, h0, aa⟩ := zt aa
 let Z0 : List HO := [zg 24, Hm (shM yS yS ([a_, b_])), Hs (zf2 24 h0 (loC (eI .i64) inputs <| loC (eSl 1 true yS) [a_, b_] <| loN))]
 obtain c0 | c0 := zy aa
 ·cases c0.2
  exact yE hE (Z0 ++ [c0, Hm (shM F5_ F5_ [])])
 ·obtain ⟨ai, h1, am, h2, az, h3, aa⟩ := jG c0.2
  cases aa
  exact yE hE (Z0 ++ [c0, zC1 32 h1, zC2 0 h2, zg 29, Hm (shM F5_ F5_ am), Hs (zf1 29 h3 (loC yS am <| loN)), Hm (shM F5_ F5_ am)])
def l89 : List y6 := uV 201 zO (eI .i64) (eI .i64) XQ :: l88
theorem UF [H : HS X0 l88] : OkH l89 := yS2 true Tryz.func201 fun m_ s_ r0 aa E hE => by
 obtain ⟨r_, h0, aa⟩ := zt aa
 let Z0 : List HO := [zC1 81 h0]
 obtain c0 | c0 := zy aa
 ·cases c0.2
  exact yE hE (Z0 ++ [c0])
 ·obtain c1 | c1 := zy c0.2
  ·cases c1.2
   exact yE hE (Z0 ++ (Hb c0 :: (rpN 6 (Hb c1) [qT])))
  ·let Z1 : List HO := (Z0 ++ (Hb c0 :: (rpN 4 (Hb c1) [Ha (lnM yj m_.Rows), c1, c1])))
   obtain c2 | c2 := zy c1.2
   ·cases c2.2
    exact yE hE (Z1 ++ [c2])
   ·cases c2.2
    exact yE hE (Z1 ++ [c2])
def l90 : List y6 := Jp 202 zO (eI .i64) F5_ (fun r : List Int × Int => .opq (z2o [some (F2_ r.1), some ((eI .i64) r.2)])) Um :: l89
theorem JC [H : HS X0 l89] : OkH l90 := by
 refine zO3 fun m_ s_ w_ r0 aa => ?_
 refine z35 (tt := wp) (rs := [(true, 6, none), (false, 7, none)]) (n := ⟨Tryz.f202.ntmps, []⟩) (body := zbd Tryz.f202) zo Tryz.func202 rfl (by kernel_rfl) rfl rfl (by show (3 : Nat) ≤ 43; decide) fun E hE => ?_
 obtain ⟨g0, aa⟩ := gdE aa
 refine yK 111 [] [1,8] (fun z : Int × List Int => X1 z.1 z.2 = some r0) (fun z => [(1, .d (I z.1)), (8, .own (eOs 1 true (eI .i64) z.2))]) [1,2,3,8] [Ha (lnM (eI .i64) w_), Hn (rL g0), Ha (rM 1 (eI .i64) ((w_.length : Nat) : Int) (0 : Int)), Hh (.cut 0)] ?_ fun J1 au => ?_
 ·rintro ⟨bf, out⟩ aa
  cases aa
  let ZE : List HO := []
  exact z51 X0 zo H.ok z2M hE 4000 (hs := hoH ZE) (x := (.opq (z2o [some (eOs 1 true (eI .i64) out), some (I bf)]))) (hoB ZE) (by kernel_rfl) (LeV.refl _)
 ·refine yMb 111210 [J1] [1,3,8,15,16,17] (fun x => [(1, .d (I x.1)), (8, .own (eOs 1 true (eI .i64) x.2.1)), (17, .d (I x.2.2))]) aa  [Ha (lnM (eI .i64) w_)] fun t2 aa ⟨bl, aj, ba⟩ m2 aw ae hl1 J2 ax => ?_
  obtain c0 | c0 := zy ae
  ·obtain ⟨ge, h0, r_, h1, ae⟩ := ye c0.2
   refine yN 1112100110011 [J1, J2] [3,8,9,11,15,16,17] (fun z : Int × Int => qR aj ba z.1 z.2 = some aw) (fun z => [(11, .own (.box (.agg [I z.1, I z.2])))]) [1,3,8,9,10,11,15,16,17] [c0, Hi (eI .i64) h0, zC0 87 h1, Hh (.cut 0)] ?_ fun J3 bk => ?_
   ·rintro ⟨gj, nb⟩ ae
    obtain ⟨fx, h2, ae⟩ := zt ae
    cases ae
    exact yB ax _ hl1 [Hn (iL (eI .i64) h2), Hs (iM (eI .i64) h2), Hs (iM (eI .i64) h2), Hl (sM (eI .i64) aj ba nb)]
   ·obtain c1 | c1 := zy ae
    ·obtain ⟨al, h3, ak, h4, ae⟩ := ye c1.2
     exact yB bk (ak.To, ak.Out) ae [c1, Hi yj h3, Hi F9_ h4]
    ·exact yB bk (r_.To, r_.Out) c1.2 [c1]
  ·cases c0.2
   cases hl1
   exact yB au (bl, aj) aa [c0]
def l91 : List y6 := Jp 198 zO (eI .i64) F5_ (eT2 (eI .i64) (eI .i64)) km :: l90
theorem UI [H : HS X0 l90] : OkH l91 := yS3 false Tryz.func198 fun m_ s_ w_ r0 aa E hE => by
 obtain ⟨r_, h0, aa⟩ := zt aa
 let Z0 : List HO := [zC2 1 h0]
 obtain c0 | c0 := zy aa
 ·cases c0.2
  exact yE hE (Z0 ++ [c0])
 ·obtain ⟨ai, h1, aa⟩ := zt c0.2
  let Z1 : List HO := (Z0 ++ [c0, zC2 58 h1])
  obtain c1 | c1 := zy aa
  ·cases c1.2
   exact yE hE (Z1 ++ [c1])
  ·obtain ⟨am, h2, aa⟩ := zt c1.2
   cases aa
   exact yE (H := zx ((zaa Tryz.prog 31 [none, some (I am.2)]).or ((zaa Tryz.prog 30 [some (eOs 1 true (eI .i64) am.1), some (I am.2)]).or X0))) hE (Z1 ++ [c1, zC3 0 h2, Hn (⟨rfl, rfl⟩ : T.own (.opq (z2o [some (eOs 1 true (eI .i64) am.1), some (I am.2)])) = T.own (.opq (z2o [some (eOs 1 true (eI .i64) am.1), some (I am.2)])) ∧ 1 = 1), Hn (⟨rfl, rfl⟩ : T.own (.opq (z2o [none, some (I am.2)])) = T.own (.opq (z2o [none, some (I am.2)])) ∧ 1 = 1)])
def l92 : List y6 := Jp 194 zcE F5_ F5_ yS ud :: l91
theorem XX [H : HS X0 l91] : OkH l92 := yS3 true Tryz.func194 fun x_ u_ v_ r0 aa E hE => by
 obtain ⟨r_, h0, ai, h1, pj, h2, aa⟩ := jG aa
 cases aa
 exact yE hE [zC3 0 h0, zC3 0 h1, Hi yS h2]
theorem YC [H : HS X0 l92] (ct : Value) : ∀ (x0 : Y1) (x_ : zu) (b_ : zk) (r0 : zk × Bool), qG x0 x_ b_ = some r0 → z2l Tryz.prog 192 [.agg [], .sptr (.agg [.agg [I x_.m_.Inputs, I x_.m_.Outputs, eSl 1 false yj x_.m_.Rows], eSl 1 false F5_ x_.q_, eSl 1 false F5_ x_.p_, eSl 1 false F5_ x_.all_, eSl 1 false yS x_.each_, eSl 1 false F5_ x_.short_, eSl 1 false F5_ x_.exact_]), .atom ct] ([ct].zip [.box (.agg [eOs 16 false F1_ b_.nodes_, I b_.leaves_, I b_.most_])]) r0.2 (.iface 137 (.agg #[])) (.tup []) [.box (.agg [eOs 16 false F1_ r0.1.nodes_, I r0.1.leaves_, I r0.1.most_])] := by
 intro x0 x_ b_ r0 aa
 refine z09 (tt := wp) (nt := Tryz.f192.ntmps) (body := zbd Tryz.f192) [2] zo Tryz.func192 rfl (by kernel_rfl) rfl rfl (by show (3 : Nat) ≤ 106; decide) (by decide) rfl rfl rfl (fun E hE hD => ?_)
 refine yNs 11 [] [1,2] (fun z : List (zD Int) × Int × Int => u0 x_ b_ z.1 z.2.1 z.2.2 = some r0) (fun z => [(2, .own (.box (.agg [eOs 16 false F1_ z.1, I z.2.1, I z.2.2])))]) [Hh (.cut 1)] ?_ fun J1 au => ?_
 ·rintro ⟨cn, bu, ee⟩ aa
  obtain ⟨r_, h0, t2, ht2, aa⟩ := ye aa
  refine yM 111110 [] [1,2,73,74,75] (fun x => [(2, .own (.box (.agg [eOs 16 false F1_ x.1, I x.2.1, I x.2.2.1]))), (75, .d (I x.2.2.2))]) ht2  [zC3 4 h0, Ha (lnM F3_ r_.1)] fun ⟨cg, bq, d0, ip⟩ m2 aw ae hl1 J2 ax => ?_
  obtain c0 | c0 := zy ae
  ·refine yNs 111110011 [J2] [1,2,73,74,75] (fun z : List (zD Int) × Int × Int => vZ ip z.1 z.2.1 z.2.2 = some aw) (fun z => [(2, .own (.box (.agg [eOs 16 false F1_ z.1, I z.2.1, I z.2.2])))]) [c0, Hh (.cut 0)] ?_ fun J3 bk => ?_
   ·rintro ⟨cd, bo, dm⟩ ae
    cases ae
    exact yB ax _ hl1 []
   ·obtain ⟨u_, h1, t4, ht4, ae⟩ := ye c0.2
    refine yM (H := zx ((xLs zo 78 (eSl 1 true (eI .i64) u_) (eSl 1 false (eI .i64) u_) inferInstance).or X0)) 11111001120110 [J2, J3] [1,2,15,73,74,75,82,83,84] (fun x => [(2, .own (.box (.agg [eOs 16 false F1_ x.1, I x.2.1, I x.2.2.1]))), (84, .d (I x.2.2.2))]) ht4  [Hi F3_ h1, Hn (rfl : T.d (eSl 1 true (eI .i64) u_) = T.d (eSl 1 true (eI .i64) u_)), Ha (lnM F5_ x_.exact_)] fun ⟨ap, bc, d8, ji⟩ m4 dc ah hl2 J4 cx => ?_
    obtain c1 | c1 := zy ah
    ·refine yNs 11111001120110011 [J2, J3, J4] [1,2,15,73,74,75,82,83,84] (fun z : List (zD Int) × Int × Int => vY ji z.1 z.2.1 z.2.2 = some dc) (fun z => [(2, .own (.box (.agg [eOs 16 false F1_ z.1, I z.2.1, I z.2.2])))]) [c1, Hh (.cut 0)] ?_ fun J5 dh => ?_
     ·rintro ⟨ce, bp, dj⟩ ah
      cases ah
      exact yB cx _ hl2 []
     ·obtain ⟨dw, h2, ai, h3, t6, kz, ah⟩ := jG c1.2
      refine yM 1111100112011001120110 [J2, J3, J4, J5] [1,2,15,17,73,74,75,82,83,84,91,92,93] (fun x => [(2, .own (.box (.agg [eOs 16 false F1_ x.1, I x.2.1, I x.2.2.1]))), (93, .d (I x.2.2.2))]) kz  [Hi F5_ h2, zC3 0 h3, Ha (lnM F5_ ai)] fun ⟨i6, dr, jy, og⟩ m6 oa a8 hl3 J6 fz => ?_
      obtain c2 | c2 := zy a8
      ·obtain ⟨dx, h4, a8⟩ := zt c2.2
       refine yC 1111100112011001120110011001 [J2, J3, J4, J5, J6] [1,2,15,17,19,73,74,75,82,83,84,91,92,93] [c2, Hi F5_ h4, Hh (.stp 0)] ?_
       obtain ⟨am, h5, a8⟩ := zt a8
       obtain c3 | c3 := zy a8
       ·cases c3.2
        cases hl3
        cases ah
        cases hl2
        cases ae
        cases hl1
        cases aa
        exact yD 5 [2] ((yw (H := zd 10) ct _ _ _ h5).2 c3.1) [.atom ct, z0s [u_, dw, dx]] inferInstance [Hm (shM F5_ F5_ ([u_, dw, dx]))] fun st0 => hD rfl st0
       ·cases c3.2
        exact yB (H := zx ((Jt (P := Tryz.prog) wp [2] ((yw (H := zd 10) ct _ _ _ h5).1 c3.1) 102).or X0)) fz _ hl3 [Hm (shM F5_ F5_ ([u_, dw, dx])), Hn (Zp (f := .fn 191 []) (xs := [.atom ct, yS [u_, dw, dx]]) (ls := [(ct, .box (.agg [eOs 16 false F1_ i6, I dr, I jy]))]) (r := .tup []) (ys := [.box (.agg [eOs 16 false F1_ am.1.nodes_, I am.1.leaves_, I am.1.most_])]) [.atom ct, z0s [u_, dw, dx]] (show Yy [.atom ct, z0s [u_, dw, dx]] [.atom ct, yS [u_, dw, dx]] from inferInstance))]
      ·cases c2.2
       cases hl3
       exact yB dh (i6, dr, jy) ah [c2]
    ·cases c1.2
     cases hl2
     exact yB bk (ap, bc, d8) ae [c1]
  ·cases c0.2
   cases hl1
   cases aa
   exact yF .normal [(2, .own (.box (.agg [eOs 16 false F1_ cg, I bq, I d0])))] [c0] fun st0 h0 => hE rfl _ st0 (.inl rfl) (ui h0 ⟨⟨rfl, rfl⟩, trivial⟩)
 ·refine yMb 11210 [J1] [1,2,23,24,25] (fun x => [(2, .own (.box (.agg [eOs 16 false F1_ x.1, I x.2.1, I x.2.2.1]))), (25, .d (I x.2.2.2))]) aa  [Ha (lnM F5_ x_.q_)] fun t7 aa ⟨ja, ik, j4, iq⟩ m7 aw ae hl1 J7 j5 => ?_
  obtain c4 | c4 := zy ae
  ·refine yNs 11210011 [J1, J7] [1,2,23,24,25] (fun z : List (zD Int) × Int × Int => vX iq z.1 z.2.1 z.2.2 = some aw) (fun z => [(2, .own (.box (.agg [eOs 16 false F1_ z.1, I z.2.1, I z.2.2])))]) [c4, Hh (.cut 0)] ?_ fun J8 mb => ?_
   ·rintro ⟨lf, kw, l6⟩ ae
    cases ae
    exact yB j5 _ hl1 []
   ·obtain ⟨gg, h6, t9, ht9, ae⟩ := ye c4.2
    refine yM 1121001120110 [J1, J7, J8] [1,2,7,23,24,25,32,33,34] (fun x => [(2, .own (.box (.agg [eOs 16 false F1_ x.1, I x.2.1, I x.2.2.1]))), (34, .d (I x.2.2.2))]) ht9  [Hi F5_ h6, Ha (lnM F5_ x_.short_)] fun ⟨i8, ij, jz, ke⟩ m9 dc ah hl2 J9 qo => ?_
    obtain c5 | c5 := zy ah
    ·refine yNs 1121001120110011 [J1, J7, J8, J9] [1,2,7,23,24,25,32,33,34] (fun z : List (zD Int) × Int × Int => vF ke z.1 z.2.1 z.2.2 = some dc) (fun z => [(2, .own (.box (.agg [eOs 16 false F1_ z.1, I z.2.1, I z.2.2])))]) [c5, Hh (.cut 0)] ?_ fun J10 hJ10 => ?_
     ·rintro ⟨lh, kx, l7⟩ ah
      cases ah
      exact yB qo _ hl2 []
     ·obtain ⟨a7, h7, sf, ht11, ah⟩ := ye c5.2
      refine yM 112100112011001120110 [J1, J7, J8, J9, J10] [1,2,7,9,23,24,25,32,33,34,41,42,43] (fun x => [(2, .own (.box (.agg [eOs 16 false F1_ x.1, I x.2.1, I x.2.2.1]))), (43, .d (I x.2.2.2))]) ht11  [Hi F5_ h7, Ha (lnM F5_ x_.all_)] fun ⟨ii, gz, i7, mh⟩ sv oa a8 hl3 sj pw => ?_
      obtain c6 | c6 := zy a8
      ·obtain ⟨ez, h8, a8⟩ := zt c6.2
       refine yC 112100112011001120110011001 [J1, J7, J8, J9, J10, sj] [1,2,7,9,11,23,24,25,32,33,34,41,42,43] [c6, Hi F5_ h8, Hh (.stp 0)] ?_
       obtain ⟨az, h9, a8⟩ := zt a8
       obtain c7 | c7 := zy a8
       ·cases c7.2
        cases hl3
        cases ah
        cases hl2
        cases ae
        cases hl1
        cases aa
        exact yD 5 [2] ((yw (H := zd 10) ct _ _ _ h9).2 c7.1) [.atom ct, z0s [gg, a7, ez]] inferInstance [Hm (shM F5_ F5_ ([gg, a7, ez]))] fun st0 => hD rfl st0
       ·cases c7.2
        exact yB (H := zx ((Jt (P := Tryz.prog) wp [2] ((yw (H := zd 10) ct _ _ _ h9).1 c7.1) 52).or X0)) pw _ hl3 [Hm (shM F5_ F5_ ([gg, a7, ez])), Hn (Zp (f := .fn 191 []) (xs := [.atom ct, yS [gg, a7, ez]]) (ls := [(ct, .box (.agg [eOs 16 false F1_ ii, I gz, I i7]))]) (r := .tup []) (ys := [.box (.agg [eOs 16 false F1_ az.1.nodes_, I az.1.leaves_, I az.1.most_])]) [.atom ct, z0s [gg, a7, ez]] (show Yy [.atom ct, z0s [gg, a7, ez]] [.atom ct, yS [gg, a7, ez]] from inferInstance))]
      ·cases c6.2
       cases hl3
       exact yB hJ10 (ii, gz, i7) ah [c6]
    ·cases c5.2
     cases hl2
     exact yB mb (i8, ij, jz) ae [c5]
  ·cases c4.2
   cases hl1
   exact yB au (ja, ik, j4) aa [c4]
theorem Y2 [H : HS X0 l92] (ct : Value) : ∀ (x0 : Zh) (x_ : zu) (b_ : zk) (r0 : zk × Bool), uU x0 x_ b_ = some r0 → z2l Tryz.prog 203 [.agg [], .sptr (.agg [.agg [I x_.m_.Inputs, I x_.m_.Outputs, eSl 1 false yj x_.m_.Rows], eSl 1 false F5_ x_.q_, eSl 1 false F5_ x_.p_, eSl 1 false F5_ x_.all_, eSl 1 false yS x_.each_, eSl 1 false F5_ x_.short_, eSl 1 false F5_ x_.exact_]), .atom ct] ([ct].zip [.box (.agg [eOs 16 false F1_ b_.nodes_, I b_.leaves_, I b_.most_])]) r0.2 (.iface 137 (.agg #[])) (.tup []) [.box (.agg [eOs 16 false F1_ r0.1.nodes_, I r0.1.leaves_, I r0.1.most_])] := by
 intro x0 x_ b_ r0 aa
 refine z09 (tt := wp) (nt := Tryz.f203.ntmps) (body := zbd Tryz.f203) [2] zo Tryz.func203 rfl (by kernel_rfl) rfl rfl (by show (3 : Nat) ≤ 48; decide) (by decide) rfl rfl rfl (fun E hE hD => ?_)
 refine yMb 1110 [] [1,2,15,16,17] (fun x => [(2, .own (.box (.agg [eOs 16 false F1_ x.1, I x.2.1, I x.2.2.1]))), (17, .d (I x.2.2.2))]) aa  [Ha (lnM F5_ x_.p_)] fun t1 aa ⟨cn, bu, ee, ba⟩ m1 aw ae hl1 J1 au => ?_
 obtain c0 | c0 := zy ae
 ·refine yNs 1110011 [J1] [1,2,15,16,17] (fun z : List (zD Int) × Int × Int => vH ba z.1 z.2.1 z.2.2 = some aw) (fun z => [(2, .own (.box (.agg [eOs 16 false F1_ z.1, I z.2.1, I z.2.2])))]) [c0, Hh (.cut 0)] ?_ fun J2 ax => ?_
  ·rintro ⟨cg, bq, d0⟩ ae
   cases ae
   exact yB au _ hl1 []
  ·obtain ⟨bg, h0, t3, ht3, ae⟩ := ye c0.2
   refine yM 111001120110 [J1, J2] [1,2,7,15,16,17,24,25,26] (fun x => [(2, .own (.box (.agg [eOs 16 false F1_ x.1, I x.2.1, I x.2.2.1]))), (26, .d (I x.2.2.2))]) ht3  [Hi F5_ h0, Ha (lnM F5_ x_.short_)] fun ⟨cd, bo, dm, fy⟩ m3 dc ah hl2 J3 bk => ?_
   obtain c1 | c1 := zy ah
   ·refine yNs 111001120110011 [J1, J2, J3] [1,2,7,15,16,17,24,25,26] (fun z : List (zD Int) × Int × Int => vG fy z.1 z.2.1 z.2.2 = some dc) (fun z => [(2, .own (.box (.agg [eOs 16 false F1_ z.1, I z.2.1, I z.2.2])))]) [c1, Hh (.cut 0)] ?_ fun J4 cx => ?_
    ·rintro ⟨ap, bc, d8⟩ ah
     cases ah
     exact yB bk _ hl2 []
    ·obtain ⟨a7, h1, r_, h2, t5, ht5, ah⟩ := jG c1.2
     refine yM 11100112011001120110 [J1, J2, J3, J4] [1,2,7,9,15,16,17,24,25,26,33,34,35] (fun x => [(2, .own (.box (.agg [eOs 16 false F1_ x.1, I x.2.1, I x.2.2.1]))), (35, .d (I x.2.2.2))]) ht5  [Hi F5_ h1, zC3 0 h2, Ha (lnM F5_ r_)] fun ⟨ce, bp, dj, gk⟩ m5 oa a8 hl3 J5 dh => ?_
     obtain c2 | c2 := zy a8
     ·obtain ⟨dx, h3, a8⟩ := zt c2.2
      refine yC 11100112011001120110011001 [J1, J2, J3, J4, J5] [1,2,7,9,11,15,16,17,24,25,26,33,34,35] [c2, Hi F5_ h3, Hh (.stp 0)] ?_
      obtain ⟨ai, h4, a8⟩ := zt a8
      obtain c3 | c3 := zy a8
      ·cases c3.2
       cases hl3
       cases ah
       cases hl2
       cases ae
       cases hl1
       cases aa
       exact yD 5 [2] ((yw (H := zd 10) ct _ _ _ h4).2 c3.1) [.atom ct, z0s [bg, a7, dx]] inferInstance [Hm (shM F5_ F5_ ([bg, a7, dx]))] fun st0 => hD rfl st0
      ·cases c3.2
       exact yB (H := zx ((Jt (P := Tryz.prog) wp [2] ((yw (H := zd 10) ct _ _ _ h4).1 c3.1) 44).or X0)) dh _ hl3 [Hm (shM F5_ F5_ ([bg, a7, dx])), Hn (Zp (f := .fn 191 []) (xs := [.atom ct, yS [bg, a7, dx]]) (ls := [(ct, .box (.agg [eOs 16 false F1_ ce, I bp, I dj]))]) (r := .tup []) (ys := [.box (.agg [eOs 16 false F1_ ai.1.nodes_, I ai.1.leaves_, I ai.1.most_])]) [.atom ct, z0s [bg, a7, dx]] (show Yy [.atom ct, z0s [bg, a7, dx]] [.atom ct, yS [bg, a7, dx]] from inferInstance))]
     ·cases c2.2
      cases hl3
      exact yB cx (ce, bp, dj) ah [c2]
   ·cases c1.2
    cases hl2
    exact yB ax (cd, bo, dm) ae [c1]
 ·cases c0.2
  cases hl1
  cases aa
  exact yF .normal [(2, .own (.box (.agg [eOs 16 false F1_ cn, I bu, I ee])))] [c0] fun st0 h0 => hE rfl _ st0 (.inl rfl) (ui h0 ⟨⟨rfl, rfl⟩, trivial⟩)
def l93 : List y6 := Jp 62 zcE (eIf 81) (eI .i64) (eT2 (ePo Wp) eB) WD :: l92
theorem Q7 [H : HS X0 l92] : OkH l93 := by
 have hE : ∀ b : zk, (A.agg [eOs 16 false F1_ b.nodes_, eI .i64 b.leaves_, eI .i64 b.most_]).live = true ∧ (A.agg [eOs 16 false F1_ b.nodes_, eI .i64 b.leaves_, eI .i64 b.most_]).shut = y9 zcH (eI .i64) (eI .i64) b := fun b => ⟨Vb.live (f := y9 zfz (eI .i64) (eI .i64)) b, Vb.sh (f := y9 zfz (eI .i64) (eI .i64)) b⟩
 refine WE ?_
 rintro ⟨x, s, most⟩ r0 aa
 obtain ⟨r, hr, aa⟩ := zt aa
 obtain rfl := yY aa
 have key : ∀ (T kf : Nat), (∀ w, (method 370 T (.agg #[]) "gauntlet/suites.fill").run Tryz.prog w = .ok (kf, .agg #[]) w) → (∀ args w, (callFunc kf args).run Tryz.prog w = .ok (.enter kf args) w) →
   (∀ bv, z2l Tryz.prog kf [.agg [], zcE x, .atom bv] [(bv, .box (.agg [.osl 16 false [.agg (List.replicate 16 (.atom (.int .i32 0)))], .atom (.int .i64 0), .atom (.int .i64 most)]))] r.2 (.iface 137 (.agg #[])) (.tup []) [.box (.agg [eOs 16 false F1_ r.1.nodes_, eI .i64 r.1.leaves_, eI .i64 r.1.most_])]) →
   wB Tryz.prog 62 [zcE x, .atom (.iface T (.agg #[])), .atom (.int .i64 most)] (.tup [ePo Wp (bif r.2 then none else some r.1), eB (!r.2)]) := by
  intro T kf h1 h2 h3
  have q := z2a h1 h2 rfl (hE r.1).1 (hE r.1).2 h3
  refine q.le ?_
  cases r.2
  ·exact (show LeV (.tup [.sptr (y9 zcH (eI .i64) (eI .i64) r.1), .atom (.bool true)]) (.tup [.dop (poQ (some (y9 zcH (eI .i64) (eI .i64) r.1))), .atom (.bool true)]) from inferInstance)
  ·exact (show LeV (.tup [.atom (.pointer none), .atom (.bool false)]) (.tup [.dop (poQ none), .atom (.bool false)]) from inferInstance)
 match s, hr with
 | 0, hr => exact key 81 190 Tryz.meth81 (fun _ _ => by kernel_rfl) fun bv => Xp (H := zd 10) bv ⟨⟩ x _ r hr
 | 1, hr => exact key 82 192 Tryz.meth82 (fun _ _ => by kernel_rfl) fun bv => YC (H := zd 0) bv ⟨⟩ x _ r hr
 | 2, hr => exact key 83 203 Tryz.meth83 (fun _ _ => by kernel_rfl) fun bv => Y2 (H := zd 0) bv ⟨⟩ x _ r hr
 | n + 3, hr => cases hr
def yq : y6 := spR (α := List (List Int)) (ρ := List (List Int)) 68 (fun x => [(eOs 1 false F3_) x]) (fun r => zcG r) (fun x => xS x) [true] (zff)
theorem qZ : ∀ x r, (fun x => xS x) x = some r → (VT.add yq).run 68 ((VT.add yq).norm 68 ((fun x => [(eOs 1 false F3_) x]) x)) = some ((fun r => zcG r) r) := fun x r h => zdC h rfl
theorem jb : (VT.add yq).gives 68 = [true] := z9j
theorem jB [H : HS X0 l93] : yq.Ok Tryz.prog := by
 refine z3I ?_
 rintro s_ r0 aa
 refine zY true Tryz.func68 fun E hE => ?_
 cases aa
 exact yE (H := zx ((xCl zo 8).or X0)) hE [Ha (lnM F3_ s_), Ha (lnM F3_ s_), Hn (Int.natCast_nonneg _ : (0 : Int) ≤ ((s_.length : Nat) : Int)), Hn (Int.natCast_nonneg _ : (0 : Int) ≤ ((s_.length : Nat) : Int)), Hn (clB F3_ s_), Ha (clE 1 F3_ s_)]
end Go.Own
end
