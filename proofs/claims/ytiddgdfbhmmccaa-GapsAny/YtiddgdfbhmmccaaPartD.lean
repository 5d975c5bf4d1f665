/- -/
import Derived.Test.YtiddgdfbhmmccaaPartC
import Derived.IntWalk
import Derived.Test.YtiddgdfbhmmccaaPartB
import Derived.Shelf.SlSortCmp.NoneTotal
import Derived.Laws.BytesString
set_option linter.unusedVariables false
set_option linter.unusedSimpArgs false
namespace Go.Own
class LeA (x y : A) : Prop where
 rep : ∀ S cs, Rep S x cs → Rep S y cs
 conc : ∀ S h cs F, zA S h x cs F → zA S h y cs F
 val : ∀ cs, zT x cs = zT y cs
 tup : ∀ fs, x = .tup fs → y = x
class KR (xs ys : List A) : Prop where
 rep : ∀ S cs, zV S xs cs → zV S ys cs
 conc : ∀ S h cs F, zy S h xs cs F → zy S h ys cs F
 len : xs.length = ys.length
 size : ∀ sz, (∀ x ∈ xs, x.size = sz) → ∀ y ∈ ys, y.size = sz
instance (priority := 2000) LeA.refl (x : A) : LeA x x := ⟨fun _ _ h => h, fun _ _ _ _ h => h, fun _ => rfl, fun _ _ => rfl⟩
instance (priority := 2000) KR.refl (x : List A) : KR x x := ⟨fun _ _ h => h, fun _ _ _ _ h => h, rfl, fun _ h => h⟩
theorem X3 {S : z8} {xs ys : List A} (hl : xs.length = ys.length) (h : xs = []) : ys = [] := by
 subst h; exact List.length_eq_zero_iff.1 hl.symm
instance LeA.osl (sz : Nat) (t : Bool) (xs ys : List A) [h : KR xs ys] : LeA (.osl sz t xs) (.osl sz false ys) := {
 rep := fun S cs q => by simp only [Rep] at q
 conc := fun S hp cs F q => by
  simp only [zA] at q ⊢
  have ⟨p, c, e, h1, h2, h3, h4, h5⟩ := q
  refine ⟨p, c, by rw [← h.len]; exact e, by simp, by rw [← h.len]; exact h2, h3, h.size _ h4, ?_⟩
  rcases h5 with ⟨q1, q2, q3, q4⟩ | ⟨b, arr, ty, l, F', e1, e2, e3, e4, e5, e6, e7⟩
  ·exact .inl ⟨X3 (S := S) h.len q1, q2, q3, q4⟩
  ·exact .inr ⟨b, arr, ty, l, F', e1, e2, e3, by rw [← h.len]; exact e4, h.conc _ _ _ _ e5, e6, e7⟩
 val := fun _ => rfl
 tup := fun _ e => by cases e }
instance LeA.sl (sz : Nat) (t : Bool) (xs ys : List A) [h : KR xs ys] : LeA (.sl sz t xs) (.sl sz false ys) := {
 rep := fun S cs q => by
  simp only [Rep] at q ⊢
  have ⟨p, c, e, h1, h2, h3, h4⟩ := q
  refine ⟨p, c, by rw [← h.len]; exact e, by simp, by rw [← h.len]; exact h2, h.size _ h3, ?_⟩
  rcases h4 with q | ⟨b, o, l, q1, q2, q3⟩
  ·exact .inl (X3 (S := S) h.len q)
  ·exact .inr ⟨b, o, l, q1, h.rep _ _ q2, q3⟩
 conc := fun S hp cs F q => by
  simp only [zA] at q ⊢
  refine ⟨?_, q.2⟩
  have q := q.1
  simp only [Rep] at q ⊢
  have ⟨p, c, e, h1, h2, h3, h4⟩ := q
  refine ⟨p, c, by rw [← h.len]; exact e, by simp, by rw [← h.len]; exact h2, h.size _ h3, ?_⟩
  rcases h4 with q | ⟨b, o, l, q1, q2, q3⟩
  ·exact .inl (X3 (S := S) h.len q)
  ·exact .inr ⟨b, o, l, q1, h.rep _ _ q2, q3⟩
 val := fun _ => rfl
 tup := fun _ e => by cases e }
instance LeA.box (x y : A) [h : LeA x y] : LeA (.box x) (.box y) := {
 rep := fun S cs q => by simp [Rep] at q
 conc := fun S hp cs F q => by
  simp [zA] at q ⊢
  have ⟨b, ty, l, F', e1, e2, e3, e4, e5⟩ := q
  exact ⟨b, ty, l, F', e1, e2, h.conc _ _ _ _ e3, e4, e5⟩
 val := fun _ => rfl
 tup := fun _ e => by cases e }
class SzA (x y : A) : Prop where
 eq : x.size = y.size
instance (priority := 2000) SzA.refl (x : A) : SzA x x := ⟨rfl⟩
instance KR.nil : KR [] [] := KR.refl []
instance KR.cons (x y : A) (xs ys : List A) [h : LeA x y] [z : SzA x y] [k : KR xs ys] : KR (x :: xs) (y :: ys) := {
 rep := fun S cs q => by
  simp [zV] at q ⊢
  have ⟨c1, c2, e, q1, q2⟩ := q
  exact ⟨c1, c2, e, h.rep _ _ q1, k.rep _ _ q2⟩
 conc := fun S hp cs F q => by
  simp [zy] at q ⊢
  have ⟨c1, c2, F1, F2, e, e2, q1, q2⟩ := q
  exact ⟨c1, c2, F1, F2, e, e2, h.conc _ _ _ _ q1, k.conc _ _ _ _ q2⟩
 len := by simp [k.len]
 size := fun sz q => by
  intro y' hy
  rcases List.mem_cons.1 hy with rfl | hy
  ·rw [← z.eq]; exact q x (by simp)
  ·exact k.size sz (fun x hx => q x (by simp [hx])) y' hy }
variable {α : Type}
theorem z9m {f g : α → A} (h : ∀ x, LeA (f x) (g x)) (z : ∀ x, SzA (f x) (g x)) : ∀ l : List α, KR (l.map f) (l.map g)
 | [] => KR.nil
 | x :: l => @KR.cons _ _ _ _ (h x) (z x) (z9m h z l)
instance KR.map {α : Type} (f g : α → A) [h : ∀ x, LeA (f x) (g x)] [z : ∀ x, SzA (f x) (g x)] (l : List α) : KR (l.map f) (l.map g) := z9m h z l
variable {v : Value}
theorem LeA.repV {x y : A} (h : LeA x y) {S : z8}  (q : yY S x v) : yY S y v := by
 by_cases ht : ∃ fs, x = .tup fs
 ·obtain ⟨fs, rfl⟩ := ht
  rw [h.tup fs rfl]; exact q
 ·have q1 : wi S x v := by cases x <;> simp [yY] at q <;> first | exact q | exact absurd ⟨_, rfl⟩ ht
  have ⟨cs, c1, c2⟩ := q1
  exact wi.repV ⟨cs, h.rep _ _ c1, by rw [← h.val]; exact c2⟩
class LeV (x y : A) : Prop where
 has : ∀ S h v F, Has S h x v F → Has S h y v F
instance (priority := 2000) LeV.refl (x : A) : LeV x x := ⟨fun _ _ _ _ h => h⟩
class z1z (xs ys : List A) : Prop where
 all : ∀ S vs, uV (wi S) xs vs → uV (wi S) ys vs
instance z1z.nil : z1z [] [] := ⟨fun _ _ h => h⟩
instance z1z.cons (x y : A) (xs ys : List A) [h : LeA x y] [k : z1z xs ys] : z1z (x :: xs) (y :: ys) := ⟨fun S vs q => by
 cases vs with
 | nil => exact q.elim
 | cons v vs =>
  refine ⟨?_, k.all S vs q.2⟩
  have ⟨cs, c1, c2⟩ := q.1
  exact ⟨cs, h.rep _ _ c1, by rw [← h.val]; exact c2⟩⟩
def LeT : T → T → Prop
 | .own x, y => ∃ z, y = .own z ∧ LeA x z
 | .d x, y => ∃ z, y = .d z ∧ LeA x z
 | .als r p er ec, y => p = [] ∧ y = .als r [] er ec
 | .gone, y => y = .gone
 | _, _ => False
class Uf (l m : List (Nat × T)) : Prop where
 ent : ∀ t, (ofL l t).er = (ofL m t).er ∧ (ofL l t).ec = (ofL m t).ec ∧ LeT (ofL l t).t (ofL m t).t
instance Uf.nil : Uf [] [] := ⟨fun t => ⟨rfl, rfl, rfl⟩⟩
variable {k : Nat}
theorem Uf.cons' {x y : T} {l m : List (Nat × T)} (h : LeT x y) (hl : Uf l m) : Uf ((k, x) :: l) ((k, y) :: m) := ⟨fun t => by
 simp [ofL]
 split
 ·exact ⟨rfl, rfl, h⟩
 ·exact hl.ent t⟩
instance Uf.own (k : Nat) (x y : A) (l m : List (Nat × T)) [h : LeA x y] [hl : Uf l m] : Uf ((k, .own x) :: l) ((k, .own y) :: m) := Uf.cons' ⟨y, rfl, h⟩ hl
instance Uf.d (k : Nat) (x y : A) (l m : List (Nat × T)) [h : LeA x y] [hl : Uf l m] : Uf ((k, .d x) :: l) ((k, .d y) :: m) := Uf.cons' ⟨y, rfl, h⟩ hl
class LeL (l m : List (Nat × T)) : Prop where
 or : l = m ∨ Uf l m
instance (priority := 2000) LeL.refl (l : List (Nat × T)) : LeL l l := ⟨.inl rfl⟩
instance LeL.of0 (l m : List (Nat × T)) [h : Uf l m] : LeL l m := ⟨.inr h⟩
variable {Fp : Nat → List Nat}{a : Act}
theorem Sim.le {C : Ctx} {S : z8}  {X : List Nat} {st st' : St}  {w : World} (h : Sim C S Fp X st a w) (hl : ∀ t, (st t).er = (st' t).er ∧ (st t).ec = (st' t).ec ∧ LeT (st t).t (st' t).t) : Sim C S Fp X st' a w := {
 size := h.size
 pin := h.pin
 defers := h.defers
 below := h.below
 mine := h.mine
 still := h.still
 sinc := h.sinc
 sbase := h.sbase
 disj := h.disj
 base := h.base
 xn := h.xn
 xd := h.xd
 xb := h.xb
 ent := fun t => by
  have q := h.ent t
  have ⟨_, _, l3⟩ := hl t
  unfold yQ at q ⊢
  cases ht : (st t).t with
  | gone =>
   simp only [ht, LeT] at l3 q
   simp only [l3]; exact q
  | d x =>
   simp only [ht, LeT] at l3 q
   have ⟨z, e, l3⟩ := l3
   simp only [e]; exact ⟨l3.repV q.1, q.2⟩
  | own x =>
   simp only [ht, LeT] at l3 q
   have ⟨z, e, l3⟩ := l3
   simp only [e]
   have ⟨cs, q1, q2, q3⟩ := q
   exact ⟨cs, l3.conc _ _ _ _ q1, q2, by rw [← l3.val]; exact q3⟩
  | als r p er ec =>
   simp only [ht, LeT] at l3 q
   obtain ⟨rfl, e⟩ := l3
   simp only [e]
   refine ⟨q.1, ?_⟩
   have ⟨q1, q2, q3⟩ := q.2
   have ⟨r1, r2, r3⟩ := hl r
   unfold ku
   refine ⟨by rw [← r1]; exact q1, by rw [← r2]; exact q2, ?_⟩
   cases hr : (st r).t with
   | own x =>
    simp only [hr, LeT] at q3 r3
    have ⟨z, e2, _⟩ := r3
    simp only [e2]
    intro g1 g2
    rcases q3 (by rw [r1]; exact g1) (.inl trivial) with g | g
    ·exact .inl g
    ·simp [ZZ] at g
   | d x =>
    simp only [hr, LeT] at q3 r3
    have ⟨z, e2, _⟩ := r3
    simp only [e2]
    intro g1 _
    exact q3 (by rw [r1]; exact g1) trivial
   | gone => simp only [hr, LeT] at r3; simp only [r3]
   | als u p e1 e2 => simp only [hr, LeT] at r3; simp only [r3.2]
   | ptr u p e1 e2 => simp only [hr, LeT] at r3
  | ptr r p er ec => simp only [ht, LeT] at l3 }
variable {P : Program}{st : St}{c : Code}{n : Fr}{rs : List (Nat × Option Nat)}{fs : List Fm}{fn : Func}{keep : Bool}
section
variable {P : Program} {tt : TT} {ctr : Ctr} {n : Fr} {Q : Exit → St → Prop}
theorem z8l {l m : List (Nat × T)} (h : LeL l m) (k : AWP P n c (ofL m) Q) : AWP P n c (ofL l) Q :=
 h.or.elim (fun e => e ▸ k) fun h => fun rd mm df w0 S0 M S Fp a w hc hs => k rd mm df w0 S0 M S Fp a w hc (hs.le h.ent)
theorem z5l {X : Type} {c c' : Code} {fs : List Fm} {st0 : St} (e : c = .loop c') (live : List Nat) (Inv : X → Prop) (mu : X → Nat) (stOf : X → List (Nat × T)) (x0 : X) (l0 : List (Nat × T)) (hs : canon live st0 = ofL l0) (hl : LeL l0 (stOf x0)) (h0 : Inv x0)
  (round : ∀ x, Inv x → ∀ J : St → Prop, (∀ st' l' x', Inv x' → mu x' < mu x → canon live st' = ofL l' → LeL l' (stOf x') → J st') → AWP P n c' (ofL (stOf x)) (Qf P n (.pre J :: fs) Q)) : AWP P n c st0 (Qf P n fs Q) := by
 subst e
 refine AWP.loop live (fun k st => ∃ x l, Inv x ∧ mu x = k ∧ st = ofL l ∧ LeL l (stOf x)) (mu x0) ⟨x0, l0, h0, rfl, hs, hl⟩ ?_
 rintro k st ⟨x, l, hx, rfl, rfl, hl⟩
 refine z8l hl ?_
 exact round x hx _ fun st' l' x' h1 h2 h3 h4 => ⟨_, h2, x', l', h1, rfl, h3, h4⟩
def z8y (tt : TT) (keep : Bool) (rs : List (Nat × Option Nat)) : SM A :=
 match keep, rs with
 | true, [(t, none)] => z9a tt true [t]
 | _, rs => z99 tt rs
def z4f (tt : TT) (keep : Bool) (rs : List (Nat × Option Nat)) : HM A :=
 match keep, rs with
 | true, [(t, none)] => ye (z9a tt true [t])
 | _, rs => wS tt (rs.map fun r => (.tmp r.1, 0)) >>= fun xs =>
  match vA tt rs xs with
  | some [y] => pure y
  | some ys => pure (.tup ys)
  | none => zD
theorem z5E (tt : TT) (rs : List (Nat × Option Nat)) : Snd (z99 tt rs) (wS tt (rs.map fun r => (.tmp r.1, 0)) >>= fun xs =>
  match vA tt rs xs with
  | some [y] => pure y
  | some ys => pure (.tup ys)
  | none => zD) := by
 refine zb (uN _ _) fun xs => ?_
 cases vA tt rs xs with
 | none => exact zi _
 | some ys => rcases ys with _ | ⟨y, _ | ⟨z, l⟩⟩ <;> exact xe _
theorem z91 (tt : TT) (keep : Bool) (rs : List (Nat × Option Nat)) : Snd (z8y tt keep rs) (z4f tt keep rs) := by
 cases keep with
 | false => rcases rs with _ | ⟨⟨t, _ | ty⟩, _ | ⟨q, l⟩⟩ <;> exact z5E _ _
 | true => rcases rs with _ | ⟨⟨t, _ | ty⟩, _ | ⟨q, l⟩⟩ <;> first | exact zk _ | exact z5E _ _
theorem z5h {n : Fr}  {body : Code} {keep : Bool} {rs : List (Nat × Option Nat)} {ls : List A} {r : A} (hT : ut P tt) (hf : P.funcs[k]? = some fn) (hnm : (fn.name == "runtime.NumGoroutine") = false) (hb : fn.body = some body)
  (hn : n = ⟨fn.ntmps, []⟩) (hr : fn.results = (rs.map K4).toArray) (ha : ls.length ≤ fn.ntmps)
  (h : ∀ E : St → Prop, (∀ st x R U, z8y tt keep rs st = some (x, R, U) → LeV x r → E st) → AWP P n body (ofL (z4N 0 ls)) (Qf P n [] (z8x E))) : qH P k ls r := by
 have h' := h (fun st => ∃ x R U, z8y tt keep rs st = some (x, R, U) ∧ LeV x r) fun st x R U h1 h2 => ⟨x, R, U, h1, h2⟩
 refine ⟨⟨fn, hf, hnm, by rw [hb]; rfl⟩, ?_⟩
 intro S w vs F hS hq hF
 have h2 : AWP P n body (ini ls) (fun ex st => (ex = .normal ∨ ex = .ret) ∧ ∃ x R U, z8y tt keep rs st = some (x, R, U) ∧ LeV x r) := by
  rw [z2K]
  refine AWP.mono h' ?_
  intro e st q
  cases e with
  | normal => exact ⟨.inl rfl, q⟩
  | ret => exact ⟨.inr rfl, q⟩
  | _ => exact q.elim
 refine VZ (R := fun w e w' => ∃ v' S' F', e = .returned v' ∧ wK (fun k => w.heap.size ≤ k ∨ k ∈ F) w w' ∧ (∀ b o u, S b o = some u → S' b o = some u) ∧ (∀ b o, b < w.heap.size → b ∉ F → S' b o = S b o) ∧ xx S' w' ∧ Has S' w'.heap r v' F' ∧ F'.Nodup ∧
   ∀ k ∈ F', w.heap.size ≤ k ∨ k ∈ F) hf hb (by rw [hn]) (by rw [hn]; simp) ha hS hq hF h2 ?_
 rintro ex st' ⟨hx, x, R, U, h3, h4⟩
 refine ⟨hx, ?_⟩
 intro df S' Fp' a' w' h1
 have gcase : z99 tt rs st' = some (x, R, U) → ∃ v, (results fn a'.tmps).run P w' = .ok v w' ∧ ∃ v' S' F', Ending.returned v = .returned v' ∧ wK (fun k => w.heap.size ≤ k ∨ k ∈ F) w w' ∧ (∀ b o u, S b o = some u → S' b o = some u) ∧ (∀ b o, b < w.heap.size → b ∉ F → S' b o = S b o) ∧ xx S' w' ∧ Has S' w'.heap r v' F' ∧ F'.Nodup ∧
   ∀ k ∈ F', w.heap.size ≤ k ∨ k ∈ F := by
  intro he
  have ⟨v, S2, hres, g1, g2, g3, g4⟩ := z70 (P := P) hT hr h1 he
  refine ⟨_, hres, _, S2, [], rfl, h1.below, fun b o u hu => g1 _ _ _ (h1.sinc _ _ _ hu), ?_, g3, h4.has _ _ _ _ (.inl ⟨g4, rfl⟩), by simp, by simp⟩
  intro b o hb' hbF
  exact g2 b o (by rintro (hq | hq) <;> first | omega | exact hbF hq)
 cases keep with
 | false => exact gcase (by rcases rs with _ | ⟨⟨t, _ | ty⟩, _ | ⟨q, l⟩⟩ <;> exact h3)
 | true =>
  rcases rs with _ | ⟨⟨t, _ | ty⟩, _ | ⟨q, l⟩⟩
  ·exact gcase h3
  ·have h3' : z9a tt true [t] st' = some (x, R, U) := h3
   have ⟨hl, S2, F', g1, g2, g3, g4, g5, g6⟩ := z71 h1 h3'
   refine ⟨_, Km (P := P) (ts := [t]) hr hl a' w', _, S2, F', rfl, h1.below, fun b o u hu => g1 _ _ _ (h1.sinc _ _ _ hu), ?_, g3, h4.has _ _ _ _ g4, g5, g6⟩
   intro b o hb' hbF
   exact g2 b o (by rintro (hq | hq) <;> first | omega | exact hbF hq)
  ·exact gcase h3
  ·exact gcase h3
  ·exact gcase h3
def zcI (X : XH P) (tt : TT) (ctr : Ctr) (n : Fr) (keep : Bool) (rs : List (Nat × Option Nat)) (k : Nat) (c : Code) (fs : List Fm) (st : St) (hs : List H) : Option (A × List Prop) :=
 match z3x X tt ctr n k c fs st hs with
 | some (.fin .normal, st', hs', ob) => match z4f tt keep rs st' hs' with | some (x, _, _, [], ob') => some (x, ob ++ ob') | _ => none
 | some (.fin .ret, st', hs', ob) => match z4f tt keep rs st' hs' with | some (x, _, _, [], ob') => some (x, ob ++ ob') | _ => none
 | _ => none
theorem zce (X : XH P) (hT : ut P tt) (hC : uM P ctr) (hm : P.follows .mixedOrders = true) {E : St → Prop} {r : A}   (hE : ∀ st x R U, z8y tt keep rs st = some (x, R, U) → LeV x r → E st) (k : Nat) {c : Code} {fs : List Fm} {st : St} {hs : List H} {x : A} (obs : List Ob)
  (e : zcI X tt ctr n keep rs k c fs st hs = some (x, obs.map Ob.p)) (hle : LeV x r) : AWP P n c st (Qf P n fs (z8x E)) := by
 unfold zcI at e
 have fin : ∀ {st' hs' ob}, (match z4f tt keep rs st' hs' with | some (x, _, _, [], ob') => some (x, ob ++ ob') | _ => none) = some (x, obs.map Ob.p) → Vt ob ∧ E st' := by
  intro st' hs' ob e
  split at e
  ·rename_i x1 R U ob' he
   simp [Option.some.injEq, Prod.mk.injEq] at e
   obtain ⟨rfl, e2⟩ := e
   have ha := z2u obs
   rw [← e2] at ha
   have ⟨o1, o2⟩ := ya ha
   exact ⟨o1, hE _ _ _ _ (z91 tt keep rs _ _ _ _ _ _ _ he o2) hle⟩
  ·cases e
 split at e
 ·rename_i st' hs' ob' he
  have ⟨h1, h2⟩ := fin e
  exact Ko X hT hC hm k c fs st hs _ _ _ _ he h1 h2
 ·rename_i st' hs' ob' he
  have ⟨h1, h2⟩ := fin e
  exact Ko X hT hC hm k c fs st hs _ _ _ _ he h1 h2
 ·cases e
end
abbrev w64 (x : Int) : Int := IntKind.i64.wrap x
def idx (l : List α) : Int → Option α
 | .ofNat n => l[n]?
 | .negSucc _ => none
inductive LR (σ τ : Type) where
 | next (s : σ)
 | done (t : τ)
variable {σ τ : Type}
def Xa (step : σ → Option (LR σ τ)) (n : Nat) : σ → Option τ :=
 Nat.rec (fun _ => none) (fun _ ih s => match step s with | none => none | some (.next s') => ih s' | some (.done t) => some t) n
def fuel : Nat := 18446744073709551616
def loop (step : σ → Option (LR σ τ)) (s : σ) : Option τ := Xa step fuel s
def zez (step : σ → Option (LR σ τ)) (m : Nat) (t : τ) : LR σ τ → Prop
 | .next s' => Xa step m s' = some t
 | .done t' => t' = t
theorem zcP {step : σ → Option (LR σ τ)} {n : Nat} {s : σ} {t : τ} (h : Xa step n s = some t) : ∃ m lr, n = m + 1 ∧ step s = some lr ∧ zez step m t lr := by
 cases n with
 | zero => cases h
 | succ m =>
  have h' : (match step s with | none => none | some (.next s') => Xa step m s' | some (.done t) => some t) = some t := h
  cases hs : step s with
  | none => simp [hs] at h'
  | some lr =>
   refine ⟨m, lr, rfl, rfl, ?_⟩
   cases lr with
   | next s' => simp [hs] at h'; exact h'
   | done t' => simp [hs, Option.some.injEq] at h'; exact h'
theorem zH {α β : Type} {x : Option α} {f : α → Option β} {r : β} (h : Option.bind x f = some r) : ∃ u, x = some u ∧ f u = some r := by
 cases x with
 | none => cases h
 | some u => exact ⟨u, rfl, h⟩
theorem zE {c : Bool} {x y : Option α} {r : α} (h : (bif c then x else y) = some r) : (c = true ∧ x = some r) ∨ (c = false ∧ y = some r) := by
 cases c
 ·exact .inr ⟨rfl, h⟩
 ·exact .inl ⟨rfl, h⟩
def gd (p : Prop) [Decidable p] (x : Option α) : Option α := if p then x else none
variable {p : Prop}
theorem gdE [Decidable p] {x : Option α} {r : α} (h : gd p x = some r) : p ∧ x = some r := by
 unfold gd at h
 by_cases hp : p
 ·rw [if_pos hp] at h; exact ⟨hp, h⟩
 ·rw [if_neg hp] at h; cases h
theorem z41 {a b : α} (h : some a = some b) : a = b := by cases h; rfl
variable {gives : List Bool}{i : Int}{β : Type}{as_ : List A}{tt : TT}
section
variable {α : Type}
def eI (k : IntKind) (x : Int) : A := .atom (.int k x)
def eB (b : Bool) : A := .atom (.bool b)
def eSl (sz : Nat) (t : Bool) (f : α → A) (l : List α) : A := .sl sz t (l.map f)
def eOs (sz : Nat) (t : Bool) (f : α → A) (l : List α) : A := .osl sz t (l.map f)
def eSp (f : α → A) (x : α) : A := .sptr (f x)
def z0S (k : Nat) (f : α → A) (x : α) : A := .fn k [f x]
def zd6 (f : α → A) (g : β → A) (x : α × β) : A := .agg [f x.1, g x.2]
def zeU {β γ : Type} (f : α → A) (g : β → A) (h : γ → A) (x : α × β × γ) : A := .agg [f x.1, g x.2.1, h x.2.2]
class zcn (f : α → A) : Prop where
 isD : ∀ x, (f x).isD = true
class zdj (f : α → A) : Prop where
 no : ∀ x, (f x).isD = false
class Qs (f : α → A) (g : outParam (α → A)) : Prop where
 lo : ∀ x, (f x).loose = g x
class z61 (f : α → A) (g : outParam (α → A)) : Prop where
 live : ∀ x, (f x).live = true
 sh : ∀ x, (f x).shut = g x
class Yd (f : α → A) : Prop where
 inj : ∀ x y, f x = f y → x = y
instance (k : IntKind) : zcn (eI k) := ⟨fun _ => rfl⟩
instance (k : Nat) (f f' : α → A) [h : Qs f f'] : Qs (z0S k f) (z0S k f') := ⟨fun x => by simp [z0S, A.loose, A.looses, h.lo]⟩
instance (k : Nat) (f : α → A) [h : Yd f] : Yd (z0S k f) := ⟨fun a b e => by simp [z0S, A.fn.injEq, List.cons.injEq, true_and, and_true] at e; exact h.inj _ _ e⟩
instance (sz : Nat) (t : Bool) (f : α → A) : zdj (eOs sz t f) := ⟨fun _ => rfl⟩
instance (k : IntKind) : Qs (eI k) (eI k) := ⟨fun _ => rfl⟩
instance : Qs eB eB := ⟨fun _ => rfl⟩
instance (sz : Nat) (t : Bool) (f g : α → A) [h : Qs f g] : Qs (eSl sz t f) (eSl sz false g) := ⟨fun l => by simp [eSl, A.loose, z1f, h.lo]⟩
instance (f g : α → A) [h : Qs f g] : Qs (eSp f) (eSp g) := ⟨fun l => by simp [eSp, A.loose, h.lo]⟩
instance (k : IntKind) : z61 (eI k) (eI k) := ⟨fun _ => rfl, fun _ => rfl⟩
instance : z61 eB eB := ⟨fun _ => rfl, fun _ => rfl⟩
instance (sz : Nat) (t : Bool) (f : α → A) : z61 (eSl sz t f) (eSl sz t f) := ⟨fun _ => rfl, fun _ => rfl⟩
instance (sz : Nat) (t : Bool) (f g : α → A) [h : z61 f g] : z61 (eOs sz t f) (eSl sz t g) := ⟨fun l => by simp [eOs, A.live]; exact WQ f l h.live, fun l => by simp [eOs, eSl, A.shut, Wl, h.sh]⟩
instance (k : IntKind) : Yd (eI k) := ⟨fun a b h => by simpa [eI] using h⟩
instance : Yd eB := ⟨fun a b h => by simpa [eB] using h⟩
theorem z5S {f : α → β} (hf : ∀ a b, f a = f b → a = b) : ∀ {l l' : List α}, l.map f = l'.map f → l = l'
 | [], [], _ => rfl
 | [], _ :: _, h => by simp at h
 | _ :: _, [], h => by simp at h
 | a :: l, b :: l', h => by
  simp [List.map_cons, List.cons.injEq] at h
  rw [hf _ _ h.1, z5S hf h.2]
instance (sz : Nat) (t : Bool) (f : α → A) [h : Yd f] : Yd (eSl sz t f) := ⟨fun a b e => by simp [eSl, A.sl.injEq, true_and] at e; exact z5S h.inj e⟩
instance (f : α → A) [h : Yd f] : Yd (eSp f) := ⟨fun a b e => by simp [eSp, A.sptr.injEq] at e; exact h.inj _ _ e⟩
instance (sz : Nat) (t : Bool) (f g : α → A) [h : ∀ x, LeA (f x) (g x)] [z : ∀ x, SzA (f x) (g x)] (l : List α) : LeA (eSl sz t f l) (eSl sz false g l) := LeA.sl sz t (l.map f) (l.map g)
instance (sz : Nat) (t : Bool) (f g : α → A) [h : ∀ x, LeA (f x) (g x)] [z : ∀ x, SzA (f x) (g x)] (l : List α) : LeA (eOs sz t f l) (eOs sz false g l) := LeA.osl sz t (l.map f) (l.map g)
theorem i0 {l : List α}  {u : α} (h : idx l i = some u) : 0 ≤ i := by
 cases i with
 | ofNat n => exact Int.natCast_nonneg n
 | negSucc n => cases h
theorem iE {l : List α}  {u : α} (h : idx l i = some u) : l[i.toNat]? = some u := by
 cases i with
 | ofNat n => exact h
 | negSucc n => cases h
theorem iM (f : α → A) {l : List α}  {u : α} (h : idx l i = some u) : (l.map f)[i.toNat]? = some (f u) := by rw [List.getElem?_map, iE h]; rfl
theorem iL (f : α → A) {l : List α}  {u : α} (h : idx l i = some u) : 0 ≤ i ∧ i.toNat < (l.map f).length := ⟨i0 h, by rw [List.length_map]; exact (List.getElem?_eq_some_iff.1 (iE h)).1⟩
theorem arJ {t : Nat} {fs : List A} {j : Int} (h0 : XE tt t fs 0 = true) (hj : 0 ≤ j) : XE tt t fs j = true := by
 unfold XE at h0 ⊢
 split at h0
 ·simp [decide_true, Bool.and_true, Bool.and_eq_true] at h0
  simp [hj, decide_true, Bool.and_true, Bool.and_eq_true]
  exact h0
 ·cases h0
theorem sM (f : α → A) (l : List α) (i : Int) (v : α) : (l.map f).set i.toNat (f v) = (l.set i.toNat v).map f := by rw [List.map_set]
theorem dM (f : α → A) [h : zcn f] (l : List α) : A.areD (l.map f) = true := z11 f l h.isD
theorem d1 (f : α → A) [h : zcn f] (x : α) : A.areD [f x] = true := by simp [A.areD, h.isD]
theorem o1 (f : α → A) [h : zdj f] (x : α) : A.areD [f x] = false := by simp [A.areD, h.no]
theorem shM (f g : α → A) [h : z61 f g] (l : List α) : A.lives (l.map f) = true ∧ A.shuts (l.map f) = l.map g := ⟨WQ f l h.live, by rw [Wl]; simp [h.sh]⟩
theorem aM (f : α → A) (l m : List α) : l.map f ++ m.map f = (l ++ m).map f := by rw [List.map_append]
theorem aL (f g : α → A) {l m : List α} (h : l.length + m.length ≤ 4294967296) : (l.map f).length + (m.map g).length ≤ lim := by simpa [lim] using h
theorem rM (sz : Nat) (f : α → A) (n : Int) (z : α) : A.osl sz (decide (n = n)) (List.replicate n.toNat (f z)) = eOs sz true f (List.replicate n.toNat z) := by simp [eOs]
theorem rL {n : Int} (h : 0 ≤ n ∧ n ≤ 4294967296) : 0 ≤ n ∧ n ≤ n ∧ n ≤ ((lim : Nat) : Int) := ⟨h.1, Int.le_refl _, h.2⟩
theorem lnM (f : α → A) (l : List α) : A.atom (.int .i64 (((l.map f).length : Nat) : Int)) = .atom (.int .i64 ((l.length : Nat) : Int)) := by rw [List.length_map]
theorem oC (f : α → A) [h : zdj f] (x : α) (l : List α) : A.areD ((x :: l).map f) = false := by simp [A.areD, h.no]
theorem slB {a b : Int} {r : Prop} (h : 0 ≤ a ∧ a ≤ b ∧ r) : 0 ≤ b := Int.le_trans h.1 h.2.1
theorem slC {a b m : Int} {r : Prop} (h : 0 ≤ a ∧ a ≤ b ∧ r ∧ b ≤ m) : 0 ≤ m := by omega
theorem z90 (f : α → A) {l : List α} {b m : Int} (h : (0 : Int) ≤ 0 ∧ 0 ≤ b ∧ m ≤ ((l.length : Nat) : Int) ∧ b ≤ m) : 0 ≤ b.toNat ∧ b.toNat ≤ m.toNat ∧ m.toNat ≤ (l.map f).length := by simp; omega
theorem zdN (sz : Nat) (f : α → A) (l : List α) (a b : Nat) : A.sl sz (b == b) (((l.map f).drop a).take (b - a)) = eSl sz true f ((l.drop a).take (b - a)) := by simp [eSl]
def mn (a b : Int) : Int := if b < a then b else a
def mx (a b : Int) : Int := if a < b then b else a
def spF (k : Nat) {α ρ : Type} (enc : α → List A) (encR : ρ → A) (F : α → Option ρ) (gives : List Bool) (inj : ∀ x y, enc x = enc y → x = y) : yn := {
 α := α
 k := k
 raw := false
 gives := gives
 enc := enc
 pre := fun x => ∃ r, F x = some r
 f := fun x => match F x with | some r => encR r | none => .dead 0
 inj := by
  intro x y h _ _
  rw [inj x y h] }
theorem zaE {c : Ctr}  {α ρ : Type} {enc : α → List A} {encR : ρ → A} {F : α → Option ρ}  {inj : ∀ x y, enc x = enc y → x = y} (h : c.Has (spF k enc encR F gives inj)) {x : α} {r : ρ} (hr : F x = some r)  (ha : as_.map A.loose = enc x) :
  c.run k (c.norm k as_) = some (encR r) := by
 have h1 := h.run x ⟨r, hr⟩
 have h2 : c.raw k = false := h.raw
 unfold Ctr.norm
 rw [h2]
 simp [Bool.false_eq_true]
 rw [ha]
 refine Eq.trans h1 ?_
 simp [spF, hr]
theorem z8A {c : Ctr}  {α ρ : Type} {enc : α → List A} {encR : ρ → A} {F : α → Option ρ}  {inj : ∀ x y, enc x = enc y → x = y} (h : c.Has (spF k enc encR F gives inj)) : c.gives k = gives := h.gives
theorem Vu {α ρ : Type} {enc : α → List A} {encR : ρ → A} {F : α → Option ρ}  {inj : ∀ x y, enc x = enc y → x = y} (h : ∀ x r, F x = some r → qH P k (enc x) (encR r)) : (spF k enc encR F gives inj).Ok P := by
 rintro x ⟨r, hr⟩
 have := h x r hr
 simpa only [spF, hr] using this
theorem loN : ([] : List A).map A.loose = [] := rfl
theorem loC (f : α → A) {g : α → A} [h : Qs f g] (x : α) {as_ bs : List A} (k : as_.map A.loose = bs) : (f x :: as_).map A.loose = g x :: bs := by simp [List.map_cons, h.lo, k]
end
open Classical
def Q3 : A → Option (List Value)
 | .atom (.int k x) => some [.int k x]
 | .atom (.string s) => some [.string s]
 | .agg fs => keyLs fs
 | _ => none
where keyLs : List A → Option (List Value)
 | [] => some []
 | a :: as_ => match Q3 a, keyLs as_ with | some x, some y => some (x ++ y) | _, _ => none
def XS (a : A) : Option Value := (Q3 a).map (zT a)
mutual
theorem z0B {S : z8} : ∀ {a : A} {cs l : List Value}, Rep S a cs → Q3 a = some l → cs = l
 | .atom v, cs, l, h, e => by
  cases v <;> simp only [Q3] at e <;> first | (cases e; done) | skip
  all_goals
   simp only [Rep] at h
   cases e
   exact h.1
 | .agg fs, cs, l, h, e => by
  simp only [Rep] at h
  simp only [Q3] at e
  exact JD h e
 | .fn _ _, _, _, _, e => by cases e
 | .tup _, _, _, _, e => by cases e
 | .sl _ _ _, _, _, _, e => by cases e
 | .sptr _, _, _, _, e => by cases e
 | .dop _, _, _, _, e => by cases e
 | .osl _ _ _, _, _, _, e => by cases e
 | .box _, _, _, _, e => by cases e
 | .dead _, _, _, _, e => by cases e
 | .opq _, _, _, _, e => by cases e
theorem JD {S : z8} : ∀ {as_ : List A} {cs l : List Value}, zV S as_ cs → Q3.keyLs as_ = some l → cs = l
 | [], cs, l, h, e => by
  simp only [zV] at h
  simp only [Q3.keyLs] at e
  cases e
  exact h
 | a :: as_, cs, l, h, e => by
  simp only [zV] at h
  obtain ⟨c1, c2, rfl, h1, h2⟩ := h
  simp only [Q3.keyLs] at e
  cases e1 : Q3 a with
  | none => simp only [e1] at e; cases e
  | some x =>
   cases e2 : Q3.keyLs as_ with
   | none => simp only [e1, e2] at e; cases e
   | some y =>
    simp only [e1, e2] at e
    cases e
    rw [z0B h1 e1, JD h2 e2]
end
theorem z0z {S : z8} {a : A} {v kv : Value} (h : wi S a v) (e : XS a = some kv) : v = kv := by
 obtain ⟨cs, h1, rfl⟩ := h
 unfold XS at e
 obtain ⟨l, e1, rfl⟩ := Option.map_eq_some_iff.1 e
 rw [z0B h1 e1]
def Xv (S : z8) (es : List (A × A)) (ents : List MapEntry) : Prop := uV (fun p (e : MapEntry) => XS p.1 = some e.key ∧ wi S p.2 e.val) es ents
def XP (es : List (A × A)) : Opq := {
 holds := fun S h u F => ∃ b ents cl, u = .map (some b) ∧ F = [b] ∧ h[b]? = some (.map ents cl) ∧ (∀ o, S b o = none) ∧ Xv S es ents.toList
 one := fun ⟨_, _, _, e, _⟩ => .inl (by rw [e]; rfl)
 frame := fun hS hF ⟨b, ents, cl, e1, e2, e3, e4, e5⟩ => by
  subst e2
  have ⟨g1, g2⟩ := hF b (by simp)
  exact ⟨b, ents, cl, e1, rfl, g1.trans e3, g2, uV.mono (fun _ _ q => ⟨q.1, q.2.mono hS⟩) e5⟩
 own := fun ⟨b, ents, cl, e1, e2, e3, e4, e5⟩ k hk => by
  subst e2
  simp [List.mem_cons, List.not_mem_nil, or_false] at hk
  subst hk
  exact ⟨(Array.getElem?_eq_some_iff.1 e3).1, e4⟩
 idx := 0 }
noncomputable def jR (k : A) : List (A × A) → Nat → Option (Nat × A)
 | [], _ => none
 | p :: es, i => if XS p.1 = XS k then some (i, p.2) else jR k es (i + 1)
noncomputable def Xe (k : Value) : List MapEntry → Nat → Option (Nat × Value)
 | [], _ => none
 | e :: es, i => if e.key = k then some (i, e.val) else Xe k es (i + 1)
variable {kv : Value}
theorem Q6 {S : z8} {k : A}  (hk : XS k = some kv) : ∀ {es : List (A × A)} {ents : List MapEntry} {i : Nat}, Xv S es ents →
  (jR k es i = none ∧ Xe kv ents i = none) ∨ ∃ j y v, jR k es i = some (j, y) ∧ Xe kv ents i = some (j, v) ∧ wi S y v ∧ i ≤ j ∧ j < i + es.length ∧ (ents[j - i]?).map (·.key) = some kv
 | [], [], i, _ => .inl ⟨rfl, rfl⟩
 | p :: es, e :: ents, i, h => by
  simp only [jR, Xe]
  by_cases hp : XS p.1 = XS k
  ·have he : e.key = kv := by
    have := h.1.1.symm.trans (hp.trans hk)
    simpa using this
   rw [if_pos hp, if_pos he]
   exact .inr ⟨i, p.2, e.val, rfl, rfl, h.1.2, Nat.le_refl _, by simp, by simp [he]⟩
  ·have he : ¬ e.key = kv := fun q => hp (by rw [h.1.1, hk, q])
   rw [if_neg hp, if_neg he]
   rcases Q6 hk (i := i + 1) h.2 with q | ⟨j, y, v, q1, q2, q3, q4, q5, q6⟩
   ·exact .inl q
   ·refine .inr ⟨j, y, v, q1, q2, q3, by omega, by simp only [List.length_cons]; omega, ?_⟩
    rw [show j - i = (j - (i + 1)) + 1 by omega, List.getElem?_cons_succ]
    exact q6
 | [], _ :: _, _, h => h.elim
 | _ :: _, [], _, h => h.elim
structure z5q (P : Program) (t kt et : Nat) (ok : A → Bool) (z : A) : Prop where
 und : P.underlying t = some (.map kt et)
 zero : ∃ zv, (∀ w, (zeroValue et).run P w = .ok zv w) ∧ ∀ S, wi S z zv
 check : ∀ a kv e w, ok a = true → XS a = some kv → (Instr.checkKey e 10000 kt kv).run P w = .ok () w
 find : ∀ a kv, ok a = true → XS a = some kv → ∀ (ents : List MapEntry) (es : List (A × A)), (∀ p ∈ es, ok p.1 = true) → uV (fun p (e : MapEntry) => XS p.1 = some e.key) es ents → ∀ w, (Instr.findKey kt kv ents).run P w = .ok (Xe kv ents 0) w
 bits : ∀ a kv, ok a = true → XS a = some kv → Instr.sameBits 10000 kv kv = true
 key : ∀ a, ok a = true → ∃ kv, XS a = some kv
 zd : z.isD = true
variable {U : List (Nat × Ent)}{es : List (A × A)}{R : List Nat}{o : Oper}{u : Unit}
section
variable {P : Program} {C : Ctx} {S : z8} {Fp : Nat → List Nat} {X : List Nat} {st : St} {a : Act} {w : World} {t kt et : Nat} {ok : A → Bool} {z : A}
noncomputable def z4C (n : Fr) (dst : Option Nat) (es : List (A × A)) (ok : A → Bool) (z : A) (x k : Operand) (two : Bool) : SM Unit := do
 let tx ← opnd x
 let y ← peek tx
 let tk ← opnd k
 let vk ← val tk
 if y = .opq (XP es) ∧ ok vk = true ∧ ∀ p ∈ es, ok p.1 = true then
  wrT n dst (.d (match jR vk es 0 with
   | some (_, v) => if two = true then .tup [v, .atom (.bool true)] else v
   | none => if two = true then .tup [z, .atom (.bool false)] else z))
 else zm
theorem z0t {q : Opq}  (h : yY S (.opq q) v ∨ ∃ cs F, zA S w.heap (.opq q) cs F ∧ v = zT (.opq q) cs) : ∃ F, q.holds S w.heap v F := by
 rcases h with h | ⟨cs, F, h1, h2⟩
 ·simp [yY, wi, Rep, false_and] at h
 ·simp [zA] at h1
  obtain ⟨u, rfl, h1⟩ := h1
  exact ⟨F, by rw [h2]; exact h1⟩
theorem z4A (mt : z5q P t kt et ok z)  {ents : Array MapEntry} {cl b : Nat} (hb : w.heap[b]? = some (.map ents cl)) (he : Xv S es ents.toList) (hok : ∀ p ∈ es, ok p.1 = true) {vk : A}  (hv : ok vk = true) (hk : XS vk = some kv) (two : Bool) :
    ∃ v, (Instr.lookup t (.map (some b)) kv two).run P w = .ok v w ∧ yY S (match jR vk es 0 with
      | some (_, v) => if two = true then .tup [v, .atom (.bool true)] else v
      | none => if two = true then .tup [z, .atom (.bool false)] else z) v := by
  have ⟨zv, z1, z2⟩ := mt.zero
  have hf := mt.find vk kv hv hk ents.toList es hok (uV.mono (fun _ _ q => q.1) he) w
  have hc := mt.check vk kv ents.isEmpty w hv hk
  have run : (Instr.lookup t (.map (some b)) kv two).run P w = (do
        let (v, b) ← match Xe kv ents.toList 0 with
          | some (_, v) => pure (v, true)
          | none => pure (← zeroValue et, false)
        pure (if two then .tuple #[v, .bool b] else v) : Sem Value).run P w := by
    unfold Instr.lookup
    rw [Sem.run_bind, run_underlying mt.und, Result.andThen_ok]
    have hg : (getObj b).run P w = .ok (.map ents cl) w := by simp [getObj, Sem.run, hb]
    simp only [Sem.run_bind, hg, Result.andThen_ok, Sem.run_pure, hc, hf]
    cases Xe kv ents.toList 0 <;> rfl
  rcases Q6 hk (i := 0) he with ⟨q1, q2⟩ | ⟨j, y, v, q1, q2, q3, _⟩
  · rw [q1]
    refine ⟨if two = true then .tuple #[zv, .bool false] else zv, ?_, ?_⟩
    · rw [run, q2]; simp [z1]
    · cases two
      · exact (z2 S).repV
      · simp only [if_true, yY]
        exact ⟨[zv, .bool false], rfl, z2 S, w5.2 ⟨rfl, rfl⟩, trivial⟩
  · rw [q1]
    refine ⟨if two = true then .tuple #[v, .bool true] else v, ?_, ?_⟩
    · rw [run, q2]; simp
    · cases two
      · exact q3.repV
      · simp only [if_true, yY]
        exact ⟨[v, .bool true], rfl, q3, w5.2 ⟨rfl, rfl⟩, trivial⟩
theorem z4B (mt : z5q P t kt et ok z) (h : Sim C S Fp [] st a w)   {x k : Operand} {two : Bool} (ho : o.op = .lookup t x k two)    (e : z4C C.n o.dst es ok z x k two st = some (u, R, U)) : uU P C o a w (z7 U st) := by
 unfold z4C at e
 have ⟨tx, _, hx, e1⟩ := bR (zK h) e
 have ⟨y, _, qx, e2⟩ := bR (X5 h hx) e1
 have ⟨tk, _, hk, e3⟩ := bR (zK h) e2
 have ⟨vk, _, qk, e4⟩ := bR (ub h hk) e3
 split at e4
 ·rename_i hc
  obtain ⟨rfl, c2, c3⟩ := hc
  have ⟨F, b, ents, cl, ev, _, g1, _, g3⟩ := z0t qx
  have ⟨kv, hkv⟩ := mt.key vk c2
  have hkd : a.eval k = kv := by
   refine z0z (S := S) ?_ hkv
   cases vk <;> first | exact qk | (simp only [XS, Q3, Option.map_none] at hkv; cases hkv)
  have ⟨v, r1, r2⟩ := z4A mt g1 g3 c3 c2 hkv two
  have ⟨Fp', hs⟩ := wl h e4 (x := .d _) r2
  exact zo (by simp [execOp, ho, ev, hkd, r1]) hs
 ·cases e4
noncomputable def z5J (es : List (A × A)) (k v : A) : List (A × A) :=
 match jR k es 0 with
 | some (j, _) => es.set j (k, v)
 | none => es ++ [(k, v)]
noncomputable def z8s (es : List (A × A)) (ok : A → Bool) (x k v : Operand) : SM Unit := do
 let tx ← opnd x
 match tx with
 | .als r [] er ec => do
  let e ← rdE r
  let tk ← opnd k
  let vk ← val tk
  let tv ← opnd v
  let vv ← val tv
  if e.t = .own (.opq (XP es)) ∧ e.er = er ∧ ok vk = true ∧ vv.isD = true ∧ ∀ p ∈ es, ok p.1 = true then
   wrE r ⟨.own (.opq (XP (z5J es vk vv))), e.er, e.ec + 1⟩
  else zm
 | _ => zm
theorem z03 {S : z8} : ∀ {es : List (A × A)} {ents : List MapEntry} {j : Nat} {p : A × A} {f : MapEntry → MapEntry}, Xv S es ents → (∀ e, ents[j]? = some e → XS p.1 = some (f e).key ∧ wi S p.2 (f e).val) → Xv S (es.set j p) (ents.modify j f)
 | [], [], j, p, f, _, _ => by simp [List.set_nil, List.modify_nil]; exact trivial
 | q :: es, e :: ents, 0, p, f, h, hf => by
  have := hf e (by simp)
  simp [List.set_cons_zero, List.modify_zero_cons]
  exact ⟨this, h.2⟩
 | q :: es, e :: ents, j + 1, p, f, h, hf => by
  simp [List.set_cons_succ, List.modify_succ_cons]
  exact ⟨h.1, z03 h.2 (fun e' he' => hf e' (by simpa using he'))⟩
 | [], _ :: _, _, _, _, h, _ => h.elim
 | _ :: _, [], _, _, _, h, _ => h.elim
theorem z1I (mt : z5q P t kt et ok z) (h : Sim C S Fp [] st a w)   {x k v : Operand} (ho : o.op = .mapUpdate t x k v ∨ o.op = .insert t x k v) (hd : o.dst = none)    (e : z8s es ok x k v st = some (u, R, U)) : uU P C o a w (z7 U st) := by
 unfold z8s at e
 have ⟨tx, _, hx, e1⟩ := bR (zK h) e
 split at e1
 ·rename_i r er ec
  have ⟨_, e2⟩ := bD e1
  have ⟨tk, _, hk, e3⟩ := bR (zK h) e2
  have ⟨vk, _, qk, e4⟩ := bR (ub h hk) e3
  have ⟨tv, _, hv, e5⟩ := bR (zK h) e4
  have ⟨vv, _, qv, e6⟩ := bR (ub h hv) e5
  split at e6
  ·rename_i hc
   have ⟨c1, c2, c3, c4, c5⟩ := hc
   cases e6
   have hr := h.ent r
   unfold yQ at hr
   simp only [c1] at hr
   have ⟨cs, k1, k2, k3⟩ := hr
   simp only [zA] at k1
   obtain ⟨v0, rfl, b, ents, cl, rfl, hF, g1, g2, g3⟩ := k1
   have hev : a.eval x = .map (some b) := by
    have := hx.2.2
    simp only [c1] at this
    rcases this c2 (.inl trivial) with ⟨_, q⟩ | ⟨q, _⟩
    ·rw [q, k3]; rfl
    ·simp [ZZ] at q
   have ⟨kv, hkv⟩ := mt.key vk c3
   have hkd : a.eval k = kv := by
    refine z0z (S := S) ?_ hkv
    cases vk <;> first | exact qk | (simp only [XS, Q3, Option.map_none] at hkv; cases hkv)
   have hvd : wi S vv (a.eval v) := qv.rep1 c4
   have hf := mt.find vk kv c3 hkv ents.toList es c5 (uV.mono (fun _ _ q => q.1) g3) w
   have hck := mt.check vk kv false w c3 hkv
   have hget : (getObj b).run P w = .ok (.map ents cl) w := by simp [getObj, Sem.run, g1]
   have hset : ∀ o', (setObj b o').run P w = .ok () (w.putObj b o') := by intro o'; simp [setObj, Sem.run, g1, World.putObj]
   have hbM : C.M b := h.base r b (by rw [hF]; simp)
   have hoth : ∀ k o', k ≠ b → (w.putObj b o').heap[k]? = w.heap[k]? := fun k o' hk => World.putObj_heap_other hk
   have hlt : b < w.heap.size := (Array.getElem?_eq_some_iff.1 g1).1
   have fin : ∀ ents' cl' es', Xv S es' ents'.toList → ∃ Fp', Sim C S Fp' [] (upd st r ⟨.own (.opq (XP es')), (st r).er, (st r).ec + 1⟩) a (w.putObj b (.map ents' cl')) := by
    intro ents' cl' es' he'
    refine ⟨_, h.change r (.own (.opq (XP es'))) _ _ [b] ?_ (fun _ _ _ q => q) ?_ h.sbase ?_ ⟨⟨[.map (some b)], ?_, by simp, k3⟩, _, c1⟩ (.inl ⟨_, c1⟩) (Nat.le_refl _) (Nat.lt_succ_self _) ?_ ?_ (by simp) (by simp) (by simp) (by simp)⟩
    ·exact h.below.trans ⟨rfl, rfl, rfl, Nat.le_refl _, by simp [World.putObj], fun k hk => hoth k _ (by rintro rfl; exact hk hbM)⟩
    ·intro b' o' v' hs
     have := h.still b' o' v' hs
     unfold zu at this ⊢
     rw [hoth b' _ (by rintro rfl; rw [g2] at hs; cases hs)]
     exact this
    ·intro t' k' ht' hk'
     exact ⟨hoth k' _ (by rintro rfl; exact ht' (h.disj t' r _ hk' (by rw [hF]; simp))), (h.free t' k' hk').2.1⟩
    ·simp only [zA]
     exact ⟨_, rfl, b, ents', cl', rfl, rfl, World.putObj_heap_same hlt, g2, he'⟩
    ·intro t' k' ht' hk' hk2
     simp only [List.mem_cons, List.not_mem_nil, or_false] at hk'
     subst hk'
     exact ht' (h.disj t' r _ hk2 (by rw [hF]; simp))
    ·intro k' hk'
     simp only [List.mem_cons, List.not_mem_nil, or_false] at hk'
     subst hk'
     exact hbM
   have run : (Instr.mapUpdate t (.map (some b)) kv (a.eval v)).run P w = (do
     match Xe kv ents.toList 0 with
     | some (i, _) => do
      let key ← Instr.keyThatStays (((ents[i]?).map (·.key)).getD kv) kv
      setObj b (.map (ents.modify i fun e => { e with key, val := a.eval v }) cl)
     | none => setObj b (.map (ents.push { key := kv, val := a.eval v, born := cl }) (cl + 1)) : Sem Unit).run P w := by
    unfold Instr.mapUpdate
    rw [Sem.run_bind, run_underlying mt.und, Result.andThen_ok]
    simp only [Sem.run_bind, hget, Result.andThen_ok, hck, hf]
    cases Xe kv ents.toList 0 <;> rfl
   simp only [z7]
   have good : ∀ w', (Instr.mapUpdate t (.map (some b)) kv (a.eval v)).run P w = .ok () w' → ∀ es' Fp', Sim C S Fp' [] (upd st r ⟨.own (.opq (XP es')), (st r).er, (st r).ec + 1⟩) a w' → uU P C o a w (upd st r ⟨.own (.opq (XP es')), (st r).er, (st r).ec + 1⟩) := by
    intro w' hw es' Fp' hs
    refine JJ (w' := w') ?_ hd hs
    rcases ho with ho | ho <;> simp [execOp, ho, hev, hkd, hw]
   rcases Q6 hkv (i := 0) g3 with ⟨q1, q2⟩ | ⟨j, y, v', q1, q2, q3, q4, q5, q6⟩
   ·have he' : Xv S (z5J es vk vv) (ents.push { key := kv, val := a.eval v, born := cl }).toList := by
     simp only [z5J, q1, Array.toList_push]
     exact Qm g3 ⟨⟨hkv, hvd⟩, trivial⟩
    have ⟨Fp', hs⟩ := fin _ (cl + 1) _ he'
    exact good _ (by rw [run, q2]; exact hset _) _ _ hs
   ·have hkey : (ents[j]?).map (·.key) = some kv := by
     simp only [Nat.sub_zero] at q6
     rw [← Array.getElem?_toList]; exact q6
    have he' : Xv S (z5J es vk vv) (ents.modify j fun e => { e with key := kv, val := a.eval v }).toList := by
     simp only [z5J, q1]
     rw [Array.toList_modify]
     exact z03 g3 fun _ _ => ⟨hkv, hvd⟩
    have ⟨Fp', hs⟩ := fin _ cl _ he'
    refine good _ ?_ _ _ hs
    rw [run, q2]
    simp only [hkey, Option.getD_some, Instr.keyThatStays, mt.bits vk kv c3 hkv, if_true, Sem.run_bind, Sem.run_pure, Result.andThen_ok, hset]
  ·cases e6
 ·cases e1
end
section
variable {P : Program} {C : Ctx} {S : z8} {Fp : Nat → List Nat} {X : List Nat} {st : St} {a : Act} {w : World} {t kt et : Nat} {ok : A → Bool} {z : A}
def z2x (n : Fr) (dst : Option Nat) : SM Unit := wrT n dst (.own (.opq (XP [])))
theorem z2w (h : Sim C S Fp [] st a w)  (ho : o.op = .makeMap t none)    (e : z2x C.n o.dst st = some (u, R, U)) : uU P C o a w (z7 U st) := by
 have h2 := h.alloc (by simp) (.map #[] 0)
 have hc : zA S (w.alloc (.map #[] 0)).heap (.opq (XP [])) [.map (some w.heap.size)] [w.heap.size] := by
  simp only [zA]
  exact ⟨_, rfl, w.heap.size, #[], 0, rfl, rfl, heap_alloc_new w _, fun o => h.free_new (Nat.le_refl _) o, trivial⟩
 have ⟨Fp'', hs⟩ := Yf (F := [w.heap.size]) (X := []) h2 e hc (by simp)
 refine zo (v := .map (some w.heap.size)) ?_ hs
 simp [execOp, ho, Instr.makeMap]
noncomputable def z4y (n : Fr) (dst : Option Nat) (es : List (A × A)) (x : Operand) : SM Unit := do
 let tx ← opnd x
 let y ← peek tx
 if y = .opq (XP es) then wrT n dst (.d (.atom (.int .i64 (es.length : Nat)))) else zm
theorem z4x (mt : z5q P t kt et ok z) (h : Sim C S Fp [] st a w)   {x : Operand} (ho : o.op = .call ⟨.builtin .len, ⟨[x]⟩, ⟨[t]⟩⟩)    (e : z4y C.n o.dst es x st = some (u, R, U)) : uU P C o a w (z7 U st) := by
 unfold z4y at e
 have ⟨tx, _, hx, e1⟩ := bR (zK h) e
 have ⟨y, _, qx, e2⟩ := bR (X5 h hx) e1
 split at e2
 ·rename_i hc
  subst hc
  have ⟨F, b, ents, cl, ev, _, g1, _, g3⟩ := z0t qx
  have hl : es.length = ents.size := by simpa using Ql g3
  have ⟨Fp', hs⟩ := wl h e2 (x := .d _) (zw.2 ⟨rfl, rfl⟩)
  refine zo ?_ hs
  have hg : (getObj b).run P w = .ok (.map ents cl) w := by simp [getObj, Sem.run, g1]
  simp [execOp, ho, resolve, invoke, builtin, Builtin.len_, ev, run_underlying mt.und, hg, goInt, hl]
 ·cases e2
end
noncomputable def z5T (n : Fr) (dst : Option Nat) (es : List (A × A)) (ok : A → Bool) (z : A) (x k : Operand) (two : Bool) : HM Unit :=
 ye (opnd x) >>= fun tx => Kv tx >>= fun y => ye (opnd k) >>= fun tk => Qo tk >>= fun vk =>
 YO (y = .opq (XP es) ∧ ok vk = true ∧ ∀ p ∈ es, ok p.1 = true) (eqA (match jR vk es 0 with
   | some (_, v) => if two = true then .tup [v, .atom (.bool true)] else v
   | none => if two = true then .tup [z, .atom (.bool false)] else z) >>= fun r => ye (wrT n dst (.d r)))
theorem z6N (n : Fr) (dst : Option Nat) (es : List (A × A)) (ok : A → Bool) (z : A) (x k : Operand) (two : Bool) : Snd (z4C n dst es ok z x k two) (z5T n dst es ok z x k two) :=
 zb (zk _) fun _ => zb (Vz _) fun _ => zb (zk _) fun _ => zb (kA _) fun _ => Wp (X1 (zQ _ fun r => wrT n dst (.d r)).symm (zb (Kk _) fun _ => zk _))
noncomputable def zcF (es es' : List (A × A)) (ok : A → Bool) (x k v : Operand) : HM Unit := ye (opnd x) >>= fun tx =>
 match tx with
 | .als r [] er ec => ye (rdE r) >>= fun e => ye (opnd k) >>= fun tk => Qo tk >>= fun vk => ye (opnd v) >>= fun tv => Qo tv >>= fun vv =>
  YO (e.t = .own (.opq (XP es)) ∧ e.er = er ∧ ok vk = true ∧ vv.isD = true ∧ ∀ p ∈ es, ok p.1 = true) (YO (z5J es vk vv = es') (ye (wrE r ⟨.own (.opq (XP es')), e.er, e.ec + 1⟩)))
 | _ => zD
theorem z5C (es es' : List (A × A)) (ok : A → Bool) (x k v : Operand) : Snd (z8s es ok x k v) (zcF es es' ok x k v) := by
 refine zb (zk _) fun tx => ?_
 cases tx with
 | als r p er ec =>
  cases p with
  | nil =>
   refine zb (zk _) fun e => zb (zk _) fun tk => zb (kA _) fun vk => zb (zk _) fun tv => zb (kA _) fun vv => Wp ?_
   exact UI fun hq => by rw [hq]; exact zk _
  | cons _ _ => exact zi _
 | _ => exact zi _
noncomputable def z9i (n : Fr) (dst : Option Nat) (es : List (A × A)) (x : Operand) : HM Unit := ye (opnd x) >>= fun tx => Kv tx >>= fun y => YO (y = .opq (XP es)) (eqA (.atom (.int .i64 (es.length : Nat))) >>= fun r => ye (wrT n dst (.d r)))
theorem z95 (n : Fr) (dst : Option Nat) (es : List (A × A)) (x : Operand) : Snd (z4y n dst es x) (z9i n dst es x) :=
 zb (zk _) fun _ => zb (Vz _) fun _ => Wp (X1 (zQ _ fun r => wrT n dst (.d r)).symm (zb (Kk _) fun _ => zk _))
def zcD (P : Program) (d : Nat) : XH P := {
 e := fun n o => match o.op with | .makeMap _ none => if o.dst = some d then some (z2x n o.dst) else none | _ => none
 h := fun n o => match o.op with | .makeMap _ none => if o.dst = some d then some (ye (z2x n o.dst)) else none | _ => none
 ok := by
  refine ⟨?_, ?_⟩
  ·intro C S Fp st a w o m u R U e h h2
   dsimp only at e
   split at e
   ·rename_i ho
    split at e
    ·cases e; exact z2w h ho h2
    ·cases e
   ·cases e
  ·intro n o m e
   dsimp only at e
   split at e
   ·split at e
    ·cases e; exact fun st st' a R U => Loc.wrT _ _ _ st st' a R U
    ·cases e
   ·cases e
 none := by
  intro n o e
  skip
  split at e
  ·split at e
   ·cases e
   ·rename_i hd; rw [if_neg hd]
  ·rfl
 some := by
  intro n o m e
  skip
  split at e
  ·split at e
   ·rename_i hd; cases e; exact ⟨_, by rw [if_pos hd], zk _⟩
   ·cases e
  ·cases e }
variable {t kt et : Nat}{z : A}
noncomputable def z64 {ok : A → Bool}  (mt : z5q P t kt et ok z) (d : Nat) (es : List (A × A)) : XH P := {
 e := fun n o => match o.op with | .lookup t' x k two => if o.dst = some d ∧ t' = t then some (z4C n o.dst es ok z x k two) else none | _ => none
 h := fun n o => match o.op with | .lookup t' x k two => if o.dst = some d ∧ t' = t then some (z5T n o.dst es ok z x k two) else none | _ => none
 ok := by
  refine ⟨?_, ?_⟩
  ·intro C S Fp st a w o m u R U e h h2
   dsimp only at e
   split at e
   ·rename_i t' x k two ho
    split at e
    ·rename_i hd
     obtain ⟨_, rfl⟩ := hd
     cases e; exact z4B mt h ho h2
    ·cases e
   ·cases e
  ·intro n o m e
   dsimp only at e
   split at e
   ·split at e
    ·cases e
     refine Loc.bind (Loc.opnd _) fun _ => Loc.bind (Loc.peek _) fun _ => Loc.bind (Loc.opnd _) fun _ => Loc.bind (Loc.val _) fun _ => Loc.ite (Loc.wrT _ _ _) Loc.fail
    ·cases e
   ·cases e
 none := by
  intro n o e
  skip
  split at e
  ·split at e
   ·cases e
   ·rename_i hd; rw [if_neg hd]
  ·rfl
 some := by
  intro n o m e
  skip
  split at e
  ·split at e
   ·rename_i hd; cases e; exact ⟨_, by rw [if_pos hd], z6N _ _ _ _ _ _ _ _⟩
   ·cases e
  ·cases e }
noncomputable def zcE {ok : A → Bool}  (mt : z5q P t kt et ok z) (d : Nat) (es : List (A × A)) : XH P := {
 e := fun n o => match o.op with | .call ⟨.builtin .len, ⟨[x]⟩, ⟨[t']⟩⟩ => if o.dst = some d ∧ t' = t then some (z4y n o.dst es x) else none | _ => none
 h := fun n o => match o.op with | .call ⟨.builtin .len, ⟨[x]⟩, ⟨[t']⟩⟩ => if o.dst = some d ∧ t' = t then some (z9i n o.dst es x) else none | _ => none
 ok := by
  refine ⟨?_, ?_⟩
  ·intro C S Fp st a w o m u R U e h h2
   dsimp only at e
   split at e
   ·rename_i x t' ho
    split at e
    ·rename_i hd
     obtain ⟨_, rfl⟩ := hd
     cases e; exact z4x mt h ho h2
    ·cases e
   ·cases e
  ·intro n o m e
   dsimp only at e
   split at e
   ·split at e
    ·cases e
     exact Loc.bind (Loc.opnd _) fun _ => Loc.bind (Loc.peek _) fun _ => Loc.ite (Loc.wrT _ _ _) Loc.fail
    ·cases e
   ·cases e
 none := by
  intro n o e
  skip
  split at e
  ·split at e
   ·cases e
   ·rename_i hd; rw [if_neg hd]
  ·rfl
 some := by
  intro n o m e
  skip
  split at e
  ·split at e
   ·rename_i hd; cases e; exact ⟨_, by rw [if_pos hd], z95 _ _ _ _⟩
   ·cases e
  ·cases e }
noncomputable def zeD {ok : A → Bool}  (mt : z5q P t kt et ok z) (q : Nat) (es es' : List (A × A)) : XH P := {
 e := fun n o => match o.op with
  | .mapUpdate t' (.tmp x) k v => if x = q ∧ t' = t ∧ o.dst = none then some (z8s es ok (.tmp x) k v) else none
  | .insert t' (.tmp x) k v => if x = q ∧ t' = t ∧ o.dst = none then some (z8s es ok (.tmp x) k v) else none
  | _ => none
 h := fun n o => match o.op with
  | .mapUpdate t' (.tmp x) k v => if x = q ∧ t' = t ∧ o.dst = none then some (zcF es es' ok (.tmp x) k v) else none
  | .insert t' (.tmp x) k v => if x = q ∧ t' = t ∧ o.dst = none then some (zcF es es' ok (.tmp x) k v) else none
  | _ => none
 ok := by
  have loc : ∀ x k v, Loc (z8s es ok x k v) := by
   intro x k v
   refine Loc.bind (Loc.opnd _) fun tx => ?_
   split
   ·exact Loc.bind (Loc.rdE _) fun _ => Loc.bind (Loc.opnd _) fun _ => Loc.bind (Loc.val _) fun _ => Loc.bind (Loc.opnd _) fun _ => Loc.bind (Loc.val _) fun _ => Loc.ite (Loc.wrE _ _) Loc.fail
   ·exact Loc.fail
  refine ⟨?_, ?_⟩
  ·intro C S Fp st a w o m u R U e h h2
   dsimp only at e
   split at e
   ·rename_i t' x k v ho
    split at e
    ·rename_i hd
     obtain ⟨_, rfl, hd⟩ := hd
     cases e; exact z1I mt h (.inl ho) hd h2
    ·cases e
   ·rename_i t' x k v ho
    split at e
    ·rename_i hd
     obtain ⟨_, rfl, hd⟩ := hd
     cases e; exact z1I mt h (.inr ho) hd h2
    ·cases e
   ·cases e
  ·intro n o m e
   dsimp only at e
   split at e
   ·split at e
    ·cases e; exact loc _ _ _
    ·cases e
   ·split at e
    ·cases e; exact loc _ _ _
    ·cases e
   ·cases e
 none := by
  intro n o e
  skip
  split at e
  ·split at e
   ·cases e
   ·rename_i hd; rw [if_neg hd]
  ·split at e
   ·cases e
   ·rename_i hd; rw [if_neg hd]
  ·rfl
 some := by
  intro n o m e
  skip
  split at e
  ·split at e
   ·rename_i hd; cases e; exact ⟨_, by rw [if_pos hd], z5C _ _ _ _ _ _⟩
   ·cases e
  ·split at e
   ·rename_i hd; cases e; exact ⟨_, by rw [if_pos hd], z5C _ _ _ _ _ _⟩
   ·cases e
  ·cases e }
def Xq {K V : Type} [BEq K] : List (K × V) → K → Option V
 | [], _ => none
 | p :: l, x => if p.1 == x then some p.2 else Xq l x
def z1e {K V : Type} [BEq K] : List (K × V) → K → V → List (K × V)
 | [], x, v => [(x, v)]
 | p :: l, x, v => if p.1 == x then (x, v) :: l else p :: z1e l x v
class zeB {K : Type} [BEq K] (f : K → A) : Prop where
 eq : ∀ x y, (XS (f x) = XS (f y)) ↔ (x == y) = true
def kf {K V : Type} (f : K → A) (g : V → A) (l : List (K × V)) : List (A × A) := l.map fun p => (f p.1, g p.2)
theorem z0N {K V : Type} {f : K → A} {g : V → A} (x : K) : ∀ (l : List (K × V)) (i j : Nat) (y : A), jR (f x) (kf f g l) i = some (j, y) → i ≤ j
 | [], _, _, _, e => by cases e
 | p :: l, i, j, y, e => by
  simp [kf, List.map_cons, jR] at e
  split at e
  ·cases e; exact Nat.le_refl _
  ·exact Nat.le_of_succ_le (z0N x l (i + 1) j y e)
section
variable {K V : Type} [BEq K] {f : K → A} {g : V → A} [hk : zeB f]
theorem Q7 (x : K) : ∀ (l : List (K × V)) (i : Nat), (jR (f x) (kf f g l) i).map (·.2) = (Xq l x).map g
 | [], _ => rfl
 | p :: l, i => by
  simp [kf, List.map_cons, jR, Xq]
  by_cases h : (p.1 == x) = true
  ·rw [if_pos ((hk.eq _ _).2 h), if_pos h]; rfl
  ·rw [if_neg (fun q => h ((hk.eq _ _).1 q)), if_neg h]; exact Q7 x l (i + 1)
theorem z2d (x : K) (v : V) : ∀ (l : List (K × V)) (i : Nat), (match jR (f x) (kf f g l) i with | some (j, _) => (kf f g l).set (j - i) (f x, g v) | none => kf f g l ++ [(f x, g v)]) = kf f g (z1e l x v)
 | [], _ => rfl
 | p :: l, i => by
  simp [kf, List.map_cons, jR, z1e]
  by_cases h : (p.1 == x) = true
  ·rw [if_pos ((hk.eq _ _).2 h), if_pos h]
   simp
  ·rw [if_neg (fun q => h ((hk.eq _ _).1 q)), if_neg h]
   have ih := z2d x v l (i + 1)
   simp [List.map_cons]
   simp [kf] at ih
   cases hf : jR (f x) (l.map fun p => (f p.1, g p.2)) (i + 1) with
   | none =>
    simp [hf] at ih ⊢
    simp [ih]
   | some q =>
    have ⟨j, y⟩ := q
    have hle := z0N (f := f) (g := g) x l (i + 1) j y hf
    simp [hf] at ih ⊢
    rw [show j - i = (j - (i + 1)) + 1 by omega, List.set_cons_succ, ih]
theorem z75 (x : K) (v : V) (l : List (K × V)) : z5J (kf f g l) (f x) (g v) = kf f g (z1e l x v) := by
 have := z2d (f := f) (g := g) x v l 0
 simpa only [Nat.sub_zero, z5J] using this
theorem zeT {z0 : V}  (hz : g z0 = z) (x : K) (l : List (K × V)) : (match jR (f x) (kf f g l) 0 with
      | some (_, v) => if false = true then A.tup [v, .atom (.bool true)] else v
      | none => if false = true then A.tup [z, .atom (.bool false)] else z) = g ((Xq l x).getD z0) := by
  have := Q7 (f := f) (g := g) x l 0
  cases hf : jR (f x) (kf f g l) 0 with
  | none => rw [hf] at this; cases hm : Xq l x with | none => simp [hz] | some y => simp [hm] at this
  | some q => have ⟨j, y⟩ := q; rw [hf] at this; cases hm : Xq l x with | none => simp [hm] at this | some y' => simp [hm] at this; simp [this]
theorem zeS {z0 : V}  (hz : g z0 = z) (x : K) (l : List (K × V)) : (match jR (f x) (kf f g l) 0 with
      | some (_, v) => if true = true then A.tup [v, .atom (.bool true)] else v
      | none => if true = true then A.tup [z, .atom (.bool false)] else z) = .tup [g ((Xq l x).getD z0), .atom (.bool (Xq l x).isSome)] := by
  have := Q7 (f := f) (g := g) x l 0
  cases hf : jR (f x) (kf f g l) 0 with
  | none => rw [hf] at this; cases hm : Xq l x with | none => simp [hz] | some y => simp [hm] at this
  | some q => have ⟨j, y⟩ := q; rw [hf] at this; cases hm : Xq l x with | none => simp [hm] at this | some y' => simp [hm] at this; simp [this]
end
theorem z30 {K V : Type} {f : K → A} {g : V → A} {ok : A → Bool} (h : ∀ x, ok (f x) = true) (l : List (K × V)) : ∀ p ∈ kf f g l, ok p.1 = true := by
 intro p hp
 obtain ⟨q, _, rfl⟩ := List.mem_map.1 hp
 exact h _
theorem z7Z {K V : Type} (f : K → A) (g : V → A) (l : List (K × V)) : A.atom (.int .i64 (((kf f g l).length : Nat) : Int)) = .atom (.int .i64 ((l.length : Nat) : Int)) := by simp [kf]
def z2U : List IntKind → List Value → Bool
 | [], [] => true
 | k :: ks, .int k' _ :: vs => k' == k && z2U ks vs
 | _, _ => false
def WJ (ks : List IntKind) : A → Bool
 | .agg fs => match Q3.keyLs fs with | some l => z2U ks l | none => false
 | _ => false
variable {ks : List IntKind}
theorem ji {a : A} (h : WJ ks a = true) : ∃ l, Q3 a = some l ∧ z2U ks l = true ∧ XS a = some (.agg l.toArray) := by
 unfold WJ at h
 split at h
 ·rename_i fs
  cases e : Q3.keyLs fs with
  | none => simp [e] at h
  | some l =>
   simp [e] at h
   exact ⟨l, by simp [Q3, e], h, by simp [XS, Q3, e, Option.map_some, zT]⟩
 ·cases h
theorem XU : ∀ {ks : List IntKind} {l : List Value}, z2U ks l = true → l.length = ks.length
 | [], [], _ => rfl
 | k :: ks, v :: l, h => by
  cases v <;> simp only [z2U] at h <;> first | (cases h; done) | skip
  simp only [Bool.and_eq_true] at h
  simp [XU h.2]
 | [], _ :: _, h => by cases h
 | _ :: _, [], h => by cases h
theorem z2T : ∀ {ks : List IntKind} {l m : List Value}, z2U ks l = true → z2U ks m = true → ∃ r, zL l m = some r ∧ (r = true ↔ m = l)
 | [], [], [], _, _ => ⟨true, rfl, by simp⟩
 | k :: ks, v :: l, u :: m, h1, h2 => by
  cases v <;> simp only [z2U] at h1 <;> first | (cases h1; done) | skip
  cases u <;> simp only [z2U] at h2 <;> first | (cases h2; done) | skip
  simp only [Bool.and_eq_true, beq_iff_eq] at h1 h2
  obtain ⟨rfl, h1⟩ := h1
  obtain ⟨rfl, h2⟩ := h2
  have ⟨r, q1, q2⟩ := z2T h1 h2
  rename_i a _ b
  refine ⟨(a == b) && r, by simp [zL, q1], ?_⟩
  simp only [Bool.and_eq_true, beq_iff_eq, List.cons.injEq, Value.int.injEq, true_and, q2]
  constructor
  ·rintro ⟨rfl, rfl⟩; exact ⟨rfl, rfl⟩
  ·rintro ⟨rfl, rfl⟩; exact ⟨rfl, rfl⟩
 | [], _ :: _, _, h, _ => by cases h
 | [], [], _ :: _, _, h => by cases h
 | _ :: _, [], _, h, _ => by cases h
 | _ :: _, _ :: _, [], _, h => by cases h
section
variable {P : Program} {t kt et : Nat} {z : A}
theorem z4w {i : Go.Ex.EI} (hu : P.underlying t = some (.map kt et)) (d : TypeDesc) (hk : P.underlying kt = some d) (hx : Go.Ex.z3v P kt i) (he : z3v P kt ks.length) (hn : i.size = ks.length) (hz : ∃ zv, (∀ w, (zeroValue et).run P w = .ok zv w) ∧ ∀ S, wi S z zv) (zd : z.isD = true) : z5q P t kt et (WJ ks) z := {
 und := hu
 zero := hz
 zd := zd
 key := fun a h => by have ⟨l, _, _, h3⟩ := ji h; exact ⟨_, h3⟩
 check := fun a kv e w h hv => by
  have ⟨l, _, h2, h3⟩ := ji h
  rw [h3] at hv
  cases hv
  exact hx.key l e w (by rw [hn]; exact XU h2)
 bits := fun a kv h hv => by
  have ⟨l, _, h2, h3⟩ := ji h
  rw [h3] at hv
  cases hv
  have : ∀ {ks : List IntKind} {l : List Value}, z2U ks l = true → (l.zip l).all (fun (x, y) => Instr.sameBits 9999 x y) = true := by
   intro ks
   induction ks with
   | nil => intro l h; cases l <;> first | rfl | cases h
   | cons k ks ih =>
    intro l h
    cases l with
    | nil => rfl
    | cons v l =>
     cases v <;> simp only [z2U] at h <;> first | (cases h; done) | skip
     simp only [Bool.and_eq_true] at h
     simp only [List.zip_cons_cons, List.all_cons, Bool.and_eq_true]
     exact ⟨by simp [Instr.sameBits], ih h.2⟩
  simp only [Instr.sameBits, beq_self_eq_true, Bool.true_and]
  exact this h2
 find := fun a kv h hv ents es hes hall w => by
  have ⟨l, _, h2, h3⟩ := ji h
  rw [h3] at hv
  cases hv
  have gen : ∀ (ents : List MapEntry) (es : List (A × A)) (i : Nat), (∀ p ∈ es, WJ ks p.1 = true) → uV (fun p (e : MapEntry) => XS p.1 = some e.key) es ents → (Instr.findAsking kt (.agg l.toArray) ents i).run P w = .ok (Xe (.agg l.toArray) ents i) w := by
   intro ents
   induction ents with
   | nil => intro es i _ _; simp [Instr.findAsking, Xe]
   | cons e ents ih =>
    intro es i h1 h2'
    cases es with
    | nil => exact h2'.elim
    | cons p es =>
     have ⟨m, _, g2, g3⟩ := ji (h1 p (by simp))
     have hk2 : e.key = .agg m.toArray := by
      have : XS p.1 = some e.key := h2'.1
      rw [g3] at this
      exact (Option.some.inj this).symm
     have ⟨r, r1, r2⟩ := z2T h2 g2
     have hrun := he.run l m r w (XU h2) (XU g2) r1
     simp only [Instr.findAsking, Xe, Sem.run_bind, show (Op.equal kt (Value.agg l.toArray) e.key).run P w = .ok r w by rw [hk2]; exact hrun, Result.andThen_ok]
     by_cases hlm : m = l
     ·have hr := r2.2 hlm
      subst hlm
      rw [hr]; simp [hk2]
     ·have hr : r = false := by
       cases r
       ·rfl
       ·exact absurd (r2.1 rfl) hlm
      have hne : ¬ e.key = Value.agg l.toArray := by rw [hk2]; intro q; exact hlm (by simpa using q)
      simp only [hr, Bool.false_eq_true, if_false, if_neg hne]
      exact ih es (i + 1) (fun p hp => h1 p (by simp [hp])) h2'.2
  cases ents with
  | nil => simp [Instr.findKey, run_underlying hk, Instr.findNow, Xe]
  | cons e ents =>
   have hn : Instr.findNow d (.agg l.toArray) (e :: ents) 0 = none := by
    simp only [Instr.findNow]
    cases d <;> rfl
   simp only [Instr.findKey, Sem.run_bind, run_underlying hk, Result.andThen_ok, hn]
   exact gen (e :: ents) es 0 hes hall }
end
theorem z3C {t : Nat} {f : TypeInfo}  (h : P.info? t = some f) (hz : f.zero = some v) (w : World) : (zeroValue t).run P w = .ok v w := by simp [zeroValue, typeInfo, h, hz]
def z3t (P : Program) (f : A)  (enc : β → Bool → Value → List A) (F : ∀ {σ : Type}, (σ → β → Option (σ × Bool)) → σ → Option σ) : Prop :=
 ∀ (σ : Type) (yv : Value) (Y : σ → z16) (y : σ → β → Option (σ × Bool)), (∀ s x s' b, y s x = some (s', b) → ∀ v, qG P (.atom yv) (enc x b v) [(yv, .opq (Y s).q)] (.atom (.bool b)) [.opq (Y s').q]) →
  ∀ s s', F y s = some s' → qG P f [.atom yv] [(yv, .opq (Y s).q)] (.tup []) [.opq (Y s').q]
def yOf {σ τ β : Type} (step : σ → β → Option (LR σ τ)) : LR σ τ → β → Option (LR σ τ × Bool)
 | .next s, x => match step s x with | some (.next s') => some (.next s', true) | some (.done t) => some (.done t, false) | none => none
 | .done _, _ => none
def z9o : LR σ τ → Bool
 | .next _ => true
 | .done _ => false
variable {b : Bool}
theorem z3F {σ τ β : Type} {step : σ → β → Option (LR σ τ)} {l l' : LR σ τ} {x : β}  (h : yOf step l x = some (l', b)) : ∃ s, l = .next s ∧ step s x = some l' ∧ b = z9o l' := by
 cases l with
 | done t => cases h
 | next s =>
  simp [yOf] at h
  cases hs : step s x with
  | none => simp [hs] at h
  | some r =>
   cases r with
   | _ => simp [hs, Option.some.injEq, Prod.mk.injEq] at h; obtain ⟨rfl, rfl⟩ := h; exact ⟨s, rfl, hs, rfl⟩
variable {Q : Exit → St → Prop}{caps : List A}{assign body : Code}{ps : List Nat}{g : Operand}
section
variable {σ τ β : Type}
def z1Q (stF : σ → St) (stD : τ → St) : LR σ τ → St
 | .next s => stF s
 | .done t => stD t
def z1x (jc : τ → Code) : LR σ τ → Option Code
 | .next _ => none
 | .done t => some (jc t)
def Ww (rec : Loop) (jc : τ → Code) (l : LR σ τ) : Loop := { rec with state := if (z1x jc l).isNone then .ready else .done, pending := z1x jc l }
theorem AWP.iterF {P : Program} {n : Fr} {st : St} {Q : Exit → St → Prop} {g : Operand} {ps : List Nat} {assign body : Code} {K : Nat} {caps : List A} (live : List Nat) (stF : σ → St) (stD : τ → St) (jc : τ → Code) (enc : β → Bool → Value → List A) {F : ∀ {σ : Type}, (σ → β → Option (σ × Bool)) → σ → Option σ}
  (step : σ → β → Option (LR σ τ)) (s0 : σ) (lr : LR σ τ)
  (hg : zd7 st g = some (.fn K caps)) (hnd : live.Nodup) (h0 : Own.canon live st = stF s0)
  (hcan : ∀ l, (∀ t, (z1Q stF stD l t).t.plain = true) ∧ ∀ t, t ∉ live → (z1Q stF stD l t).t = .gone)
  (hps : ∀ p ∈ ps, p < n.size ∧ p ∉ live ∧ pinned n.pin p = false) (hlen : ∀ x b v, ps.length = (enc x b v).length)
  (hit : z3t P (.fn K caps) enc F) (hF : F (yOf step) (.next s0) = some lr)
  (hround : ∀ (tv : Nat → Value) (s : σ) (x : β) (v : Value) (r : LR σ τ), step s x = some r → AWP P ⟨n.size, live.map (fun t => (t, tv t)) ++ n.pin⟩ assign (Ji (stF s) ps (enc x (z9o r) v)) (fun e st1 => e = .normal ∧ AWP P ⟨n.size, live.map (fun t => (t, tv t)) ++ n.pin⟩ body st1 (fun ex st2 => WS ex = some (z1x jc r) ∧ Own.canon live st2 = z1Q stF stD r)))
  (hend : zep P n (z1Q stF stD lr) Q (z1x jc lr)) : AWP P n (.rangeFunc g ps.toArray assign body) st Q := by
 intro rd mm df w0 S0 M S Fp a w hc hs
 obtain ⟨us, hev, hreps⟩ : ∃ us : List Value, a.eval g = .func (.func K) #[] us.toArray ∧ wi S (.fn K caps) (a.eval g) := by
  unfold zd7 at hg
  split at hg
  ·rename_i t
   split at hg
   ·rename_i x ht
    cases hg
    have q := hs.ent t
    unfold yQ at q
    simp [ht] at q
    have q1 : wi S (.fn K caps) (Act.tv a t) := q.1
    have ⟨cs, c1, c2⟩ := q1
    have c1' := c1
    simp [Rep] at c1
    obtain ⟨us, _, _, rfl⟩ := c1
    exact ⟨us, c2, ⟨_, c1', c2⟩⟩
   ·cases hg
  ·cases hg
 have ⟨Fp0, hs0, hd0⟩ := hs.canonD (hc.post hs) live
 rw [h0] at hs0
 refine wpIn_rangeFunc ?_
 intro fn hfn
 have ⟨df', wA, dq, en1, en2, en3⟩ := zc8 (P := P) hc hs0 hd0 fn ps.toArray assign body
 generalize (df'.map mark).take (df'.length - df.length) = mk at en1 en2
 obtain ⟨rec, hrec⟩ : ∃ q : Loop, q = { state := .ready, pending := none, fn, tmps := a.tmps, params := ps.toArray, assign, body, defers := dq } := ⟨_, rfl⟩
 rw [← hrec] at en1
 have hs1 := en2.newObj (.loop rec)
 have hl : (wA.alloc (.loop rec)).heap[wA.heap.size]? = some (.loop rec) := World.alloc_heap_new wA _
 have hfr : ∀ t k, k ∈ Fp0 t → k < wA.heap.size := fun t k hk => (en2.free t k hk).1
 have hlF : ∀ t, wA.heap.size ∉ Fp0 t := fun t hk => by have := hfr t _ hk; omega
 have hSl : ∀ o, S wA.heap.size o = none := by
  intro o
  cases hq : S wA.heap.size o with
  | none => rfl
  | some v => have := en2.still_lt hq; omega
 have hrec0 : ∀ s, Ww rec jc (LR.next s : LR σ τ) = rec := by intro s; rw [hrec]; rfl
 have hY : ∀ (l : LR σ τ) (x : β) (l' : LR σ τ) (b : Bool), yOf step l x = some (l', b) → ∀ v, qG P (.atom (.func (.yield wA.heap.size) #[] #[])) (enc x b v) [(.func (.yield wA.heap.size) #[] #[], .opq (z1g wA.heap.size (Ww rec jc l) (qK a.tmps) (z1Q stF stD l) (hcan l).1 0))] (.atom (.bool b))
   [.opq (z1g wA.heap.size (Ww rec jc l') (qK a.tmps) (z1Q stF stD l') (hcan l').1 0)] := by
  intro l x l' b hy v
  obtain ⟨s, rfl, hst, rfl⟩ := z3F hy
  have htm : (Ww rec jc (LR.next s : LR σ τ)).tmps = a.tmps := by rw [hrec0, hrec]
  have hb : z9o l' = (z1x jc l').isNone := by cases l' <;> rfl
  have r := z4d (P := P) (n := ⟨n.size, live.map (fun t => (t, qK a.tmps t)) ++ n.pin⟩) (l := wA.heap.size) (rec := Ww rec jc (LR.next s : LR σ τ)) (ps := ps) (ys := enc x (z9o l') v) (st0 := stF s) (st1 := z1Q stF stD l') (i := 0) (i2 := 0) (live := live) (jc := z1x jc l') (hcan (.next s)).1 (hcan l').1
   (by rw [hrec0, hrec]) (by rw [hrec0, hrec]) (by rw [htm]; exact hs.size)
   (by
    intro j u hj
    rw [htm]
    rcases List.mem_append.1 hj with hj | hj
    ·have ⟨t, ht, he⟩ := List.mem_map.1 hj
     cases he
     rfl
    ·exact hs.pin j u hj)
   (fun t ht => by rw [htm]; exact List.mem_append.2 (.inl (List.mem_map.2 ⟨t, ht, rfl⟩))) hnd
   (fun p hp => by
    have ⟨p1, p2, p3⟩ := hps p hp
    refine ⟨p1, (hcan (.next s)).2 p p2, ?_⟩
    have gen : ∀ l : List Nat, p ∉ l → pinned (l.map (fun t => (t, qK a.tmps t)) ++ n.pin) p = false := by
     intro l
     induction l with
     | nil => intro _; exact p3
     | cons t l ih =>
      intro hl
      simp [List.mem_cons, not_or] at hl
      simp [List.map_cons, List.cons_append, pinned, ih hl.2, Bool.or_false]
      simpa using Ne.symm hl.1
    exact gen live p2) (hlen x _ v)
   (by
    have := hround (qK a.tmps) s x v l' hst
    rw [hrec0, hrec]
    exact this)
  have e : ({ Ww rec jc (LR.next s : LR σ τ) with state := if (z1x jc l').isNone then .ready else .done, pending := z1x jc l' } : Loop) = Ww rec jc l' := rfl
  rw [e] at r
  simp [htm] at r
  rw [← hb] at r
  exact r
 have hL := hit _ _ (fun l => (z1g wA.heap.size (Ww rec jc l) (qK a.tmps) (z1Q stF stD l) (hcan l).1 0).single rfl) (yOf step) hY _ _ hF S (wA.alloc (.loop rec)) (a.eval g) [.func (.yield wA.heap.size) #[] #[]] (wA.heap.size :: live.flatMap Fp0) hs1.still hreps ⟨w5.2 ⟨rfl, rfl⟩, trivial⟩
  ⟨_, [], rfl, z2m ⟨rfl, by rw [hrec0]; exact hl, hSl, Fp0, (fun t => hs1.ent t), en2.disj, hlF, (fun k => by
   simp [List.mem_cons, List.mem_flatMap]
   constructor
   ·rintro (rfl | ⟨t, _, ht⟩)
    ·exact .inl rfl
    ·exact .inr ⟨t, ht⟩
   ·rintro (rfl | ⟨t, ht⟩)
    ·exact .inl rfl
    ·refine .inr ⟨t, ?_, ht⟩
     apply Classical.byContradiction
     intro hn
     have q := en2.ent t
     unfold yQ at q
     have hg := (hcan (.next s0)).2 t hn
     simp [z1Q] at hg
     simp [hg] at q
     rw [q] at ht
     simp at ht)⟩ (z0o en2 hnd hlF), rfl⟩ (z0o en2 hnd hlF)
 rcases hL with ⟨k, cs, fn', a1, a2, a3, a4, a5⟩ | ⟨L, q, a1, _⟩
 rotate_left
 ·rw [hev] at a1; cases a1
 refine ⟨wA.heap.size, mk, wA.alloc (.loop rec), { target := .fn (.func k) cs, args := #[.func (.yield wA.heap.size) #[] #[]] }, wA.alloc (.loop rec), k, #[.func (.yield wA.heap.size) #[] #[]] ++ cs, wA.alloc (.loop rec), en1, ?_, fun _ _ => trivial, ?_, fun h => (by cases h), ?_⟩
 ·simp [resolve, a1]
  simp [go_sem]
 ·simp [invoke]
  exact uP a2 a3 a4 _ _
 ·refine (qD a5 rd (mm - 1)).mono ?_
  rintro e w' ⟨v', rfl, S', F', G, b1, b2, b3, b4, _, b6, _, b8⟩
  have ⟨G1, G2, hGe, b6, hnil⟩ := b6
  have hG2 : G2 = [] := hnil
  subst hG2
  simp [List.nil_append] at hGe
  subst hGe
  have ⟨_, c2, c3, Fp', c4, c5, c6, c7⟩ := z2M b6
  have hnb : (Ww rec jc lr).state ≠ .busy := by
   simp [Ww]
   cases lr <;> simp [z1x]
  have hpend : (Ww rec jc lr).pending = z1x jc lr := rfl
  refine ⟨_, _, run_endLoop c2 hnb, ?_⟩
  rw [hpend]
  have hMl : M wA.heap.size := en2.mine _ en2.below.size
  have hMn : ∀ k, ((wA.alloc (.loop rec)).heap.size ≤ k ∨ k ∈ wA.heap.size :: live.flatMap Fp0) → M k := by
   rintro k (hk | hk)
   ·exact hs1.mine k (Nat.le_trans hs1.below.size hk)
   ·rcases List.mem_cons.1 hk with rfl | hk
    ·exact hMl
    ·have ⟨t, _, ht⟩ := List.mem_flatMap.1 hk
     exact en2.base t k ht
  have hout : ∀ t k, k ∈ Fp' t → ((wA.alloc (.loop rec)).heap.size ≤ k ∨ k ∈ wA.heap.size :: live.flatMap Fp0) := fun t k hk => b8 k (List.mem_append.2 (.inl ((c7 k).2 (.inr ⟨t, hk⟩))))
  have hpf : ∀ o, Sim ⟨n, df', w0, S0, M⟩ S' Fp' [] (z1Q stF stD lr) { a with defers := mk ++ a.defers } (w'.putObj wA.heap.size o) := by
   intro o
   refine { size := hs.size, pin := hs.pin, defers := en2.defers, below := ?_, mine := hs.mine, still := ?_, sinc := fun b o v q => b2 _ _ _ (en2.sinc _ _ _ q), sbase := ?_, ent := ?_, disj := c5, base := fun t k hk => hMn k (hout t k hk), xn := by simp, xd := by simp, xb := by simp }
   ·exact (hs1.below.trans (b1.mono hMn)).trans ⟨rfl, rfl, rfl, Nat.le_refl _, by simp [World.putObj], fun k hk => World.putObj_heap_other (by rintro rfl; exact hk hMl)⟩
   ·refine ⟨?_, b4.gok, b4.blk.of (fun _ _ _ q => q) fun g x e => World.putObj_heap_other (by rintro rfl; exact b4.blk.ne (c3 0) x e)⟩
    intro b i v q
    have hne : b ≠ wA.heap.size := by rintro rfl; rw [c3] at q; cases q
    have := b4 b i v q
    unfold zu at this ⊢
    rw [World.putObj_heap_other hne]
    exact this
   ·intro b i hb
    rcases Nat.lt_or_ge b (wA.alloc (.loop rec)).heap.size with hlt | hge
    ·rw [b3 b i hlt (fun hF => hb (hMn b (.inr hF)))]
     exact en2.sbase b i hb
    ·exact absurd (hMn b (.inl hge)) hb
   ·intro t
    exact (c4 t).frame ((hcan lr).1 t) (fun _ _ _ q => q) (fun k hk => ⟨World.putObj_heap_other (by rintro rfl; exact c6 t hk), ((c4 t).owns ((hcan lr).1 t) k hk).2⟩)
  have hdp : ∀ o, uu df M df' Fp' (w'.putObj wA.heap.size o) := by
   intro o
   have hlt : ∀ D ∈ df', D < wA.heap.size := fun D hD => (Array.getElem?_eq_some_iff.1 (en3.ent D hD)).1
   have hno : ∀ D ∈ df', ¬ ((wA.alloc (.loop rec)).heap.size ≤ D ∨ D ∈ wA.heap.size :: live.flatMap Fp0) := by
    rintro D hD (q | q)
    ·have := hlt D hD
     have h3 : (wA.alloc (.loop rec)).heap.size = wA.heap.size + 1 := by simp
     omega
    ·rcases List.mem_cons.1 q with rfl | q
     ·have := hlt _ hD; omega
     ·have ⟨t, _, ht⟩ := List.mem_flatMap.1 q
      exact en3.off D hD t ht
   refine ⟨en3.nodup, fun D hD => ?_, fun D hD t ht => hno D hD (hout t D ht), en3.old⟩
   rw [World.putObj_heap_other (by have := hlt D hD; omega), b1.block D (hno D hD), World.alloc_old _ (hlt D hD)]
   exact en3.ent D hD
  cases lr with
  | next s => exact ⟨df', stF s, S', Fp', hpf _, hdp _, hend⟩
  | done t => exact AWP.go hend hc (hpf _) (hdp _)
end
def WC (live : List Nat) (l : List (Nat × T)) : Bool := l.all fun q => live.contains q.1 && q.2.plain
theorem z2t : ∀ (l : List (Nat × T)) (t : Nat), ofL l t = ⟨(ofL l t).t, 0, 0⟩
 | [], t => rfl
 | p :: l, t => by
  simp [ofL]
  split
  ·rfl
  ·exact z2t l t
theorem WB {live : List Nat} : ∀ {l : List (Nat × T)}, WC live l = true → (∀ t, (ofL l t).t.plain = true) ∧ ∀ t, t ∉ live → (ofL l t).t = .gone
 | [], _ => ⟨fun _ => rfl, fun _ _ => rfl⟩
 | p :: l, h => by
  simp only [WC, List.all_cons, Bool.and_eq_true] at h
  obtain ⟨h1, h2⟩ := WB (l := l) (by simpa only [WC] using h.2)
  constructor
  ·intro t
   simp only [ofL]
   split
   ·exact h.1.2
   ·exact h1 t
  ·intro t ht
   simp only [ofL]
   split
   ·rename_i e
    subst e
    exact absurd (List.contains_iff_mem.1 h.1.1) ht
   ·exact h2 t ht
variable {l : List (Nat × T)}
theorem V0 {live : List Nat}  (h : WC live l = true) : Own.canon live (ofL l) = ofL l := by
 have ⟨h1, h2⟩ := WB h
 funext t
 rw [qS]
 by_cases ht : t ∈ live
 ·rw [if_pos ht]
  have h3 := h1 t
  rw [z2t l t]
  unfold z5g
  cases hx : (ofL l t).t with
  | als r p er ec => rw [hx] at h3; cases h3
  | ptr r p er ec => rw [hx] at h3; cases h3
  | _ => rfl
 ·rw [if_neg ht, z2t l t, h2 t ht]
  rfl
theorem AWP.weak {Q Q' : Exit → St → Prop} (h : AWP P n c st Q') (hq : ∀ e st, Q' e st → ∃ live l m, Own.canon live st = ofL l ∧ LeL l m ∧ Q e (ofL m)) : AWP P n c st Q := by
 intro rd mm df w0 S0 M S Fp a w hc hs
 refine wpIn_mono (h rd mm df w0 S0 M S Fp a w hc hs) ?_
 rintro e a' w' ⟨df', st1, S1, Fp1, h1, h2, h3⟩
 have ⟨live, l, m, e1, e2, e3⟩ := hq _ _ h3
 have ⟨Fp2, g1, g2⟩ := Sim.canonD h1 h2 live
 rw [e1] at g1
 exact ⟨df', ofL m, S1, Fp2, e2.or.elim (fun e => e ▸ g1) fun h => g1.le h.ent, g2, e3⟩
def zcL : List (Nat × T) → List Nat → List A → List (Nat × T)
 | l, p :: ps, y :: ys => zcL ((p, .d y) :: l) ps ys
 | l, _, _ => l
theorem z0l : ∀ (ps : List Nat) (ys : List A) (l : List (Nat × T)), Ji (ofL l) ps ys = ofL (zcL l ps ys)
 | [], _, l => by cases l <;> rfl
 | _ :: _, [], l => by cases l <;> rfl
 | p :: ps, y :: ys, l => z0l ps ys ((p, .d y) :: l)
def zeR (n : Fr) (ps live : List Nat) : Bool := ps.all fun p => decide (p < n.size) && (!live.contains p && !pinned n.pin p)
section
variable {σ τ β : Type}
def zcp (stF : σ → List (Nat × T)) (stD : τ → List (Nat × T)) : LR σ τ → List (Nat × T)
 | .next s => stF s
 | .done t => stD t
def itQ (live : List Nat) (stF : σ → List (Nat × T)) (stD : τ → List (Nat × T)) (jc : τ → Code) (r : LR σ τ) (ex : Exit) (st : St) : Prop :=
 WS ex = some (z1x jc r) ∧ ∃ l', Own.canon live st = ofL l' ∧ LeL l' (zcp stF stD r)
theorem z3k {P : Program} {n : Fr} {Q : Exit → St → Prop}  {fs : List Fm} {st0 : St}    {K : Nat} {caps : List A} (e : c = .rangeFunc g ps.toArray assign body) (live : List Nat) (stF : σ → List (Nat × T)) (stD : τ → List (Nat × T)) (jc : τ → Code) (enc : β → Bool → Value → List A) {F : ∀ {σ : Type}, (σ → β → Option (σ × Bool)) → σ → Option σ}
  (step : σ → β → Option (LR σ τ)) (s0 : σ) (lr : LR σ τ) (l0 : List (Nat × T)) (hs : Own.canon live st0 = ofL l0) (hl : LeL l0 (stF s0)) (hg : zd7 (ofL (stF s0)) g = some (.fn K caps)) (hnd : live.Nodup) (hp : ∀ s, WC live (stF s) = true) (hp2 : ∀ t, WC live (stD t) = true)
  (hps : zeR n ps live = true) (hlen : ∀ x b v, ps.length = (enc x b v).length) (hit : z3t P (.fn K caps) enc F) (hF : F (yOf step) (.next s0) = some lr)
  (hround : ∀ (tv : Nat → Value) (s : σ) (x : β) (v : Value) (r : LR σ τ), step s x = some r → AWP P ⟨n.size, live.map (fun t => (t, tv t)) ++ n.pin⟩ assign (ofL (zcL (stF s) ps (enc x (z9o r) v)))
   (Qf P ⟨n.size, live.map (fun t => (t, tv t)) ++ n.pin⟩ [] (fun e st1 => e = .normal ∧ AWP P ⟨n.size, live.map (fun t => (t, tv t)) ++ n.pin⟩ body st1 (Qf P ⟨n.size, live.map (fun t => (t, tv t)) ++ n.pin⟩ [] (itQ live stF stD jc r)))))
  (hend : zep P n (ofL (zcp stF stD lr)) (Qf P n fs Q) (z1x jc lr)) : AWP P n c st0 (Qf P n fs Q) := by
 subst e
 refine AWP.canon live ?_
 rw [hs]
 refine z8l hl ?_
 have hst : ∀ l : LR σ τ, z1Q (fun s => ofL (stF s)) (fun t => ofL (stD t)) l = ofL (zcp stF stD l) := by intro l; cases l <;> rfl
 have hpl : ∀ l : LR σ τ, WC live (zcp stF stD l) = true := by
  intro l
  cases l with
  | next s => exact hp s
  | done t => exact hp2 t
 refine AWP.iterF live (fun s => ofL (stF s)) (fun t => ofL (stD t)) jc enc step s0 lr hg hnd (V0 (hp s0)) (fun l => by rw [hst]; exact WB (hpl l)) ?_ hlen hit hF ?_ (by rw [hst]; exact hend)
 ·intro p hp
  have := List.all_eq_true.1 hps p hp
  simp only [Bool.and_eq_true, decide_eq_true_eq, Bool.not_eq_true'] at this
  exact ⟨this.1, fun h => by rw [List.contains_iff_mem.2 h] at this; simp at this, this.2.2⟩
 ·intro tv s x v r hr
  rw [z0l]
  refine AWP.mono (hround tv s x v r hr) ?_
  rintro e st1 ⟨h1, h2⟩
  refine ⟨h1, AWP.weak h2 ?_⟩
  rintro ex st2 ⟨hj, l', q1, q2⟩
  refine ⟨live, l', _, q1, q2, hj, ?_⟩
  rw [V0 (hpl r), hst]
end
section
variable {P : Program} {tt : TT} {ctr : Ctr} {n : Fr} {Q : Exit → St → Prop}
theorem V3 {J : St → Prop} : ∀ {fs : List Fm} {st : St}, unw fs = .stop (.back J) → J st → Qf P n fs Q .normal st
 | [], _, e, _ => by cases e
 | .seq z :: fs, _, e, h => by cases e
 | .blk id :: fs, _, e, h => V3 (fs := fs) (by simpa only [unw] using e) h
 | .pre J :: fs, _, e, h => by
  simp [unw, Nxt.stop.injEq, z14.back.injEq] at e
  subst e
  exact h
 | .rnd (m + 1) c :: fs, _, e, h => by cases e
 | .rnd 0 _ :: _, _, e, _ => by cases e
theorem zcd {live : List Nat} {st0 : St}  (h0 : canon live st0 = ofL l) (h : AWP P n c (ofL l) Q) : AWP P n c st0 Q := by
 refine AWP.canon live ?_
 rw [h0]
 exact h
end
def YOk (P : Program) (yv : Value) {σ β : Type} (Y : σ → z16) (enc : β → Bool → Value → List A) (y : σ → β → Option (σ × Bool)) : Prop :=
 ∀ s x s' b, y s x = some (s', b) → ∀ v, qG P (.atom yv) (enc x b v) [(yv, .opq (Y s).q)] (.atom (.bool b)) [.opq (Y s').q]
theorem z2I {tt : TT}   {body : Code} {nt : Nat} {caps : List A}  {enc : β → Bool → Value → List A} {F : ∀ {σ : Type}, (σ → β → Option (σ × Bool)) → σ → Option σ} (hT : ut P tt) (hf : P.funcs[k]? = some fn) (hnm : (fn.name == "runtime.NumGoroutine") = false) (hb : fn.body = some body)
  (hn : nt = fn.ntmps) (hr : fn.results = #[]) (ha : caps.length + 1 ≤ fn.ntmps)
  (h : ∀ (σ : Type) (yv : Value) (Y : σ → z16) (y : σ → β → Option (σ × Bool)), YOk P yv Y enc y → ∀ s s', F y s = some s' → ∀ E : Exit → St → Prop, (∀ ex st, (ex = .normal ∨ ex = .ret) → canon [0] st = ofL [(0, .own (.opq (Y s').q))] → E ex st) →
   AWP P ⟨nt, [(0, yv)]⟩ body (ofL (z4N 0 (.opq (Y s).q :: caps))) (Qf P ⟨nt, [(0, yv)]⟩ [] E)) : z3t P (.fn k caps) enc F := by
 subst hn
 intro σ yv Y y hy s s' hs
 refine JA (tt := tt) (rs := []) [0] (args := [.atom yv]) (caps := caps) (xs := [.opq (Y s).q]) (vals := [yv]) hT hf hnm hb hr (by simpa using ha) (by simp) (by simp) rfl ?_
 rw [z2K]
 refine h σ yv Y y hy s s' hs _ ?_
 intro ex st hx hc
 refine ⟨hx, ?_⟩
 have h0 := congrFun hc 0
 rw [qS] at h0
 simp only [List.mem_singleton, if_true, ofL, Ent.mk.injEq, and_true] at h0
 have h1 : (st 0).t = .own (.opq (Y s').q) := by
  unfold z5g at h0
  cases hx : (st 0).t with
  | own a => simpa only [hx] using h0
  | d a => simp only [hx] at h0; cases h0
  | gone => simp only [hx] at h0; cases h0
  | _ => simp only [hx] at h0; split at h0 <;> cases h0
 have h2 : Xp [0] st = some ([.opq (Y s').q], [0], []) := by
  simp only [Xp]
  show SM.bind (rdE 0) _ st = _
  unfold SM.bind
  simp only [rdE, z7, h1]
  rfl
 refine ⟨[0], [], ?_⟩
 simp only [zcx, List.map_nil]
 show SM.bind (shutArgs tt []) _ st = _
 unfold SM.bind
 simp only [shutArgs]
 simp only [pure, SM.pure, bind, SM.bind, z7, h2]
 rfl
def z4h (tt : TT) (n : Fr) (ty : Nat) (x : T) : HM A :=
 match x with
 | .als r p er ec =>
  match z4o n.pin r with
  | some _ => ye (refT tt n ty (.als r p er ec))
  | none => Vv tt ty (.als r p er ec)
 | x => Vv tt ty x
theorem z92 (tt : TT) (n : Fr) (ty : Nat) (x : T) : Snd (refT tt n ty x) (z4h tt n ty x) := by
 cases x with
 | als r p er ec =>
  cases hp : z4o n.pin r with
  | some v => simp [z4h, hp]; exact zk _
  | none => simp [z4h, refT, hp]; exact kB tt ty (.als r p er ec)
 | d a => exact kB tt ty (.d a)
 | own a => exact kB tt ty (.own a)
 | ptr r p er ec => exact kB tt ty (.ptr r p er ec)
 | gone => exact kB tt ty .gone
def Yu (tt : TT) (n : Fr) : List (Operand × Nat) → HM (List A)
 | [] => pure []
 | (x, t) :: as_ => ye (opnd x) >>= fun y => z4h tt n t y >>= fun a => Yu tt n as_ >>= fun bs => pure (a :: bs)
theorem Ys (tt : TT) (n : Fr) : ∀ as_, Snd (refArgs tt n as_) (Yu tt n as_)
 | [] => xe _
 | (x, t) :: as_ => zb (zk _) fun y => zb (z92 _ _ _ _) fun a => zb (Ys tt n as_) fun bs => xe _
open Classical in
noncomputable def z6C (yv : Value) {σ β : Type} (Y : σ → z16) (enc : β → Bool → Value → List A) (s : σ) (x : β) (s' : σ) (b : Bool) (v : Value) (f : A) (xs : List A) (ls : List (Value × A)) : Option (A × List A) :=
 if f = .atom yv ∧ ls = [(yv, .opq (Y s).q)] ∧ (∀ S vs, uV (wi S) xs vs → uV (wi S) (enc x b v) vs) then some (.atom (.bool b), [.opq (Y s').q]) else none
variable {yv : Value}
theorem z6B {σ β : Type} {Y : σ → z16} {enc : β → Bool → Value → List A} {y : σ → β → Option (σ × Bool)} (hy : YOk P yv Y enc y) {s : σ} {x : β} {s' : σ}  (v : Value) (h : y s x = some (s', b)) :
  ∀ f xs ls r ys, z6C yv Y enc s x s' b v f xs ls = some (r, ys) → qG P f xs ls r ys := by
 intro f xs ls r ys e
 unfold z6C at e
 split at e
 ·rename_i hc
  obtain ⟨rfl, rfl, h3⟩ := hc
  cases e
  intro S w fv vs F hS hfv hvs
  exact hy s x s' b h v S w fv vs F hS hfv (h3 S vs hvs)
 ·cases e
theorem z1M {σ β : Type} {Y : σ → z16} {enc : β → Bool → Value → List A} {s : σ} {x : β} {s' : σ}   (xs : List A) (h : z1z xs (enc x b v)) : z6C yv Y enc s x s' b v (.atom yv) xs [(yv, .opq (Y s).q)] = some (.atom (.bool b), [.opq (Y s').q]) := by
 unfold z6C
 rw [if_pos ⟨rfl, rfl, h.all⟩]
noncomputable def z0w (tt : TT) (tab : A → List A → List (Value × A) → Option (A × List A)) (r : A) (ys : List A) (n : Fr) (dst : Option Nat) (f : Operand) (as_ : List (Operand × Nat)) (L : List Nat) : HM Unit :=
 Yu tt n [(f, 0)] >>= fun fs => Yu tt n as_ >>= fun xs => ye (lentsA n L) >>= fun ls =>
  match fs with
  | [fa] => z77 (tab fa xs ls = some (r, ys)) >>= fun _ => ye (backsA L ys >>= fun _ => wrT n dst (mkT r))
  | _ => zD
theorem z1Z (tt : TT) (tab : A → List A → List (Value × A) → Option (A × List A)) (r : A) (ys : List A) (n : Fr) (dst : Option Nat) (f : Operand) (as_ : List (Operand × Nat)) (L : List Nat) : Snd (lentQ tt tab n dst f as_ L) (z0w tt tab r ys n dst f as_ L) := by
 unfold lentQ z0w
 refine zb (Ys _ _ _) fun fs => zb (Ys _ _ _) fun xs => zb (zk _) fun ls => ?_
 rcases fs with _ | ⟨fa, _ | ⟨z, l⟩⟩
 ·exact zi _
 ·refine UI fun h => ?_
  simp [h]
  exact zk _
 ·exact zi _
noncomputable def Qu (tt : TT)  {σ β : Type} {Y : σ → z16} {enc : β → Bool → Value → List A} {y : σ → β → Option (σ × Bool)} (hy : YOk P yv Y enc y) (d : Nat) {s : σ} {x : β} {s' : σ}  (v : Value) (h : y s x = some (s', b)) : XH P := {
 e := jT tt (z6C yv Y enc s x s' b v) d [0]
 h := fun n o => match o.op with
  | .call ⟨.value f, args, tys⟩ => if o.dst = some d ∧ args.size = tys.size then some (z0w tt (z6C yv Y enc s x s' b v) (.atom (.bool b)) [.opq (Y s').q] n o.dst f (args.toList.zip tys.toList) [0]) else none
  | _ => none
 ok := VW (z6B hy v h) d [0]
 none := by
  intro n o e
  unfold jT at e
  split at e
  ·rename_i ho
   split at e
   ·cases e
   ·rename_i hd; simp [ho, if_neg hd]
  ·rename_i hne
   split
   ·rename_i ho2; exact absurd ho2 (by intro h; exact hne _ _ _ h)
   ·rfl
 some := by
  intro n o m e
  unfold jT at e
  split at e
  ·rename_i ho
   split at e
   ·rename_i hd; cases e
    refine ⟨_, ?_, z1Z tt (z6C yv Y enc s x s' b v) (.atom (.bool b)) [.opq (Y s').q] n o.dst _ _ [0]⟩
    rw [ho]
    exact if_pos hd
   ·cases e
  ·cases e }
variable {M : Nat → Prop}{df : List Nat}{w0 : World}
theorem Sim.pinned {S0 : z8}  {S : z8}  {X : List Nat}   {w : World} (h : Sim ⟨n, df, w0, S0, M⟩ S Fp X st a w) (k : Nat) : Sim ⟨⟨n.size, (k, Act.tv a k) :: n.pin⟩, df, w0, S0, M⟩ S Fp X st a w := {
 size := h.size
 pin := fun j u hj => by
  rcases List.mem_cons.1 hj with e | hj
  ·cases e; rfl
  ·exact h.pin j u hj
 defers := h.defers
 below := h.below
 mine := h.mine
 still := h.still
 sinc := h.sinc
 sbase := h.sbase
 ent := h.ent
 disj := h.disj
 base := h.base
 xn := h.xn
 xd := h.xd
 xb := h.xb }
theorem Sim.unpinned {S0 : z8}  {S : z8}  {X : List Nat}   {w : World} (h : Sim ⟨⟨n.size, (k, v) :: n.pin⟩, df, w0, S0, M⟩ S Fp X st a w) : Sim ⟨n, df, w0, S0, M⟩ S Fp X st a w := {
 size := h.size
 pin := fun j u hj => h.pin j u (List.mem_cons_of_mem _ hj)
 defers := h.defers
 below := h.below
 mine := h.mine
 still := h.still
 sinc := h.sinc
 sbase := h.sbase
 ent := h.ent
 disj := h.disj
 base := h.base
 xn := h.xn
 xd := h.xd
 xb := h.xb }
theorem AWP.pin (k : Nat) (h : ∀ v, AWP P ⟨n.size, (k, v) :: n.pin⟩ c st Q) : AWP P n c st Q := by
 intro rd m df w0 S0 M S Fp a w hc hs
 refine wpIn_mono (h (Act.tv a k) rd m df w0 S0 M S Fp a w ⟨hc.nodup, hc.df, hc.rd⟩ (hs.pinned k)) ?_
 rintro e a' w' ⟨df', st1, S1, Fp1, h1, h2, h3⟩
 exact ⟨df', st1, S1, Fp1, h1.unpinned, h2, h3⟩
theorem z3j (e : fs = []) (k : Nat) (h : ∀ v, AWP P ⟨n.size, (k, v) :: n.pin⟩ c st (Qf P ⟨n.size, (k, v) :: n.pin⟩ [] Q)) : AWP P n c st (Qf P n fs Q) := by
 subst e
 exact AWP.pin k h
def zdS (tt : TT) (n : Fr) (dst : Option Nat) (f : Nat) (caps : List Operand) : HM Unit :=
 Yu tt n (caps.map fun x => (x, 0)) >>= fun xs => if xs.all X7 = true then ye (wrT n dst (.d (.fn f xs))) else zD
theorem zcG (tt : TT) (n : Fr) (dst : Option Nat) (f : Nat) (caps : List Operand) : Snd (mkQ tt n dst f caps) (zdS tt n dst f caps) :=
 zb (Ys _ _ _) fun xs => xY (zk _) (zi _)
def xMk (P : Program) (tt : TT) : XH P := {
 e := z1l tt
 h := fun n o => match o.op with
  | .makeFunc (.func f) ⟨[]⟩ caps => some (zdS tt n o.dst f caps.toList)
  | _ => none
 ok := z4U P tt
 none := by
  intro n o e
  unfold z1l at e
  split at e
  ·cases e
  ·rename_i hne
   split
   ·rename_i ho2; exact absurd ho2 (by intro h; exact hne _ _ h)
   ·rfl
 some := by
  intro n o m e
  unfold z1l at e
  split at e
  ·rename_i ho; cases e
   refine ⟨_, ?_, zcG tt n o.dst _ _⟩
   rw [ho]
  ·cases e }
open Classical in
noncomputable def z6E (f : A) (xs : List A) (ls : List (Value × A)) (r : A) (ys : List A) (f' : A) (xs' : List A) (ls' : List (Value × A)) : Option (A × List A) :=
 if f' = f ∧ ls' = ls ∧ (∀ S vs, uV (wi S) xs' vs → uV (wi S) xs vs) then some (r, ys) else none
variable {ls : List (Value × A)}{ys : List A}{xs : List A}{f : A}
theorem z6D {r : A}  (h : qG P f xs ls r ys) : ∀ f' xs' ls' r' ys', z6E f xs ls r ys f' xs' ls' = some (r', ys') → qG P f' xs' ls' r' ys' := by
 intro f' xs' ls' r' ys' e
 unfold z6E at e
 split at e
 ·rename_i hc
  obtain ⟨rfl, rfl, h3⟩ := hc
  cases e
  intro S w fv vs F hS hfv hvs
  exact h S w fv vs F hS hfv (h3 S vs hvs)
 ·cases e
theorem Kb {r : A}  (xs' : List A) (h : z1z xs' xs) : z6E f xs ls r ys f xs' ls = some (r, ys) := by
 unfold z6E
 rw [if_pos ⟨rfl, rfl, h.all⟩]
noncomputable def z3G (tt : TT) (L : List Nat)    {r : A}  (h : qG P f xs ls r ys) (dd : Nat) : XH P := {
 e := jT tt (z6E f xs ls r ys) dd L
 h := fun n o => match o.op with
  | .call ⟨.value g, args, tys⟩ => if o.dst = some dd ∧ args.size = tys.size then some (z0w tt (z6E f xs ls r ys) r ys n o.dst g (args.toList.zip tys.toList) L) else none
  | _ => none
 ok := VW (z6D h) dd L
 none := by
  intro n o e
  unfold jT at e
  split at e
  ·rename_i ho
   split at e
   ·cases e
   ·rename_i hd; simp [ho, if_neg hd]
  ·rename_i hne
   split
   ·rename_i ho2; exact absurd ho2 (by intro h; exact hne _ _ _ h)
   ·rfl
 some := by
  intro n o m e
  unfold jT at e
  split at e
  ·rename_i ho
   split at e
   ·rename_i hd; cases e
    refine ⟨_, ?_, z1Z tt (z6E f xs ls r ys) r ys n o.dst _ _ L⟩
    rw [ho]
    exact if_pos hd
   ·cases e
  ·cases e }
theorem Jk {st : St} : ∀ {is : List Nat} {ys : List A}, is.length = ys.length → (∀ p ∈ is.zip ys, (st p.1).t = .own p.2) → Xp is st = some (ys, is, [])
 | [], [], _, _ => rfl
 | i :: is, y :: ys, hl, h => by
  have h1 : (st i).t = .own y := h (i, y) (by simp)
  have h2 := Jk (st := st) (is := is) (ys := ys) (by simpa using hl) (fun p hp => h p (by simp [hp]))
  simp only [Xp]
  show SM.bind (rdE i) _ st = _
  unfold SM.bind
  simp only [rdE, z7, h1, bind, SM.bind, h2, pure, SM.pure]
  simp
 | [], _ :: _, hl, _ => by simp at hl
 | _ :: _, [], hl, _ => by simp at hl
theorem z5f {live : List Nat}   {y : A} (h : z5g live st k = .own y) : (st k).t = .own y := by
 unfold z5g at h
 cases hx : (st k).t with
 | own a => simpa only [hx] using h
 | d a => simp only [hx] at h; cases h
 | gone => simp only [hx] at h; cases h
 | _ => simp only [hx] at h; split at h <;> cases h
theorem z4F {tt : TT}   {body : Code} {nt : Nat} (is : List Nat) {args caps xs : List A} {vals : List Value} {ys : List A} (hT : ut P tt) (hf : P.funcs[k]? = some fn) (hnm : (fn.name == "runtime.NumGoroutine") = false) (hb : fn.body = some body)
  (hn : nt = fn.ntmps) (hr : fn.results = #[]) (ha : (args ++ caps).length ≤ fn.ntmps) (hnd : is.Nodup) (hbase : is.map (fun i => (args ++ caps)[i]?) = vals.map (fun v => some (.atom v))) (hl : xs.length = vals.length)
  (h : ∀ E : Exit → St → Prop, (∀ ex st, (ex = .normal ∨ ex = .ret) → (∀ p ∈ is.zip ys, (st p.1).t = .own p.2) → E ex st) →
   AWP P ⟨nt, is.zip vals⟩ body (ofL (z4N 0 (Xl (args ++ caps) is xs))) (Qf P ⟨nt, is.zip vals⟩ [] E)) (hy : is.length = ys.length) : qG P (.fn k caps) args (vals.zip xs) (.tup []) ys := by
 subst hn
 refine JA (tt := tt) (rs := []) is hT hf hnm hb hr ha hnd hbase hl ?_
 rw [z2K]
 refine h _ ?_
 intro ex st hx hc
 refine ⟨hx, is, [], ?_⟩
 have h2 := Jk hy hc
 simp [zcx, List.map_nil]
 show SM.bind (shutArgs tt []) _ st = _
 unfold SM.bind
 simp [shutArgs]
 simp [pure, SM.pure, bind, SM.bind, z7, h2]
 show (match (match (SM.pure (A.tup [], ys) : SM (A × List A)) st with | none => none | some (b, R', U') => some (b, is ++ R', [] ++ U')) with | none => none | some (b, R', U') => some (b, [] ++ R', [] ++ U')) = _
 simp [SM.pure]
theorem z9c {live : List Nat}   (hc : canon live st = ofL l)  {y : A} (hk : live.contains k = true) (hy : (ofL l k).t = .own y) : (st k).t = .own y := by
 have := congrFun hc k
 rw [qS, if_pos (List.contains_iff_mem.1 hk)] at this
 rw [← this] at hy
 exact z5f hy
def z63 (live : List Nat) (l : List (Nat × T)) : List Nat → List A → Prop
 | i :: is, y :: ys => (live.contains i = true ∧ (ofL l i).t = .own y) ∧ z63 live l is ys
 | _, _ => True
theorem UY {live : List Nat}   (hc : canon live st = ofL l) : ∀ {is : List Nat} {ys : List A}, z63 live l is ys → ∀ p ∈ is.zip ys, (st p.1).t = .own p.2
 | [], _, _, p, hp => by simp at hp
 | _ :: _, [], _, p, hp => by simp at hp
 | i :: is, y :: ys, h, p, hp => by
  rcases List.mem_cons.1 hp with rfl | hp
  ·exact z9c hc h.1.1 h.1.2
  ·exact UY hc h.2 p hp
theorem lentCall {r : A} (h : qH P k as_ r) : qG P (.fn k []) as_ [] r [] := by
 intro S w fv vs F hS hfv hvs hH hF
 have hF0 : F = [] := hH
 subst hF0
 obtain ⟨cs, c1, c2⟩ := hfv
 simp only [Rep] at c1
 obtain ⟨us, u1, _, rfl⟩ := c1
 have hu : us = [] := by
  cases us with
  | nil => rfl
  | cons _ _ => simp [zV] at u1
 subst hu
 obtain ⟨⟨fn, f1, f2, f3⟩, hc⟩ := h
 refine .inl ⟨k, #[], fn, c2, f1, f2, f3, ?_⟩
 rw [Array.append_empty]
 have hass : ∀ {as_ : List A} {vs : List Value}, uV (wi S) as_ vs → k7 S w.heap as_ vs [] := by
  intro as_
  induction as_ with
  | nil => intro vs q; cases vs with | nil => rfl | cons _ _ => exact q.elim
  | cons a as_ ih =>
   intro vs q
   cases vs with
   | nil => exact q.elim
   | cons v vs => exact ⟨[], [], rfl, .inl ⟨q.1.repV, rfl⟩, ih q.2⟩
 refine (hc S w vs [] hS (hass hvs) List.nodup_nil).mono ?_
 rintro e w' ⟨v', S', F', he, b1, b2, b3, b4, b5, b6, b7⟩
 exact ⟨v', he, S', F', [], b1, b2, b3, b4, b5, rfl, by simpa using b6, by simpa using b7⟩
theorem z7S {c : Ctr} (hC : uM P c)  {α ρ : Type} {enc : α → List A} {encR : ρ → A} {F : α → Option ρ}  {inj : ∀ x y, enc x = enc y → x = y} (h : c.Has (spF k enc encR F gives inj)) {x : α} {r : ρ} (hr : F x = some r) : qH P k (enc x) (encR r) := by
 have h1 := h.run x ⟨r, hr⟩
 have := hC.1 _ _ _ h1
 simpa only [spF, hr] using this
abbrev HO := List H × List Ob
noncomputable def hoH (l : List HO) : List H := List.rec [] (fun x _ r => x.1 ++ r) l
noncomputable def hoO (l : List HO) : List Prop := List.rec [] (fun x _ r => x.2.map Ob.p ++ r) l
noncomputable def hoB (l : List HO) : List Ob := List.rec [] (fun x _ r => x.2 ++ r) l
theorem z5Y (l : List HO) : hoO l = (hoB l).map Ob.p := by
 induction l with
 | nil => rfl
 | cons x l ih =>
  show x.2.map Ob.p ++ hoO l = (x.2 ++ hoB l).map Ob.p
  rw [List.map_append, ih]
def Hq {t b : Bool} (h : t = b) : HO := ([.b b], [ob h])
abbrev qT : HO := Hq (Eq.refl true)
abbrev qF : HO := Hq (Eq.refl false)
def Ha {x y : A} (h : x = y) : HO := ([.a y], [ob h])
def Hs {x : Option A} {y : A} (h : x = some y) : HO := ([.a y], [ob h])
variable {x y : List A}
def Hl (h : x = y) : HO := ([.l y], [ob h])
def Hm (h : p ∧ x = y) : HO := ([.l y], [ob h])
def Hx (a : H)  (h : p) : HO := ([a], [ob h])
def Hn (h : p) : HO := ([], [ob h])
def Hh (a : H) : HO := ([a], [])
def Hi (f : α → A) {l : List α}  {u : α} (h : idx l i = some u) : HO := ([.a (f u)], [ob (i0 h), ob (iM f h)])
def Hg {c : Ctr}   (h : c.gives k = gives) : HO := ([.g gives], [ob h])
def Vb (l : List (Nat × T)) : List Nat := l.map (·.1)
def stO {α β : Type} (r : Option (α × St × β)) : St := match r with | some (_, s, _) => s | none => ofL []
section
variable {P : Program} {tt : TT} {ctr : Ctr} {n : Fr} {Q : Exit → St → Prop}
def clS (ks : List Nat) (s : St) (d : List (Nat × T)) : List (Nat × T) := ks.map fun k => (k, (d.lookup k).getD (s k).t)
theorem z0x (ks : List Nat) (s : St) (d : List (Nat × T)) : Vb (clS ks s d) = ks := by
 unfold Vb clS
 rw [List.map_map]
 exact List.map_id ks
end
end Go.Own

namespace Go.Ex
def z3I (k : IntKind) (n : Int) : Int :=
 match n with
 | .ofNat m => match Nat.blt m (match k with | .i64 => 9223372036854775808 | .u64 => 18446744073709551616 | _ => 128) with
  | true => .ofNat m
  | false => k.wrap (.ofNat m)
 | .negSucc m => k.wrap (.negSucc m)
theorem z3H (k : IntKind) (n : Int) : z3I k n = k.wrap n := by
 unfold z3I
 cases n with
 | negSucc m => rfl
 | ofNat m =>
  simp only
  split
  ·rename_i h
   rw [Nat.blt_eq] at h
   have h0 : (Int.ofNat m) = (m : Int) := rfl
   rw [h0]
   cases k <;> simp only at h <;> simp [IntKind.wrap, IntKind.bits, IntKind.signed] <;> omega
  ·rfl
def ltI (a b : Int) : Bool :=
 match a, b with
 | .ofNat m, .ofNat n => Nat.blt m n
 | a, b => decide (a < b)
theorem z9j (a b : Int) : ltI a b = decide (a < b) := by
 unfold ltI
 split
 ·rename_i m n
  rw [Bool.eq_iff_iff, Nat.blt_eq, decide_eq_true_iff]
  exact Int.ofNat_lt.symm
 ·rfl
def eqI (a b : Int) : Bool :=
 match a, b with
 | .ofNat m, .ofNat n => Nat.beq m n
 | a, b => a == b
theorem zc7 (a b : Int) : eqI a b = (a == b) := by
 unfold eqI
 split
 ·rename_i m n
  rw [Bool.eq_iff_iff, Nat.beq_eq, beq_iff_eq]
  exact Int.ofNat_inj.symm
 ·rfl
def ikN : IntKind → Nat
 | .i8 => 0 | .i16 => 1 | .i32 => 2 | .i64 => 3 | .u8 => 4 | .u16 => 5 | .u32 => 6 | .u64 => 7
def ikb (a b : IntKind) : Bool := Nat.beq (ikN a) (ikN b)
theorem z9p (a b : IntKind) : ikb a b = decide (a = b) := by cases a <;> cases b <;> rfl
structure Ci where
 run : IntKind → Int → IntKind → Int → Option V
def ci (f : IntKind → Int → Int → Option V) : Ci := ⟨fun k a k' b => match ikb k k' with | true => f k a b | false => none⟩
def cbi (op : BinOp) : Ci :=
 match op with
 | .add => ci fun k a b => some (.lit (.int k (z3I k (a + b))))
 | .sub => ci fun k a b => some (.lit (.int k (z3I k (a - b))))
 | .eql => ci fun _ a b => some (.lit (.bool (eqI a b)))
 | .neq => ci fun _ a b => some (.lit (.bool (!eqI a b)))
 | .lss => ci fun _ a b => some (.lit (.bool (ltI a b)))
 | .gtr => ci fun _ a b => some (.lit (.bool (ltI b a)))
 | .leq => ci fun _ a b => some (.lit (.bool (!ltI b a)))
 | .geq => ci fun _ a b => some (.lit (.bool (!ltI a b)))
 | .shl => ⟨fun k a _ b => (QM .shl k a b).map .lit⟩
 | .shr => ⟨fun k a _ b => (QM .shr k a b).map .lit⟩
 | op => ci fun k a b => (z3y op k a b).map .lit
structure Cb where
 run : V → V → Option V
def cb (tt : ET) (op : BinOp) (xt : Nat) : Cb :=
 ⟨fun x y => match isV x with
  | some (k, a) => match isV y with
   | some (k', b) => (cbi op).run k a k' b
   | none => z8h tt op xt x y
  | none => z8h tt op xt x y⟩
theorem zca {f : IntKind → Int → Int → Option V} {k k' : IntKind} {a b : Int} : (ci f).run k a k' b = if k = k' then f k a b else none := by
 unfold ci
 simp only [z9p]
 by_cases h : k = k' <;> simp [h]
theorem zcb (tt : ET) (op : BinOp) (xt : Nat) (x y : V) : (cb tt op xt).run x y = z8h tt op xt x y := by
 unfold cb
 simp only
 split
 ·rename_i k a hx
  split
  ·rename_i k' b hy
   have e1 : x = .lit (.int k a) := by unfold isV at hx; split at hx <;> simp_all
   have e2 : y = .lit (.int k' b) := by unfold isV at hy; split at hy <;> simp_all
   subst e1; subst e2
   have hb : ∀ a b : Int, (!decide (b < a)) = decide (a ≤ b) := by
    intro a b
    by_cases h : b < a
    ·simp [h]
    ·simp [h]; omega
   cases op <;> simp only [cbi, zca, z8h, z3y, z3H, z9j, zc7, Option.map_some, bne, hb, GT.gt, GE.ge] <;> rfl
  ·rfl
 ·rfl
open Go.Own (A z8 zu Rep zV kY)
def one (m : EM V) : EM (Option V) := do
 let v ← m
 pure (some v)
def pickV (c x y : Operand) : EM V := do
 let b ← opV c
 match b with
 | .lit (.bool true) => opV x
 | .lit (.bool false) => opV y
 | _ => efail
def callB (tt : ET) (n : Nat) (b : Builtin) (args : List Operand) (tys : List Nat) : EM (Option V) :=
 match b, args, tys with
 | .len, [x], [t] => do
  let v ← opV x
  one (lenV tt t v)
 | .cap, [x], [t] => do
  let v ← opV x
  one (ofO (zcy tt t v))
 | .append, [s, x], [t, t'] => if t = t' then do
   let sv ← opV s
   let xv ← opV x
   one (appendV tt n t sv xv)
  else efail
 | .min, x :: xs, _ => do
  let v ← opV x
  let vs ← opVs xs
  one (ofO (Jt false v vs))
 | .max, x :: xs, _ => do
  let v ← opV x
  let vs ← opVs xs
  one (ofO (Jt true v vs))
 | _, _, _ => efail
abbrev z74 (tt : ET) (op : BinOp) (xt : Nat) (x y : Operand) : EM (Option V) := do
 let a ← opV x
 let b ← opV y
 one (ofO (z8h tt op xt a b))
abbrev z0i (op : UnOp) (x : Operand) : EM (Option V) := do
 let a ← opV x
 one (ofO (unV op a))
abbrev Yy (tt : ET) (s t : Nat) (x : Operand) : EM (Option V) := do
 let a ← opV x
 one (ofO (z54 tt s t a))
abbrev Yx (x : Operand) (i : Nat) : EM (Option V) := do
 let a ← opV x
 one (ofO (XW a i))
abbrev Ze (x : Operand) : EM (Option V) := do
 let a ← opV x
 one (ofO (Yz a))
abbrev z0j (tt : ET) (t : Nat) (x : Operand) : EM (Option V) := do
 let a ← opV x
 one (loadV tt t a)
abbrev UR (tt : ET) (t : Nat) (x v : Operand) : EM (Option V) := do
 let a ← opV x
 let b ← opV v
 let _ ← storeV tt t a b
 pure none
abbrev jK (tt : ET) (t : Nat) (x : Operand) (i : Nat) : EM (Option V) := do
 let a ← opV x
 one (ofO (Zm tt t i a))
abbrev jJ (tt : ET) (t : Nat) (x i : Operand) : EM (Option V) := do
 let a ← opV x
 let b ← opV i
 let (_, j) ← ofO (isV b)
 one (ofO (Zl tt t a j))
abbrev z4k (n : Nat) (x : Operand) : EM (Option V) := do
 let a ← opV x
 one (boxV n a)
abbrev UV (tt : ET) (t : Nat) (ps : Array (Nat × Operand)) : EM (Option V) := do
 let qs ← parts ps.toList
 one (ofO (z0Z tt t qs))
abbrev qP (tt : ET) (n t len : Nat) (ps : Array (Nat × Operand)) : EM (Option V) := do
 let qs ← parts ps.toList
 one (buildSliceV tt n t len qs)
abbrev jI (tt : ET) (n t : Nat) (l c : Operand) : EM (Option V) := do
 let a ← opV l
 let b ← opV c
 let (_, x) ← ofO (isV a)
 let (_, y) ← ofO (isV b)
 one (makeSliceV tt n t x y)
abbrev Zf (f : Nat) (caps : Array Operand) : EM (Option V) := do
 let vs ← opVs caps.toList
 pure (some (.fn f vs))
abbrev Yw (tt : ET) (n t : Nat) (x : Operand) : EM (Option V) := do
 let a ← opV x
 let _ ← ofO (isV a)
 let _ ← ofO (Jv tt t)
 one (makeMapV n)
abbrev US (tt : ET) (t : Nat) (x : Operand) (lo hi mx : Option Operand) : EM (Option V) := do
 let a ← opV x
 let l ← opO lo
 let h ← opO hi
 let m ← opO mx
 one (ofO (z01 tt t a l h m))
abbrev UU (tt : ET) (t : Nat) (x : Operand) (i : Nat) : EM (Option V) := do
 let a ← opV x
 one (ofO (z0O tt t i a))
abbrev UT (tt : ET) (t : Nat) (x i : Operand) : EM (Option V) := do
 let a ← opV x
 let b ← opV i
 let (_, j) ← ofO (isV b)
 one (ofO (z0E tt t a j))
abbrev XL (tt : ET) (t : Nat) (x i : Operand) (ok : Bool) : EM (Option V) := do
 let a ← opV x
 let b ← opV i
 one (lookupV tt t a b ok)
abbrev wH (tt : ET) (t : Nat) (m k v : Operand) : EM (Option V) := do
 let a ← opV m
 let b ← opV k
 let c ← opV v
 let _ ← mapUpdateV tt t a b c
 pure none
def primV (tt : ET) (n : Nat) (o : Oper) : EM (Option V) :=
 match o.op with
 | .move x => one (opV x)
 | .assign x => one (opV x)
 | .pick c x y => one (pickV c x y)
 | .binOp op xt x y _ => z74 tt op xt x y
 | .unOp op _ x => z0i op x
 | .convert s t x => Yy tt s t x
 | .extract x i => Yx x i
 | .nilCheck x => Ze x
 | .load t x => z0j tt t x
 | .store t x v => UR tt t x v
 | .fieldAddr t x i => jK tt t x i
 | .indexAddr t x i => jJ tt t x i
 | .alloc t => one (allocV tt n t)
 | .box _ x => z4k n x
 | .build t ps => UV tt t ps
 | .buildSlice t len ps => qP tt n t len ps
 | .makeSlice t l c => jI tt n t l c
 | .makeFunc (.func f) ⟨[]⟩ caps => Zf f caps
 | .makeMap _ none => one (makeMapV n)
 | .makeMap t (some x) => Yw tt n t x
 | .slice t x lo hi mx => US tt t x lo hi mx
 | .field t x i => UU tt t x i
 | .index t x i => UT tt t x i
 | .lookup t x i ok => XL tt t x i ok
 | .mapUpdate t m k v => wH tt t m k v
 | .insert t m k v => wH tt t m k v
 | .call ⟨.builtin b, ⟨args⟩, ⟨tys⟩⟩ => callB tt n b args tys
 | _ => efail
structure Cm where
 run : Nat → EM (Option V)
def copV (tt : ET) (o : Oper) : Cm :=
 match o.op with
 | .move x => ⟨fun _ => one (opV x)⟩
 | .assign x => ⟨fun _ => one (opV x)⟩
 | .pick c x y => ⟨fun _ => one (pickV c x y)⟩
 | .binOp op xt x y _ => ⟨fun _ => do
  let a ← opV x
  let b ← opV y
  one (ofO ((cb tt op xt).run a b))⟩
 | .unOp op _ x => ⟨fun _ => z0i op x⟩
 | .convert s t x => ⟨fun _ => Yy tt s t x⟩
 | .extract x i => ⟨fun _ => Yx x i⟩
 | .nilCheck x => ⟨fun _ => Ze x⟩
 | .load t x => ⟨fun _ => z0j tt t x⟩
 | .store t x v => ⟨fun _ => UR tt t x v⟩
 | .fieldAddr t x i => ⟨fun _ => jK tt t x i⟩
 | .indexAddr t x i => ⟨fun _ => jJ tt t x i⟩
 | .alloc t => ⟨fun n => one (allocV tt n t)⟩
 | .box _ x => ⟨fun n => z4k n x⟩
 | .build t ps => ⟨fun _ => UV tt t ps⟩
 | .buildSlice t len ps => ⟨fun n => qP tt n t len ps⟩
 | .makeSlice t l c => ⟨fun n => jI tt n t l c⟩
 | .makeFunc (.func f) ⟨[]⟩ caps => ⟨fun _ => Zf f caps⟩
 | .makeMap _ none => ⟨fun n => one (makeMapV n)⟩
 | .makeMap t (some x) => ⟨fun n => Yw tt n t x⟩
 | .slice t x lo hi mx => ⟨fun _ => US tt t x lo hi mx⟩
 | .field t x i => ⟨fun _ => UU tt t x i⟩
 | .index t x i => ⟨fun _ => UT tt t x i⟩
 | .lookup t x i ok => ⟨fun _ => XL tt t x i ok⟩
 | .mapUpdate t m k v => ⟨fun _ => wH tt t m k v⟩
 | .insert t m k v => ⟨fun _ => wH tt t m k v⟩
 | .call ⟨.builtin b, ⟨args⟩, ⟨tys⟩⟩ => ⟨fun n => callB tt n b args tys⟩
 | _ => ⟨fun _ => efail⟩
theorem z51 (tt : ET) (n : Nat) (o : Oper) : (copV tt o).run n = primV tt n o := by
 unfold copV primV
 split <;> first | rfl | (simp only [zcb]; done) | skip
def wj (o : Oper) : Bool :=
 match o.op with
 | .alloc _ | .box _ _ | .buildSlice _ _ _ | .makeSlice _ _ _ | .makeMap _ _ => true
 | .call ⟨.builtin .append, _, _⟩ => true
 | _ => false
def nx (o : Oper) (n : Nat) : Nat := if wj o = true then n + 1 else n
def wrS (N : Nat) (dst : Option Nat) (x : V) : EM Unit :=
 match dst with
 | none => pure ()
 | some k => if k < N then wrX (.s k) (.v x) else efail
def stepP (tt : ET) (N n : Nat) (o : Oper) : EM Unit := do
 let r ← primV tt n o
 match r with
 | some v => wrS N o.dst v
 | none => if o.dst.isNone = true then pure () else efail
def stepG (tt : ET) (N n : Nat) (ops : Array Oper) (o : Oper) : EM Unit :=
 match o.guard with
 | none => stepP tt N n o
 | some (j, want) =>
  match (ops[j]?).bind (·.dst) with
  | some g => do
   let b ← rdS g
   match b with
   | .lit (.bool b) => if b = want then stepP tt N n o else wrS N o.dst .un
   | _ => efail
  | none => efail
structure Cw where
 run : V → EM Unit
def copW (N : Nat) (dst : Option Nat) : Cw :=
 match dst with
 | none => ⟨fun _ => pure ()⟩
 | some k => match Nat.blt k N with
  | true => ⟨fun x => wrX (.s k) (.v x)⟩
  | false => ⟨fun _ => efail⟩
theorem z0U (N : Nat) (dst : Option Nat) (x : V) : (copW N dst).run x = wrS N dst x := by
 unfold copW wrS
 cases dst with
 | none => rfl
 | some k =>
  simp only
  cases h : Nat.blt k N with
  | true => rw [Nat.blt_eq] at h; simp [h]
  | false =>
   have : ¬ k < N := by rw [← Nat.blt_eq]; simp [h]
   simp [this]
def copP (m : EM (Option V)) (w : Cw) (nd : Bool) : EM Unit := do
 let r ← m
 match r with
 | some v => w.run v
 | none => match nd with | true => pure () | false => efail
structure Cg where
 run : Nat → EM Unit
def copG (tt : ET) (N : Nat) (ops : Array Oper) (o : Oper) : Cg :=
 match o.guard with
 | none => ⟨fun n => copP ((copV tt o).run n) (copW N o.dst) o.dst.isNone⟩
 | some (j, want) =>
  match (ops[j]?).bind (·.dst) with
  | some g => ⟨fun n => do
   let b ← rdS g
   match b with
   | .lit (.bool b) => if b = want then copP ((copV tt o).run n) (copW N o.dst) o.dst.isNone else (copW N o.dst).run .un
   | _ => efail⟩
  | none => ⟨fun _ => efail⟩
theorem z0V (tt : ET) (N n : Nat) (o : Oper) : copP ((copV tt o).run n) (copW N o.dst) o.dst.isNone = stepP tt N n o := by
 unfold copP stepP
 rw [z51]
 congr 1
 funext r
 cases r with
 | none => cases o.dst.isNone <;> simp
 | some v => exact z0U N o.dst v
theorem z52 (tt : ET) (N n : Nat) (ops : Array Oper) (o : Oper) : (copG tt N ops o).run n = stepG tt N n ops o := by
 unfold copG stepG
 cases o.guard with
 | none => exact z0V tt N n o
 | some q =>
  obtain ⟨j, want⟩ := q
  simp only
  cases (ops[j]?).bind (·.dst) with
  | none => rfl
  | some g => simp only [z0V, z0U]
def fen (r : Option Nat) : Fence := { Fence.wide with round := r }
variable {P : Program}
theorem qD {f : FuncId} {vs : Array Value} {w : World} {R : Ending → World → Prop} (h : Calls P f vs w R) (r : Option Nat) (m : Nat) : CallsIn (fen r) m P f vs w R := by
 have h0 : CallsIn Fence.wide m P f vs w R := callsIn_wide.2 h
 cases r with
 | none => exact h0
 | some l => exact h0.inRound l
theorem xZ {o : Oper} {ρ : Operand → Value} {w w' : World} {x : Next} (h : (execOp ρ o).run P w = .ok x w') (hx : ∀ d, x ≠ .defer d) (r : Option Nat) : (o.semAt r ρ).run P w = .ok x w' := by
 rw [Oper.semAt_eq r ρ o ?_]
 ·exact h
 ·intro c hc
  simp only [execOp, hc, Sem.run_bind] at h
  cases hr : (resolve ρ c o.type).run P w with
  | ok d w2 =>
   simp only [hr, Result.andThen_ok, Sem.run_pure, Result.ok.injEq] at h
   exact hx _ h.1.symm
  | halt e w2 => simp [hr] at h
def uU (P : Program) (C : Ctx) (N lo hi : Nat) (o : Oper) (ρ : Pl) (a : Act) (w : World) (Ds : List Nat) (st' : St) : Prop :=
 ∀ (r : Option Nat) (m : Nat) (K : Act → World → Prop) (Q : Exit → Act → World → Prop), (∀ ρ' a' w', Ext lo hi ρ ρ' → Sim C N ρ' st' a' w' Ds → K a' w') → o.wpIn (fen r) m P a w K Q
variable {ops : Array Oper}{R : List Key}{U : Ups}{u : Unit}{v : Value}
section
variable {P : Program} {tt : ET} {C : Ctx} {N n : Nat} {ρ : Pl} {st : St} {a : Act} {w : World} {Ds : List Nat} {o : Oper}
def zev (P : Program) (C : Ctx) (N n : Nat) (o : Oper) (ρ : Pl) (a : Act) (w : World) (Ds : List Nat) (r : Option V) (st' : St) : Prop :=
 match r with
 | some v => Res P C N n (nx o n) o ρ a w Ds v st'
 | none => ∃ w', (execOp a.eval o).run P w = .ok .skip w' ∧ Sim C N ρ st' a w' Ds
theorem zY {m : EM V} {r : Option V} {R : List Key} {U : Ups} (e : one m st = some (r, R, U)) : ∃ v, m st = some (v, R, U) ∧ r = some v := by
 unfold one at e
 obtain ⟨v, R1, U1, R2, U2, h1, h2, rfl, rfl⟩ := bind_some e
 obtain ⟨rfl, rfl, rfl⟩ := zf h2
 exact ⟨v, by simpa using h1, rfl⟩
theorem JF {S : z8} {b : V} {k : IntKind} {j : Int} (e : isV b = some (k, j)) {u : Value} (h : VR S ρ b u) : u = .int k j := by
 unfold isV at e
 split at e
 ·cases e; simpa only [VR] using h
 ·cases e
theorem z5i (hT : ue P tt) (h : Sim C N ρ st a w Ds) (hn : wj o = true → ρ n = none) {b : Builtin} {args : List Operand} {tys : List Nat} {r : Option V}   (e : callB tt n b args tys st = some (r, R, U)) (ho : o.op = .call ⟨.builtin b, ⟨args⟩, ⟨tys⟩⟩) :
  zev P C N n o ρ a w Ds r (z7 U st) := by
 unfold callB at e
 split at e
 ·rename_i x t
  obtain ⟨v, R1, U1, R2, U2, h1, h2, rfl, rfl⟩ := bind_some e
  obtain ⟨rfl, q1⟩ := y5 h h1
  obtain ⟨z, h3, rfl⟩ := zY h2
  simp only [z7, List.nil_append] at h3 ⊢
  obtain ⟨rfl, vu, d1, d2⟩ := z2E (ty := o.type) hT h h3 q1
  exact Res.here h (by simp [execOp, ho, resolve, invoke, builtin, d1]) d2
 ·rename_i x t
  obtain ⟨v, R1, U1, R2, U2, h1, h2, rfl, rfl⟩ := bind_some e
  obtain ⟨rfl, q1⟩ := y5 h h1
  obtain ⟨z, h3, rfl⟩ := zY h2
  obtain ⟨h4, rfl, rfl⟩ := zp h3
  obtain ⟨vu, d1, d2⟩ := z3d (ty := o.type) hT h4 q1 w
  exact Res.here h (by simp [execOp, ho, resolve, invoke, builtin, d1]) d2
 ·rename_i s x t t'
  split at e
  ·rename_i htt
   subst htt
   obtain ⟨v, R1, U1, R2, U2, h1, h2, rfl, rfl⟩ := bind_some e
   obtain ⟨rfl, q1⟩ := y5 h h1
   obtain ⟨v2, R3, U3, R4, U4, h3, h4, rfl, rfl⟩ := bind_some h2
   obtain ⟨rfl, q2⟩ := y5 h h3
   obtain ⟨z, h5, rfl⟩ := zY h4
   simp only [z7, List.nil_append] at h5 ⊢
   show Res P C N n (nx o n) _ _ _ _ _ _ _; rw [show nx o n = n + 1 from by simp [nx, wj, ho]]; exact V6 hT h (hn (by simp [wj, ho])) h5 q1 q2 ho
  ·exact (zn e).elim
 ·rename_i ty x xs
  obtain ⟨v, R1, U1, R2, U2, h1, h2, rfl, rfl⟩ := bind_some e
  obtain ⟨rfl, q1⟩ := y5 h h1
  obtain ⟨vs, R3, U3, R4, U4, h3, h4, rfl, rfl⟩ := bind_some h2
  obtain ⟨rfl, q2⟩ := WH h h3
  obtain ⟨z, h5, rfl⟩ := zY h4
  obtain ⟨h6, rfl, rfl⟩ := zp h5
  obtain ⟨vu, d1, d2⟩ := Q2 (P := P) false w h6 q1 q2
  refine Res.here h ?_ d2
  have hb : ∀ ta, (Builtin.min_ ta o.type (a.eval x :: xs.map a.eval).toArray).run P w = .ok vu w := by
   intro ta; simpa [Builtin.min_] using d1
  simp [execOp, ho, resolve, invoke, builtin, hb]
 ·rename_i ty x xs
  obtain ⟨v, R1, U1, R2, U2, h1, h2, rfl, rfl⟩ := bind_some e
  obtain ⟨rfl, q1⟩ := y5 h h1
  obtain ⟨vs, R3, U3, R4, U4, h3, h4, rfl, rfl⟩ := bind_some h2
  obtain ⟨rfl, q2⟩ := WH h h3
  obtain ⟨z, h5, rfl⟩ := zY h4
  obtain ⟨h6, rfl, rfl⟩ := zp h5
  obtain ⟨vu, d1, d2⟩ := Q2 (P := P) true w h6 q1 q2
  refine Res.here h ?_ d2
  have hb : ∀ ta, (Builtin.max_ ta o.type (a.eval x :: xs.map a.eval).toArray).run P w = .ok vu w := by
   intro ta; simpa [Builtin.max_] using d1
  simp [execOp, ho, resolve, invoke, builtin, hb]
 ·exact (zn e).elim
theorem z4n (hT : ue P tt) (h : Sim C N ρ st a w Ds) (hn : wj o = true → ρ n = none) {r : Option V}   (e : primV tt n o st = some (r, R, U)) : zev P C N n o ρ a w Ds r (z7 U st) := by
 unfold primV at e
 generalize ho : o.op = op at e
 split at e
 ·rename_i x
  obtain ⟨z, h3, rfl⟩ := zY e
  obtain ⟨rfl, q⟩ := y5 h h3
  exact Res.here h (by simp [execOp, ho]) q
 ·rename_i x
  obtain ⟨z, h3, rfl⟩ := zY e
  obtain ⟨rfl, q⟩ := y5 h h3
  exact Res.here h (by simp [execOp, ho]) q
 ·rename_i c x y
  obtain ⟨z, h3, rfl⟩ := zY e
  unfold pickV at h3
  obtain ⟨b, R1, U1, R2, U2, h1, h2, rfl, rfl⟩ := bind_some h3
  obtain ⟨rfl, q⟩ := y5 h h1
  simp only [z7, List.nil_append] at h2 ⊢
  split at h2
  ·obtain ⟨rfl, q2⟩ := y5 h h2
   simp only [VR] at q
   exact Res.here h (by simp [execOp, ho, asBool, q]) q2
  ·obtain ⟨rfl, q2⟩ := y5 h h2
   simp only [VR] at q
   exact Res.here h (by simp [execOp, ho, asBool, q]) q2
  ·exact (zn h2).elim
 ·rename_i op xt x y yt
  obtain ⟨v, R1, U1, R2, U2, h1, h2, rfl, rfl⟩ := bind_some e
  obtain ⟨rfl, q1⟩ := y5 h h1
  obtain ⟨v2, R3, U3, R4, U4, h3, h4, rfl, rfl⟩ := bind_some h2
  obtain ⟨rfl, q2⟩ := y5 h h3
  obtain ⟨z, h5, rfl⟩ := zY h4
  obtain ⟨h6, rfl, rfl⟩ := zp h5
  obtain ⟨vu, d1, d2⟩ := z8g hT h6 q1 q2 x y w
  refine Res.here h ?_ d1
  simp only [execOp, ho, Sem.run_bind, Sem.run_pure] at d2 ⊢
  rw [d2]; rfl
 ·rename_i op xt x
  obtain ⟨v, R1, U1, R2, U2, h1, h2, rfl, rfl⟩ := bind_some e
  obtain ⟨rfl, q1⟩ := y5 h h1
  obtain ⟨z, h5, rfl⟩ := zY h2
  obtain ⟨h6, rfl, rfl⟩ := zp h5
  obtain ⟨vu, d1, d2⟩ := z8H (P := P) h6 q1 w
  exact Res.here h (by simp [execOp, ho, d2]) d1
 ·rename_i s t x
  obtain ⟨v, R1, U1, R2, U2, h1, h2, rfl, rfl⟩ := bind_some e
  obtain ⟨rfl, q1⟩ := y5 h h1
  obtain ⟨z, h5, rfl⟩ := zY h2
  obtain ⟨h6, rfl, rfl⟩ := zp h5
  obtain ⟨vu, d1, d2⟩ := z53 hT h6 q1 w
  exact Res.here h (by simp [execOp, ho, d2]) d1
 ·rename_i x i
  obtain ⟨v, R1, U1, R2, U2, h1, h2, rfl, rfl⟩ := bind_some e
  obtain ⟨rfl, q1⟩ := y5 h h1
  obtain ⟨z, h5, rfl⟩ := zY h2
  obtain ⟨h6, rfl, rfl⟩ := zp h5
  obtain ⟨vu, d1, d2⟩ := Xh (P := P) h6 q1 w
  exact Res.here h (by simp [execOp, ho, d1]) d2
 ·rename_i x
  obtain ⟨v, R1, U1, R2, U2, h1, h2, rfl, rfl⟩ := bind_some e
  obtain ⟨rfl, q1⟩ := y5 h h1
  obtain ⟨z, h5, rfl⟩ := zY h2
  obtain ⟨h6, rfl, rfl⟩ := zp h5
  obtain ⟨d1, d2⟩ := Y1 (P := P) h6 q1 ho w
  exact Res.here h d1 d2
 ·rename_i t x
  obtain ⟨v, R1, U1, R2, U2, h1, h2, rfl, rfl⟩ := bind_some e
  obtain ⟨rfl, q1⟩ := y5 h h1
  obtain ⟨z, h5, rfl⟩ := zY h2
  simp only [z7, List.nil_append] at h5 ⊢
  obtain ⟨rfl, vu, d1, d2⟩ := WO hT h h5 q1
  exact Res.here h (by simp [execOp, ho, d1]) d2
 ·rename_i t x y
  obtain ⟨v, R1, U1, R2, U2, h1, h2, rfl, rfl⟩ := bind_some e
  obtain ⟨rfl, q1⟩ := y5 h h1
  obtain ⟨v2, R3, U3, R4, U4, h3, h4, rfl, rfl⟩ := bind_some h2
  obtain ⟨rfl, q2⟩ := y5 h h3
  obtain ⟨u5, R5, U5, R6, U6, h5, h6, rfl, rfl⟩ := bind_some h4
  obtain ⟨rfl, rfl, rfl⟩ := zf h6
  simp only [z7, List.nil_append, List.append_nil] at h5 ⊢
  obtain ⟨w', d1, d2⟩ := UB hT h h5 q1 q2
  exact ⟨w', by simp [execOp, ho, d1], d2⟩
 ·rename_i t x i
  obtain ⟨v, R1, U1, R2, U2, h1, h2, rfl, rfl⟩ := bind_some e
  obtain ⟨rfl, q1⟩ := y5 h h1
  obtain ⟨z, h5, rfl⟩ := zY h2
  obtain ⟨h6, rfl, rfl⟩ := zp h5
  obtain ⟨vu, d1, d2⟩ := kT hT h6 q1 w
  exact Res.here h (by simp [execOp, ho, d1]) d2
 ·rename_i t x i
  obtain ⟨v, R1, U1, R2, U2, h1, h2, rfl, rfl⟩ := bind_some e
  obtain ⟨rfl, q1⟩ := y5 h h1
  obtain ⟨v2, R3, U3, R4, U4, h3, h4, rfl, rfl⟩ := bind_some h2
  obtain ⟨rfl, q2⟩ := y5 h h3
  obtain ⟨⟨k, j⟩, R5, U5, R6, U6, h5, h6, rfl, rfl⟩ := bind_some h4
  obtain ⟨h7, rfl, rfl⟩ := zp h5
  obtain ⟨z, h8, rfl⟩ := zY h6
  obtain ⟨h9, rfl, rfl⟩ := zp h8
  have hi := JF h7 q2
  obtain ⟨vu, d1, d2⟩ := kP (k := k) hT h9 q1 w
  exact Res.here h (by simp [execOp, ho, hi, d1]) d2
 ·rename_i t
  obtain ⟨z, h3, rfl⟩ := zY e
  show Res P C N n (nx o n) _ _ _ _ _ _ _; rw [show nx o n = n + 1 from by simp [nx, wj, ho]]; exact Qk hT h (hn (by simp [wj, ho])) h3 ho
 ·rename_i t x
  obtain ⟨v, R1, U1, R2, U2, h1, h2, rfl, rfl⟩ := bind_some e
  obtain ⟨rfl, q1⟩ := y5 h h1
  obtain ⟨z, h5, rfl⟩ := zY h2
  simp only [z7, List.nil_append] at h5 ⊢
  show Res P C N n (nx o n) _ _ _ _ _ _ _; rw [show nx o n = n + 1 from by simp [nx, wj, ho]]; exact z3g h (hn (by simp [wj, ho])) h5 q1 ho
 ·rename_i t ps
  obtain ⟨qs, R1, U1, R2, U2, h1, h2, rfl, rfl⟩ := bind_some e
  obtain ⟨z, h5, rfl⟩ := zY h2
  obtain ⟨h6, rfl, rfl⟩ := zp h5
  obtain ⟨rfl, q⟩ := Qd hT h h1 h6 ho
  exact q
 ·rename_i t len ps
  obtain ⟨qs, R1, U1, R2, U2, h1, h2, rfl, rfl⟩ := bind_some e
  obtain ⟨z, h5, rfl⟩ := zY h2
  obtain ⟨rfl, _, _⟩ := XM h h1
  simp only [z7, List.nil_append] at h5 ⊢
  show Res P C N n (nx o n) _ _ _ _ _ _ _; rw [show nx o n = n + 1 from by simp [nx, wj, ho]]; exact (jX hT h (hn (by simp [wj, ho])) h1 h5 ho).2
 ·rename_i t l c
  obtain ⟨v, R1, U1, R2, U2, h1, h2, rfl, rfl⟩ := bind_some e
  obtain ⟨rfl, q1⟩ := y5 h h1
  obtain ⟨v2, R3, U3, R4, U4, h3, h4, rfl, rfl⟩ := bind_some h2
  obtain ⟨rfl, q2⟩ := y5 h h3
  obtain ⟨⟨k, j⟩, R5, U5, R6, U6, h5, h6, rfl, rfl⟩ := bind_some h4
  obtain ⟨h7, rfl, rfl⟩ := zp h5
  obtain ⟨⟨k2, j2⟩, R7, U7, R8, U8, h8, h9, rfl, rfl⟩ := bind_some h6
  obtain ⟨h10, rfl, rfl⟩ := zp h8
  obtain ⟨z, h11, rfl⟩ := zY h9
  simp only [z7, List.nil_append] at h11 ⊢
  show Res P C N n (nx o n) _ _ _ _ _ _ _; rw [show nx o n = n + 1 from by simp [nx, wj, ho]]; exact kN hT h (hn (by simp [wj, ho])) h11 (JF h7 q1) (JF h10 q2) ho
 ·rename_i f caps
  obtain ⟨vs, R1, U1, R2, U2, h1, h2, rfl, rfl⟩ := bind_some e
  obtain ⟨rfl, q1⟩ := WH h h1
  obtain ⟨rfl, rfl, rfl⟩ := zf h2
  refine Res.here h (cv := .func (.func f) #[] (caps.map a.eval)) (by simp [execOp, ho, Instr.makeFunc]) ?_
  simp only [VR]
  exact ⟨_, q1, by rw [← Array.toList_map, Array.toArray_toList]⟩
 ·rename_i t
  obtain ⟨z, h3, rfl⟩ := zY e
  show Res P C N n (nx o n) _ _ _ _ _ _ _; rw [show nx o n = n + 1 from by simp [nx, wj, ho]]; exact VN h (hn (by simp [wj, ho])) h3 (.inl rfl) ho
 ·rename_i t x
  obtain ⟨v, R1, U1, R2, U2, h1, h2, rfl, rfl⟩ := bind_some e
  obtain ⟨rfl, q1⟩ := y5 h h1
  obtain ⟨⟨k, j⟩, R3, U3, R4, U4, h3, h4, rfl, rfl⟩ := bind_some h2
  obtain ⟨h5, rfl, rfl⟩ := zp h3
  obtain ⟨⟨kt, et⟩, R5, U5, R6, U6, h6, h7, rfl, rfl⟩ := bind_some h4
  obtain ⟨h8, rfl, rfl⟩ := zp h6
  obtain ⟨z, h9, rfl⟩ := zY h7
  simp only [z7, List.nil_append] at h9 ⊢
  show Res P C N n (nx o n) _ _ _ _ _ _ _; rw [show nx o n = n + 1 from by simp [nx, wj, ho]]; exact VN h (hn (by simp [wj, ho])) h9 (.inr ⟨⟨kt, et, X9 hT h8⟩, x, k, j, rfl, JF h5 q1⟩) ho
 ·rename_i t x lo hi mx
  obtain ⟨v, R1, U1, R2, U2, h1, h2, rfl, rfl⟩ := bind_some e
  obtain ⟨rfl, q1⟩ := y5 h h1
  obtain ⟨v2, R3, U3, R4, U4, h3, h4, rfl, rfl⟩ := bind_some h2
  obtain ⟨rfl, q2⟩ := z2n h h3
  obtain ⟨v3, R5, U5, R6, U6, h5, h6, rfl, rfl⟩ := bind_some h4
  obtain ⟨rfl, q3⟩ := z2n h h5
  obtain ⟨v4, R7, U7, R8, U8, h7, h8, rfl, rfl⟩ := bind_some h6
  obtain ⟨rfl, q4⟩ := z2n h h7
  obtain ⟨z, h9, rfl⟩ := zY h8
  obtain ⟨h10, rfl, rfl⟩ := zp h9
  obtain ⟨vu, d1, d2⟩ := UE hT h10 q1 q2 q3 q4 w
  exact Res.here h (by simp [execOp, ho, d1]) d2
 ·rename_i t x i
  obtain ⟨v, R1, U1, R2, U2, h1, h2, rfl, rfl⟩ := bind_some e
  obtain ⟨rfl, q1⟩ := y5 h h1
  obtain ⟨z, h5, rfl⟩ := zY h2
  obtain ⟨h6, rfl, rfl⟩ := zp h5
  obtain ⟨vu, d1, d2⟩ := z4T hT h6 q1 w
  exact Res.here h (by simp [execOp, ho, d1]) d2
 ·rename_i t x i
  obtain ⟨v, R1, U1, R2, U2, h1, h2, rfl, rfl⟩ := bind_some e
  obtain ⟨rfl, q1⟩ := y5 h h1
  obtain ⟨v2, R3, U3, R4, U4, h3, h4, rfl, rfl⟩ := bind_some h2
  obtain ⟨rfl, q2⟩ := y5 h h3
  obtain ⟨⟨k, j⟩, R5, U5, R6, U6, h5, h6, rfl, rfl⟩ := bind_some h4
  obtain ⟨h7, rfl, rfl⟩ := zp h5
  obtain ⟨z, h8, rfl⟩ := zY h6
  obtain ⟨h9, rfl, rfl⟩ := zp h8
  have hi := JF h7 q2
  obtain ⟨vu, d1, d2⟩ := Q4 (k := k) hT h9 q1 w
  exact Res.here h (by simp [execOp, ho, hi, d1]) d2
 ·rename_i t x i ok
  obtain ⟨v, R1, U1, R2, U2, h1, h2, rfl, rfl⟩ := bind_some e
  obtain ⟨rfl, q1⟩ := y5 h h1
  obtain ⟨v2, R3, U3, R4, U4, h3, h4, rfl, rfl⟩ := bind_some h2
  obtain ⟨rfl, q2⟩ := y5 h h3
  obtain ⟨z, h5, rfl⟩ := zY h4
  simp only [z7, List.nil_append] at h5 ⊢
  obtain ⟨rfl, vu, d1, d2⟩ := z2C hT h h5 q1 q2
  exact Res.here h (by simp [execOp, ho, d1]) d2
 ·rename_i t m k v
  obtain ⟨v1, R1, U1, R2, U2, h1, h2, rfl, rfl⟩ := bind_some e
  obtain ⟨rfl, q1⟩ := y5 h h1
  obtain ⟨v2, R3, U3, R4, U4, h3, h4, rfl, rfl⟩ := bind_some h2
  obtain ⟨rfl, q2⟩ := y5 h h3
  obtain ⟨v3, R5, U5, R6, U6, h5, h6, rfl, rfl⟩ := bind_some h4
  obtain ⟨rfl, q3⟩ := y5 h h5
  obtain ⟨u7, R7, U7, R8, U8, h7, h8, rfl, rfl⟩ := bind_some h6
  obtain ⟨rfl, rfl, rfl⟩ := zf h8
  simp only [z7, List.nil_append, List.append_nil] at h7 ⊢
  obtain ⟨w', d1, d2⟩ := Xr hT h h7 q1 q2 q3
  exact ⟨w', by simp [execOp, ho, d1], d2⟩
 ·rename_i t m k v
  obtain ⟨v1, R1, U1, R2, U2, h1, h2, rfl, rfl⟩ := bind_some e
  obtain ⟨rfl, q1⟩ := y5 h h1
  obtain ⟨v2, R3, U3, R4, U4, h3, h4, rfl, rfl⟩ := bind_some h2
  obtain ⟨rfl, q2⟩ := y5 h h3
  obtain ⟨v3, R5, U5, R6, U6, h5, h6, rfl, rfl⟩ := bind_some h4
  obtain ⟨rfl, q3⟩ := y5 h h5
  obtain ⟨u7, R7, U7, R8, U8, h7, h8, rfl, rfl⟩ := bind_some h6
  obtain ⟨rfl, rfl, rfl⟩ := zf h8
  simp only [z7, List.nil_append, List.append_nil] at h7 ⊢
  obtain ⟨w', d1, d2⟩ := Xr hT h h7 q1 q2 q3
  exact ⟨w', by simp [execOp, ho, d1], d2⟩
 ·rename_i b args tys
  exact z5i hT h hn e ho
 ·exact (zn e).elim
theorem z5w (h : Sim C N ρ st a w Ds) {dst : Option Nat} {x : V}    (e : wrS N dst x st = some (u, R, U))  (hx : VR C.S ρ x v) : Sim C N ρ (z7 U st) (a.put dst v) w Ds := by
 unfold wrS at e
 cases dst with
 | none => obtain ⟨_, _, rfl⟩ := zf e; exact h
 | some k =>
  simp only at e
  split at e
  ·rename_i hk
   obtain ⟨rfl, rfl⟩ := wd e
   exact h.put hk hx
  ·exact (zn e).elim
theorem KZ (hT : ue P tt) (h : Sim C N ρ st a w Ds) (hn : wj o = true → ρ n = none)    (e : stepP tt N n o st = some (u, R, U)) : uU P C N n (nx o n) o ρ a w Ds (z7 U st) := by
 unfold stepP at e
 obtain ⟨r, R1, U1, R2, U2, h1, h2, rfl, rfl⟩ := bind_some e
 have hp := z4n hT h hn h1
 rw [zl]
 cases r with
 | some v =>
  simp only at h2
  obtain ⟨ρ', w', cv, d1, d2, d3, d4⟩ := hp
  intro r m K Q hK
  refine ⟨fun _ _ => trivial, ?_⟩
  rw [xZ d1 (by simp)]
  exact hK ρ' _ _ d2 (z5w d3 h2 d4)
 | none =>
  simp only at h2
  split at h2
  ·rename_i hd
   obtain ⟨_, _, rfl⟩ := zf h2
   obtain ⟨w', d1, d2⟩ := hp
   intro r m K Q hK
   refine ⟨fun _ _ => trivial, ?_⟩
   rw [xZ d1 (by simp), Oper.uponIn_skip, Option.isNone_iff_eq_none.1 hd]
   exact hK ρ _ _ (Ext.refl _ _ _) d2
  ·exact (zn h2).elim
def z5s (P : Program) (C : Ctx) (N lo hi : Nat) (ops : Array Oper) (o : Oper) (ρ : Pl) (a : Act) (w : World) (Ds : List Nat) (st' : St) : Prop :=
 ∀ (r : Option Nat) (m : Nat) (K : Act → World → Prop) (Q : Exit → Act → World → Prop), (∀ ρ' a' w', Ext lo hi ρ ρ' → Sim C N ρ' st' a' w' Ds → K a' w') →
  if Region.wanted o (yielded ops a.tmps) then o.wpIn (fen r) m P a w K Q else (∀ f, o.about P w a.eval = some f → (fen r).fn f) ∧ K (a.put o.dst undef) w
theorem z0H {j g : Nat} {want b : Bool} (hg : o.guard = some (j, want)) (hd : (ops[j]?).bind (·.dst) = some g) (hb : VR C.S ρ (.lit (.bool b)) (Act.tv a g)) : Region.wanted o (yielded ops a.tmps) = (b == want) := by
 simp only [VR] at hb
 have hy : yielded ops a.tmps j = some b := by
  unfold yielded
  rw [hd]
  simp only [Option.bind_some]
  have : a.tmps[g]? = some (.bool b) := by
   unfold Act.tv at hb
   rw [Array.getD_eq_getD_getElem?] at hb
   cases hx : a.tmps[g]? with
   | none => rw [hx] at hb; simp [undef] at hb
   | some u => rw [hx] at hb; simp at hb; rw [hb]
  rw [this]
 simp only [Region.wanted, hg, hy]
 cases b <;> cases want <;> rfl
theorem XI (hT : ue P tt) (h : Sim C N ρ st a w Ds) (hn : wj o = true → ρ n = none)     (e : stepG tt N n ops o st = some (u, R, U)) : z5s P C N n (nx o n) ops o ρ a w Ds (z7 U st) := by
 unfold stepG at e
 cases hg : o.guard with
 | none =>
  simp only [hg] at e
  intro rd m K Q hK
  simp only [Region.wanted, hg, if_true]
  exact KZ hT h hn e rd m K Q hK
 | some q =>
  obtain ⟨j, want⟩ := q
  simp only [hg] at e
  cases hd : (ops[j]?).bind (·.dst) with
  | none => simp only [hd] at e; exact (zn e).elim
  | some g =>
   simp only [hd] at e
   obtain ⟨b, R1, U1, R2, U2, h1, e1, rfl, rfl⟩ := bind_some e
   obtain ⟨rfl, hb⟩ := Jc h h1
   simp only [z7, List.nil_append] at e1 ⊢
   split at e1
   ·rename_i b
    have hw := z0H hg hd hb
    intro rd m K Q hK
    rw [hw]
    split at e1
    ·rename_i hbw
     rw [if_pos (by simp [hbw])]
     exact KZ hT h hn e1 rd m K Q hK
    ·rename_i hbw
     rw [if_neg (by simp [hbw])]
     exact ⟨fun _ _ => trivial, hK ρ _ _ (Ext.refl _ _ _) (z5w h e1 (by simp only [VR]))⟩
   ·exact (zn e1).elim
end
variable {α : Type}
def z9 (m : EM α) : Prop := ∀ st st' a R U, m st = some (a, R, U) → (∀ k ∈ R, st' k = st k) → m st' = some (a, R, U)
variable {k : Key}
theorem qU (us : Ups) {st st' : St}  (h : st' k = st k) : z7 us st' k = z7 us st k := by
 induction us generalizing st st' with
 | nil => exact h
 | cons u us ih =>
  simp only [z7]
  refine ih ?_
  unfold upd
  split
  ·rfl
  ·exact h
theorem z9.bind {α β : Type} {m : EM α} {f : α → EM β} (h1 : z9 m) (h2 : ∀ a, z9 (f a)) : z9 (m >>= f) := by
 intro st st' b R U e hR
 obtain ⟨a, R1, U1, R2, U2, q1, q2, rfl, rfl⟩ := bind_some e
 have k1 := h1 st st' a R1 U1 q1 (fun k hk => hR k (by simp [hk]))
 have k2 := h2 a _ (z7 U1 st') b R2 U2 q2 (fun k hk => qU U1 (hR k (by simp [hk])))
 show EM.bind m f st' = _
 unfold EM.bind
 rw [k1]
 simp only [k2]
theorem z9.pure (a : α) : z9 (Pure.pure a : EM α) := by
 intro st st' b R U e _
 obtain ⟨rfl, rfl, rfl⟩ := zf e
 rfl
theorem z9.fail : z9 (efail : EM α) := by
 intro st st' b R U e _
 exact (zn e).elim
theorem z9.rdX (k : Key) : z9 (rdX k) := by
 intro st st' b R U e h
 obtain ⟨rfl, rfl, rfl⟩ := Zd e
 simp [Go.Ex.rdX, h k (by simp)]
theorem z9.wrX (k : Key) (x : X) : z9 (wrX k x) := by
 intro st st' b R U e _
 obtain ⟨rfl, rfl⟩ := wd e
 rfl
theorem z9.ofO (x : Option α) : z9 (ofO x) := by
 intro st st' b R U e _
 obtain ⟨h, rfl, rfl⟩ := zp e
 simp [Go.Ex.ofO, h]
theorem z9.ite {c : Prop} [Decidable c] {x y : EM α} (h1 : z9 x) (h2 : z9 y) : z9 (if c then x else y) := by split <;> assumption
theorem z9.rdS (t : Nat) : z9 (rdS t) := z9.bind (z9.rdX _) fun _ => z9.pure _
theorem z9.opV (x : Operand) : z9 (opV x) := by
 cases x <;> simp only [Go.Ex.opV]
 ·exact z9.rdS _
 ·exact z9.pure _
 ·exact z9.fail
 ·exact z9.pure _
theorem z9.opVs : ∀ xs, z9 (opVs xs)
 | [] => z9.pure _
 | x :: xs => z9.bind (z9.opV x) fun _ => z9.bind (z9.opVs xs) fun _ => z9.pure _
theorem z9.rdB (b : Nat) : z9 (rdB b) := by
 refine z9.bind (z9.rdX _) fun x => ?_
 split <;> first | exact z9.pure _ | exact z9.fail
theorem z9.rdF (b : Nat) : z9 (rdF b) := by
 refine z9.bind (z9.rdX _) fun x => ?_
 split <;> first | exact z9.pure _ | exact z9.fail
theorem z9.rdM (b : Nat) : z9 (rdM b) := by
 refine z9.bind (z9.rdX _) fun x => ?_
 split <;> first | exact z9.pure _ | exact z9.fail
theorem z9.touch (b fam lo hi : Nat) : ∀ l, z9 (touch b fam lo hi l)
 | [] => z9.pure _
 | m :: l => by
  simp only [Go.Ex.touch]
  refine z9.ite (z9.touch b fam lo hi l) (z9.bind (z9.rdX _) fun x => ?_)
  split
  ·exact z9.ite (z9.bind (z9.wrX _ _) fun _ => z9.touch b fam lo hi l) (z9.touch b fam lo hi l)
  ·exact z9.touch b fam lo hi l
theorem z9.putB (b q : Nat) (xs : List V) : z9 (putB b q xs) := z9.bind (z9.rdB b) fun _ => z9.ite (z9.bind (z9.rdF _) fun _ => z9.bind (z9.touch _ _ _ _ _) fun _ => z9.wrX _ _) z9.fail
theorem z9.wrNew (n : Nat) (k : Blk) : z9 (wrNew n k) := z9.bind (z9.wrX _ _) fun _ => z9.wrX _ _
theorem z9.grow (n z m : Nat) (cs : List V) : z9 (grow n z m cs) := z9.bind (z9.wrNew _ _) fun _ => z9.pure _
theorem z9.loadV (tt : ET) (t : Nat) (x : V) : z9 (loadV tt t x) := by
 refine z9.bind (z9.ofO _) fun i => ?_
 split
 ·exact z9.bind (z9.rdB _) fun _ => z9.ite (z9.ofO _) z9.fail
 ·exact z9.bind (z9.ofO _) fun _ => z9.ite (z9.ofO _) z9.fail
 ·exact z9.fail
theorem z9.storeV (tt : ET) (t : Nat) (x v : V) : z9 (storeV tt t x v) := by
 refine z9.bind (z9.ofO _) fun i => ?_
 split
 ·exact z9.ite (z9.putB _ _ _) z9.fail
 ·exact z9.fail
theorem z9.lenV (tt : ET) (t : Nat) (x : V) : z9 (lenV tt t x) := by
 refine z9.bind (z9.ofO _) fun i => ?_
 split <;> first | exact z9.pure _ | exact z9.fail | exact z9.bind (z9.rdM _) fun _ => z9.pure _
theorem z9.allocV (tt : ET) (n t : Nat) : z9 (allocV tt n t) := z9.bind (z9.ofO _) fun _ => z9.bind (z9.ofO _) fun _ => z9.bind (z9.wrNew _ _) fun _ => z9.pure _
theorem z9.boxV (n : Nat) (x : V) : z9 (boxV n x) := z9.ite (z9.bind (z9.wrNew _ _) fun _ => z9.pure _) z9.fail
theorem z9.makeSliceV (tt : ET) (n t : Nat) (l c : Int) : z9 (makeSliceV tt n t l c) := z9.bind (z9.ofO _) fun _ => z9.bind (z9.ofO _) fun _ => z9.ite (z9.bind (z9.wrNew _ _) fun _ => z9.pure _) z9.fail
theorem z9.parts : ∀ ps, z9 (parts ps)
 | [] => z9.pure _
 | (_, x) :: ps => z9.bind (z9.opV x) fun _ => z9.bind (z9.parts ps) fun _ => z9.pure _
theorem z9.buildSliceV (tt : ET) (n t len : Nat) (ps : List (Nat × V)) : z9 (buildSliceV tt n t len ps) :=
 z9.bind (z9.ofO _) fun _ => z9.bind (z9.ofO _) fun _ => z9.ite (z9.bind (z9.ofO _) fun _ => z9.bind (z9.wrNew _ _) fun _ => z9.pure _) z9.fail
theorem z9.elems (z : Nat) (x : V) : z9 (elems z x) := by
 unfold Go.Ex.elems
 split
 ·exact z9.pure _
 ·exact z9.bind (z9.rdB _) fun _ => z9.ite (z9.pure _) z9.fail
 ·exact z9.bind (z9.ofO _) fun _ => z9.ite (z9.pure _) z9.fail
 ·exact z9.fail
theorem z9.moveV (n q z l m : Nat) (k : Blk) (ys : List V) : z9 (moveV n q z l m k ys) :=
 z9.bind (z9.ite (z9.rdF _) z9.fail) fun _ => z9.bind (z9.ite (z9.pure _) z9.fail) fun _ => z9.bind (z9.wrX _ _) fun _ => z9.bind (z9.wrX _ _) fun _ => z9.bind (z9.touch _ _ _ _ _) fun _ => z9.bind (z9.wrX _ _) fun _ => z9.pure _
theorem z9.appendSl (n z b q l m : Nat) (c : Option Nat) (ys : List V) : z9 (appendSl n z b q l m c ys) :=
 z9.bind (z9.rdB _) fun _ => z9.ite (z9.bind (z9.putB _ _ _) fun _ => z9.pure _) (z9.ite (z9.grow _ _ _ _) (z9.ite (z9.moveV _ _ _ _ _ _ _) z9.fail))
theorem z9.appendV (tt : ET) (n t : Nat) (s x : V) : z9 (appendV tt n t s x) := by
 refine z9.bind (z9.ofO _) fun q => ?_
 obtain ⟨e, i⟩ := q
 refine z9.ite (z9.bind (z9.elems _ _) fun q => ?_) z9.fail
 obtain ⟨m, ys⟩ := q
 dsimp only
 split
 ·exact z9.ite (z9.pure _) (z9.ite (z9.grow _ _ _ _) z9.fail)
 ·exact z9.bind (z9.ofO _) fun _ => z9.ite (z9.grow _ _ _ _) z9.fail
 ·exact z9.ite (z9.pure _) (z9.ite (z9.appendSl _ _ _ _ _ _ _ _) z9.fail)
 ·exact z9.fail
theorem z9.opO (x : Option Operand) : z9 (opO x) := by
 cases x
 ·exact z9.pure _
 ·exact z9.bind (z9.opV _) fun _ => z9.pure _
theorem z9.entsV (x : V) : z9 (entsV x) := by
 unfold Go.Ex.entsV
 split
 ·exact z9.pure _
 ·exact z9.rdM _
 ·exact z9.fail
theorem z9.lookupV (tt : ET) (t : Nat) (x i : V) (ok : Bool) : z9 (lookupV tt t x i ok) := by
 refine z9.bind (z9.ofO _) fun ⟨_, _⟩ => z9.bind (z9.ofO _) fun k => z9.bind (z9.entsV _) fun es => z9.ite (z9.bind (z9.ofO _) fun r => ?_) z9.fail
 split
 ·exact z9.pure _
 ·exact z9.bind (z9.ofO _) fun _ => z9.pure _
theorem z9.mapUpdateV (tt : ET) (t : Nat) (x i v : V) : z9 (mapUpdateV tt t x i v) := by
 refine z9.bind (z9.ofO _) fun ⟨_, _⟩ => z9.bind (z9.ofO _) fun k => ?_
 split
 ·refine z9.bind (z9.rdM _) fun es => z9.ite (z9.bind (z9.ofO _) fun r => ?_) z9.fail
  split <;> exact z9.wrX _ _
 ·exact z9.fail
theorem z9.makeMapV (n : Nat) : z9 (makeMapV n) := z9.bind (z9.wrX _ _) fun _ => z9.pure _
theorem z9.one {m : EM V} (h : z9 m) : z9 (one m) := z9.bind h fun _ => z9.pure _
theorem z9.pickV (c x y : Operand) : z9 (pickV c x y) := by
 refine z9.bind (z9.opV _) fun b => ?_
 split <;> first | exact z9.opV _ | exact z9.fail
theorem z9.callB (tt : ET) (n : Nat) (b : Builtin) (args : List Operand) (tys : List Nat) : z9 (callB tt n b args tys) := by
 unfold Go.Ex.callB
 split
 ·exact z9.bind (z9.opV _) fun _ => (z9.lenV _ _ _).one
 ·exact z9.bind (z9.opV _) fun _ => (z9.ofO _).one
 ·exact z9.ite (z9.bind (z9.opV _) fun _ => z9.bind (z9.opV _) fun _ => (z9.appendV _ _ _ _ _).one) z9.fail
 ·exact z9.bind (z9.opV _) fun _ => z9.bind (z9.opVs _) fun _ => (z9.ofO _).one
 ·exact z9.bind (z9.opV _) fun _ => z9.bind (z9.opVs _) fun _ => (z9.ofO _).one
 ·exact z9.fail
theorem z9.primV (tt : ET) (n : Nat) (o : Oper) : z9 (primV tt n o) := by
 unfold Go.Ex.primV
 split
 ·exact (z9.opV _).one
 ·exact (z9.opV _).one
 ·exact (z9.pickV _ _ _).one
 ·exact z9.bind (z9.opV _) fun _ => z9.bind (z9.opV _) fun _ => (z9.ofO _).one
 ·exact z9.bind (z9.opV _) fun _ => (z9.ofO _).one
 ·exact z9.bind (z9.opV _) fun _ => (z9.ofO _).one
 ·exact z9.bind (z9.opV _) fun _ => (z9.ofO _).one
 ·exact z9.bind (z9.opV _) fun _ => (z9.ofO _).one
 ·exact z9.bind (z9.opV _) fun _ => (z9.loadV _ _ _).one
 ·exact z9.bind (z9.opV _) fun _ => z9.bind (z9.opV _) fun _ => z9.bind (z9.storeV _ _ _ _) fun _ => z9.pure _
 ·exact z9.bind (z9.opV _) fun _ => (z9.ofO _).one
 ·exact z9.bind (z9.opV _) fun _ => z9.bind (z9.opV _) fun _ => z9.bind (z9.ofO _) fun _ => (z9.ofO _).one
 ·exact (z9.allocV _ _ _).one
 ·exact z9.bind (z9.opV _) fun _ => (z9.boxV _ _).one
 ·exact z9.bind (z9.parts _) fun _ => (z9.ofO _).one
 ·exact z9.bind (z9.parts _) fun _ => (z9.buildSliceV _ _ _ _ _).one
 ·exact z9.bind (z9.opV _) fun _ => z9.bind (z9.opV _) fun _ => z9.bind (z9.ofO _) fun _ => z9.bind (z9.ofO _) fun _ => (z9.makeSliceV _ _ _ _ _).one
 ·exact z9.bind (z9.opVs _) fun _ => z9.pure _
 ·exact (z9.makeMapV _).one
 ·exact z9.bind (z9.opV _) fun _ => z9.bind (z9.ofO _) fun _ => z9.bind (z9.ofO _) fun _ => (z9.makeMapV _).one
 ·exact z9.bind (z9.opV _) fun _ => z9.bind (z9.opO _) fun _ => z9.bind (z9.opO _) fun _ => z9.bind (z9.opO _) fun _ => (z9.ofO _).one
 ·exact z9.bind (z9.opV _) fun _ => (z9.ofO _).one
 ·exact z9.bind (z9.opV _) fun _ => z9.bind (z9.opV _) fun _ => z9.bind (z9.ofO _) fun _ => (z9.ofO _).one
 ·exact z9.bind (z9.opV _) fun _ => z9.bind (z9.opV _) fun _ => (z9.lookupV _ _ _ _ _).one
 ·exact z9.bind (z9.opV _) fun _ => z9.bind (z9.opV _) fun _ => z9.bind (z9.opV _) fun _ => z9.bind (z9.mapUpdateV _ _ _ _ _) fun _ => z9.pure _
 ·exact z9.bind (z9.opV _) fun _ => z9.bind (z9.opV _) fun _ => z9.bind (z9.opV _) fun _ => z9.bind (z9.mapUpdateV _ _ _ _ _) fun _ => z9.pure _
 ·exact z9.callB _ _ _ _ _
 ·exact z9.fail
theorem z9.wrS (N : Nat) (dst : Option Nat) (x : V) : z9 (wrS N dst x) := by
 unfold Go.Ex.wrS
 split
 ·exact z9.pure _
 ·exact z9.ite (z9.wrX _ _) z9.fail
theorem z9.stepP (tt : ET) (N n : Nat) (o : Oper) : z9 (stepP tt N n o) := by
 refine z9.bind (z9.primV _ _ _) fun r => ?_
 split
 ·exact z9.wrS _ _ _
 ·exact z9.ite (z9.pure _) z9.fail
theorem z9.stepG (tt : ET) (N n : Nat) (ops : Array Oper) (o : Oper) : z9 (stepG tt N n ops o) := by
 unfold Go.Ex.stepG
 split
 ·exact z9.stepP _ _ _ _
 ·split
  ·refine z9.bind (z9.rdS _) fun b => ?_
   split
   ·exact z9.ite (z9.stepP _ _ _ _) (z9.wrS _ _ _)
   ·exact z9.fail
  ·exact z9.fail
inductive Tr where
 | nil
 | node (v : X) (l r : Tr)
def Tr.get0 : Tr → Nat → X
 | .nil, _ => .z
 | .node v _ _, 0 => v
 | .node _ l r, k + 1 => match k % 2 with
  | 0 => l.get0 (k / 2)
  | _ => r.get0 (k / 2)
def Tr.set0 : Nat → Tr → Nat → X → Tr
 | 0, t, _, _ => t
 | _ + 1, .nil, 0, x => .node x .nil .nil
 | f + 1, .nil, k + 1, x => match k % 2 with
  | 0 => .node .z (Tr.set0 f .nil (k / 2) x) .nil
  | _ => .node .z .nil (Tr.set0 f .nil (k / 2) x)
 | _ + 1, .node _ l r, 0, x => .node x l r
 | f + 1, .node v l r, k + 1, x => match k % 2 with
  | 0 => .node v (Tr.set0 f l (k / 2) x) r
  | _ => .node v l (Tr.set0 f r (k / 2) x)
theorem Tr.get0_nil (k : Nat) : Tr.get0 .nil k = .z := by cases k <;> rfl
theorem Tr.get0_set : ∀ (f : Nat) (t : Tr) (k : Nat) (x : X) (j : Nat), k < f → Tr.get0 (Tr.set0 f t k x) j = if j = k then x else Tr.get0 t j
 | 0, _, _, _, _, h => by omega
 | f + 1, .nil, 0, x, j, _ => by
  cases j with
  | zero => rfl
  | succ j =>
   simp only [Tr.set0, Tr.get0]
   split <;> simp
 | f + 1, .nil, k + 1, x, j, h => by
  have hk : k / 2 < f := by omega
  cases j with
  | zero =>
   simp only [Tr.set0]
   split <;> simp [Tr.get0]
  | succ j =>
   simp only [Tr.set0, Tr.get0_nil]
   have ih := Tr.get0_set f .nil (k / 2) x (j / 2) hk
   rw [Tr.get0_nil] at ih
   rcases Nat.mod_two_eq_zero_or_one k with hk2 | hk2 <;> rcases Nat.mod_two_eq_zero_or_one j with hj2 | hj2 <;> simp only [hk2, Tr.get0, hj2]
   ·rw [ih]
    by_cases e : j = k
    ·subst e; simp
    ·rw [if_neg (by omega), if_neg (by omega)]
   ·rw [if_neg (by omega)]
   ·rw [if_neg (by omega)]
   ·rw [ih]
    by_cases e : j = k
    ·subst e; simp
    ·rw [if_neg (by omega), if_neg (by omega)]
 | f + 1, .node v l r, 0, x, j, _ => by
  cases j with
  | zero => rfl
  | succ j => simp only [Tr.set0, Tr.get0]; simp
 | f + 1, .node v l r, k + 1, x, j, h => by
  have hk : k / 2 < f := by omega
  cases j with
  | zero =>
   simp only [Tr.set0]
   split <;> simp [Tr.get0]
  | succ j =>
   simp only [Tr.set0]
   have ih1 := Tr.get0_set f l (k / 2) x (j / 2) hk
   have ih2 := Tr.get0_set f r (k / 2) x (j / 2) hk
   rcases Nat.mod_two_eq_zero_or_one k with hk2 | hk2 <;> rcases Nat.mod_two_eq_zero_or_one j with hj2 | hj2 <;> simp only [hk2, Tr.get0, hj2]
   ·rw [ih1]
    by_cases e : j = k
    ·subst e; simp
    ·rw [if_neg (by omega), if_neg (by omega)]
   ·rw [if_neg (by omega)]
   ·rw [if_neg (by omega)]
   ·rw [ih2]
    by_cases e : j = k
    ·subst e; simp
    ·rw [if_neg (by omega), if_neg (by omega)]
noncomputable def Tr.get (t : Tr) : Nat → X :=
 Tr.rec (motive := fun _ => Nat → X) (fun _ => .z) (fun v _ _ gl gr k => Nat.rec (motive := fun _ => X) v (fun k _ => Bool.rec (motive := fun _ => X) (gl (Nat.div k 2)) (gr (Nat.div k 2)) (Nat.beq (Nat.mod k 2) 1)) k) t
noncomputable def Tr.set (f : Nat) : Tr → Nat → X → Tr :=
 Nat.rec (motive := fun _ => Tr → Nat → X → Tr) (fun t _ _ => t) (fun _ ih t k x =>
  Tr.rec (motive := fun _ => Tr)
   (Nat.rec (motive := fun _ => Tr) (.node x .nil .nil) (fun k _ => Bool.rec (motive := fun _ => Tr) (.node .z (ih .nil (Nat.div k 2) x) .nil) (.node .z .nil (ih .nil (Nat.div k 2) x)) (Nat.beq (Nat.mod k 2) 1)) k)
   (fun v l r _ _ => Nat.rec (motive := fun _ => Tr) (.node x l r) (fun k _ => Bool.rec (motive := fun _ => Tr) (.node v (ih l (Nat.div k 2) x) r) (.node v l (ih r (Nat.div k 2) x)) (Nat.beq (Nat.mod k 2) 1)) k) t) f
noncomputable def Tr.put (t : Tr) (k : Nat) (x : X) : Tr := Tr.set (Nat.succ k) t k x
theorem Tr.get_eq : ∀ (t : Tr) (k : Nat), t.get k = t.get0 k
 | .nil, k => by cases k <;> rfl
 | .node v l r, 0 => rfl
 | .node v l r, k + 1 => by
  show (Bool.rec (l.get (Nat.div k 2)) (r.get (Nat.div k 2)) (Nat.beq (Nat.mod k 2) 1) : X) = Tr.get0 (.node v l r) (k + 1)
  have e1 := Tr.get_eq l (Nat.div k 2)
  have e2 := Tr.get_eq r (Nat.div k 2)
  rw [e1, e2]
  have h0 : Nat.mod k 2 = k % 2 := rfl
  rcases Nat.mod_two_eq_zero_or_one k with h | h
  ·simp only [Tr.get0, h, h0]; rfl
  ·simp only [Tr.get0, h, h0]; rfl
theorem Tr.set_eq : ∀ (f : Nat) (t : Tr) (k : Nat) (x : X), Tr.set f t k x = Tr.set0 f t k x
 | 0, t, k, x => rfl
 | f + 1, .nil, 0, x => rfl
 | f + 1, .nil, k + 1, x => by
  show (Bool.rec (Tr.node .z (Tr.set f .nil (Nat.div k 2) x) .nil) (Tr.node .z .nil (Tr.set f .nil (Nat.div k 2) x)) (Nat.beq (Nat.mod k 2) 1) : Tr) = Tr.set0 (f + 1) .nil (k + 1) x
  rw [Tr.set_eq f .nil (Nat.div k 2) x]
  have h0 : Nat.mod k 2 = k % 2 := rfl
  rcases Nat.mod_two_eq_zero_or_one k with h | h
  ·simp only [Tr.set0, h, h0]; rfl
  ·simp only [Tr.set0, h, h0]; rfl
 | f + 1, .node v l r, 0, x => rfl
 | f + 1, .node v l r, k + 1, x => by
  show (Bool.rec (Tr.node v (Tr.set f l (Nat.div k 2) x) r) (Tr.node v l (Tr.set f r (Nat.div k 2) x)) (Nat.beq (Nat.mod k 2) 1) : Tr) = Tr.set0 (f + 1) (.node v l r) (k + 1) x
  rw [Tr.set_eq f l (Nat.div k 2) x, Tr.set_eq f r (Nat.div k 2) x]
  have h0 : Nat.mod k 2 = k % 2 := rfl
  rcases Nat.mod_two_eq_zero_or_one k with h | h
  ·simp only [Tr.set0, h, h0]; rfl
  ·simp only [Tr.set0, h, h0]; rfl
theorem Tr.get_nil (k : Nat) : Tr.get .nil k = .z := by rw [Tr.get_eq]; exact Tr.get0_nil k
theorem Tr.get_put (t : Tr) (k : Nat) (x : X) (j : Nat) : (t.put k x).get j = if j = k then x else t.get j := by
 unfold Tr.put
 rw [Tr.get_eq, Tr.set_eq, Tr.get_eq]
 exact Tr.get0_set _ _ _ _ _ (Nat.lt_succ_self _)
structure S where
 fr : Tr
 hb : Tr
 hf : Tr
 n : Nat
 ws : List Key
noncomputable def y6 (s : S) : St
 | .s t => s.fr.get t
 | .b i => s.hb.get i
 | .f i => s.hf.get i
noncomputable def zcu (s : S) : Key → X → S
 | .s t, x => { s with fr := s.fr.put t x }
 | .b i, x => { s with hb := s.hb.put i x }
 | .f i, x => { s with hf := s.hf.put i x }
theorem z1H (s : S) (k : Key) (x : X) : y6 (zcu s k x) = upd (y6 s) k x := by
 funext j
 cases k <;> cases j <;> simp [zcu, y6, upd, Tr.get_put]
noncomputable def xy : Ups → S → S
 | [], s => s
 | u :: us, s => xy us (zcu s u.1 u.2)
theorem xT : ∀ (us : Ups) (s : S), y6 (xy us s) = z7 us (y6 s)
 | [], _ => rfl
 | u :: us, s => by simp only [xy, z7]; rw [xT us, z1H]
def Key.id : Key → Option Nat
 | .s _ => none
 | .b i => some i
 | .f i => some i
def okK (n : Nat) (k : Key) : Bool :=
 match k with
 | .s _ => true
 | .b i => Nat.blt i n
 | .f i => Nat.blt i n
variable {n : Nat}
theorem z2q (h : okK n k = true) : ∀ i, k.id = some i → i < n := by
 intro i hi
 cases k <;> simp only [Key.id, Option.some.injEq] at hi
 ·cases hi
 ·subst hi; simpa [okK, Nat.blt_eq] using h
 ·subst hi; simpa [okK, Nat.blt_eq] using h
def vw (st : St) (n : Nat) : Prop := (∀ i, n ≤ i → st (.b i) = .z ∧ st (.f i) = .z) ∧ ∀ f l, st (.f f) = .m l → l.top ≤ n
variable {i : Nat}{st : St}
theorem vw.key (h : vw st n)   (hk : k.id = some i) (hi : n ≤ i) : st k = .z := by
 cases k <;> simp only [Key.id, Option.some.injEq] at hk
 ·cases hk
 ·subst hk; exact (h.1 _ hi).1
 ·subst hk; exact (h.1 _ hi).2
def okX (n : Nat) (x : X) : Bool :=
 match x with
 | .m f => Nat.ble f.top n
 | _ => true
def okU (n : Nat) (us : Ups) : Bool := us.all fun u => okK n u.1 && okX n u.2
variable {us : Ups}
theorem wc (h : ∀ u ∈ us, u.1 ≠ k) : ∀ {st : St}, z7 us st k = st k := by
 induction us with
 | nil => intro st; rfl
 | cons u us ih =>
  intro st
  simp only [z7]
  rw [ih (fun v hv => h v (by simp [hv])), zt _ _ (Ne.symm (h u (by simp)))]
theorem V4 (h : ∃ u ∈ us, u.1 = k) : ∀ {st st' : St}, z7 us st k = z7 us st' k := by
 induction us with
 | nil => obtain ⟨_, h, _⟩ := h; cases h
 | cons u us ih =>
  intro st st'
  simp only [z7]
  by_cases h2 : ∃ v ∈ us, v.1 = k
  ·exact ih h2
  ·have h3 : ∀ v ∈ us, v.1 ≠ k := fun v hv e => h2 ⟨v, hv, e⟩
   rw [wc h3, wc h3]
   obtain ⟨v, hv, e⟩ := h
   rcases List.mem_cons.1 hv with rfl | hv
   ·rw [← e, zC, zC]
   ·exact absurd e (h3 v hv)
theorem z1u {st : St} : z7 us st k = st k ∨ ∃ u ∈ us, u.1 = k ∧ z7 us st k = u.2 := by
 induction us generalizing st with
 | nil => exact .inl rfl
 | cons u us ih =>
  simp only [z7]
  rcases ih (st := upd st u.1 u.2) with h | ⟨v, h1, h2, h3⟩
  ·by_cases e : k = u.1
   ·subst e; rw [zC] at h; exact .inr ⟨u, by simp, rfl, h⟩
   ·rw [zt _ _ e] at h; exact .inl h
  ·exact .inr ⟨v, by simp [h1], h2, h3⟩
theorem UZ (h : okU n us = true) {u : Key × X} (hu : u ∈ us) : okK n u.1 = true ∧ okX n u.2 = true := by
 have := List.all_eq_true.1 h u hu
 rwa [Bool.and_eq_true] at this
theorem vw.apply {st : St} {n n' : Nat} {us : Ups} (h : vw st n) (hn : n ≤ n') (hu : okU n' us = true) : vw (z7 us st) n' := by
 refine ⟨fun i hi => ?_, ?_⟩
 ·have go : ∀ k : Key, k.id = some i → z7 us st k = .z := by
   intro k hk
   rw [wc]
   ·exact h.key hk (by omega)
   ·rintro u hu' rfl
    have := z2q (UZ hu hu').1 i hk
    omega
  exact ⟨go _ rfl, go _ rfl⟩
 ·intro f l hl
  rcases z1u (us := us) (k := .f f) (st := st) with e | ⟨u, h1, h2, h3⟩
  ·rw [e] at hl; exact Nat.le_trans (h.2 f l hl) hn
  ·rw [h3] at hl
   have := (UZ hu h1).2
   rw [hl] at this
   exact Nat.le_of_ble_eq_true this
structure Log where
 rk : List Key
 wk : List Key
 rb : Nat
 lo : Nat
 hi : Nat
def Log.r (l : Log) (k : Key) : Prop := k ∈ l.rk ∨ ∃ i, k.id = some i ∧ i < l.rb
def Log.w (l : Log) (k : Key) : Prop := k ∈ l.wk ∨ ∃ i, k.id = some i ∧ l.lo ≤ i ∧ i < l.hi
instance (k j : Key) : Decidable (k = j) := inferInstance
def Key.beq : Key → Key → Bool
 | .s x, .s y => Nat.beq x y
 | .b x, .b y => Nat.beq x y
 | .f x, .f y => Nat.beq x y
 | _, _ => false
theorem Key.beq_iff {a b : Key} : a.beq b = true ↔ a = b := by
 cases a <;> cases b <;> simp [Key.beq]
def zcv (l : List Key) (k : Key) : Bool := l.any fun j => j.beq k
theorem z0G {l : List Key}  : zcv l k = true ↔ k ∈ l := by
 simp only [zcv, List.any_eq_true, Key.beq_iff]
 constructor
 ·rintro ⟨j, h, rfl⟩; exact h
 ·intro h; exact ⟨k, h, rfl⟩
def Log.rB (l : Log) (k : Key) : Bool := zcv l.rk k || (match k.id with | some i => Nat.blt i l.rb | none => false)
def Log.wB (l : Log) (k : Key) : Bool := zcv l.wk k || (match k.id with | some i => Nat.ble l.lo i && Nat.blt i l.hi | none => false)
theorem Log.rB_iff {l : Log}  : l.rB k = true ↔ l.r k := by
 unfold Log.rB Log.r
 rw [Bool.or_eq_true, z0G]
 cases h : k.id <;> simp [Nat.blt_eq]
theorem Log.wB_iff {l : Log}  : l.wB k = true ↔ l.w k := by
 unfold Log.wB Log.w
 rw [Bool.or_eq_true, z0G]
 cases h : k.id <;> simp [Nat.blt_eq]
def z12 (a b : Log) : Bool := a.wk.all (fun k => !b.wB k && !b.rB k) && (Nat.ble a.hi a.lo || (Nat.ble b.rb a.lo && (Nat.ble b.hi a.lo || Nat.ble a.hi b.lo || Nat.ble b.hi b.lo) && b.wk.all (fun k => !a.wB k) && b.rk.all (fun k => !a.wB k)))
def apart (a b : Log) : Bool := z12 a b && z12 b a
theorem z3o {a b : Log} (h : z12 a b = true)  (hk : a.w k) : ¬ b.w k ∧ ¬ b.r k := by
 unfold z12 at h
 rw [Bool.and_eq_true, Bool.or_eq_true] at h
 obtain ⟨h1, h2⟩ := h
 rcases hk with hk | ⟨i, hi, h3, h4⟩
 ·have := List.all_eq_true.1 h1 k hk
  simp only [Bool.and_eq_true, Bool.not_eq_true'] at this
  exact ⟨fun q => by rw [Log.wB_iff.2 q] at this; exact absurd this.1 (by simp), fun q => by rw [Log.rB_iff.2 q] at this; exact absurd this.2 (by simp)⟩
 ·rcases h2 with h2 | h2
  ·have := Nat.le_of_ble_eq_true h2; omega
  ·simp only [Bool.and_eq_true, Bool.or_eq_true] at h2
   obtain ⟨⟨⟨g1, g2⟩, g3⟩, g4⟩ := h2
   have g1 := Nat.le_of_ble_eq_true g1
   have haw : a.w k := .inr ⟨i, hi, h3, h4⟩
   constructor
   ·rintro (q | ⟨j, hj, q1, q2⟩)
    ·have := List.all_eq_true.1 g3 k q
     rw [Log.wB_iff.2 haw] at this; simp at this
    ·rw [hi] at hj; cases hj
     rcases g2 with (g2 | g2) | g2
     ·have := Nat.le_of_ble_eq_true g2; omega
     ·have := Nat.le_of_ble_eq_true g2; omega
     ·have := Nat.le_of_ble_eq_true g2; omega
   ·rintro (q | ⟨j, hj, q1⟩)
    ·have := List.all_eq_true.1 g4 k q
     rw [Log.wB_iff.2 haw] at this; simp at this
    ·rw [hi] at hj; cases hj
     omega
def KQ (acc : List Nat) (o : Oper) : Nat := o.after.toList.foldl (fun s e => if Region.binds .any e = true then s ||| 2 ^ e.on ||| acc.getD e.on 0 else s) 0
def jZ : List Oper → List Nat → List Nat
 | [], acc => acc
 | o :: os, acc => jZ os (acc ++ [KQ acc o])
def Xi (ops : List Oper) : Bool := ops.zipIdx.all fun p => p.1.after.toList.all fun e => !Region.binds .any e || e.on < p.2
def jp (ops : List Oper) (logs : List Log) : Bool :=
 Xi ops && (logs.zipIdx.all fun b => logs.zipIdx.all fun a => Nat.ble b.2 a.2 || ((jZ ops []).getD b.2 0).testBit a.2 || apart a.1 b.1)
theorem V7 {acc : List Nat} {o : Oper}  (h : (KQ acc o).testBit i = true) : ∃ e ∈ o.after.toList, Region.binds .any e = true ∧ (e.on = i ∨ (acc.getD e.on 0).testBit i = true) := by
 have gen : ∀ (l : List Edge) (s : Nat), (l.foldl (fun s e => if Region.binds .any e = true then s ||| 2 ^ e.on ||| acc.getD e.on 0 else s) s).testBit i = true → s.testBit i = true ∨ ∃ e ∈ l, Region.binds .any e = true ∧ (e.on = i ∨ (acc.getD e.on 0).testBit i = true) := by
  intro l
  induction l with
  | nil => intro s h; exact .inl h
  | cons e l ih =>
   intro s h
   simp only [List.foldl_cons] at h
   rcases ih _ h with h | ⟨e', h1, h2⟩
   ·split at h
    ·rename_i hb
     rw [Nat.testBit_or, Nat.testBit_or, Nat.testBit_two_pow] at h
     simp only [Bool.or_eq_true, decide_eq_true_eq] at h
     rcases h with (h | h) | h
     ·exact .inl h
     ·exact .inr ⟨e, by simp, hb, .inl h⟩
     ·exact .inr ⟨e, by simp, hb, .inr h⟩
    ·exact .inl h
   ·exact .inr ⟨e', by simp [h1], h2⟩
 rcases gen _ 0 h with h | h
 ·simp at h
 ·exact h
theorem wJ {ops : List Oper} {L : Nat → Bool} (hcl : ∀ j o, ops[j]? = some o → L j = true → ∀ e ∈ o.after.toList, Region.binds .any e = true → L e.on = true) :
  ∀ (l : List Oper) (acc : List Nat) (done : List Oper), ops = done ++ l → acc.length = done.length →
   (∀ j i, (acc.getD j 0).testBit i = true → L j = true → L i = true) → ∀ j i, ((jZ l acc).getD j 0).testBit i = true → L j = true → L i = true
 | [], acc, done, _, _, h => by simpa [jZ] using h
 | o :: os, acc, done, e, hl, h => by
  simp only [jZ]
  refine wJ hcl os (acc ++ [KQ acc o]) (done ++ [o]) (by simp [e]) (by simp [hl]) ?_
  intro j i hb hL
  rw [List.getD_eq_getElem?_getD] at hb
  by_cases hj : j < acc.length
  ·rw [List.getElem?_append_left hj, ← List.getD_eq_getElem?_getD] at hb
   exact h j i hb hL
  ·by_cases hj2 : j = acc.length
   ·subst hj2
    rw [List.getElem?_append_right (by omega)] at hb
    simp only [Nat.sub_self, List.getElem?_cons_zero, Option.getD_some] at hb
    obtain ⟨ed, h1, h2, h3⟩ := V7 hb
    have hLe := hcl acc.length o (by rw [e, hl, List.getElem?_append_right (by omega)]; simp) hL ed h1 h2
    rcases h3 with h3 | h3
    ·rw [← h3]; exact hLe
    ·exact h _ _ h3 hLe
   ·rw [List.getElem?_eq_none (by simp; omega)] at hb
    simp at hb
def zdc (P : Program) (C : Ctx) (N : Nat) (ops : Array Oper) (o : Oper) (s s' : S) (L : Log) : Prop :=
 ∀ (st : St) (ρ : Pl) (a : Act) (w : World) (Ds : List Nat), Sim C N ρ st a w Ds → (∀ k, L.r k → st k = y6 s k) → (∀ i, s.n ≤ i → i < s'.n → ρ i = none) → (∀ k i, k.id = some i → s.n ≤ i → i < s'.n → st k = .z) →
  z5s P C N s.n s'.n ops o ρ a w Ds (fun k => if L.wB k = true then y6 s' k else st k)
inductive Run (P : Program) (C : Ctx) (N : Nat) (ops : Array Oper) : List Oper → S → List (Log × S × S) → S → Prop
 | nil (s : S) : Run P C N ops [] s [] s
 | cons {o : Oper} {os : List Oper} {s s1 s2 : S} {L : Log} {l : List (Log × S × S)} (h : zdc P C N ops o s s1 L) (hv : ∀ k, L.wB k = false → y6 s1 k = y6 s k) (hn : s.n ≤ s1.n) (hi : ∀ k i, k.id = some i → L.w k → i < s1.n) (t : Run P C N ops os s1 l s2) : Run P C N ops (o :: os) s ((L, s, s1) :: l) s2
variable {l : List (Log × S × S)}{C : Ctx}{os : List Oper}{N : Nat}{s s2 : S}
theorem Run.mono (h : Run P C N ops os s l s2) : s.n ≤ s2.n := by
 induction h with
 | nil => exact Nat.le_refl _
 | cons _ _ hn _ _ ih => exact Nat.le_trans hn ih
theorem Run.get (h : Run P C N ops os s l s2) :
  l.length = os.length ∧ ∀ (i : Nat) (o : Oper), os[i]? = some o → ∃ L t t1, l[i]? = some (L, t, t1) ∧ zdc P C N ops o t t1 L ∧ (∀ k, L.wB k = false → y6 t1 k = y6 t k) ∧ t.n ≤ t1.n ∧ s.n ≤ t.n ∧ t1.n ≤ s2.n ∧ (∀ k i, k.id = some i → L.w k → i < t1.n) := by
 induction h with
 | nil => exact ⟨rfl, fun i o h => by simp at h⟩
 | @cons o os s s1 s2 L l h hv hn hi t ih =>
  refine ⟨by simp [ih.1], fun i o' ho => ?_⟩
  cases i with
  | zero =>
   simp only [List.getElem?_cons_zero, Option.some.injEq] at ho
   subst ho
   exact ⟨L, s, s1, rfl, h, hv, hn, Nat.le_refl _, t.mono, hi⟩
  | succ i =>
   simp only [List.getElem?_cons_succ] at ho ⊢
   obtain ⟨L', t', t1, g1, g2, g3, g4, g5, g6, g7⟩ := ih.2 i o' ho
   exact ⟨L', t', t1, g1, g2, g3, g4, by omega, g6, g7⟩
theorem Run.key (h : Run P C N ops os s l s2) (k : Key) :
  ∀ (i : Nat) (L : Log) (t t1 : S), l[i]? = some (L, t, t1) →
   (y6 t k = y6 s k ∧ ∀ j L' u u1, j < i → l[j]? = some (L', u, u1) → L'.wB k = false) ∨
   (∃ j L' u u1, j < i ∧ l[j]? = some (L', u, u1) ∧ L'.wB k = true ∧ y6 t k = y6 u1 k ∧ ∀ j' L'' u' u1', j < j' → j' < i → l[j']? = some (L'', u', u1') → L''.wB k = false) := by
 induction h with
 | nil => intro i L t t1 hi; simp at hi
 | @cons o os s s1 s2 L0 l h hv hn hi0 t ih =>
  intro i L t' t1 hi
  cases i with
  | zero =>
   simp only [List.getElem?_cons_zero, Option.some.injEq, Prod.mk.injEq] at hi
   obtain ⟨rfl, rfl, rfl⟩ := hi
   exact .inl ⟨rfl, fun j _ _ _ hj => by omega⟩
  | succ i =>
   simp only [List.getElem?_cons_succ] at hi
   rcases ih i L t' t1 hi with ⟨q1, q2⟩ | ⟨j, L', u, u1, q1, q2, q3, q4, q5⟩
   ·cases hw : L0.wB k with
    | false =>
     refine .inl ⟨by rw [q1, hv k hw], ?_⟩
     intro j L' u u1 hj hl
     cases j with
     | zero =>
      simp only [List.getElem?_cons_zero, Option.some.injEq, Prod.mk.injEq] at hl
      obtain ⟨rfl, _⟩ := hl
      exact hw
     | succ j => simp only [List.getElem?_cons_succ] at hl; exact q2 j L' u u1 (by omega) hl
    | true =>
     refine .inr ⟨0, L0, s, s1, by omega, rfl, hw, q1, ?_⟩
     intro j' L'' u' u1' h1 h2 hl
     cases j' with
     | zero => omega
     | succ j' => simp only [List.getElem?_cons_succ] at hl; exact q2 j' L'' u' u1' (by omega) hl
   ·refine .inr ⟨j + 1, L', u, u1, by omega, by simpa using q2, q3, q4, ?_⟩
    intro j' L'' u' u1' h1 h2 hl
    cases j' with
    | zero => omega
    | succ j' => simp only [List.getElem?_cons_succ] at hl; exact q5 j' L'' u' u1' (by omega) (by omega) hl
theorem Run.end_key (h : Run P C N ops os s l s2) (k : Key) :
      (y6 s2 k = y6 s k ∧ ∀ (j : Nat) (L' : Log) (u u1 : S), l[j]? = some (L', u, u1) → L'.wB k = false) ∨
      (∃ (j : Nat) (L' : Log) (u u1 : S), l[j]? = some (L', u, u1) ∧ L'.wB k = true ∧ y6 s2 k = y6 u1 k ∧ ∀ (j' : Nat) (L'' : Log) (u' u1' : S), j < j' → l[j']? = some (L'', u', u1') → L''.wB k = false) := by
  induction h with
  | nil => exact .inl ⟨rfl, fun j _ _ _ hj => by simp at hj⟩
  | @cons o os s s1 s2 L0 l h hv hn hi0 t ih =>
    rcases ih with ⟨q1, q2⟩ | ⟨j, L', u, u1, q2, q3, q4, q5⟩
    · cases hw : L0.wB k with
      | false =>
        refine .inl ⟨by rw [q1, hv k hw], ?_⟩
        intro j L' u u1 hl
        cases j with
        | zero =>
          simp only [List.getElem?_cons_zero, Option.some.injEq, Prod.mk.injEq] at hl
          obtain ⟨rfl, _⟩ := hl
          exact hw
        | succ j => simp only [List.getElem?_cons_succ] at hl; exact q2 j L' u u1 hl
      | true =>
        refine .inr ⟨0, L0, s, s1, rfl, hw, q1, ?_⟩
        intro j' L'' u' u1' h1 hl
        cases j' with
        | zero => omega
        | succ j' => simp only [List.getElem?_cons_succ] at hl; exact q2 j' L'' u' u1' hl
    · refine .inr ⟨j + 1, L', u, u1, by simpa using q2, q3, q4, ?_⟩
      intro j' L'' u' u1' h1 hl
      cases j' with
      | zero => omega
      | succ j' => simp only [List.getElem?_cons_succ] at hl; exact q5 j' L'' u' u1' (by omega) hl
def XB (n : Nat) (listed : Array Bool) : Nat := ((List.range n).filter fun i => !listed.getD i true).length
theorem YB {listed : Array Bool}  (hi : i < n) (hl : listed.getD i true = false) : XB n (listed.setIfInBounds i true) < XB n listed := by
 unfold XB
 have hsize : i < listed.size := by
  rcases Nat.lt_or_ge i listed.size with h | h
  ·exact h
  ·simp [Array.getD_eq_getD_getElem?, Array.getElem?_eq_none h] at hl
 have hget : ∀ j, (listed.setIfInBounds i true).getD j true = if j = i then true else listed.getD j true := by
  intro j
  simp only [Array.getD_eq_getD_getElem?, Array.getElem?_setIfInBounds]
  by_cases h : i = j
  ·subst h; simp [hsize]
  ·simp [h, Ne.symm h]
 have h1 : ((List.range n).filter fun j => !(listed.setIfInBounds i true).getD j true) = ((List.range n).filter fun j => !listed.getD j true).filter (fun j => j != i) := by
  rw [List.filter_filter]
  congr 1
  funext j
  rw [hget]
  by_cases h : j = i
  ·simp [h]
  ·simp [h]
 rw [h1]
 have hm : i ∈ (List.range n).filter fun j => !listed.getD j true := by
  rw [List.mem_filter]
  exact ⟨List.mem_range.2 hi, by simp [hl]⟩
 have := List.length_filter_lt_length_iff_exists (p := fun j => j != i) (l := (List.range n).filter fun j => !listed.getD j true)
 exact this.2 ⟨i, hm, by simp⟩
noncomputable section
abbrev DM (α : Type) := (α → S → Option S) → S → Option S
def DM.bind {α β : Type} (m : DM α) (f : α → DM β) : DM β := fun k => m fun a => f a k
def DM.pure (a : α) : DM α := fun k => k a
instance : Monad DM := { pure := DM.pure, bind := DM.bind }
def z5I (s : S) : Key → X → S
 | .s t, x => ⟨s.fr.put t x, s.hb, s.hf, s.n, s.ws⟩
 | .b i, x => ⟨s.fr, s.hb.put i x, s.hf, s.n, .b i :: s.ws⟩
 | .f i, x => ⟨s.fr, s.hb, s.hf.put i x, s.n, .f i :: s.ws⟩
def jr : Ups → S → S
 | [], s => s
 | u :: us, s => jr us (z5I s u.1 u.2)
theorem z1G (s : S) (k : Key) (x : X) : y6 (z5I s k x) = upd (y6 s) k x := by
 funext j
 cases k <;> cases j <;> simp [z5I, y6, upd, Tr.get_put]
theorem ZS : ∀ (us : Ups) (s : S), y6 (jr us s) = z7 us (y6 s)
 | [], _ => rfl
 | u :: us, s => by simp only [jr, z7]; rw [ZS us, z1G]
theorem Qh : ∀ (us : Ups) (s : S), (jr us s).n = s.n
 | [], _ => rfl
 | u :: us, s => by simp only [jr]; rw [Qh us]; cases u.1 <;> rfl
theorem YL : ∀ (us vs : Ups) (s : S), jr (us ++ vs) s = jr vs (jr us s)
 | [], _, _ => rfl
 | u :: us, vs, s => by simp only [List.cons_append, jr]; exact YL us vs _
def Key.heap : Key → Bool
 | .s _ => false
 | _ => true
theorem K0 : ∀ (us : Ups) (s : S) (k : Key), k ∈ (jr us s).ws ↔ (k ∈ us.map (·.1) ∧ k.heap = true) ∨ k ∈ s.ws
 | [], s, k => by simp [jr]
 | u :: us, s, k => by
  simp only [jr, List.map_cons, List.mem_cons]
  rw [K0 us]
  have : k ∈ (z5I s u.1 u.2).ws ↔ (k = u.1 ∧ k.heap = true) ∨ k ∈ s.ws := by
   cases hu : u.1 with
   | s t =>
    simp only [z5I]
    constructor
    ·exact .inr
    ·rintro (⟨rfl, h⟩ | h)
     ·cases h
     ·exact h
   | b i =>
    simp only [z5I, List.mem_cons]
    constructor
    ·rintro (rfl | h)
     ·exact .inl ⟨rfl, rfl⟩
     ·exact .inr h
    ·rintro (⟨h, _⟩ | h)
     ·exact .inl h
     ·exact .inr h
   | f i =>
    simp only [z5I, List.mem_cons]
    constructor
    ·rintro (rfl | h)
     ·exact .inl ⟨rfl, rfl⟩
     ·exact .inr h
    ·rintro (⟨h, _⟩ | h)
     ·exact .inl h
     ·exact .inr h
  rw [this]
  constructor
  ·rintro (⟨h1, h2⟩ | ⟨h1, h2⟩ | h)
   ·exact .inl ⟨.inr h1, h2⟩
   ·exact .inl ⟨.inl h1, h2⟩
   ·exact .inr h
  ·rintro (⟨h1 | h1, h2⟩ | h)
   ·exact .inr (.inl ⟨h1, h2⟩)
   ·exact .inl ⟨h1, h2⟩
   ·exact .inr (.inr h)
namespace D
def rdX (key : Key) : DM X := fun k s => k (y6 s key) s
def wrX (key : Key) (x : X) : DM Unit := fun k s => match okK s.n key && okX s.n x with | true => k () (z5I s key x) | false => none
def wrSl (t : Nat) (x : V) : DM Unit := fun k s => k () ⟨s.fr.put t (.v x), s.hb, s.hf, s.n, s.ws⟩
def efail : DM α := fun _ _ => none
def ofO (x : Option α) : DM α := fun k s => match x with | some a => k a s | none => none
def rdS (t : Nat) : DM V := do
 let x ← rdX (.s t)
 pure x.val
def opV : Operand → DM V
 | .tmp t => rdS t
 | .const v => pure (cV v)
 | .func f => pure (.fn f [])
 | .global _ => efail
def opVs : List Operand → DM (List V)
 | [] => pure []
 | x :: xs => do
  let a ← opV x
  let as' ← opVs xs
  pure (a :: as')
def rdB (b : Nat) : DM Blk := do
 let x ← rdX (.b b)
 match x with
 | .k k => pure k
 | _ => efail
def rdF (f : Nat) : DM Fam := do
 let x ← rdX (.f f)
 match x with
 | .m l => pure l
 | _ => efail
def rdM (b : Nat) : DM (List (Value × V)) := do
 let x ← rdX (.b b)
 match x with
 | .mp es => pure es
 | _ => efail
def touch (b fam lo hi : Nat) : List Nat → DM Unit
 | [] => pure ()
 | m :: l => do
  if m = b then touch b fam lo hi l else do
   let x ← rdX (.b m)
   match x with
   | .k k =>
    if k.fam = fam ∧ lo < k.foff + k.cells.length ∧ k.foff < hi then do
     wrX (.b m) (.k (Yn k lo hi))
     touch b fam lo hi l
    else touch b fam lo hi l
   | _ => touch b fam lo hi l
def putB (b o : Nat) (xs : List V) : DM Unit := do
 let k ← rdB b
 if o + xs.length ≤ k.cells.length then do
  let l ← rdF k.fam
  touch b k.fam (k.foff + o) (k.foff + o + xs.length) l.l
  wrX (.b b) (.k { k with cells := Qq k.cells o xs })
 else efail
def loadV (tt : ET) (t : Nat) (x : V) : DM V := do
 let i ← ofO (tt t)
 match x with
 | .ptr b o => do
  let k ← rdB b
  if o + i.size ≤ k.cells.length ∧ (i.kind.isAgg = true ∨ i.size = 1) then ofO (jL i.kind.isAgg ((k.cells.drop o).take i.size)) else efail
 | .tr (.sptr y) => do
  let cs ← ofO (jq y)
  if cs.length = i.size ∧ (i.kind.isAgg = true ∨ i.size = 1) then ofO (jL i.kind.isAgg cs) else efail
 | _ => efail
def storeV (tt : ET) (t : Nat) (x v : V) : DM Unit := do
 let i ← ofO (tt t)
 match x with
 | .ptr b o => if zcX i v = true then putB b o v.cells else efail
 | _ => efail
def lenV (tt : ET) (t : Nat) (x : V) : DM V := do
 let i ← ofO (tt t)
 match i.kind, x with
 | .slice _, .sl _ _ _ n _ => pure (.lit (.int .i64 n))
 | .slice _, .lit (.slice _ n _) => pure (.lit (.int .i64 n))
 | .slice _, .tr (.sl _ _ xs) => pure (.lit (.int .i64 xs.length))
 | .str, .lit (.string s) => pure (.lit (.int .i64 s.size))
 | .map _ _, .lit (.map none) => pure (.lit (.int .i64 0))
 | .map _ _, .mp b => do
  let es ← rdM b
  pure (.lit (.int .i64 es.length))
 | _, _ => efail
def wrNew (n : Nat) (k : Blk) : DM Unit := do
 wrX (.b n) (.k k)
 wrX (.f n) (.m ⟨n + 1, [n]⟩)
def allocV (tt : ET) (n t : Nat) : DM V := do
 let i ← ofO (tt t)
 let z ← ofO i.zero
 wrNew n ⟨z.map .lit, true, n, 0⟩
 pure (.ptr n 0)
def boxV (n : Nat) (x : V) : DM V :=
 if x.cells.all z5O = true then do
  wrNew n ⟨x.cells, true, n, 0⟩
  pure (.ptr n 0)
 else efail
def makeSliceV (tt : ET) (n t : Nat) (l c : Int) : DM V := do
 let (_, i) ← ofO (Yp tt t)
 let z ← ofO i.zero
 if 0 ≤ l ∧ l ≤ c ∧ c ≤ lim ∧ i.bytes ≤ 4096 then do
  wrNew n ⟨(List.replicate c.toNat (z.map V.lit)).flatten, true, n, 0⟩
  pure (.sl n 0 i.size l.toNat (some c.toNat))
 else efail
def parts : List (Nat × Operand) → DM (List (Nat × V))
 | [] => pure []
 | (i, x) :: ps => do
  let a ← opV x
  let r ← parts ps
  pure ((i, a) :: r)
def buildSliceV (tt : ET) (n t len : Nat) (ps : List (Nat × V)) : DM V := do
 let (_, ie) ← ofO (Yp tt t)
 let z ← ofO ie.zero
 if len * ie.size ≤ lim then do
  let cs ← ofO (JP (fun j => some (j * ie.size, ie.size)) (List.replicate len (z.map V.lit)).flatten ps)
  wrNew n ⟨cs, true, n, 0⟩
  pure (.sl n 0 ie.size len (some len))
 else efail
def elems (z : Nat) (x : V) : DM (Nat × List V) :=
 match x with
 | .lit (.slice none 0 0) => pure (0, [])
 | .sl b o z' m _ => do
  let k ← rdB b
  if z' = z ∧ o + m * z ≤ k.cells.length then pure (m, (k.cells.drop o).take (m * z)) else efail
 | .tr (.sl z' _ xs) => do
  let cs ← ofO (qC xs)
  if z' = z ∧ cs.length = xs.length * z then pure (xs.length, cs) else efail
 | _ => efail
def grow (n : Nat) (z m : Nat) (cs : List V) : DM V := do
 wrNew n ⟨cs, false, n, 0⟩
 pure (.sl n 0 z m none)
def moveV (n o z l m : Nat) (k : Blk) (ys : List V) : DM V := do
 let fl ← (if k.fam ≤ n then rdF k.fam else efail)
 let _ ← (if fl.top ≤ n + 1 then pure () else efail : DM Unit)
 wrX (.b n) (.k ⟨(k.cells.drop o).take (l * z), false, k.fam, k.foff + o⟩)
 wrX (.f k.fam) (.m ⟨n + 1, n :: fl.l⟩)
 touch n k.fam (k.foff + o + l * z) (k.foff + o + l * z + ys.length) fl.l
 wrX (.b n) (.k ⟨(k.cells.drop o).take (l * z) ++ ys, false, k.fam, k.foff + o⟩)
 pure (.sl n 0 z (l + m) none)
def appendSl (n z b o l m : Nat) (c : Option Nat) (ys : List V) : DM V := do
 let k ← rdB b
 if o + (l + m) * z ≤ k.cells.length ∧ z6X c (l + m) = true then do
  putB b (o + l * z) ys
  pure (.sl b o z (l + m) c)
 else if o + l * z ≤ k.cells.length ∧ JL c (l + m) = true then grow n z (l + m) ((k.cells.drop o).take (l * z) ++ ys)
 else if o + l * z ≤ k.cells.length ∧ c = none ∧ k.ex = false then moveV n o z l m k ys
 else efail
def appendV (tt : ET) (n t : Nat) (s x : V) : DM V := do
 let (_, i) ← ofO (Yp tt t)
 if i.bytes ≤ 4096 ∧ 0 < i.size ∧ i.zero.isSome = true then do
  let (m, ys) ← elems i.size x
  match s with
  | .lit (.slice none 0 0) => if m = 0 then pure s else if m ≤ lim then grow n i.size m ys else efail
  | .tr (.sl z true xs) => do
   let cs ← ofO (qC xs)
   if z = i.size ∧ m ≠ 0 ∧ xs.length + m ≤ lim then grow n i.size (xs.length + m) (cs ++ ys) else efail
  | .sl b o z l c => if m = 0 then pure s else if z = i.size ∧ l + m ≤ lim then appendSl n i.size b o l m c ys else efail
  | _ => efail
 else efail
def opO : Option Operand → DM (Option V)
 | none => pure none
 | some x => do
  let a ← opV x
  pure (some a)
def entsV : V → DM (List (Value × V))
 | .lit (.map none) => pure []
 | .mp b => rdM b
 | _ => efail
def lookupV (tt : ET) (t : Nat) (x i : V) (ok : Bool) : DM V := do
 let (kt, et) ← ofO (Jv tt t)
 let k ← ofO (z1i i)
 let es ← entsV x
 if JC tt kt k = true then do
  let r ← ofO (XC k es 0)
  match r with
  | some (_, v) => pure (if ok = true then .tup [v, .lit (.bool true)] else v)
  | none => do
   let z ← ofO (z3E tt et)
   pure (if ok = true then .tup [z, .lit (.bool false)] else z)
 else efail
def mapUpdateV (tt : ET) (t : Nat) (x i v : V) : DM Unit := do
 let (kt, _) ← ofO (Jv tt t)
 let k ← ofO (z1i i)
 match x with
 | .mp b => do
  let es ← rdM b
  if JC tt kt k = true then do
   let r ← ofO (XC k es 0)
   match r with
   | some (j, _) => wrX (.b b) (.mp (es.set j (k, v)))
   | none => wrX (.b b) (.mp (es ++ [(k, v)]))
  else efail
 | _ => efail
def makeMapV (n : Nat) : DM V := do
 wrX (.b n) (.mp [])
 pure (.mp n)
def one (m : DM V) : DM (Option V) := do
 let v ← m
 pure (some v)
def pickV (c x y : Operand) : DM V := do
 let b ← opV c
 match b with
 | .lit (.bool true) => opV x
 | .lit (.bool false) => opV y
 | _ => efail
def callB (tt : ET) (n : Nat) (b : Builtin) (args : List Operand) (tys : List Nat) : DM (Option V) :=
 match b, args, tys with
 | .len, [x], [t] => do
  let v ← opV x
  one (lenV tt t v)
 | .cap, [x], [t] => do
  let v ← opV x
  one (ofO (zcy tt t v))
 | .append, [s, x], [t, t'] => if t = t' then do
   let sv ← opV s
   let xv ← opV x
   one (appendV tt n t sv xv)
  else efail
 | .min, x :: xs, _ => do
  let v ← opV x
  let vs ← opVs xs
  one (ofO (Jt false v vs))
 | .max, x :: xs, _ => do
  let v ← opV x
  let vs ← opVs xs
  one (ofO (Jt true v vs))
 | _, _, _ => efail
abbrev z0i (op : UnOp) (x : Operand) : DM (Option V) := do
 let a ← opV x
 one (ofO (unV op a))
abbrev Yy (tt : ET) (s t : Nat) (x : Operand) : DM (Option V) := do
 let a ← opV x
 one (ofO (z54 tt s t a))
abbrev Yx (x : Operand) (i : Nat) : DM (Option V) := do
 let a ← opV x
 one (ofO (XW a i))
abbrev Ze (x : Operand) : DM (Option V) := do
 let a ← opV x
 one (ofO (Yz a))
abbrev z0j (tt : ET) (t : Nat) (x : Operand) : DM (Option V) := do
 let a ← opV x
 one (loadV tt t a)
abbrev UR (tt : ET) (t : Nat) (x v : Operand) : DM (Option V) := do
 let a ← opV x
 let b ← opV v
 let _ ← storeV tt t a b
 pure none
abbrev jK (tt : ET) (t : Nat) (x : Operand) (i : Nat) : DM (Option V) := do
 let a ← opV x
 one (ofO (Zm tt t i a))
abbrev jJ (tt : ET) (t : Nat) (x i : Operand) : DM (Option V) := do
 let a ← opV x
 let b ← opV i
 let (_, j) ← ofO (isV b)
 one (ofO (Zl tt t a j))
abbrev z4k (n : Nat) (x : Operand) : DM (Option V) := do
 let a ← opV x
 one (boxV n a)
abbrev UV (tt : ET) (t : Nat) (ps : Array (Nat × Operand)) : DM (Option V) := do
 let qs ← parts ps.toList
 one (ofO (z0Z tt t qs))
abbrev qP (tt : ET) (n t len : Nat) (ps : Array (Nat × Operand)) : DM (Option V) := do
 let qs ← parts ps.toList
 one (buildSliceV tt n t len qs)
abbrev jI (tt : ET) (n t : Nat) (l c : Operand) : DM (Option V) := do
 let a ← opV l
 let b ← opV c
 let (_, x) ← ofO (isV a)
 let (_, y) ← ofO (isV b)
 one (makeSliceV tt n t x y)
abbrev Zf (f : Nat) (caps : Array Operand) : DM (Option V) := do
 let vs ← opVs caps.toList
 pure (some (.fn f vs))
abbrev Yw (tt : ET) (n t : Nat) (x : Operand) : DM (Option V) := do
 let a ← opV x
 let _ ← ofO (isV a)
 let _ ← ofO (Jv tt t)
 one (makeMapV n)
abbrev US (tt : ET) (t : Nat) (x : Operand) (lo hi mx : Option Operand) : DM (Option V) := do
 let a ← opV x
 let l ← opO lo
 let h ← opO hi
 let m ← opO mx
 one (ofO (z01 tt t a l h m))
abbrev UU (tt : ET) (t : Nat) (x : Operand) (i : Nat) : DM (Option V) := do
 let a ← opV x
 one (ofO (z0O tt t i a))
abbrev UT (tt : ET) (t : Nat) (x i : Operand) : DM (Option V) := do
 let a ← opV x
 let b ← opV i
 let (_, j) ← ofO (isV b)
 one (ofO (z0E tt t a j))
abbrev XL (tt : ET) (t : Nat) (x i : Operand) (ok : Bool) : DM (Option V) := do
 let a ← opV x
 let b ← opV i
 one (lookupV tt t a b ok)
abbrev wH (tt : ET) (t : Nat) (m k v : Operand) : DM (Option V) := do
 let a ← opV m
 let b ← opV k
 let c ← opV v
 let _ ← mapUpdateV tt t a b c
 pure none
structure Cm where
 run : Nat → DM (Option V)
def copV (tt : ET) (o : Oper) : Cm :=
 match o.op with
 | .move x => ⟨fun _ => one (opV x)⟩
 | .assign x => ⟨fun _ => one (opV x)⟩
 | .pick c x y => ⟨fun _ => one (pickV c x y)⟩
 | .binOp op xt x y _ => ⟨fun _ => do
  let a ← opV x
  let b ← opV y
  one (ofO ((cb tt op xt).run a b))⟩
 | .unOp op _ x => ⟨fun _ => z0i op x⟩
 | .convert s t x => ⟨fun _ => Yy tt s t x⟩
 | .extract x i => ⟨fun _ => Yx x i⟩
 | .nilCheck x => ⟨fun _ => Ze x⟩
 | .load t x => ⟨fun _ => z0j tt t x⟩
 | .store t x v => ⟨fun _ => UR tt t x v⟩
 | .fieldAddr t x i => ⟨fun _ => jK tt t x i⟩
 | .indexAddr t x i => ⟨fun _ => jJ tt t x i⟩
 | .alloc t => ⟨fun n => one (allocV tt n t)⟩
 | .box _ x => ⟨fun n => z4k n x⟩
 | .build t ps => ⟨fun _ => UV tt t ps⟩
 | .buildSlice t len ps => ⟨fun n => qP tt n t len ps⟩
 | .makeSlice t l c => ⟨fun n => jI tt n t l c⟩
 | .makeFunc (.func f) ⟨[]⟩ caps => ⟨fun _ => Zf f caps⟩
 | .makeMap _ none => ⟨fun n => one (makeMapV n)⟩
 | .makeMap t (some x) => ⟨fun n => Yw tt n t x⟩
 | .slice t x lo hi mx => ⟨fun _ => US tt t x lo hi mx⟩
 | .field t x i => ⟨fun _ => UU tt t x i⟩
 | .index t x i => ⟨fun _ => UT tt t x i⟩
 | .lookup t x i ok => ⟨fun _ => XL tt t x i ok⟩
 | .mapUpdate t m k v => ⟨fun _ => wH tt t m k v⟩
 | .insert t m k v => ⟨fun _ => wH tt t m k v⟩
 | .call ⟨.builtin b, ⟨args⟩, ⟨tys⟩⟩ => ⟨fun n => callB tt n b args tys⟩
 | _ => ⟨fun _ => efail⟩
structure Cw where
 run : V → DM Unit
def copW (N : Nat) (dst : Option Nat) : Cw :=
 match dst with
 | none => ⟨fun _ => pure ()⟩
 | some k => match Nat.blt k N with
  | true => ⟨fun x => wrSl k x⟩
  | false => ⟨fun _ => efail⟩
def copP (m : DM (Option V)) (w : Cw) (nd : Bool) : DM Unit := do
 let r ← m
 match r with
 | some v => w.run v
 | none => match nd with | true => pure () | false => efail
structure Cg where
 run : Nat → DM Unit
def copG (tt : ET) (N : Nat) (ops : Array Oper) (o : Oper) : Cg :=
 match o.guard with
 | none => ⟨fun n => copP ((copV tt o).run n) (copW N o.dst) o.dst.isNone⟩
 | some (j, want) =>
  match (ops[j]?).bind (·.dst) with
  | some g => ⟨fun n => do
   let b ← rdS g
   match b with
   | .lit (.bool b) => if b = want then copP ((copV tt o).run n) (copW N o.dst) o.dst.isNone else (copW N o.dst).run .un
   | _ => efail⟩
  | none => ⟨fun _ => efail⟩
end D
def Ag (m : EM α) (c : DM α) : Prop := ∀ k s out, c k s = some out → ∃ r R U, m (y6 s) = some (r, R, U) ∧ okU s.n U = true ∧ k r (jr U s) = some out
theorem Ag.bind {α β : Type} {m : EM α} {f : α → EM β} {c : DM α} {g : α → DM β} (h1 : Ag m c) (h2 : ∀ a, Ag (f a) (g a)) : Ag (m >>= f) (c >>= g) := by
 intro k s out e
 obtain ⟨a, R1, U1, q1, q2, q3⟩ := h1 (fun a => g a k) s out e
 obtain ⟨b, R2, U2, p1, p2, p3⟩ := h2 a k _ out q3
 rw [ZS] at p1
 rw [Qh] at p2
 refine ⟨b, R1 ++ R2, U1 ++ U2, ?_, ?_, by rw [YL]; exact p3⟩
 ·show EM.bind m f (y6 s) = _
  unfold EM.bind
  rw [q1]
  simp only [p1]
 ·unfold okU at *
  rw [List.all_append, q2, p2]
  rfl
theorem Ag.pure (a : α) : Ag (Pure.pure a : EM α) (Pure.pure a : DM α) := fun _ _ _ e => ⟨a, [], [], rfl, rfl, e⟩
theorem Ag.fail : Ag (efail : EM α) (D.efail : DM α) := fun _ _ _ e => by simp [D.efail] at e
theorem Ag.rdX (k : Key) : Ag (rdX k) (D.rdX k) := fun _ s _ e => ⟨y6 s k, [k], [], rfl, rfl, e⟩
theorem Ag.wrX (k : Key) (x : X) : Ag (wrX k x) (D.wrX k x) := fun f s out e => by
 unfold D.wrX at e
 split at e
 ·rename_i h
  exact ⟨(), [], [(k, x)], rfl, by simp [okU]; simpa using h, e⟩
 ·cases e
theorem Ag.wrSl (t : Nat) (x : V) : Ag (Go.Ex.wrX (.s t) (.v x)) (D.wrSl t x) := fun f s out e => ⟨(), [], [(.s t, .v x)], rfl, by simp [okU, okK, okX], e⟩
theorem Ag.ofO (x : Option α) : Ag (ofO x) (D.ofO x) := fun f s out e => by
 unfold D.ofO at e
 cases x with
 | none => cases e
 | some a => exact ⟨a, [], [], rfl, rfl, e⟩
theorem Ag.ite {c : Prop} [Decidable c] {x y : EM α} {x' y' : DM α} (h1 : Ag x x') (h2 : Ag y y') : Ag (if c then x else y) (if c then x' else y') := by split <;> assumption
theorem Ag.rdS (t : Nat) : Ag (Go.Ex.rdS t) (D.rdS t) := by
 unfold Go.Ex.rdS D.rdS
 repeat' (first | exact Ag.pure _ | exact Ag.fail | exact Ag.ofO _ | exact Ag.rdX _ | exact Ag.wrX _ _ | assumption | refine Ag.ite ?_ ?_ | refine Ag.bind ?_ (fun _ => ?_) | (exfalso; solve_by_elim) | (exfalso; simp_all; done) | (split <;> (try injections) <;> (try subst_vars)))
theorem Ag.opV (x : Operand) : Ag (Go.Ex.opV x) (D.opV x) := by
 unfold Go.Ex.opV D.opV
 repeat' (first | exact Ag.pure _ | exact Ag.fail | exact Ag.ofO _ | exact Ag.rdX _ | exact Ag.wrX _ _ | assumption | exact Ag.rdS _ | refine Ag.ite ?_ ?_ | refine Ag.bind ?_ (fun _ => ?_) | (exfalso; solve_by_elim) | (exfalso; simp_all; done) | (split <;> (try injections) <;> (try subst_vars)))
theorem Ag.opVs : ∀ xs, Ag (Go.Ex.opVs xs) (D.opVs xs)
 | [] => Ag.pure _
 | x :: xs => Ag.bind (Ag.opV x) fun _ => Ag.bind (Ag.opVs xs) fun _ => Ag.pure _
theorem Ag.rdB (b : Nat) : Ag (Go.Ex.rdB b) (D.rdB b) := by
 unfold Go.Ex.rdB D.rdB
 repeat' (first | exact Ag.pure _ | exact Ag.fail | exact Ag.ofO _ | exact Ag.rdX _ | exact Ag.wrX _ _ | assumption | exact Ag.opVs _ | exact Ag.opV _ | exact Ag.rdS _ | refine Ag.ite ?_ ?_ | refine Ag.bind ?_ (fun _ => ?_) | (exfalso; solve_by_elim) | (exfalso; simp_all; done) | (split <;> (try injections) <;> (try subst_vars)))
theorem Ag.rdF (b : Nat) : Ag (Go.Ex.rdF b) (D.rdF b) := by
 unfold Go.Ex.rdF D.rdF
 repeat' (first | exact Ag.pure _ | exact Ag.fail | exact Ag.ofO _ | exact Ag.rdX _ | exact Ag.wrX _ _ | assumption | exact Ag.rdB _ | exact Ag.opVs _ | exact Ag.opV _ | exact Ag.rdS _ | refine Ag.ite ?_ ?_ | refine Ag.bind ?_ (fun _ => ?_) | (exfalso; solve_by_elim) | (exfalso; simp_all; done) | (split <;> (try injections) <;> (try subst_vars)))
theorem Ag.rdM (b : Nat) : Ag (Go.Ex.rdM b) (D.rdM b) := by
 unfold Go.Ex.rdM D.rdM
 repeat' (first | exact Ag.pure _ | exact Ag.fail | exact Ag.ofO _ | exact Ag.rdX _ | exact Ag.wrX _ _ | assumption | exact Ag.rdF _ | exact Ag.rdB _ | exact Ag.opVs _ | exact Ag.opV _ | exact Ag.rdS _ | refine Ag.ite ?_ ?_ | refine Ag.bind ?_ (fun _ => ?_) | (exfalso; solve_by_elim) | (exfalso; simp_all; done) | (split <;> (try injections) <;> (try subst_vars)))
theorem Ag.touch (b fam lo hi : Nat) : ∀ l, Ag (Go.Ex.touch b fam lo hi l) (D.touch b fam lo hi l)
 | [] => Ag.pure _
 | m :: l => by
  have ih := Ag.touch b fam lo hi l
  simp only [Go.Ex.touch, D.touch]
  repeat' (first | exact Ag.pure _ | exact Ag.fail | exact Ag.ofO _ | exact Ag.rdX _ | exact Ag.wrX _ _ | assumption | exact Ag.rdM _ | exact Ag.rdF _ | exact Ag.rdB _ | exact Ag.opVs _ | exact Ag.opV _ | exact Ag.rdS _ | refine Ag.ite ?_ ?_ | refine Ag.bind ?_ (fun _ => ?_) | (exfalso; solve_by_elim) | (exfalso; simp_all; done) | (split <;> (try injections) <;> (try subst_vars)))
theorem Ag.putB (b q : Nat) (xs : List V) : Ag (Go.Ex.putB b q xs) (D.putB b q xs) := by
 unfold Go.Ex.putB D.putB
 repeat' (first | exact Ag.pure _ | exact Ag.fail | exact Ag.ofO _ | exact Ag.rdX _ | exact Ag.wrX _ _ | assumption | exact Ag.touch _ _ _ _ _ | exact Ag.rdM _ | exact Ag.rdF _ | exact Ag.rdB _ | exact Ag.opVs _ | exact Ag.opV _ | exact Ag.rdS _ | refine Ag.ite ?_ ?_ | refine Ag.bind ?_ (fun _ => ?_) | (exfalso; solve_by_elim) | (exfalso; simp_all; done) | (split <;> (try injections) <;> (try subst_vars)))
theorem Ag.wrNew (n : Nat) (k : Blk) : Ag (Go.Ex.wrNew n k) (D.wrNew n k) := by
 unfold Go.Ex.wrNew D.wrNew
 repeat' (first | exact Ag.pure _ | exact Ag.fail | exact Ag.ofO _ | exact Ag.rdX _ | exact Ag.wrX _ _ | assumption | exact Ag.putB _ _ _ | exact Ag.touch _ _ _ _ _ | exact Ag.rdM _ | exact Ag.rdF _ | exact Ag.rdB _ | exact Ag.opVs _ | exact Ag.opV _ | exact Ag.rdS _ | refine Ag.ite ?_ ?_ | refine Ag.bind ?_ (fun _ => ?_) | (exfalso; solve_by_elim) | (exfalso; simp_all; done) | (split <;> (try injections) <;> (try subst_vars)))
theorem Ag.grow (n z m : Nat) (cs : List V) : Ag (Go.Ex.grow n z m cs) (D.grow n z m cs) := by
 unfold Go.Ex.grow D.grow
 repeat' (first | exact Ag.pure _ | exact Ag.fail | exact Ag.ofO _ | exact Ag.rdX _ | exact Ag.wrX _ _ | assumption | exact Ag.wrNew _ _ | exact Ag.putB _ _ _ | exact Ag.touch _ _ _ _ _ | exact Ag.rdM _ | exact Ag.rdF _ | exact Ag.rdB _ | exact Ag.opVs _ | exact Ag.opV _ | exact Ag.rdS _ | refine Ag.ite ?_ ?_ | refine Ag.bind ?_ (fun _ => ?_) | (exfalso; solve_by_elim) | (exfalso; simp_all; done) | (split <;> (try injections) <;> (try subst_vars)))
theorem Ag.loadV (tt : ET) (t : Nat) (x : V) : Ag (Go.Ex.loadV tt t x) (D.loadV tt t x) := by
 unfold Go.Ex.loadV D.loadV
 repeat' (first | exact Ag.pure _ | exact Ag.fail | exact Ag.ofO _ | exact Ag.rdX _ | exact Ag.wrX _ _ | assumption | exact Ag.grow _ _ _ _ | exact Ag.wrNew _ _ | exact Ag.putB _ _ _ | exact Ag.touch _ _ _ _ _ | exact Ag.rdM _ | exact Ag.rdF _ | exact Ag.rdB _ | exact Ag.opVs _ | exact Ag.opV _ | exact Ag.rdS _ | refine Ag.ite ?_ ?_ | refine Ag.bind ?_ (fun _ => ?_) | (exfalso; solve_by_elim) | (exfalso; simp_all; done) | (split <;> (try injections) <;> (try subst_vars)))
theorem Ag.storeV (tt : ET) (t : Nat) (x v : V) : Ag (Go.Ex.storeV tt t x v) (D.storeV tt t x v) := by
 unfold Go.Ex.storeV D.storeV
 repeat' (first | exact Ag.pure _ | exact Ag.fail | exact Ag.ofO _ | exact Ag.rdX _ | exact Ag.wrX _ _ | assumption | exact Ag.loadV _ _ _ | exact Ag.grow _ _ _ _ | exact Ag.wrNew _ _ | exact Ag.putB _ _ _ | exact Ag.touch _ _ _ _ _ | exact Ag.rdM _ | exact Ag.rdF _ | exact Ag.rdB _ | exact Ag.opVs _ | exact Ag.opV _ | exact Ag.rdS _ | refine Ag.ite ?_ ?_ | refine Ag.bind ?_ (fun _ => ?_) | (exfalso; solve_by_elim) | (exfalso; simp_all; done) | (split <;> (try injections) <;> (try subst_vars)))
theorem Ag.lenV (tt : ET) (t : Nat) (x : V) : Ag (Go.Ex.lenV tt t x) (D.lenV tt t x) := by
 unfold Go.Ex.lenV D.lenV
 refine Ag.bind (Ag.ofO _) fun i => ?_
 obtain ⟨kd, i1, i2, i3, i4⟩ := i
 dsimp only
 repeat' (first | exact Ag.pure _ | exact Ag.fail | exact Ag.ofO _ | exact Ag.rdX _ | exact Ag.wrX _ _ | assumption | exact Ag.storeV _ _ _ _ | exact Ag.loadV _ _ _ | exact Ag.grow _ _ _ _ | exact Ag.wrNew _ _ | exact Ag.putB _ _ _ | exact Ag.touch _ _ _ _ _ | exact Ag.rdM _ | exact Ag.rdF _ | exact Ag.rdB _ | exact Ag.opVs _ | exact Ag.opV _ | exact Ag.rdS _ | refine Ag.ite ?_ ?_ | refine Ag.bind ?_ (fun _ => ?_) | (exfalso; solve_by_elim) | (exfalso; simp_all; done) | (split <;> (try injections) <;> (try subst_vars)))
theorem Ag.allocV (tt : ET) (n t : Nat) : Ag (Go.Ex.allocV tt n t) (D.allocV tt n t) := by
 unfold Go.Ex.allocV D.allocV
 repeat' (first | exact Ag.pure _ | exact Ag.fail | exact Ag.ofO _ | exact Ag.rdX _ | exact Ag.wrX _ _ | assumption | exact Ag.lenV _ _ _ | exact Ag.storeV _ _ _ _ | exact Ag.loadV _ _ _ | exact Ag.grow _ _ _ _ | exact Ag.wrNew _ _ | exact Ag.putB _ _ _ | exact Ag.touch _ _ _ _ _ | exact Ag.rdM _ | exact Ag.rdF _ | exact Ag.rdB _ | exact Ag.opVs _ | exact Ag.opV _ | exact Ag.rdS _ | refine Ag.ite ?_ ?_ | refine Ag.bind ?_ (fun _ => ?_) | (exfalso; solve_by_elim) | (exfalso; simp_all; done) | (split <;> (try injections) <;> (try subst_vars)))
theorem Ag.boxV (n : Nat) (x : V) : Ag (Go.Ex.boxV n x) (D.boxV n x) := by
 unfold Go.Ex.boxV D.boxV
 repeat' (first | exact Ag.pure _ | exact Ag.fail | exact Ag.ofO _ | exact Ag.rdX _ | exact Ag.wrX _ _ | assumption | exact Ag.allocV _ _ _ | exact Ag.lenV _ _ _ | exact Ag.storeV _ _ _ _ | exact Ag.loadV _ _ _ | exact Ag.grow _ _ _ _ | exact Ag.wrNew _ _ | exact Ag.putB _ _ _ | exact Ag.touch _ _ _ _ _ | exact Ag.rdM _ | exact Ag.rdF _ | exact Ag.rdB _ | exact Ag.opVs _ | exact Ag.opV _ | exact Ag.rdS _ | refine Ag.ite ?_ ?_ | refine Ag.bind ?_ (fun _ => ?_) | (exfalso; solve_by_elim) | (exfalso; simp_all; done) | (split <;> (try injections) <;> (try subst_vars)))
theorem Ag.makeSliceV (tt : ET) (n t : Nat) (l c : Int) : Ag (Go.Ex.makeSliceV tt n t l c) (D.makeSliceV tt n t l c) := by
 unfold Go.Ex.makeSliceV D.makeSliceV
 repeat' (first | exact Ag.pure _ | exact Ag.fail | exact Ag.ofO _ | exact Ag.rdX _ | exact Ag.wrX _ _ | assumption | exact Ag.boxV _ _ | exact Ag.allocV _ _ _ | exact Ag.lenV _ _ _ | exact Ag.storeV _ _ _ _ | exact Ag.loadV _ _ _ | exact Ag.grow _ _ _ _ | exact Ag.wrNew _ _ | exact Ag.putB _ _ _ | exact Ag.touch _ _ _ _ _ | exact Ag.rdM _ | exact Ag.rdF _ | exact Ag.rdB _ | exact Ag.opVs _ | exact Ag.opV _ | exact Ag.rdS _ | refine Ag.ite ?_ ?_ | refine Ag.bind ?_ (fun _ => ?_) | (exfalso; solve_by_elim) | (exfalso; simp_all; done) | (split <;> (try injections) <;> (try subst_vars)))
theorem Ag.parts : ∀ ps, Ag (Go.Ex.parts ps) (D.parts ps)
 | [] => Ag.pure _
 | (_, x) :: ps => Ag.bind (Ag.opV x) fun _ => Ag.bind (Ag.parts ps) fun _ => Ag.pure _
theorem Ag.buildSliceV (tt : ET) (n t len : Nat) (ps : List (Nat × V)) : Ag (Go.Ex.buildSliceV tt n t len ps) (D.buildSliceV tt n t len ps) := by
 unfold Go.Ex.buildSliceV D.buildSliceV
 repeat' (first | exact Ag.pure _ | exact Ag.fail | exact Ag.ofO _ | exact Ag.rdX _ | exact Ag.wrX _ _ | assumption | exact Ag.parts _ | exact Ag.makeSliceV _ _ _ _ _ | exact Ag.boxV _ _ | exact Ag.allocV _ _ _ | exact Ag.lenV _ _ _ | exact Ag.storeV _ _ _ _ | exact Ag.loadV _ _ _ | exact Ag.grow _ _ _ _ | exact Ag.wrNew _ _ | exact Ag.putB _ _ _ | exact Ag.touch _ _ _ _ _ | exact Ag.rdM _ | exact Ag.rdF _ | exact Ag.rdB _ | exact Ag.opVs _ | exact Ag.opV _ | exact Ag.rdS _ | refine Ag.ite ?_ ?_ | refine Ag.bind ?_ (fun _ => ?_) | (exfalso; solve_by_elim) | (exfalso; simp_all; done) | (split <;> (try injections) <;> (try subst_vars)))
theorem Ag.elems (z : Nat) (x : V) : Ag (Go.Ex.elems z x) (D.elems z x) := by
 unfold Go.Ex.elems D.elems
 repeat' (first | exact Ag.pure _ | exact Ag.fail | exact Ag.ofO _ | exact Ag.rdX _ | exact Ag.wrX _ _ | assumption | exact Ag.buildSliceV _ _ _ _ _ | exact Ag.parts _ | exact Ag.makeSliceV _ _ _ _ _ | exact Ag.boxV _ _ | exact Ag.allocV _ _ _ | exact Ag.lenV _ _ _ | exact Ag.storeV _ _ _ _ | exact Ag.loadV _ _ _ | exact Ag.grow _ _ _ _ | exact Ag.wrNew _ _ | exact Ag.putB _ _ _ | exact Ag.touch _ _ _ _ _ | exact Ag.rdM _ | exact Ag.rdF _ | exact Ag.rdB _ | exact Ag.opVs _ | exact Ag.opV _ | exact Ag.rdS _ | refine Ag.ite ?_ ?_ | refine Ag.bind ?_ (fun _ => ?_) | (exfalso; solve_by_elim) | (exfalso; simp_all; done) | (split <;> (try injections) <;> (try subst_vars)))
theorem Ag.moveV (n q z l m : Nat) (k : Blk) (ys : List V) : Ag (Go.Ex.moveV n q z l m k ys) (D.moveV n q z l m k ys) := by
 unfold Go.Ex.moveV D.moveV
 repeat' (first | exact Ag.pure _ | exact Ag.fail | exact Ag.ofO _ | exact Ag.rdX _ | exact Ag.wrX _ _ | assumption | exact Ag.elems _ _ | exact Ag.buildSliceV _ _ _ _ _ | exact Ag.parts _ | exact Ag.makeSliceV _ _ _ _ _ | exact Ag.boxV _ _ | exact Ag.allocV _ _ _ | exact Ag.lenV _ _ _ | exact Ag.storeV _ _ _ _ | exact Ag.loadV _ _ _ | exact Ag.grow _ _ _ _ | exact Ag.wrNew _ _ | exact Ag.putB _ _ _ | exact Ag.touch _ _ _ _ _ | exact Ag.rdM _ | exact Ag.rdF _ | exact Ag.rdB _ | exact Ag.opVs _ | exact Ag.opV _ | exact Ag.rdS _ | refine Ag.ite ?_ ?_ | refine Ag.bind ?_ (fun _ => ?_) | (exfalso; solve_by_elim) | (exfalso; simp_all; done) | (split <;> (try injections) <;> (try subst_vars)))
theorem Ag.appendSl (n z b q l m : Nat) (c : Option Nat) (ys : List V) : Ag (Go.Ex.appendSl n z b q l m c ys) (D.appendSl n z b q l m c ys) := by
 unfold Go.Ex.appendSl D.appendSl
 repeat' (first | exact Ag.pure _ | exact Ag.fail | exact Ag.ofO _ | exact Ag.rdX _ | exact Ag.wrX _ _ | assumption | exact Ag.moveV _ _ _ _ _ _ _ | exact Ag.elems _ _ | exact Ag.buildSliceV _ _ _ _ _ | exact Ag.parts _ | exact Ag.makeSliceV _ _ _ _ _ | exact Ag.boxV _ _ | exact Ag.allocV _ _ _ | exact Ag.lenV _ _ _ | exact Ag.storeV _ _ _ _ | exact Ag.loadV _ _ _ | exact Ag.grow _ _ _ _ | exact Ag.wrNew _ _ | exact Ag.putB _ _ _ | exact Ag.touch _ _ _ _ _ | exact Ag.rdM _ | exact Ag.rdF _ | exact Ag.rdB _ | exact Ag.opVs _ | exact Ag.opV _ | exact Ag.rdS _ | refine Ag.ite ?_ ?_ | refine Ag.bind ?_ (fun _ => ?_) | (exfalso; solve_by_elim) | (exfalso; simp_all; done) | (split <;> (try injections) <;> (try subst_vars)))
theorem Ag.appendV (tt : ET) (n t : Nat) (s x : V) : Ag (Go.Ex.appendV tt n t s x) (D.appendV tt n t s x) := by
 unfold Go.Ex.appendV D.appendV
 repeat' (first | exact Ag.pure _ | exact Ag.fail | exact Ag.ofO _ | exact Ag.rdX _ | exact Ag.wrX _ _ | assumption | exact Ag.appendSl _ _ _ _ _ _ _ _ | exact Ag.moveV _ _ _ _ _ _ _ | exact Ag.elems _ _ | exact Ag.buildSliceV _ _ _ _ _ | exact Ag.parts _ | exact Ag.makeSliceV _ _ _ _ _ | exact Ag.boxV _ _ | exact Ag.allocV _ _ _ | exact Ag.lenV _ _ _ | exact Ag.storeV _ _ _ _ | exact Ag.loadV _ _ _ | exact Ag.grow _ _ _ _ | exact Ag.wrNew _ _ | exact Ag.putB _ _ _ | exact Ag.touch _ _ _ _ _ | exact Ag.rdM _ | exact Ag.rdF _ | exact Ag.rdB _ | exact Ag.opVs _ | exact Ag.opV _ | exact Ag.rdS _ | refine Ag.ite ?_ ?_ | refine Ag.bind ?_ (fun _ => ?_) | (exfalso; solve_by_elim) | (exfalso; simp_all; done) | (split <;> (try injections) <;> (try subst_vars)))
theorem Ag.opO (x : Option Operand) : Ag (Go.Ex.opO x) (D.opO x) := by
 unfold Go.Ex.opO D.opO
 repeat' (first | exact Ag.pure _ | exact Ag.fail | exact Ag.ofO _ | exact Ag.rdX _ | exact Ag.wrX _ _ | assumption | exact Ag.appendV _ _ _ _ _ | exact Ag.appendSl _ _ _ _ _ _ _ _ | exact Ag.moveV _ _ _ _ _ _ _ | exact Ag.elems _ _ | exact Ag.buildSliceV _ _ _ _ _ | exact Ag.parts _ | exact Ag.makeSliceV _ _ _ _ _ | exact Ag.boxV _ _ | exact Ag.allocV _ _ _ | exact Ag.lenV _ _ _ | exact Ag.storeV _ _ _ _ | exact Ag.loadV _ _ _ | exact Ag.grow _ _ _ _ | exact Ag.wrNew _ _ | exact Ag.putB _ _ _ | exact Ag.touch _ _ _ _ _ | exact Ag.rdM _ | exact Ag.rdF _ | exact Ag.rdB _ | exact Ag.opVs _ | exact Ag.opV _ | exact Ag.rdS _ | refine Ag.ite ?_ ?_ | refine Ag.bind ?_ (fun _ => ?_) | (exfalso; solve_by_elim) | (exfalso; simp_all; done) | (split <;> (try injections) <;> (try subst_vars)))
theorem Ag.entsV (x : V) : Ag (Go.Ex.entsV x) (D.entsV x) := by
 unfold Go.Ex.entsV D.entsV
 repeat' (first | exact Ag.pure _ | exact Ag.fail | exact Ag.ofO _ | exact Ag.rdX _ | exact Ag.wrX _ _ | assumption | exact Ag.opO _ | exact Ag.appendV _ _ _ _ _ | exact Ag.appendSl _ _ _ _ _ _ _ _ | exact Ag.moveV _ _ _ _ _ _ _ | exact Ag.elems _ _ | exact Ag.buildSliceV _ _ _ _ _ | exact Ag.parts _ | exact Ag.makeSliceV _ _ _ _ _ | exact Ag.boxV _ _ | exact Ag.allocV _ _ _ | exact Ag.lenV _ _ _ | exact Ag.storeV _ _ _ _ | exact Ag.loadV _ _ _ | exact Ag.grow _ _ _ _ | exact Ag.wrNew _ _ | exact Ag.putB _ _ _ | exact Ag.touch _ _ _ _ _ | exact Ag.rdM _ | exact Ag.rdF _ | exact Ag.rdB _ | exact Ag.opVs _ | exact Ag.opV _ | exact Ag.rdS _ | refine Ag.ite ?_ ?_ | refine Ag.bind ?_ (fun _ => ?_) | (exfalso; solve_by_elim) | (exfalso; simp_all; done) | (split <;> (try injections) <;> (try subst_vars)))
theorem Ag.lookupV (tt : ET) (t : Nat) (x i : V) (ok : Bool) : Ag (Go.Ex.lookupV tt t x i ok) (D.lookupV tt t x i ok) := by
 unfold Go.Ex.lookupV D.lookupV
 repeat' (first | exact Ag.pure _ | exact Ag.fail | exact Ag.ofO _ | exact Ag.rdX _ | exact Ag.wrX _ _ | assumption | exact Ag.entsV _ | exact Ag.opO _ | exact Ag.appendV _ _ _ _ _ | exact Ag.appendSl _ _ _ _ _ _ _ _ | exact Ag.moveV _ _ _ _ _ _ _ | exact Ag.elems _ _ | exact Ag.buildSliceV _ _ _ _ _ | exact Ag.parts _ | exact Ag.makeSliceV _ _ _ _ _ | exact Ag.boxV _ _ | exact Ag.allocV _ _ _ | exact Ag.lenV _ _ _ | exact Ag.storeV _ _ _ _ | exact Ag.loadV _ _ _ | exact Ag.grow _ _ _ _ | exact Ag.wrNew _ _ | exact Ag.putB _ _ _ | exact Ag.touch _ _ _ _ _ | exact Ag.rdM _ | exact Ag.rdF _ | exact Ag.rdB _ | exact Ag.opVs _ | exact Ag.opV _ | exact Ag.rdS _ | refine Ag.ite ?_ ?_ | refine Ag.bind ?_ (fun _ => ?_) | (exfalso; solve_by_elim) | (exfalso; simp_all; done) | (split <;> (try injections) <;> (try subst_vars)))
theorem Ag.mapUpdateV (tt : ET) (t : Nat) (x i v : V) : Ag (Go.Ex.mapUpdateV tt t x i v) (D.mapUpdateV tt t x i v) := by
 unfold Go.Ex.mapUpdateV D.mapUpdateV
 repeat' (first | exact Ag.pure _ | exact Ag.fail | exact Ag.ofO _ | exact Ag.rdX _ | exact Ag.wrX _ _ | assumption | exact Ag.lookupV _ _ _ _ _ | exact Ag.entsV _ | exact Ag.opO _ | exact Ag.appendV _ _ _ _ _ | exact Ag.appendSl _ _ _ _ _ _ _ _ | exact Ag.moveV _ _ _ _ _ _ _ | exact Ag.elems _ _ | exact Ag.buildSliceV _ _ _ _ _ | exact Ag.parts _ | exact Ag.makeSliceV _ _ _ _ _ | exact Ag.boxV _ _ | exact Ag.allocV _ _ _ | exact Ag.lenV _ _ _ | exact Ag.storeV _ _ _ _ | exact Ag.loadV _ _ _ | exact Ag.grow _ _ _ _ | exact Ag.wrNew _ _ | exact Ag.putB _ _ _ | exact Ag.touch _ _ _ _ _ | exact Ag.rdM _ | exact Ag.rdF _ | exact Ag.rdB _ | exact Ag.opVs _ | exact Ag.opV _ | exact Ag.rdS _ | refine Ag.ite ?_ ?_ | refine Ag.bind ?_ (fun _ => ?_) | (exfalso; solve_by_elim) | (exfalso; simp_all; done) | (split <;> (try injections) <;> (try subst_vars)))
theorem Ag.makeMapV (n : Nat) : Ag (Go.Ex.makeMapV n) (D.makeMapV n) := by
 unfold Go.Ex.makeMapV D.makeMapV
 repeat' (first | exact Ag.pure _ | exact Ag.fail | exact Ag.ofO _ | exact Ag.rdX _ | exact Ag.wrX _ _ | assumption | exact Ag.mapUpdateV _ _ _ _ _ | exact Ag.lookupV _ _ _ _ _ | exact Ag.entsV _ | exact Ag.opO _ | exact Ag.appendV _ _ _ _ _ | exact Ag.appendSl _ _ _ _ _ _ _ _ | exact Ag.moveV _ _ _ _ _ _ _ | exact Ag.elems _ _ | exact Ag.buildSliceV _ _ _ _ _ | exact Ag.parts _ | exact Ag.makeSliceV _ _ _ _ _ | exact Ag.boxV _ _ | exact Ag.allocV _ _ _ | exact Ag.lenV _ _ _ | exact Ag.storeV _ _ _ _ | exact Ag.loadV _ _ _ | exact Ag.grow _ _ _ _ | exact Ag.wrNew _ _ | exact Ag.putB _ _ _ | exact Ag.touch _ _ _ _ _ | exact Ag.rdM _ | exact Ag.rdF _ | exact Ag.rdB _ | exact Ag.opVs _ | exact Ag.opV _ | exact Ag.rdS _ | refine Ag.ite ?_ ?_ | refine Ag.bind ?_ (fun _ => ?_) | (exfalso; solve_by_elim) | (exfalso; simp_all; done) | (split <;> (try injections) <;> (try subst_vars)))
theorem Ag.one {m : EM V} {c : DM V} (h : Ag m c) : Ag (one m) (D.one c) := Ag.bind h fun _ => Ag.pure _
theorem Ag.pickV (c x y : Operand) : Ag (Go.Ex.pickV c x y) (D.pickV c x y) := by
 unfold Go.Ex.pickV D.pickV
 repeat' (first | exact Ag.pure _ | exact Ag.fail | exact Ag.ofO _ | exact Ag.rdX _ | exact Ag.wrX _ _ | assumption | refine Ag.one ?_ | exact Ag.makeMapV _ | exact Ag.mapUpdateV _ _ _ _ _ | exact Ag.lookupV _ _ _ _ _ | exact Ag.entsV _ | exact Ag.opO _ | exact Ag.appendV _ _ _ _ _ | exact Ag.appendSl _ _ _ _ _ _ _ _ | exact Ag.moveV _ _ _ _ _ _ _ | exact Ag.elems _ _ | exact Ag.buildSliceV _ _ _ _ _ | exact Ag.parts _ | exact Ag.makeSliceV _ _ _ _ _ | exact Ag.boxV _ _ | exact Ag.allocV _ _ _ | exact Ag.lenV _ _ _ | exact Ag.storeV _ _ _ _ | exact Ag.loadV _ _ _ | exact Ag.grow _ _ _ _ | exact Ag.wrNew _ _ | exact Ag.putB _ _ _ | exact Ag.touch _ _ _ _ _ | exact Ag.rdM _ | exact Ag.rdF _ | exact Ag.rdB _ | exact Ag.opVs _ | exact Ag.opV _ | exact Ag.rdS _ | refine Ag.ite ?_ ?_ | refine Ag.bind ?_ (fun _ => ?_) | (exfalso; solve_by_elim) | (exfalso; simp_all; done) | (split <;> (try injections) <;> (try subst_vars)))
theorem Ag.callB (tt : ET) (n : Nat) (b : Builtin) (args : List Operand) (tys : List Nat) : Ag (Go.Ex.callB tt n b args tys) (D.callB tt n b args tys) := by
 unfold Go.Ex.callB D.callB
 repeat' (first | exact Ag.pure _ | exact Ag.fail | exact Ag.ofO _ | exact Ag.rdX _ | exact Ag.wrX _ _ | assumption | exact Ag.pickV _ _ _ | refine Ag.one ?_ | exact Ag.makeMapV _ | exact Ag.mapUpdateV _ _ _ _ _ | exact Ag.lookupV _ _ _ _ _ | exact Ag.entsV _ | exact Ag.opO _ | exact Ag.appendV _ _ _ _ _ | exact Ag.appendSl _ _ _ _ _ _ _ _ | exact Ag.moveV _ _ _ _ _ _ _ | exact Ag.elems _ _ | exact Ag.buildSliceV _ _ _ _ _ | exact Ag.parts _ | exact Ag.makeSliceV _ _ _ _ _ | exact Ag.boxV _ _ | exact Ag.allocV _ _ _ | exact Ag.lenV _ _ _ | exact Ag.storeV _ _ _ _ | exact Ag.loadV _ _ _ | exact Ag.grow _ _ _ _ | exact Ag.wrNew _ _ | exact Ag.putB _ _ _ | exact Ag.touch _ _ _ _ _ | exact Ag.rdM _ | exact Ag.rdF _ | exact Ag.rdB _ | exact Ag.opVs _ | exact Ag.opV _ | exact Ag.rdS _ | refine Ag.ite ?_ ?_ | refine Ag.bind ?_ (fun _ => ?_) | (exfalso; solve_by_elim) | (exfalso; simp_all; done) | (split <;> (try injections) <;> (try subst_vars)))
theorem Ag.copV (tt : ET) (n : Nat) (o : Oper) : Ag ((Go.Ex.copV tt o).run n) ((D.copV tt o).run n) := by
 unfold Go.Ex.copV D.copV
 generalize o.op = op
 split <;> dsimp only <;> (repeat' (first | exact Ag.pure _ | exact Ag.fail | exact Ag.ofO _ | exact Ag.rdX _ | exact Ag.wrX _ _ | assumption | exact Ag.callB _ _ _ _ _ | exact Ag.pickV _ _ _ | refine Ag.one ?_ | exact Ag.makeMapV _ | exact Ag.mapUpdateV _ _ _ _ _ | exact Ag.lookupV _ _ _ _ _ | exact Ag.entsV _ | exact Ag.opO _ | exact Ag.appendV _ _ _ _ _ | exact Ag.appendSl _ _ _ _ _ _ _ _ | exact Ag.moveV _ _ _ _ _ _ _ | exact Ag.elems _ _ | exact Ag.buildSliceV _ _ _ _ _ | exact Ag.parts _ | exact Ag.makeSliceV _ _ _ _ _ | exact Ag.boxV _ _ | exact Ag.allocV _ _ _ | exact Ag.lenV _ _ _ | exact Ag.storeV _ _ _ _ | exact Ag.loadV _ _ _ | exact Ag.grow _ _ _ _ | exact Ag.wrNew _ _ | exact Ag.putB _ _ _ | exact Ag.touch _ _ _ _ _ | exact Ag.rdM _ | exact Ag.rdF _ | exact Ag.rdB _ | exact Ag.opVs _ | exact Ag.opV _ | exact Ag.rdS _ | refine Ag.ite ?_ ?_ | refine Ag.bind ?_ (fun _ => ?_) | (exfalso; solve_by_elim) | (exfalso; simp_all; done) | (split <;> (try injections) <;> (try subst_vars))))
theorem Ag.copW (N : Nat) (dst : Option Nat) (x : V) : Ag ((Go.Ex.copW N dst).run x) ((D.copW N dst).run x) := by
 unfold Go.Ex.copW D.copW
 cases dst with
 | none => exact Ag.pure _
 | some k =>
  simp only
  cases Nat.blt k N with
  | true => exact Ag.wrSl _ _
  | false => exact Ag.fail
theorem Ag.copP (tt : ET) (N n : Nat) (o : Oper) : Ag (Go.Ex.copP ((Go.Ex.copV tt o).run n) (Go.Ex.copW N o.dst) o.dst.isNone) (D.copP ((D.copV tt o).run n) (D.copW N o.dst) o.dst.isNone) := by
 refine Ag.bind (Ag.copV tt n o) fun r => ?_
 cases r with
 | some v => exact Ag.copW _ _ _
 | none =>
  simp only
  cases o.dst.isNone with
  | true => exact Ag.pure _
  | false => exact Ag.fail
theorem Ag.copG (tt : ET) (N n : Nat) (ops : Array Oper) (o : Oper) : Ag ((Go.Ex.copG tt N ops o).run n) ((D.copG tt N ops o).run n) := by
 unfold Go.Ex.copG D.copG
 cases o.guard with
 | none => exact Ag.copP tt N n o
 | some q =>
  obtain ⟨j, want⟩ := q
  simp only
  cases (ops[j]?).bind (·.dst) with
  | none => exact Ag.fail
  | some g =>
   have h1 := Ag.copP tt N n o
   have h2 := Ag.copW N o.dst
   refine Ag.bind (Ag.rdS _) fun b => ?_
   have h3 := h2 .un
   repeat' (first | exact Ag.pure _ | exact Ag.fail | exact Ag.ofO _ | exact Ag.rdX _ | exact Ag.wrX _ _ | assumption | exact Ag.callB _ _ _ _ _ | exact Ag.pickV _ _ _ | refine Ag.one ?_ | exact Ag.makeMapV _ | exact Ag.mapUpdateV _ _ _ _ _ | exact Ag.lookupV _ _ _ _ _ | exact Ag.entsV _ | exact Ag.opO _ | exact Ag.appendV _ _ _ _ _ | exact Ag.appendSl _ _ _ _ _ _ _ _ | exact Ag.moveV _ _ _ _ _ _ _ | exact Ag.elems _ _ | exact Ag.buildSliceV _ _ _ _ _ | exact Ag.parts _ | exact Ag.makeSliceV _ _ _ _ _ | exact Ag.boxV _ _ | exact Ag.allocV _ _ _ | exact Ag.lenV _ _ _ | exact Ag.storeV _ _ _ _ | exact Ag.loadV _ _ _ | exact Ag.grow _ _ _ _ | exact Ag.wrNew _ _ | exact Ag.putB _ _ _ | exact Ag.touch _ _ _ _ _ | exact Ag.rdM _ | exact Ag.rdF _ | exact Ag.rdB _ | exact Ag.opVs _ | exact Ag.opV _ | exact Ag.rdS _ | refine Ag.ite ?_ ?_ | refine Ag.bind ?_ (fun _ => ?_) | (exfalso; solve_by_elim) | (exfalso; simp_all; done) | (split <;> (try injections) <;> (try subst_vars)))
end
theorem Run.order (h : Run P C N ops os s l s2) :
  ∀ (i j : Nat) (L L' : Log) (t t1 u u1 : S), i < j → l[i]? = some (L, t, t1) → l[j]? = some (L', u, u1) → t1.n ≤ u.n := by
 induction h with
 | nil => intro i j L L' t t1 u u1 _ h; simp at h
 | @cons o os s s1 s2 L0 l h hv hn hi0 t ih =>
  intro i j L L' t' t1 u u1 hij h1 h2
  cases j with
  | zero => omega
  | succ j =>
   simp only [List.getElem?_cons_succ] at h2
   cases i with
   | zero =>
    simp only [List.getElem?_cons_zero, Option.some.injEq, Prod.mk.injEq] at h1
    obtain ⟨rfl, rfl, rfl⟩ := h1
    have hlt : j < l.length := (List.getElem?_eq_some_iff.1 h2).1
    have hlen := t.get.1
    obtain ⟨L2, t2, t3, g1, _, _, _, g5, _⟩ := t.get.2 j os[j] (List.getElem?_eq_getElem (by omega))
    rw [h2] at g1; cases g1
    exact g5
   | succ i =>
    simp only [List.getElem?_cons_succ] at h1
    exact ih i j L L' t' t1 u u1 (by omega) h1 h2
theorem KK {rd : Option Nat} {m : Nat}    {ops : Array Oper} {Q : Exit → Act → World → Prop}   (hrun : Run P C N ops ops.toList s l s2) (hok : jp ops.toList (l.map (·.1)) = true)
    {ρ0 : Pl} {Ds : List Nat} (hfr : vw (y6 s) s.n) (hiv : ∀ (i : Nat) (L : Log) (t t1 : S), l[i]? = some (L, t, t1) → L.lo = t.n ∧ L.hi = t1.n) (hQ : ∀ ρ a w, Ext s.n s2.n ρ0 ρ → Sim C N ρ (y6 s2) a w Ds → Q .normal a w) :
    ∀ (fuel : Nat) (listed : Array Bool) (a : Act) (w : World) (ρ : Pl) (st : St), XB ops.size listed ≤ fuel →
      (∀ j o, ops[j]? = some o → listed.getD j true = true → ∀ e ∈ o.after.toList, Region.binds .any e = true → listed.getD e.on true = true) →
      Sim C N ρ st a w Ds → Ext s.n s2.n ρ0 ρ →
      (∀ j L t t1, l[j]? = some (L, t, t1) → listed.getD j true = false → ∀ i, t.n ≤ i → i < t1.n → ρ i = none) →
      (∀ k, (∃ j L u u1, listed.getD j true = true ∧ l[j]? = some (L, u, u1) ∧ L.wB k = true ∧ st k = y6 u1 k ∧ ∀ j' L' u' u1', j < j' → listed.getD j' true = true → l[j']? = some (L', u', u1') → L'.wB k = false) ∨
        ((∀ j L u u1, listed.getD j true = true → l[j]? = some (L, u, u1) → L.wB k = false) ∧ st k = y6 s k)) →
      wpAnyIn (fen rd) m P .any ops Q fuel listed a w := by
  obtain ⟨hlen, hsteps⟩ := hrun.get
  have hlen' : l.length = ops.size := by simpa using hlen
  unfold jp at hok
  rw [Bool.and_eq_true] at hok
  obtain ⟨hedges, hpairs⟩ := hok
  have hpair : ∀ i j Li t t1 Lj u u1, i < j → l[i]? = some (Li, t, t1) → l[j]? = some (Lj, u, u1) → apart Li Lj = true ∨ ((jZ ops.toList []).getD j 0).testBit i = true := by
    intro i j Li t t1 Lj u u1 hij h1 h2
    have m1 : (Li, i) ∈ (l.map (·.1)).zipIdx := by rw [List.mem_zipIdx_iff_getElem?]; simp [h1]
    have m2 : (Lj, j) ∈ (l.map (·.1)).zipIdx := by rw [List.mem_zipIdx_iff_getElem?]; simp [h2]
    have := List.all_eq_true.1 (List.all_eq_true.1 hpairs _ m2) _ m1
    simp only [Bool.or_eq_true] at this
    rcases this with (h | h) | h
    · have := Nat.le_of_ble_eq_true h; omega
    · exact .inr h
    · exact .inl h
  have hedge : ∀ j o, ops.toList[j]? = some o → ∀ e ∈ o.after.toList, Region.binds .any e = true → e.on < j := by
    intro j o hj e he hb
    unfold Xi at hedges
    have := List.all_eq_true.1 (List.all_eq_true.1 hedges (o, j) (by rw [List.mem_zipIdx_iff_getElem?]; exact hj)) e he
    simpa [hb] using this
  have hend : ∀ (listed : Array Bool) (a : Act) (w : World) (ρ : Pl) (st : St), (∀ j, j < ops.size → listed.getD j true = true) → Sim C N ρ st a w Ds → Ext s.n s2.n ρ0 ρ →
      (∀ k, (∃ j L u u1, listed.getD j true = true ∧ l[j]? = some (L, u, u1) ∧ L.wB k = true ∧ st k = y6 u1 k ∧ ∀ j' L' u' u1', j < j' → listed.getD j' true = true → l[j']? = some (L', u', u1') → L'.wB k = false) ∨
        ((∀ j L u u1, listed.getD j true = true → l[j]? = some (L, u, u1) → L.wB k = false) ∧ st k = y6 s k)) → Q .normal a w := by
    intro listed a w ρ st hall hs hx hinv
    refine hQ ρ a w hx ?_
    have hl : ∀ j L u u1, l[j]? = some (L, u, u1) → listed.getD j true = true := fun j L u u1 h => hall j (by rw [← hlen']; exact (List.getElem?_eq_some_iff.1 h).1)
    have : st = y6 s2 := by
      funext k
      rcases hinv k with ⟨j, L, u, u1, h1, h2, h3, h4, h5⟩ | ⟨h1, h2⟩
      · rcases hrun.end_key k with ⟨_, q2⟩ | ⟨j0, L0, v, v1, q2, q3, q4, q5⟩
        · have := q2 j L u u1 h2; rw [h3] at this; cases this
        · have e : j = j0 := by
            rcases Nat.lt_trichotomy j j0 with c | c | c
            · have := h5 j0 L0 v v1 c (hl _ _ _ _ q2) q2; rw [q3] at this; cases this
            · exact c
            · have := q5 j L u u1 c h2; rw [h3] at this; cases this
          subst e
          rw [h2] at q2; cases q2
          rw [h4, q4]
      · rcases hrun.end_key k with ⟨q1, _⟩ | ⟨j0, L0, v, v1, q2, q3, _⟩
        · rw [h2, q1]
        · have := h1 j0 L0 v v1 (hl _ _ _ _ q2) q2; rw [q3] at this; cases this
    rw [← this]; exact hs
  intro fuel
  induction fuel with
  | zero =>
    intro listed a w ρ st hfuel hcl hs hx hnone hinv
    have hall : ∀ j, j < ops.size → listed.getD j true = true := by
      intro j hj
      cases hh : listed.getD j true with
      | true => rfl
      | false =>
        exfalso
        have : 0 < XB ops.size listed := List.length_pos_of_mem (List.mem_filter.2 ⟨List.mem_range.2 hj, by simp [hh]⟩)
        omega
    refine ⟨?_, hend listed a w ρ st hall hs hx hinv⟩
    unfold Region.ready
    rw [List.filter_eq_nil_iff]
    intro i hi
    have := hall i (List.mem_range.1 hi)
    simp [this]
  | succ fuel ih =>
    intro listed a w ρ st hfuel hcl hs hx hnone hinv
    refine ⟨?_, ?_⟩
    · intro hnil
      refine hend listed a w ρ st ?_ hs hx hinv
      intro j hj
      cases hh : listed.getD j true with
      | true => rfl
      | false =>
        exfalso
        have key : ∀ q, q < ops.size → listed.getD q true = true := by
          intro q
          induction q using Nat.strongRecOn with
          | _ q ihq =>
            intro hq
            cases hh2 : listed.getD q true with
            | true => rfl
            | false =>
              exfalso
              have hm : q ∈ Region.ready .any ops listed := by
                unfold Region.ready
                rw [List.mem_filter]
                refine ⟨List.mem_range.2 hq, ?_⟩
                simp only [hh2, Bool.not_false, Bool.true_and]
                rw [Array.getElem?_eq_getElem hq]
                simp only [Option.map_some, Option.getD_some]
                rw [Array.all_eq_true']
                intro e he
                cases hb : Region.binds .any e with
                | false => rfl
                | true =>
                  have hlt := hedge q ops[q] (by simp [hq]) e (by simpa using he) hb
                  have := ihq e.on hlt (by omega)
                  have hsz : e.on < listed.size ∨ ¬ e.on < listed.size := by omega
                  simp only [Bool.not_true, Bool.false_or]
                  rcases hsz with h | h
                  · simp only [Array.getD_eq_getD_getElem?, Array.getElem?_eq_getElem h, Option.getD_some] at this ⊢; exact this
                  · exfalso
                    have h2 : q < listed.size := by
                      rcases Nat.lt_or_ge q listed.size with h2 | h2
                      · exact h2
                      · simp [Array.getD_eq_getD_getElem?, Array.getElem?_eq_none h2] at hh2
                    omega
              rw [hnil] at hm; cases hm
        rw [key j hj] at hh; cases hh
    · intro i hi
      unfold Region.ready at hi
      rw [List.mem_filter] at hi
      obtain ⟨hi1, hi2⟩ := hi
      have hisz := List.mem_range.1 hi1
      rw [Bool.and_eq_true] at hi2
      obtain ⟨hi2, hi3⟩ := hi2
      have hil : listed.getD i true = false := by simpa using hi2
      rw [Array.getElem?_eq_getElem hisz] at hi3
      simp only [Option.map_some, Option.getD_some] at hi3
      rw [Array.all_eq_true'] at hi3
      have hilist : i < listed.size := by
        rcases Nat.lt_or_ge i listed.size with h | h
        · exact h
        · simp [Array.getD_eq_getD_getElem?, Array.getElem?_eq_none h] at hil
      have hpre : ∀ e ∈ ops[i].after.toList, Region.binds .any e = true → listed.getD e.on true = true := by
        intro e he hb
        have := hi3 e (by simpa using he)
        rw [hb] at this
        simp only [Bool.not_true, Bool.false_or] at this
        have hlt := hedge i ops[i] (by simp [hisz]) e he hb
        have h : e.on < listed.size := by omega
        simp only [Array.getD_eq_getD_getElem?, Array.getElem?_eq_getElem h, Option.getD_some] at this ⊢; exact this
      obtain ⟨L, t, t1, g1, g2, g3, g4, g5, g6, g7⟩ := hsteps i ops[i] (by simp [hisz])
      have hget : ∀ j, (listed.setIfInBounds i true).getD j true = if j = i then true else listed.getD j true := by
        intro j
        simp only [Array.getD_eq_getD_getElem?, Array.getElem?_setIfInBounds]
        by_cases h : i = j
        · subst h; simp [hilist]
        · simp [h, Ne.symm h]
      have hcl' : ∀ j o, ops[j]? = some o → (listed.setIfInBounds i true).getD j true = true → ∀ e ∈ o.after.toList, Region.binds .any e = true → (listed.setIfInBounds i true).getD e.on true = true := by
        intro j o hj hl e he hb
        rw [hget] at hl ⊢
        by_cases h : j = i
        · subst h
          rw [Array.getElem?_eq_getElem hisz] at hj; cases hj
          split
          · rfl
          · exact hpre e he hb
        · rw [if_neg h] at hl
          split
          · rfl
          · exact hcl j o hj hl e he hb
      have hanc : ∀ j, ((jZ ops.toList []).getD i 0).testBit j = true → j ≠ i → listed.getD j true = true := by
        intro j hb hne
        have := wJ (ops := ops.toList) (L := fun q => (listed.setIfInBounds i true).getD q true) (fun q o hq hl e he hb => hcl' q o (by simpa using hq) hl e he hb) ops.toList [] [] rfl rfl (by simp) i j hb (by rw [hget]; simp)
        rw [hget, if_neg hne] at this
        exact this
      have hdes : ∀ j, ((jZ ops.toList []).getD j 0).testBit i = true → listed.getD j true = false := by
        intro j hb
        cases hh : listed.getD j true with
        | false => rfl
        | true =>
          have := wJ (ops := ops.toList) (L := fun q => listed.getD q true) (fun q o hq hl e he hb => hcl q o (by simpa using hq) hl e he hb) ops.toList [] [] rfl rfl (by simp) j i hb hh
          rw [hil] at this; cases this
      have ord : ∀ j L' u u1, j ≠ i → l[j]? = some (L', u, u1) → apart L' L = false ∨ apart L L' = false → (j < i ∧ listed.getD j true = true) ∨ (i < j ∧ listed.getD j true = false) := by
        intro j L' u u1 hne hj hap
        have sym : apart L' L = apart L L' := by unfold apart; rw [Bool.and_comm]
        have hap : apart L' L = false := by rcases hap with h | h; exact h; rw [sym]; exact h
        rcases Nat.lt_or_ge j i with c | c
        · rcases hpair j i L' u u1 L t t1 c hj g1 with h | h
          · rw [h] at hap; cases hap
          · exact .inl ⟨c, hanc j h hne⟩
        · rcases hpair i j L t t1 L' u u1 (by omega) g1 hj with h | h
          · rw [← sym, hap] at h; cases h
          · exact .inr ⟨by omega, hdes j h⟩
      have napw : ∀ {L1 L2 : Log} {k : Key}, L1.wB k = true → L2.w k ∨ L2.r k → apart L1 L2 = false := by
        intro L1 L2 k h1 h2
        cases hh : apart L1 L2 with
        | false => rfl
        | true =>
          unfold apart at hh
          rw [Bool.and_eq_true] at hh
          have := z3o hh.1 (Log.wB_iff.1 h1)
          rcases h2 with h2 | h2
          · exact absurd h2 this.1
          · exact absurd h2 this.2
      have hread : ∀ k, L.r k → st k = y6 t k := by
        intro k hk
        have wr : ∀ j L' u u1, j ≠ i → l[j]? = some (L', u, u1) → L'.wB k = true → (j < i ∧ listed.getD j true = true) ∨ (i < j ∧ listed.getD j true = false) :=
          fun j L' u u1 hne hj hw => ord j L' u u1 hne hj (.inl (napw hw (.inr hk)))
        rcases hrun.key k i L t t1 g1 with ⟨q1, q2⟩ | ⟨j0, L0, v, v1, q1, q2, q3, q4, q5⟩
        · rcases hinv k with ⟨j, L', u, u1, h1, h2, h3, h4, h5⟩ | ⟨h1, h2⟩
          · have hne : j ≠ i := by rintro rfl; rw [hil] at h1; cases h1
            rcases wr j L' u u1 hne h2 h3 with ⟨c, _⟩ | ⟨_, c⟩
            · have := q2 j L' u u1 c h2; rw [h3] at this; cases this
            · rw [h1] at c; cases c
          · rw [h2, q1]
        · have hj0 : listed.getD j0 true = true := by
            rcases wr j0 L0 v v1 (by omega) q2 q3 with ⟨_, c⟩ | ⟨c, _⟩
            · exact c
            · omega
          rcases hinv k with ⟨j, L', u, u1, h1, h2, h3, h4, h5⟩ | ⟨h1, h2⟩
          · have hne : j ≠ i := by rintro rfl; rw [hil] at h1; cases h1
            have hji : j < i := by
              rcases wr j L' u u1 hne h2 h3 with ⟨c, _⟩ | ⟨_, c⟩
              · exact c
              · rw [h1] at c; cases c
            have e : j = j0 := by
              rcases Nat.lt_trichotomy j j0 with c | c | c
              · have := h5 j0 L0 v v1 c hj0 q2; rw [q3] at this; cases this
              · exact c
              · have := q5 j L' u u1 c hji h2; rw [h3] at this; cases this
            subst e
            rw [h2] at q2; cases q2
            rw [h4, q4]
          · have := h1 j0 L0 v v1 hj0 q2; rw [q3] at this; cases this
      have hz : ∀ k i', k.id = some i' → t.n ≤ i' → i' < t1.n → st k = .z := by
        intro k i' hk h1 h2
        have hw : L.w k := .inr ⟨i', hk, by rw [(hiv i L t t1 g1).1]; exact h1, by rw [(hiv i L t t1 g1).2]; exact h2⟩
        rcases hinv k with ⟨j, L', u, u1, e1, e2, e3, e4, e5⟩ | ⟨e1, e2⟩
        · exfalso
          have hne : j ≠ i := by rintro rfl; rw [hil] at e1; cases e1
          rcases ord j L' u u1 hne e2 (.inl (napw e3 (.inl hw))) with ⟨c, _⟩ | ⟨_, c⟩
          · have o1 := hrun.order j i L' L u u1 t t1 c e2 g1
            obtain ⟨L2, u2, u3, f1, _, _, _, _, _, f7⟩ := hsteps j (ops[j]'(by rw [← hlen']; exact (List.getElem?_eq_some_iff.1 e2).1)) (by simp)
            rw [e2] at f1; cases f1
            have := f7 k i' hk (Log.wB_iff.1 e3)
            omega
          · rw [e1] at c; cases c
        · rw [e2]; exact hfr.key hk (by omega)
      have hgood := g2 st ρ a w Ds hs hread (hnone i L t t1 g1 hil) hz
      unfold wpOpIn
      rw [Array.getElem?_eq_getElem hisz]
      simp only
      refine hgood rd m _ _ ?_
      intro ρ' a' w' hext hs'
      refine ih _ a' w' ρ' _ ?_ hcl' hs' (hx.trans (hext.mono g5 g6)) ?_ ?_
      · have := YB (n := ops.size) hisz hil; omega
      · intro j L' u u1 hj hlj i' h1 h2
        rw [hget] at hlj
        have hne : j ≠ i := by rintro rfl; simp at hlj
        rw [if_neg hne] at hlj
        have hold := hnone j L' u u1 hj hlj i' h1 h2
        rw [hext.2 i' ?_]
        · exact hold
        · rcases Nat.lt_or_ge j i with c | c
          · have := hrun.order j i L' L u u1 t t1 c hj g1; omega
          · have := hrun.order i j L L' t t1 u u1 (by omega) g1 hj; omega
      · intro k
        cases hw : L.wB k with
        | true =>
          refine .inl ⟨i, L, t, t1, by rw [hget]; simp, g1, hw, by simp, ?_⟩
          intro j' L' u' u1' hj' hl' hjj
          rw [hget, if_neg (by omega)] at hl'
          cases hw' : L'.wB k with
          | false => rfl
          | true =>
            rcases ord j' L' u' u1' (by omega) hjj (.inl (napw hw' (.inl (Log.wB_iff.1 hw)))) with ⟨c, _⟩ | ⟨_, c⟩
            · omega
            · rw [hl'] at c; cases c
        | false =>
          simp only [Bool.false_eq_true, if_false]
          rcases hinv k with ⟨j, L', u, u1, e1, e2, e3, e4, e5⟩ | ⟨e1, e2⟩
          · refine .inl ⟨j, L', u, u1, by rw [hget]; split <;> first | rfl | exact e1, e2, e3, e4, ?_⟩
            intro j' L'' u' u1' hj' hl' hjj
            rw [hget] at hl'
            by_cases h : j' = i
            · subst h; rw [g1] at hjj; cases hjj; exact hw
            · rw [if_neg h] at hl'; exact e5 j' L'' u' u1' hj' hl' hjj
          · refine .inr ⟨?_, e2⟩
            intro j L' u u1 hl' hjj
            rw [hget] at hl'
            by_cases h : j = i
            · subst h; rw [g1] at hjj; cases hjj; exact hw
            · rw [if_neg h] at hl'; exact e1 j L' u u1 hl' hjj
open Go.Own (A z8 zu Rep zV kY)
def Key.isH : Key → Bool
 | .s _ => false
 | _ => true
theorem Key.isH_id : k.isH = true ↔ ∃ i, k.id = some i := by cases k <;> simp [Key.isH, Key.id]
def cEn (C : Ctx) (ρ : Pl) (st : St) (w : World) : Ctx := ⟨w, C.S, fun B => (∃ b p, (st (.b b)).mem = true ∧ ρ b = some p ∧ p.B = B) ∨ w.heap.size ≤ B⟩
theorem z8b {w : World} {B o : Nat}  (h : zu w.heap B o = some v) : B < w.heap.size := by
 unfold zu at h
 rcases Nat.lt_or_ge B w.heap.size with h1 | h1
 ·exact h1
 ·rw [Array.getElem?_eq_none h1] at h; cases h
theorem vN.enter {ρ : Pl}  {w : World} (h : vN C ρ st w) : vN (cEn C ρ st w) ρ st w := {
 ent := h.ent
 dis := h.dis
 fam := h.fam
 base := fun b p q r => .inl ⟨b, p, q, r, rfl⟩
 lt := h.lt
 still := h.still
 sfree := by
  rintro B o v hS (⟨b, p, h1, h2, rfl⟩ | h1)
  ·exact h.sfree _ _ _ hS (h.base b p h1 h2)
  ·have := z8b (h.still B o v hS); omega
 kept := wK.refl _ _
 mine := fun B hB => .inr hB }
theorem vN.drop {ρ : Pl} {st st' : St} {w : World}  (h : vN C ρ st w) (hk : ∀ k i, k.id = some i → i < n → st' k = st k) (hz : ∀ i, n ≤ i → (st' (.b i)).mem = false) : vN C ρ st' w := by
 have lt : ∀ b, (st' (.b b)).mem = true → b < n := by
  intro b hb
  rcases Nat.lt_or_ge b n with h1 | h1
  ·exact h1
  ·rw [hz b h1] at hb; cases hb
 have eq : ∀ b, b < n → st' (.b b) = st (.b b) := fun b hb => hk (.b b) b rfl hb
 refine ⟨?_, ?_, ?_, ?_, h.lt, h.still, h.sfree, h.kept, h.mine⟩
 ·intro b q
  have e1 := eq b (lt b q)
  rw [e1] at q ⊢
  exact h.ent b q
 ·intro b b' p p' h1 h2 h3 h4 h5 h6
  have e1 := eq b (lt b h2)
  have e2 := eq b' (lt b' h3)
  rw [e1] at h2 ⊢
  rw [e2] at h3 ⊢
  exact h.dis b b' p p' h1 h2 h3 h4 h5 h6
 ·intro b k q
  have hb := lt b (by rw [q]; rfl)
  rw [eq b hb] at q
  obtain ⟨⟨h1, h2⟩, l, h3, h4⟩ := h.fam b k q
  exact ⟨⟨h1, h2⟩, l, by rw [hk (.f k.fam) k.fam rfl (by omega)]; exact h3, h4⟩
 ·intro b p q
  have e1 := eq b (lt b q)
  rw [e1] at q
  exact h.base b p q
def after (n' : Nat) (hv' st : St) : St := fun k => match k.id with | some i => if i < n' then hv' k else st k | none => st k
theorem z8n (n' : Nat) (hv' st : St) (t : Nat) : after n' hv' st (.s t) = st (.s t) := rfl
theorem vt {n' : Nat} {hv' st : St}   (hk : k.id = some i) (hi : i < n') : after n' hv' st k = hv' k := by
 simp only [after, hk, hi, if_true]
theorem qV {n' : Nat} {hv' st : St}   (hk : k.id = some i) (hi : n' ≤ i) : after n' hv' st k = st k := by
 simp only [after, hk, show ¬ i < n' by omega, if_false]
theorem Sim.merge {ρ ρ' : Pl} {st hv hv' : St} {a : Act} {w w' : World} {Ds : List Nat} {n n' : Nat} (h : Sim C N ρ st a w Ds) (hk : ∀ k i, k.id = some i → i < n → st k = hv k) (hz : ∀ k i, k.id = some i → n ≤ i → i < n' → st k = .z) (hfr : vw hv n) (hn : n ≤ n')
  (hx : Ext n n' ρ ρ') (h1 : vN (cEn C ρ hv w) ρ' hv' w') : Sim C N ρ' (after n' hv' st) a w' Ds := by
 have big : ∀ b, (after n' hv' st (.b b)).mem = true → n' ≤ b → (st (.b b)).mem = true ∧ ρ' b = ρ b := by
  intro b hb hnb
  rw [qV rfl hnb] at hb
  exact ⟨hb, hx.2 b (.inr hnb)⟩
 have small : ∀ b, (after n' hv' st (.b b)).mem = true → b < n' → (hv' (.b b)).mem = true := by
  intro b hb hnb
  rwa [vt rfl hnb] at hb
 have apart : ∀ b p, n' ≤ b → (st (.b b)).mem = true → ρ b = some p → ¬ (cEn C ρ hv w).M p.B := by
  rintro b p hnb hb hp (⟨b0, p0, q1, q2, q3⟩ | q)
  ·have hb0 : b0 < n := by
    rcases Nat.lt_or_ge b0 n with h2 | h2
    ·exact h2
    ·rw [(hfr.1 b0 h2).1] at q1; cases q1
   have e0 : st (.b b0) = hv (.b b0) := hk (.b b0) b0 rfl hb0
   rw [← e0] at q1
   obtain ⟨k, k', d1, d2, d3, _⟩ := h.h.dis b b0 p p0 (by omega) hb q1 hp q2 q3.symm
   obtain ⟨⟨_, f1⟩, _⟩ := h.h.fam b0 k' d2
   obtain ⟨_, l, f2, f3⟩ := h.h.fam b k d1
   have hfn : k.fam < n := by omega
   rw [hk (.f k.fam) k.fam rfl hfn] at f2
   have := hfr.2 _ _ f2
   have := f3.2
   omega
  ·have := h.h.lt b p hp
   have q : w.heap.size ≤ p.B := q
   omega
 have sub : ∀ B, (cEn C ρ hv w).M B → C.M B := by
  rintro B (⟨b0, p0, q1, q2, rfl⟩ | q)
  ·have hb0 : b0 < n := by
    rcases Nat.lt_or_ge b0 n with h2 | h2
    ·exact h2
    ·rw [(hfr.1 b0 h2).1] at q1; cases q1
   rw [← hk (.b b0) b0 rfl hb0] at q1
   exact h.h.base b0 p0 q1 q2
  ·exact h.h.mine B (Nat.le_trans h.h.kept.size q)
 have dsafe : ∀ D ∈ Ds, ¬ (cEn C ρ hv w).M D := by
  rintro D hD (⟨b0, p0, q1, q2, q3⟩ | q)
  ·have hb0 : b0 < n := by
    rcases Nat.lt_or_ge b0 n with h2 | h2
    ·exact h2
    ·rw [(hfr.1 b0 h2).1] at q1; cases q1
   rw [← hk (.b b0) b0 rfl hb0] at q1
   exact h.f.dx D hD b0 p0 q1 q2 q3
  ·have := h.f.lt hD
   have q : w.heap.size ≤ D := q
   omega
 refine ⟨⟨?_, ?_, ?_, ?_, h1.lt, h1.still, h.h.sfree, h.h.kept.trans (h1.kept.mono sub), h.h.mine⟩, ?_⟩
 ·intro b q
  rcases Nat.lt_or_ge b n' with c | c
  ·have q' := small b q c
   rw [vt rfl c]
   exact h1.ent b q'
  ·obtain ⟨q1, q2⟩ := big b q c
   rw [qV rfl c]
   obtain ⟨p, d1, d2⟩ := h.h.ent b q1
   exact ⟨p, by rw [q2]; exact d1, (d2.mono hx.1).mem_world (h1.kept.block _ (apart b p c q1 d1))⟩
 ·intro b b' p p' e1 e2 e3 e4 e5 e6
  have mix : ∀ b b' p p', n' ≤ b → b' < n' → (after n' hv' st (.b b)).mem = true → (after n' hv' st (.b b')).mem = true → ρ' b = some p → ρ' b' = some p' → p.B ≠ p'.B := by
   intro b b' p p' c c' f1 f2 f3 f4 f5
   obtain ⟨q1, q2⟩ := big b f1 c
   rw [q2] at f3
   refine apart b p c q1 f3 ?_
   rw [f5]
   exact h1.base b' p' (small b' f2 c') f4
  rcases Nat.lt_or_ge b n' with c | c <;> rcases Nat.lt_or_ge b' n' with c' | c'
  ·have f2 := small b e2 c
   have f3 := small b' e3 c'
   rw [vt rfl c, vt rfl c']
   exact h1.dis b b' p p' e1 f2 f3 e4 e5 e6
  ·exact absurd e6.symm (mix b' b p' p c' c e3 e2 e5 e4)
  ·exact absurd e6 (mix b b' p p' c c' e2 e3 e4 e5)
  ·obtain ⟨f2, g2⟩ := big b e2 c
   obtain ⟨f3, g3⟩ := big b' e3 c'
   rw [qV rfl c, qV rfl c']
   rw [g2] at e4
   rw [g3] at e5
   exact h.h.dis b b' p p' e1 f2 f3 e4 e5 e6
 ·intro b k q
  rcases Nat.lt_or_ge b n' with c | c
  ·rw [vt rfl c] at q
   obtain ⟨⟨d1, d2⟩, l, d3, d4⟩ := h1.fam b k q
   exact ⟨⟨d1, d2⟩, l, by rw [vt (i := k.fam) rfl (by omega)]; exact d3, d4⟩
  ·rw [qV rfl c] at q
   obtain ⟨⟨⟨p, d1⟩, d2⟩, l, d3, d4⟩ := h.h.fam b k q
   refine ⟨⟨⟨p, hx.1 _ _ d1⟩, d2⟩, l, ?_, d4⟩
   have hge : n' ≤ k.fam := by
    rcases Nat.lt_or_ge k.fam n' with e | e
    ·exfalso
     rcases Nat.lt_or_ge k.fam n with e2 | e2
     ·rw [hk (.f k.fam) k.fam rfl e2] at d3
      have := hfr.2 _ _ d3
      have := d4.2
      omega
     ·rw [hz (.f k.fam) k.fam rfl e2 e] at d3; cases d3
    ·exact e
   rw [qV (i := k.fam) rfl hge]
   exact d3
 ·intro b p q hp
  rcases Nat.lt_or_ge b n' with c | c
  ·exact sub _ (h1.base b p (small b q c) hp)
  ·obtain ⟨q1, q2⟩ := big b q c
   rw [q2] at hp
   exact h.h.base b p q1 hp
 ·refine h.f.step hx.1 (fun t => rfl) (fun D hD => h1.kept.block D (dsafe D hD)) ?_
  intro D hD b p q hp hBD
  rcases Nat.lt_or_ge b n' with c | c
  ·exact dsafe D hD (hBD ▸ h1.base b p (small b q c) hp)
  ·obtain ⟨q1, q2⟩ := big b q c
   rw [q2] at hp
   exact h.f.dx D hD b p q1 hp hBD
end Go.Ex
