/- -/
import Derived.Test.YtmedkleidpbgpaaPartC
import Derived.Laws.BytesString
noncomputable section
set_option linter.unusedVariables false
set_option linter.unusedSimpArgs false
namespace Go.Own
def z7n : Value → Option Bool
 | .slice none _ _ => some true
 | .slice (some _) _ _ => some false
 | _ => none
variable {P : Program}{st : St}{fs : List Fm}{c : Code}{Q : Exit → St → Prop}{n : Fr}{sz : Nat}{es : List A}
theorem z3Y {P : Program} {n : Fr} {c : Code}  {Q : Exit → St → Prop}  (e : fs = []) (k : Nat)  {t : Bool}  (hk : (st k).t = .d (.sl sz t es))
  (h : ∀ v, v.oneCell' = true → (z7n v = some true ∧ es = []) ∨ z7n v = some false → AWP P ⟨n.size, (k, v) :: n.pin⟩ c st (Qf P ⟨n.size, (k, v) :: n.pin⟩ [] Q)) : AWP P n c st (Qf P n fs Q) := by
 subst e
 intro rd m df w0 S0 M S Fp a w hc hs
 have q := hs.ent k
 unfold yG at q
 simp only [hk] at q
 have q1 := q.1
 simp only [yY] at q1
 have ⟨cs, r1, r2⟩ := q1
 simp only [Rep] at r1
 obtain ⟨p, c', rfl, r3, r4, r5, r6⟩ := r1
 have ev : Act.tv a k = .slice p es.length c' := r2
 have hcase : (z7n (Act.tv a k) = some true ∧ es = []) ∨ z7n (Act.tv a k) = some false := by
  rw [ev]
  cases p with
  | none =>
   refine .inl ⟨rfl, ?_⟩
   rcases r6 with r6 | ⟨b, o, l, e, _⟩
   ·exact r6
   ·cases e
  | some p => exact .inr rfl
 refine wpIn_mono (h (Act.tv a k) (by rw [ev]; rfl) hcase rd m df w0 S0 M S Fp a w ⟨hc.nodup, hc.df, hc.rd⟩ (hs.pinned k)) ?_
 rintro e a' w' ⟨df', st1, S1, Fp1, h1, h2, h3⟩
 exact ⟨df', st1, S1, Fp1, h1.unpinned, h2, h3⟩
open Classical in
def nilO (n : Fr) (dst : Option Nat) (v : Value) (b : Bool) (x y : Operand) : SM Unit := do
 let tx ← opnd x
 let ty ← opnd y
 if tx = .d (.atom v) ∧ ty = .d (.atom (.slice none 0 0)) then wrT n dst (.d (.atom (.bool b))) else zn
def zas (n : Fr) (dst : Option Nat) (v : Value) (b : Bool) (x y : Operand) : HM Unit := ya (opnd x) >>= fun tx => ya (opnd y) >>= fun ty => kG (tx = .d (.atom v) ∧ ty = .d (.atom (.slice none 0 0))) (ya (wrT n dst (.d (.atom (.bool b)))))
open Classical in
theorem z9G (n : Fr) (dst : Option Nat) (v : Value) (b : Bool) (x y : Operand) : Snd (nilO n dst v b x y) (zas n dst v b x y) := zb (zj _) fun _ => zb (zj _) fun _ => uO (zj _)
open Classical in
theorem Loc.nilO (n : Fr) (dst : Option Nat) (v : Value) (b : Bool) (x y : Operand) : Loc (nilO n dst v b x y) := by
 unfold Go.Own.nilO
 exact Loc.bind (Loc.opnd _) fun _ => Loc.bind (Loc.opnd _) fun _ => Loc.ite (Loc.wrT _ _ _) Loc.fail
variable {Fp : Nat → List Nat}{U : List (Nat × Ent)}{w : World}{R : List Nat}{S : zi}{v : Value}{a : Act}{C : Ctx}{o : Oper}{u : Unit}{tt : TT}{b : Bool}
theorem z8N (hT : wl P tt)       (h : Sim C S Fp [] st a w)  {t yt : Nat}   {x y : Operand} (hty : qp tt t = true) (hv : z7n v = some b) (ho : o.op = .binOp .eql t x y yt)    (e0 : nilO C.n o.dst v b x y st = some (u, R, U)) : ui P C o a w (zf U st) := by
 unfold nilO at e0
 have ⟨tx, _, hx, e1⟩ := bR (zz h) e0
 have ⟨ty, _, hy, e2⟩ := bR (zz h) e1
 split at e2
 ·rename_i hc
  obtain ⟨rfl, rfl⟩ := hc
  have ex := (zr.1 hx).1
  have ey := (zr.1 hy).1
  have ⟨el, hel⟩ := ZB hT hty
  have ⟨Fp', hs⟩ := xY h e2 (x := .d (.atom (.bool b))) (zr.2 ⟨rfl, rfl⟩)
  refine zm ?_ hs
  have heq : (Op.equal t v (.slice none 0 0)).run P w = .ok b w := by
   unfold Op.equal Op.maxDepth
   show (Op.equalIn (9999 + 1) t v _).run P w = _
   generalize 9999 = q
   unfold Op.equalIn
   simp [Sem.run_bind, run_underlying hel, Result.andThen_ok]
   cases v with
   | slice p l c => cases p <;> (simp [z7n, Option.some.injEq] at hv; subst hv; simp)
   | _ => cases hv
  cases v with
  | slice p l c => simp [execOp, ho, ex, ey, eqGuard, Go.binOp, heq]
  | _ => cases hv
 ·cases e2
def z8W (d t : Nat) (o : Oper) : Option (Operand × Operand) := match o.op with | .binOp .eql t' x y _ => if o.dst = some d then (if t' = t then some (x, y) else none) else none | _ => none
def z9j (hT : wl P tt) (d t : Nat)   (hty : qp tt t = true) (hv : z7n v = some b) : XH P :=
 xAt P (z8W d t) (fun n o q => nilO n o.dst v b q.1 q.2) (fun n o q => zas n o.dst v b q.1 q.2)
  (by
   intro C S Fp st a w o q hp h u R U e
   unfold z8W at hp
   split at hp
   ·rename_i ho
    replace hp := z5u hp
    split at hp
    ·rename_i ht; subst ht; cases hp; exact z8N hT h hty hv ho e
    ·cases hp
   ·cases hp)
  (fun n o q => Loc.nilO _ _ _ _ _ _) (fun n o q => z9G _ _ _ _ _ _)
instance (k : IntKind) (x y : Int) : SzA (eI k x) (eI k y) := ⟨rfl⟩
open Classical in
def asO (n : Fr) (dst : Option Nat) (v : Value) (x : Operand) : SM Unit := do
 let tx ← opnd x
 if tx = .d (.atom v) then wrT n dst (.d (.atom v)) else zn
def asH (n : Fr) (dst : Option Nat) (v : Value) (x : Operand) : HM Unit := ya (opnd x) >>= fun tx => kG (tx = .d (.atom v)) (ya (wrT n dst (.d (.atom v))))
open Classical in
theorem zb6 (n : Fr) (dst : Option Nat) (v : Value) (x : Operand) : Snd (asO n dst v x) (asH n dst v x) := zb (zj _) fun _ => uO (zj _)
open Classical in
theorem Loc.asO (n : Fr) (dst : Option Nat) (v : Value) (x : Operand) : Loc (asO n dst v x) := by
 unfold Go.Own.asO
 exact Loc.bind (Loc.opnd _) fun _ => Loc.ite (Loc.wrT _ _ _) Loc.fail
variable {x : Operand}
theorem z9Z (h : Sim C S Fp [] st a w)  {v : Value} {x : Operand} (ho : o.op = .assign x)    (e0 : asO C.n o.dst v x st = some (u, R, U)) : ui P C o a w (zf U st) := by
 unfold asO at e0
 have ⟨tx, _, hx, e1⟩ := bR (zz h) e0
 split at e1
 ·rename_i hc
  subst hc
  have hx' : yY S (.atom v) (a.eval x) := hx
  have ⟨Fp', hs⟩ := xY h e1 (x := .d (.atom v)) (v := a.eval x) hx'
  exact zm (by simp [execOp, ho]) hs
 ·cases e1
def zaD (d : Nat) (o : Oper) : Option Operand := match o.op with | .assign x => if o.dst = some d then some x else none | _ => none
def xAs (P : Program) (d : Nat) (v : Value) : XH P :=
 xAt P (zaD d) (fun n o x => asO n o.dst v x) (fun n o x => asH n o.dst v x)
  (by
   intro C S Fp st a w o x hp h u R U e
   unfold zaD at hp
   split at hp
   ·rename_i ho; cases z5u hp; exact z9Z h ho e
   ·cases hp)
  (fun n o x => Loc.asO _ _ _ _) (fun n o x => zb6 _ _ _ _)
theorem z3I {p : Option Addr} {n c : Nat} : kJ sz (.slice p n c) 0 = .slice p n c := by
 have : (0 : Int).toNat = 0 := rfl
 simp only [kJ, this, Nat.sub_zero, Nat.zero_mul]
 congr 1
 split
 ·rfl
 ·cases p <;> simp [Addr.add]
def mwK (n : Fr) (dst : Option Nat) (r sz : Nat) (v : Value) (e : Ent) : SM Unit :=
 match e.t with
 | .own (.osl sz' _ _) => if sz' = sz then wrT n dst (.d (.atom (kJ sz v 0))) else zn
 | _ => zn
open Classical in
def mwO (n : Fr) (dst : Option Nat) (r sz : Nat) (v : Value) : SM Unit := if WN n.pin r = some v then (rdE r >>= fun e => mwK n dst r sz v e) else zn
def mwH (n : Fr) (dst : Option Nat) (r sz : Nat) (v : Value) : HM Unit := kG (WN n.pin r = some v) (ya (rdE r >>= fun e => mwK n dst r sz v e))
open Classical in
theorem Loc.mwO (n : Fr) (dst : Option Nat) (r sz : Nat) (v : Value) : Loc (mwO n dst r sz v) := by
 unfold Go.Own.mwO
 refine Loc.ite (Loc.bind (Loc.rdE _) fun e => ?_) Loc.fail
 unfold Go.Own.mwK
 split
 ·exact Loc.ite (Loc.wrT _ _ _) Loc.fail
 ·exact Loc.fail
theorem z9O (h : Sim C S Fp [] st a w)  {r sz : Nat} {v : Value} (ho : o.op = .move (.tmp r))    (e0 : mwO C.n o.dst r sz v st = some (u, R, U)) : ui P C o a w (zf U st) := by
 unfold mwO at e0
 split at e0
 ·rename_i hp
  have hs := h.pin r v (vQ hp)
  have ⟨_, e4⟩ := bD e0
  unfold mwK at e4
  cases ht : (st r).t with
  | own y =>
   cases y with
   | osl sz' tg es =>
    simp [ht] at e4
    split at e4
    ·rename_i hz
     subst hz
     have ⟨p, c, ev, _, _, _⟩ := Jm h ht
     have hvv : v = .slice p es.length c := by rw [← hs, ev]
     have ⟨Fp', hs'⟩ := xY h e4 (x := .d (.atom (kJ sz' v 0))) (v := v) (by rw [hvv, z3I]; exact zr.2 ⟨rfl, rfl⟩)
     refine zm ?_ hs'
     have ex : a.eval (.tmp r) = v := hs
     simp [execOp, ho, ex]
    ·cases e4
   | _ => simp [ht] at e4; cases e4
  | _ => simp [ht] at e4; cases e4
 ·cases e0
open Classical in
theorem zb3 (n : Fr) (dst : Option Nat) (r sz : Nat) (v : Value) : Snd (mwO n dst r sz v) (mwH n dst r sz v) := uO (zj _)
def zaA (d r : Nat) (o : Oper) : Option Unit := match o.op with | .move (.tmp r') => if o.dst = some d then (if r' = r then some () else none) else none | _ => none
def xMw (P : Program) (d r sz : Nat) (v : Value) : XH P :=
 xAt P (zaA d r) (fun n o _ => mwO n o.dst r sz v) (fun n o _ => mwH n o.dst r sz v)
  (by
   intro C S Fp st a w o q hp h u R U e
   unfold zaA at hp
   split at hp
   ·rename_i ho
    replace hp := z5u hp
    split at hp
    ·rename_i ht; subst ht; exact z9O h ho e
    ·cases hp
   ·cases hp)
  (fun n o q => Loc.mwO _ _ _ _ _) (fun n o q => zb3 _ _ _ _ _)
theorem z7L (h : Sim C S Fp [] st a w) {r : Nat} {x : A} (hr : (st r).t = .own (.box x)) : ∃ b, Act.tv a r = .pointer (some ⟨b, 0, none⟩) := by
 have hq := h.ent r
 unfold yG at hq
 simp only [hr] at hq
 have ⟨cs, c1, c2, c3⟩ := hq
 simp only [zy] at c1
 obtain ⟨b, ty, l, F', rfl, _⟩ := c1
 exact ⟨b, c3⟩
variable {y : A}
theorem z9a (k : Nat)   (hk : (st k).t = .own y) (ho : z4f y = true) (hp : WN n.pin k = some v) (h : v.oneCell' = true → AWP P n c st Q) : AWP P n c st Q := by
 intro rd m df w0 S0 M S Fp a w hc hs
 have hone : (Act.tv a k).oneCell' = true := by
  have q := hs.ent k
  unfold yG at q
  simp [hk] at q
  have ⟨cs, c1, _, hv⟩ := q
  have hcs := Vr ho c1
  rw [hv]
  exact c1.one1 (Yy ho) _ (by have q := List.mem_singleton_self (zL y cs); rwa [← hcs] at q)
 have hv := hs.pin k v (vQ hp)
 exact h (by rw [← hv]; exact hone) rd m df w0 S0 M S Fp a w hc hs
def ncK (n : Fr) (dst : Option Nat) (r : Nat) (e : Ent) : SM Unit :=
 match e.t with
 | .own (.box _) => wrT n dst (.als r [] e.er e.ec)
 | _ => zn
open Classical in
def ncO (n : Fr) (dst : Option Nat) (r : Nat) (v : Value) (x : Operand) : SM Unit := do
 let tx ← opnd x
 if tx = .d (.atom v) ∧ WN n.pin r = some v then (rdE r >>= fun e => ncK n dst r e) else zn
def ncH (n : Fr) (dst : Option Nat) (r : Nat) (v : Value) (x : Operand) : HM Unit := ya (opnd x) >>= fun tx => kG (tx = .d (.atom v) ∧ WN n.pin r = some v) (ya (rdE r >>= fun e => ncK n dst r e))
open Classical in
theorem zb2 (n : Fr) (dst : Option Nat) (r : Nat) (v : Value) (x : Operand) : Snd (ncO n dst r v x) (ncH n dst r v x) := zb (zj _) fun _ => uO (zj _)
open Classical in
theorem Loc.ncO (n : Fr) (dst : Option Nat) (r : Nat) (v : Value) (x : Operand) : Loc (ncO n dst r v x) := by
 unfold Go.Own.ncO
 refine Loc.bind (Loc.opnd _) fun _ => Loc.ite (Loc.bind (Loc.rdE _) fun e => ?_) Loc.fail
 unfold Go.Own.ncK
 split
 ·exact Loc.wrT _ _ _
 ·exact Loc.fail
theorem z9N (h : Sim C S Fp [] st a w)  {r : Nat}   (ho : o.op = .nilCheck x)    (e0 : ncO C.n o.dst r v x st = some (u, R, U)) : ui P C o a w (zf U st) := by
 unfold ncO at e0
 have ⟨tx, _, hx, e1⟩ := bR (zz h) e0
 split at e1
 ·rename_i hc
  obtain ⟨rfl, hp⟩ := hc
  have hs := h.pin r v (vQ hp)
  have ⟨_, e4⟩ := bD e1
  unfold ncK at e4
  cases ht : (st r).t with
  | own y =>
   cases y with
   | box z =>
    simp [ht] at e4
    have ⟨b, ev⟩ := z7L h ht
    have hvv : v = .pointer (some ⟨b, 0, none⟩) := by rw [← hs, ev]
    have hals : jm w.heap st (Act.tv a) r [] (st r).er (st r).ec (Act.tv a r) := by
     refine ⟨Nat.le_refl _, Nat.le_refl _, ?_⟩
     simp [ht]
    have hT : TOk S w.heap st (Act.tv a) (.als r [] (st r).er (st r).ec) v := by rw [← hs]; exact hals
    have ⟨Fp', hs'⟩ := xY h e4 hT
    refine zm ?_ hs'
    have ex : a.eval x = v := (zr.1 hx).1
    simp [execOp, ho, ex, hvv]
   | _ => simp [ht] at e4; cases e4
  | _ => simp [ht] at e4; cases e4
 ·cases e1
def zaz (d : Nat) (o : Oper) : Option Operand := match o.op with | .nilCheck x => if o.dst = some d then some x else none | _ => none
def xNc (P : Program) (d r : Nat) (v : Value) : XH P :=
 xAt P (zaz d) (fun n o x => ncO n o.dst r v x) (fun n o x => ncH n o.dst r v x)
  (by
   intro C S Fp st a w o x hp h u R U e
   unfold zaz at hp
   split at hp
   ·rename_i ho; cases z5u hp; exact z9N h ho e
   ·cases hp)
  (fun n o x => Loc.ncO _ _ _ _ _) (fun n o x => zb2 _ _ _ _ _)
variable {α ρ : Type}
def spR (k : Nat)  (enc : α → List A) (encR : ρ → A) (F : α → Option ρ) (gives : List Bool) (inj : ∀ x y, enc x = enc y → x = y) : wD := {
 α := α
 k := k
 raw := true
 gives := gives
 enc := enc
 pre := fun x => ∃ r, F x = some r
 f := fun x => match F x with | some r => encR r | none => .dead 0
 inj := by
  intro x y h _ _
  rw [inj x y h] }
variable {gives : List Bool}{k : Nat}
theorem z5Y {enc : α → List A} {encR : ρ → A} {F : α → Option ρ}  {inj : ∀ x y, enc x = enc y → x = y} (h : ∀ x r, F x = some r → Yv P k (enc x) (encR r)) : (spR k enc encR F gives inj).Ok P := by
 rintro x ⟨r, hr⟩
 have := h x r hr
 simpa only [spR, hr] using this
variable {as_ : List A}
theorem zaF {k : Nat}  {enc : α → List A} {encR : ρ → A} {F : α → Option ρ} {gives : List Bool} {inj : ∀ x y, enc x = enc y → x = y} {x : α} {r : ρ} (hr : F x = some r)  (ha : as_ = enc x) :
  (UQ.add (spR k enc encR F gives inj)).run k ((UQ.add (spR k enc encR F gives inj)).norm k as_) = some (encR r) := by
 have h := Ctr.add_has UQ (spR k enc encR F gives inj)
 have h1 := h.run x ⟨r, hr⟩
 have h2 : (UQ.add (spR k enc encR F gives inj)).raw k = true := h.raw
 unfold Ctr.norm
 rw [h2, ha]
 refine Eq.trans h1 ?_
 simp [spR, hr]
theorem z8Y {enc : α → List A} {encR : ρ → A} {F : α → Option ρ}  {inj : ∀ x y, enc x = enc y → x = y} : (UQ.add (spR k enc encR F gives inj)).gives k = gives := (Ctr.add_has UQ _).gives
variable {s t : Nat}
section
variable {α : Type}
def eFl (sz : Nat) (f : α → A) (x : List α × Bool) : A := .sl sz x.2 (x.1.map f)
instance (sz : Nat) (f : α → A) : z07 (eFl sz f) (eFl sz f) := ⟨fun _ => rfl, fun _ => rfl⟩
theorem flL (sz : Nat) (tg : Bool) (f : α → A) (l : List (List α)) : (l.map fun x => (x, tg)).map (eFl sz f) = l.map (eSl sz tg f) := by
 rw [List.map_map]; rfl
theorem flE {f : α → A} {l : List (List α × Bool)} (h : ∀ x ∈ l, x.2 = true) : l.map (eFl sz f) = (l.map (·.1)).map (eSl sz true f) := by
 rw [List.map_map]
 exact List.map_congr_left fun x hx => by simp [eFl, eSl, h x hx]
instance LeA.flO (s t : Nat) (tg : Bool) (b : Bool) (f : α → A) (l : List (List α)) : LeA (eOs s b (eSl t tg f) l) (eOs s b (eFl t f) (l.map fun x => (x, tg))) := by
 unfold eOs; rw [flL]; infer_instance
theorem flA {f : α → A} {l : List (List α × Bool)} (h : ∀ x ∈ l, x.2 = true) : LeA (eSl s b (eFl t f) l) (eSl s b (eSl t true f) (l.map (·.1))) := by
 unfold eSl; rw [flE h]; exact LeA.refl _
end
variable {h : Array Obj}{F : List Nat}
theorem kH (hF : ∀ k ∈ F, ∀ o, S k o = none) : ∀ b o u, S b o = some u → zB S h F b o = some u := by
 intro b o u hs
 unfold zB
 rw [if_neg (fun q => by rw [hF b q o] at hs; cases hs)]
 exact hs
theorem Sim.sealX (h : Sim C S Fp (F ++ []) st a w) (hF : ∀ k ∈ F, ∀ o, S k o = none) : Sim C (zB S w.heap F) Fp [] st a w := by
 refine h.mem h.below (kH hF) ?_ ?_ ?_ (by simp) (by simp) (by simp)
 ·intro b o v q
  unfold zB at q
  split at q
  ·exact q
  ·exact h.still b o v q
 ·intro b o hb
  unfold zB
  rw [if_neg (fun q => hb (h.xb b (by simpa using q)))]
  exact h.sbase b o hb
 ·intro t k hk
  refine ⟨rfl, fun o => ?_⟩
  unfold zB
  rw [if_neg (fun q => h.xd t k (by simpa using q) hk)]
  exact (h.free t k hk).2.1 o
mutual
theorem A.live_isD : ∀ {a : A}, a.isD = true → a.live = true
 | .atom _, _ => rfl
 | .fn _ _, _ => rfl
 | .agg fs, h => by simp [A.isD] at h; simp [A.live]; exact A.lives_areD h
 | .sl _ _ _, _ => rfl
 | .sptr _, _ => rfl
 | .dop _, _ => rfl
 | .tup _, h => by simp [A.isD] at h
 | .osl _ _ _, h => by simp [A.isD] at h
 | .box _, h => by simp [A.isD] at h
 | .dead _, h => by simp [A.isD] at h
 | .opq _, h => by simp [A.isD] at h
theorem A.lives_areD : ∀ {as_ : List A}, A.areD as_ = true → A.lives as_ = true
 | [], _ => rfl
 | a :: as_, h => by
  simp [A.areD, Bool.and_eq_true] at h
  simp [A.lives, A.live_isD h.1, A.lives_areD h.2, Bool.and_self]
end
theorem A.areD_app : ∀ {as_ bs : List A}, A.areD as_ = true → A.areD bs = true → A.areD (as_ ++ bs) = true
 | [], _, _, h => h
 | a :: as_, bs, h1, h2 => by
  simp [A.areD, Bool.and_eq_true] at h1
  simp [List.cons_append, A.areD, Bool.and_eq_true]
  exact ⟨h1.1, A.areD_app h1.2 h2⟩
def za0 (tt : TT) (t sz : Nat) : Bool :=
 match tt t with
 | some ⟨.slice e, _, _, _, _⟩ => match tt e with | some i => sz == i.size && decide (i.bytes ≤ 4096) && decide (0 < i.size) && i.zero.isSome | none => false
 | _ => false
def apO (tt : TT) (n : Fr) (dst : Option Nat) (t : Nat) (s x : Operand) : SM Unit := do
 let ts ← opnd s
 let tx ← opnd x
 match ts, tx with
 | .d (.sl sz tg es), .d (.sl sz2 _ ys) => if za0 tt t sz = true ∧ sz2 = sz ∧ tg = true ∧ es.length + ys.length ≤ lim ∧ A.areD es = true ∧ A.areD ys = true then wrT n dst (.d (.sl sz false (es ++ ys))) else zn
 | _, _ => zn
def apH (tt : TT) (n : Fr) (dst : Option Nat) (t : Nat) (s x : Operand) : HM Unit := ya (opnd s) >>= fun ts => ya (opnd x) >>= fun tx =>
 match ts, tx with
 | .d (.sl sz tg es), .d (.sl sz2 _ ys) => if za0 tt t sz = true ∧ sz2 = sz ∧ tg = true then kG (es.length + ys.length ≤ lim ∧ A.areD es = true ∧ A.areD ys = true) (eqL (es ++ ys) >>= fun zs => ya (wrT n dst (.d (.sl sz false zs)))) else zA
 | _, _ => zA
theorem zb7 (tt : TT) (n : Fr) (dst : Option Nat) (t : Nat) (s x : Operand) : Snd (apO tt n dst t s x) (apH tt n dst t s x) := by
 refine zb (zj _) fun ts => zb (zj _) fun tx => ?_
 split
 ·refine V2 (fun h1 h2 => ⟨h1.1, h1.2.1, h1.2.2, h2.1, h2.2.1, h2.2.2⟩) ?_
  exact YI (zM _ fun zs => wrT n dst (.d (.sl _ false zs))).symm (zb (z0r _) fun _ => zj _)
 ·exact zl _
theorem Loc.apO (tt : TT) (n : Fr) (dst : Option Nat) (t : Nat) (s x : Operand) : Loc (apO tt n dst t s x) := by
 unfold Go.Own.apO
 refine Loc.bind (Loc.opnd _) fun _ => Loc.bind (Loc.opnd _) fun _ => ?_
 split
 ·exact Loc.ite (Loc.wrT _ _ _) Loc.fail
 ·exact Loc.fail
theorem za1 (hT : wl P tt)       (h : Sim C S Fp [] st a w)  {t : Nat} {s x : Operand} (ho : o.op = .call { callee := .builtin .append, args := #[s, x], argTypes := #[t, t] })    (e0 : apO tt C.n o.dst t s x st = some (u, R, U)) : ui P C o a w (zf U st) := by
 unfold apO at e0
 have ⟨ts, _, hs, e1⟩ := bR (zz h) e0
 have ⟨tx, _, hx, e2⟩ := bR (zz h) e1
 split at e2
 ·rename_i sz tg es sz2 tg2 ys
  split at e2
  ·rename_i hc
   obtain ⟨c1, rfl, rfl, c4, c5, c6⟩ := hc
   obtain ⟨el, i, hel, hi, hsz, c3, cz, c7⟩ : ∃ el i, P.underlying t = some (.slice el) ∧ tt el = some i ∧ sz2 = i.size ∧ i.bytes ≤ 4096 ∧ 0 < i.size ∧ i.zero.isSome = true := by
    unfold za0 at c1
    split at c1
    ·rename_i e _ _ _ _ ht
     split at c1
     ·rename_i i hi
      simp only [Bool.and_eq_true, beq_iff_eq, decide_eq_true_eq] at c1
      exact ⟨e, i, (hT _ _ ht).kind, hi, c1.1.1.1, c1.1.1.2, c1.1.2, c1.2⟩
     ·cases c1
    ·cases c1
   have ⟨f, f1, f2, f3, f4⟩ := (hT _ _ hi).info
   have ⟨z0, hz0⟩ := Option.isSome_iff_exists.1 c7
   have ⟨zv, v1, v2, v3⟩ := f4 z0 hz0
   have hzs : zv.cells.size = f.size := by
    have := (v3 (fun _ _ => none) #[]).len
    rw [v2, ← f2] at this
    simpa using this
   have hs' : yY S (.sl sz2 true es) (a.eval s) := hs
   have hx' : yY S (.sl sz2 tg2 ys) (a.eval x) := hx
   have ⟨p, d, news, ev, r1, r2, r3⟩ := VK (y := .sl sz2 tg2 ys) h (.inl ⟨tg2, rfl⟩) c6 (.inl hx')
   have fin : ∀ v w', (Builtin.append_ #[t, t] o.type #[a.eval s, a.eval x]).run P w = .ok v w' → (execOp a.eval o).run P w = .ok (.value v) w' := by
    intro v w' hrun
    simp [execOp, ho, resolve, invoke, builtin, hrun]
   simp only [yY] at hs'
   have ⟨cs, q1, q2⟩ := hs'
   simp only [Rep] at q1
   obtain ⟨pp, c, rfl, t1, t2, t3, t4⟩ := q1
   have hcl := t1 trivial
   subst hcl
   have es1 : a.eval s = .slice pp es.length es.length := q2
   by_cases hne : ys = []
   ·subst hne
    have ⟨Fp', hs2⟩ := xY h e2 (x := .d (.sl sz2 false (es ++ []))) (v := .slice pp es.length es.length) (by
     simp only [TOk, yY, List.append_nil]
     refine ⟨[.slice pp es.length es.length], ?_, rfl⟩
     simp only [Rep]
     exact ⟨pp, _, rfl, by simp, Nat.le_refl _, t3, t4⟩)
    refine zm (fin _ _ ?_) hs2
    rw [es1, ev]
    exact Yh hel f1 pp p es.length es.length d (Nat.le_refl _) w
   ·have hpos : 0 < ys.length := List.length_pos_iff.2 hne
    rcases r3 with ⟨hy, _⟩ | ⟨ad, rfl, hnews⟩
    ·exact absurd hy hne
    subst hsz
    rw [← f2] at t3 r2 e2
    have hold : ∃ olds, yc S es olds ∧ ((pp = none ∧ es = [] ∧ es.length = 0) ∨ ∃ b, pp = some b ∧ ∀ j v, olds[j]? = some v → w.cell? (b.add j) = some v) := by
     rcases t4 with rfl | ⟨b, o', l, rfl, k1, k2⟩
     ·cases pp with
      | none => exact ⟨[], by simp [yc], .inl ⟨rfl, rfl, rfl⟩⟩
      | some b => exact ⟨[], by simp [yc], .inr ⟨b, rfl, by simp⟩⟩
     ·exact ⟨l, k1, .inr ⟨_, rfl, VR h k2⟩⟩
    have ⟨olds, n1, n2⟩ := hold
    have h' : Sim C S Fp ([] ++ []) st a w := by simpa using h
    obtain ⟨v, w', hrun, F', m1, m2, cs', m3, rfl⟩ := ZL (ty := o.type) hel f1 v1 hzs h' (n1.concs w.heap) (by simp) (r1.concs w.heap) t3 r2 n2 (d := d) hnews (by omega) c4 (by omega) hpos
    have hF : ∀ k ∈ F', ∀ o, S k o = none := fun k hk => (m3.own k hk).2.1
    have hs3 := m1.sealX hF
    have hD : A.areD (es ++ ys) = true := A.areD_app c5 c6
    have hrep := m3.shut (kH hF) (by simp only [A.live]; exact A.lives_areD hD) (fun k hk o => by unfold zB; rw [if_pos hk])
    simp only [A.shut] at hrep
    rw [A.shuts_areD hD] at hrep
    have ⟨Fp'', hs'⟩ := xY hs3 e2 (x := .d (.sl f.size false (es ++ ys))) (v := zL (.osl f.size false (es ++ ys)) cs') (by
     simp only [TOk, yY]
     exact ⟨cs', hrep, rfl⟩)
    exact zm (fin _ _ (by rw [es1, ev]; exact hrun)) hs'
  ·cases e2
 ·cases e2
def zaE (d : Nat) (o : Oper) : Option (Nat × Operand × Operand) := match o.op with | .call ⟨.builtin .append, ⟨[s, x]⟩, ⟨[t, t']⟩⟩ => if o.dst = some d then (if t' = t then some (t, s, x) else none) else none | _ => none
def xAp (hT : wl P tt) (d : Nat) : XH P :=
 xAt P (zaE d) (fun n o q => apO tt n o.dst q.1 q.2.1 q.2.2) (fun n o q => apH tt n o.dst q.1 q.2.1 q.2.2)
  (by
   intro C S Fp st a w o q hp h u R U e
   unfold zaE at hp
   split at hp
   ·rename_i ho
    replace hp := z5u hp
    split at hp
    ·rename_i ht; subst ht; cases hp; exact za1 hT h ho e
    ·cases hp
   ·cases hp)
  (fun n o q => Loc.apO _ _ _ _ _ _) (fun n o q => zb7 _ _ _ _ _ _)
theorem apM {α : Type} (f : α → A) [z4m f] {l m : List α} (h : l.length + m.length ≤ 4294967296) : (l.map f).length + (m.map f).length ≤ lim ∧ A.areD (l.map f) = true ∧ A.areD (m.map f) = true := ⟨by simpa [lim] using h, dM f l, dM f m⟩
variable {r : A}{fn : Func}
theorem z5e {tt : TT}   {body : Code} {nt t : Nat} (is : List Nat) {args caps xs : List A} {vals : List Value} {r : A} {ys : List A} (hT : wl P tt) (hf : P.funcs[k]? = some fn) (hnm : (fn.name == "runtime.NumGoroutine") = false) (hb : fn.body = some body)
  (hn : nt = fn.ntmps) (hr : fn.results = #[.tmp t]) (ha : (args ++ caps).length ≤ fn.ntmps) (hnd : is.Nodup) (hbase : is.map (fun i => (args ++ caps)[i]?) = vals.map (fun v => some (.atom v))) (hl : xs.length = vals.length) (hrd : r.isD = true) (hrn : kW tt 0 r = r)
  (h : ∀ E : Exit → St → Prop, (∀ ex st, (ex = .normal ∨ ex = .ret) → (∀ p ∈ is.zip ys, (st p.1).t = .own p.2) → (st t).t = .d r → E ex st) →
   AWP P ⟨nt, is.zip vals⟩ body (ofL (z2m 0 (Xr (args ++ caps) is xs))) (Qf P ⟨nt, is.zip vals⟩ [] E)) (hy : is.length = ys.length) : u4 P (.fn k caps) args (vals.zip xs) r ys := by
 subst hn
 refine Uh (tt := tt) (rs := [(t, none)]) is hT hf hnm hb hr ha hnd hbase hl ?_
 rw [z1y]
 refine h _ ?_
 intro ex st hx hc hrt
 refine ⟨hx, ?_⟩
 have h2 := U0 hy hc
 have hop : opnd (.tmp t) st = some (.d r, [t], []) := by
  simp [opnd, hrt, bind, SM.bind, rdE, pure, SM.pure, List.append_nil]
 have hsh : shutT tt 0 (.d r) st = some (r, [], []) := by
  have : shutT tt 0 (.d r) = pure r := by
   cases r <;> first | (simp [A.isD] at hrd; done) | (simp [shutT, hrn, A.shut_isD hrd]) | skip
  rw [this]; rfl
 have h1 : shutArgs tt [(Operand.tmp t, 0)] st = some ([r], [t], []) := by
  simp [shutArgs, bind, SM.bind, hop, zf, hsh, pure, SM.pure, List.append_nil]
 refine ⟨[t] ++ (is ++ []), [], ?_⟩
 simp [z92, List.map_cons, List.map_nil, bind, SM.bind, h1, zf, h2, uw, Option.map_some, pure, SM.pure, z9z, List.append_nil]
variable {l : List (Nat × T)}
theorem zbb {live : List Nat}   (hc : canon live st = ofL l)   (hk : live.contains k = true) (hy : (ofL l k).t = .d y) : (st k).t = .d y := by
 have := congrFun hc k
 rw [j6, if_pos (List.contains_iff_mem.1 hk)] at this
 rw [← this] at hy
 unfold z4i at hy
 cases hx : (st k).t with
 | own a => simp only [hx] at hy; cases hy
 | d a => simpa only [hx] using hy
 | gone => simp only [hx] at hy; cases hy
 | _ => simp only [hx] at hy; split at hy <;> cases hy
def YO (x : List UInt8) : A := .atom (.string ⟨x.toArray⟩)
def u8s (l : List Int) : List UInt8 := l.map fun n => UInt8.ofNat n.toNat
def ZV : List A → Option (List Int)
 | [] => some []
 | .atom (.int .u8 n) :: as_ => (ZV as_).map (n :: ·)
 | _ => none
theorem QC : ∀ l : List Int, ZV (l.map (eI .u8)) = some l
 | [] => rfl
 | n :: l => by simp [List.map_cons, eI, ZV]; rw [show l.map (eI .u8) = l.map (eI .u8) from rfl]; simp [QC l]
theorem Ux : ∀ {as_ : List A} {ns : List Int} {cs : List Value}, ZV as_ = some ns → yc S as_ cs → cs = ns.map (Value.int .u8) ∧ as_.length = ns.length
 | [], ns, cs, h, r => by simp [ZV, Option.some.injEq] at h; subst h; simp [yc] at r; subst r; exact ⟨rfl, rfl⟩
 | a :: as_, ns, cs, h, r => by
  unfold ZV at h
  split at h
  ·cases ‹_ = []›
  ·rename_i n as' e
   cases e
   obtain ⟨ms, h1, rfl⟩ := Option.map_eq_some_iff.1 h
   simp [yc] at r
   obtain ⟨c1, c2, rfl, r1, r2⟩ := r
   simp [Rep] at r1
   have ⟨q1, q2⟩ := Ux h1 r2
   obtain ⟨rfl, _⟩ := r1
   subst q1
   exact ⟨rfl, by simp [q2]⟩
  ·cases h
theorem z1K : ∀ {as_ : List A} {ns : List Int}, ZV as_ = some ns → A.areD as_ = true
 | [], _, _ => rfl
 | a :: as_, ns, h => by
  unfold ZV at h
  split at h
  ·cases ‹_ = []›
  ·rename_i n as' e
   cases e
   obtain ⟨ms, h1, rfl⟩ := Option.map_eq_some_iff.1 h
   simp [A.areD, A.isD, z1K h1, Bool.and_self]
  ·cases h
theorem Ql : ∀ (ns : List Int) (s : List UInt8), ns.foldl (fun r n => r.push (UInt8.ofNat n.toNat)) (⟨s.toArray⟩ : ByteArray) = ⟨(s ++ u8s ns).toArray⟩
 | [], s => by simp [u8s]
 | n :: ns, s => by
  rw [List.foldl_cons]
  have : (⟨s.toArray⟩ : ByteArray).push (UInt8.ofNat n.toNat) = ⟨(s ++ [UInt8.ofNat n.toNat]).toArray⟩ := by simp [ByteArray.push]
  rw [this, Ql ns]
  simp [u8s]
def z9p (P : Program) (s d : Nat) : Prop := ∃ e, P.underlying s = some (.slice e) ∧ P.underlying e = some (.int .u8) ∧ P.underlying d = some .string
theorem z6T {s d e : Nat} (h1 : P.underlying s = some (.slice e)) (h2 : P.underlying e = some (.int .u8)) (h3 : P.underlying d = some .string) : z9p P s d := ⟨e, h1, h2, h3⟩
def strO (n : Fr) (dst : Option Nat) (x : Operand) : SM Unit := do
 let tx ← opnd x
 let y ← peek tx
 match y with
 | .sl _ _ ys | .osl _ _ ys => ofO ((ZV ys).map fun ns => YO (u8s ns)) >>= fun r => wrT n dst (.d r)
 | _ => zn
def zao (n : Fr) (dst : Option Nat) (x : Operand) : HM Unit := ya (opnd x) >>= fun tx => z0u tx >>= fun y =>
 match y with
 | .sl _ _ ys | .osl _ _ ys => z1L ((ZV ys).map fun ns => YO (u8s ns)) >>= fun r => ya (wrT n dst (.d r))
 | _ => zA
theorem z9E (n : Fr) (dst : Option Nat) (x : Operand) : Snd (strO n dst x) (zao n dst x) := by
 refine zb (zj _) fun tx => zb (Qg _) fun y => ?_
 cases y with
 | sl sz t ys => exact zb (Xs _) fun _ => zj _
 | osl sz t ys => exact zb (Xs _) fun _ => zj _
 | _ => exact zl _
theorem Loc.strO (n : Fr) (dst : Option Nat) (x : Operand) : Loc (strO n dst x) := by
 unfold Go.Own.strO
 refine Loc.bind (Loc.opnd _) fun _ => Loc.bind (Loc.peek _) fun _ => ?_
 split
 ·exact Loc.bind (Loc.ofO _) fun _ => Loc.wrT _ _ _
 ·exact Loc.bind (Loc.ofO _) fun _ => Loc.wrT _ _ _
 ·exact Loc.fail
theorem z8x {P : Program}       (h : Sim C S Fp [] st a w)   {x : Operand} (hs : z9p P s t) (ho : o.op = .convert s t x)    (e0 : strO C.n o.dst x st = some (u, R, U)) : ui P C o a w (zf U st) := by
 unfold strO at e0
 obtain ⟨tx, R1, U1, R2, U2, h1, e1, rfl, rfl⟩ := bind_some e0
 obtain ⟨rfl, hx⟩ := zz h h1
 obtain ⟨y, R3, U3, R4, U4, h3, e2, rfl, rfl⟩ := bind_some e1
 obtain ⟨rfl, q⟩ := Wa h hx h3
 simp [zf, List.nil_append] at e2 ⊢
 have ⟨el, k1, k2, k3⟩ := hs
 have main : ∀ (sz : Nat) (ys : List A), ((∃ tg, y = .sl sz tg ys) ∨ ∃ tg, y = .osl sz tg ys) → (ofO ((ZV ys).map fun ns => YO (u8s ns)) >>= fun r => wrT C.n o.dst (.d r)) st = some (u, R4, U4) → ui P C o a w (zf U4 st) := by
  intro sz ys hy e3
  obtain ⟨r, R5, U5, R6, U6, h5, e4, rfl, rfl⟩ := bind_some e3
  obtain ⟨hm, rfl, rfl⟩ := qY h5
  simp [zf, List.nil_append] at e4 ⊢
  obtain ⟨ns, hn, rfl⟩ := Option.map_eq_some_iff.1 hm
  have ⟨p, d, news, ev, r1, r2, r3⟩ := VK h hy (z1K hn) q
  obtain ⟨rfl, hl⟩ := Ux hn r1
  have ⟨Fp', hs'⟩ := xY h e4 (x := .d (YO (u8s ns))) (v := .string ⟨(u8s ns).toArray⟩) (zr.2 ⟨rfl, rfl⟩)
  refine zm ?_ hs'
  have hrun : (convert s t (a.eval x)).run P w = .ok (.string ⟨(u8s ns).toArray⟩) w := by
   rw [ev, run_convert_bytes_string w s t el p ys.length d k1 k2 k3]
   rcases r3 with ⟨rfl, hnil⟩ | ⟨ad, rfl, hc⟩
   ·have : ns = [] := by simpa using hnil
    subst this
    cases p with
    | none => rfl
    | some ad =>
     rw [run_bytesToString w ad _ d [] (by simpa using run_loadCells_list w ad [] (by simp))]
     rfl
   ·have hlc := run_loadCells_list (P := P) w ad _ hc
    rw [List.length_map, ← hl] at hlc
    rw [run_bytesToString w ad _ d ns hlc]
    have := Ql ns []
    simp [List.nil_append] at this
    exact congrArg (fun z => Result.ok (Value.string z) w) this
  simp [execOp, ho, hrun]
 cases y with
 | sl sz tg ys => exact main sz ys (.inl ⟨tg, rfl⟩) e2
 | osl sz tg ys => exact main sz ys (.inr ⟨tg, rfl⟩) e2
 | _ => cases e2
def z8V (s t : Nat) (o : Oper) : Option Operand := match o.op with | .convert s' t' x => if s' = s ∧ t' = t then some x else none | _ => none
def zaR (P : Program)  (hs : z9p P s t) : XH P :=
 xAt P (z8V s t) (fun n o x => strO n o.dst x) (fun n o x => zao n o.dst x)
  (by
   intro C S Fp st a w o x hp h u R U e
   unfold z8V at hp
   split at hp
   ·rename_i ho
    split at hp
    ·rename_i ht; obtain ⟨rfl, rfl⟩ := ht; cases hp; exact z8x h hs ho e
    ·cases hp
   ·cases hp)
  (fun n o x => Loc.strO _ _ _) (fun n o x => z9E _ _ _)
theorem stM (l : List Int) : ((ZV (l.map (eI .u8))).map fun ns => YO (u8s ns)) = some (YO (u8s l)) := by rw [QC]; rfl
def Jn : A → Bool
 | .atom (.string _) => true
 | _ => false
theorem kV {a : A} (h : Jn a = true) : ∃ x, a = .atom (.string x) := by
 unfold Jn at h
 split at h
 ·exact ⟨_, rfl⟩
 ·cases h
instance : zaL (K := List UInt8) YO := ⟨fun x y => by
 simp only [YO, Uj, z1x, Option.map_some, Option.some.injEq, zL, List.headD_cons, Value.string.injEq, ByteArray.mk.injEq, beq_iff_eq]
 constructor
 ·intro h; simpa using congrArg Array.toList h
 ·rintro rfl; rfl⟩
theorem z3W (x y : ByteArray) : (x == y) = true ↔ x = y := by
 cases x; cases y
 rw [ByteArray.mk.injEq]
 rename_i a b
 show (a == b) = true ↔ a = b
 exact beq_iff_eq
theorem z52 {t kt et : Nat} {z : A} (hu : P.underlying t = some (.map kt et)) (hk : P.underlying kt = some .string) (hz : ∃ zv, (∀ w, (zeroValue et).run P w = .ok zv w) ∧ ∀ S, vw S z zv) (zd : z.isD = true) : z7U P t kt et Jn z := {
 und := hu
 zero := hz
 zd := zd
 key := fun a h => by obtain ⟨x, rfl⟩ := kV h; exact ⟨_, rfl⟩
 check := fun a kv e w h hv => by
  obtain ⟨x, rfl⟩ := kV h
  cases hv
  show (Instr.checkKey e (9999 + 1) kt _).run P w = _
  generalize 9999 = q
  unfold Instr.checkKey
  simp only [Sem.run_bind, run_underlying hk, Result.andThen_ok]
  simp
 bits := fun a kv h hv => by
  obtain ⟨x, rfl⟩ := kV h
  cases hv
  simp [zL, Instr.sameBits, (z3W x x).2 rfl]
 find := fun a kv h hv ents es hes hall w => by
  obtain ⟨x, rfl⟩ := kV h
  cases hv
  have gen : ∀ (ents : List MapEntry) (es : List (A × A)) (i : Nat), (∀ p ∈ es, Jn p.1 = true) → ke (fun p (e : MapEntry) => Uj p.1 = some e.key) es ents → Instr.findNow .string (.string x) ents i = some (Us (.string x) ents i) := by
   intro ents
   induction ents with
   | nil => intro es i _ _; rfl
   | cons e ents ih =>
    intro es i h1 h2
    cases es with
    | nil => exact h2.elim
    | cons p es =>
     have ⟨y, hy⟩ := kV (h1 p (by simp))
     have hk2 : e.key = .string y := by
      have : Uj p.1 = some e.key := h2.1
      rw [hy] at this
      simp only [Uj, z1x, Option.map_some, Option.some.injEq, zL, List.headD_cons] at this
      exact this.symm
     simp only [Instr.findNow, Us, hk2, Instr.sameNow, Value.string.injEq]
     by_cases hxy : x = y
     ·subst hxy; rw [(z3W x x).2 rfl]; simp
     ·rw [if_neg (Ne.symm hxy), show (x == y) = false by cases hb : x == y with | false => rfl | true => exact absurd ((z3W x y).1 hb) hxy]
      exact ih es (i + 1) (fun p hp => h1 p (by simp [hp])) h2.2
  simp only [Instr.findKey, Sem.run_bind, run_underlying hk, Result.andThen_ok, zL, List.headD_cons, gen ents es 0 hes hall, Sem.run_pure] }
mutual
def A.indep : A → Bool
 | .atom _ => true
 | .fn _ caps => A.indeps caps
 | .agg fs => A.indeps fs
 | .osl _ _ es => A.indeps es
 | .box x => x.indep
 | .dead _ => true
 | .sl _ _ xs => xs.isEmpty
 | _ => false
def A.indeps : List A → Bool
 | [] => true
 | a :: as_ => a.indep && A.indeps as_
end
mutual
theorem Rep.indep {S S' : zi} : ∀ {a : A} {cs : List Value}, a.indep = true → Rep S a cs → Rep S' a cs
 | .atom _, _, _, r => by simpa only [Rep] using r
 | .fn _ caps, _, h, r => by
  simp only [A.indep] at h
  simp only [Rep] at r ⊢
  obtain ⟨vs, h1, h2, h3⟩ := r
  exact ⟨vs, yc.indep h h1, h2, h3⟩
 | .agg fs, _, h, r => by simp only [A.indep] at h; simp only [Rep] at r ⊢; exact yc.indep h r
 | .sl _ _ xs, _, h, r => by
  simp only [A.indep, List.isEmpty_iff] at h
  subst h
  simp only [Rep] at r ⊢
  obtain ⟨p, c, h1, h2, h3, h4, _⟩ := r
  exact ⟨p, c, h1, h2, h3, h4, .inl trivial⟩
 | .sptr _, _, h, _ => by simp [A.indep] at h
 | .dop _, _, h, _ => by simp [A.indep] at h
 | .tup _, _, _, r => by simp only [Rep] at r
 | .osl _ _ _, _, _, r => by simp only [Rep] at r
 | .box _, _, _, r => by simp only [Rep] at r
 | .dead _, _, _, r => by simp only [Rep] at r
 | .opq _, _, _, r => by simp only [Rep] at r
theorem yc.indep {S S' : zi} : ∀ {as_ : List A} {cs : List Value}, A.indeps as_ = true → yc S as_ cs → yc S' as_ cs
 | [], _, _, r => by simpa only [yc] using r
 | a :: as_, _, h, r => by
  simp only [A.indeps, Bool.and_eq_true] at h
  simp only [yc] at r ⊢
  obtain ⟨c1, c2, e, r1, r2⟩ := r
  exact ⟨c1, c2, e, Rep.indep h.1 r1, yc.indep h.2 r2⟩
end
mutual
theorem zy.indep {S S' : zi}  : ∀ {a : A} {cs : List Value} {F : List Nat}, a.indep = true → zy S h a cs F → (∀ k ∈ F, ∀ o, S' k o = none) → zy S' h a cs F
 | .osl sz t es, _, _, hi, r, hF => by
  simp only [A.indep] at hi
  simp only [zy] at r ⊢
  obtain ⟨p, c, e, h1, h2, h3, h4, h5⟩ := r
  refine ⟨p, c, e, h1, h2, h3, h4, ?_⟩
  rcases h5 with h5 | ⟨b, arr, ty, l, F', e1, e2, e3, e4, e5, rfl, e7⟩
  ·exact .inl h5
  ·exact .inr ⟨b, arr, ty, l, F', e1, e2, e3, e4, zx.indep hi e5 (fun k hk => hF k (by simp [hk])), rfl, hF b (by simp)⟩
 | .box x, _, _, hi, r, hF => by
  simp only [A.indep] at hi
  simp only [zy] at r ⊢
  obtain ⟨b, ty, l, F', e, e1, e2, rfl, e4⟩ := r
  exact ⟨b, ty, l, F', e, e1, zy.indep hi e2 (fun k hk => hF k (by simp [hk])), rfl, hF b (by simp)⟩
 | .agg fs, _, _, hi, r, hF => by simp only [A.indep] at hi; simp only [zy] at r ⊢; exact zx.indep hi r hF
 | .dead _, _, _, _, r, _ => by simpa only [zy] using r
 | .opq _, _, _, hi, _, _ => by simp [A.indep] at hi
 | .atom _, _, _, hi, r, _ => by simp only [zy] at r ⊢; exact ⟨Rep.indep hi r.1, r.2⟩
 | .fn _ _, _, _, hi, r, _ => by simp only [zy] at r ⊢; exact ⟨Rep.indep hi r.1, r.2⟩
 | .sl _ _ _, _, _, hi, r, _ => by simp only [zy] at r ⊢; exact ⟨Rep.indep hi r.1, r.2⟩
 | .sptr _, _, _, hi, _, _ => by simp [A.indep] at hi
 | .dop _, _, _, hi, _, _ => by simp [A.indep] at hi
 | .tup _, _, _, _, r, _ => by simp only [zy] at r
theorem zx.indep {S S' : zi}  : ∀ {as_ : List A} {cs : List Value} {F : List Nat}, A.indeps as_ = true → zx S h as_ cs F → (∀ k ∈ F, ∀ o, S' k o = none) → zx S' h as_ cs F
 | [], _, _, _, r, _ => by simpa only [zx] using r
 | a :: as_, _, _, hi, r, hF => by
  simp only [A.indeps, Bool.and_eq_true] at hi
  simp only [zx] at r ⊢
  obtain ⟨c1, c2, F1, F2, e1, rfl, r1, r2⟩ := r
  exact ⟨c1, c2, F1, F2, e1, rfl, zy.indep hi.1 r1 (fun k hk => hF k (by simp [hk])), zx.indep hi.2 r2 (fun k hk => hF k (by simp [hk]))⟩
end
theorem yY.indep {S S' : zi} {a : A}  (h : a.indep = true) (q : yY S a v) : yY S' a v := by
 cases a <;> first
  | (simp [A.indep] at h; done)
  | (simp only [yY, vw] at q ⊢; obtain ⟨cs, q1, q2⟩ := q; exact ⟨cs, Rep.indep h q1, q2⟩)
def z1z : T → Bool
 | .gone => true
 | .d y => y.indep
 | .own y => y.indep
 | _ => false
def KP (r : Nat) (l : List (Nat × T)) : Prop := ∀ t, t ≠ r → z1z (ofL l t).t = true
theorem z3T (r : Nat) {x x' : A} (hr : (st r).t = .own x) (hx : x.live = true ∧ x.shut = x') {rd : Option Nat} {df : List Nat} {w0 : World} {S0 : zi} {M : Nat → Prop} {S : zi}    (hc : Vn ⟨n, df, w0, S0, M⟩ rd) (hs : Sim ⟨n, df, w0, S0, M⟩ S Fp [] st a w) :
  Vn ⟨n, df, w, zB S w.heap (Fp r), WP (Zh Fp r []) w⟩ rd ∧ Sim ⟨n, df, w, zB S w.heap (Fp r), WP (Zh Fp r []) w⟩ (zB S w.heap (Fp r)) (Zh Fp r []) [] (upd st r ⟨.d x', (st r).er, (st r).ec + 1⟩) a w ∧
  ∀ {l : List (Nat × T)} {live : List Nat} {v : Value} {df2 : List Nat} {st2 : St} {S2 : zi} {Fp2 : Nat → List Nat} {a' : Act} {w' : World}, WN n.pin r = some v → KP r l → (ofL l r).t = .d x' → Own.canon live st2 = ofL l →
   Sim ⟨n, df2, w, zB S w.heap (Fp r), WP (Zh Fp r []) w⟩ S2 Fp2 [] st2 a' w' → uQ df (WP (Zh Fp r []) w) df2 Fp2 w' → ∃ S3 Fp4, Sim ⟨n, df2, w0, S0, M⟩ S3 Fp4 [] (upd (ofL l) r ⟨.own x, 0, 0⟩) a' w' ∧ uQ df M df2 Fp4 w' := by
 obtain ⟨hx, rfl⟩ := hx
 have hq := hs.ent r
 unfold yG at hq
 simp only [hr] at hq
 obtain ⟨cs, c1, c2, c3⟩ := hq
 have hFn : ∀ k ∈ Fp r, ∀ o, S k o = none := fun k hk => (hs.free r k hk).2.1
 have hFs : ∀ k ∈ Fp r, k < w.heap.size := fun k hk => (hs.free r k hk).1
 have hmono := kH (S := S) (h := w.heap) hFn
 have hrep := c1.shut (S' := zB S w.heap (Fp r)) hmono hx (fun k hk o => by unfold zB; rw [if_pos hk])
 have hr1 : vw (zB S w.heap (Fp r)) x.shut (Act.tv a r) := ⟨cs, hrep, by rw [Yw]; exact c3⟩
 have hs1 : Sim ⟨n, df, w0, S0, M⟩ (zB S w.heap (Fp r)) (Zh Fp r []) [] (upd st r ⟨.d x.shut, (st r).er, (st r).ec + 1⟩) a w := by
  refine hs.change r (.d x.shut) _ _ [] hs.below hmono ?_ ?_ ?_ ⟨hr1.repV, rfl⟩ (.inl ⟨x, hr⟩) (Nat.le_refl _) (Nat.lt_succ_self _) (by simp) (by simp) (by simp) (by simp) (by simp) (by simp)
  ·intro b o u q
   unfold zB at q
   split at q
   ·exact q
   ·exact hs.still b o u q
  ·intro b o hb
   unfold zB
   rw [if_neg (fun q => hb (hs.base r b q))]
   exact hs.sbase b o hb
  ·intro t k ht hk
   refine ⟨rfl, fun o => ?_⟩
   unfold zB
   rw [if_neg (fun q => ht (hs.disj t r k hk q))]
   exact (hs.free t k hk).2.1 o
 have hcr := hc.rebase hs1 (hc.post hs1)
 have hown : ∀ k, WP (Zh Fp r []) w k → M k := Zu hs1
 have hoff : ∀ k, WP (Zh Fp r []) w k → k ∉ Fp r := by
  rintro k (hk | ⟨t, hk⟩) hq
  ·have := hFs k hq; omega
  ·unfold Zh at hk
   split at hk
   ·cases hk
   ·rename_i ht
    exact ht (hs.disj t r k hk hq)
 refine ⟨hcr, hs1.rebase, ?_⟩
 intro l live v df2 st2 S2 Fp2 a' w' hp hi hl hcan h2 hd2
 obtain ⟨Fp3, h3, hd3⟩ := Sim.canonD h2 hd2 live
 rw [hcan] at h3
 let S3 : zi := fun b o => if b ∈ Fp r then none else S2 b o
 have hS3 : ∀ b o u, S b o = some u → S3 b o = some u := by
  intro b o u q
  have hb : b ∉ Fp r := fun k => by rw [hFn b k o] at q; cases q
  show (if b ∈ Fp r then none else S2 b o) = some u
  rw [if_neg hb]
  exact h3.sinc b o u (hmono b o u q)
 have hS3n : ∀ k ∈ Fp r, ∀ o, S3 k o = none := fun k hk o => by show (if k ∈ Fp r then none else S2 k o) = none; rw [if_pos hk]
 have hS3m : ∀ k o, S2 k o = none → S3 k o = none := fun k o q => by
  show (if k ∈ Fp r then none else S2 k o) = none
  split
  ·rfl
  ·exact q
 have hheap : ∀ k ∈ Fp r, w'.heap[k]? = w.heap[k]? := fun k hk => h3.below.block k (fun q => hoff k q hk)
 have htv : Act.tv a' r = Act.tv a r := by rw [hs.pin r v (vQ hp), h3.pin r v (vQ hp)]
 have hfr : ∀ t k, t ≠ r → k ∈ Fp3 t → k ∉ Fp r := fun t k ht hk => hoff k (h3.base t k hk)
 refine ⟨S3, Zh Fp3 r (Fp r), ?_, ?_⟩
 ·refine { size := h3.size, pin := h3.pin, defers := h3.defers, below := hs.below.trans (h3.below.mono hown), mine := hs.mine, still := ?_, sinc := fun b o u q => hS3 b o u (hs.sinc b o u q), sbase := ?_, ent := ?_, disj := ?_, base := ?_, xn := by simp, xd := by simp, xb := by simp }
  ·refine ⟨?_, Gok.mono hS3 hs.still.gok, hs.still.blk.of hS3 fun g x e => h3.below.block g (h3.mine.far g x e)⟩
   intro b o u q
   have q' : (if b ∈ Fp r then none else S2 b o) = some u := q
   split at q'
   ·cases q'
   ·exact h3.still b o u q'
  ·intro b o hb
   have hb1 : b ∉ Fp r := fun q => hb (hs.base r b q)
   show (if b ∈ Fp r then none else S2 b o) = S0 b o
   rw [if_neg hb1, h3.sbase b o (fun q => hb (hown b q))]
   show zB S w.heap (Fp r) b o = S0 b o
   unfold zB
   rw [if_neg hb1]
   exact hs.sbase b o hb
  ·intro t
   by_cases ht : t = r
   ·subst ht
    rw [xZ]
    unfold yG Zh
    simp only [if_true]
    refine ⟨cs, c1.frame hS3 (fun k hk => ⟨hheap k hk, hS3n k hk⟩), c2, by rw [htv]; exact c3⟩
   ·rw [jC _ _ ht]
    have q := h3.ent t
    have hie := hi t ht
    unfold yG at q ⊢
    unfold Zh
    rw [if_neg ht]
    cases hT : (ofL l t).t with
    | gone => simp only [hT] at q ⊢; exact q
    | d y => simp only [hT] at q hie ⊢; exact ⟨yY.indep hie q.1, q.2⟩
    | own y =>
     simp only [hT] at q hie ⊢
     obtain ⟨cs', d1, d2, d3⟩ := q
     exact ⟨cs', zy.indep hie d1 (fun k hk o => hS3m k o ((h3.free t k hk).2.1 o)), d2, d3⟩
    | _ => rw [hT] at hie; cases hie
  ·intro t u k hk hk'
   unfold Zh at hk hk'
   split at hk <;> split at hk'
   ·rename_i e1 e2; rw [e1, e2]
   ·rename_i e1 e2; exact absurd hk (hfr u k e2 hk')
   ·rename_i e1 e2; exact absurd hk' (hfr t k e1 hk)
   ·exact h3.disj t u k hk hk'
  ·intro t k hk
   unfold Zh at hk
   split at hk
   ·exact hs.base r k hk
   ·exact hown k (h3.base t k hk)
 ·refine ⟨hd3.nodup, hd3.ent, ?_, fun D hD => (hd3.old D hD).imp id (hown D)⟩
  intro D hD t hk
  unfold Zh at hk
  split at hk
  ·rcases hd3.old D hD with q | q
   ·exact (hc.df D q).1 (hs.base r D hk)
   ·exact hoff D q hk
  ·exact hd3.off D hD t hk
theorem z3Z {P : Program}  {c a b y : Code} {Q : Exit → St → Prop} {fs : List Fm} (e : c = .seq (.seq a b) y) (r : Nat)  {x x' : A} {l0 : List (Nat × T)} (live0 live : List Nat) (l0' l l2 : List (Nat × T)) (hr : (ofL l0 r).t = .own x) (hx : x.live = true ∧ x.shut = x') (hp : WN n.pin r = some v)
  (hc0 : Own.canon live0 (upd (ofL l0) r ⟨.d x', (ofL l0 r).er, (ofL l0 r).ec + 1⟩) = ofL l0') (hi : KP r l) (hl : (ofL l r).t = .d x') (hc2 : Own.canon live (upd (ofL l) r ⟨.own x, 0, 0⟩) = ofL l2)
  (h1 : AWP P n a (ofL l0') (Qf P n [] (fun ex st1 => ex = .normal ∧ AWP P n b st1 (Qf P n [] (fun ex st2 => ex = .normal ∧ Own.canon live st2 = ofL l)))))
  (h2 : AWP P n y (ofL l2) (Qf P n fs Q)) : AWP P n c (ofL l0) (Qf P n fs Q) := by
 subst e
 intro rd m df w0 S0 M S Fp ac w hc hs
 obtain ⟨b1, b2, b3⟩ := z3T r hr hx hc hs
 have h1' : AWP P n a (upd (ofL l0) r ⟨.d x', (ofL l0 r).er, (ofL l0 r).ec + 1⟩) (Qf P n [] (fun ex st1 => ex = .normal ∧ AWP P n b st1 (Qf P n [] (fun ex st2 => ex = .normal ∧ Own.canon live st2 = ofL l)))) := AWP.canon live0 (by rw [hc0]; exact h1)
 refine wpIn_seq (wpIn_seq (wpIn_mono (h1' rd m df w _ _ _ _ ac w b1 b2) ?_))
 rintro ex a1 w1 ⟨df1, st1, S1, Fp1, g1, g2, rfl, hB⟩
 refine wpIn_mono (AWP.go hB b1 g1 g2) ?_
 rintro ex a2 w2 ⟨df2, st2, S2, Fp2, k1, k2, rfl, hcan⟩
 obtain ⟨S3, Fp4, q1, q2⟩ := b3 hp hi hl hcan k1 k2
 exact AWP.go (AWP.canon live (by rw [hc2]; exact h2)) hc q1 q2
theorem inN {r : Nat} : KP r [] := fun _ _ => rfl
theorem inE {r k : Nat} {x : T}  (h : k = r ∨ z1z x = true) (hl : KP r l) : KP r ((k, x) :: l) := by
 intro t ht
 simp only [ofL]
 split
 ·rename_i e
  rcases h with h | h
  ·exact absurd (by omega) ht
  ·exact h
 ·exact hl t ht
theorem inB (sz : Nat) (t : Bool) (k : IntKind) (l : List Int) : z1z (.own (.box (eOs sz t (eI k) l))) = true := by
 have : A.indeps (l.map (eI k)) = true := by
  induction l with
  | nil => rfl
  | cons x l ih => simp only [List.map_cons, A.indeps, ih, Bool.and_true]; rfl
 simpa only [z1z, A.indep, eOs] using this
theorem z9M {id : Nat}  (h : Q .normal st) : Qf P n [.blk id] Q .normal st := h
section
variable {α : Type}
def eOp (sz : Nat) (f : α → A) : Option α → A
 | some x => f x
 | none => .dead sz
theorem opL (sz : Nat) (f : α → A) (l : List α) : (l.map some).map (eOp sz f) = l.map f := by rw [List.map_map]; rfl
instance LeA.opF (s z : Nat) (b : Bool) (f : α → A) (l : List α) : LeA (eOs s b f l) (eOs s false (eOp z f) (l.map some)) := by
 unfold eOs; rw [opL]; exact LeA.osl _ _ _ _
instance SzA.opS {β : Type} (s s' : Nat) (b b' : Bool) (f : α → A) (g : β → A) (l : List α) (l' : List β) : SzA (eOs s b f l) (eOs s' b' g l') := ⟨rfl⟩
theorem iMo (sz : Nat) (f : α → A) {l : List (Option α)} {i : Int} {u : Option α} {y : α} (h : idx l i = some u) (h2 : u = some y) : (l.map (eOp sz f))[i.toNat]? = some (f y) := by
 subst h2
 exact iM (eOp sz f) h
theorem sMn (sz : Nat) (f : α → A) (l : List (Option α)) (i : Int) : (l.map (eOp sz f)).set i.toNat (.dead sz) = (l.set i.toNat none).map (eOp sz f) := sM (eOp sz f) l i none
end
theorem z1F : ∀ {fs : List A} {l : List Value} {F : List Nat} {i : Nat} {y : A}, zx S h fs l F → fs[i]? = some y → ∃ ci Fi, zy S h y ci Fi ∧ (∀ k ∈ Fi, k ∈ F) ∧ ∀ j v, ci[j]? = some v → l[A.sizes (fs.take i) + j]? = some v
 | [], _, _, i, y, _, e => by simp at e
 | x :: fs, l, F, 0, y, h, e => by
  simp only [List.getElem?_cons_zero, Option.some.injEq] at e
  subst e
  simp only [zx] at h
  obtain ⟨c1, c2, F1, F2, rfl, rfl, h1, h2⟩ := h
  refine ⟨c1, F1, h1, fun k hk => by simp [hk], fun j v hj => ?_⟩
  simp only [List.take_zero, A.sizes, Nat.zero_add]
  rw [List.getElem?_append_left (List.getElem?_eq_some_iff.1 hj).1]
  exact hj
 | x :: fs, l, F, i + 1, y, h, e => by
  simp only [zx] at h
  obtain ⟨c1, c2, F1, F2, rfl, rfl, h1, h2⟩ := h
  obtain ⟨ci, Fi, g1, g2, g3⟩ := z1F (i := i) h2 (by simpa using e)
  refine ⟨ci, Fi, g1, fun k hk => by simp [g2 k hk], fun j v hj => ?_⟩
  simp only [List.take_succ_cons, A.sizes]
  rw [List.getElem?_append_right (by rw [h1.len]; omega), h1.len, show x.size + A.sizes (fs.take i) + j - x.size = A.sizes (fs.take i) + j by omega]
  exact g3 j v hj
section
variable {C : Ctx} {S : zi} {Fp : Nat → List Nat} {st : St} {a : Act} {w : World}
theorem Sim.retold (h : Sim C S Fp [] st a w) (k : Nat) (T' : T) (er ec : Nat) (hF : Fp k = []) (h1 : (st k).er ≤ er) (h2 : (st k).ec ≤ ec) (hT : match T' with | .als _ _ _ _ => True | _ => False) (ho : ∀ x, (st k).t ≠ .own x) (hd : ∀ x, (st k).t ≠ .d x)
  (he : ∀ st', st' = upd st k ⟨T', er, ec⟩ → yG S w.heap st' (Act.tv a) [] ⟨T', er, ec⟩ (Act.tv a k)) : Sim C S Fp [] (upd st k ⟨T', er, ec⟩) a w := by
 refine { size := h.size, pin := h.pin, defers := h.defers, below := h.below, mine := h.mine, still := h.still, sinc := h.sinc, sbase := h.sbase, ent := ?_, disj := h.disj, base := h.base, xn := h.xn, xd := h.xd, xb := h.xb }
 intro t
 by_cases ht : t = k
 ·subst ht
  rw [xZ, hF]
  exact he _ rfl
 ·rw [jC _ _ ht]
  have q := h.ent t
  unfold yG at q ⊢
  have als : ∀ {r p er' ec' v}, jm w.heap st (Act.tv a) r p er' ec' v → jm w.heap (upd st k ⟨T', er, ec⟩) (Act.tv a) r p er' ec' v := by
   intro r p er' ec' v q
   by_cases hr : r = k
   ·subst hr
    refine ⟨?_, ?_, ?_⟩
    ·rw [xZ]; exact Nat.le_trans q.1 h1
    ·rw [xZ]; exact Nat.le_trans q.2.1 h2
    ·rw [xZ]
     cases T' <;> first | exact hT.elim | trivial
   ·unfold jm
    rw [jC _ _ hr]
    exact q
  have ptr : ∀ {r p er' ec' v}, uN w.heap st (Act.tv a) r p er' ec' v → uN w.heap (upd st k ⟨T', er, ec⟩) (Act.tv a) r p er' ec' v := by
   intro r p er' ec' v q
   by_cases hr : r = k
   ·subst hr
    refine ⟨?_, ?_, ?_⟩
    ·rw [xZ]; exact Nat.le_trans q.1 h1
    ·rw [xZ]; exact Nat.le_trans q.2.1 h2
    ·rw [xZ]
     cases T' <;> first | exact hT.elim | trivial
   ·unfold uN
    rw [jC _ _ hr]
    exact q
  cases hx : (st t).t with
  | als r p er' ec' => simp only [hx] at q ⊢; exact ⟨q.1, als q.2⟩
  | ptr r p er' ec' => simp only [hx] at q ⊢; exact ⟨q.1, ptr q.2⟩
  | _ => simp only [hx] at q ⊢; exact q
def z9J (tt : TT) (t : Nat) (y0 s : A) : Bool := (s.size == y0.size) && (y0.isD && (s.isD && jP tt t s))
def rfM (r i k : Nat) (y : T) (e ek : Ent) : Option (List A × Nat × Bool × List A × Nat) :=
 match y, e.t, ek.t with
 | .ptr r' [.deref, .fld i', .idx j] er ec, .own (.box (.agg fs)), .als r'' [.deref, .fld i''] er2 ec2 =>
  if r' = r ∧ r'' = r ∧ i' = i ∧ i'' = i ∧ e.er = er ∧ e.ec = ec ∧ e.er = er2 ∧ e.ec = ec2 ∧ k ≠ r then
   match fs[i]? with
   | some (.osl sz tg es) => some (fs, sz, tg, es, j)
   | _ => none
  else none
 | _, _, _ => none
theorem z4S {r i k : Nat} {y : T} {e ek : Ent} {fs : List A}  {tg : Bool}  {j : Nat} (h : rfM r i k y e ek = some (fs, sz, tg, es, j)) :
  y = .ptr r [.deref, .fld i, .idx j] e.er e.ec ∧ e.t = .own (.box (.agg fs)) ∧ ek.t = .als r [.deref, .fld i] e.er e.ec ∧ k ≠ r ∧ fs[i]? = some (.osl sz tg es) := by
 unfold rfM at h
 split at h
 ·rename_i hot hkt
  split at h
  ·rename_i hc
   obtain ⟨rfl, rfl, rfl, rfl, rfl, rfl, h1, h2, hkr⟩ := hc
   split at h
   ·rename_i hfi
    simp only [Option.some.injEq, Prod.mk.injEq] at h
    obtain ⟨rfl, rfl, rfl, rfl, rfl⟩ := h
    exact ⟨rfl, hot, by rw [hkt, h1, h2], hkr, hfi⟩
   ·cases h
  ·cases h
 ·cases h
def rfK (tt : TT) (t r i k : Nat) (y : T) (s : A) (e ek : Ent) : SM Unit :=
 ofO (rfM r i k y e ek) >>= fun q => ofO q.2.2.2.1[q.2.2.2.2]? >>= fun y0 => if z9J tt t y0 s = true then wrE r ⟨.own (.box (.agg (q.1.set i (.osl q.2.1 q.2.2.1 (q.2.2.2.1.set q.2.2.2.2 s))))), e.er, e.ec + 1⟩ >>= fun _ => wrE k ⟨.als r [.deref, .fld i] e.er (e.ec + 1), ek.er + 1, ek.ec + 1⟩ else zn
def rfO (tt : TT) (dst : Option Nat) (t r i k : Nat) (x v : Operand) : SM Unit := do
 if dst = none then
  let y ← opnd x
  let z ← opnd v
  let s ← val z
  let e ← rdE r
  let ek ← rdE k
  rfK tt t r i k y s e ek
 else zn
def zaq (tt : TT) (t r i k : Nat) (y : T) (s : A) (e ek : Ent) : HM Unit :=
 ya (ofO (rfM r i k y e ek)) >>= fun q => z1L q.2.2.2.1[q.2.2.2.2]? >>= fun y0 => if z9J tt t y0 s = true then eqL (q.2.2.2.1.set q.2.2.2.2 s) >>= fun es' => ya (wrE r ⟨.own (.box (.agg (q.1.set i (.osl q.2.1 q.2.2.1 es')))), e.er, e.ec + 1⟩ >>= fun _ => wrE k ⟨.als r [.deref, .fld i] e.er (e.ec + 1), ek.er + 1, ek.ec + 1⟩) else zA
def rfH (tt : TT) (dst : Option Nat) (t r i k : Nat) (x v : Operand) : HM Unit :=
 if dst = none then ya (opnd x) >>= fun y => ya (opnd v) >>= fun z => VF z >>= fun s => ya (rdE r) >>= fun e => ya (rdE k) >>= fun ek => zaq tt t r i k y s e ek else zA
theorem zb0 (tt : TT) (dst : Option Nat) (t r i k : Nat) (x v : Operand) : Snd (rfO tt dst t r i k x v) (rfH tt dst t r i k x v) := by
 refine wX (zb (zj _) fun y => zb (zj _) fun z => zb (k7 _) fun s => zb (zj _) fun e => zb (zj _) fun ek => ?_) (zl _)
 unfold rfK zaq
 refine zb (zj _) fun q => zb (Xs _) fun y0 => wX ?_ (zl _)
 exact YI (zM _ fun es' => (wrE r ⟨.own (.box (.agg (q.1.set i (.osl q.2.1 q.2.2.1 es')))), e.er, e.ec + 1⟩ >>= fun _ => wrE k ⟨.als r [.deref, .fld i] e.er (e.ec + 1), ek.er + 1, ek.ec + 1⟩)).symm (zb (z0r _) fun _ => zj _)
theorem Loc.rfO (tt : TT) (dst : Option Nat) (t r i k : Nat) (x v : Operand) : Loc (rfO tt dst t r i k x v) := by
 unfold Go.Own.rfO
 refine Loc.ite (Loc.bind (Loc.opnd _) fun y => Loc.bind (Loc.opnd _) fun z => Loc.bind (Loc.val _) fun s => Loc.bind (Loc.rdE _) fun e => Loc.bind (Loc.rdE _) fun ek => ?_) Loc.fail
 unfold Go.Own.rfK
 exact Loc.bind (Loc.ofO _) fun _ => Loc.bind (Loc.ofO _) fun _ => Loc.ite (Loc.bind (Loc.wrE _ _) fun _ => Loc.wrE _ _) Loc.fail
theorem z9I (hT : wl P tt) (h : Sim C S Fp [] st a w)  {t r i k : Nat} {x v : Operand} (ho : o.op = .store t x v)    (e0 : rfO tt o.dst t r i k x v st = some (u, R, U)) : ui P C o a w (zf U st) := by
 unfold rfO at e0
 split at e0
 ·rename_i hd
  obtain ⟨y, R1, U1, R2, U2, h1, e1, rfl, rfl⟩ := bind_some e0
  obtain ⟨rfl, hx⟩ := zz h h1
  obtain ⟨z, R3, U3, R4, U4, h3, e2, rfl, rfl⟩ := bind_some e1
  obtain ⟨rfl, hz⟩ := zz h h3
  obtain ⟨s, R5, U5, R6, U6, h5, e3, rfl, rfl⟩ := bind_some e2
  obtain ⟨rfl, qs⟩ := vU h hz h5
  obtain ⟨e, R7, U7, R8, U8, h7, e4, rfl, rfl⟩ := bind_some e3
  obtain ⟨rfl, rfl, rfl⟩ := ub h7
  obtain ⟨ek, R9, U9, R10, U10, h9, e5, rfl, rfl⟩ := bind_some e4
  obtain ⟨rfl, rfl, rfl⟩ := ub h9
  simp only [zf, List.nil_append] at e5 ⊢
  unfold rfK at e5
  generalize hst : st r = er0 at e5
  generalize hsk : st k = ek0 at e5
  obtain ⟨er0t, er1, er2⟩ := er0
  obtain ⟨ek0t, ek1, ek2⟩ := ek0
  obtain ⟨q, R15, U15, R16, U16, h15, e5', rfl, rfl⟩ := bind_some e5
  clear e5
  obtain ⟨hq, rfl, rfl⟩ := qY h15
  obtain ⟨fs, sz, tg, es, j⟩ := q
  obtain ⟨rfl, hot, hkt, hkr, hfi⟩ := z4S hq
  simp only at hot hkt
  subst hot hkt
  simp only [zf, List.nil_append] at e5' ⊢
  obtain ⟨y0, R11, U11, R12, U12, h11, e6, rfl, rfl⟩ := bind_some e5'
  obtain ⟨hj, rfl, rfl⟩ := qY h11
  simp only [zf, List.nil_append] at e6 ⊢
  split at e6
  case isFalse => exact (vh e6).elim
  rename_i hok
  simp only [z9J, Bool.and_eq_true, beq_iff_eq] at hok
  obtain ⟨k1, k2, k3, k4⟩ := hok
  obtain ⟨u1, R13, U13, R14, U14, h13, e7, rfl, rfl⟩ := bind_some e6
  obtain ⟨rfl, rfl⟩ := z0W h13
  obtain ⟨rfl, rfl⟩ := z0W e7
  have htr : (st r).t = .own (.box (.agg fs)) := by rw [hst]
  have hp : uN w.heap st (Act.tv a) r [.deref, .fld i, .idx j] er1 er2 (a.eval x) := hx
  have hgp : xz [.deref, .fld i, .idx j] (.box (.agg fs)) = some y0 := by simp only [xz, hfi, hj]
  obtain ⟨b, o', arr, ty, csy, Fy, cs, ev, o1, f2, f3, f4, f5, f6, f7, f8, f9, f10, f11, f12⟩ := Xv h hp htr (by rw [hst]) (by rw [hst]) hgp
  obtain ⟨_, rfl⟩ := f4.isD k2
  have hq1 : ∃ csz, Rep S s csz ∧ a.eval v = zL s csz := by
   have q := qs
   cases s <;> first | (simp [A.isD] at k3; done) | exact q
  obtain ⟨csz, z1, z2⟩ := hq1
  have hlen : csz.length = csy.length := by rw [z1.len, f4.len, k1]
  let w' := w.setRow b (ZS arr o' csz)
  have hheap : ∀ m, m ≠ b → w'.heap[m]? = w.heap[m]? := fun m hm => setRow_other w b m _ hm
  have hheapb : w'.heap[b]? = some (.cells (ZS arr o' csz) ty (0, 0)) := setRow_heap w b arr _ ty (0, 0) f2
  have hbase : C.M b := h.base r b f6
  have hSb : ∀ o, S b o = none := (h.free r b f6).2.1
  obtain ⟨F0', d1, d2, d3⟩ := f12 S w'.heap s csz [] (fun _ _ _ q => q) hlen (Rep.conc w'.heap z1) (by simp) (fun m hm _ => (h.free r m hm).2.1) (fun m _ _ hm => hheap m hm) hheapb (by simp)
  have hst' : ∀ b' o'' u, S b' o'' = some u → zY w'.heap b' o'' = some u := by
   intro b' o'' u hs
   rw [yU (h := w.heap) (h' := w'.heap) (hheap b' (by rintro rfl; rw [hSb] at hs; cases hs))]
   exact h.still b' o'' u hs
  have hset : Zs [.deref, .fld i, .idx j] (.box (.agg fs)) s = .box (.agg (fs.set i (.osl sz tg (es.set j s)))) := by simp only [Zs, hfi, hj]
  rw [hset] at d1
  have g1 : Sim C S (Zh Fp r F0') [] (upd st r ⟨.own (.box (.agg (fs.set i (.osl sz tg (es.set j s))))), er1, er2 + 1⟩) a w' := by
   refine h.change r (.own _) _ _ F0' (h.below.trans ⟨rfl, rfl, rfl, Nat.le_refl _, by simp [w'], fun m hm => hheap m (fun q => hm (q ▸ hbase))⟩) (fun _ _ _ q => q) hst' h.sbase ?_ ⟨⟨cs, d1, d2, by rw [f10]; rfl⟩, _, htr⟩ (.inl ⟨_, htr⟩) (by rw [hst]; exact Nat.le_refl _) (by rw [hst]; exact Nat.lt_succ_self _) ?_ ?_ (by simp) (by simp) (by simp) (by simp)
   ·intro t' m htm hm
    exact ⟨hheap m (by rintro rfl; exact htm (h.disj t' r m hm f6)), (h.free t' m hm).2.1⟩
   ·intro t' m htm hm hm'
    rcases (d3 m).1 hm with q | q
    ·exact htm (h.disj t' r m hm' q.1)
    ·simp at q
   ·intro m hm
    rcases (d3 m).1 hm with q | q
    ·exact h.base r m q.1
    ·simp at q
  have hkq := h.ent k
  unfold yG at hkq
  rw [hsk] at hkq
  simp only at hkq
  obtain ⟨hFk, hals⟩ := hkq
  have a3 := hals.2.2
  simp only [htr] at a3
  rcases a3 (by rw [hst]) (.inr (by rw [hst])) with ⟨hh, _⟩ | ⟨_, y', bb, oo, cs', p1, p2, p3, p4, p5⟩
  ·simp at hh
  simp only [xz, hfi, Option.some.injEq] at p1
  subst p1
  have f9' := f9
  simp only [zy] at f9'
  obtain ⟨bx, tyx, lx, Fx, rfl, q1, q2, q3, q4⟩ := f9'
  have htv : Act.tv a r = .pointer (some ⟨bx, 0, none⟩) := f10
  rw [htv] at p2 f11
  simp only [xC, We, hfi, Option.some.injEq, Prod.mk.injEq, Nat.zero_add] at p2
  obtain ⟨rfl, rfl⟩ := p2
  obtain ⟨ci, Fi, c1, c2, c3⟩ := z1F q2 hfi
  simp only [zy] at c1
  obtain ⟨pp, cc, rfl, t1, t2, t3, t4, t5⟩ := c1
  have hne : b ≠ bx := by
   rcases t5 with ⟨rfl, _⟩ | ⟨b2, arr2, ty2, l2, F2, rfl, v1, v2, v3, v4, rfl, v6⟩
   ·simp at hj
   have hcell : zY w.heap bx (A.sizes (fs.take i)) = some (.slice (some ⟨b2, 0, none⟩) es.length cc) := by
    have := c3 0 _ rfl
    unfold zY
    rw [q1]
    simpa using this
   simp only [xC, We, hfi, Nat.zero_add, hj, hcell, Option.some.injEq, Prod.mk.injEq] at f11
   obtain ⟨rfl, _⟩ := f11
   have hnd := (h.free r bx (by rw [q3]; simp))
   have hn : (Fp r).Nodup := by
    have q := h.ent r
    unfold yG at q
    simp only [htr] at q
    exact q.choose_spec.2.1
   rw [q3, List.nodup_cons] at hn
   rintro rfl
   exact hn.1 (c2 _ (by simp))
  have hcf : ∀ j' u', cs'[j']? = some u' → zY w'.heap bx (A.sizes (fs.take i) + j') = some u' := by
   intro j' u' hj'
   rw [yU (h := w.heap) (h' := w'.heap) (hheap bx (Ne.symm hne))]
   exact p4 j' u' hj'
  have hil : i < fs.length := (List.getElem?_eq_some_iff.1 hfi).1
  have hkk : upd st r ⟨.own (.box (.agg (fs.set i (.osl sz tg (es.set j s))))), er1, er2 + 1⟩ k = ⟨.als r [.deref, .fld i] er1 er2, ek1, ek2⟩ := by rw [jC _ _ hkr, hsk]
  have g2 := g1.retold k (.als r [.deref, .fld i] er1 (er2 + 1)) (ek1 + 1) (ek2 + 1) (by unfold Zh; rw [if_neg hkr]; exact hFk) (by rw [hkk]; exact Nat.le_succ _) (by rw [hkk]; exact Nat.le_succ _) trivial (by rw [hkk]; intro x q; cases q) (by rw [hkk]; intro x q; cases q) (by
   rintro st2 rfl
   unfold yG
   refine ⟨rfl, ?_⟩
   have hr2 : upd (upd st r ⟨.own (.box (.agg (fs.set i (.osl sz tg (es.set j s))))), er1, er2 + 1⟩) k ⟨.als r [.deref, .fld i] er1 (er2 + 1), ek1 + 1, ek2 + 1⟩ r = ⟨.own (.box (.agg (fs.set i (.osl sz tg (es.set j s))))), er1, er2 + 1⟩ := by rw [jC _ _ (Ne.symm hkr), xZ]
   refine ⟨by rw [hr2]; exact Nat.le_refl _, by rw [hr2]; exact Nat.le_refl _, ?_⟩
   rw [hr2]
   intro _ _
   refine .inr ⟨rfl, .osl sz tg (es.set j s), bx, A.sizes (fs.take i), cs', ?_, ?_, by rw [p3]; rfl, hcf, by rw [p5]; rfl⟩
   ·simp [xz, hil]
   ·rw [htv]
    simp [xC, We, hil]
    rw [List.take_set_of_le (Nat.le_refl i)])
  refine Uq (w' := w') ?_ hd g2
  have hrun : (storeVar t ⟨b, o', none⟩ (zL s csz)).run P w = .ok () w' := by
   by_cases hz0 : csz.length = 0
   ·have hnil : csz = [] := List.eq_nil_of_length_eq_zero hz0
    subst hnil
    have hov : w' = w := by
     show w.setRow b (ZS arr o' []) = w
     rw [jM (by intro j v hj; simp at hj)]
     exact setRow_self w b arr ty (0, 0) f2
    rw [hov]
    have hsz : s.size = 0 := by rw [← z1.len]; rfl
    have hag := (Vu k4).resolve_right (by omega)
    have hcl := jS (y := s) (fun u hu => Zx (z1.one u hu)) (.inl hag)
    have hf := k4
    unfold jP at hf
    split at hf
    ·rename_i it hit
     simp only [Bool.and_eq_true, beq_iff_eq, Bool.or_eq_true] at hf
     unfold storeVar
     simp only [Sem.run_bind, hcl, List.size_toArray, vj hT hit, Result.andThen_ok]
     simp [hf.1.2, hsz, storeCells]
    ·cases hf
   ·exact WK hT k4 z1.len z1.one f2 (by rw [hlen]; exact f3.le (by omega))
  simp [execOp, ho, ev, z2, Instr.storeAt, Instr.sureAddr, hrun]
 ·exact (vh e0).elim
end
def zay (q : Nat) (o : Oper) : Option (Nat × Operand × Operand) := match o.op with | .store t (.tmp q') v => if q' = q then some (t, .tmp q', v) else none | _ => none
def xRf (hT : wl P tt) (q r i k : Nat) : XH P :=
 xAt P (zay q) (fun n o b => rfO tt o.dst b.1 r i k b.2.1 b.2.2) (fun n o b => rfH tt o.dst b.1 r i k b.2.1 b.2.2)
  (by
   intro C S Fp st a w o b hp h u R U e
   unfold zay at hp
   split at hp
   ·rename_i ho
    split at hp
    ·cases hp; exact z9I hT h ho e
    ·cases hp
   ·cases hp)
  (fun n o b => Loc.rfO _ _ _ _ _ _ _ _) (fun n o b => zb0 _ _ _ _ _ _ _ _)
def zap (n : Fr) (dst : Option Nat) (x y : Operand) : HM Unit := ya (opnd x) >>= fun tx => VF tx >>= fun vx => ya (opnd y) >>= fun ty => VF ty >>= fun vy =>
 match vx, vy with
 | .atom (.int k p), .atom (.int _ q) => kG (0 ≤ q) (ya (wrT n dst (.d (.atom (.int k (p.fdiv (2 ^ (min q.toNat k.bits))))))))
 | _, _ => ya zn
theorem z9F (n : Fr) (dst : Option Nat) (x y : Operand) : Snd (shrO n dst x y) (zap n dst x y) :=
 zb (zj _) fun _ => zb (k7 _) fun _ => zb (zj _) fun _ => zb (k7 _) fun _ => by
  split
  ·exact uO (zj _)
  ·rename_i hno
   split
   ·exact (hno _ _ _ _ rfl rfl).elim
   ·exact zj _
def zaS (P : Program) : XH P := {
 e := fun n o => match o.op with | .binOp .shr _ x y _ => some (shrO n o.dst x y) | _ => none
 h := fun n o => match o.op with | .binOp .shr _ x y _ => some (zap n o.dst x y) | _ => none
 ok := by
  refine ⟨?_, ?_⟩
  ·intro C S Fp st a w o m u R U e0 h h2
   dsimp only at e0
   split at e0
   ·rename_i ho; cases e0; exact z8z h ho h2
   ·cases e0
  ·intro n o m e0
   dsimp only at e0
   split at e0
   ·cases e0
    exact fun st st' a R U => Loc.shrO _ _ _ _ st st' a R U
   ·cases e0
 none := by
  intro n o e0
  skip
  split at e0
  ·cases e0
  ·rfl
 some := by
  intro n o m e0
  skip
  split at e0
  ·cases e0; exact ⟨_, rfl, z9F _ _ _ _⟩
  ·cases e0 }
abbrev HO := List H × List Ob
def hoH (l : List HO) : List H := List.rec [] (fun x _ r => x.1 ++ r) l
def hoO (l : List HO) : List Prop := List.rec [] (fun x _ r => x.2.map Ob.p ++ r) l
def hoB (l : List HO) : List Ob := List.rec [] (fun x _ r => x.2 ++ r) l
theorem XB (l : List HO) : hoO l = (hoB l).map Ob.p := by
 induction l with
 | nil => rfl
 | cons x l ih =>
  show x.2.map Ob.p ++ hoO l = (x.2 ++ hoB l).map Ob.p
  rw [List.map_append, ih]
def Hq {t b : Bool} (h : t = b) : HO := ([.b b], [ob h])
abbrev qT : HO := Hq (Eq.refl true)
abbrev qF : HO := Hq (Eq.refl false)
def Ha {x y : A} (h : x = y) : HO := ([.a y], [ob h])
def Hs {x : Option A}  (h : x = some y) : HO := ([.a y], [ob h])
def Hl {x y : List A} (h : x = y) : HO := ([.l y], [ob h])
variable {p : Prop}
def Hm {x y : List A} (h : p ∧ x = y) : HO := ([.l y], [ob h])
def Hx (a : H)  (h : p) : HO := ([a], [ob h])
def Hn (h : p) : HO := ([], [ob h])
def Hh (a : H) : HO := ([a], [])
def Hi {α : Type} (f : α → A) {l : List α} {i : Int} {u : α} (h : idx l i = some u) : HO := ([.a (f u)], [ob (i0 h), ob (iM f h)])
def Hc {c : Ctr}   {enc : α → List A} {encR : ρ → A} {F : α → Option ρ}  {inj : ∀ x y, enc x = enc y → x = y} (h : c.Has (spF k enc encR F gives inj)) {x : α} {r : ρ} (hr : F x = some r)  (ha : as_.map A.loose = enc x) : HO :=
 ([.g gives, .a (encR r)], [ob (ZT h), ob (ZU h hr ha)])
def Hg {c : Ctr}   (h : c.gives k = gives) : HO := ([.g gives], [ob h])
def X4 (l : List (Nat × T)) : List Nat := l.map (·.1)
variable {rs : List (Nat × Option Nat)}{E : St → Prop}{J : St → Prop}{keep : Bool}{τ : Type}
section
variable {P : Program} {tt : TT} {ctr : Ctr} {n : Fr} {Q : Exit → St → Prop}
theorem yE6 (X : XH P) (hT : wl P tt) (hC : zJ P ctr) (hm : P.follows .mixedOrders = true)     (hE : ∀ st x R U, z2T tt keep rs st = some (x, R, U) → LeV x r → E st) {c : Code} {fs : List Fm} {st : St} (L : List HO)
  (e : z83 X tt ctr n keep rs 4000 c fs st (hoH L) = some (r, hoO L)) : AWP P n c st (Qf P n fs (z67 E)) :=
 z6o X hT hC hm hE 4000 (hoB L) (by rw [← XB]; exact e) (LeV.refl _)
theorem zaN (X : XH P) (hT : wl P tt) (hC : zJ P ctr) (hm : P.follows .mixedOrders = true)     (hE : ∀ st x R U, z2T tt keep rs st = some (x, R, U) → LeV x r → E st) {c : Code} {fs : List Fm} {st : St} (L : List HO) (x : A) (hle : LeV x r)
  (e : z83 X tt ctr n keep rs 4000 c fs st (hoH L) = some (x, hoO L)) : AWP P n c st (Qf P n fs (z67 E)) :=
 z6o X hT hC hm hE 4000 (hoB L) (by rw [← XB]; exact e) hle
theorem yB6 (X : XH P) (hT : wl P tt) (hC : zJ P ctr) (hm : P.follows .mixedOrders = true)   {live : List Nat} {S : τ → List (Nat × T)} {Inv : τ → Prop} (hJ : ∀ st' l' z, Inv z → canon live st' = ofL l' → LeL l' (S z) → J st') (z : τ) (hz : Inv z) {c : Code} {fs : List Fm} {st : St} (L : List HO)
  (e : Qj X tt ctr n live 4000 c fs st (hoH L) = some (.back J, ofL (S z), hoO L)) : AWP P n c st (Qf P n fs Q) :=
 z40 X hT hC hm live 4000 (hoH L) J (S z) (hoB L) (by rw [← XB]; exact e) fun st0 h0 => hJ st0 _ z hz h0 (LeL.refl _)
theorem zaO (X : XH P) (hT : wl P tt) (hC : zJ P ctr) (hm : P.follows .mixedOrders = true)   {live : List Nat} {S : τ → List (Nat × T)} {Inv : τ → Prop} (hJ : ∀ st' l' z, Inv z → canon live st' = ofL l' → LeL l' (S z) → J st') (z : τ) (hz : Inv z) {c : Code} {fs : List Fm} {st : St} (l : List (Nat × T)) (hl : LeL l (S z)) (L : List HO)
  (e : Qj X tt ctr n live 4000 c fs st (hoH L) = some (.back J, ofL l, hoO L)) : AWP P n c st (Qf P n fs Q) :=
 z40 X hT hC hm live 4000 (hoH L) J l (hoB L) (by rw [← XB]; exact e) fun st0 h0 => hJ st0 _ z hz h0 hl
theorem yA6 (X : XH P) (hT : wl P tt) (hC : zJ P ctr) (hm : P.follows .mixedOrders = true) {c : Code} {fs : List Fm} {st : St} (bd : Code) (path : List Nat) (Js : List (St → Prop)) (l : List (Nat × T)) (L : List HO)
  (e : Qj X tt ctr n (X4 l) 4000 c fs st (hoH L) = some (.at (sub path bd) (frs path Js bd []), ofL l, hoO L)) (h : AWP P n (sub path bd) (ofL l) (Qf P n (frs path Js bd []) Q)) : AWP P n c st (Qf P n fs Q) :=
 z5O X hT hC hm (X4 l) 4000 (hoH L) _ _ l (hoB L) (by rw [← XB]; exact e) fun st0 h0 => z0T h0 h
theorem yL6 (X : XH P) (hT : wl P tt) (hC : zJ P ctr) (hm : P.follows .mixedOrders = true) {c : Code} {fs : List Fm} {st : St} (bd : Code) (path : List Nat) (Js : List (St → Prop)) {σ τ : Type} (f : σ → Option (LR σ τ)) (S : σ → List (Nat × T)) (x0 : σ) {t : τ} (ht : loop f x0 = some t) (l : List (Nat × T)) (hl : LeL l (S x0)) (L : List HO)
  (hk : ∀ x, X4 (S x) = X4 l)
  (e : Qj X tt ctr n (X4 l) 4000 c fs st (hoH L) = some (.at (sub path bd) (frs path Js bd []), ofL l, hoO L))
  (e2 : sub path bd = .loop (sub (path ++ [0]) bd))
  (round : ∀ x m lr, f x = some lr → z9q f m t lr → ∀ J : St → Prop, (∀ st' l' x', ZY f m x' = some t → canon (X4 l) st' = ofL l' → LeL l' (S x') → J st') → AWP P n (sub (path ++ [0]) bd) (ofL (S x)) (Qf P n (.pre J :: frs path Js bd []) Q)) : AWP P n c st (Qf P n fs Q) := by
 refine z5O X hT hC hm (X4 l) 4000 (hoH L) _ _ l (hoB L) (by rw [← XB]; exact e) fun st0 h0 => ?_
 refine z5L (X := σ × Nat) e2 (X4 l) (fun x => ZY f x.2 x.1 = some t) (fun x => x.2) (fun x => S x.1) (x0, KU) _ h0 hl ht ?_
 rintro ⟨x, k⟩ hx J hJ
 obtain ⟨m, lr, rfl, hf, hr⟩ := z9R hx
 exact round x m lr hf hr J fun st' l' x' h1 h2 h3 => hJ st' l' (x', m) h1 (Nat.lt_succ_self m) h2 h3
theorem yJ6 (X : XH P) (hT : wl P tt) (hC : zJ P ctr) (hm : P.follows .mixedOrders = true) {c : Code} {fs : List Fm} {st : St} (bd : Code) (path : List Nat) (Js : List (St → Prop)) {σ : Type} (live : List Nat) (Inv : σ → Prop) (S : σ → List (Nat × T)) (l : List (Nat × T)) (L : List HO)
  (e : Qj X tt ctr n (X4 l) 4000 c fs st (hoH L) = some (.at (sub path bd) (frs path Js bd []), ofL l, hoO L))
  (e2 : sub path bd = .seq (sub (path ++ [2]) bd) (sub (path ++ [1]) bd))
  (h1 : ∀ z, Inv z → AWP P n (sub (path ++ [1]) bd) (ofL (S z)) (Qf P n (frs path Js bd []) Q))
  (h2 : ∀ J : St → Prop, (∀ st' l' z, Inv z → canon live st' = ofL l' → LeL l' (S z) → J st') → AWP P n (sub (path ++ [2]) bd) (ofL l) (Qf P n (.pre J :: frs path Js bd []) Q)) : AWP P n c st (Qf P n fs Q) := by
 refine z5O X hT hC hm (X4 l) 4000 (hoH L) _ _ l (hoB L) (by rw [← XB]; exact e) fun st0 h0 => ?_
 exact z5M e2 live (X4 l) _ h0 Inv S h1 h2
theorem yF6 (X : XH P) (hT : wl P tt) (hC : zJ P ctr) (hm : P.follows .mixedOrders = true) {c : Code} {fs : List Fm} {st : St} (ex : Exit) (l : List (Nat × T)) (L : List HO)
  (e : Qj X tt ctr n (X4 l) 4000 c fs st (hoH L) = some (.fin ex, ofL l, hoO L)) (h : ∀ st0, canon (X4 l) st0 = ofL l → Q ex st0) : AWP P n c st (Qf P n fs Q) :=
 z9b X hT hC hm (X4 l) 4000 (hoH L) ex l (hoB L) (by rw [← XB]; exact e) h
theorem zaP (X : XH P) (hT : wl P tt) (hC : zJ P ctr) (hm : P.follows .mixedOrders = true) {c : Code} {fs : List Fm} {st : St} (c' : Code) (fs' : List Fm) (l : List (Nat × T)) (L : List HO)
  (e : Qj X tt ctr n (X4 l) 4000 c fs st (hoH L) = some (.at c' fs', ofL l, hoO L)) (h : ∀ st0, canon (X4 l) st0 = ofL l → AWP P n c' st0 (Qf P n fs' Q)) : AWP P n c st (Qf P n fs Q) :=
 z5O X hT hC hm (X4 l) 4000 (hoH L) _ _ l (hoB L) (by rw [← XB]; exact e) h
theorem yO6 {r : A} {ls : List A} (hT : wl P tt) (keep : Bool) (rs : List (Nat × Option Nat)) (body : Code) (nt : Nat) (hf : P.funcs[k]? = some fn) (hb : fn.body = some body) (hn : nt = fn.ntmps) (hr : fn.results = (rs.map z4r).toArray) (hnm : (fn.name == "runtime.NumGoroutine") = false) (ha : Nat.ble ls.length nt = true)
  (h : ∀ E : St → Prop, (∀ st x R U, z2T tt keep rs st = some (x, R, U) → LeV x r → E st) → AWP P ⟨nt, []⟩ body (ofL (z2m 0 ls)) (Qf P ⟨nt, []⟩ [] (z67 E))) : Yv P k ls r := by
 subst hn
 exact z5G (tt := tt) (keep := keep) (rs := rs) (n := ⟨fn.ntmps, []⟩) (body := body) hT hf hnm hb rfl hr (Nat.le_of_ble_eq_true ha) h
end
section
variable {α β γ δ ε ζ η : Type} {f0 : α → A} {f1 : β → A} {f2 : γ → A} {f3 : δ → A} {f4 : ε → A} {f5 : ζ → A} {f6 : η → A}
theorem UP [h0 : kP f0] (x y : α) (h : [f0 x] = [f0 y]) : x = y := by simp only [List.cons.injEq, and_true] at h; exact h0.inj _ _ h
theorem Vt [h0 : kP f0] [h1 : kP f1] (x y : α × β) (h : [f0 x.1, f1 x.2] = [f0 y.1, f1 y.2]) : x = y := by
 simp only [List.cons.injEq, and_true] at h
 exact Prod.ext (h0.inj _ _ h.1) (h1.inj _ _ h.2)
theorem z9U [h0 : kP f0] [h1 : kP f1] [h2 : kP f2] (x y : α × β × γ) (h : [f0 x.1, f1 x.2.1, f2 x.2.2] = [f0 y.1, f1 y.2.1, f2 y.2.2]) : x = y := by
 simp only [List.cons.injEq, and_true] at h
 exact Prod.ext (h0.inj _ _ h.1) (Prod.ext (h1.inj _ _ h.2.1) (h2.inj _ _ h.2.2))
end
end Go.Own
end
