/- -/
import Derived.Test.YtlejgipmepemjaaPartB
import Derived.LoopNIn
import Derived.IntWalk
import Derived.Shelf.SlSortCmp.NoneTotal
set_option linter.unusedVariables false
set_option linter.unusedSimpArgs false
namespace Go.Own
theorem WQ {α : Type} {p c q : Prop} [Decidable p] [Decidable c] {m m' : SM α} {h : HM α} (hpq : c → q → p) (h1 : Snd m h) : Snd (if p then m else m') (if c then kU q h else zM) := by
 by_cases hc : c
 ·rw [if_pos hc]
  exact Jj fun hq => Yu (if_pos (hpq hc hq)) h1
 ·rw [if_neg hc]
  exact zo _
def z0v (r : Nat) (p : List ji) (er ec : Nat) : HM A := yo (rdE r) >>= fun e =>
 match e.t with
 | .own x => if e.er = er ∧ (p = [] ∨ e.ec = ec) then z3w p x else zM
 | .d x => if e.er = er ∧ p = [] then pure x else zM
 | _ => zM
theorem Qk (r : Nat) (p : List ji) (er ec : Nat) : Snd (look r p er ec) (z0v r p er ec) := by
 refine zj (zm _) fun e => ?_
 obtain ⟨t, a, b⟩ := e
 cases t with
 | own x => exact vp (z0h _ _) (zo _)
 | d x => exact vp (wn _) (zo _)
 | _ => exact zo _
def Qu (r : Nat) (p : List ji) (er ec : Nat) : HM A := yo (rdE r) >>= fun e =>
 match e.t with
 | .own x => if e.er = er ∧ e.ec = ec then z3w p x else zM
 | _ => zM
theorem Jk (r : Nat) (p : List ji) (er ec : Nat) : Snd (lookP r p er ec) (Qu r p er ec) := by
 refine zj (zm _) fun e => ?_
 obtain ⟨t, a, b⟩ := e
 cases t with
 | own x => exact vp (z0h _ _) (zo _)
 | _ => exact zo _
def Q3 : T → HM A
 | .d a => pure a
 | .als r p er ec => z0v r p er ec >>= fun y => if y.isD = true then pure y else zM
 | _ => zM
theorem Z1 (x : T) : Snd (val x) (Q3 x) := by
 cases x with
 | d a => exact wn _
 | als r p er ec => exact zj (Qk _ _ _ _) fun y => vp (wn _) (zo _)
 | _ => exact zo _
def z2a : T → HM A
 | .d a => pure a
 | .als r p er ec => z0v r p er ec >>= fun y =>
  if y.isD = true then pure y else if y.plain = true then yo (rdE r) >>= fun e =>
   match e.t with
   | .own x =>
    if p = [] then yo (wrE r ⟨.gone, e.er + 1, e.ec + 1⟩) >>= fun _ => pure y
    else z1Y p x (.dead y.size) >>= fun z => yo (wrE r ⟨.own z, e.er, e.ec + 1⟩) >>= fun _ => pure y
   | _ => zM
  else zM
 | _ => zM
theorem z0U (x : T) : Snd (take x) (z2a x) := by
 cases x with
 | d a => exact wn _
 | als r p er ec =>
  refine zj (Qk _ _ _ _) fun y => vp (wn _) (vp (zj (zm _) fun e => ?_) (zo _))
  obtain ⟨t, a, b⟩ := e
  cases t with
  | own x =>
   refine vp (sdLift' _ _) ?_
   refine Yu (m' := pure (jS p x (.dead y.size)) >>= fun z => wrE r ⟨.own z, a, b + 1⟩ >>= fun _ => pure y) (y7 _ _).symm ?_
   exact zj (z5X _ _ _) fun z => sdLift' _ _
  | _ => exact zo _
 | _ => exact zo _
where sdLift' {β : Type} (m : SM Unit) (y : β) : Snd (m >>= fun _ => pure y) (yo m >>= fun _ => pure y) := zj (zm m) fun _ => wn y
def X5 (tt : TT) (t : Nat) (x : T) : HM A := z2a x >>= fun y => pure (Z4 tt t y)
theorem YH (tt : TT) (t : Nat) (x : T) : Snd (takeC tt t x) (X5 tt t x) := zj (z0U x) fun _ => wn _
def VT : T → HM (A ⊕ (Nat × List ji × Nat × Nat))
 | .d (.sptr y) => pure (.inl y)
 | .ptr r p er ec => pure (.inr (r, p, er, ec))
 | .als r p er ec => yo (rdE r) >>= fun e => z0v r p er ec >>= fun y =>
  match y with
  | .box _ => pure (.inr (r, p ++ [.deref], e.er, e.ec))
  | .sptr z => pure (.inl z)
  | _ => zM
 | _ => zM
theorem VL (x : T) : Snd (ptrOf x) (VT x) := by
 cases x with
 | d a => cases a <;> first | exact wn _ | exact zo _
 | ptr r p er ec => exact wn _
 | als r p er ec =>
  refine zj (zm _) fun e => zj (Qk _ _ _ _) fun y => ?_
  cases y <;> first | exact wn _ | exact zo _
 | _ => exact zo _
def z0o : T → HM A
 | .d a => pure a
 | .als r p er ec => z0v r p er ec
 | _ => zM
theorem Qi (x : T) : Snd (peek x) (z0o x) := by
 cases x with
 | d a => exact wn _
 | als r p er ec => exact Qk _ _ _ _
 | _ => exact zo _
def z5f (tt : TT) (n : Fr) (dst : Option Nat) (t : Nat) (x : T) : HM Unit := VT x >>= fun q =>
 match q with
 | .inl y => if k9 tt t y = true ∧ y.isD = true then yo (wrT n dst (.d y)) else zM
 | .inr (r, p, er, ec) => Qu r p er ec >>= fun y =>
  if k9 tt t y = true then
   (if y.isD = true then yo (wrT n dst (.d y)) else yo (wrT n dst (.als r p er ec)))
  else zM
theorem z62 (tt : TT) (n : Fr) (dst : Option Nat) (t : Nat) (x : T) : Snd (loadA tt n dst t x) (z5f tt n dst t x) := by
 refine zj (VL _) fun q => ?_
 rcases q with y | ⟨r, p, er, ec⟩
 ·exact vp (zm _) (zo _)
 ·exact zj (Jk _ _ _ _) fun y => vp (vp (zm _) (zm _)) (zo _)
def z2e (tt : TT) (t : Nat) (x v : T) : HM Unit := VT x >>= fun q =>
 match q with
 | .inl _ => zM
 | .inr (r, p, er, ec) => X5 tt t v >>= fun y => yo (rdE r) >>= fun e =>
  match e.t with
  | .own x0 =>
   if e.er = er ∧ e.ec = ec then z3w p x0 >>= fun y0 =>
    if y.size = y0.size ∧ k9 tt t y = true then z1Y p x0 y >>= fun z => yo (wrE r ⟨.own z, e.er, e.ec + 1⟩) else zM
   else zM
  | _ => zM
theorem z3W (tt : TT) (t : Nat) (x v : T) : Snd (storeA tt t x v) (z2e tt t x v) := by
 refine zj (VL _) fun q => ?_
 rcases q with y | ⟨r, p, er, ec⟩
 ·exact zo _
 ·refine zj (YH _ _ _) fun y => zj (zm _) fun e => ?_
  obtain ⟨t', a, b⟩ := e
  cases t' with
  | own x0 =>
   refine vp ?_ (zo _)
   refine Yu (m' := ofO (xI p x0) >>= fun y0 => if y.size = y0.size ∧ k9 tt t y = true then wrE r ⟨.own (jS p x0 y), a, b + 1⟩ else zq) ?_ ?_
   ·cases xI p x0 with
    | none => rfl
    | some y0 => exact (y7 _ _).symm
   ·refine zj (z0h _ _) fun y0 => vp ?_ (zo _)
    refine Yu (m' := pure (jS p x0 y) >>= fun z => wrE r ⟨.own z, a, b + 1⟩) (y7 _ _).symm ?_
    exact zj (z5X _ _ _) fun z => zm _
  | _ => exact zo _
def Up (tt : TT) (n : Fr) (dst : Option Nat) (t i : Nat) (x : T) : HM Unit := VT x >>= fun q =>
 match q with
 | .inl (.agg fs) =>
  match fs[i]? with
  | some y => if W0 tt t i fs = true then yo (wrT n dst (.d (.sptr y))) else zM
  | none => zM
 | .inl _ => zM
 | .inr (r, p, er, ec) => Qu r p er ec >>= fun y =>
  match y with
  | .agg fs => if W0 tt t i fs = true ∧ i < fs.length then yo (wrT n dst (.ptr r (p ++ [.fld i]) er ec)) else zM
  | _ => zM
theorem Kf (tt : TT) (n : Fr) (dst : Option Nat) (t i : Nat) (x : T) : Snd (fieldAddrA tt n dst t i x) (Up tt n dst t i x) := by
 refine zj (VL _) fun q => ?_
 rcases q with y | ⟨r, p, er, ec⟩
 ·cases y with
  | agg fs =>
   dsimp only
   cases fs[i]? with
   | some y => exact vp (zm _) (zo _)
   | none => exact zo _
  | _ => exact zo _
 ·refine zj (Jk _ _ _ _) fun y => ?_
  cases y with
  | agg fs => exact vp (zm _) (zo _)
  | _ => exact zo _
def z6z (tt : TT) (n : Fr) (dst : Option Nat) (t : Nat) (sz : Nat) (xs : List A) (j : Int) : HM Unit :=
 if xN tt t = some sz then kU (0 ≤ j) (z1B xs[j.toNat]? >>= fun y => yo (wrT n dst (.d (.sptr y)))) else zM
theorem z2l (tt : TT) (n : Fr) (dst : Option Nat) (t : Nat) (sz : Nat) (xs : List A) (j : Int) :
  Snd (if xN tt t = some sz ∧ 0 ≤ j then (match xs[j.toNat]? with | some y => wrT n dst (.d (.sptr y)) | none => zq) else zq) (z6z tt n dst t sz xs j) := by
 refine WQ (fun h1 h2 => ⟨h1, h2⟩) ?_
 refine Yu (m' := ofO xs[j.toNat]? >>= fun y => wrT n dst (.d (.sptr y))) ?_ (zj (Xa _) fun y => zm _)
 cases xs[j.toNat]? with
 | none => rfl
 | some y0 => exact (y7 _ _).symm
def Ul (tt : TT) (n : Fr) (dst : Option Nat) (t : Nat) (x : T) (i : A) : HM Unit :=
 match i with
 | .atom (.int _ j) =>
  match x with
  | .d (.sl sz _ xs) => z6z tt n dst t sz xs j
  | .als r p er ec => yo (rdE r) >>= fun e => z0v r p er ec >>= fun y =>
   match y with
   | .osl sz _ es => if xN tt t = some sz then kU (0 ≤ j ∧ j.toNat < es.length) (yo (wrT n dst (.ptr r (p ++ [.idx j.toNat]) e.er e.ec))) else zM
   | .sl sz _ xs => z6z tt n dst t sz xs j
   | _ => zM
  | _ => zM
 | _ => zM
theorem Ke (tt : TT) (n : Fr) (dst : Option Nat) (t : Nat) (x : T) (i : A) : Snd (indexAddrA tt n dst t x i) (Ul tt n dst t x i) := by
 cases i with
 | atom v =>
  cases v with
  | int k j =>
   cases x with
   | d a =>
    cases a with
    | sl sz tg xs => exact z2l tt n dst t sz xs j
    | _ => exact zo _
   | als r p er ec =>
    refine zj (zm _) fun e => zj (Qk _ _ _ _) fun y => ?_
    cases y with
    | osl sz tg es => exact WQ (fun h1 h2 => ⟨h1, h2.1, h2.2⟩) (zm _)
    | sl sz tg xs => exact z2l tt n dst t sz xs j
    | _ => exact zo _
   | _ => exact zo _
  | _ => exact zo _
 | _ => exact zo _
def Qw (tt : TT) (n : Fr) (dst : Option Nat) (t : Nat) (x : T) (i : A) : HM Unit :=
 match i with
 | .atom (.int _ j) => VT x >>= fun q =>
  match q with
  | .inl (.agg fs) => z1B fs[j.toNat]? >>= fun y => kU (z0G tt t fs j = true) (yo (wrT n dst (.d (.sptr y))))
  | .inl _ => zM
  | .inr (r, p, er, ec) => Qu r p er ec >>= fun y =>
   match y with
   | .agg fs => kU (z0G tt t fs j = true ∧ j.toNat < fs.length) (yo (wrT n dst (.ptr r (p ++ [.fld j.toNat]) er ec)))
   | _ => zM
 | _ => zM
theorem z0g (tt : TT) (n : Fr) (dst : Option Nat) (t : Nat) (x : T) (i : A) : Snd (indexArrA tt n dst t x i) (Qw tt n dst t x i) := by
 cases i with
 | atom v =>
  cases v with
  | int k j =>
   refine zj (VL _) fun q => ?_
   rcases q with y | ⟨r, p, er, ec⟩
   ·cases y with
    | agg fs =>
     refine Yu (m' := ofO fs[j.toNat]? >>= fun y => if z0G tt t fs j = true then wrT n dst (.d (.sptr y)) else zq) ?_ (zj (Xa _) fun y => qS (zm _))
     dsimp only
     cases fs[j.toNat]? with
     | none => rfl
     | some y0 => exact (y7 _ _).symm
    | _ => exact zo _
   ·refine zj (Jk _ _ _ _) fun y => ?_
    cases y with
    | agg fs => exact qS (zm _)
    | _ => exact zo _
  | _ => exact zo _
 | _ => exact zo _
def Vw (tt : TT) (n : Fr) (dst : Option Nat) (t : Nat) (s x : T) : HM Unit :=
 match tt t with
 | some ⟨.slice e, _, _, _, _⟩ =>
  match tt e with
  | some i => z0o x >>= fun y =>
   match y with
   | .sl sz _ ys | .osl sz _ ys =>
    if sz = i.size ∧ i.bytes ≤ 4096 ∧ 0 < i.size ∧ i.zero.isSome = true then kU (A.areD ys = true) (X5 tt t s >>= fun z =>
     match z with
     | .osl sz' tg es => if sz' = i.size then kU (es.length + ys.length ≤ lim) (eqL (es ++ ys) >>= fun zs => yo (wrT n dst (.own (.osl sz' false zs)))) else zM
     | .sl sz' tg es => if sz' = i.size ∧ tg = true then kU (es.length + ys.length ≤ lim ∧ ys ≠ [] ∧ A.areD es = true) (eqL (es ++ ys) >>= fun zs => yo (wrT n dst (.own (.osl sz' false zs)))) else zM
     | _ => zM)
    else zM
   | _ => zM
  | none => zM
 | _ => zM
theorem Kj (tt : TT) (n : Fr) (dst : Option Nat) (t : Nat) (s : T) (i : TI) (sz : Nat) (ys : List A) :
    Snd (if sz = i.size ∧ A.areD ys = true ∧ i.bytes ≤ 4096 ∧ 0 < i.size ∧ i.zero.isSome = true then do
          let z ← takeC tt t s
          match z with
          | .osl sz' tg es => if sz' = i.size ∧ es.length + ys.length ≤ lim then wrT n dst (.own (.osl sz' false (es ++ ys))) else zq
          | .sl sz' tg es => if sz' = i.size ∧ es.length + ys.length ≤ lim ∧ tg = true ∧ ys ≠ [] ∧ A.areD es = true then wrT n dst (.own (.osl sz' false (es ++ ys))) else zq
          | _ => zq
        else zq)
      (if sz = i.size ∧ i.bytes ≤ 4096 ∧ 0 < i.size ∧ i.zero.isSome = true then kU (A.areD ys = true) (X5 tt t s >>= fun z =>
          match z with
          | .osl sz' tg es => if sz' = i.size then kU (es.length + ys.length ≤ lim) (eqL (es ++ ys) >>= fun zs => yo (wrT n dst (.own (.osl sz' false zs)))) else zM
          | .sl sz' tg es => if sz' = i.size ∧ tg = true then kU (es.length + ys.length ≤ lim ∧ ys ≠ [] ∧ A.areD es = true) (eqL (es ++ ys) >>= fun zs => yo (wrT n dst (.own (.osl sz' false zs)))) else zM
          | _ => zM)
        else zM) := by
  refine WQ (fun h1 h2 => ⟨h1.1, h2, h1.2⟩) (zj (YH _ _ _) fun z => ?_)
  cases z with
  | osl sz' tg es =>
    refine WQ (fun h1 h2 => ⟨h1, h2⟩) ?_
    exact Yu (y7 (es ++ ys) fun zs => wrT n dst (.own (.osl sz' false zs))).symm (zj (z0i _) fun _ => zm _)
  | sl sz' tg es =>
    refine WQ (fun h1 h2 => ⟨h1.1, h2.1, h1.2, h2.2⟩) ?_
    exact Yu (y7 (es ++ ys) fun zs => wrT n dst (.own (.osl sz' false zs))).symm (zj (z0i _) fun _ => zm _)
  | _ => exact zo _
theorem Ki (tt : TT) (n : Fr) (dst : Option Nat) (t : Nat) (s x : T) : Snd (appendA tt n dst t s x) (Vw tt n dst t s x) := by
 unfold appendA Vw
 generalize tt t = q
 rcases q with _ | ⟨k, a1, a2, a3, a4⟩
 ·exact zo _
 ·cases k with
  | slice e =>
   dsimp only
   generalize tt e = q
   cases q with
   | none => exact zo _
   | some i =>
    refine zj (Qi _) fun y => ?_
    cases y with
    | sl sz _ ys => exact Kj tt n dst t s _ sz ys
    | osl sz _ ys => exact Kj tt n dst t s _ sz ys
    | _ => exact zo _
  | _ => exact zo _
def YR (tt : TT) (n : Fr) (dst : Option Nat) (t : Nat) (s x : Operand) : HM Unit :=
 match tt t with
 | some ⟨.slice e, _, _, _, _⟩ =>
  match tt e with
  | some i =>
   if i.bytes ≤ 4096 ∧ 0 < i.size ∧ i.zero.isSome = true then yo (opnd x) >>= fun tx => z2a tx >>= fun y => yo (opnd s) >>= fun ts => X5 tt t ts >>= fun z =>
    match y, z with
    | .osl sz _ ys, .osl sz' tg es => if sz = i.size ∧ sz' = i.size ∧ A.plains ys = true then kU (es.length + ys.length ≤ lim) (eqL (es ++ ys) >>= fun zs => yo (wrT n dst (.own (.osl sz' false zs)))) else zM
    | _, _ => zM
   else zM
  | none => zM
 | _ => zM
theorem Kh (tt : TT) (n : Fr) (dst : Option Nat) (t : Nat) (s x : Operand) : Snd (appendOwnA tt n dst t s x) (YR tt n dst t s x) := by
 unfold appendOwnA YR
 generalize tt t = q
 rcases q with _ | ⟨k, a1, a2, a3, a4⟩
 ·exact zo _
 ·cases k with
  | slice e =>
   dsimp only
   generalize tt e = q
   cases q with
   | none => exact zo _
   | some i =>
    refine vp (zj (zm _) fun tx => zj (z0U _) fun y => zj (zm _) fun ts => zj (YH _ _ _) fun z => ?_) (zo _)
    cases y with
    | osl sz tg' ys =>
     cases z with
     | osl sz' tg es =>
      refine WQ (fun h1 h2 => ⟨h1.1, h1.2.1, h1.2.2, h2⟩) ?_
      exact Yu (y7 (es ++ ys) fun zs => wrT n dst (.own (.osl sz' false zs))).symm (zj (z0i _) fun _ => zm _)
     | _ => exact zo _
    | _ => exact zo _
  | _ => exact zo _
def Qe (tt : TT) (t : Nat) : T → HM A
 | .d (.tup _) => zM
 | .d a => pure (Z4 tt t a).shut
 | .als r p er ec => z0v r p er ec >>= fun y =>
  if y.isD = true then pure y else YG y >>= fun ys => yo (rdE r) >>= fun e =>
    match e.t with
    | .own x =>
     if p = [] then yo (wrE r ⟨.d ys, e.er, e.ec + 1⟩) >>= fun _ => pure ys
     else z1Y p x ys >>= fun z => yo (wrE r ⟨.own z, e.er, e.ec + 1⟩) >>= fun _ => pure ys
    | _ => zM
 | _ => zM
theorem z5W {α : Type} (y : A) {f : A → SM α} {g : A → HM α} (h : Snd (f y.shut) (g y.shut)) : Snd (if y.live = true then f y.shut else zq) (YG y >>= g) := by
 intro st hs b R U hs' ob e ho
 obtain ⟨a, R1, U1, hs1, ob1, R2, U2, ob2, e1, e2, rfl, rfl, rfl⟩ := Y7 e
 obtain ⟨o1, o2⟩ := yL ho
 obtain ⟨q1, rfl, rfl, rfl⟩ := VJ y e1 o1
 rw [if_pos q1]
 exact h _ _ _ _ _ _ _ e2 o2
theorem Y0 (tt : TT) (t : Nat) (x : T) : Snd (shutT tt t x) (Qe tt t x) := by
 cases x with
 | d a => cases a <;> first | exact zo _ | exact wn _
 | als r p er ec =>
  refine zj (Qk _ _ _ _) fun y => vp (wn _) ?_
  refine z5W y (f := fun ys => do
    let e ← rdE r
    match e.t with
    | .own x =>
     if p = [] then do
      wrE r ⟨.d ys, e.er, e.ec + 1⟩
      pure ys
     else do
      wrE r ⟨.own (jS p x ys), e.er, e.ec + 1⟩
      pure ys
    | _ => zq) ?_
  refine zj (zm _) fun e => ?_
  obtain ⟨t', a, b⟩ := e
  cases t' with
  | own x =>
   refine vp (zj (zm _) fun _ => wn _) ?_
   refine Yu (m' := pure (jS p x y.shut) >>= fun z => wrE r ⟨.own z, a, b + 1⟩ >>= fun _ => pure y.shut) (y7 _ _).symm ?_
   exact zj (z5X _ _ _) fun z => zj (zm _) fun _ => wn _
  | _ => exact zo _
 | _ => exact zo _
def uj (tt : TT) : List (Operand × Nat) → HM (List A)
 | [] => pure []
 | (x, t) :: as_ => yo (opnd x) >>= fun y => Qe tt t y >>= fun a => uj tt as_ >>= fun bs => pure (a :: bs)
theorem qE (tt : TT) : ∀ as_, Snd (shutArgs tt as_) (uj tt as_)
 | [] => wn _
 | (x, t) :: as_ => zj (zm _) fun y => zj (Y0 _ _ _) fun a => zj (qE tt as_) fun bs => wn _
def VY (tt : TT) : List (Bool × Operand × Nat) → HM (List A)
 | [] => pure []
 | (g, x, t) :: as_ => yo (opnd x) >>= fun y => (if g = true then X5 tt t y else Qe tt t y) >>= fun a => VY tt as_ >>= fun bs => pure (a :: bs)
theorem Qj (tt : TT) : ∀ as_, Snd (passArgs tt as_) (VY tt as_)
 | [] => wn _
 | (g, x, t) :: as_ => zj (zm _) fun y => zj (vp (YH _ _ _) (Y0 _ _ _)) fun a => zj (Qj tt as_) fun bs => wn _
def z3c (tt : TT) (ctr : Ctr) (n : Fr) (dst : Option Nat) (f : A) (as_ : List (Operand × Nat)) : HM Unit :=
 match f with
 | .fn k caps => z7I >>= fun gs => kU (ctr.lend k = none ∧ ctr.gives k = gs) (
  if gs.isEmpty = true then z2W (uj tt as_) >>= fun xs => z1B (ctr.run k (ctr.norm k (xs ++ caps))) >>= fun r =>
    if r.flat = true then yo (wrT n dst (.d r))
    else uj tt as_ >>= fun _ => yo (wrT n dst (mkT r))
  else if gs.length = as_.length then VY tt (gs.zip as_) >>= fun xs => z1B (ctr.run k (ctr.norm k (xs ++ caps))) >>= fun r => yo (wrT n dst (mkT r))
  else zM)
 | _ => zM
theorem z65 (tt : TT) (ctr : Ctr) (n : Fr) (dst : Option Nat) (f : A) (as_ : List (Operand × Nat)) : Snd (callA tt ctr n dst f as_) (z3c tt ctr n dst f as_) := by
 cases f with
 | fn k caps =>
  intro st hs b R U hs' ob e ho
  unfold z3c at e
  obtain ⟨gs, R1, U1, hs1, ob1, R2, U2, ob2, e1, e2, rfl, rfl, rfl⟩ := Y7 e
  obtain ⟨o1, o2⟩ := yL ho
  have hh : R1 = [] ∧ U1 = [] := by
   unfold z7I at e1
   split at e1
   ·simp only [Option.some.injEq, Prod.mk.injEq] at e1; exact ⟨e1.2.1.symm, e1.2.2.1.symm⟩
   ·cases e1
  obtain ⟨rfl, rfl⟩ := hh
  obtain ⟨⟨q1, q2⟩, ob', e3, o3⟩ := Jt e2 o2
  subst q2
  simp only [callA, q1]
  revert e3
  have main : ∀ {h : HM Unit} {m : SM Unit}, Snd m h → h (zc [] st) hs1 = some (b, R2, U2, hs', ob') → m st = some (b, [] ++ R2, [] ++ U2) := fun hs e => hs _ _ _ _ _ _ _ e o3
  intro e3
  refine main ?_ e3
  refine vp ?_ (vp ?_ (zo _))
  ·refine zj (z64 (qE _ _)) fun xs => ?_
   refine Yu (m' := ofO (ctr.run k (ctr.norm k (xs ++ caps))) >>= fun r => if r.flat = true then wrT n dst (.d r) else shutArgs tt as_ >>= fun _ => wrT n dst (mkT r)) ?_ (zj (Xa _) fun r => vp (zm _) (zj (qE _ _) fun _ => zm _))
   cases ctr.run k (ctr.norm k (xs ++ caps)) with
   | none => rfl
   | some r => exact (y7 _ _).symm
  ·refine zj (Qj _ _) fun xs => ?_
   refine Yu (m' := ofO (ctr.run k (ctr.norm k (xs ++ caps))) >>= fun r => wrT n dst (mkT r)) ?_ (zj (Xa _) fun r => zm _)
   cases ctr.run k (ctr.norm k (xs ++ caps)) with
   | none => rfl
   | some r => exact (y7 _ _).symm
 | _ => exact zo _
def z0I : List (Operand × Nat) → TT → HM (List A)
 | [], _ => pure []
 | (x, t) :: ps, tt => yo (opnd x) >>= fun y => X5 tt t y >>= fun a => z0I ps tt >>= fun bs => pure (a :: bs)
theorem z0d (tt : TT) : ∀ ps, Snd (takes ps tt) (z0I ps tt)
 | [] => wn _
 | (x, t) :: ps => zj (zm _) fun y => zj (YH _ _ _) fun a => zj (z0d tt ps) fun bs => wn _
end Go.Own

namespace Go.Own
def z7S (tt : TT) (n : Fr) (dst : Option Nat) (op : BinOp) (xt : Nat) (vx vy : A) : HM Unit :=
 match op with
 | .quo | .rem =>
  match vx, vy with
  | .atom (.int k a), .atom (.int k' b) => if k = k' then kU (b ≠ 0) (yo (wrT n dst (.d (.atom (.int k (match op with | .quo => k.wrap (a.tdiv b) | _ => a.tmod b)))))) else zM
  | _, _ => zM
 | _ => yo (ofO (z6W tt op xt vx vy) >>= fun r => wrT n dst (.d r))
theorem z7q (tt : TT) (n : Fr) (dst : Option Nat) (op : BinOp) (xt : Nat) (vx vy : A) : Snd (ofO (z6W tt op xt vx vy) >>= fun r => wrT n dst (.d r)) (z7S tt n dst op xt vx vy) := by
 have main : ∀ op, op = .quo ∨ op = .rem → Snd (ofO (z6W tt op xt vx vy) >>= fun r => wrT n dst (.d r)) (match vx, vy with
  | .atom (.int k a), .atom (.int k' b) => if k = k' then kU (b ≠ 0) (yo (wrT n dst (.d (.atom (.int k (match op with | .quo => k.wrap (a.tdiv b) | _ => a.tmod b)))))) else zM
  | _, _ => zM) := by
  intro op hop
  cases vx with
  | atom v =>
   cases v with
   | int k a =>
    cases vy with
    | atom u =>
     cases u with
     | int k' b =>
      dsimp only
      by_cases hk : k = k'
      ·rw [if_pos hk]
       refine Jj fun hb => ?_
       refine Yu ?_ (zm _)
       rcases hop with rfl | rfl <;> simp only [z6W, if_pos hk, z4p, if_neg hb] <;> exact y7 _ _
      ·rw [if_neg hk]; exact zo _
     | _ => exact zo _
    | _ => exact zo _
   | _ => exact zo _
  | _ => exact zo _
 cases op with
 | quo => exact main _ (.inl rfl)
 | rem => exact main _ (.inr rfl)
 | _ => exact zm _
def z7x (n : Fr) (dst : Option Nat) (c x y : Operand) : HM Unit := yo (opnd c) >>= fun tc => Q3 tc >>= fun vc =>
 match vc with
 | .atom (.bool b) => z7V b >>= fun b => match b with | true => yo (opnd x >>= fun t => wrT n dst t) | false => yo (opnd y >>= fun t => wrT n dst t)
 | _ => zM
theorem z7n (n : Fr) (dst : Option Nat) (c x y : Operand) : Snd (z2y n dst c x y) (z7x n dst c x y) := by
 refine zj (zm _) fun tc => zj (Z1 _) fun vc => ?_
 cases vc with
 | atom v =>
  cases v with
  | bool b =>
   refine Yu (m' := pure b >>= fun b => match b with | true => (opnd x >>= fun t => wrT n dst t) | false => (opnd y >>= fun t => wrT n dst t)) ?_ (zj (z2m _) fun b => ?_)
   ·rw [y7]; cases b <;> rfl
   ·cases b <;> exact zm _
  | _ => exact zo _
 | _ => exact zo _
def Kx (n : Fr) (dst : Option Nat) (x : Operand) : HM Unit := yo (opnd x) >>= fun y =>
 match y with
 | .d (.fn f cs) => yo (wrT n dst (.d (.fn f cs)))
 | y => VT y >>= fun q =>
  match q with
  | .inl _ => yo (wrT n dst y)
  | .inr (r, p, er, ec) => Qu r p er ec >>= fun _ => yo (wrT n dst y)
theorem z1L (n : Fr) (dst : Option Nat) (x : Operand) : Snd (nilCheckO n dst x) (Kx n dst x) := by
 refine zj (zm _) fun y => ?_
 have main : ∀ y : T, Snd (ptrOf y >>= fun q => match q with
  | .inl _ => wrT n dst y
  | .inr (r, p, er, ec) => lookP r p er ec >>= fun _ => wrT n dst y) (VT y >>= fun q =>
  match q with
  | .inl _ => yo (wrT n dst y)
  | .inr (r, p, er, ec) => Qu r p er ec >>= fun _ => yo (wrT n dst y)) := by
  intro y
  refine zj (VL _) fun q => ?_
  rcases q with z | ⟨r, p, er, ec⟩
  ·exact zm _
  ·exact zj (Jk _ _ _ _) fun _ => zm _
 cases y with
 | d a =>
  cases a with
  | fn f cs => exact zm _
  | _ => exact main _
 | _ => exact main _
def Uv (dflt : Nat) : Option Operand → HM Nat
 | none => pure dflt
 | some x => yo (opnd x) >>= fun t => Q3 t >>= fun v =>
  match v with
  | .atom (.int _ j) => kU (0 ≤ j) (pure j.toNat)
  | _ => zM
theorem XS (dflt : Nat) (x : Option Operand) : Snd (bound dflt x) (Uv dflt x) := by
 cases x with
 | none => exact wn _
 | some x =>
  refine zj (zm _) fun t => zj (Z1 _) fun v => ?_
  cases v with
  | atom v =>
   cases v with
   | int k j => exact qS (wn _)
   | _ => exact zo _
  | _ => exact zo _
def z4W (tt : TT) (n : Fr) (dst : Option Nat) (t : Nat) (x : Operand) (lo hi mx : Option Operand) : HM Unit := yo (opnd x) >>= fun y =>
 match y with
 | .d (.sl sz tg xs) =>
  if xN tt t = some sz then Uv 0 lo >>= fun l => Uv xs.length hi >>= fun h =>
   match mx with
   | none => kU (l ≤ h ∧ h ≤ xs.length) (eqA (.sl sz (tg && h == xs.length) ((xs.drop l).take (h - l))) >>= fun z => yo (wrT n dst (.d z)))
   | some _ => Uv 0 mx >>= fun m => if hi.isSome = true then kU (l ≤ h ∧ h ≤ m ∧ m ≤ xs.length) (eqA (.sl sz (m == h) ((xs.drop l).take (h - l))) >>= fun z => yo (wrT n dst (.d z))) else zM
  else zM
 | _ => zM
theorem z5V (tt : TT) (n : Fr) (dst : Option Nat) (t : Nat) (x : Operand) (lo hi mx : Option Operand) : Snd (sliceO tt n dst t x lo hi mx) (z4W tt n dst t x lo hi mx) := by
 refine zj (zm _) fun y => ?_
 cases y with
 | d a =>
  cases a with
  | sl sz tg xs =>
   refine vp (zj (XS _ _) fun l => zj (XS _ _) fun h => ?_) (zo _)
   cases mx with
   | none =>
    refine qS ?_
    exact Yu (y7 _ fun z => wrT n dst (.d z)).symm (zj (Kg _) fun _ => zm _)
   | some m =>
    refine zj (XS _ _) fun m => WQ (fun h1 h2 => ⟨h2.1, h2.2.1, h2.2.2, h1⟩) ?_
    exact Yu (y7 _ fun z => wrT n dst (.d z)).symm (zj (Kg _) fun _ => zm _)
  | _ => exact zo _
 | _ => exact zo _
def Qr (tt : TT) (n : Fr) (dst : Option Nat) (t : Nat) (l c : Operand) : HM Unit := yo (opnd l) >>= fun tl => Q3 tl >>= fun vl => yo (opnd c) >>= fun tc => Q3 tc >>= fun vc =>
 match vl, vc with
 | .atom (.int _ x), .atom (.int _ y) =>
  match tt t with
  | some ⟨.slice e, _, _, _, _⟩ =>
   match tt e with
   | some i =>
    match i.zero with
    | some z => if i.bytes ≤ 4096 then kU (0 ≤ x ∧ x ≤ y ∧ y ≤ lim) (eqA (.osl i.size (decide (x = y)) (List.replicate x.toNat z)) >>= fun r => yo (wrT n dst (.own r))) else zM
    | none => zM
   | none => zM
  | _ => zM
 | _, _ => zM
theorem z0f (tt : TT) (n : Fr) (dst : Option Nat) (t : Nat) (l c : Operand) : Snd (Z5 tt n dst t l c) (Qr tt n dst t l c) := by
 refine zj (zm _) fun tl => zj (Z1 _) fun vl => zj (zm _) fun tc => zj (Z1 _) fun vc => ?_
 cases vl with
 | atom v =>
  cases v with
  | int k x =>
   cases vc with
   | atom u =>
    cases u with
    | int k' y =>
     dsimp only
     generalize tt t = q
     rcases q with _ | ⟨k, a1, a2, a3, a4⟩
     ·exact zo _
     ·cases k with
      | slice e =>
       dsimp only
       generalize tt e = q
       cases q with
       | none => exact zo _
       | some i =>
        dsimp only
        cases i.zero with
        | none => exact zo _
        | some z =>
         refine WQ (fun h1 h2 => ⟨h2.1, h2.2.1, h2.2.2, h1⟩) ?_
         exact Yu (y7 _ fun z => wrT n dst (.own z)).symm (zj (Kg _) fun _ => zm _)
      | _ => exact zo _
    | _ => exact zo _
   | _ => exact zo _
  | _ => exact zo _
 | _ => exact zo _
def ZD (tt : TT) (n : Fr) (dst : Option Nat) (t len : Nat) (ps : List (Nat × Operand)) : HM Unit :=
 match tt t with
 | some ⟨.slice e, _, _, _, _⟩ =>
  match tt e with
  | some i =>
   match i.zero with
   | some z => z0I (ps.map fun p => (p.2, e)) tt >>= fun xs =>
    if U0 (List.replicate len z) ((ps.map (·.1)).zip xs) = true ∧ len * i.size ≤ 16777216 ∧ len ≤ lim then
     yo (wrT n dst (.own (.osl i.size true (XR (List.replicate len z) ((ps.map (·.1)).zip xs)))))
    else zM
   | none => zM
  | none => zM
 | _ => zM
theorem Wz (tt : TT) (n : Fr) (dst : Option Nat) (t len : Nat) (ps : List (Nat × Operand)) : Snd (uA tt n dst t len ps) (ZD tt n dst t len ps) := by
 unfold uA ZD
 generalize tt t = q
 rcases q with _ | ⟨k, a1, a2, a3, a4⟩
 ·exact zo _
 ·cases k with
  | slice e =>
   dsimp only
   generalize tt e = q
   cases q with
   | none => exact zo _
   | some i =>
    dsimp only
    cases i.zero with
    | none => exact zo _
    | some z => exact zj (z0d _ _) fun xs => vp (zm _) (zo _)
  | _ => exact zo _
def z3d (tt : TT) (n : Fr) (dst : Option Nat) (t : Nat) (ps : List (Nat × Operand)) : HM Unit :=
 match tt t with
 | some i =>
  match i.zero with
  | some (.agg zs) => z0I (ps.map fun p => (p.2, 0)) tt >>= fun xs =>
   if U0 zs ((ps.map (·.1)).zip xs) = true ∧ z13 tt t zs ((ps.map (·.1)).zip xs) = true ∧ i.kind.isAgg = true ∧ ((jZ tt t 0).isSome = true ∨ Ui i.kind = true) then
    yo (wrT n dst (mkT (.agg (XR zs ((ps.map (·.1)).zip xs)))))
   else zM
  | _ => zM
 | none => zM
theorem z67 (tt : TT) (n : Fr) (dst : Option Nat) (t : Nat) (ps : List (Nat × Operand)) : Snd (QE tt n dst t ps) (z3d tt n dst t ps) := by
 unfold QE z3d
 generalize tt t = q
 cases q with
 | none => exact zo _
 | some i =>
  dsimp only
  cases i.zero with
  | none => exact zo _
  | some z =>
   cases z with
   | agg zs => exact zj (z0d _ _) fun xs => vp (zm _) (zo _)
   | _ => exact zo _
def K8 (tt : TT) (ctr : Ctr) (n : Fr) (o : Oper) : HM Unit :=
 match o.op with
 | .assign x => yo (opnd x) >>= fun y =>
  match y with
  | .ptr r p er ec => yo (wrT n o.dst (.ptr r p er ec))
  | y => X5 tt o.type y >>= fun z => yo (wrT n o.dst (mkT z))
 | .binOp op xt x y _ => yo (opnd x) >>= fun tx => Q3 tx >>= fun vx => yo (opnd y) >>= fun ty => Q3 ty >>= fun vy => z7S tt n o.dst op xt vx vy
 | .unOp op _ x => yo (opnd x) >>= fun t => Q3 t >>= fun y => yo (ofO (unA op y) >>= fun r => wrT n o.dst (.d r))
 | .convert s t x => yo (opnd x) >>= fun y => Q3 y >>= fun v =>
  match v with
  | .atom (.int _ m) =>
   match tt s with
   | some _ =>
    match tt t with
    | some ⟨.int k, _, _, _, _⟩ => yo (wrT n o.dst (.d (.atom (.int k (k.wrap m)))))
    | _ => zM
   | none => zM
  | _ => zM
 | .pick c x y => z7x n o.dst c x y
 | .nilCheck x => Kx n o.dst x
 | .slice t x lo hi mx => z4W tt n o.dst t x lo hi mx
 | .load t x => yo (opnd x) >>= fun y => z5f tt n o.dst t y
 | .store t x v => if o.dst = none then yo (opnd x) >>= fun y => yo (opnd v) >>= fun z => z2e tt t y z else zM
 | .fieldAddr t x i => yo (opnd x) >>= fun y => Up tt n o.dst t i y
 | .indexAddr t x i => yo (opnd x) >>= fun y => yo (opnd i) >>= fun ti => Q3 ti >>= fun vi =>
  if (z4J tt t).isSome = true then Qw tt n o.dst t y vi else Ul tt n o.dst t y vi
 | .box t x => yo (opnd x) >>= fun y => X5 tt t y >>= fun z =>
  match z with
  | .tup _ => zM
  | z => if z.isAgg = true ∨ z.size = 1 then yo (wrT n o.dst (.own (.box z))) else zM
 | .makeSlice t l c => Qr tt n o.dst t l c
 | .buildSlice t len ps => ZD tt n o.dst t len ps.toList
 | .build t ps => z3d tt n o.dst t ps.toList
 | .makeFunc (.func f) ⟨[]⟩ caps => uj tt (caps.toList.map fun x => (x, 0)) >>= fun xs => if xs.all z0r = true then yo (wrT n o.dst (.d (.fn f xs))) else zM
 | .call ⟨.builtin .len, ⟨[x]⟩, ⟨[t]⟩⟩ => yo (opnd x) >>= fun y => z0o y >>= fun z => yo (ofO (lenOf z)) >>= fun m => if qQ tt t = true then eqA (.atom (.int .i64 m)) >>= fun r => yo (wrT n o.dst (.d r)) else zM
 | .call ⟨.builtin .cap, ⟨[x]⟩, ⟨[t]⟩⟩ => yo (opnd x) >>= fun y => z0o y >>= fun z => yo (ofO (z4C z)) >>= fun m => if qQ tt t = true then eqA (.atom (.int .i64 m)) >>= fun r => yo (wrT n o.dst (.d r)) else zM
 | .call ⟨.builtin .append, ⟨[s, x]⟩, ⟨[t, t']⟩⟩ => if t = t' then yo (opnd s) >>= fun ts => yo (opnd x) >>= fun tx => z0o tx >>= fun y =>
   match y with
   | .osl _ _ ys => z7V (A.areD ys) >>= fun b => match b with | true => Vw tt n o.dst t ts tx | false => YR tt n o.dst t s x
   | _ => Vw tt n o.dst t ts tx
  else zM
 | .call ⟨.value f, args, tys⟩ => if args.size = tys.size then yo (opnd f) >>= fun tf => Q3 tf >>= fun vf => z3c tt ctr n o.dst vf (args.toList.zip tys.toList) else zM
 | _ => yo (stepO tt ctr n o)
theorem z7p (tt : TT) (n : Fr) (dst : Option Nat) (s t : Nat) (v : A) : Snd (match v with
  | .atom (.int _ m) =>
   match tt s with
   | some _ =>
    match tt t with
    | some ⟨.int k, _, _, _, _⟩ => wrT n dst (.d (.atom (.int k (k.wrap m))))
    | _ => zq
   | none => zq
  | _ => zq : SM Unit) (match v with
  | .atom (.int _ m) =>
   match tt s with
   | some _ =>
    match tt t with
    | some ⟨.int k, _, _, _, _⟩ => yo (wrT n dst (.d (.atom (.int k (k.wrap m)))))
    | _ => zM
   | none => zM
  | _ => zM) := by
 cases v with
 | atom u =>
  cases u with
  | int k m =>
   dsimp only
   generalize tt s = q
   cases q with
   | none => exact zo _
   | some _ =>
    dsimp only
    generalize tt t = q
    rcases q with _ | ⟨k, a1, a2, a3, a4⟩
    ·exact zo _
    ·cases k <;> first | exact zm _ | exact zo _
  | _ => exact zo _
 | _ => exact zo _
theorem z0e (tt : TT) (ctr : Ctr) (n : Fr) (o : Oper) : Snd (stepO tt ctr n o) (K8 tt ctr n o) := by
 unfold stepO K8
 cases ho : o.op with
 | move x => exact sdLift' ho
 | assign x =>
  refine zj (zm _) fun y => ?_
  cases y with
  | ptr r p er ec => exact zm _
  | _ => exact zj (YH _ _ _) fun z => zm _
 | binOp op xt x y yt => exact zj (zm _) fun tx => zj (Z1 _) fun vx => zj (zm _) fun ty => zj (Z1 _) fun vy => z7q _ _ _ _ _ _ _
 | unOp op xt x => exact zj (zm _) fun t => zj (Z1 _) fun y => zm _
 | convert s t x => exact zj (zm _) fun y => zj (Z1 _) fun v => z7p _ _ _ _ _ _
 | pick c x y => exact z7n _ _ _ _ _
 | extract x i => exact sdLift' ho
 | nilCheck x => exact z1L _ _ _
 | slice t x lo hi mx => exact z5V _ _ _ _ _ _ _ _
 | load t x => exact zj (zm _) fun y => z62 _ _ _ _ _
 | store t x v => exact vp (zj (zm _) fun y => zj (zm _) fun z => z3W _ _ _ _) (zo _)
 | fieldAddr t x i => exact zj (zm _) fun y => Kf _ _ _ _ _ _
 | indexAddr t x i => exact zj (zm _) fun y => zj (zm _) fun ti => zj (Z1 _) fun vi => vp (z0g _ _ _ _ _ _) (Ke _ _ _ _ _ _)
 | alloc t => exact sdLift' ho
 | box t x =>
  refine zj (zm _) fun y => zj (YH _ _ _) fun z => ?_
  cases z <;> first | exact zo _ | exact vp (zm _) (zo _)
 | makeSlice t l c => exact z0f _ _ _ _ _ _
 | buildSlice t len ps => exact Wz _ _ _ _ _ _
 | build t ps => exact z67 _ _ _ _ _
 | makeFunc fn first caps =>
  cases fn with
  | func f =>
   obtain ⟨l⟩ := first
   cases l with
   | nil => exact zj (qE _ _) fun xs => vp (zm _) (zo _)
   | cons _ _ => exact sdLift' ho
  | _ => exact sdLift' ho
 | call c =>
  obtain ⟨callee, ⟨args⟩, ⟨tys⟩⟩ := c
  cases callee with
  | value f => exact vp (zj (zm _) fun tf => zj (Z1 _) fun vf => z65 _ _ _ _ _ _) (zo _)
  | invoke r m => exact sdLift' ho
  | builtin b =>
   cases b with
   | len =>
    rcases args with _ | ⟨x, _ | ⟨y, l⟩⟩ <;> rcases tys with _ | ⟨t, _ | ⟨t', l'⟩⟩ <;> first | exact sdLift' ho | exact zj (zm _) fun y => zj (Qi _) fun z => zj (zm _) fun m => vp (Yu (y7 _ fun r => wrT n o.dst (.d r)).symm (zj (Kg _) fun r => zm _)) (zo _)
   | cap =>
    rcases args with _ | ⟨x, _ | ⟨y, l⟩⟩ <;> rcases tys with _ | ⟨t, _ | ⟨t', l'⟩⟩ <;> first | exact sdLift' ho | exact zj (zm _) fun y => zj (Qi _) fun z => zj (zm _) fun m => vp (Yu (y7 _ fun r => wrT n o.dst (.d r)).symm (zj (Kg _) fun r => zm _)) (zo _)
   | append =>
    rcases args with _ | ⟨x, _ | ⟨y, _ | ⟨z, l⟩⟩⟩ <;> rcases tys with _ | ⟨t, _ | ⟨t', _ | ⟨t'', l'⟩⟩⟩ <;> first | exact sdLift' ho | skip
    refine vp (zj (zm _) fun ts => zj (zm _) fun tx => zj (Qi _) fun w => ?_) (zo _)
    cases w with
    | osl sz tg ys =>
     dsimp only
     refine Yu (m' := pure (A.areD ys) >>= fun b => match b with | true => appendA tt n o.dst t ts tx | false => appendOwnA tt n o.dst t x y) ?_ (zj (z2m _) fun b => ?_)
     ·rw [y7]
      cases A.areD ys <;> rfl
     ·cases b
      ·exact Kh _ _ _ _ _ _
      ·exact Ki _ _ _ _ _ _
    | _ => exact Ki _ _ _ _ _ _
   | _ => exact sdLift' ho
 | _ => exact sdLift' ho
where sdLift' {op : Op} {tt : TT} {ctr : Ctr} {n : Fr} {o : Oper} {m : SM Unit} (ho : o.op = op) (e : stepO tt ctr n o = m := by first | rfl | (unfold stepO; simp only [ho])) : Snd m (yo (stepO tt ctr n o)) := e ▸ zm _
end Go.Own

namespace Go.Own
def z9t (mx : Bool) : A → A → Option A
 | .atom (.int k a), .atom (.int k' b) => if k = k' then some (.atom (.int k (if mx = true then (if a < b then b else a) else (if b < a then b else a)))) else none
 | _, _ => none
def minO (n : Fr) (dst : Option Nat) (mx : Bool) (x y : Operand) : SM Unit := do
 let tx ← opnd x
 let vx ← val tx
 let ty ← opnd y
 let vy ← val ty
 let r ← ofO (z9t mx vx vy)
 wrT n dst (.d r)
def cutO (tt : TT) (n : Fr) (dst : Option Nat) (t : Nat) (x hi : Operand) : SM Unit := do
 let y ← opnd x
 let z ← take y
 match z with
 | .osl sz _ es =>
  if xN tt t = some sz then (bound es.length (some hi) >>= fun h => if h ≤ es.length then wrT n dst (.own (.osl sz false (es.take h))) else zq)
  else zq
 | _ => zq
section
variable {C : Ctx} {S : zl} {Fp : Nat → List Nat} {X : List Nat} {st : St} {a : Act} {w : World}
theorem z5c {P : Program} (h : Sim C S Fp [] st a w) {o : Oper} {mx : Bool} {x y : Operand} {t1 t2 : Nat} (ho : o.op = .call ⟨.builtin (if mx = true then .max else .min), ⟨[x, y]⟩, ⟨[t1, t2]⟩⟩) {u : Unit} {R : List Nat} {U : List (Nat × Ent)} (e : minO C.n o.dst mx x y st = some (u, R, U)) : uf P C o a w (zc U st) := by
 unfold minO at e
 obtain ⟨tx, R1, U1, R2, U2, h1, e1, rfl, rfl⟩ := bind_some e
 obtain ⟨rfl, hx⟩ := zP h h1
 obtain ⟨vx, R3, U3, R4, U4, h3, e2, rfl, rfl⟩ := bind_some e1
 obtain ⟨rfl, qx⟩ := uC h hx h3
 simp only [zc, List.nil_append] at e2 ⊢
 obtain ⟨ty, R5, U5, R6, U6, h5, e3, rfl, rfl⟩ := bind_some e2
 obtain ⟨rfl, hy⟩ := zP h h5
 obtain ⟨vy, R7, U7, R8, U8, h7, e4, rfl, rfl⟩ := bind_some e3
 obtain ⟨rfl, qy⟩ := uC h hy h7
 simp only [zc, List.nil_append] at e4 ⊢
 obtain ⟨r, R9, U9, R10, U10, h9, e5, rfl, rfl⟩ := bind_some e4
 obtain ⟨hr, rfl, rfl⟩ := vm h9
 simp only [zc, List.nil_append] at e5 ⊢
 unfold z9t at hr
 split at hr
 ·split at hr
  ·rename_i hk
   simp only [Option.some.injEq] at hr
   subst hr hk
   obtain ⟨ex, _⟩ := zy.1 qx
   obtain ⟨ey, _⟩ := zy.1 qy
   obtain ⟨Fp', hs⟩ := wz h e5 (x := .d _) (zy.2 ⟨rfl, rfl⟩)
   refine zt ?_ hs
   cases mx
   ·simp [execOp, ho, resolve, invoke, builtin, ex, ey, Builtin.min_, Builtin.min2]
   ·simp [execOp, ho, resolve, invoke, builtin, ex, ey, Builtin.max_, Builtin.max2]
  ·cases hr
 ·cases hr
theorem QB {S : zl} {h : Array Obj} {xs : List A} {cs : List Value} {F : List Nat} (q : zL S h xs cs F) (k : Nat) : ∃ F', zL S h (xs.take k) (cs.take (A.sizes (xs.take k))) F' ∧ (∀ b ∈ F', b ∈ F) ∧ (F.Nodup → F'.Nodup) := by
 induction xs generalizing cs F k with
 | nil =>
  simp only [zL] at q
  obtain ⟨rfl, rfl⟩ := q
  exact ⟨[], by simp [zL], by simp, by simp⟩
 | cons x xs ih =>
  cases k with
  | zero => exact ⟨[], by simp [zL, A.sizes], by simp, by simp⟩
  | succ k =>
   simp only [zL] at q
   obtain ⟨c1, c2, F1, F2, rfl, rfl, q1, q2⟩ := q
   obtain ⟨F', g1, g2, g3⟩ := ih q2 k
   refine ⟨F1 ++ F', ?_, ?_, ?_⟩
   ·simp only [List.take_succ_cons, zL, A.sizes]
    refine ⟨c1, c2.take (A.sizes (xs.take k)), F1, F', ?_, rfl, q1, g1⟩
    rw [List.take_append, q1.len, List.take_of_length_le (by rw [q1.len]; omega)]
    simp
   ·intro b hb
    rcases List.mem_append.1 hb with hb | hb
    ·simp [hb]
    ·simp [g2 b hb]
   ·intro hn
    rw [List.nodup_append] at hn ⊢
    refine ⟨hn.1, g3 hn.2.1, ?_⟩
    intro k hk k' hk'
    exact hn.2.2 k hk k' (g2 k' hk')
theorem z7O {P : Program} {tt : TT} (hT : vw P tt) (h : Sim C S Fp [] st a w) {o : Oper} {t : Nat} {x hi : Operand} (ho : o.op = .slice t x none (some hi) none) {u : Unit} {R : List Nat} {U : List (Nat × Ent)} (e : cutO tt C.n o.dst t x hi st = some (u, R, U)) : uf P C o a w (zc U st) := by
 unfold cutO at e
 obtain ⟨y, R1, U1, R2, U2, h1, e1, rfl, rfl⟩ := bind_some e
 obtain ⟨rfl, hx⟩ := zP h h1
 simp only [zc, List.nil_append] at e1 ⊢
 obtain ⟨z, R3, U3, R4, U4, h3, e2, rfl, rfl⟩ := bind_some e1
 obtain ⟨Fp', F, g1, g2⟩ := Jd h hx h3
 rw [zw]
 cases z with
 | osl sz tg es =>
  simp only at e2
  split at e2
  ·rename_i hel
   obtain ⟨hh, R5, U5, R6, U6, h5, e3, rfl, rfl⟩ := bind_some e2
   obtain ⟨rfl, b2⟩ := Yn g1 h5
   simp only [zc, List.nil_append] at e3 ⊢
   split at e3
   ·rename_i hle
    obtain ⟨el, he, hsz⟩ := vn hT hel w
    obtain ⟨cs, k1, k2, k3⟩ : ∃ cs, zO S w.heap (.osl sz tg es) cs F ∧ F.Nodup ∧ a.eval x = zZ (.osl sz tg es) cs := by
     rcases g2 with ⟨q, _⟩ | q
     ·simp only [xx, vM, Rep, false_and, exists_false] at q
     ·exact q
    simp only [zO] at k1
    obtain ⟨p, c, rfl, t1, t2, t3, t4, t5⟩ := k1
    have ev : a.eval x = .slice p es.length c := k3
    have hrun := jT (P := P) (w := w) he hsz (p := p) (len := es.length) (c := c) (lo := none) (mx := none) (.inl ⟨rfl, rfl⟩) (Yo b2) (.inl ⟨rfl, rfl⟩) (Nat.zero_le _) (by omega) (Nat.le_refl c) (by simp)
    have hp : (if c = 0 then p else p.map (·.add (0 * sz))) = p := by
     split
     ·rfl
     ·cases p <;> simp [Addr.add]
    rw [hp] at hrun
    have hlen : (es.take hh).length = hh := by simp; omega
    have ht4 : ∀ x ∈ es.take hh, x.size = sz := fun x hx => t4 x (List.mem_of_mem_take hx)
    obtain ⟨F2, cs2, m1, m2, m3, m4⟩ : ∃ F2 cs2, zO S w.heap (.osl sz false (es.take hh)) cs2 F2 ∧ F2.Nodup ∧ (∀ k ∈ F2, k ∈ F) ∧ zZ (.osl sz false (es.take hh)) cs2 = .slice p hh c := by
     rcases t5 with ⟨rfl, rfl, rfl, rfl⟩ | ⟨b, arr, ty, l, F', rfl, e1, e2, e3, e4, rfl, e5⟩
     ·have : hh = 0 := by simp at hle; omega
      subst this
      refine ⟨[], [.slice none 0 0], ?_, by simp, by simp, rfl⟩
      simp only [zO]
      exact ⟨none, 0, by simp, by simp, by simp, Nat.zero_le _, by simp, .inl (by simp)⟩
     ·obtain ⟨F3, q1, q2, q3⟩ := QB e4 hh
      have hn := List.nodup_cons.1 k2
      refine ⟨b :: F3, [.slice (some ⟨b, 0, none⟩) hh c], ?_, List.nodup_cons.2 ⟨fun q => hn.1 (q2 b q), q3 hn.2⟩, ?_, rfl⟩
      ·simp only [zO]
       refine ⟨some ⟨b, 0, none⟩, c, by rw [hlen], by simp, by rw [hlen]; omega, t3, ht4, .inr ⟨b, arr, ty, _, F3, rfl, e1, e2, ?_, q1, rfl, e5⟩⟩
       rw [← e3, List.take_take, A.sizes_const ht4, hlen]
       congr 1
       have := Nat.mul_le_mul_right sz hle
       omega
      ·intro k hk
       rcases List.mem_cons.1 hk with rfl | hk
       ·simp
       ·simp [q2 k hk]
    have g1' : Sim C S Fp' (F2 ++ []) (zc U3 st) a w := g1.mem g1.below (fun _ _ _ h => h) g1.still g1.sbase (fun t' k hk => ⟨rfl, (g1.free t' k hk).2.1⟩) (by simpa using m2) (fun t' k hk => g1.xd t' k (by simp at hk ⊢; exact m3 k hk)) (fun k hk => g1.xb k (by simp at hk ⊢; exact m3 k hk))
    obtain ⟨Fp'', hs⟩ := ZQ g1' e3 m1 m2
    rw [m4] at hs
    refine zt ?_ hs
    simp only [Nat.sub_zero] at hrun
    simp only [Option.map_some] at hrun
    simp [execOp, ho, ev, hrun]
   ·exact (z8 e3).elim
  ·exact (z8 e2).elim
 | _ => exact (z8 e2).elim
end
theorem z3Y {P : Program} {tt : TT} (hT : vw P tt) {t : Nat} {y : A} (hf : k9 tt t y = true) {w : World} {c1 cs c2 : List Value} (hl : cs.length = y.size) :
  (part t (c1 ++ cs ++ c2).toArray c1.length).run P w = .ok (zZ y cs) w := by
 unfold k9 at hf
 split at hf
 ·rename_i i hi
  simp only [Bool.and_eq_true, beq_iff_eq, Bool.or_eq_true] at hf
  obtain ⟨⟨h1, h2⟩, h3⟩ := hf
  have hk := VM (hT t i hi).kind w
  unfold part
  simp only [Sem.run_bind, hk, Result.andThen_ok, Sem.run_ite]
  by_cases ha : i.kind.isAgg = true
  ·rw [if_pos ha]
   rw [h1] at ha
   cases y <;> simp [A.isAgg] at ha
   simp only [vD hT hi, Result.andThen_ok, h2, ← hl, Sem.run_pure, zZ]
   congr 2
   simp [List.extract_eq_take_drop]
  ·rw [if_neg ha]
   have h4 : i.size = 1 := by simpa [ha] using h3
   have hlen : cs.length = 1 := by omega
   obtain ⟨c, rfl⟩ := List.length_eq_one_iff.1 hlen
   rw [h1] at ha
   have : ((c1 ++ [c] ++ c2).toArray)[c1.length]? = some c := by simp
   rw [this]
   cases y <;> simp_all [A.isAgg, zZ]
 ·cases hf
def z90 (tt : TT) (t : Nat) : Option (Nat × Nat) :=
 match tt t with
 | some ⟨.array n e, _, _, _, _⟩ => some (n, e)
 | _ => none
def indexO (tt : TT) (n : Fr) (dst : Option Nat) (t : Nat) (x i : Operand) : SM Unit := do
 let tx ← opnd x
 let vx ← val tx
 let ti ← opnd i
 let vi ← val ti
 match vx, vi with
 | .agg fs, .atom (.int _ j) =>
  match z90 tt t with
  | some (m, e) => match fs[j.toNat]? with
   | some y => if 0 ≤ j ∧ j < (m : Int) ∧ k9 tt e y = true ∧ y.isD = true ∧ (fs.take j.toNat).all (fun z => z.size == y.size) = true then wrT n dst (.d y) else zq
   | none => zq
  | none => zq
 | _, _ => zq
theorem z4r {P : Program} {tt : TT} (hT : vw P tt) {C : Ctx} {S : zl} {Fp : Nat → List Nat} {st : St} {a : Act} {w : World} (h : Sim C S Fp [] st a w) {o : Oper} {t : Nat} {x i : Operand} (ho : o.op = .index t x i) {u : Unit} {R : List Nat} {U : List (Nat × Ent)} (e : indexO tt C.n o.dst t x i st = some (u, R, U)) : uf P C o a w (zc U st) := by
 unfold indexO at e
 obtain ⟨tx, R1, U1, R2, U2, h1, e1, rfl, rfl⟩ := bind_some e
 obtain ⟨rfl, hx⟩ := zP h h1
 obtain ⟨vx, R3, U3, R4, U4, h3, e2, rfl, rfl⟩ := bind_some e1
 obtain ⟨rfl, qx⟩ := uC h hx h3
 simp only [zc, List.nil_append] at e2 ⊢
 obtain ⟨ty, R5, U5, R6, U6, h5, e3, rfl, rfl⟩ := bind_some e2
 obtain ⟨rfl, hy⟩ := zP h h5
 obtain ⟨vy, R7, U7, R8, U8, h7, e4, rfl, rfl⟩ := bind_some e3
 obtain ⟨rfl, qy⟩ := uC h hy h7
 simp only [zc, List.nil_append] at e4 ⊢
 split at e4
 ·rename_i fs k j
  cases ha : z90 tt t with
  | none => simp only [ha] at e4; exact (z8 e4).elim
  | some q =>
   obtain ⟨m, el⟩ := q
   simp only [ha] at e4
   cases hf : fs[j.toNat]? with
   | none => simp only [hf] at e4; exact (z8 e4).elim
   | some y =>
    simp only [hf] at e4
    split at e4
    ·rename_i hc
     obtain ⟨c1, c2, c3, c4, c5⟩ := hc
     have hk : P.underlying t = some (.array m el) := by
      unfold z90 at ha
      split at ha
      ·rename_i ht; cases ha; exact (hT _ _ ht).kind
      ·cases ha
     obtain ⟨i', hi⟩ : ∃ i', tt el = some i' := by
      unfold k9 at c3
      split at c3
      ·exact ⟨_, by assumption⟩
      ·cases c3
     obtain ⟨cs, r1, r2⟩ := (qx : vM S (.agg fs) (a.eval x))
     simp only [Rep] at r1
     obtain ⟨d1, ci, d2, rfl, hl, hr⟩ := Xd r1 hf
     have ei := (zy.1 qy).1
     have hsz : i'.size = y.size := by
      unfold k9 at c3
      rw [hi] at c3
      simp only [Bool.and_eq_true, beq_iff_eq] at c3
      exact c3.1.2
     have hoff : d1.length = j.toNat * i'.size := by
      rw [hl, A.sizes_const (sz := y.size) (fun z hz => by simpa using List.all_eq_true.1 c5 z hz), List.length_take, hsz]
      congr 1
      have := (List.getElem?_eq_some_iff.1 hf).1
      omega
     obtain ⟨Fp', hs⟩ := wz h e4 (x := .d y) (vM.repV ⟨ci, hr, rfl⟩)
     refine zt ?_ hs
     have hp := z3Y (P := P) hT c3 (w := w) (c1 := d1) (c2 := d2) hr.len
     rw [hoff] at hp
     have ex : a.eval x = .agg (d1 ++ ci ++ d2).toArray := r2
     simp only [execOp, ho, Instr.index, asIntOf, ei, ex, Sem.run_bind, Sem.run_pure, Result.andThen_ok, run_underlying hk, c1, c2, and_self, if_true, vD hT hi, hp]
    ·exact (z8 e4).elim
 ·exact (z8 e4).elim
def z6V (tt : TT) (n : Fr) (o : Oper) : Option (SM Unit) :=
 match o.op with
 | .call ⟨.builtin .min, ⟨[x, y]⟩, ⟨[_, _]⟩⟩ => some (minO n o.dst false x y)
 | .call ⟨.builtin .max, ⟨[x, y]⟩, ⟨[_, _]⟩⟩ => some (minO n o.dst true x y)
 | .index t x i => some (indexO tt n o.dst t x i)
 | _ => none
theorem Loc.indexO (tt : TT) (n : Fr) (dst : Option Nat) (t : Nat) (x i : Operand) : Loc (indexO tt n dst t x i) := by
 unfold Go.Own.indexO
 refine Loc.bind (Loc.opnd _) fun _ => Loc.bind (Loc.val _) fun _ => Loc.bind (Loc.opnd _) fun _ => Loc.bind (Loc.val _) fun _ => ?_
 split
 ·split
  ·split
   ·exact Loc.ite (Loc.wrT _ _ _) Loc.fail
   ·exact Loc.fail
  ·exact Loc.fail
 ·exact Loc.fail
theorem Loc.minO (n : Fr) (dst : Option Nat) (mx : Bool) (x y : Operand) : Loc (minO n dst mx x y) := by
 unfold Go.Own.minO
 exact Loc.bind (Loc.opnd _) fun _ => Loc.bind (Loc.val _) fun _ => Loc.bind (Loc.opnd _) fun _ => Loc.bind (Loc.val _) fun _ => Loc.bind (Loc.ofO _) fun _ => Loc.wrT _ _ _
theorem Loc.cutO (tt : TT) (n : Fr) (dst : Option Nat) (t : Nat) (x hi : Operand) : Loc (cutO tt n dst t x hi) := by
 unfold Go.Own.cutO
 refine Loc.bind (Loc.opnd _) fun _ => Loc.bind (Loc.take _) fun z => ?_
 cases z with
 | osl sz tg es => exact Loc.ite (Loc.bind (Loc.bound _ _) fun _ => Loc.ite (Loc.wrT _ _ _) Loc.fail) Loc.fail
 | _ => exact Loc.fail
theorem z6B {P : Program} {tt : TT} (hT : vw P tt) : US P (z6V tt) := by
 refine ⟨?_, ?_⟩
 ·intro C S Fp st a w o m u R U e h h2
  unfold z6V at e
  split at e
  ·rename_i ho; cases e; exact z5c (mx := false) h ho h2
  ·rename_i ho; cases e; exact z5c (mx := true) h ho h2
  ·rename_i ho; cases e; exact z4r hT h ho h2
  ·cases e
 ·intro n o m e
  unfold z6V at e
  split at e
  ·cases e; exact fun st st' a R U => Loc.minO _ _ _ _ _ st st' a R U
  ·cases e; exact fun st st' a R U => Loc.minO _ _ _ _ _ st st' a R U
  ·cases e; exact fun st st' a R U => Loc.indexO _ _ _ _ _ _ st st' a R U
  ·cases e
def Qz (tt : TT) (d : Nat) (n : Fr) (o : Oper) : Option (SM Unit) :=
 match o.op with
 | .slice t x none (some hi) none => if o.dst = some d then some (cutO tt n o.dst t x hi) else none
 | _ => none
theorem z31 {P : Program} {tt : TT} (hT : vw P tt) (d : Nat) : US P (Qz tt d) := by
 refine ⟨?_, ?_⟩
 ·intro C S Fp st a w o m u R U e h h2
  unfold Qz at e
  split at e
  ·rename_i ho
   split at e
   ·cases e; exact z7O hT h ho h2
   ·cases e
  ·cases e
 ·intro n o m e
  unfold Qz at e
  split at e
  ·split at e
   ·cases e; exact fun st st' a R U => Loc.cutO _ _ _ _ _ _ st st' a R U
   ·cases e
  ·cases e
structure XH (P : Program) where
 e : Fr → Oper → Option (SM Unit)
 h : Fr → Oper → Option (HM Unit)
 ok : US P e
 none : ∀ n o, e n o = none → h n o = none
 some : ∀ n o m, e n o = some m → ∃ q, h n o = some q ∧ Snd m q
def XH.or {P : Program} (x y : XH P) : XH P := {
 e := fun n o => match x.e n o with | .some m => .some m | .none => y.e n o
 h := fun n o => match x.h n o with | .some m => .some m | .none => y.h n o
 ok := by
  refine ⟨?_, ?_⟩
  ·intro C S Fp st a w o m u R U e
   cases hx : x.e C.n o with
   | some m' => simp only [hx] at e; cases e; exact x.ok.1 C S Fp st a w o _ u R U hx
   | none => simp only [hx] at e; exact y.ok.1 C S Fp st a w o _ u R U e
  ·intro n o m e
   cases hx : x.e n o with
   | some m' => simp only [hx] at e; cases e; exact x.ok.2 n o _ hx
   | none => simp only [hx] at e; exact y.ok.2 n o _ e
 none := by
  intro n o e
  cases hx : x.e n o with
  | some m' => simp only [hx] at e; cases e
  | none => simp only [hx] at e; simp only [x.none n o hx]; exact y.none n o e
 some := by
  intro n o m e
  cases hx : x.e n o with
  | some m' =>
   simp only [hx] at e; cases e
   obtain ⟨q, h1, h2⟩ := x.some n o _ hx
   exact ⟨q, by simp only [h1], h2⟩
  | none =>
   simp only [hx] at e
   obtain ⟨q, h1, h2⟩ := y.some n o _ e
   exact ⟨q, by simp only [x.none n o hx]; exact h1, h2⟩ }
def z9s (n : Fr) (dst : Option Nat) (mx : Bool) (x y : Operand) : HM Unit := yo (opnd x) >>= fun tx => Q3 tx >>= fun vx => yo (opnd y) >>= fun ty => Q3 ty >>= fun vy => yo (ofO (z9t mx vx vy) >>= fun r => wrT n dst (.d r))
theorem z7o (n : Fr) (dst : Option Nat) (mx : Bool) (x y : Operand) : Snd (minO n dst mx x y) (z9s n dst mx x y) :=
 zj (zm _) fun _ => zj (Z1 _) fun _ => zj (zm _) fun _ => zj (Z1 _) fun _ => zm _
def zaG (tt : TT) (n : Fr) (dst : Option Nat) (t : Nat) (x hi : Operand) : HM Unit := yo (opnd x) >>= fun y => z2a y >>= fun z =>
 match z with
 | .osl sz _ es => if xN tt t = some sz then Uv es.length (some hi) >>= fun h => kU (h ≤ es.length) (eqL (es.take h) >>= fun xs => yo (wrT n dst (.own (.osl sz false xs)))) else zM
 | _ => zM
theorem z9i (tt : TT) (n : Fr) (dst : Option Nat) (t : Nat) (x hi : Operand) : Snd (cutO tt n dst t x hi) (zaG tt n dst t x hi) := by
 refine zj (zm _) fun y => zj (z0U _) fun z => ?_
 cases z with
 | osl sz tg es =>
  refine vp (zj (XS _ _) fun h => qS ?_) (zo _)
  exact Yu (y7 _ fun xs => wrT n dst (.own (.osl sz false xs))).symm (zj (z0i _) fun _ => zm _)
 | _ => exact zo _
def z5g (tt : TT) (n : Fr) (dst : Option Nat) (t : Nat) (x i : Operand) : HM Unit := yo (opnd x) >>= fun tx => Q3 tx >>= fun vx => yo (opnd i) >>= fun ti => Q3 ti >>= fun vi =>
 yo (match vx, vi with
 | .agg fs, .atom (.int _ j) =>
  match z90 tt t with
  | some (m, e) => match fs[j.toNat]? with
   | some y => if 0 ≤ j ∧ j < (m : Int) ∧ k9 tt e y = true ∧ y.isD = true ∧ (fs.take j.toNat).all (fun z => z.size == y.size) = true then wrT n dst (.d y) else zq
   | none => zq
  | none => zq
 | _, _ => zq)
theorem z63 (tt : TT) (n : Fr) (dst : Option Nat) (t : Nat) (x i : Operand) : Snd (indexO tt n dst t x i) (z5g tt n dst t x i) :=
 zj (zm _) fun _ => zj (Z1 _) fun _ => zj (zm _) fun _ => zj (Z1 _) fun _ => zm _
def xB {P : Program} {tt : TT} (hT : vw P tt) : XH P := {
 e := z6V tt
 h := fun n o => match o.op with
  | .call ⟨.builtin .min, ⟨[x, y]⟩, ⟨[_, _]⟩⟩ => some (z9s n o.dst false x y)
  | .call ⟨.builtin .max, ⟨[x, y]⟩, ⟨[_, _]⟩⟩ => some (z9s n o.dst true x y)
  | .index t x i => some (z5g tt n o.dst t x i)
  | _ => none
 ok := z6B hT
 none := by
  intro n o e
  unfold z6V at e
  split at e
  ·cases e
  ·cases e
  ·cases e
  ·rfl
 some := by
  intro n o m e
  unfold z6V at e
  split at e
  ·rename_i ho; cases e; exact ⟨_, by simp only [ho], z7o _ _ _ _ _⟩
  ·rename_i ho; cases e; exact ⟨_, by simp only [ho], z7o _ _ _ _ _⟩
  ·rename_i ho; cases e; exact ⟨_, by simp only [ho], z63 _ _ _ _ _ _⟩
  ·cases e }
def KZ {P : Program} {tt : TT} (hT : vw P tt) (d : Nat) : XH P := {
 e := Qz tt d
 h := fun n o => match o.op with
  | .slice t x none (some hi) none => if o.dst = some d then some (zaG tt n o.dst t x hi) else none
  | _ => none
 ok := z31 hT d
 none := by
  intro n o e
  unfold Qz at e
  split at e
  ·rename_i ho
   split at e
   ·cases e
   ·rename_i hd; simp only [ho, if_neg hd]
  ·rfl
 some := by
  intro n o m e
  unfold Qz at e
  split at e
  ·rename_i ho
   split at e
   ·rename_i hd; cases e; exact ⟨_, by simp only [ho, if_pos hd], z9i _ _ _ _ _ _⟩
   ·cases e
  ·cases e }
theorem z2V {P : Program} {C : Ctx} {S : zl} {Fp : Nat → List Nat} {st : St} {a : Act} {w : World} {o : Oper} {ks : List Nat} {m : SM Unit} (hm : ∀ S Fp st, Sim C S Fp [] st a w → ∀ u R U, m st = some (u, R, U) → uf P C o a w (zc U st)) (h : Sim C S Fp [] st a w) {u : Unit} {R : List Nat} {U : List (Nat × Ent)}
  (e : (shutArgs (fun _ => none) (ks.map fun k => (.tmp k, 0)) >>= fun _ => m) st = some (u, R, U)) : uf P C o a w (zc U st) := by
 obtain ⟨xs, R1, U1, R2, U2, h1, e1, rfl, rfl⟩ := bind_some e
 obtain ⟨S1, Fp1, g1, _⟩ := w9 h h1
 rw [zw]
 exact hm _ _ _ g1 _ _ _ e1
def zaB (d : Nat ⊕ Nat) (o : Oper) : Bool :=
 match d with
 | .inl d => o.dst == some d
 | .inr p => match o.op with | .store _ (.tmp q) _ => q == p | _ => false
def Uq (tt : TT) (d : Nat ⊕ Nat) (ks : List Nat) (n : Fr) (o : Oper) : Option (SM Unit) :=
 if zaB d o = true then some (shutArgs (fun _ => none) (ks.map fun k => (.tmp k, 0)) >>= fun _ => stepO tt Xk n o) else none
def zC {P : Program} {tt : TT} (hT : vw P tt) (d : Nat ⊕ Nat) (ks : List Nat) : XH P := {
 e := Uq tt d ks
 h := fun n o => if zaB d o = true then some (uj (fun _ => none) (ks.map fun k => (.tmp k, 0)) >>= fun _ => K8 tt Xk n o) else none
 ok := by
  refine ⟨?_, ?_⟩
  ·intro C S Fp st a w o m u R U e h h2
   unfold Uq at e
   split at e
   ·cases e
    exact z2V (fun S Fp st h u R U e => Je hT (z0B P) h e) h h2
   ·cases e
  ·intro n o m e
   unfold Uq at e
   split at e
   ·cases e
    exact fun st st' a R U => Loc.bind (Loc.shutArgs _ _) (fun _ => Loc.stepO _ _ _ _) st st' a R U
   ·cases e
 none := by
  intro n o e
  unfold Uq at e
  split at e
  ·cases e
  ·rename_i hd; rw [if_neg hd]
 some := by
  intro n o m e
  unfold Uq at e
  split at e
  ·rename_i hd; cases e
   exact ⟨_, by rw [if_pos hd], zj (qE _ _) fun _ => z0e _ _ _ _⟩
  ·cases e }
end Go.Own

namespace Go.Own
def z0M {P : Program} (X : XH P) (tt : TT) (ctr : Ctr) (n : Fr) (o : Oper) : HM Unit :=
 match X.h n o with
 | some q => q
 | none => K8 tt (ctr.withE X.e) n o
theorem z2i {P : Program} (X : XH P) (tt : TT) (ctr : Ctr) (n : Fr) (o : Oper) : Snd (stepX tt (ctr.withE X.e) n o) (z0M X tt ctr n o) := by
 unfold stepX z0M
 cases he : X.e n o with
 | none =>
  rw [X.none n o he]
  exact Yu (by simp only [he]) (z0e _ _ _ _)
 | some m =>
  obtain ⟨q, h1, h2⟩ := X.some n o m he
  rw [h1]
  exact Yu (by simp only [he]) h2
def z0b {P : Program} (X : XH P) (tt : TT) (ctr : Ctr) (n : Fr) (ops : Array Oper) (o : Oper) : HM Unit :=
 match o.guard with
 | none => z0M X tt ctr n o
 | some (j, want) =>
  match (ops[j]?).bind (·.dst) with
  | some g => yo (rdE g) >>= fun e =>
   match e.t with
   | .d (.atom (.bool b)) => z7V b >>= fun b => if b = want then z0M X tt ctr n o else yo (wrT n o.dst (.d (.tup [])))
   | .d (.tup []) => yo (wrT n o.dst (.d (.tup [])))
   | _ => zM
  | none => zM
def z59 : List H → List H
 | .op 0 :: hs => hs
 | .op (m + 1) :: hs => .op m :: hs
 | hs => hs
def z0O {P : Program} (X : XH P) (tt : TT) (ctr : Ctr) (n : Fr) (ops : Array Oper) (o : Oper) : HM Unit := fun st hs => z0b X tt ctr n ops o st (z59 hs)
theorem z3X {P : Program} (X : XH P) (tt : TT) (ctr : Ctr) (n : Fr) (ops : Array Oper) (o : Oper) : Snd (stepG tt (ctr.withE X.e) n ops o) (z0b X tt ctr n ops o) := by
 unfold stepG z0b
 cases o.guard with
 | none => exact z2i _ _ _ _ _
 | some q =>
  obtain ⟨j, want⟩ := q
  dsimp only
  cases (ops[j]?).bind (·.dst) with
  | none => exact zo _
  | some g =>
   refine zj (zm _) fun e => ?_
   obtain ⟨t, a, b⟩ := e
   cases t with
   | d x =>
    cases x with
    | atom v =>
     cases v with
     | bool b =>
      refine Yu (m' := pure b >>= fun b => if b = want then stepX tt (ctr.withE X.e) n o else wrT n o.dst (.d (.tup []))) (y7 _ _).symm ?_
      exact zj (z2m _) fun b => vp (z2i _ _ _ _ _) (zm _)
     | _ => exact zo _
    | tup l =>
     cases l with
     | nil => exact zm _
     | cons _ _ => exact zo _
    | _ => exact zo _
   | _ => exact zo _
theorem z2j {P : Program} (X : XH P) (tt : TT) (ctr : Ctr) (n : Fr) (ops : Array Oper) (o : Oper) : Snd (stepG tt (ctr.withE X.e) n ops o) (z0O X tt ctr n ops o) :=
 fun st hs a R U hs' ob e ho => z3X X tt ctr n ops o st (z59 hs) a R U hs' ob e ho
abbrev Lg := List (List Nat × List Nat)
def z2h {P : Program} (X : XH P) (tt : TT) (ctr : Ctr) (n : Fr) (ops : Array Oper) : List Oper → St → List H → Option (St × List H × List Prop × Lg)
 | [], st, hs => some (st, hs, [], [])
 | o :: os, st, hs =>
  match z0O X tt ctr n ops o st hs with
  | none => none
  | some (_, R, U, hs', ob) =>
   match z2h X tt ctr n ops os (zc U st) hs' with
   | none => none
   | some (st', hs'', ob', lg) => some (st', hs'', ob ++ ob', (R, U.map (·.1)) :: lg)
section
variable {P : Program} {X : XH P} {tt : TT} {ctr : Ctr} {n : Fr}
theorem z0S {ops : Array Oper} {K : St → Prop} : ∀ (l : List Oper) (st : St) (hs : List H) {st' : St} {hs' : List H} {ob : List Prop} {lg : Lg}, z2h X tt ctr n ops l st hs = some (st', hs', ob, lg) → Qb ob → K st' → z6S tt (ctr.withE X.e) n ops l st K
 | [], st, hs, st', hs', ob, lg, e, ho, hk => by
  simp only [z2h, Option.some.injEq, Prod.mk.injEq] at e
  obtain ⟨rfl, _⟩ := e
  exact hk
 | o :: os, st, hs, st', hs', ob, lg, e, ho, hk => by
  simp only [z2h] at e
  cases e1 : z0O X tt ctr n ops o st hs with
  | none => simp only [e1] at e; cases e
  | some q =>
   obtain ⟨u, R, U, hs1, ob1⟩ := q
   simp only [e1] at e
   cases e2 : z2h X tt ctr n ops os (zc U st) hs1 with
   | none => simp only [e2] at e; cases e
   | some q =>
    obtain ⟨st2, hs2, ob2, lg2⟩ := q
    simp only [e2, Option.some.injEq, Prod.mk.injEq] at e
    obtain ⟨rfl, rfl, rfl, rfl⟩ := e
    obtain ⟨o1, o2⟩ := yL ho
    simp only [z6S, z6T]
    rw [z2j X tt ctr n ops o _ _ _ _ _ _ _ e1 o1]
    exact z0S os _ _ e2 o2 hk
theorem Kc {ops : Array Oper} {K : St → Prop} : ∀ (l : List Oper) (st : St) (hs : List H) (logs : Lg) {st' : St} {hs' : List H} {ob : List Prop} {lg : Lg}, z2h X tt ctr n ops l st hs = some (st', hs', ob, lg) → Qb ob → Ur ops.toList (logs ++ lg) = true → K st' → z1U tt (ctr.withE X.e) n ops l st logs K
 | [], st, hs, logs, st', hs', ob, lg, e, ho, hd, hk => by
  simp only [z2h, Option.some.injEq, Prod.mk.injEq] at e
  obtain ⟨rfl, _, _, rfl⟩ := e
  exact ⟨by simpa using hd, hk⟩
 | o :: os, st, hs, logs, st', hs', ob, lg, e, ho, hd, hk => by
  simp only [z2h] at e
  cases e1 : z0O X tt ctr n ops o st hs with
  | none => simp only [e1] at e; cases e
  | some q =>
   obtain ⟨u, R, U, hs1, ob1⟩ := q
   simp only [e1] at e
   cases e2 : z2h X tt ctr n ops os (zc U st) hs1 with
   | none => simp only [e2] at e; cases e
   | some q =>
    obtain ⟨st2, hs2, ob2, lg2⟩ := q
    simp only [e2, Option.some.injEq, Prod.mk.injEq] at e
    obtain ⟨rfl, rfl, rfl, rfl⟩ := e
    obtain ⟨o1, o2⟩ := yL ho
    simp only [z1U, z6T]
    rw [z2j X tt ctr n ops o _ _ _ _ _ _ _ e1 o1]
    exact Kc os _ _ _ e2 o2 (by simpa using hd) hk
end
inductive Fm where
 | seq (y : Code)
 | blk (id : Nat)
 | pre (J : St → Prop)
 | rnd (m : Nat) (c : Code)
def z71 (P : Program) (n : Fr) (c : Code) : Nat → St → (Exit → St → Prop) → Prop
 | 0, _, _ => False
 | m + 1, st, Q => AWP P n c st (K5 (fun st' => z71 P n c m st' Q) Q)
theorem z71.loop {P : Program} {n : Fr} {c : Code} {Q : Exit → St → Prop} : ∀ (m : Nat) (st : St), z71 P n c m st Q → AWP P n (.loop c) st Q := by
 intro m st h rd mm df w0 S0 M S Fp a w hc hs
 refine wpIn_loop_rounds m ?_
 have gen : ∀ (m : Nat) (st : St) (df' : List Nat) (S : zl) (Fp : Nat → List Nat) (a : Act) (w : World), z71 P n c m st Q → Sim ⟨n, df', w0, S0, M⟩ S Fp [] st a w → qt df M df' Fp w → Code.roundsIn (fen rd) mm P c (z3B n df w0 S0 M Q) m a w := by
  intro m
  induction m with
  | zero => intro st df' S Fp a w h _ _; exact h.elim
  | succ m ih =>
   intro st df' S Fp a w h hs hd
   refine wpIn_mono (AWP.go h hc hs hd) ?_
   intro e a' w' hp
   cases e with
   | normal =>
    obtain ⟨df2, st2, S2, Fp2, h1, h2, h3⟩ := hp
    exact ih st2 df2 S2 Fp2 a' w' h3 h1 h2
   | _ => exact hp.next fun _ q => q
 exact gen m st df S Fp a w h hs (hc.post hs)
def Qf (P : Program) (n : Fr) : List Fm → (Exit → St → Prop) → Exit → St → Prop
 | [], Q => Q
 | .seq y :: fs, Q => K5 (fun st => AWP P n y st (Qf P n fs Q)) (Qf P n fs Q)
 | .blk id :: fs, Q => QF id (Qf P n fs Q)
 | .pre J :: fs, Q => K5 J (Qf P n fs Q)
 | .rnd m c :: fs, Q => K5 (fun st => z71 P n c m st (Qf P n fs Q)) (Qf P n fs Q)
inductive z20 where
 | fin (e : Exit)
 | back (J : St → Prop)
 | at (c : Code) (fs : List Fm)
def z20.sem (P : Program) (n : Fr) (Q : Exit → St → Prop) : z20 → St → Prop
 | .fin e, st => Q e st
 | .back J, st => J st
 | .at c fs, st => AWP P n c st (Qf P n fs Q)
inductive Nxt where
 | go (y : Code) (fs : List Fm)
 | stop (s : z20)
 | none
def unw : List Fm → Nxt
 | [] => .stop (.fin .normal)
 | .seq y :: fs => .go y fs
 | .blk _ :: fs => unw fs
 | .pre J :: _ => .stop (.back J)
 | .rnd (m + 1) c :: fs => .go c (.rnd m c :: fs)
 | .rnd 0 _ :: _ => .none
def z00 (id : Nat) : List Fm → Option (List Fm)
 | [] => none
 | .blk i :: fs => if id = i then some fs else z00 id fs
 | .seq _ :: fs => z00 id fs
 | .pre _ :: fs => z00 id fs
 | .rnd _ _ :: fs => z00 id fs
abbrev z3A := Option (z20 × St × List H × List Prop)
def z6X (ob : List Prop) : z3A → z3A
 | none => none
 | some (s, st, hs, ob') => some (s, st, hs, ob ++ ob')
def goN (rec : Code → List Fm → St → List H → z3A) (x : Nxt) (st : St) (hs : List H) : z3A :=
 match x with
 | .go y fs => rec y fs st hs
 | .stop s => some (s, st, hs, [])
 | .none => none
def z3V (k : Nat) : SM Unit := do
 let y ← opnd (.tmp k)
 let q ← ptrOf y
 match q with
 | .inr (r, p, er, ec) => do
  let _ ← lookP r p er ec
  let _ ← shutT (fun _ => none) 0 (.als r p er ec)
  pure ()
 | .inl _ => zq
def z3T (k : Nat) : SM Unit := do
 let e ← rdE k
 match e.t with
 | .own (.osl sz t es) => if A.lives es = true then wrE k ⟨.own (.osl sz t (A.shuts es)), e.er, e.ec + 1⟩ else zq
 | _ => zq
def z4o : T → Bool
 | .own (.osl _ _ _) => true
 | _ => false
def sealX (k : Nat) : SM Unit := do
 let e ← rdE k
 if z4o e.t = true then z3T k else z3V k
def z0T : List Nat → SM Unit
 | [] => pure ()
 | k :: ks => do
  sealX k
  z0T ks
def z4Z (k : Nat) : HM Unit :=
 yo (opnd (.tmp k)) >>= fun y => yo (ptrOf y) >>= fun q =>
 match q with
 | .inr (r, p, er, ec) => yo (lookP r p er ec) >>= fun _ => Qe (fun _ => none) 0 (.als r p er ec) >>= fun _ => pure ()
 | .inl _ => zM
def z4Y (k : Nat) : HM Unit :=
 yo (rdE k) >>= fun e =>
 match e.t with
 | .own (.osl sz t es) => z4s >>= fun es' => kU (A.lives es = true ∧ A.shuts es = es') (yo (wrE k ⟨.own (.osl sz t es'), e.er, e.ec + 1⟩))
 | _ => zM
def z4X (k : Nat) : HM Unit := yo (rdE k) >>= fun e => if z4o e.t = true then z4Y k else z4Z k
def Ji : List Nat → HM Unit
 | [] => pure ()
 | k :: ks => z4X k >>= fun _ => Ji ks
theorem z60 (k : Nat) : Snd (z3V k) (z4Z k) :=
 zj (zm _) fun y => zj (zm _) fun q => by
  cases q with
  | inl _ => exact zo _
  | inr q =>
   obtain ⟨r, p, er, ec⟩ := q
   exact zj (zm _) fun _ => zj (Y0 _ _ _) fun _ => wn _
theorem z5Z (k : Nat) : Snd (z3T k) (z4Y k) := by
 refine zj (zm _) fun e => ?_
 obtain ⟨t, er, ec⟩ := e
 cases t with
 | own x =>
  cases x with
  | osl sz tg es =>
   intro st hs b R U hs' ob e ho
   obtain ⟨es', R1, U1, hs1, ob1, R2, U2, ob2, e1, e2, rfl, rfl, rfl⟩ := Y7 e
   unfold z4s at e1
   split at e1
   ·simp only [Option.some.injEq, Prod.mk.injEq] at e1
    obtain ⟨rfl, rfl, rfl, _, rfl⟩ := e1
    obtain ⟨⟨q1, q2⟩, ob', e3, o3⟩ := Jt e2 (yL ho).2
    subst q2
    dsimp only
    rw [if_pos q1]
    exact zm _ _ _ _ _ _ _ _ e3 o3
   ·cases e1
  | _ => exact zo _
 | _ => exact zo _
theorem z5Y (k : Nat) : Snd (sealX k) (z4X k) := zj (zm _) fun e => vp (z5Z k) (z60 k)
theorem z0V : ∀ ks, Snd (z0T ks) (Ji ks)
 | [] => wn _
 | k :: ks => zj (z5Y k) fun _ => z0V ks
theorem z3S {C : Ctx} {S : zl} {Fp : Nat → List Nat} {st : St} {a : Act} {w : World} (h : Sim C S Fp [] st a w) {k : Nat} {u : Unit} {R : List Nat} {U : List (Nat × Ent)} (e : z3T k st = some (u, R, U)) : ∃ S' Fp', Sim C S' Fp' [] (zc U st) a w := by
 unfold z3T at e
 obtain ⟨en, R1, U1, R2, U2, h1, e1, rfl, rfl⟩ := bind_some e
 obtain ⟨rfl, rfl, rfl⟩ := ym h1
 simp only [zc, List.nil_append] at e1 ⊢
 have hno : ∀ x, (st k).t = x → z4o x = false → False := by
  intro x hx hn
  rw [hx] at e1
  cases x with
  | own y => cases y <;> first | exact z8 e1 | (simp [z4o] at hn)
  | _ => exact z8 e1
 have hyes : ∃ sz t es, (st k).t = .own (.osl sz t es) := by
  cases hx : (st k).t with
  | own y => cases y <;> first | exact ⟨_, _, _, rfl⟩ | exact (hno _ hx rfl).elim
  | _ => exact (hno _ hx rfl).elim
 obtain ⟨sz, t, es, ht⟩ := hyes
 rw [ht] at e1
 dsimp only at e1
 split at e1
 ·rename_i hl
  obtain ⟨rfl, rfl⟩ := wa e1
  have hr := h.ent k
  unfold yH at hr
  simp only [ht] at hr
  obtain ⟨cs, q, q1, q2⟩ := hr
  simp only [zO] at q
  obtain ⟨p, c, rfl, d1, d2, d3, d4, d5⟩ := q
  simp only [List.append_nil, zc]
  rcases d5 with ⟨rfl, rfl, rfl, hF0⟩ | ⟨b, arr, ty, l, F1, rfl, e1, e2, e3, e4, hF0, e5⟩
  ·exact ⟨S, kY Fp k [], h.change k (.own (.osl sz t (A.shuts []))) _ _ [] h.below (fun _ _ _ q => q) h.still h.sbase (fun t' k' hk hk' => ⟨rfl, (h.free t' k' hk').2.1⟩)
    ⟨⟨_, by simp only [zO]; exact ⟨none, 0, rfl, fun _ => rfl, Nat.le_refl _, Nat.zero_le _, by simp [A.shuts], .inl (by simp [A.shuts])⟩, by simp, by rw [q2]; rfl⟩, _, ht⟩ (.inl ⟨_, ht⟩) (Nat.le_refl _) (Nat.lt_succ_self _) (by simp) (by simp) h.xn (fun t k _ hk => h.xd t k hk) (by simp) h.xb⟩
  ·have hF7 : ∀ q ∈ F1, q ∈ Fp k := fun q hq => by rw [hF0]; exact List.mem_cons_of_mem _ hq
   obtain ⟨m1, m2, m3, m4⟩ := Y5 h hF7
   have hrs := zL.shut (S' := zQ S w.heap F1) m1 e4 hl (fun k hk o => by unfold zQ; rw [if_pos hk])
   have hlen : (A.shuts es).length = es.length := by simp [A.shuts_eq]
   have hb : b ∉ F1 := by rw [hF0] at q1; exact (List.nodup_cons.1 q1).1
   have hbk : b ∈ Fp k := by rw [hF0]; exact List.mem_cons_self
   refine ⟨zQ S w.heap F1, kY Fp k [b], h.change k (.own (.osl sz t (A.shuts es))) _ _ [b] h.below m1 m2 m3 ?_ ⟨⟨_, ?_, by simp, by rw [q2]; rfl⟩, _, ht⟩ (.inl ⟨_, ht⟩) (Nat.le_refl _) (Nat.lt_succ_self _) ?_ ?_ h.xn (fun t k _ hk => h.xd t k hk) (by simp) h.xb⟩
   ·intro t' k' hk hk'
    refine ⟨rfl, fun o => ?_⟩
    rw [m4 k' (fun hF => hk (h.disj t' k k' hk' (hF7 k' hF)))]
    exact (h.free t' k' hk').2.1 o
   ·simp only [zO]
    refine ⟨some ⟨b, 0, none⟩, c, by rw [hlen], fun ht => by rw [hlen]; exact d1 ht, by rw [hlen]; exact d2, d3, ?_, .inr ⟨b, arr, ty, _, [], rfl, e1, e2, by rw [hlen]; exact e3, yj.concs _ hrs, rfl, ?_⟩⟩
    ·intro x hx
     rw [A.shuts_eq] at hx
     obtain ⟨y, hy, rfl⟩ := List.mem_map.1 hx
     rw [A.size_shut]
     exact d4 y hy
    ·intro o
     rw [m4 b hb]
     exact e5 o
   ·intro t' k' hk hk' hk2
    simp only [List.mem_cons, List.not_mem_nil, or_false] at hk'
    subst hk'
    exact hk (h.disj t' k _ hk2 hbk)
   ·intro k' hk'
    simp only [List.mem_cons, List.not_mem_nil, or_false] at hk'
    subst hk'
    exact h.base k _ hbk
 ·exact (z8 e1).elim
theorem z3U {C : Ctx} {S : zl} {Fp : Nat → List Nat} {st : St} {a : Act} {w : World} (h : Sim C S Fp [] st a w) {k : Nat} {u : Unit} {R : List Nat} {U : List (Nat × Ent)} (e : z3V k st = some (u, R, U)) : ∃ S' Fp', Sim C S' Fp' [] (zc U st) a w := by
 unfold z3V at e
 obtain ⟨y, R1, U1, R2, U2, h1, e1, rfl, rfl⟩ := bind_some e
 obtain ⟨rfl, hx⟩ := zP h h1
 obtain ⟨q, R3, U3, R4, U4, h3, e2, rfl, rfl⟩ := bind_some e1
 obtain ⟨rfl, hq⟩ := Yh h hx h3
 simp only [zc, List.nil_append] at e2 ⊢
 split at e2
 ·rename_i r p er ec
  obtain ⟨z, R7, U7, R8, U8, h7, e4, rfl, rfl⟩ := bind_some e2
  obtain ⟨rfl, x0, k1, k2, k3, k4⟩ := Yl h7
  simp only [zc, List.nil_append] at e4 ⊢
  obtain ⟨z2, R9, U9, R10, U10, h9, e5, rfl, rfl⟩ := bind_some e4
  obtain ⟨_, _, rfl⟩ := zp e5
  obtain ⟨b, o', arr, ty, csy, Fy, cs, ev, o1, f2, f3, f4, f5, f6, f7, f8, f9, f10, f11, _⟩ := Xf h hq k1 k2 k3 k4
  have hals : TOk S w.heap st (Act.tv a) (.als r p er ec) (zZ z csy) := ⟨by omega, by omega, by
   simp only [k1]
   exact fun _ _ => .inr ⟨o1, z, b, o', csy, k4, f11, f4.len, Jh f2 f3, rfl⟩⟩
  obtain ⟨S', Fp', g1, _⟩ := X7 h hals h9
  exact ⟨S', Fp', by simpa using g1⟩
 ·exact (z8 e2).elim
theorem z3R {C : Ctx} {S : zl} {Fp : Nat → List Nat} {st : St} {a : Act} {w : World} (h : Sim C S Fp [] st a w) {k : Nat} {u : Unit} {R : List Nat} {U : List (Nat × Ent)} (e : sealX k st = some (u, R, U)) : ∃ S' Fp', Sim C S' Fp' [] (zc U st) a w := by
 unfold sealX at e
 obtain ⟨en, R1, U1, R2, U2, h1, e1, rfl, rfl⟩ := bind_some e
 obtain ⟨rfl, rfl, rfl⟩ := ym h1
 simp only [zc, List.nil_append] at e1 ⊢
 split at e1
 ·exact z3S h e1
 ·exact z3U h e1
theorem Kd {C : Ctx} {a : Act} {w : World} : ∀ {ks : List Nat} {S : zl} {Fp : Nat → List Nat} {st : St}, Sim C S Fp [] st a w → ∀ {u : Unit} {R : List Nat} {U : List (Nat × Ent)}, z0T ks st = some (u, R, U) → ∃ S' Fp', Sim C S' Fp' [] (zc U st) a w
 | [], S, Fp, st, h, u, R, U, e => by
  obtain ⟨_, rfl, rfl⟩ := zp e
  exact ⟨S, Fp, h⟩
 | k :: ks, S, Fp, st, h, u, R, U, e => by
  simp only [z0T] at e
  obtain ⟨_, R1, U1, R2, U2, h1, e1, rfl, rfl⟩ := bind_some e
  obtain ⟨S1, Fp1, g1⟩ := z3R h h1
  rw [zw]
  exact Kd g1 e1
def zaP : List H → List H
 | .n (m + 1) ks :: hs => .n m ks :: hs
 | .v (m + 1) ks :: hs => .v m ks :: hs
 | hs => hs
def Jf {P : Program} (rec : Code → List Fm → St → List H → z3A) (X : XH P) (tt : TT) (ctr : Ctr) (n : Fr) (c : Code) (fs : List Fm) (st : St) (hs : List H) : z3A :=
  match c with
  | .skip => goN rec (unw fs) st hs
  | .ret => some (.fin .ret, st, hs, [])
   | .exit id => match z00 id fs with | some fs' => goN rec (unw fs') st hs | none => some (.fin (.exit id), st, hs, [])
  | .region _ ops d =>
   match z2h X tt ctr n ops ops.toList st hs with
   | some (st', hs', ob, lg) => if d = false ∨ Ur ops.toList lg = true then z6X ob (goN rec (unw fs) st' hs') else none
   | none => none
  | .seq x y =>
   match hs with
   | .cut 0 :: hs' => some (.at (.seq x y) fs, st, hs', [])
   | .cut (m + 1) :: hs' => rec x (.seq y :: fs) st (.cut m :: hs')
   | hs => rec x (.seq y :: fs) st hs
  | .cond o x y =>
   match z0C st o with
   | some b =>
    match hs with
    | .b b' :: hs' => z6X [b = b'] (rec (match b' with | true => x | false => y) fs st hs')
    | _ => none
   | none => none
  | .block id c => rec c (.blk id :: fs) st hs
  | .loop c =>
   match hs with
   | .u m :: hs' => rec c (.rnd m c :: fs) st hs'
   | hs => some (.at (.loop c) fs, st, hs, [])
  | c => some (.at c fs, st, hs, [])
def z3Z {P : Program} (X : XH P) (tt : TT) (ctr : Ctr) (n : Fr) : Nat → Code → List Fm → St → List H → z3A
 | 0, _, _, _, _ => none
 | k + 1, c, fs, st, hs =>
  match hs with
  | .n 0 ks :: hs =>
   match uj (fun _ => none) (ks.map fun i => (.tmp i, 0)) st hs with
   | some (_, _, U, hs', ob) => z6X ob (z3Z X tt ctr n k c fs (zc U st) hs')
   | none => none
  | .v 0 ks :: hs =>
   match Ji ks st hs with
   | some (_, _, U, hs', ob) => z6X ob (z3Z X tt ctr n k c fs (zc U st) hs')
   | none => none
  | hs => Jf (z3Z X tt ctr n k) X tt ctr n c fs st (zaP hs)
section
variable {P : Program} {tt : TT} {ctr : Ctr} {n : Fr} {Q : Exit → St → Prop}
theorem z0H {k : Nat} {rec : Code → List Fm → St → List H → z3A} (hrec : ∀ c fs st hs s st' hs' ob, rec c fs st hs = some (s, st', hs', ob) → Qb ob → s.sem P n Q st' → AWP P n c st (Qf P n fs Q)) :
  ∀ (fs : List Fm) {st : St} {hs : List H} {s : z20} {st' : St} {hs' : List H} {ob : List Prop}, goN rec (unw fs) st hs = some (s, st', hs', ob) → Qb ob → s.sem P n Q st' → Qf P n fs Q .normal st
 | [], st, hs, s, st', hs', ob, e, ho, h => by
  simp only [unw, goN, Option.some.injEq, Prod.mk.injEq] at e
  obtain ⟨rfl, rfl, _⟩ := e
  exact h
 | .seq y :: fs, st, hs, s, st', hs', ob, e, ho, h => by
  simp only [unw, goN] at e
  exact hrec _ _ _ _ _ _ _ _ e ho h
 | .blk id :: fs, st, hs, s, st', hs', ob, e, ho, h => by
  simp only [unw] at e
  exact z0H (k := k) hrec fs e ho h
 | .pre J :: fs, st, hs, s, st', hs', ob, e, ho, h => by
  simp only [unw, goN, Option.some.injEq, Prod.mk.injEq] at e
  obtain ⟨rfl, rfl, _⟩ := e
  exact h
 | .rnd (m + 1) c :: fs, st, hs, s, st', hs', ob, e, ho, h => by
  simp only [unw, goN] at e
  exact hrec _ _ _ _ _ _ _ _ e ho h
 | .rnd 0 c :: fs, st, hs, s, st', hs', ob, e, ho, h => by
  simp only [unw, goN] at e
  cases e
theorem VE {id : Nat} {st : St} : ∀ (fs : List Fm) {fs' : List Fm}, z00 id fs = some fs' → Qf P n fs' Q .normal st → Qf P n fs Q (.exit id) st
 | [], fs', e, h => by cases e
 | .blk i :: fs, fs', e, h => by
  simp only [z00] at e
  simp only [Qf, QF]
  split at e
  ·rename_i hi
   simp only [Option.some.injEq] at e
   subst e
   rw [if_pos hi]
   exact h
  ·rename_i hi
   rw [if_neg hi]
   exact VE fs e h
 | .seq y :: fs, fs', e, h => VE fs (by simpa only [z00] using e) h
 | .pre J :: fs, fs', e, h => VE fs (by simpa only [z00] using e) h
 | .rnd _ _ :: fs, fs', e, h => VE fs (by simpa only [z00] using e) h
theorem Kp {st : St} : ∀ (fs : List Fm), Q .ret st → Qf P n fs Q .ret st
 | [], h => h
 | .seq _ :: fs, h => Kp fs h
 | .blk _ :: fs, h => Kp fs h
 | .pre _ :: fs, h => Kp fs h
 | .rnd _ _ :: fs, h => Kp fs h
theorem VS {id : Nat} {st : St} : ∀ (fs : List Fm), z00 id fs = none → Q (.exit id) st → Qf P n fs Q (.exit id) st
 | [], _, h => h
 | .blk i :: fs, e, h => by
  simp only [z00] at e
  simp only [Qf, QF]
  split at e
  ·cases e
  ·rename_i hi
   rw [if_neg hi]
   exact VS fs e h
 | .seq y :: fs, e, h => VS fs (by simpa only [z00] using e) h
 | .pre J :: fs, e, h => VS fs (by simpa only [z00] using e) h
 | .rnd _ _ :: fs, e, h => VS fs (by simpa only [z00] using e) h
theorem Xp {ob : List Prop} {x : z3A} {s : z20} {st : St} {hs : List H} {ob' : List Prop} (e : z6X ob x = some (s, st, hs, ob')) : ∃ ob2, x = some (s, st, hs, ob2) ∧ ob' = ob ++ ob2 := by
 cases x with
 | none => cases e
 | some q =>
  obtain ⟨s1, st1, hs1, ob1⟩ := q
  simp only [z6X, Option.some.injEq, Prod.mk.injEq] at e
  obtain ⟨rfl, rfl, rfl, rfl⟩ := e
  exact ⟨ob1, rfl, rfl⟩
theorem z3M (X : XH P) (hT : vw P tt) (hC : y6 P ctr) (hm : P.follows .mixedOrders = true) {rec : Code → List Fm → St → List H → z3A} (ih : ∀ c fs st hs s st' hs' ob, rec c fs st hs = some (s, st', hs', ob) → Qb ob → s.sem P n Q st' → AWP P n c st (Qf P n fs Q)) (c : Code) (fs : List Fm) (st : St) (hs : List H) (s : z20) (st' : St) (hs' : List H) (ob : List Prop)
  (e : Jf rec X tt ctr n c fs st hs = some (s, st', hs', ob)) (ho : Qb ob) (h : s.sem P n Q st') : AWP P n c st (Qf P n fs Q) := by
 cases c with
 | skip => exact AWP.skip (z0H (k := 0) ih fs e ho h)
 | ret =>
  simp only [Jf, Option.some.injEq, Prod.mk.injEq] at e
  obtain ⟨rfl, rfl, _⟩ := e
  exact AWP.ret (Kp fs h)
 | exit id =>
  simp only [Jf] at e
  cases hx : z00 id fs with
  | none =>
   simp only [hx, Option.some.injEq, Prod.mk.injEq] at e
   obtain ⟨rfl, rfl, _⟩ := e
   exact AWP.exit (VS fs hx h)
  | some fs' =>
   simp only [hx] at e
   exact AWP.exit (VE fs hx (z0H (k := 0) ih fs' e ho h))
 | region id ops d =>
  simp only [Jf] at e
  cases hx : z2h X tt ctr n ops ops.toList st hs with
  | none => simp only [hx] at e; cases e
  | some q =>
   obtain ⟨st1, hs1, ob1, lg⟩ := q
   simp only [hx] at e
   by_cases hd : d = false ∨ Ur ops.toList lg = true
   ·rw [if_pos hd] at e
    obtain ⟨ob2, e2, rfl⟩ := Xp e
    obtain ⟨o1, o2⟩ := yL ho
    have hq := z0H (k := 0) ih fs e2 o2 h
    cases d with
    | false => exact AWP.region hT (hC.withE X.ok) (z0S _ _ _ hx o1 hq)
    | true => exact AWP.drawn hT (hC.withE X.ok) hm (Kc _ _ _ [] hx o1 (by simpa using hd) hq)
   ·rw [if_neg hd] at e; cases e
 | seq x y =>
  have gen : ∀ hs, rec x (.seq y :: fs) st hs = some (s, st', hs', ob) → AWP P n (.seq x y) st (Qf P n fs Q) := fun hs e => AWP.seq (ih _ _ _ _ _ _ _ _ e ho h)
  rcases hs with _ | ⟨q, hs⟩
  ·exact gen _ e
  ·cases q with
   | cut m =>
    cases m with
    | zero =>
     simp only [Jf, Option.some.injEq, Prod.mk.injEq] at e
     obtain ⟨rfl, rfl, _⟩ := e
     exact h
    | succ m => exact gen _ e
   | _ => exact gen _ e
 | cond o x y =>
  simp only [Jf] at e
  cases hb : z0C st o with
  | none => simp only [hb] at e; cases e
  | some b =>
   simp only [hb] at e
   rcases hs with _ | ⟨q, hs⟩
   ·cases e
   ·cases q with
    | b b' =>
     obtain ⟨ob2, e2, rfl⟩ := Xp e
     have h1 : b = b' := ho.1
     subst h1
     cases b with
     | true => exact AWP.condT hb (ih _ _ _ _ _ _ _ _ e2 ho.2 h)
     | false => exact AWP.condF hb (ih _ _ _ _ _ _ _ _ e2 ho.2 h)
    | _ => cases e
 | block id c => exact AWP.block (ih _ _ _ _ _ _ _ _ e ho h)
 | loop c =>
  have gen : some (z20.at (.loop c) fs, st, hs, ([] : List Prop)) = some (s, st', hs', ob) → AWP P n (.loop c) st (Qf P n fs Q) := by
   intro e
   simp only [Option.some.injEq, Prod.mk.injEq] at e
   obtain ⟨rfl, rfl, _⟩ := e
   exact h
  rcases hs with _ | ⟨q, hs⟩
  ·exact gen e
  ·cases q with
   | u m => exact z71.loop (m + 1) st (ih _ _ _ _ _ _ _ _ e ho h)
   | _ => exact gen e
 | _ =>
  simp only [Jf, Option.some.injEq, Prod.mk.injEq] at e
  obtain ⟨rfl, rfl, _⟩ := e
  exact h
theorem z0k (X : XH P) (hT : vw P tt) (hC : y6 P ctr) (hm : P.follows .mixedOrders = true) : ∀ (k : Nat) (c : Code) (fs : List Fm) (st : St) (hs : List H) (s : z20) (st' : St) (hs' : List H) (ob : List Prop),
  z3Z X tt ctr n k c fs st hs = some (s, st', hs', ob) → Qb ob → s.sem P n Q st' → AWP P n c st (Qf P n fs Q) := by
 intro k
 induction k with
 | zero => intro c fs st hs s st' hs' ob e; cases e
 | succ k ih =>
  intro c fs st hs s st' hs' ob e ho h
  have gen : ∀ hs, Jf (z3Z X tt ctr n k) X tt ctr n c fs st hs = some (s, st', hs', ob) → AWP P n c st (Qf P n fs Q) := fun hs e => z3M X hT hC hm ih c fs st hs s st' hs' ob e ho h
  rcases hs with _ | ⟨q, hs⟩
  ·exact gen _ e
  ·cases q with
   | v m ks =>
    cases m with
    | zero =>
     simp only [z3Z] at e
     cases hx : Ji ks st hs with
     | none => simp only [hx] at e; cases e
     | some q =>
      obtain ⟨xs, R, U, hs1, ob1⟩ := q
      simp only [hx] at e
      obtain ⟨ob2, e2, rfl⟩ := Xp e
      obtain ⟨o1, o2⟩ := yL ho
      have h1 := z0V _ _ _ _ _ _ _ _ hx o1
      have h2 := ih c fs _ _ _ _ _ _ e2 o2 h
      intro rd m df w0 S0 M S Fp a w hc hs
      obtain ⟨S', Fp', g1⟩ := Kd hs h1
      exact h2 rd m df w0 S0 M S' Fp' a w hc g1
    | succ m => exact gen _ e
   | n m ks =>
    cases m with
    | zero =>
     simp only [z3Z] at e
     cases hx : uj (fun _ => none) (ks.map fun i => (.tmp i, 0)) st hs with
     | none => simp only [hx] at e; cases e
     | some q =>
      obtain ⟨xs, R, U, hs1, ob1⟩ := q
      simp only [hx] at e
      obtain ⟨ob2, e2, rfl⟩ := Xp e
      obtain ⟨o1, o2⟩ := yL ho
      have h1 := qE (fun _ => none) _ _ _ _ _ _ _ _ hx o1
      have h2 := ih c fs _ _ _ _ _ _ e2 o2 h
      intro rd m df w0 S0 M S Fp a w hc hs
      obtain ⟨S', Fp', g1, _⟩ := w9 hs h1
      exact h2 rd m df w0 S0 M S' Fp' a w hc g1
    | succ m => exact gen _ e
   | _ => exact gen _ e
structure Ob where
 p : Prop
 h : p
def ob {p : Prop} (h : p) : Ob := ⟨p, h⟩
theorem z2E : ∀ (l : List Ob), Qb (l.map Ob.p)
 | [] => trivial
 | o :: l => ⟨o.h, z2E l⟩
def z7r {P : Program} (X : XH P) (tt : TT) (ctr : Ctr) (n : Fr) (live : List Nat) (k : Nat) (c : Code) (fs : List Fm) (st : St) (hs : List H) : Option (z20 × St × List Prop) :=
 match z3Z X tt ctr n k c fs st hs with
 | some (s, st', [], ob) => some (s, canon live st', ob)
 | _ => none
theorem z0F (X : XH P) (hT : vw P tt) (hC : y6 P ctr) (hm : P.follows .mixedOrders = true) (live : List Nat) (k : Nat) {c : Code} {fs : List Fm} {st : St} {hs : List H} {s : z20} {st' : St} (obs : List Ob)
  (e : z7r X tt ctr n live k c fs st hs = some (s, st', obs.map Ob.p)) (h : ∀ st0, canon live st0 = st' → s.sem P n Q st0) : AWP P n c st (Qf P n fs Q) := by
 unfold z7r at e
 split at e
 ·rename_i s1 st1 ob1 e1
  simp only [Option.some.injEq, Prod.mk.injEq] at e
  obtain ⟨rfl, h1, rfl⟩ := e
  exact z0k X hT hC hm k c fs st hs _ _ _ _ e1 (z2E obs) (h _ h1)
 ·cases e
def sub : List Nat → Code → Code
 | [], c => c
 | 0 :: p, .seq x _ => sub p x
 | 1 :: p, .seq _ y => sub p y
 | 2 :: p, .seq x _ => sub p x
 | 0 :: p, .cond _ x _ => sub p x
 | 1 :: p, .cond _ _ y => sub p y
 | _ :: p, .block _ c => sub p c
 | _ :: p, .loop c => sub p c
 | 0 :: p, .rangeFunc _ _ c _ => sub p c
 | 1 :: p, .rangeFunc _ _ _ c => sub p c
 | _ :: _, c => c
def frs : List Nat → List (St → Prop) → Code → List Fm → List Fm
 | [], _, _, fs => fs
 | 0 :: p, Js, .seq x y, fs => frs p Js x (.seq y :: fs)
 | 1 :: p, Js, .seq _ y, fs => frs p Js y fs
 | 2 :: p, J :: Js, .seq x _, fs => frs p Js x (.pre J :: fs)
 | 0 :: p, Js, .cond _ x _, fs => frs p Js x fs
 | 1 :: p, Js, .cond _ _ y, fs => frs p Js y fs
 | _ :: p, Js, .block id c, fs => frs p Js c (.blk id :: fs)
 | _ :: p, J :: Js, .loop c, fs => frs p Js c (.pre J :: fs)
 | 0 :: p, Js, .rangeFunc _ _ c _, _ => frs p Js c []
 | 1 :: p, Js, .rangeFunc _ _ _ c, _ => frs p Js c []
 | _ :: _, _, _, fs => fs
end
end Go.Own

namespace Go.Own
class LeA (x y : A) : Prop where
 rep : ∀ S cs, Rep S x cs → Rep S y cs
 conc : ∀ S h cs F, zO S h x cs F → zO S h y cs F
 val : ∀ cs, zZ x cs = zZ y cs
 tup : ∀ fs, x = .tup fs → y = x
class JO (xs ys : List A) : Prop where
 rep : ∀ S cs, yj S xs cs → yj S ys cs
 conc : ∀ S h cs F, zL S h xs cs F → zL S h ys cs F
 len : xs.length = ys.length
 size : ∀ sz, (∀ x ∈ xs, x.size = sz) → ∀ y ∈ ys, y.size = sz
instance (priority := 2000) LeA.refl (x : A) : LeA x x := ⟨fun _ _ h => h, fun _ _ _ _ h => h, fun _ => rfl, fun _ _ => rfl⟩
instance (priority := 2000) JO.refl (x : List A) : JO x x := ⟨fun _ _ h => h, fun _ _ _ _ h => h, rfl, fun _ h => h⟩
theorem Yg {S : zl} {xs ys : List A} (hl : xs.length = ys.length) (h : xs = []) : ys = [] := by
 subst h; exact List.length_eq_zero_iff.1 hl.symm
instance LeA.osl (sz : Nat) (t : Bool) (xs ys : List A) [h : JO xs ys] : LeA (.osl sz t xs) (.osl sz false ys) := {
 rep := fun S cs q => by simp only [Rep] at q
 conc := fun S hp cs F q => by
  simp only [zO] at q ⊢
  obtain ⟨p, c, e, h1, h2, h3, h4, h5⟩ := q
  refine ⟨p, c, by rw [← h.len]; exact e, by simp, by rw [← h.len]; exact h2, h3, h.size _ h4, ?_⟩
  rcases h5 with ⟨q1, q2, q3, q4⟩ | ⟨b, arr, ty, l, F', e1, e2, e3, e4, e5, e6, e7⟩
  ·exact .inl ⟨Yg (S := S) h.len q1, q2, q3, q4⟩
  ·exact .inr ⟨b, arr, ty, l, F', e1, e2, e3, by rw [← h.len]; exact e4, h.conc _ _ _ _ e5, e6, e7⟩
 val := fun _ => rfl
 tup := fun _ e => by cases e }
instance LeA.sl (sz : Nat) (t : Bool) (xs ys : List A) [h : JO xs ys] : LeA (.sl sz t xs) (.sl sz false ys) := {
 rep := fun S cs q => by
  simp only [Rep] at q ⊢
  obtain ⟨p, c, e, h1, h2, h3, h4⟩ := q
  refine ⟨p, c, by rw [← h.len]; exact e, by simp, by rw [← h.len]; exact h2, h.size _ h3, ?_⟩
  rcases h4 with q | ⟨b, o, l, q1, q2, q3⟩
  ·exact .inl (Yg (S := S) h.len q)
  ·exact .inr ⟨b, o, l, q1, h.rep _ _ q2, q3⟩
 conc := fun S hp cs F q => by
  simp only [zO] at q ⊢
  refine ⟨?_, q.2⟩
  have q := q.1
  simp only [Rep] at q ⊢
  obtain ⟨p, c, e, h1, h2, h3, h4⟩ := q
  refine ⟨p, c, by rw [← h.len]; exact e, by simp, by rw [← h.len]; exact h2, h.size _ h3, ?_⟩
  rcases h4 with q | ⟨b, o, l, q1, q2, q3⟩
  ·exact .inl (Yg (S := S) h.len q)
  ·exact .inr ⟨b, o, l, q1, h.rep _ _ q2, q3⟩
 val := fun _ => rfl
 tup := fun _ e => by cases e }
instance LeA.agg (xs ys : List A) [h : JO xs ys] : LeA (.agg xs) (.agg ys) := {
 rep := fun S cs q => by simp only [Rep] at q ⊢; exact h.rep _ _ q
 conc := fun S hp cs F q => by simp only [zO] at q ⊢; exact h.conc _ _ _ _ q
 val := fun _ => rfl
 tup := fun _ e => by cases e }
instance LeA.box (x y : A) [h : LeA x y] : LeA (.box x) (.box y) := {
 rep := fun S cs q => by simp only [Rep] at q
 conc := fun S hp cs F q => by
  simp only [zO] at q ⊢
  obtain ⟨b, ty, l, F', e1, e2, e3, e4, e5⟩ := q
  exact ⟨b, ty, l, F', e1, e2, h.conc _ _ _ _ e3, e4, e5⟩
 val := fun _ => rfl
 tup := fun _ e => by cases e }
theorem LeA.size {x y : A} (h : LeA x y) (hx : x.size = y.size) : ∀ sz, x.size = sz → y.size = sz := fun sz e => hx ▸ e
class SzA (x y : A) : Prop where
 eq : x.size = y.size
instance (priority := 2000) SzA.refl (x : A) : SzA x x := ⟨rfl⟩
instance SzA.osl (sz sz' : Nat) (t t' : Bool) (xs ys : List A) : SzA (.osl sz t xs) (.osl sz' t' ys) := ⟨rfl⟩
instance SzA.sl (sz sz' : Nat) (t t' : Bool) (xs ys : List A) : SzA (.sl sz t xs) (.sl sz' t' ys) := ⟨rfl⟩
instance SzA.box (x y : A) : SzA (.box x) (.box y) := ⟨rfl⟩
class z6Y (x y : List A) : Prop where
 eq : A.sizes x = A.sizes y
instance z6Y.nil : z6Y [] [] := ⟨rfl⟩
instance z6Y.cons (x y : A) (xs ys : List A) [h : SzA x y] [k : z6Y xs ys] : z6Y (x :: xs) (y :: ys) := ⟨by simp only [A.sizes, h.eq, k.eq]⟩
instance SzA.agg (xs ys : List A) [h : z6Y xs ys] : SzA (.agg xs) (.agg ys) := ⟨by simp only [A.size, h.eq]⟩
instance JO.nil : JO [] [] := JO.refl []
instance JO.cons (x y : A) (xs ys : List A) [h : LeA x y] [z : SzA x y] [k : JO xs ys] : JO (x :: xs) (y :: ys) := {
 rep := fun S cs q => by
  simp only [yj] at q ⊢
  obtain ⟨c1, c2, e, q1, q2⟩ := q
  exact ⟨c1, c2, e, h.rep _ _ q1, k.rep _ _ q2⟩
 conc := fun S hp cs F q => by
  simp only [zL] at q ⊢
  obtain ⟨c1, c2, F1, F2, e, e2, q1, q2⟩ := q
  exact ⟨c1, c2, F1, F2, e, e2, h.conc _ _ _ _ q1, k.conc _ _ _ _ q2⟩
 len := by simp [k.len]
 size := fun sz q => by
  intro y' hy
  rcases List.mem_cons.1 hy with rfl | hy
  ·rw [← z.eq]; exact q x (by simp)
  ·exact k.size sz (fun x hx => q x (by simp [hx])) y' hy }
theorem z7E {α : Type} {f g : α → A} (h : ∀ x, LeA (f x) (g x)) (z : ∀ x, SzA (f x) (g x)) : ∀ l : List α, JO (l.map f) (l.map g)
 | [] => JO.nil
 | x :: l => @JO.cons _ _ _ _ (h x) (z x) (z7E h z l)
instance JO.map {α : Type} (f g : α → A) [h : ∀ x, LeA (f x) (g x)] [z : ∀ x, SzA (f x) (g x)] (l : List α) : JO (l.map f) (l.map g) := z7E h z l
theorem LeA.repV {x y : A} (h : LeA x y) {S : zl} {v : Value} (q : xx S x v) : xx S y v := by
 by_cases ht : ∃ fs, x = .tup fs
 ·obtain ⟨fs, rfl⟩ := ht
  rw [h.tup fs rfl]; exact q
 ·have q1 : vM S x v := by cases x <;> simp only [xx] at q <;> first | exact q | exact absurd ⟨_, rfl⟩ ht
  obtain ⟨cs, c1, c2⟩ := q1
  exact vM.repV ⟨cs, h.rep _ _ c1, by rw [← h.val]; exact c2⟩
class LeV (x y : A) : Prop where
 has : ∀ S h v F, Has S h x v F → Has S h y v F
instance (priority := 2000) LeV.refl (x : A) : LeV x x := ⟨fun _ _ _ _ h => h⟩
instance LeV.one (x y : A) [h : LeA x y] : LeV x y := ⟨fun S hp v F q => by
 rcases q with ⟨q, e⟩ | ⟨cs, q1, q2, q3⟩
 ·exact .inl ⟨h.repV q, e⟩
 ·exact .inr ⟨cs, h.conc _ _ _ _ q1, q2, by rw [← h.val]; exact q3⟩⟩
class QI (xs ys : List A) : Prop where
 all : ∀ S vs, jk (vM S) xs vs → jk (vM S) ys vs
instance QI.nil : QI [] [] := ⟨fun _ _ h => h⟩
instance QI.cons (x y : A) (xs ys : List A) [h : LeA x y] [k : QI xs ys] : QI (x :: xs) (y :: ys) := ⟨fun S vs q => by
 cases vs with
 | nil => exact q.elim
 | cons v vs =>
  refine ⟨?_, k.all S vs q.2⟩
  obtain ⟨cs, c1, c2⟩ := q.1
  exact ⟨cs, h.rep _ _ c1, by rw [← h.val]; exact c2⟩⟩
instance LeV.tup (xs ys : List A) [k : QI xs ys] : LeV (.tup xs) (.tup ys) := ⟨fun S hp v F q => by
 rcases q with ⟨q, e⟩ | ⟨cs, q1, q2, q3⟩
 ·simp only [xx] at q
  obtain ⟨vs, e2, q⟩ := q
  exact .inl ⟨by simp only [xx]; exact ⟨vs, e2, k.all _ _ q⟩, e⟩
 ·simp only [zO] at q1⟩
def LeT : T → T → Prop
 | .own x, y => ∃ z, y = .own z ∧ LeA x z
 | .d x, y => ∃ z, y = .d z ∧ LeA x z
 | .als r p er ec, y => p = [] ∧ y = .als r [] er ec
 | .gone, y => y = .gone
 | _, _ => False
class UR (l m : List (Nat × T)) : Prop where
 ent : ∀ t, (ofL l t).er = (ofL m t).er ∧ (ofL l t).ec = (ofL m t).ec ∧ LeT (ofL l t).t (ofL m t).t
instance UR.nil : UR [] [] := ⟨fun t => ⟨rfl, rfl, rfl⟩⟩
theorem UR.cons' {k : Nat} {x y : T} {l m : List (Nat × T)} (h : LeT x y) (hl : UR l m) : UR ((k, x) :: l) ((k, y) :: m) := ⟨fun t => by
 simp only [ofL]
 split
 ·exact ⟨rfl, rfl, h⟩
 ·exact hl.ent t⟩
instance UR.own (k : Nat) (x y : A) (l m : List (Nat × T)) [h : LeA x y] [hl : UR l m] : UR ((k, .own x) :: l) ((k, .own y) :: m) := UR.cons' ⟨y, rfl, h⟩ hl
instance UR.d (k : Nat) (x y : A) (l m : List (Nat × T)) [h : LeA x y] [hl : UR l m] : UR ((k, .d x) :: l) ((k, .d y) :: m) := UR.cons' ⟨y, rfl, h⟩ hl
instance UR.als (k r er ec : Nat) (l m : List (Nat × T)) [hl : UR l m] : UR ((k, .als r [] er ec) :: l) ((k, .als r [] er ec) :: m) := UR.cons' ⟨rfl, rfl⟩ hl
instance UR.gone (k : Nat) (l m : List (Nat × T)) [hl : UR l m] : UR ((k, .gone) :: l) ((k, .gone) :: m) := UR.cons' rfl hl
class LeL (l m : List (Nat × T)) : Prop where
 or : l = m ∨ UR l m
instance (priority := 2000) LeL.refl (l : List (Nat × T)) : LeL l l := ⟨.inl rfl⟩
instance LeL.of0 (l m : List (Nat × T)) [h : UR l m] : LeL l m := ⟨.inr h⟩
theorem Sim.le {C : Ctx} {S : zl} {Fp : Nat → List Nat} {X : List Nat} {st st' : St} {a : Act} {w : World} (h : Sim C S Fp X st a w) (hl : ∀ t, (st t).er = (st' t).er ∧ (st t).ec = (st' t).ec ∧ LeT (st t).t (st' t).t) : Sim C S Fp X st' a w := {
 size := h.size
 pin := h.pin
 defers := h.defers
 below := h.below
 mine := h.mine
 still := h.still
 sinc := h.sinc
 sbase := h.sbase
 disj := h.disj
 base := h.base
 xn := h.xn
 xd := h.xd
 xb := h.xb
 ent := fun t => by
  have q := h.ent t
  obtain ⟨_, _, l3⟩ := hl t
  unfold yH at q ⊢
  cases ht : (st t).t with
  | gone =>
   simp only [ht, LeT] at l3 q
   simp only [l3]; exact q
  | d x =>
   simp only [ht, LeT] at l3 q
   obtain ⟨z, e, l3⟩ := l3
   simp only [e]; exact ⟨l3.repV q.1, q.2⟩
  | own x =>
   simp only [ht, LeT] at l3 q
   obtain ⟨z, e, l3⟩ := l3
   simp only [e]
   obtain ⟨cs, q1, q2, q3⟩ := q
   exact ⟨cs, l3.conc _ _ _ _ q1, q2, by rw [← l3.val]; exact q3⟩
  | als r p er ec =>
   simp only [ht, LeT] at l3 q
   obtain ⟨rfl, e⟩ := l3
   simp only [e]
   refine ⟨q.1, ?_⟩
   obtain ⟨q1, q2, q3⟩ := q.2
   obtain ⟨r1, r2, r3⟩ := hl r
   unfold qo
   refine ⟨by rw [← r1]; exact q1, by rw [← r2]; exact q2, ?_⟩
   cases hr : (st r).t with
   | own x =>
    simp only [hr, LeT] at q3 r3
    obtain ⟨z, e2, _⟩ := r3
    simp only [e2]
    intro g1 g2
    rcases q3 (by rw [r1]; exact g1) (.inl trivial) with g | g
    ·exact .inl g
    ·simp [Yi] at g
   | d x =>
    simp only [hr, LeT] at q3 r3
    obtain ⟨z, e2, _⟩ := r3
    simp only [e2]
    intro g1 _
    exact q3 (by rw [r1]; exact g1) trivial
   | gone => simp only [hr, LeT] at r3; simp only [r3]
   | als u p e1 e2 => simp only [hr, LeT] at r3; simp only [r3.2]
   | ptr u p e1 e2 => simp only [hr, LeT] at r3
  | ptr r p er ec => simp only [ht, LeT] at l3 }
section
variable {P : Program} {tt : TT} {ctr : Ctr} {n : Fr} {Q : Exit → St → Prop}
theorem z6N {c : Code} {l m : List (Nat × T)} (h : LeL l m) (k : AWP P n c (ofL m) Q) : AWP P n c (ofL l) Q :=
 h.or.elim (fun e => e ▸ k) fun h => fun rd mm df w0 S0 M S Fp a w hc hs => k rd mm df w0 S0 M S Fp a w hc (hs.le h.ent)
theorem zN {X : Type} {c c' : Code} {fs : List Fm} {st0 : St} (e : c = .loop c') (live : List Nat) (Inv : X → Prop) (mu : X → Nat) (stOf : X → List (Nat × T)) (x0 : X) (l0 : List (Nat × T)) (hs : canon live st0 = ofL l0) (hl : LeL l0 (stOf x0)) (h0 : Inv x0)
  (round : ∀ x, Inv x → ∀ J : St → Prop, (∀ st' l' x', Inv x' → mu x' < mu x → canon live st' = ofL l' → LeL l' (stOf x') → J st') → AWP P n c' (ofL (stOf x)) (Qf P n (.pre J :: fs) Q)) : AWP P n c st0 (Qf P n fs Q) := by
 subst e
 refine AWP.loop live (fun k st => ∃ x l, Inv x ∧ mu x = k ∧ st = ofL l ∧ LeL l (stOf x)) (mu x0) ⟨x0, l0, h0, rfl, hs, hl⟩ ?_
 rintro k st ⟨x, l, hx, rfl, rfl, hl⟩
 refine z6N hl ?_
 exact round x hx _ fun st' l' x' h1 h2 h3 h4 => ⟨_, h2, x', l', h1, rfl, h3, h4⟩
theorem zr {X : Type} {c x y : Code} {fs : List Fm} {st0 : St} (e : c = .seq x y) (live live0 : List Nat) (l0 : List (Nat × T)) (hs : canon live0 st0 = ofL l0) (Inv : X → Prop) (stJ : X → List (Nat × T)) (h1 : ∀ z, Inv z → AWP P n y (ofL (stJ z)) (Qf P n fs Q))
  (h2 : ∀ J : St → Prop, (∀ st' l' z, Inv z → canon live st' = ofL l' → LeL l' (stJ z) → J st') → AWP P n x (ofL l0) (Qf P n (.pre J :: fs) Q)) : AWP P n c st0 (Qf P n fs Q) := by
 subst e
 refine AWP.canon live0 ?_
 rw [hs]
 refine AWP.nextC live fun K hK => h2 K fun st' l' z hz he hl => hK st' ?_
 rw [he]
 exact z6N hl (h1 z hz)
def z7s (tt : TT) (keep : Bool) (rs : List (Nat × Option Nat)) : SM A :=
 match keep, rs with
 | true, [(t, none)] => z7u tt true [t]
 | _, rs => z7t tt rs
def z44 (tt : TT) (keep : Bool) (rs : List (Nat × Option Nat)) : HM A :=
 match keep, rs with
 | true, [(t, none)] => yo (z7u tt true [t])
 | _, rs => uj tt (rs.map fun r => (.tmp r.1, 0)) >>= fun xs =>
  match uX tt rs xs with
  | some [y] => pure y
  | some ys => pure (.tup ys)
  | none => zM
theorem z52 (tt : TT) (rs : List (Nat × Option Nat)) : Snd (z7t tt rs) (uj tt (rs.map fun r => (.tmp r.1, 0)) >>= fun xs =>
  match uX tt rs xs with
  | some [y] => pure y
  | some ys => pure (.tup ys)
  | none => zM) := by
 refine zj (qE _ _) fun xs => ?_
 cases uX tt rs xs with
 | none => exact zo _
 | some ys => rcases ys with _ | ⟨y, _ | ⟨z, l⟩⟩ <;> exact wn _
theorem z7l (tt : TT) (keep : Bool) (rs : List (Nat × Option Nat)) : Snd (z7s tt keep rs) (z44 tt keep rs) := by
 cases keep with
 | false => rcases rs with _ | ⟨⟨t, _ | ty⟩, _ | ⟨q, l⟩⟩ <;> exact z52 _ _
 | true => rcases rs with _ | ⟨⟨t, _ | ty⟩, _ | ⟨q, l⟩⟩ <;> first | exact zm _ | exact z52 _ _
theorem zx {k : Nat} {n : Fr} {fn : Func} {body : Code} {keep : Bool} {rs : List (Nat × Option Nat)} {ls : List A} {r : A} (hT : vw P tt) (hf : P.funcs[k]? = some fn) (hnm : (fn.name == "runtime.NumGoroutine") = false) (hb : fn.body = some body)
  (hn : n = ⟨fn.ntmps, []⟩) (hr : fn.results = (rs.map z5s).toArray) (ha : ls.length ≤ fn.ntmps)
  (h : ∀ E : St → Prop, (∀ st x R U, z7s tt keep rs st = some (x, R, U) → LeV x r → E st) → AWP P n body (ofL (z4q 0 ls)) (Qf P n [] (z8Y E))) : XK P k ls r := by
 have h' := h (fun st => ∃ x R U, z7s tt keep rs st = some (x, R, U) ∧ LeV x r) fun st x R U h1 h2 => ⟨x, R, U, h1, h2⟩
 refine ⟨⟨fn, hf, hnm, by rw [hb]; rfl⟩, ?_⟩
 intro S w vs F hS hq hF
 have h2 : AWP P n body (ini ls) (fun ex st => (ex = .normal ∨ ex = .ret) ∧ ∃ x R U, z7s tt keep rs st = some (x, R, U) ∧ LeV x r) := by
  rw [z1h]
  refine AWP.mono h' ?_
  intro e st q
  cases e with
  | normal => exact ⟨.inl rfl, q⟩
  | ret => exact ⟨.inr rfl, q⟩
  | _ => exact q.elim
 refine QC (R := fun w e w' => ∃ v' S' F', e = .returned v' ∧ kW (fun k => w.heap.size ≤ k ∨ k ∈ F) w w' ∧ (∀ b o u, S b o = some u → S' b o = some u) ∧ (∀ b o, b < w.heap.size → b ∉ F → S' b o = S b o) ∧ wI S' w' ∧ Has S' w'.heap r v' F' ∧ F'.Nodup ∧
   ∀ k ∈ F', w.heap.size ≤ k ∨ k ∈ F) hf hb (by rw [hn]) (by rw [hn]; simp) ha hS hq hF h2 ?_
 rintro ex st' ⟨hx, x, R, U, h3, h4⟩
 refine ⟨hx, ?_⟩
 intro df S' Fp' a' w' h1
 have gcase : z7t tt rs st' = some (x, R, U) → ∃ v, (results fn a'.tmps).run P w' = .ok v w' ∧ ∃ v' S' F', Ending.returned v = .returned v' ∧ kW (fun k => w.heap.size ≤ k ∨ k ∈ F) w w' ∧ (∀ b o u, S b o = some u → S' b o = some u) ∧ (∀ b o, b < w.heap.size → b ∉ F → S' b o = S b o) ∧ wI S' w' ∧ Has S' w'.heap r v' F' ∧ F'.Nodup ∧
   ∀ k ∈ F', w.heap.size ≤ k ∨ k ∈ F := by
  intro he
  obtain ⟨v, S2, hres, g1, g2, g3, g4⟩ := z6a (P := P) hT hr h1 he
  refine ⟨_, hres, _, S2, [], rfl, h1.below, fun b o u hu => g1 _ _ _ (h1.sinc _ _ _ hu), ?_, g3, h4.has _ _ _ _ (.inl ⟨g4, rfl⟩), by simp, by simp⟩
  intro b o hb' hbF
  exact g2 b o (by rintro (hq | hq) <;> first | omega | exact hbF hq)
 cases keep with
 | false => exact gcase (by rcases rs with _ | ⟨⟨t, _ | ty⟩, _ | ⟨q, l⟩⟩ <;> exact h3)
 | true =>
  rcases rs with _ | ⟨⟨t, _ | ty⟩, _ | ⟨q, l⟩⟩
  ·exact gcase h3
  ·have h3' : z7u tt true [t] st' = some (x, R, U) := h3
   obtain ⟨hl, S2, F', g1, g2, g3, g4, g5, g6⟩ := z6b h1 h3'
   refine ⟨_, z0j (P := P) (ts := [t]) hr hl a' w', _, S2, F', rfl, h1.below, fun b o u hu => g1 _ _ _ (h1.sinc _ _ _ hu), ?_, g3, h4.has _ _ _ _ g4, g5, g6⟩
   intro b o hb' hbF
   exact g2 b o (by rintro (hq | hq) <;> first | omega | exact hbF hq)
  ·exact gcase h3
  ·exact gcase h3
  ·exact gcase h3
def zao {P : Program} (X : XH P) (tt : TT) (ctr : Ctr) (n : Fr) (keep : Bool) (rs : List (Nat × Option Nat)) (k : Nat) (c : Code) (fs : List Fm) (st : St) (hs : List H) : Option (A × List Prop) :=
 match z3Z X tt ctr n k c fs st hs with
 | some (.fin .normal, st', hs', ob) => match z44 tt keep rs st' hs' with | some (x, _, _, [], ob') => some (x, ob ++ ob') | _ => none
 | some (.fin .ret, st', hs', ob) => match z44 tt keep rs st' hs' with | some (x, _, _, [], ob') => some (x, ob ++ ob') | _ => none
 | _ => none
theorem zh (X : XH P) (hT : vw P tt) (hC : y6 P ctr) (hm : P.follows .mixedOrders = true) {E : St → Prop} {r : A} {keep : Bool} {rs : List (Nat × Option Nat)} (hE : ∀ st x R U, z7s tt keep rs st = some (x, R, U) → LeV x r → E st) (k : Nat) {c : Code} {fs : List Fm} {st : St} {hs : List H} {x : A} (obs : List Ob)
  (e : zao X tt ctr n keep rs k c fs st hs = some (x, obs.map Ob.p)) (hle : LeV x r) : AWP P n c st (Qf P n fs (z8Y E)) := by
 unfold zao at e
 have fin : ∀ {st' hs' ob}, (match z44 tt keep rs st' hs' with | some (x, _, _, [], ob') => some (x, ob ++ ob') | _ => none) = some (x, obs.map Ob.p) → Qb ob ∧ E st' := by
  intro st' hs' ob e
  split at e
  ·rename_i x1 R U ob' he
   simp only [Option.some.injEq, Prod.mk.injEq] at e
   obtain ⟨rfl, e2⟩ := e
   have ha := z2E obs
   rw [← e2] at ha
   obtain ⟨o1, o2⟩ := yL ha
   exact ⟨o1, hE _ _ _ _ (z7l tt keep rs _ _ _ _ _ _ _ he o2) hle⟩
  ·cases e
 split at e
 ·rename_i st' hs' ob' he
  obtain ⟨h1, h2⟩ := fin e
  exact z0k X hT hC hm k c fs st hs _ _ _ _ he h1 h2
 ·rename_i st' hs' ob' he
  obtain ⟨h1, h2⟩ := fin e
  exact z0k X hT hC hm k c fs st hs _ _ _ _ he h1 h2
 ·cases e
end
end Go.Own

namespace Go.Own
abbrev w64 (x : Int) : Int := IntKind.i64.wrap x
def idx {α : Type} (l : List α) : Int → Option α
 | .ofNat n => l[n]?
 | .negSucc _ => none
inductive LR (σ τ : Type) where
 | next (s : σ)
 | done (t : τ)
def yG {σ τ : Type} (step : σ → Option (LR σ τ)) (n : Nat) : σ → Option τ :=
 Nat.rec (fun _ => none) (fun _ ih s => match step s with | none => none | some (.next s') => ih s' | some (.done t) => some t) n
def wJ : Nat := 18446744073709551616
def loop {σ τ : Type} (step : σ → Option (LR σ τ)) (s : σ) : Option τ := yG step wJ s
def zbi {σ τ : Type} (step : σ → Option (LR σ τ)) (m : Nat) (t : τ) : LR σ τ → Prop
 | .next s' => yG step m s' = some t
 | .done t' => t' = t
theorem xM {σ τ : Type} {step : σ → Option (LR σ τ)} {n : Nat} {s : σ} {t : τ} (h : yG step n s = some t) : ∃ m lr, n = m + 1 ∧ step s = some lr ∧ zbi step m t lr := by
 cases n with
 | zero => cases h
 | succ m =>
  have h' : (match step s with | none => none | some (.next s') => yG step m s' | some (.done t) => some t) = some t := h
  cases hs : step s with
  | none => simp [hs] at h'
  | some lr =>
   refine ⟨m, lr, rfl, rfl, ?_⟩
   cases lr with
   | next s' => simp only [hs] at h'; exact h'
   | done t' => simp only [hs, Option.some.injEq] at h'; exact h'
theorem zi {α β : Type} {x : Option α} {f : α → Option β} {r : β} (h : Option.bind x f = some r) : ∃ u, x = some u ∧ f u = some r := by
 cases x with
 | none => cases h
 | some u => exact ⟨u, rfl, h⟩
theorem zY {α : Type} {c : Bool} {x y : Option α} {r : α} (h : (bif c then x else y) = some r) : (c = true ∧ x = some r) ∨ (c = false ∧ y = some r) := by
 cases c
 ·exact .inr ⟨rfl, h⟩
 ·exact .inl ⟨rfl, h⟩
def gd {α : Type} (p : Prop) [Decidable p] (x : Option α) : Option α := if p then x else none
theorem gdE {α : Type} {p : Prop} [Decidable p] {x : Option α} {r : α} (h : gd p x = some r) : p ∧ x = some r := by
 unfold gd at h
 by_cases hp : p
 ·rw [if_pos hp] at h; exact ⟨hp, h⟩
 ·rw [if_neg hp] at h; cases h
theorem ze {α : Type} {a b : α} (h : some a = some b) : a = b := by cases h; rfl
section
variable {α : Type}
def eI (k : IntKind) (x : Int) : A := .atom (.int k x)
def eB (b : Bool) : A := .atom (.bool b)
def eSl (sz : Nat) (t : Bool) (f : α → A) (l : List α) : A := .sl sz t (l.map f)
def eOs (sz : Nat) (t : Bool) (f : α → A) (l : List α) : A := .osl sz t (l.map f)
def eBx (f : α → A) (x : α) : A := .box (f x)
def eSp (f : α → A) (x : α) : A := .sptr (f x)
def JQ (k : Nat) (_ : Unit) : A := .fn k []
def z02 (k : Nat) (f : α → A) (x : α) : A := .fn k [f x]
class z3C (f : α → A) : Prop where
 isD : ∀ x, (f x).isD = true
class z8V (f : α → A) : Prop where
 no : ∀ x, (f x).isD = false
class UT (f : α → A) (g : outParam (α → A)) : Prop where
 lo : ∀ x, (f x).loose = g x
class KY (f : α → A) (g : outParam (α → A)) : Prop where
 live : ∀ x, (f x).live = true
 sh : ∀ x, (f x).shut = g x
class yO (f : α → A) : Prop where
 inj : ∀ x y, f x = f y → x = y
instance (k : IntKind) : z3C (eI k) := ⟨fun _ => rfl⟩
instance (sz : Nat) (t : Bool) (f : α → A) : z3C (eSl sz t f) := ⟨fun _ => rfl⟩
instance (k : Nat) : UT (JQ k) (JQ k) := ⟨fun _ => rfl⟩
instance (k : Nat) (f f' : α → A) [h : UT f f'] : UT (z02 k f) (z02 k f') := ⟨fun x => by simp only [z02, A.loose, A.looses, h.lo]⟩
instance (k : Nat) : yO (JQ k) := ⟨fun _ _ _ => rfl⟩
instance (k : Nat) (f : α → A) [h : yO f] : yO (z02 k f) := ⟨fun a b e => by simp only [z02, A.fn.injEq, List.cons.injEq, true_and, and_true] at e; exact h.inj _ _ e⟩
instance (sz : Nat) (t : Bool) (f : α → A) : z8V (eOs sz t f) := ⟨fun _ => rfl⟩
instance (k : IntKind) : UT (eI k) (eI k) := ⟨fun _ => rfl⟩
instance : UT eB eB := ⟨fun _ => rfl⟩
instance (sz : Nat) (t : Bool) (f g : α → A) [h : UT f g] : UT (eSl sz t f) (eSl sz false g) := ⟨fun l => by simp only [eSl, A.loose, Qs, h.lo]⟩
instance (sz : Nat) (t : Bool) (f g : α → A) [h : UT f g] : UT (eOs sz t f) (eOs sz false g) := ⟨fun l => by simp only [eOs, A.loose, Qs, h.lo]⟩
instance (f g : α → A) [h : UT f g] : UT (eBx f) (eBx g) := ⟨fun l => by simp only [eBx, A.loose, h.lo]⟩
instance (f g : α → A) [h : UT f g] : UT (eSp f) (eSp g) := ⟨fun l => by simp only [eSp, A.loose, h.lo]⟩
instance (k : IntKind) : KY (eI k) (eI k) := ⟨fun _ => rfl, fun _ => rfl⟩
instance : KY eB eB := ⟨fun _ => rfl, fun _ => rfl⟩
instance (sz : Nat) (t : Bool) (f : α → A) : KY (eSl sz t f) (eSl sz t f) := ⟨fun _ => rfl, fun _ => rfl⟩
instance (sz : Nat) (t : Bool) (f g : α → A) [h : KY f g] : KY (eOs sz t f) (eSl sz t g) := ⟨fun l => by simp only [eOs, A.live]; exact Ud f l h.live, fun l => by simp only [eOs, eSl, A.shut, VI, h.sh]⟩
instance (f g : α → A) [h : KY f g] : KY (eBx f) (eSp g) := ⟨fun x => by simp only [eBx, A.live]; exact h.live x, fun x => by simp only [eBx, eSp, A.shut, h.sh]⟩
instance (k : IntKind) : yO (eI k) := ⟨fun a b h => by simpa [eI] using h⟩
instance : yO eB := ⟨fun a b h => by simpa [eB] using h⟩
theorem z2J {β : Type} {f : α → β} (hf : ∀ a b, f a = f b → a = b) : ∀ {l l' : List α}, l.map f = l'.map f → l = l'
 | [], [], _ => rfl
 | [], _ :: _, h => by simp at h
 | _ :: _, [], h => by simp at h
 | a :: l, b :: l', h => by
  simp only [List.map_cons, List.cons.injEq] at h
  rw [hf _ _ h.1, z2J hf h.2]
instance (sz : Nat) (t : Bool) (f : α → A) [h : yO f] : yO (eSl sz t f) := ⟨fun a b e => by simp only [eSl, A.sl.injEq, true_and] at e; exact z2J h.inj e⟩
instance (sz : Nat) (t : Bool) (f : α → A) [h : yO f] : yO (eOs sz t f) := ⟨fun a b e => by simp only [eOs, A.osl.injEq, true_and] at e; exact z2J h.inj e⟩
instance (f : α → A) [h : yO f] : yO (eSp f) := ⟨fun a b e => by simp only [eSp, A.sptr.injEq] at e; exact h.inj _ _ e⟩
instance (f : α → A) [h : yO f] : yO (eBx f) := ⟨fun a b e => by simp only [eBx, A.box.injEq] at e; exact h.inj _ _ e⟩
instance (sz sz' : Nat) (t t' : Bool) (f g : α → A) (l l' : List α) : SzA (eSl sz t f l) (eSl sz' t' g l') := ⟨rfl⟩
instance (sz : Nat) (t : Bool) (f g : α → A) [h : ∀ x, LeA (f x) (g x)] [z : ∀ x, SzA (f x) (g x)] (l : List α) : LeA (eSl sz t f l) (eSl sz false g l) := LeA.sl sz t (l.map f) (l.map g)
instance (sz : Nat) (t : Bool) (f g : α → A) [h : ∀ x, LeA (f x) (g x)] [z : ∀ x, SzA (f x) (g x)] (l : List α) : LeA (eOs sz t f l) (eOs sz false g l) := LeA.osl sz t (l.map f) (l.map g)
theorem i0 {l : List α} {i : Int} {u : α} (h : idx l i = some u) : 0 ≤ i := by
 cases i with
 | ofNat n => exact Int.natCast_nonneg n
 | negSucc n => cases h
theorem iE {l : List α} {i : Int} {u : α} (h : idx l i = some u) : l[i.toNat]? = some u := by
 cases i with
 | ofNat n => exact h
 | negSucc n => cases h
theorem iM (f : α → A) {l : List α} {i : Int} {u : α} (h : idx l i = some u) : (l.map f)[i.toNat]? = some (f u) := by rw [List.getElem?_map, iE h]; rfl
theorem iL (f : α → A) {l : List α} {i : Int} {u : α} (h : idx l i = some u) : 0 ≤ i ∧ i.toNat < (l.map f).length := ⟨i0 h, by rw [List.length_map]; exact (List.getElem?_eq_some_iff.1 (iE h)).1⟩
theorem sM (f : α → A) (l : List α) (i : Int) (v : α) : (l.map f).set i.toNat (f v) = (l.set i.toNat v).map f := by rw [List.map_set]
theorem dM (f : α → A) [h : z3C f] (l : List α) : A.areD (l.map f) = true := z1C f l h.isD
theorem d1 (f : α → A) [h : z3C f] (x : α) : A.areD [f x] = true := by simp [A.areD, h.isD]
theorem o1 (f : α → A) [h : z8V f] (x : α) : A.areD [f x] = false := by simp [A.areD, h.no]
theorem shM (f g : α → A) [h : KY f g] (l : List α) : A.lives (l.map f) = true ∧ A.shuts (l.map f) = l.map g := ⟨Ud f l h.live, by rw [VI]; simp only [h.sh]⟩
theorem aM (f : α → A) (l m : List α) : l.map f ++ m.map f = (l ++ m).map f := by rw [List.map_append]
theorem aL (f g : α → A) {l m : List α} (h : l.length + m.length ≤ 4294967296) : (l.map f).length + (m.map g).length ≤ lim := by simpa [lim] using h
theorem aN (f g : α → A) [z3C g] {l m : List α} (h : l.length + m.length ≤ 4294967296) (hm : m ≠ []) : (l.map g).length + (m.map f).length ≤ lim ∧ m.map f ≠ [] ∧ A.areD (l.map g) = true := ⟨by simpa [lim] using h, by simpa using hm, dM g l⟩
theorem rM (sz : Nat) (f : α → A) (n : Int) (z : α) : A.osl sz (decide (n = n)) (List.replicate n.toNat (f z)) = eOs sz true f (List.replicate n.toNat z) := by simp [eOs]
theorem rL {n : Int} (h : 0 ≤ n ∧ n ≤ 4294967296) : 0 ≤ n ∧ n ≤ n ∧ n ≤ ((lim : Nat) : Int) := ⟨h.1, Int.le_refl _, h.2⟩
theorem lnM (f : α → A) (l : List α) : A.atom (.int .i64 (((l.map f).length : Nat) : Int)) = .atom (.int .i64 ((l.length : Nat) : Int)) := by rw [List.length_map]
theorem oC (f : α → A) [h : z8V f] (x : α) (l : List α) : A.areD ((x :: l).map f) = false := by simp [A.areD, h.no]
theorem aM0 (f : α → A) (m : List α) : ([] : List A) ++ m.map f = m.map f := rfl
theorem slB {a b : Int} {r : Prop} (h : 0 ≤ a ∧ a ≤ b ∧ r) : 0 ≤ b := Int.le_trans h.1 h.2.1
theorem slC {a b m : Int} {r : Prop} (h : 0 ≤ a ∧ a ≤ b ∧ r ∧ b ≤ m) : 0 ≤ m := by omega
theorem z7k (f : α → A) {l : List α} {b : Int} (h : (0 : Int) ≤ 0 ∧ 0 ≤ b ∧ b ≤ ((l.length : Nat) : Int)) : 0 ≤ b.toNat ∧ b.toNat ≤ (l.map f).length := by simp; omega
theorem z5U (f : α → A) {l : List α} {b m : Int} (h : (0 : Int) ≤ 0 ∧ 0 ≤ b ∧ m ≤ ((l.length : Nat) : Int) ∧ b ≤ m) : 0 ≤ b.toNat ∧ b.toNat ≤ m.toNat ∧ m.toNat ≤ (l.map f).length := by simp; omega
theorem z9f (sz : Nat) (f : α → A) (l : List α) (a b : Nat) : A.sl sz (b == b) (((l.map f).drop a).take (b - a)) = eSl sz true f ((l.drop a).take (b - a)) := by simp [eSl]
def mx (a b : Int) : Int := if a < b then b else a
theorem cuB (f : α → A) {l : List α} {b : Int} (h : 0 ≤ b ∧ b ≤ ((l.length : Nat) : Int)) : b.toNat ≤ (l.map f).length := by simp; omega
theorem cuM (f : α → A) (l : List α) (b : Int) : (l.map f).take b.toNat = (l.take b.toNat).map f := by rw [List.map_take]
theorem slM (sz : Nat) (t : Bool) (f : α → A) (l : List α) (a b : Nat) : A.sl sz t (((l.map f).drop a).take (b - a)) = eSl sz t f ((l.drop a).take (b - a)) := by simp [eSl]
def spF (k : Nat) {α ρ : Type} (enc : α → List A) (encR : ρ → A) (F : α → Option ρ) (gives : List Bool) (inj : ∀ x y, enc x = enc y → x = y) : yw := {
 α := α
 k := k
 raw := false
 gives := gives
 enc := enc
 pre := fun x => ∃ r, F x = some r
 f := fun x => match F x with | some r => encR r | none => .dead 0
 inj := by
  intro x y h _ _
  rw [inj x y h] }
theorem yP {c : Ctr} {k : Nat} {α ρ : Type} {enc : α → List A} {encR : ρ → A} {F : α → Option ρ} {gives : List Bool} {inj : ∀ x y, enc x = enc y → x = y} (h : c.Has (spF k enc encR F gives inj)) {x : α} {r : ρ} (hr : F x = some r) {as_ : List A} (ha : as_.map A.loose = enc x) :
  c.run k (c.norm k as_) = some (encR r) := by
 have h1 := h.run x ⟨r, hr⟩
 have h2 : c.raw k = false := h.raw
 unfold Ctr.norm
 rw [h2]
 simp only [Bool.false_eq_true, if_false]
 rw [ha]
 refine Eq.trans h1 ?_
 simp only [spF, hr]
theorem zJ {c : Ctr} {k : Nat} {α ρ : Type} {enc : α → List A} {encR : ρ → A} {F : α → Option ρ} {gives : List Bool} {inj : ∀ x y, enc x = enc y → x = y} (h : c.Has (spF k enc encR F gives inj)) : c.lend k = none ∧ c.gives k = gives := ⟨h.lend, h.gives⟩
theorem y8 {P : Program} {k : Nat} {α ρ : Type} {enc : α → List A} {encR : ρ → A} {F : α → Option ρ} {gives : List Bool} {inj : ∀ x y, enc x = enc y → x = y} (h : ∀ x r, F x = some r → XK P k (enc x) (encR r)) : (spF k enc encR F gives inj).Ok P := by
 rintro x ⟨r, hr⟩
 have := h x r hr
 simpa only [spF, hr] using this
theorem loN : ([] : List A).map A.loose = [] := rfl
theorem loC (f : α → A) {g : α → A} [h : UT f g] (x : α) {as_ bs : List A} (k : as_.map A.loose = bs) : (f x :: as_).map A.loose = g x :: bs := by simp only [List.map_cons, h.lo, k]
end
section
variable {P : Program} {tt : TT} {ctr : Ctr} {n : Fr} {Q : Exit → St → Prop}
theorem zI (X : XH P) (hT : vw P tt) (hC : y6 P ctr) (hm : P.follows .mixedOrders = true) (live : List Nat) (k : Nat) {c : Code} {fs : List Fm} {st : St} (hs : List H) (c' : Code) (fs' : List Fm) (l' : List (Nat × T)) (obs : List Ob)
  (e : z7r X tt ctr n live k c fs st hs = some (.at c' fs', ofL l', obs.map Ob.p)) (h : ∀ st0, canon live st0 = ofL l' → AWP P n c' st0 (Qf P n fs' Q)) : AWP P n c st (Qf P n fs Q) := z0F X hT hC hm live k obs e h
theorem zk (X : XH P) (hT : vw P tt) (hC : y6 P ctr) (hm : P.follows .mixedOrders = true) (live : List Nat) (k : Nat) {c : Code} {fs : List Fm} {st : St} (hs : List H) (J : St → Prop) (l' : List (Nat × T)) (obs : List Ob)
  (e : z7r X tt ctr n live k c fs st hs = some (.back J, ofL l', obs.map Ob.p)) (h : ∀ st0, canon live st0 = ofL l' → J st0) : AWP P n c st (Qf P n fs Q) := z0F X hT hC hm live k obs e h
end
end Go.Own

namespace Go.Own
open Classical
def z1g : A → Option (List Value)
 | .atom (.int k x) => some [.int k x]
 | .atom (.string s) => some [.string s]
 | .agg fs => keyLs fs
 | _ => none
where keyLs : List A → Option (List Value)
 | [] => some []
 | a :: as_ => match z1g a, keyLs as_ with | some x, some y => some (x ++ y) | _, _ => none
def Uh (a : A) : Option Value := (z1g a).map (zZ a)
mutual
theorem z1f {S : zl} : ∀ {a : A} {cs l : List Value}, Rep S a cs → z1g a = some l → cs = l
 | .atom v, cs, l, h, e => by
  cases v <;> simp only [z1g] at e <;> first | (cases e; done) | skip
  all_goals
   simp only [Rep] at h
   cases e
   exact h.1
 | .agg fs, cs, l, h, e => by
  simp only [Rep] at h
  simp only [z1g] at e
  exact KE h e
 | .fn _ _, _, _, _, e => by cases e
 | .tup _, _, _, _, e => by cases e
 | .sl _ _ _, _, _, _, e => by cases e
 | .sptr _, _, _, _, e => by cases e
 | .osl _ _ _, _, _, _, e => by cases e
 | .box _, _, _, _, e => by cases e
 | .dead _, _, _, _, e => by cases e
 | .opq _, _, _, _, e => by cases e
theorem KE {S : zl} : ∀ {as_ : List A} {cs l : List Value}, yj S as_ cs → z1g.keyLs as_ = some l → cs = l
 | [], cs, l, h, e => by
  simp only [yj] at h
  simp only [z1g.keyLs] at e
  cases e
  exact h
 | a :: as_, cs, l, h, e => by
  simp only [yj] at h
  obtain ⟨c1, c2, rfl, h1, h2⟩ := h
  simp only [z1g.keyLs] at e
  cases e1 : z1g a with
  | none => simp only [e1] at e; cases e
  | some x =>
   cases e2 : z1g.keyLs as_ with
   | none => simp only [e1, e2] at e; cases e
   | some y =>
    simp only [e1, e2] at e
    cases e
    rw [z1f h1 e1, KE h2 e2]
end
theorem z1e {S : zl} {a : A} {v kv : Value} (h : vM S a v) (e : Uh a = some kv) : v = kv := by
 obtain ⟨cs, h1, rfl⟩ := h
 unfold Uh at e
 obtain ⟨l, e1, rfl⟩ := Option.map_eq_some_iff.1 e
 rw [z1f h1 e1]
def WM (S : zl) (es : List (A × A)) (ents : List MapEntry) : Prop := jk (fun p (e : MapEntry) => Uh p.1 = some e.key ∧ vM S p.2 e.val) es ents
def X1 (es : List (A × A)) : Opq := {
 holds := fun S h u F => ∃ b ents cl, u = .map (some b) ∧ F = [b] ∧ h[b]? = some (.map ents cl) ∧ (∀ o, S b o = none) ∧ WM S es ents.toList
 one := fun ⟨_, _, _, e, _⟩ => .inl (by rw [e]; rfl)
 frame := fun hS hF ⟨b, ents, cl, e1, e2, e3, e4, e5⟩ => by
  subst e2
  obtain ⟨g1, g2⟩ := hF b (by simp)
  exact ⟨b, ents, cl, e1, rfl, g1.trans e3, g2, jk.mono (fun _ _ q => ⟨q.1, q.2.mono hS⟩) e5⟩
 own := fun ⟨b, ents, cl, e1, e2, e3, e4, e5⟩ k hk => by
  subst e2
  simp only [List.mem_cons, List.not_mem_nil, or_false] at hk
  subst hk
  exact ⟨(Array.getElem?_eq_some_iff.1 e3).1, e4⟩
 idx := 0 }
noncomputable def Y8 (k : A) : List (A × A) → Nat → Option (Nat × A)
 | [], _ => none
 | p :: es, i => if Uh p.1 = Uh k then some (i, p.2) else Y8 k es (i + 1)
noncomputable def Uo (k : Value) : List MapEntry → Nat → Option (Nat × Value)
 | [], _ => none
 | e :: es, i => if e.key = k then some (i, e.val) else Uo k es (i + 1)
theorem Jz {S : zl} {k : A} {kv : Value} (hk : Uh k = some kv) : ∀ {es : List (A × A)} {ents : List MapEntry} {i : Nat}, WM S es ents →
  (Y8 k es i = none ∧ Uo kv ents i = none) ∨ ∃ j y v, Y8 k es i = some (j, y) ∧ Uo kv ents i = some (j, v) ∧ vM S y v ∧ i ≤ j ∧ j < i + es.length ∧ (ents[j - i]?).map (·.key) = some kv
 | [], [], i, _ => .inl ⟨rfl, rfl⟩
 | p :: es, e :: ents, i, h => by
  simp only [Y8, Uo]
  by_cases hp : Uh p.1 = Uh k
  ·have he : e.key = kv := by
    have := h.1.1.symm.trans (hp.trans hk)
    simpa using this
   rw [if_pos hp, if_pos he]
   exact .inr ⟨i, p.2, e.val, rfl, rfl, h.1.2, Nat.le_refl _, by simp, by simp [he]⟩
  ·have he : ¬ e.key = kv := fun q => hp (by rw [h.1.1, hk, q])
   rw [if_neg hp, if_neg he]
   rcases Jz hk (i := i + 1) h.2 with q | ⟨j, y, v, q1, q2, q3, q4, q5, q6⟩
   ·exact .inl q
   ·refine .inr ⟨j, y, v, q1, q2, q3, by omega, by simp only [List.length_cons]; omega, ?_⟩
    rw [show j - i = (j - (i + 1)) + 1 by omega, List.getElem?_cons_succ]
    exact q6
 | [], _ :: _, _, h => h.elim
 | _ :: _, [], _, h => h.elim
structure z6Q (P : Program) (t kt et : Nat) (ok : A → Bool) (z : A) : Prop where
 und : P.underlying t = some (.map kt et)
 zero : ∃ zv, (∀ w, (zeroValue et).run P w = .ok zv w) ∧ ∀ S, vM S z zv
 check : ∀ a kv e w, ok a = true → Uh a = some kv → (Instr.checkKey e 10000 kt kv).run P w = .ok () w
 find : ∀ a kv, ok a = true → Uh a = some kv → ∀ (ents : List MapEntry) (es : List (A × A)), (∀ p ∈ es, ok p.1 = true) → jk (fun p (e : MapEntry) => Uh p.1 = some e.key) es ents → ∀ w, (Instr.findKey kt kv ents).run P w = .ok (Uo kv ents 0) w
 bits : ∀ a kv, ok a = true → Uh a = some kv → Instr.sameBits 10000 kv kv = true
 key : ∀ a, ok a = true → ∃ kv, Uh a = some kv
 zd : z.isD = true
section
variable {P : Program} {C : Ctx} {S : zl} {Fp : Nat → List Nat} {X : List Nat} {st : St} {a : Act} {w : World} {t kt et : Nat} {ok : A → Bool} {z : A}
noncomputable def z4g (n : Fr) (dst : Option Nat) (es : List (A × A)) (ok : A → Bool) (z : A) (x k : Operand) (two : Bool) : SM Unit := do
 let tx ← opnd x
 let y ← peek tx
 let tk ← opnd k
 let vk ← val tk
 if y = .opq (X1 es) ∧ ok vk = true ∧ ∀ p ∈ es, ok p.1 = true then
  wrT n dst (.d (match Y8 vk es 0 with
   | some (_, v) => if two = true then .tup [v, .atom (.bool true)] else v
   | none => if two = true then .tup [z, .atom (.bool false)] else z))
 else zq
theorem z4e {q : Opq} {v : Value} (h : xx S (.opq q) v ∨ ∃ cs F, zO S w.heap (.opq q) cs F ∧ v = zZ (.opq q) cs) : ∃ F, q.holds S w.heap v F := by
 rcases h with h | ⟨cs, F, h1, h2⟩
 ·simp only [xx, vM, Rep, false_and, exists_false] at h
 ·simp only [zO] at h1
  obtain ⟨u, rfl, h1⟩ := h1
  exact ⟨F, by rw [h2]; exact h1⟩
theorem z4d (mt : z6Q P t kt et ok z) {es : List (A × A)} {ents : Array MapEntry} {cl b : Nat} (hb : w.heap[b]? = some (.map ents cl)) (he : WM S es ents.toList) (hok : ∀ p ∈ es, ok p.1 = true) {vk : A} {kv : Value} (hv : ok vk = true) (hk : Uh vk = some kv) (two : Bool) :
    ∃ v, (Instr.lookup t (.map (some b)) kv two).run P w = .ok v w ∧ xx S (match Y8 vk es 0 with
      | some (_, v) => if two = true then .tup [v, .atom (.bool true)] else v
      | none => if two = true then .tup [z, .atom (.bool false)] else z) v := by
  obtain ⟨zv, z1, z2⟩ := mt.zero
  have hf := mt.find vk kv hv hk ents.toList es hok (jk.mono (fun _ _ q => q.1) he) w
  have hc := mt.check vk kv ents.isEmpty w hv hk
  have run : (Instr.lookup t (.map (some b)) kv two).run P w = (do
        let (v, b) ← match Uo kv ents.toList 0 with
          | some (_, v) => pure (v, true)
          | none => pure (← zeroValue et, false)
        pure (if two then .tuple #[v, .bool b] else v) : Sem Value).run P w := by
    unfold Instr.lookup
    rw [Sem.run_bind, run_underlying mt.und, Result.andThen_ok]
    have hg : (getObj b).run P w = .ok (.map ents cl) w := by simp [getObj, Sem.run, hb]
    simp only [Sem.run_bind, hg, Result.andThen_ok, Sem.run_pure, hc, hf]
    cases Uo kv ents.toList 0 <;> rfl
  rcases Jz hk (i := 0) he with ⟨q1, q2⟩ | ⟨j, y, v, q1, q2, q3, _⟩
  · rw [q1]
    refine ⟨if two = true then .tuple #[zv, .bool false] else zv, ?_, ?_⟩
    · rw [run, q2]; simp [z1]
    · cases two
      · exact (z2 S).repV
      · simp only [if_true, xx]
        exact ⟨[zv, .bool false], rfl, z2 S, vq.2 ⟨rfl, rfl⟩, trivial⟩
  · rw [q1]
    refine ⟨if two = true then .tuple #[v, .bool true] else v, ?_, ?_⟩
    · rw [run, q2]; simp
    · cases two
      · exact q3.repV
      · simp only [if_true, xx]
        exact ⟨[v, .bool true], rfl, q3, vq.2 ⟨rfl, rfl⟩, trivial⟩
theorem z4f (mt : z6Q P t kt et ok z) (h : Sim C S Fp [] st a w) {o : Oper} {es : List (A × A)} {x k : Operand} {two : Bool} (ho : o.op = .lookup t x k two) {u : Unit} {R : List Nat} {U : List (Nat × Ent)} (e : z4g C.n o.dst es ok z x k two st = some (u, R, U)) : uf P C o a w (zc U st) := by
 unfold z4g at e
 obtain ⟨tx, R1, U1, R2, U2, h1, e1, rfl, rfl⟩ := bind_some e
 obtain ⟨rfl, hx⟩ := zP h h1
 obtain ⟨y, R3, U3, R4, U4, h3, e2, rfl, rfl⟩ := bind_some e1
 obtain ⟨rfl, qx⟩ := XW h hx h3
 simp only [zc, List.nil_append] at e2 ⊢
 obtain ⟨tk, R5, U5, R6, U6, h5, e3, rfl, rfl⟩ := bind_some e2
 obtain ⟨rfl, hk⟩ := zP h h5
 obtain ⟨vk, R7, U7, R8, U8, h7, e4, rfl, rfl⟩ := bind_some e3
 obtain ⟨rfl, qk⟩ := uC h hk h7
 simp only [zc, List.nil_append] at e4 ⊢
 split at e4
 ·rename_i hc
  obtain ⟨rfl, c2, c3⟩ := hc
  obtain ⟨F, b, ents, cl, ev, _, g1, _, g3⟩ := z4e qx
  obtain ⟨kv, hkv⟩ := mt.key vk c2
  have hkd : a.eval k = kv := by
   refine z1e (S := S) ?_ hkv
   cases vk <;> first | exact qk | (simp only [Uh, z1g, Option.map_none] at hkv; cases hkv)
  obtain ⟨v, r1, r2⟩ := z4d mt g1 g3 c3 c2 hkv two
  obtain ⟨Fp', hs⟩ := wz h e4 (x := .d _) r2
  exact zt (by simp [execOp, ho, ev, hkd, r1]) hs
 ·exact (z8 e4).elim
noncomputable def z57 (es : List (A × A)) (k v : A) : List (A × A) :=
 match Y8 k es 0 with
 | some (j, _) => es.set j (k, v)
 | none => es ++ [(k, v)]
noncomputable def z6R (es : List (A × A)) (ok : A → Bool) (x k v : Operand) : SM Unit := do
 let tx ← opnd x
 match tx with
 | .als r [] er ec => do
  let e ← rdE r
  let tk ← opnd k
  let vk ← val tk
  let tv ← opnd v
  let vv ← val tv
  if e.t = .own (.opq (X1 es)) ∧ e.er = er ∧ ok vk = true ∧ vv.isD = true ∧ ∀ p ∈ es, ok p.1 = true then
   wrE r ⟨.own (.opq (X1 (z57 es vk vv))), e.er, e.ec + 1⟩
  else zq
 | _ => zq
theorem z0Q {S : zl} : ∀ {es : List (A × A)} {ents : List MapEntry} {j : Nat} {p : A × A} {f : MapEntry → MapEntry}, WM S es ents → (∀ e, ents[j]? = some e → Uh p.1 = some (f e).key ∧ vM S p.2 (f e).val) → WM S (es.set j p) (ents.modify j f)
 | [], [], j, p, f, _, _ => by simp only [List.set_nil, List.modify_nil]; exact trivial
 | q :: es, e :: ents, 0, p, f, h, hf => by
  have := hf e (by simp)
  simp only [List.set_cons_zero, List.modify_zero_cons]
  exact ⟨this, h.2⟩
 | q :: es, e :: ents, j + 1, p, f, h, hf => by
  simp only [List.set_cons_succ, List.modify_succ_cons]
  exact ⟨h.1, z0Q h.2 (fun e' he' => hf e' (by simpa using he'))⟩
 | [], _ :: _, _, _, _, h, _ => h.elim
 | _ :: _, [], _, _, _, h, _ => h.elim
theorem z28 (mt : z6Q P t kt et ok z) (h : Sim C S Fp [] st a w) {o : Oper} {es : List (A × A)} {x k v : Operand} (ho : o.op = .mapUpdate t x k v ∨ o.op = .insert t x k v) (hd : o.dst = none) {u : Unit} {R : List Nat} {U : List (Nat × Ent)} (e : z6R es ok x k v st = some (u, R, U)) : uf P C o a w (zc U st) := by
 unfold z6R at e
 obtain ⟨tx, R1, U1, R2, U2, h1, e1, rfl, rfl⟩ := bind_some e
 obtain ⟨rfl, hx⟩ := zP h h1
 simp only [zc, List.nil_append] at e1 ⊢
 split at e1
 ·rename_i r er ec
  obtain ⟨en, R3, U3, R4, U4, h3, e2, rfl, rfl⟩ := bind_some e1
  obtain ⟨rfl, rfl, rfl⟩ := ym h3
  simp only [zc, List.nil_append] at e2 ⊢
  obtain ⟨tk, R5, U5, R6, U6, h5, e3, rfl, rfl⟩ := bind_some e2
  obtain ⟨rfl, hk⟩ := zP h h5
  obtain ⟨vk, R7, U7, R8, U8, h7, e4, rfl, rfl⟩ := bind_some e3
  obtain ⟨rfl, qk⟩ := uC h hk h7
  simp only [zc, List.nil_append] at e4 ⊢
  obtain ⟨tv, R9, U9, R10, U10, h9, e5, rfl, rfl⟩ := bind_some e4
  obtain ⟨rfl, hv⟩ := zP h h9
  obtain ⟨vv, R11, U11, R12, U12, h11, e6, rfl, rfl⟩ := bind_some e5
  obtain ⟨rfl, qv⟩ := uC h hv h11
  simp only [zc, List.nil_append] at e6 ⊢
  split at e6
  ·rename_i hc
   obtain ⟨c1, c2, c3, c4, c5⟩ := hc
   obtain ⟨rfl, rfl⟩ := wa e6
   have hr := h.ent r
   unfold yH at hr
   simp only [c1] at hr
   obtain ⟨cs, k1, k2, k3⟩ := hr
   simp only [zO] at k1
   obtain ⟨v0, rfl, b, ents, cl, rfl, hF, g1, g2, g3⟩ := k1
   have hev : a.eval x = .map (some b) := by
    have := hx.2.2
    simp only [c1] at this
    rcases this c2 (.inl trivial) with ⟨_, q⟩ | ⟨q, _⟩
    ·rw [q, k3]; rfl
    ·simp [Yi] at q
   obtain ⟨kv, hkv⟩ := mt.key vk c3
   have hkd : a.eval k = kv := by
    refine z1e (S := S) ?_ hkv
    cases vk <;> first | exact qk | (simp only [Uh, z1g, Option.map_none] at hkv; cases hkv)
   have hvd : vM S vv (a.eval v) := qv.rep1 c4
   have hf := mt.find vk kv c3 hkv ents.toList es c5 (jk.mono (fun _ _ q => q.1) g3) w
   have hck := mt.check vk kv false w c3 hkv
   have hget : (getObj b).run P w = .ok (.map ents cl) w := by simp [getObj, Sem.run, g1]
   have hset : ∀ o', (setObj b o').run P w = .ok () (w.putObj b o') := by intro o'; simp [setObj, Sem.run, g1, World.putObj]
   have hbM : C.M b := h.base r b (by rw [hF]; simp)
   have hoth : ∀ k o', k ≠ b → (w.putObj b o').heap[k]? = w.heap[k]? := fun k o' hk => World.putObj_heap_other hk
   have hlt : b < w.heap.size := (Array.getElem?_eq_some_iff.1 g1).1
   have fin : ∀ ents' cl' es', WM S es' ents'.toList → ∃ Fp', Sim C S Fp' [] (upd st r ⟨.own (.opq (X1 es')), (st r).er, (st r).ec + 1⟩) a (w.putObj b (.map ents' cl')) := by
    intro ents' cl' es' he'
    refine ⟨_, h.change r (.own (.opq (X1 es'))) _ _ [b] ?_ (fun _ _ _ q => q) ?_ h.sbase ?_ ⟨⟨[.map (some b)], ?_, by simp, k3⟩, _, c1⟩ (.inl ⟨_, c1⟩) (Nat.le_refl _) (Nat.lt_succ_self _) ?_ ?_ (by simp) (by simp) (by simp) (by simp)⟩
    ·exact h.below.trans ⟨rfl, rfl, rfl, Nat.le_refl _, by simp [World.putObj], fun k hk => hoth k _ (by rintro rfl; exact hk hbM)⟩
    ·intro b' o' v' hs
     have := h.still b' o' v' hs
     unfold yi at this ⊢
     rw [hoth b' _ (by rintro rfl; rw [g2] at hs; cases hs)]
     exact this
    ·intro t' k' ht' hk'
     exact ⟨hoth k' _ (by rintro rfl; exact ht' (h.disj t' r _ hk' (by rw [hF]; simp))), (h.free t' k' hk').2.1⟩
    ·simp only [zO]
     exact ⟨_, rfl, b, ents', cl', rfl, rfl, World.putObj_heap_same hlt, g2, he'⟩
    ·intro t' k' ht' hk' hk2
     simp only [List.mem_cons, List.not_mem_nil, or_false] at hk'
     subst hk'
     exact ht' (h.disj t' r _ hk2 (by rw [hF]; simp))
    ·intro k' hk'
     simp only [List.mem_cons, List.not_mem_nil, or_false] at hk'
     subst hk'
     exact hbM
   have run : (Instr.mapUpdate t (.map (some b)) kv (a.eval v)).run P w = (do
     match Uo kv ents.toList 0 with
     | some (i, _) => do
      let key ← Instr.keyThatStays (((ents[i]?).map (·.key)).getD kv) kv
      setObj b (.map (ents.modify i fun e => { e with key, val := a.eval v }) cl)
     | none => setObj b (.map (ents.push { key := kv, val := a.eval v, born := cl }) (cl + 1)) : Sem Unit).run P w := by
    unfold Instr.mapUpdate
    rw [Sem.run_bind, run_underlying mt.und, Result.andThen_ok]
    simp only [Sem.run_bind, hget, Result.andThen_ok, hck, hf]
    cases Uo kv ents.toList 0 <;> rfl
   simp only [zc]
   have good : ∀ w', (Instr.mapUpdate t (.map (some b)) kv (a.eval v)).run P w = .ok () w' → ∀ es' Fp', Sim C S Fp' [] (upd st r ⟨.own (.opq (X1 es')), (st r).er, (st r).ec + 1⟩) a w' → uf P C o a w (upd st r ⟨.own (.opq (X1 es')), (st r).er, (st r).ec + 1⟩) := by
    intro w' hw es' Fp' hs
    refine Un (w' := w') ?_ hd hs
    rcases ho with ho | ho <;> simp [execOp, ho, hev, hkd, hw]
   rcases Jz hkv (i := 0) g3 with ⟨q1, q2⟩ | ⟨j, y, v', q1, q2, q3, q4, q5, q6⟩
   ·have he' : WM S (z57 es vk vv) (ents.push { key := kv, val := a.eval v, born := cl }).toList := by
     simp only [z57, q1, Array.toList_push]
     exact JN g3 ⟨⟨hkv, hvd⟩, trivial⟩
    obtain ⟨Fp', hs⟩ := fin _ (cl + 1) _ he'
    exact good _ (by rw [run, q2]; exact hset _) _ _ hs
   ·have hkey : (ents[j]?).map (·.key) = some kv := by
     simp only [Nat.sub_zero] at q6
     rw [← Array.getElem?_toList]; exact q6
    have he' : WM S (z57 es vk vv) (ents.modify j fun e => { e with key := kv, val := a.eval v }).toList := by
     simp only [z57, q1]
     rw [Array.toList_modify]
     exact z0Q g3 fun _ _ => ⟨hkv, hvd⟩
    obtain ⟨Fp', hs⟩ := fin _ cl _ he'
    refine good _ ?_ _ _ hs
    rw [run, q2]
    simp only [hkey, Option.getD_some, Instr.keyThatStays, mt.bits vk kv c3 hkv, if_true, Sem.run_bind, Sem.run_pure, Result.andThen_ok, hset]
  ·exact (z8 e6).elim
 ·exact (z8 e1).elim
end
section
variable {P : Program} {C : Ctx} {S : zl} {Fp : Nat → List Nat} {X : List Nat} {st : St} {a : Act} {w : World} {t kt et : Nat} {ok : A → Bool} {z : A}
def z2I (n : Fr) (dst : Option Nat) : SM Unit := wrT n dst (.own (.opq (X1 [])))
theorem z2H (h : Sim C S Fp [] st a w) {o : Oper} (ho : o.op = .makeMap t none) {u : Unit} {R : List Nat} {U : List (Nat × Ent)} (e : z2I C.n o.dst st = some (u, R, U)) : uf P C o a w (zc U st) := by
 have h2 := h.alloc (by simp) (.map #[] 0)
 have hc : zO S (w.alloc (.map #[] 0)).heap (.opq (X1 [])) [.map (some w.heap.size)] [w.heap.size] := by
  simp only [zO]
  exact ⟨_, rfl, w.heap.size, #[], 0, rfl, rfl, heap_alloc_new w _, fun o => h.free_new (Nat.le_refl _) o, trivial⟩
 obtain ⟨Fp'', hs⟩ := ZQ (F := [w.heap.size]) (X := []) h2 e hc (by simp)
 refine zt (v := .map (some w.heap.size)) ?_ hs
 simp [execOp, ho, Instr.makeMap]
end
noncomputable def z5d (n : Fr) (dst : Option Nat) (es : List (A × A)) (ok : A → Bool) (z : A) (x k : Operand) (two : Bool) : HM Unit :=
 yo (opnd x) >>= fun tx => z0o tx >>= fun y => yo (opnd k) >>= fun tk => Q3 tk >>= fun vk =>
 kU (y = .opq (X1 es) ∧ ok vk = true ∧ ∀ p ∈ es, ok p.1 = true) (eqA (match Y8 vk es 0 with
   | some (_, v) => if two = true then .tup [v, .atom (.bool true)] else v
   | none => if two = true then .tup [z, .atom (.bool false)] else z) >>= fun r => yo (wrT n dst (.d r)))
theorem z61 (n : Fr) (dst : Option Nat) (es : List (A × A)) (ok : A → Bool) (z : A) (x k : Operand) (two : Bool) : Snd (z4g n dst es ok z x k two) (z5d n dst es ok z x k two) :=
 zj (zm _) fun _ => zj (Qi _) fun _ => zj (zm _) fun _ => zj (Z1 _) fun _ => qS (Yu (y7 _ fun r => wrT n dst (.d r)).symm (zj (Kg _) fun _ => zm _))
noncomputable def z9b (es es' : List (A × A)) (ok : A → Bool) (x k v : Operand) : HM Unit := yo (opnd x) >>= fun tx =>
 match tx with
 | .als r [] er ec => yo (rdE r) >>= fun e => yo (opnd k) >>= fun tk => Q3 tk >>= fun vk => yo (opnd v) >>= fun tv => Q3 tv >>= fun vv =>
  kU (e.t = .own (.opq (X1 es)) ∧ e.er = er ∧ ok vk = true ∧ vv.isD = true ∧ ∀ p ∈ es, ok p.1 = true) (kU (z57 es vk vv = es') (yo (wrE r ⟨.own (.opq (X1 es')), e.er, e.ec + 1⟩)))
 | _ => zM
theorem z51 (es es' : List (A × A)) (ok : A → Bool) (x k v : Operand) : Snd (z6R es ok x k v) (z9b es es' ok x k v) := by
 refine zj (zm _) fun tx => ?_
 cases tx with
 | als r p er ec =>
  cases p with
  | nil =>
   refine zj (zm _) fun e => zj (zm _) fun tk => zj (Z1 _) fun vk => zj (zm _) fun tv => zj (Z1 _) fun vv => qS ?_
   exact Jj fun hq => by rw [hq]; exact zm _
  | cons _ _ => exact zo _
 | _ => exact zo _
def z96 (P : Program) (d : Nat) : XH P := {
 e := fun n o => match o.op with | .makeMap _ none => if o.dst = some d then some (z2I n o.dst) else none | _ => none
 h := fun n o => match o.op with | .makeMap _ none => if o.dst = some d then some (yo (z2I n o.dst)) else none | _ => none
 ok := by
  refine ⟨?_, ?_⟩
  ·intro C S Fp st a w o m u R U e h h2
   dsimp only at e
   split at e
   ·rename_i ho
    split at e
    ·cases e; exact z2H h ho h2
    ·cases e
   ·cases e
  ·intro n o m e
   dsimp only at e
   split at e
   ·split at e
    ·cases e; exact fun st st' a R U => Loc.wrT _ _ _ st st' a R U
    ·cases e
   ·cases e
 none := by
  intro n o e
  skip
  split at e
  ·split at e
   ·cases e
   ·rename_i hd; rw [if_neg hd]
  ·rfl
 some := by
  intro n o m e
  skip
  split at e
  ·split at e
   ·rename_i hd; cases e; exact ⟨_, by rw [if_pos hd], zm _⟩
   ·cases e
  ·cases e }
noncomputable def z72 {P : Program} {t kt et : Nat} {ok : A → Bool} {z : A} (mt : z6Q P t kt et ok z) (d : Nat) (es : List (A × A)) : XH P := {
 e := fun n o => match o.op with | .lookup t' x k two => if o.dst = some d ∧ t' = t then some (z4g n o.dst es ok z x k two) else none | _ => none
 h := fun n o => match o.op with | .lookup t' x k two => if o.dst = some d ∧ t' = t then some (z5d n o.dst es ok z x k two) else none | _ => none
 ok := by
  refine ⟨?_, ?_⟩
  ·intro C S Fp st a w o m u R U e h h2
   dsimp only at e
   split at e
   ·rename_i t' x k two ho
    split at e
    ·rename_i hd
     obtain ⟨_, rfl⟩ := hd
     cases e; exact z4f mt h ho h2
    ·cases e
   ·cases e
  ·intro n o m e
   dsimp only at e
   split at e
   ·split at e
    ·cases e
     refine Loc.bind (Loc.opnd _) fun _ => Loc.bind (Loc.peek _) fun _ => Loc.bind (Loc.opnd _) fun _ => Loc.bind (Loc.val _) fun _ => Loc.ite (Loc.wrT _ _ _) Loc.fail
    ·cases e
   ·cases e
 none := by
  intro n o e
  skip
  split at e
  ·split at e
   ·cases e
   ·rename_i hd; rw [if_neg hd]
  ·rfl
 some := by
  intro n o m e
  skip
  split at e
  ·split at e
   ·rename_i hd; cases e; exact ⟨_, by rw [if_pos hd], z61 _ _ _ _ _ _ _ _⟩
   ·cases e
  ·cases e }
noncomputable def zaM {P : Program} {t kt et : Nat} {ok : A → Bool} {z : A} (mt : z6Q P t kt et ok z) (q : Nat) (es es' : List (A × A)) : XH P := {
 e := fun n o => match o.op with
  | .mapUpdate t' (.tmp x) k v => if x = q ∧ t' = t ∧ o.dst = none then some (z6R es ok (.tmp x) k v) else none
  | .insert t' (.tmp x) k v => if x = q ∧ t' = t ∧ o.dst = none then some (z6R es ok (.tmp x) k v) else none
  | _ => none
 h := fun n o => match o.op with
  | .mapUpdate t' (.tmp x) k v => if x = q ∧ t' = t ∧ o.dst = none then some (z9b es es' ok (.tmp x) k v) else none
  | .insert t' (.tmp x) k v => if x = q ∧ t' = t ∧ o.dst = none then some (z9b es es' ok (.tmp x) k v) else none
  | _ => none
 ok := by
  have loc : ∀ x k v, Loc (z6R es ok x k v) := by
   intro x k v
   refine Loc.bind (Loc.opnd _) fun tx => ?_
   split
   ·exact Loc.bind (Loc.rdE _) fun _ => Loc.bind (Loc.opnd _) fun _ => Loc.bind (Loc.val _) fun _ => Loc.bind (Loc.opnd _) fun _ => Loc.bind (Loc.val _) fun _ => Loc.ite (Loc.wrE _ _) Loc.fail
   ·exact Loc.fail
  refine ⟨?_, ?_⟩
  ·intro C S Fp st a w o m u R U e h h2
   dsimp only at e
   split at e
   ·rename_i t' x k v ho
    split at e
    ·rename_i hd
     obtain ⟨_, rfl, hd⟩ := hd
     cases e; exact z28 mt h (.inl ho) hd h2
    ·cases e
   ·rename_i t' x k v ho
    split at e
    ·rename_i hd
     obtain ⟨_, rfl, hd⟩ := hd
     cases e; exact z28 mt h (.inr ho) hd h2
    ·cases e
   ·cases e
  ·intro n o m e
   dsimp only at e
   split at e
   ·split at e
    ·cases e; exact loc _ _ _
    ·cases e
   ·split at e
    ·cases e; exact loc _ _ _
    ·cases e
   ·cases e
 none := by
  intro n o e
  skip
  split at e
  ·split at e
   ·cases e
   ·rename_i hd; rw [if_neg hd]
  ·split at e
   ·cases e
   ·rename_i hd; rw [if_neg hd]
  ·rfl
 some := by
  intro n o m e
  skip
  split at e
  ·split at e
   ·rename_i hd; cases e; exact ⟨_, by rw [if_pos hd], z51 _ _ _ _ _ _⟩
   ·cases e
  ·split at e
   ·rename_i hd; cases e; exact ⟨_, by rw [if_pos hd], z51 _ _ _ _ _ _⟩
   ·cases e
  ·cases e }
def z6o {K V : Type} [BEq K] : List (K × V) → K → Option V
 | [], _ => none
 | p :: l, x => if p.1 == x then some p.2 else z6o l x
def z5b {K V : Type} [BEq K] : List (K × V) → K → V → List (K × V)
 | [], x, v => [(x, v)]
 | p :: l, x, v => if p.1 == x then (x, v) :: l else p :: z5b l x v
class zaK {K : Type} [BEq K] (f : K → A) : Prop where
 eq : ∀ x y, (Uh (f x) = Uh (f y)) ↔ (x == y) = true
def Ze {K V : Type} (f : K → A) (g : V → A) (l : List (K × V)) : List (A × A) := l.map fun p => (f p.1, g p.2)
theorem z1p {K V : Type} {f : K → A} {g : V → A} (x : K) : ∀ (l : List (K × V)) (i j : Nat) (y : A), Y8 (f x) (Ze f g l) i = some (j, y) → i ≤ j
 | [], _, _, _, e => by cases e
 | p :: l, i, j, y, e => by
  simp only [Ze, List.map_cons, Y8] at e
  split at e
  ·cases e; exact Nat.le_refl _
  ·exact Nat.le_of_succ_le (z1p x l (i + 1) j y e)
section
variable {K V : Type} [BEq K] {f : K → A} {g : V → A} [hk : zaK f]
theorem z1q (x : K) : ∀ (l : List (K × V)) (i : Nat), (Y8 (f x) (Ze f g l) i).map (·.2) = (z6o l x).map g
 | [], _ => rfl
 | p :: l, i => by
  simp only [Ze, List.map_cons, Y8, z6o]
  by_cases h : (p.1 == x) = true
  ·rw [if_pos ((hk.eq _ _).2 h), if_pos h]; rfl
  ·rw [if_neg (fun q => h ((hk.eq _ _).1 q)), if_neg h]; exact z1q x l (i + 1)
theorem z2t (x : K) (v : V) : ∀ (l : List (K × V)) (i : Nat), (match Y8 (f x) (Ze f g l) i with | some (j, _) => (Ze f g l).set (j - i) (f x, g v) | none => Ze f g l ++ [(f x, g v)]) = Ze f g (z5b l x v)
 | [], _ => rfl
 | p :: l, i => by
  simp only [Ze, List.map_cons, Y8, z5b]
  by_cases h : (p.1 == x) = true
  ·rw [if_pos ((hk.eq _ _).2 h), if_pos h]
   simp [Ze]
  ·rw [if_neg (fun q => h ((hk.eq _ _).1 q)), if_neg h]
   have ih := z2t x v l (i + 1)
   simp only [List.map_cons]
   simp only [Ze] at ih
   cases hf : Y8 (f x) (l.map fun p => (f p.1, g p.2)) (i + 1) with
   | none =>
    simp only [hf] at ih ⊢
    simp only [List.cons_append, ih]
   | some q =>
    obtain ⟨j, y⟩ := q
    have hle := z1p (f := f) (g := g) x l (i + 1) j y hf
    simp only [hf] at ih ⊢
    rw [show j - i = (j - (i + 1)) + 1 by omega, List.set_cons_succ, ih]
theorem z6e (x : K) (v : V) (l : List (K × V)) : z57 (Ze f g l) (f x) (g v) = Ze f g (z5b l x v) := by
 have := z2t (f := f) (g := g) x v l 0
 simpa only [Nat.sub_zero, z57] using this
theorem zb9 {z0 : V} {z : A} (hz : g z0 = z) (x : K) (l : List (K × V)) : (match Y8 (f x) (Ze f g l) 0 with
      | some (_, v) => if false = true then A.tup [v, .atom (.bool true)] else v
      | none => if false = true then A.tup [z, .atom (.bool false)] else z) = g ((z6o l x).getD z0) := by
  have := z1q (f := f) (g := g) x l 0
  cases hf : Y8 (f x) (Ze f g l) 0 with
  | none => rw [hf] at this; cases hm : z6o l x with | none => simp [hz] | some y => simp [hm] at this
  | some q => obtain ⟨j, y⟩ := q; rw [hf] at this; cases hm : z6o l x with | none => simp [hm] at this | some y' => simp [hm] at this; simp [this]
end
theorem z5i {K V : Type} {f : K → A} {g : V → A} {ok : A → Bool} (h : ∀ x, ok (f x) = true) (l : List (K × V)) : ∀ p ∈ Ze f g l, ok p.1 = true := by
 intro p hp
 obtain ⟨q, _, rfl⟩ := List.mem_map.1 hp
 exact h _
end Go.Own

namespace Go.Own
theorem z3D {P : Program} {t : Nat} {f : TypeInfo} {v : Value} (h : P.info? t = some f) (hz : f.zero = some v) (w : World) : (zeroValue t).run P w = .ok v w := by simp [zeroValue, typeInfo, h, hz]
end Go.Own

namespace Go.Own
def z4Q (P : Program) (f : A) {β : Type} (enc : β → Bool → Value → List A) (F : ∀ {σ : Type}, (σ → β → Option (σ × Bool)) → σ → Option σ) : Prop :=
 ∀ (σ : Type) (yv : Value) (Y : σ → KV) (y : σ → β → Option (σ × Bool)), (∀ s x s' b, y s x = some (s', b) → ∀ v, qr P (.atom yv) (enc x b v) [(yv, .opq (Y s).q)] (.atom (.bool b)) [.opq (Y s').q]) →
  ∀ s s', F y s = some s' → qr P f [.atom yv] [(yv, .opq (Y s).q)] (.tup []) [.opq (Y s').q]
def yOf {σ τ β : Type} (step : σ → β → Option (LR σ τ)) : LR σ τ → β → Option (LR σ τ × Bool)
 | .next s, x => match step s x with | some (.next s') => some (.next s', true) | some (.done t) => some (.done t, false) | none => none
 | .done _, _ => none
def z7G {σ τ : Type} : LR σ τ → Bool
 | .next _ => true
 | .done _ => false
theorem z3E {σ τ β : Type} {step : σ → β → Option (LR σ τ)} {l l' : LR σ τ} {x : β} {b : Bool} (h : yOf step l x = some (l', b)) : ∃ s, l = .next s ∧ step s x = some l' ∧ b = z7G l' := by
 cases l with
 | done t => cases h
 | next s =>
  simp only [yOf] at h
  cases hs : step s x with
  | none => simp [hs] at h
  | some r =>
   cases r with
   | next s' => simp only [hs, Option.some.injEq, Prod.mk.injEq] at h; obtain ⟨rfl, rfl⟩ := h; exact ⟨s, rfl, hs, rfl⟩
   | done t => simp only [hs, Option.some.injEq, Prod.mk.injEq] at h; obtain ⟨rfl, rfl⟩ := h; exact ⟨s, rfl, hs, rfl⟩
section
variable {σ τ β : Type}
def z2f (stF : σ → St) (stD : τ → St) : LR σ τ → St
 | .next s => stF s
 | .done t => stD t
def z1Z (jc : τ → Code) : LR σ τ → Option Code
 | .next _ => none
 | .done t => some (jc t)
def VR (rec : Loop) (jc : τ → Code) (l : LR σ τ) : Loop := { rec with state := if (z1Z jc l).isNone then .ready else .done, pending := z1Z jc l }
theorem AWP.iterF {P : Program} {n : Fr} {st : St} {Q : Exit → St → Prop} {g : Operand} {ps : List Nat} {assign body : Code} {K : Nat} {caps : List A} (live : List Nat) (stF : σ → St) (stD : τ → St) (jc : τ → Code) (enc : β → Bool → Value → List A) {F : ∀ {σ : Type}, (σ → β → Option (σ × Bool)) → σ → Option σ}
  (step : σ → β → Option (LR σ τ)) (s0 : σ) (lr : LR σ τ)
  (hg : z9v st g = some (.fn K caps)) (hnd : live.Nodup) (h0 : Own.canon live st = stF s0)
  (hcan : ∀ l, (∀ t, (z2f stF stD l t).t.plain = true) ∧ ∀ t, t ∉ live → (z2f stF stD l t).t = .gone)
  (hps : ∀ p ∈ ps, p < n.size ∧ p ∉ live ∧ pinned n.pin p = false) (hlen : ∀ x b v, ps.length = (enc x b v).length)
  (hit : z4Q P (.fn K caps) enc F) (hF : F (yOf step) (.next s0) = some lr)
  (hround : ∀ (tv : Nat → Value) (s : σ) (x : β) (v : Value) (r : LR σ τ), step s x = some r → AWP P ⟨n.size, live.map (fun t => (t, tv t)) ++ n.pin⟩ assign (Ks (stF s) ps (enc x (z7G r) v)) (fun e st1 => e = .normal ∧ AWP P ⟨n.size, live.map (fun t => (t, tv t)) ++ n.pin⟩ body st1 (fun ex st2 => z2S ex = some (z1Z jc r) ∧ Own.canon live st2 = z2f stF stD r)))
  (hend : zaF P n (z2f stF stD lr) Q (z1Z jc lr)) : AWP P n (.rangeFunc g ps.toArray assign body) st Q := by
 intro rd mm df w0 S0 M S Fp a w hc hs
 obtain ⟨us, hev, hreps⟩ : ∃ us : List Value, a.eval g = .func (.func K) #[] us.toArray ∧ vM S (.fn K caps) (a.eval g) := by
  unfold z9v at hg
  split at hg
  ·rename_i t
   split at hg
   ·rename_i x ht
    simp only [Option.some.injEq] at hg
    subst hg
    have q := hs.ent t
    unfold yH at q
    simp only [ht] at q
    have q1 : vM S (.fn K caps) (Act.tv a t) := q.1
    obtain ⟨cs, c1, c2⟩ := q1
    have c1' := c1
    simp only [Rep] at c1
    obtain ⟨us, _, _, rfl⟩ := c1
    exact ⟨us, c2, ⟨_, c1', c2⟩⟩
   ·cases hg
  ·cases hg
 obtain ⟨Fp0, hs0, hd0⟩ := hs.canonD (hc.post hs) live
 rw [h0] at hs0
 refine wpIn_rangeFunc ?_
 intro fn hfn
 obtain ⟨df', wA, dq, en1, en2, en3⟩ := z7M (P := P) hc hs0 hd0 fn ps.toArray assign body
 generalize (df'.map z6U).take (df'.length - df.length) = mk at en1 en2
 obtain ⟨rec, hrec⟩ : ∃ q : Loop, q = { state := .ready, pending := none, fn, tmps := a.tmps, params := ps.toArray, assign, body, defers := dq } := ⟨_, rfl⟩
 rw [← hrec] at en1
 have hs1 := en2.newObj (.loop rec)
 have hl : (wA.alloc (.loop rec)).heap[wA.heap.size]? = some (.loop rec) := World.alloc_heap_new wA _
 have hfr : ∀ t k, k ∈ Fp0 t → k < wA.heap.size := fun t k hk => (en2.free t k hk).1
 have hlF : ∀ t, wA.heap.size ∉ Fp0 t := fun t hk => by have := hfr t _ hk; omega
 have hSl : ∀ o, S wA.heap.size o = none := by
  intro o
  cases hq : S wA.heap.size o with
  | none => rfl
  | some v => have := en2.still_lt hq; omega
 have hrec0 : ∀ s, VR rec jc (LR.next s : LR σ τ) = rec := by intro s; rw [hrec]; rfl
 have hY : ∀ (l : LR σ τ) (x : β) (l' : LR σ τ) (b : Bool), yOf step l x = some (l', b) → ∀ v, qr P (.atom (.func (.yield wA.heap.size) #[] #[])) (enc x b v) [(.func (.yield wA.heap.size) #[] #[], .opq (z1P wA.heap.size (VR rec jc l) (kp a.tmps) (z2f stF stD l) (hcan l).1 0))] (.atom (.bool b))
   [.opq (z1P wA.heap.size (VR rec jc l') (kp a.tmps) (z2f stF stD l') (hcan l').1 0)] := by
  intro l x l' b hy v
  obtain ⟨s, rfl, hst, rfl⟩ := z3E hy
  have htm : (VR rec jc (LR.next s : LR σ τ)).tmps = a.tmps := by rw [hrec0, hrec]
  have hb : z7G l' = (z1Z jc l').isNone := by cases l' <;> rfl
  have r := z41 (P := P) (n := ⟨n.size, live.map (fun t => (t, kp a.tmps t)) ++ n.pin⟩) (l := wA.heap.size) (rec := VR rec jc (LR.next s : LR σ τ)) (ps := ps) (ys := enc x (z7G l') v) (st0 := stF s) (st1 := z2f stF stD l') (i := 0) (i2 := 0) (live := live) (jc := z1Z jc l') (hcan (.next s)).1 (hcan l').1
   (by rw [hrec0, hrec]) (by rw [hrec0, hrec]) (by rw [htm]; exact hs.size)
   (by
    intro j u hj
    rw [htm]
    rcases List.mem_append.1 hj with hj | hj
    ·obtain ⟨t, ht, he⟩ := List.mem_map.1 hj
     cases he
     rfl
    ·exact hs.pin j u hj)
   (fun t ht => by rw [htm]; exact List.mem_append.2 (.inl (List.mem_map.2 ⟨t, ht, rfl⟩))) hnd
   (fun p hp => by
    obtain ⟨p1, p2, p3⟩ := hps p hp
    refine ⟨p1, (hcan (.next s)).2 p p2, ?_⟩
    have gen : ∀ l : List Nat, p ∉ l → pinned (l.map (fun t => (t, kp a.tmps t)) ++ n.pin) p = false := by
     intro l
     induction l with
     | nil => intro _; exact p3
     | cons t l ih =>
      intro hl
      simp only [List.mem_cons, not_or] at hl
      simp only [List.map_cons, List.cons_append, pinned, ih hl.2, Bool.or_false]
      simpa using Ne.symm hl.1
    exact gen live p2) (hlen x _ v)
   (by
    have := hround (kp a.tmps) s x v l' hst
    rw [hrec0, hrec]
    exact this)
  have e : ({ VR rec jc (LR.next s : LR σ τ) with state := if (z1Z jc l').isNone then .ready else .done, pending := z1Z jc l' } : Loop) = VR rec jc l' := rfl
  rw [e] at r
  simp only [htm] at r
  rw [← hb] at r
  exact r
 have hL := hit _ _ (fun l => (z1P wA.heap.size (VR rec jc l) (kp a.tmps) (z2f stF stD l) (hcan l).1 0).single rfl) (yOf step) hY _ _ hF S (wA.alloc (.loop rec)) (a.eval g) [.func (.yield wA.heap.size) #[] #[]] (wA.heap.size :: live.flatMap Fp0) hs1.still hreps ⟨vq.2 ⟨rfl, rfl⟩, trivial⟩
  ⟨_, [], rfl, z2B ⟨rfl, by rw [hrec0]; exact hl, hSl, Fp0, (fun t => hs1.ent t), en2.disj, hlF, (fun k => by
   simp only [List.mem_cons, List.mem_flatMap]
   constructor
   ·rintro (rfl | ⟨t, _, ht⟩)
    ·exact .inl rfl
    ·exact .inr ⟨t, ht⟩
   ·rintro (rfl | ⟨t, ht⟩)
    ·exact .inl rfl
    ·refine .inr ⟨t, ?_, ht⟩
     apply Classical.byContradiction
     intro hn
     have q := en2.ent t
     unfold yH at q
     have hg := (hcan (.next s0)).2 t hn
     simp only [z2f] at hg
     simp only [hg] at q
     rw [q] at ht
     simp at ht)⟩ (z15 en2 hnd hlF), rfl⟩ (z15 en2 hnd hlF)
 rcases hL with ⟨k, cs, fn', a1, a2, a3, a4, a5⟩ | ⟨L, q, a1, _⟩
 rotate_left
 ·rw [hev] at a1; cases a1
 refine ⟨wA.heap.size, mk, wA.alloc (.loop rec), { target := .fn (.func k) cs, args := #[.func (.yield wA.heap.size) #[] #[]] }, wA.alloc (.loop rec), k, #[.func (.yield wA.heap.size) #[] #[]] ++ cs, wA.alloc (.loop rec), en1, ?_, fun _ _ => trivial, ?_, fun h => (by cases h), ?_⟩
 ·simp only [resolve, a1]
  simp [go_sem]
 ·simp only [invoke]
  exact XT a2 a3 a4 _ _
 ·refine (Yb a5 rd (mm - 1)).mono ?_
  rintro e w' ⟨v', rfl, S', F', G, b1, b2, b3, b4, _, b6, _, b8⟩
  obtain ⟨G1, G2, hGe, b6, hnil⟩ := b6
  have hG2 : G2 = [] := hnil
  subst hG2
  simp only [List.nil_append] at hGe
  subst hGe
  obtain ⟨_, c2, c3, Fp', c4, c5, c6, c7⟩ := z2U b6
  have hnb : (VR rec jc lr).state ≠ .busy := by
   simp only [VR]
   cases lr <;> simp [z1Z]
  have hpend : (VR rec jc lr).pending = z1Z jc lr := rfl
  refine ⟨_, _, run_endLoop c2 hnb, ?_⟩
  rw [hpend]
  have hMl : M wA.heap.size := en2.mine _ en2.below.size
  have hMn : ∀ k, ((wA.alloc (.loop rec)).heap.size ≤ k ∨ k ∈ wA.heap.size :: live.flatMap Fp0) → M k := by
   rintro k (hk | hk)
   ·exact hs1.mine k (Nat.le_trans hs1.below.size hk)
   ·rcases List.mem_cons.1 hk with rfl | hk
    ·exact hMl
    ·obtain ⟨t, _, ht⟩ := List.mem_flatMap.1 hk
     exact en2.base t k ht
  have hout : ∀ t k, k ∈ Fp' t → ((wA.alloc (.loop rec)).heap.size ≤ k ∨ k ∈ wA.heap.size :: live.flatMap Fp0) := fun t k hk => b8 k (List.mem_append.2 (.inl ((c7 k).2 (.inr ⟨t, hk⟩))))
  have hpf : ∀ o, Sim ⟨n, df', w0, S0, M⟩ S' Fp' [] (z2f stF stD lr) { a with defers := mk ++ a.defers } (w'.putObj wA.heap.size o) := by
   intro o
   refine { size := hs.size, pin := hs.pin, defers := en2.defers, below := ?_, mine := hs.mine, still := ?_, sinc := fun b o v q => b2 _ _ _ (en2.sinc _ _ _ q), sbase := ?_, ent := ?_, disj := c5, base := fun t k hk => hMn k (hout t k hk), xn := by simp, xd := by simp, xb := by simp }
   ·exact (hs1.below.trans (b1.mono hMn)).trans ⟨rfl, rfl, rfl, Nat.le_refl _, by simp [World.putObj], fun k hk => World.putObj_heap_other (by rintro rfl; exact hk hMl)⟩
   ·intro b i v q
    have hne : b ≠ wA.heap.size := by rintro rfl; rw [c3] at q; cases q
    have := b4 b i v q
    unfold yi at this ⊢
    rw [World.putObj_heap_other hne]
    exact this
   ·intro b i hb
    rcases Nat.lt_or_ge b (wA.alloc (.loop rec)).heap.size with hlt | hge
    ·rw [b3 b i hlt (fun hF => hb (hMn b (.inr hF)))]
     exact en2.sbase b i hb
    ·exact absurd (hMn b (.inl hge)) hb
   ·intro t
    exact (c4 t).frame ((hcan lr).1 t) (fun _ _ _ q => q) (fun k hk => ⟨World.putObj_heap_other (by rintro rfl; exact c6 t hk), ((c4 t).owns ((hcan lr).1 t) k hk).2⟩)
  have hdp : ∀ o, qt df M df' Fp' (w'.putObj wA.heap.size o) := by
   intro o
   have hlt : ∀ D ∈ df', D < wA.heap.size := fun D hD => (Array.getElem?_eq_some_iff.1 (en3.ent D hD)).1
   have hno : ∀ D ∈ df', ¬ ((wA.alloc (.loop rec)).heap.size ≤ D ∨ D ∈ wA.heap.size :: live.flatMap Fp0) := by
    rintro D hD (q | q)
    ·have := hlt D hD
     have h3 : (wA.alloc (.loop rec)).heap.size = wA.heap.size + 1 := by simp
     omega
    ·rcases List.mem_cons.1 q with rfl | q
     ·have := hlt _ hD; omega
     ·obtain ⟨t, _, ht⟩ := List.mem_flatMap.1 q
      exact en3.off D hD t ht
   refine ⟨en3.nodup, fun D hD => ?_, fun D hD t ht => hno D hD (hout t D ht), en3.old⟩
   rw [World.putObj_heap_other (by have := hlt D hD; omega), b1.block D (hno D hD), World.alloc_old _ (hlt D hD)]
   exact en3.ent D hD
  cases lr with
  | next s => exact ⟨df', stF s, S', Fp', hpf _, hdp _, hend⟩
  | done t => exact AWP.go hend hc (hpf _) (hdp _)
end
end Go.Own

namespace Go.Own
def VV (live : List Nat) (l : List (Nat × T)) : Bool := l.all fun q => live.contains q.1 && q.2.plain
theorem z2D : ∀ (l : List (Nat × T)) (t : Nat), ofL l t = ⟨(ofL l t).t, 0, 0⟩
 | [], t => rfl
 | p :: l, t => by
  simp only [ofL]
  split
  ·rfl
  ·exact z2D l t
theorem VU {live : List Nat} : ∀ {l : List (Nat × T)}, VV live l = true → (∀ t, (ofL l t).t.plain = true) ∧ ∀ t, t ∉ live → (ofL l t).t = .gone
 | [], _ => ⟨fun _ => rfl, fun _ _ => rfl⟩
 | p :: l, h => by
  simp only [VV, List.all_cons, Bool.and_eq_true] at h
  obtain ⟨h1, h2⟩ := VU (l := l) (by simpa only [VV] using h.2)
  constructor
  ·intro t
   simp only [ofL]
   split
   ·exact h.1.2
   ·exact h1 t
  ·intro t ht
   simp only [ofL]
   split
   ·rename_i e
    subst e
    exact absurd (List.contains_iff_mem.1 h.1.1) ht
   ·exact h2 t ht
theorem Ut {live : List Nat} {l : List (Nat × T)} (h : VV live l = true) : Own.canon live (ofL l) = ofL l := by
 obtain ⟨h1, h2⟩ := VU h
 funext t
 rw [jv]
 by_cases ht : t ∈ live
 ·rw [if_pos ht]
  have h3 := h1 t
  rw [z2D l t]
  unfold z3z
  cases hx : (ofL l t).t with
  | als r p er ec => rw [hx] at h3; cases h3
  | ptr r p er ec => rw [hx] at h3; cases h3
  | _ => rfl
 ·rw [if_neg ht, z2D l t, h2 t ht]
  rfl
theorem AWP.weak {P : Program} {n : Fr} {c : Code} {st : St} {Q Q' : Exit → St → Prop} (h : AWP P n c st Q') (hq : ∀ e st, Q' e st → ∃ live l m, Own.canon live st = ofL l ∧ LeL l m ∧ Q e (ofL m)) : AWP P n c st Q := by
 intro rd mm df w0 S0 M S Fp a w hc hs
 refine wpIn_mono (h rd mm df w0 S0 M S Fp a w hc hs) ?_
 rintro e a' w' ⟨df', st1, S1, Fp1, h1, h2, h3⟩
 obtain ⟨live, l, m, e1, e2, e3⟩ := hq _ _ h3
 obtain ⟨Fp2, g1, g2⟩ := Sim.canonD h1 h2 live
 rw [e1] at g1
 exact ⟨df', ofL m, S1, Fp2, e2.or.elim (fun e => e ▸ g1) fun h => g1.le h.ent, g2, e3⟩
def z9n : List (Nat × T) → List Nat → List A → List (Nat × T)
 | l, p :: ps, y :: ys => z9n ((p, .d y) :: l) ps ys
 | l, _, _ => l
theorem z14 : ∀ (ps : List Nat) (ys : List A) (l : List (Nat × T)), Ks (ofL l) ps ys = ofL (z9n l ps ys)
 | [], _, l => by cases l <;> rfl
 | _ :: _, [], l => by cases l <;> rfl
 | p :: ps, y :: ys, l => z14 ps ys ((p, .d y) :: l)
def zb7 (n : Fr) (ps live : List Nat) : Bool := ps.all fun p => decide (p < n.size) && (!live.contains p && !pinned n.pin p)
section
variable {σ τ β : Type}
def z8X (stF : σ → List (Nat × T)) (stD : τ → List (Nat × T)) : LR σ τ → List (Nat × T)
 | .next s => stF s
 | .done t => stD t
def itQ (live : List Nat) (stF : σ → List (Nat × T)) (stD : τ → List (Nat × T)) (jc : τ → Code) (r : LR σ τ) (ex : Exit) (st : St) : Prop :=
 z2S ex = some (z1Z jc r) ∧ ∃ l', Own.canon live st = ofL l' ∧ LeL l' (z8X stF stD r)
theorem JJ {P : Program} {n : Fr} {Q : Exit → St → Prop} {c : Code} {fs : List Fm} {st0 : St} {g : Operand} {ps : List Nat} {assign body : Code} {K : Nat} {caps : List A} (e : c = .rangeFunc g ps.toArray assign body) (live : List Nat) (stF : σ → List (Nat × T)) (stD : τ → List (Nat × T)) (jc : τ → Code) (enc : β → Bool → Value → List A) {F : ∀ {σ : Type}, (σ → β → Option (σ × Bool)) → σ → Option σ}
  (step : σ → β → Option (LR σ τ)) (s0 : σ) (lr : LR σ τ) (l0 : List (Nat × T)) (hs : Own.canon live st0 = ofL l0) (hl : LeL l0 (stF s0)) (hg : z9v (ofL (stF s0)) g = some (.fn K caps)) (hnd : live.Nodup) (hp : ∀ s, VV live (stF s) = true) (hp2 : ∀ t, VV live (stD t) = true)
  (hps : zb7 n ps live = true) (hlen : ∀ x b v, ps.length = (enc x b v).length) (hit : z4Q P (.fn K caps) enc F) (hF : F (yOf step) (.next s0) = some lr)
  (hround : ∀ (tv : Nat → Value) (s : σ) (x : β) (v : Value) (r : LR σ τ), step s x = some r → AWP P ⟨n.size, live.map (fun t => (t, tv t)) ++ n.pin⟩ assign (ofL (z9n (stF s) ps (enc x (z7G r) v)))
   (Qf P ⟨n.size, live.map (fun t => (t, tv t)) ++ n.pin⟩ [] (fun e st1 => e = .normal ∧ AWP P ⟨n.size, live.map (fun t => (t, tv t)) ++ n.pin⟩ body st1 (Qf P ⟨n.size, live.map (fun t => (t, tv t)) ++ n.pin⟩ [] (itQ live stF stD jc r)))))
  (hend : zaF P n (ofL (z8X stF stD lr)) (Qf P n fs Q) (z1Z jc lr)) : AWP P n c st0 (Qf P n fs Q) := by
 subst e
 refine AWP.canon live ?_
 rw [hs]
 refine z6N hl ?_
 have hst : ∀ l : LR σ τ, z2f (fun s => ofL (stF s)) (fun t => ofL (stD t)) l = ofL (z8X stF stD l) := by intro l; cases l <;> rfl
 have hpl : ∀ l : LR σ τ, VV live (z8X stF stD l) = true := by
  intro l
  cases l with
  | next s => exact hp s
  | done t => exact hp2 t
 refine AWP.iterF live (fun s => ofL (stF s)) (fun t => ofL (stD t)) jc enc step s0 lr hg hnd (Ut (hp s0)) (fun l => by rw [hst]; exact VU (hpl l)) ?_ hlen hit hF ?_ (by rw [hst]; exact hend)
 ·intro p hp
  have := List.all_eq_true.1 hps p hp
  simp only [Bool.and_eq_true, decide_eq_true_eq, Bool.not_eq_true'] at this
  exact ⟨this.1, fun h => by rw [List.contains_iff_mem.2 h] at this; simp at this, this.2.2⟩
 ·intro tv s x v r hr
  rw [z14]
  refine AWP.mono (hround tv s x v r hr) ?_
  rintro e st1 ⟨h1, h2⟩
  refine ⟨h1, AWP.weak h2 ?_⟩
  rintro ex st2 ⟨hj, l', q1, q2⟩
  refine ⟨live, l', _, q1, q2, hj, ?_⟩
  rw [Ut (hpl r), hst]
end
section
variable {P : Program} {tt : TT} {ctr : Ctr} {n : Fr} {Q : Exit → St → Prop}
theorem qa (X : XH P) (hT : vw P tt) (hC : y6 P ctr) (hm : P.follows .mixedOrders = true) (live : List Nat) (k : Nat) {c : Code} {fs : List Fm} {st : St} (hs : List H) (ex : Exit) (l' : List (Nat × T)) (obs : List Ob)
  (e : z7r X tt ctr n live k c fs st hs = some (.fin ex, ofL l', obs.map Ob.p)) (h : ∀ st0, canon live st0 = ofL l' → Q ex st0) : AWP P n c st (Qf P n fs Q) := z0F X hT hC hm live k obs e h
theorem Xo {J : St → Prop} : ∀ {fs : List Fm} {st : St}, unw fs = .stop (.back J) → J st → Qf P n fs Q .normal st
 | [], _, e, _ => by cases e
 | .seq z :: fs, _, e, h => by cases e
 | .blk id :: fs, _, e, h => Xo (fs := fs) (by simpa only [unw] using e) h
 | .pre J :: fs, _, e, h => by
  simp only [unw, Nxt.stop.injEq, z20.back.injEq] at e
  subst e
  exact h
 | .rnd (m + 1) c :: fs, _, e, h => by cases e
 | .rnd 0 _ :: _, _, e, _ => by cases e
theorem WW {c : Code} {live : List Nat} {st0 : St} {l : List (Nat × T)} (h0 : canon live st0 = ofL l) (h : AWP P n c (ofL l) Q) : AWP P n c st0 Q := by
 refine AWP.canon live ?_
 rw [h0]
 exact h
end
def YOk (P : Program) (yv : Value) {σ β : Type} (Y : σ → KV) (enc : β → Bool → Value → List A) (y : σ → β → Option (σ × Bool)) : Prop :=
 ∀ s x s' b, y s x = some (s', b) → ∀ v, qr P (.atom yv) (enc x b v) [(yv, .opq (Y s).q)] (.atom (.bool b)) [.opq (Y s').q]
theorem z6v {P : Program} {tt : TT} {k : Nat} {fn : Func} {body : Code} {nt : Nat} {caps : List A} {β : Type} {enc : β → Bool → Value → List A} {F : ∀ {σ : Type}, (σ → β → Option (σ × Bool)) → σ → Option σ} (hT : vw P tt) (hf : P.funcs[k]? = some fn) (hnm : (fn.name == "runtime.NumGoroutine") = false) (hb : fn.body = some body)
  (hn : nt = fn.ntmps) (hr : fn.results = #[]) (ha : caps.length + 1 ≤ fn.ntmps)
  (h : ∀ (σ : Type) (yv : Value) (Y : σ → KV) (y : σ → β → Option (σ × Bool)), YOk P yv Y enc y → ∀ s s', F y s = some s' → ∀ E : Exit → St → Prop, (∀ ex st, (ex = .normal ∨ ex = .ret) → canon [0] st = ofL [(0, .own (.opq (Y s').q))] → E ex st) →
   AWP P ⟨nt, [(0, yv)]⟩ body (ofL (z4q 0 (.opq (Y s).q :: caps))) (Qf P ⟨nt, [(0, yv)]⟩ [] E)) : z4Q P (.fn k caps) enc F := by
 subst hn
 intro σ yv Y y hy s s' hs
 refine Ue (tt := tt) (rs := []) [0] (args := [.atom yv]) (caps := caps) (xs := [.opq (Y s).q]) (vals := [yv]) hT hf hnm hb hr (by simpa using ha) (by simp) (by simp) rfl ?_
 rw [z1h]
 refine h σ yv Y y hy s s' hs _ ?_
 intro ex st hx hc
 refine ⟨hx, ?_⟩
 have h0 := congrFun hc 0
 rw [jv] at h0
 simp only [List.mem_singleton, if_true, ofL, Ent.mk.injEq, and_true] at h0
 have h1 : (st 0).t = .own (.opq (Y s').q) := by
  unfold z3z at h0
  cases hx : (st 0).t with
  | als r p er ec => simp only [hx] at h0; split at h0 <;> cases h0
  | ptr r p er ec => simp only [hx] at h0; split at h0 <;> cases h0
  | own a => simpa only [hx] using h0
  | d a => simp only [hx] at h0; cases h0
  | gone => simp only [hx] at h0; cases h0
 have h2 : WE [0] st = some ([.opq (Y s').q], [0], []) := by
  simp only [WE]
  show SM.bind (rdE 0) _ st = _
  unfold SM.bind
  simp only [rdE, zc, h1]
  rfl
 refine ⟨[0], [], ?_⟩
 simp only [z7N, List.map_nil]
 show SM.bind (shutArgs tt []) _ st = _
 unfold SM.bind
 simp only [shutArgs]
 simp only [pure, SM.pure, bind, SM.bind, zc, h2]
 rfl
def z49 (tt : TT) (n : Fr) (ty : Nat) (x : T) : HM A :=
 match x with
 | .als r p er ec =>
  match WD n.pin r with
  | some _ => yo (refT tt n ty (.als r p er ec))
  | none => Qe tt ty (.als r p er ec)
 | x => Qe tt ty x
theorem z7m (tt : TT) (n : Fr) (ty : Nat) (x : T) : Snd (refT tt n ty x) (z49 tt n ty x) := by
 cases x with
 | als r p er ec =>
  cases hp : WD n.pin r with
  | some v => simp only [z49, hp]; exact zm _
  | none => simp only [z49, refT, hp]; exact Y0 tt ty (.als r p er ec)
 | d a => exact Y0 tt ty (.d a)
 | own a => exact Y0 tt ty (.own a)
 | ptr r p er ec => exact Y0 tt ty (.ptr r p er ec)
 | gone => exact Y0 tt ty .gone
def Vo (tt : TT) (n : Fr) : List (Operand × Nat) → HM (List A)
 | [] => pure []
 | (x, t) :: as_ => yo (opnd x) >>= fun y => z49 tt n t y >>= fun a => Vo tt n as_ >>= fun bs => pure (a :: bs)
theorem VK (tt : TT) (n : Fr) : ∀ as_, Snd (refArgs tt n as_) (Vo tt n as_)
 | [] => wn _
 | (x, t) :: as_ => zj (zm _) fun y => zj (z7m _ _ _ _) fun a => zj (VK tt n as_) fun bs => wn _
open Classical in
noncomputable def z5N (yv : Value) {σ β : Type} (Y : σ → KV) (enc : β → Bool → Value → List A) (s : σ) (x : β) (s' : σ) (b : Bool) (v : Value) (f : A) (xs : List A) (ls : List (Value × A)) : Option (A × List A) :=
 if f = .atom yv ∧ ls = [(yv, .opq (Y s).q)] ∧ (∀ S vs, jk (vM S) xs vs → jk (vM S) (enc x b v) vs) then some (.atom (.bool b), [.opq (Y s').q]) else none
theorem z5L {P : Program} {yv : Value} {σ β : Type} {Y : σ → KV} {enc : β → Bool → Value → List A} {y : σ → β → Option (σ × Bool)} (hy : YOk P yv Y enc y) {s : σ} {x : β} {s' : σ} {b : Bool} (v : Value) (h : y s x = some (s', b)) :
  ∀ f xs ls r ys, z5N yv Y enc s x s' b v f xs ls = some (r, ys) → qr P f xs ls r ys := by
 intro f xs ls r ys e
 unfold z5N at e
 split at e
 ·rename_i hc
  obtain ⟨rfl, rfl, h3⟩ := hc
  simp only [Option.some.injEq, Prod.mk.injEq] at e
  obtain ⟨rfl, rfl⟩ := e
  intro S w fv vs F hS hfv hvs
  exact hy s x s' b h v S w fv vs F hS hfv (h3 S vs hvs)
 ·cases e
theorem z5M {yv : Value} {σ β : Type} {Y : σ → KV} {enc : β → Bool → Value → List A} {s : σ} {x : β} {s' : σ} {b : Bool} {v : Value} (xs : List A) (h : QI xs (enc x b v)) : z5N yv Y enc s x s' b v (.atom yv) xs [(yv, .opq (Y s).q)] = some (.atom (.bool b), [.opq (Y s').q]) := by
 unfold z5N
 rw [if_pos ⟨rfl, rfl, h.all⟩]
noncomputable def z1b (tt : TT) (tab : A → List A → List (Value × A) → Option (A × List A)) (r : A) (ys : List A) (n : Fr) (dst : Option Nat) (f : Operand) (as_ : List (Operand × Nat)) (L : List Nat) : HM Unit :=
 Vo tt n [(f, 0)] >>= fun fs => Vo tt n as_ >>= fun xs => yo (lentsA n L) >>= fun ls =>
  match fs with
  | [fa] => z6h (tab fa xs ls = some (r, ys)) >>= fun _ => yo (backsA L ys >>= fun _ => wrT n dst (mkT r))
  | _ => zM
theorem z2k (tt : TT) (tab : A → List A → List (Value × A) → Option (A × List A)) (r : A) (ys : List A) (n : Fr) (dst : Option Nat) (f : Operand) (as_ : List (Operand × Nat)) (L : List Nat) : Snd (lentQ tt tab n dst f as_ L) (z1b tt tab r ys n dst f as_ L) := by
 unfold lentQ z1b
 refine zj (VK _ _ _) fun fs => zj (VK _ _ _) fun xs => zj (zm _) fun ls => ?_
 rcases fs with _ | ⟨fa, _ | ⟨z, l⟩⟩
 ·exact zo _
 ·refine Jj fun h => ?_
  simp only [h]
  exact zm _
 ·exact zo _
noncomputable def z4S {P : Program} (tt : TT) {yv : Value} {σ β : Type} {Y : σ → KV} {enc : β → Bool → Value → List A} {y : σ → β → Option (σ × Bool)} (hy : YOk P yv Y enc y) (d : Nat) {s : σ} {x : β} {s' : σ} {b : Bool} (v : Value) (h : y s x = some (s', b)) : XH P := {
 e := ZC tt (z5N yv Y enc s x s' b v) d [0]
 h := fun n o => match o.op with
  | .call ⟨.value f, args, tys⟩ => if o.dst = some d ∧ args.size = tys.size then some (z1b tt (z5N yv Y enc s x s' b v) (.atom (.bool b)) [.opq (Y s').q] n o.dst f (args.toList.zip tys.toList) [0]) else none
  | _ => none
 ok := Qy (z5L hy v h) d [0]
 none := by
  intro n o e
  unfold ZC at e
  split at e
  ·rename_i ho
   split at e
   ·cases e
   ·rename_i hd; simp only [ho, if_neg hd]
  ·rename_i hne
   split
   ·rename_i ho2; exact absurd ho2 (by intro h; exact hne _ _ _ h)
   ·rfl
 some := by
  intro n o m e
  unfold ZC at e
  split at e
  ·rename_i ho
   split at e
   ·rename_i hd; cases e
    refine ⟨_, ?_, z2k tt (z5N yv Y enc s x s' b v) (.atom (.bool b)) [.opq (Y s').q] n o.dst _ _ [0]⟩
    rw [ho]
    exact if_pos hd
   ·cases e
  ·cases e }
end Go.Own

namespace Go.Own
theorem Sim.pinned {n : Fr} {df : List Nat} {w0 : World} {S0 : zl} {M : Nat → Prop} {S : zl} {Fp : Nat → List Nat} {X : List Nat} {st : St} {a : Act} {w : World} (h : Sim ⟨n, df, w0, S0, M⟩ S Fp X st a w) (k : Nat) : Sim ⟨⟨n.size, (k, Act.tv a k) :: n.pin⟩, df, w0, S0, M⟩ S Fp X st a w := {
 size := h.size
 pin := fun j u hj => by
  rcases List.mem_cons.1 hj with e | hj
  ·cases e; rfl
  ·exact h.pin j u hj
 defers := h.defers
 below := h.below
 mine := h.mine
 still := h.still
 sinc := h.sinc
 sbase := h.sbase
 ent := h.ent
 disj := h.disj
 base := h.base
 xn := h.xn
 xd := h.xd
 xb := h.xb }
theorem Sim.unpinned {n : Fr} {k : Nat} {v : Value} {df : List Nat} {w0 : World} {S0 : zl} {M : Nat → Prop} {S : zl} {Fp : Nat → List Nat} {X : List Nat} {st : St} {a : Act} {w : World} (h : Sim ⟨⟨n.size, (k, v) :: n.pin⟩, df, w0, S0, M⟩ S Fp X st a w) : Sim ⟨n, df, w0, S0, M⟩ S Fp X st a w := {
 size := h.size
 pin := fun j u hj => h.pin j u (List.mem_cons_of_mem _ hj)
 defers := h.defers
 below := h.below
 mine := h.mine
 still := h.still
 sinc := h.sinc
 sbase := h.sbase
 ent := h.ent
 disj := h.disj
 base := h.base
 xn := h.xn
 xd := h.xd
 xb := h.xb }
theorem AWP.pin {P : Program} {n : Fr} {c : Code} {st : St} {Q : Exit → St → Prop} (k : Nat) (h : ∀ v, AWP P ⟨n.size, (k, v) :: n.pin⟩ c st Q) : AWP P n c st Q := by
 intro rd m df w0 S0 M S Fp a w hc hs
 refine wpIn_mono (h (Act.tv a k) rd m df w0 S0 M S Fp a w ⟨hc.nodup, hc.df, hc.rd⟩ (hs.pinned k)) ?_
 rintro e a' w' ⟨df', st1, S1, Fp1, h1, h2, h3⟩
 exact ⟨df', st1, S1, Fp1, h1.unpinned, h2, h3⟩
theorem z7T {P : Program} {n : Fr} {c : Code} {st : St} {Q : Exit → St → Prop} {fs : List Fm} (e : fs = []) (k : Nat) (h : ∀ v, AWP P ⟨n.size, (k, v) :: n.pin⟩ c st (Qf P ⟨n.size, (k, v) :: n.pin⟩ [] Q)) : AWP P n c st (Qf P n fs Q) := by
 subst e
 exact AWP.pin k h
open Classical in
noncomputable def z5P (f : A) (xs : List A) (ls : List (Value × A)) (r : A) (ys : List A) (f' : A) (xs' : List A) (ls' : List (Value × A)) : Option (A × List A) :=
 if f' = f ∧ ls' = ls ∧ (∀ S vs, jk (vM S) xs' vs → jk (vM S) xs vs) then some (r, ys) else none
theorem z5O {P : Program} {f : A} {xs : List A} {ls : List (Value × A)} {r : A} {ys : List A} (h : qr P f xs ls r ys) : ∀ f' xs' ls' r' ys', z5P f xs ls r ys f' xs' ls' = some (r', ys') → qr P f' xs' ls' r' ys' := by
 intro f' xs' ls' r' ys' e
 unfold z5P at e
 split at e
 ·rename_i hc
  obtain ⟨rfl, rfl, h3⟩ := hc
  simp only [Option.some.injEq, Prod.mk.injEq] at e
  obtain ⟨rfl, rfl⟩ := e
  intro S w fv vs F hS hfv hvs
  exact h S w fv vs F hS hfv (h3 S vs hvs)
 ·cases e
theorem jM {f : A} {xs : List A} {ls : List (Value × A)} {r : A} {ys : List A} (xs' : List A) (h : QI xs' xs) : z5P f xs ls r ys f xs' ls = some (r, ys) := by
 unfold z5P
 rw [if_pos ⟨rfl, rfl, h.all⟩]
noncomputable def ug {P : Program} (tt : TT) (L : List Nat) {f : A} {xs : List A} {ls : List (Value × A)} {r : A} {ys : List A} (h : qr P f xs ls r ys) (dd : Nat) : XH P := {
 e := ZC tt (z5P f xs ls r ys) dd L
 h := fun n o => match o.op with
  | .call ⟨.value g, args, tys⟩ => if o.dst = some dd ∧ args.size = tys.size then some (z1b tt (z5P f xs ls r ys) r ys n o.dst g (args.toList.zip tys.toList) L) else none
  | _ => none
 ok := Qy (z5O h) dd L
 none := by
  intro n o e
  unfold ZC at e
  split at e
  ·rename_i ho
   split at e
   ·cases e
   ·rename_i hd; simp only [ho, if_neg hd]
  ·rename_i hne
   split
   ·rename_i ho2; exact absurd ho2 (by intro h; exact hne _ _ _ h)
   ·rfl
 some := by
  intro n o m e
  unfold ZC at e
  split at e
  ·rename_i ho
   split at e
   ·rename_i hd; cases e
    refine ⟨_, ?_, z2k tt (z5P f xs ls r ys) r ys n o.dst _ _ L⟩
    rw [ho]
    exact if_pos hd
   ·cases e
  ·cases e }
theorem VZ {st : St} : ∀ {is : List Nat} {ys : List A}, is.length = ys.length → (∀ p ∈ is.zip ys, (st p.1).t = .own p.2) → WE is st = some (ys, is, [])
 | [], [], _, _ => rfl
 | i :: is, y :: ys, hl, h => by
  have h1 : (st i).t = .own y := h (i, y) (by simp)
  have h2 := VZ (st := st) (is := is) (ys := ys) (by simpa using hl) (fun p hp => h p (by simp [hp]))
  simp only [WE]
  show SM.bind (rdE i) _ st = _
  unfold SM.bind
  simp only [rdE, zc, h1, bind, SM.bind, h2, pure, SM.pure]
  simp
 | [], _ :: _, hl, _ => by simp at hl
 | _ :: _, [], hl, _ => by simp at hl
theorem z4E {live : List Nat} {st : St} {k : Nat} {y : A} (h : z3z live st k = .own y) : (st k).t = .own y := by
 unfold z3z at h
 cases hx : (st k).t with
 | als r p er ec => simp only [hx] at h; split at h <;> cases h
 | ptr r p er ec => simp only [hx] at h; split at h <;> cases h
 | own a => simpa only [hx] using h
 | d a => simp only [hx] at h; cases h
 | gone => simp only [hx] at h; cases h
theorem z4k {P : Program} {tt : TT} {k : Nat} {fn : Func} {body : Code} {nt : Nat} (is : List Nat) {args caps xs : List A} {vals : List Value} {ys : List A} (hT : vw P tt) (hf : P.funcs[k]? = some fn) (hnm : (fn.name == "runtime.NumGoroutine") = false) (hb : fn.body = some body)
  (hn : nt = fn.ntmps) (hr : fn.results = #[]) (ha : (args ++ caps).length ≤ fn.ntmps) (hnd : is.Nodup) (hbase : is.map (fun i => (args ++ caps)[i]?) = vals.map (fun v => some (.atom v))) (hl : xs.length = vals.length)
  (h : ∀ E : Exit → St → Prop, (∀ ex st, (ex = .normal ∨ ex = .ret) → (∀ p ∈ is.zip ys, (st p.1).t = .own p.2) → E ex st) →
   AWP P ⟨nt, is.zip vals⟩ body (ofL (z4q 0 (X9 (args ++ caps) is xs))) (Qf P ⟨nt, is.zip vals⟩ [] E)) (hy : is.length = ys.length) : qr P (.fn k caps) args (vals.zip xs) (.tup []) ys := by
 subst hn
 refine Ue (tt := tt) (rs := []) is hT hf hnm hb hr ha hnd hbase hl ?_
 rw [z1h]
 refine h _ ?_
 intro ex st hx hc
 refine ⟨hx, is, [], ?_⟩
 have h2 := VZ hy hc
 simp only [z7N, List.map_nil]
 show SM.bind (shutArgs tt []) _ st = _
 unfold SM.bind
 simp only [shutArgs]
 simp only [pure, SM.pure, bind, SM.bind, zc, h2]
 show (match (match (SM.pure (A.tup [], ys) : SM (A × List A)) st with | none => none | some (b, R', U') => some (b, is ++ R', [] ++ U')) with | none => none | some (b, R', U') => some (b, [] ++ R', [] ++ U')) = _
 simp [SM.pure]
theorem z7y {live : List Nat} {st : St} {l : List (Nat × T)} (hc : canon live st = ofL l) {k : Nat} {y : A} (hk : live.contains k = true) (hy : (ofL l k).t = .own y) : (st k).t = .own y := by
 have := congrFun hc k
 rw [jv, if_pos (List.contains_iff_mem.1 hk)] at this
 rw [← this] at hy
 exact z4E hy
def z5n (live : List Nat) (l : List (Nat × T)) : List Nat → List A → Prop
 | i :: is, y :: ys => (live.contains i = true ∧ (ofL l i).t = .own y) ∧ z5n live l is ys
 | _, _ => True
theorem z0p {live : List Nat} {st : St} {l : List (Nat × T)} (hc : canon live st = ofL l) : ∀ {is : List Nat} {ys : List A}, z5n live l is ys → ∀ p ∈ is.zip ys, (st p.1).t = .own p.2
 | [], _, _, p, hp => by simp at hp
 | _ :: _, [], _, p, hp => by simp at hp
 | i :: is, y :: ys, h, p, hp => by
  rcases List.mem_cons.1 hp with rfl | hp
  ·exact z7y hc h.1.1 h.1.2
  ·exact z0p hc h.2 p hp
theorem z6M {P : Program} {n : Fr} {c x y : Code} {st : St} {Q : Exit → St → Prop} {fs : List Fm} (e : c = .seq x y) (E : St → Prop) (h : AWP P n x st (Qf P n [] (fun e st1 => e = .normal ∧ E st1))) (h2 : ∀ st1, E st1 → AWP P n y st1 (Qf P n fs Q)) : AWP P n c st (Qf P n fs Q) := by
 subst e
 refine AWP.seq (AWP.mono h ?_)
 rintro e st1 ⟨rfl, q⟩
 exact h2 st1 q
theorem z3i {P : Program} {n : Fr} {c x y : Code} {st : St} {Q : Exit → St → Prop} {fs : List Fm} (e : c = .seq x y) (k : Nat) (E : St → Prop) (h : ∀ v, AWP P ⟨n.size, (k, v) :: n.pin⟩ x st (Qf P ⟨n.size, (k, v) :: n.pin⟩ [] (fun e st1 => e = .normal ∧ E st1))) (h2 : ∀ st1, E st1 → AWP P n y st1 (Qf P n fs Q)) : AWP P n c st (Qf P n fs Q) :=
 z6M e E (AWP.pin k fun v => h v) h2
end Go.Own

namespace Go.Own
section
variable {C : Ctx} {S : zl} {Fp : Nat → List Nat} {st : St} {a : Act} {w : World}
open Classical in
noncomputable def mvQ (n : Fr) (dst : Option Nat) (s : Nat) (v : Value) : SM Unit := if WD n.pin s = some v then wrT n dst (.d (.atom v)) else zq
open Classical in
theorem Loc.mvQ (n : Fr) (dst : Option Nat) (s : Nat) (v : Value) : Loc (mvQ n dst s v) := by
 unfold Go.Own.mvQ
 exact Loc.ite (Loc.wrT _ _ _) Loc.fail
def zar (n : Fr) (dst : Option Nat) (s : Nat) (v : Value) : HM Unit := kU (WD n.pin s = some v) (yo (wrT n dst (.d (.atom v))))
open Classical in
theorem zaZ (n : Fr) (dst : Option Nat) (s : Nat) (v : Value) : Snd (mvQ n dst s v) (zar n dst s v) := qS (zm _)
theorem z7B {P : Program} (h : Sim C S Fp [] st a w) {o : Oper} {s : Nat} {v : Value} (hv : v.oneCell' = true) (ho : o.op = .move (.tmp s)) {u : Unit} {R : List Nat} {U : List (Nat × Ent)} (e : mvQ C.n o.dst s v st = some (u, R, U)) : uf P C o a w (zc U st) := by
 unfold mvQ at e
 split at e
 ·rename_i hp
  have hs := h.pin s v (ua hp)
  obtain ⟨Fp', hs'⟩ := wz h e (x := .d (.atom v)) (v := v) (zy.2 ⟨rfl, hv⟩)
  refine zt ?_ hs'
  have ev : a.eval (.tmp s) = v := hs
  simp [execOp, ho, ev]
 ·exact (z8 e).elim
noncomputable def xMv (P : Program) (d s : Nat) (v : Value) (hv : v.oneCell' = true) : XH P := {
 e := fun n o => match o.op with | .move (.tmp t) => if o.dst = some d ∧ t = s then some (mvQ n o.dst s v) else none | _ => none
 h := fun n o => match o.op with | .move (.tmp t) => if o.dst = some d ∧ t = s then some (zar n o.dst s v) else none | _ => none
 ok := by
  refine ⟨?_, ?_⟩
  ·intro C S Fp st a w o m u R U e h h2
   dsimp only at e
   split at e
   ·rename_i t ho
    split at e
    ·rename_i hd
     obtain ⟨_, rfl⟩ := hd
     cases e; exact z7B h hv ho h2
    ·cases e
   ·cases e
  ·intro n o m e
   dsimp only at e
   split at e
   ·split at e
    ·cases e
     exact fun st st' a R U => Loc.mvQ _ _ _ _ st st' a R U
    ·cases e
   ·cases e
 none := by
  intro n o e
  skip
  split at e
  ·split at e
   ·cases e
   ·rename_i hd; rw [if_neg hd]
  ·rfl
 some := by
  intro n o m e
  skip
  split at e
  ·split at e
   ·rename_i hd; cases e; exact ⟨_, by rw [if_pos hd], zaZ _ _ _ _⟩
   ·cases e
  ·cases e }
end
theorem z0E {P : Program} {n : Fr} {c : Code} {st : St} {Q : Exit → St → Prop} {fs : List Fm} (e : fs = []) (k : Nat) {y : A} (hk : (st k).t = .own y) (ho : z01 y = true) (h : ∀ v, v.oneCell' = true → AWP P ⟨n.size, (k, v) :: n.pin⟩ c st (Qf P ⟨n.size, (k, v) :: n.pin⟩ [] Q)) : AWP P n c st (Qf P n fs Q) := by
 subst e
 intro rd m df w0 S0 M S Fp a w hc hs
 have hone : (Act.tv a k).oneCell' = true := by
  have q := hs.ent k
  unfold yH at q
  simp only [hk] at q
  obtain ⟨cs, c1, _, hv⟩ := q
  have hcs := Yj ho c1
  rw [hv]
  exact c1.one1 (Yk ho) _ (by have q := List.mem_singleton_self (zZ y cs); rwa [← hcs] at q)
 refine wpIn_mono (h (Act.tv a k) hone rd m df w0 S0 M S Fp a w ⟨hc.nodup, hc.df, hc.rd⟩ (hs.pinned k)) ?_
 rintro e a' w' ⟨df', st1, S1, Fp1, h1, h2, h3⟩
 exact ⟨df', st1, S1, Fp1, h1.unpinned, h2, h3⟩
end Go.Own

namespace Go.Own
instance LeA.oslT (sz : Nat) (xs ys : List A) [h : JO xs ys] : LeA (.osl sz true xs) (.osl sz true ys) := {
 rep := fun S cs q => by simp only [Rep] at q
 conc := fun S hp cs F q => by
  simp only [zO] at q ⊢
  obtain ⟨p, c, e, h1, h2, h3, h4, h5⟩ := q
  refine ⟨p, c, by rw [← h.len]; exact e, fun _ => by rw [← h.len]; exact h1 trivial, by rw [← h.len]; exact h2, h3, h.size _ h4, ?_⟩
  rcases h5 with ⟨q1, q2, q3, q4⟩ | ⟨b, arr, ty, l, F', e1, e2, e3, e4, e5, e6, e7⟩
  ·exact .inl ⟨Yg (S := S) h.len q1, q2, q3, q4⟩
  ·exact .inr ⟨b, arr, ty, l, F', e1, e2, e3, by rw [← h.len]; exact e4, h.conc _ _ _ _ e5, e6, e7⟩
 val := fun _ => rfl
 tup := fun _ e => by cases e }
instance {α : Type} (sz : Nat) (f g : α → A) [h : ∀ x, LeA (f x) (g x)] [z : ∀ x, SzA (f x) (g x)] (l : List α) : LeA (eOs sz true f l) (eOs sz true g l) := LeA.oslT sz (l.map f) (l.map g)
end Go.Own

namespace Go.Own
open Classical
def W5 (S : zl) (h : Array Obj) : List (Option A) → List Value → List Nat → Prop
 | [], [], F => F = []
 | none :: ys, _ :: vs, F => W5 S h ys vs F
 | some y :: ys, v :: vs, F => ∃ F1 F2, F = F2 ++ F1 ∧ Has S h y v F1 ∧ W5 S h ys vs F2
 | _, _, _ => False
theorem W5.frame {S S' : zl} {h h' : Array Obj} (hS : ∀ b o u, S b o = some u → S' b o = some u) : ∀ {ys : List (Option A)} {vs : List Value} {F : List Nat}, W5 S h ys vs F → (∀ k ∈ F, h'[k]? = h[k]? ∧ ∀ o, S' k o = none) → W5 S' h' ys vs F
 | [], [], _, q, _ => q
 | none :: ys, _ :: vs, F, q, hF => W5.frame (ys := ys) (vs := vs) (F := F) hS q hF
 | some _ :: _, _ :: _, _, ⟨F1, F2, e, q1, q2⟩, hF => ⟨F1, F2, e, q1.frame hS (fun k hk => hF k (by rw [e]; simp [hk])), W5.frame hS q2 (fun k hk => hF k (by rw [e]; simp [hk]))⟩
 | [], _ :: _, _, q, _ => q.elim
 | none :: _, [], _, q, _ => q.elim
 | some _ :: _, [], _, q, _ => q.elim
theorem W5.own {S : zl} {h : Array Obj} : ∀ {ys : List (Option A)} {vs : List Value} {F : List Nat}, W5 S h ys vs F → ∀ k ∈ F, k < h.size ∧ ∀ o, S k o = none
 | [], [], F, q, k, hk => by
  have e : F = [] := q
  subst e; simp at hk
 | none :: ys, _ :: vs, F, q, k, hk => W5.own (ys := ys) (vs := vs) (F := F) q k hk
 | some _ :: _, _ :: _, F, ⟨F1, F2, e, q1, q2⟩, k, hk => by
  subst e
  rcases List.mem_append.1 hk with hk | hk
  ·exact W5.own q2 k hk
  ·exact q1.own k hk
 | [], _ :: _, _, q, _, _ => q.elim
 | none :: _, [], _, q, _, _ => q.elim
 | some _ :: _, [], _, q, _, _ => q.elim
class z84 (xs ys : List (Option A)) : Prop where
 all : ∀ S h vs F, W5 S h xs vs F → W5 S h ys vs F
instance z84.nil : z84 [] [] := ⟨fun _ _ _ _ h => h⟩
instance z84.cons (x y : A) (xs ys : List (Option A)) [h : LeV x y] [k : z84 xs ys] : z84 (some x :: xs) (some y :: ys) := ⟨fun S hp vs F q => by
 cases vs with
 | nil => exact q.elim
 | cons v vs =>
  obtain ⟨F1, F2, e, q1, q2⟩ := q
  exact ⟨F1, F2, e, h.has _ _ _ _ q1, k.all _ _ _ _ q2⟩⟩
end Go.Own

namespace Go.Own
theorem lentCall {P : Program} {k : Nat} {as_ : List A} {r : A} (h : XK P k as_ r) : qr P (.fn k []) as_ [] r [] := by
 intro S w fv vs F hS hfv hvs hH hF
 have hF0 : F = [] := hH
 subst hF0
 obtain ⟨cs, c1, c2⟩ := hfv
 simp only [Rep] at c1
 obtain ⟨us, u1, _, rfl⟩ := c1
 have hu : us = [] := by
  cases us with
  | nil => rfl
  | cons _ _ => simp [yj] at u1
 subst hu
 obtain ⟨⟨fn, f1, f2, f3⟩, hc⟩ := h
 refine .inl ⟨k, #[], fn, c2, f1, f2, f3, ?_⟩
 rw [Array.append_empty]
 have hass : ∀ {as_ : List A} {vs : List Value}, jk (vM S) as_ vs → jD S w.heap as_ vs [] := by
  intro as_
  induction as_ with
  | nil => intro vs q; cases vs with | nil => rfl | cons _ _ => exact q.elim
  | cons a as_ ih =>
   intro vs q
   cases vs with
   | nil => exact q.elim
   | cons v vs => exact ⟨[], [], rfl, .inl ⟨q.1.repV, rfl⟩, ih q.2⟩
 refine (hc S w vs [] hS (hass hvs) List.nodup_nil).mono ?_
 rintro e w' ⟨v', S', F', he, b1, b2, b3, b4, b5, b6, b7⟩
 exact ⟨v', he, S', F', [], b1, b2, b3, b4, b5, rfl, by simpa using b6, by simpa using b7⟩
theorem yX {P : Program} {c : Ctr} (hC : y6 P c) {k : Nat} {α ρ : Type} {enc : α → List A} {encR : ρ → A} {F : α → Option ρ} {gives : List Bool} {inj : ∀ x y, enc x = enc y → x = y} (h : c.Has (spF k enc encR F gives inj)) {x : α} {r : ρ} (hr : F x = some r) : XK P k (enc x) (encR r) := by
 have h1 := h.run x ⟨r, hr⟩
 have := hC.1 _ _ _ h1
 simpa only [spF, hr] using this
end Go.Own

namespace Go.Own
open Go.Proofs Go.Shelf
section
variable {α : Type}
def z6x (c : α → α → Int) (x : α) : List α → List α
 | [] => [x]
 | y :: l => if c y x < 0 then y :: z6x c x l else x :: y :: l
def Jx (c : α → α → Int) : List α → List α
 | [] => []
 | x :: l => z6x c x (Jx c l)
def SOk (c : α → α → Int) (l : List α) : Prop :=
 (∀ x ∈ l, ¬ c x x < 0) ∧ (∀ x ∈ l, ∀ y ∈ l, ∀ z ∈ l, c x y < 0 → c y z < 0 → c x z < 0) ∧ (∀ x ∈ l, ∀ y ∈ l, ¬ c x y < 0 → ¬ c y x < 0 → x = y)
instance [DecidableEq α] (c : α → α → Int) (l : List α) : Decidable (SOk c l) := by unfold SOk; infer_instance
def z5T [DecidableEq α] (cmp : α → α → Option Int) (l : List α) : Option (List α) :=
 gd (l.length ≤ 4294967296 ∧ ∀ x ∈ l, ∀ y ∈ l, (cmp x y).isSome = true) <| gd (SOk (fun x y => (cmp x y).getD 0) l) <| some (Jx (fun x y => (cmp x y).getD 0) l)
theorem SOk.ntr {c : α → α → Int} {l : List α} (h : SOk c l) : ∀ x ∈ l, ∀ y ∈ l, ∀ z ∈ l, ¬ c x y < 0 → ¬ c y z < 0 → ¬ c x z < 0 := by
 intro x hx y hy z hz h1 h2 h3
 by_cases h4 : c y x < 0
 ·exact h2 (h.2.1 y hy x hx z hz h4 h3)
 ·have := h.2.2 x hx y hy h1 h4
  subst this
  exact h2 h3
theorem Uk (c : α → α → Int) (x : α) : ∀ l, (z6x c x l).Perm (x :: l)
 | [] => .refl _
 | y :: l => by
  simp only [z6x]
  split
  ·exact ((Uk c x l).cons y).trans (.swap x y l)
  ·exact .refl _
theorem Z7 (c : α → α → Int) : ∀ l, (Jx c l).Perm l
 | [] => .refl _
 | x :: l => (Uk c x _).trans ((Z7 c l).cons x)
theorem Uj {c : α → α → Int} {L : List α} (h : SOk c L) {x : α} (hx : x ∈ L) : ∀ {l : List α}, (∀ y ∈ l, y ∈ L) → l.Pairwise (fun a b => ¬ c b a < 0) → (z6x c x l).Pairwise (fun a b => ¬ c b a < 0)
 | [], _, _ => by simp [z6x]
 | y :: l, hl, hp => by
  have hy := hl y (by simp)
  obtain ⟨p1, p2⟩ := List.pairwise_cons.1 hp
  simp only [z6x]
  split
  ·rename_i hc
   refine List.pairwise_cons.2 ⟨?_, Uj h hx (fun z hz => hl z (by simp [hz])) p2⟩
   intro z hz
   rcases List.mem_cons.1 ((Uk c x l).mem_iff.1 hz) with rfl | hz
   ·exact fun q => h.1 _ hx (h.2.1 _ hx _ hy _ hx q hc)
   ·exact p1 z hz
  ·rename_i hc
   refine List.pairwise_cons.2 ⟨?_, hp⟩
   intro z hz
   rcases List.mem_cons.1 hz with rfl | hz
   ·exact hc
   ·exact h.ntr z (hl z (by simp [hz])) y hy x hx (p1 z hz) hc
theorem WH {c : α → α → Int} {L : List α} (h : SOk c L) : ∀ {l : List α}, (∀ y ∈ l, y ∈ L) → (Jx c l).Pairwise (fun a b => ¬ c b a < 0)
 | [], _ => .nil
 | x :: l, hl => Uj h (hl x (by simp)) (fun y hy => hl y (by simp [(Z7 c l).mem_iff.1 hy])) (WH h fun y hy => hl y (by simp [hy]))
theorem KF {c : α → α → Int} {l l' : List α} (h : SOk c l) (hp : l'.Perm l) (hs : l'.Pairwise (fun a b => ¬ c b a < 0)) : l' = Jx c l := by
 refine List.Perm.eq_of_pairwise (le := fun a b => ¬ c b a < 0) ?_ hs (WH h fun _ q => q) (hp.trans (Z7 c l).symm)
 intro a b ha hb h1 h2
 exact h.2.2 a (hp.mem_iff.1 ha) b ((Z7 c l).mem_iff.1 hb) h2 h1
theorem z1K [DecidableEq α] {cmp : α → α → Option Int} {l l' : List α} (h : z5T cmp l = some l') : l.length ≤ 4294967296 ∧ (∀ x ∈ l, ∀ y ∈ l, cmp x y = some ((cmp x y).getD 0)) ∧ SOk (fun x y => (cmp x y).getD 0) l ∧ l' = Jx (fun x y => (cmp x y).getD 0) l := by
 obtain ⟨h1, h⟩ := gdE h
 obtain ⟨h2, h⟩ := gdE h
 refine ⟨h1.1, fun x hx y hy => ?_, h2, (ze h).symm⟩
 have := h1.2 x hx y hy
 cases hc : cmp x y with
 | none => rw [hc] at this; cases this
 | some _ => rfl
end
theorem z7K {α : Type} [Inhabited α] (enc : α → List Value) (k : Nat) (hk : ∀ x, (enc x).length = k) : ∀ l : List α, ((List.range (l.length * k)).map fun t => (enc l[t / k]!)[t % k]!) = l.flatMap enc
 | [] => by simp
 | x :: l => by
  rcases Nat.eq_zero_or_pos k with rfl | h0
  ·simp only [Nat.mul_zero, List.range_zero, List.map_nil]
   symm
   rw [List.flatMap_eq_nil_iff]
   intro y _
   exact List.eq_nil_of_length_eq_zero (hk y)
  rw [List.length_cons, Nat.add_mul, Nat.one_mul, Nat.add_comm, List.range_add, List.map_append, List.map_map, List.flatMap_cons]
  congr 1
  ·apply List.ext_getElem?
   intro i
   rw [List.getElem?_map]
   by_cases hi : i < k
   ·rw [List.getElem?_range hi, Option.map_some, Nat.div_eq_of_lt hi, Nat.mod_eq_of_lt hi]
    have : i < (enc x).length := by rw [hk]; exact hi
    simp [this]
   ·rw [List.getElem?_eq_none (by simpa using hi), List.getElem?_eq_none (by rw [hk]; omega)]; rfl
  ·rw [← z7K enc k hk l]
   apply List.map_congr_left
   intro t _
   simp only [Function.comp]
   rw [Nat.add_div_left _ h0, Nat.add_mod_left]
   simp
theorem WK {α : Type} [Inhabited α] (enc : α → List Value) (k : Nat) (hk : ∀ x, (enc x).length = k) (d : Array α) : (Sort.flatK enc k d).toList = d.toList.flatMap enc := by
 rw [← z7K enc k hk d.toList]
 simp only [Sort.flatK, Array.toList_map, Array.toList_range, Array.length_toList]
 apply List.map_congr_left
 intro a _
 have : d.toList[a / k]! = d[a / k]! := by
  by_cases hlt : a / k < d.size
  ·rw [getElem!_pos d _ hlt, getElem!_pos d.toList _ (by simpa using hlt)]; simp
  ·rw [getElem!_neg d _ hlt, getElem!_neg d.toList _ (by simpa using hlt)]
 rw [this]
def z6P (P : Program) (kf k : Nat) (ag : Bool) : Prop := ∃ ρ, SlLaysF0.n6 P ρ ∧ ρ.f 6 = kf ∧ (∀ w, (isAgg (ρ.t 24)).run P w = .ok ag w) ∧ (∀ w, (Go.sizeOf (ρ.t 24)).run P w = .ok k w) ∧ (ag = false → k = 1)
theorem Ql {S : zl} {α : Type} {enc : α → A} {k : Nat} (hsz : ∀ x, (enc x).size = k) (L : List α) : ∀ {l : List α} {cs : List Value}, (∀ x ∈ l, x ∈ L) → yj S (l.map enc) cs →
  ∃ d : List {p : List Value × α // Rep S (enc p.2) p.1 ∧ p.2 ∈ L}, d.map (fun p => p.1.2) = l ∧ d.flatMap (fun p => p.1.1) = cs
 | [], cs, _, h => by
  simp only [List.map_nil, yj] at h
  exact ⟨[], rfl, by simp [h]⟩
 | x :: l, cs, hl, h => by
  simp only [List.map_cons, yj] at h
  obtain ⟨c1, c2, rfl, h1, h2⟩ := h
  obtain ⟨d, e1, e2⟩ := Ql hsz L (fun y hy => hl y (by simp [hy])) h2
  exact ⟨⟨(c1, x), h1, hl x (by simp)⟩ :: d, by simp [e1], by simp [e2]⟩
theorem Xc {S : zl} {α : Type} {enc : α → A} {L : List α} : ∀ (d : List {p : List Value × α // Rep S (enc p.2) p.1 ∧ p.2 ∈ L}), yj S ((d.map fun p => p.1.2).map enc) (d.flatMap fun p => p.1.1)
 | [] => by simp [yj]
 | p :: d => by
  simp only [List.map_cons, List.flatMap_cons, yj]
  exact ⟨_, _, rfl, p.2.1, Xc d⟩
theorem z3P {P : Program} {tt : TT} {ρ : Ren} {kf k t : Nat} {ag : Bool} (hT : vw P tt) (L : SlLaysF0.n6 P ρ) (h6 : ρ.f 6 = kf) (h24 : ρ.t 24 = t) (hs : (tt t).map (fun i => (i.kind.isAgg, i.size)) = some (ag, k)) (h1 : ag = false → k = 1) : z6P P kf k ag := by
 obtain ⟨i, hi, he⟩ := Option.map_eq_some_iff.1 hs
 simp only [Prod.mk.injEq] at he
 refine ⟨ρ, L, h6, fun w => ?_, fun w => ?_, h1⟩
 ·rw [h24, VM (hT t i hi).kind w, he.1]
 ·rw [h24, vD hT hi w, he.2]
section
variable {α : Type} [Inhabited α] (enc : α → List Value) (k : Nat) (w : World) (b n : Nat) (d : Array α) (os : Array Obj)
theorem z0J {j : Nat} (hj : j < w.heap.size) (hb : j ≠ b) : (sortWorldK enc k w b 0 n d os).heap[j]? = w.heap[j]? := by
 show ((w.heap.modify b _) ++ os)[j]? = _
 rw [Array.getElem?_append_left (by simpa using hj), Array.getElem?_modify, if_neg (Ne.symm hb)]
theorem z9d {arr : Array Value} {ty : TypeId} {fr : Nat × Nat} (hb : w.heap[b]? = some (.cells arr ty fr)) : (sortWorldK enc k w b 0 n d os).heap[b]? = some (.cells (Sort.putCells id 0 (Sort.flatK enc k d) arr) ty fr) := by
 have hlt := (Array.getElem?_eq_some_iff.1 hb).1
 show ((w.heap.modify b _) ++ os)[b]? = _
 rw [Array.getElem?_append_left (by simpa using hlt), Array.getElem?_modify, if_pos rfl, hb]
 rfl
theorem z5R : (sortWorldK enc k w b 0 n d os).heap.size = w.heap.size + os.size := by
 show ((w.heap.modify b _) ++ os).size = _
 simp
end
theorem Jm {D arr : Array Value} (h : D.size ≤ arr.size) : (Sort.putCells id 0 D arr).toList.take D.size = D.toList := by
 apply List.ext_getElem?
 intro i
 rw [List.getElem?_take]
 by_cases hi : i < D.size
 ·rw [if_pos hi]
  have : i < arr.size := by omega
  simp [Sort.putCells, hi, this]
 ·rw [if_neg hi, List.getElem?_eq_none (by simpa using hi)]
theorem Jn (D arr : Array Value) : (Sort.putCells id 0 D arr).size = arr.size := by simp [Sort.putCells]
theorem Km {S : zl} : ∀ {caps : List A} {vs : List Value}, yj S caps vs → (∀ c ∈ caps, c.size = 1 ∧ ∀ fs, c ≠ .agg fs) → jk (vM S) caps vs
 | [], vs, h, _ => by simp only [yj] at h; subst h; trivial
 | c :: caps, vs, h, hc => by
  simp only [yj] at h
  obtain ⟨c1, c2, rfl, h1, h2⟩ := h
  obtain ⟨s1, s2⟩ := hc c (by simp)
  have hl := h1.len
  rw [s1] at hl
  obtain ⟨u, rfl⟩ := List.length_eq_one_iff.1 hl
  refine ⟨⟨[u], h1, ?_⟩, Km h2 fun x hx => hc x (by simp [hx])⟩
  cases c <;> first | rfl | exact absurd rfl (s2 _)
theorem WI {S : zl} {h : Array Obj} : ∀ {bs : List A} {vs : List Value}, jk (vM S) bs vs → jD S h bs vs []
 | [], [], _ => rfl
 | _ :: _, _ :: _, q => ⟨[], [], rfl, .inl ⟨q.1.repV, rfl⟩, WI q.2⟩
 | [], _ :: _, q => q.elim
 | _ :: _, [], q => q.elim
theorem z2R {w w' : World} (h : kW (fun k => w.heap.size ≤ k) w w') : ∃ q os', w' = Sort.grow (w.drewN q) os' := by
 refine ⟨w'.drawn - w.drawn, w'.heap.extract w.heap.size w'.heap.size, ?_⟩
 have h1 : w'.heap = w.heap ++ w'.heap.extract w.heap.size w'.heap.size := by
  apply Array.ext_getElem?
  intro i
  by_cases hi : i < w.heap.size
  ·rw [Array.getElem?_append_left hi]
   exact h.block i (by omega)
  ·rw [Array.getElem?_append_right (by omega), Array.getElem?_extract]
   by_cases h2 : i < w'.heap.size
   ·rw [if_pos (by omega)]
    congr 1; omega
   ·rw [if_neg (by omega), Array.getElem?_eq_none (by omega)]
 have h2 := h.drawn
 have h3 := h.os
 have h4 := h.tape
 have h5 := h.output
 cases w' with
 | mk heap tape drawn os output =>
  cases w with
  | mk heap0 tape0 drawn0 os0 output0 =>
   simp only at h1 h2 h3 h4 h5
   subst h3 h4 h5
   simp only [Sort.grow, World.drewN, World.mk.injEq, true_and, and_true]
   exact ⟨h1, by omega⟩
theorem z4T {α : Type} [Inhabited α] (enc : α → List Value) (e1 : α → Value) (he : ∀ x, enc x = [e1 x]) (w : World) (b m : Nat) (d : Array α) (os : Array Obj) : sortWorld e1 w b 0 m d os = sortWorldK enc 1 w b 0 m d os := by
 have hflat : Sort.flatK enc 1 d = d.map e1 := by
  apply Array.ext
  ·simp [Sort.flatK]
  ·intro i h1 h2
   have hi : i < d.size := by simpa using h2
   have := Sort.get_flatK enc 1 d i (by omega)
   rw [getElem!_pos _ i h1] at this
   rw [this, he]
   simp [Nat.mod_one, hi]
 unfold sortWorld sortWorldK
 congr 1
 unfold Sort.putRowK Sort.putRow
 congr 1
 rw [hflat]
 funext c
 unfold Sort.putCells
 congr 1
 funext k x
 simp only [Nat.zero_le, true_and, Nat.zero_add, Nat.sub_zero, Array.size_map, id]
 by_cases hk : k < d.size
 ·rw [if_pos hk, if_pos hk, getElem!_pos d k hk, getElem!_pos _ k (by simpa using hk)]; simp
 ·rw [if_neg hk, if_neg hk]
theorem z2T {α : Type} [Inhabited α] {enc : α → List Value} {e1 : α → Value} (he : ∀ x, enc x = [e1 x]) {w : World} {b : Nat} {d : Array α} (h : Sort.HoldsK enc 1 w b 0 d) : Sort.Holds e1 w b 0 d := by
 intro j hj
 have := h j (by simpa using hj)
 rw [Sort.get_flatK enc 1 d j (by omega), he] at this
 simpa [Nat.mod_one] using this
theorem z2g {P : Program} {kf k g : Nat} {ag : Bool} {α : Type} [DecidableEq α] {f : α → A} [hD : z3C f] {t : Bool} {v : Value} {caps : List A} {cmp : α → α → Option Int} {l l' : List α} (hT : z6P P kf k ag) (hsz : ∀ x, (f x).size = k) (hag : ∀ x, (f x).isAgg = ag)
  (hc : ∀ x y c, cmp x y = some c → XK P g (f x :: f y :: caps) (.atom (.int .i64 c))) (h : z5T cmp l = some l') : qr P (.fn kf []) [.atom v, .fn g caps] [(v, .osl k t (l.map f))] (.tup []) [.osl k t (l'.map f)] := by
 obtain ⟨hlen0, hcmp, hO, rfl⟩ := z1K h
 obtain ⟨ρ, L, rfl, aE, zE, hk1⟩ := hT
 intro S w fv vs F hS hfv hvs hH hF
 obtain ⟨cs, c1, c2⟩ := hfv
 simp only [Rep] at c1
 obtain ⟨us, u1, _, rfl⟩ := c1
 have hu : us = [] := by
  cases us with
  | nil => rfl
  | cons _ _ => simp [yj] at u1
 subst hu
 rcases vs with _ | ⟨v1, _ | ⟨v2, _ | ⟨v3, vs⟩⟩⟩
 ·exact hvs.elim
 ·exact hvs.2.elim
 case cons.cons.cons => exact hvs.2.2.elim
 obtain ⟨hv1, hv2, _⟩ := hvs
 obtain ⟨rfl, _⟩ := vq.1 hv1
 obtain ⟨cs2, d1, d2⟩ := hv2
 simp only [Rep] at d1
 obtain ⟨cv, d3, d4, rfl⟩ := d1
 have hcv := Km d3 d4
 obtain ⟨F1, F2, rfl, q1, q2⟩ := hH
 have hF2 : F2 = [] := q2
 subst hF2
 rw [List.nil_append] at hF ⊢
 have act : ∀ R : Ending → World → Prop, Calls P (ρ.f 6) #[v1, .func (.func g) #[] cv.toArray] w R → Calls P (ρ.f 6) ([v1, v2].toArray ++ #[]) w R := by
  intro R q
  rw [d2, Array.append_empty]
  exact q
 have fnOk : ∃ fn, P.funcs[ρ.f 6]? = some fn ∧ (fn.name == "runtime.NumGoroutine") = false ∧ fn.body.isNone = false := by
  obtain ⟨nm, hne, FG⟩ := L.f6
  exact ⟨_, FG, by simpa using hne, rfl⟩
 obtain ⟨fn, f1, f2, f3⟩ := fnOk
 refine .inl ⟨ρ.f 6, #[], fn, c2, f1, f2, f3, act _ ?_⟩
 rcases q1 with ⟨q1, _⟩ | ⟨cs, q1, q3, q4⟩
 ·simp only [xx, vM, Rep, false_and, exists_false] at q1
 simp only [zO] at q1
 obtain ⟨p, c, rfl, t1, t2, t3, t4, t5⟩ := q1
 have ev : v1 = .slice p l.length c := by
  have q5 : v1 = zZ (.osl k t (l.map f)) [.slice p (l.map f).length c] := q4
  rw [q5]; simp [zZ]
 subst ev
 simp only [List.length_map] at t1 t2 t5
 by_cases hl : l = []
 ·subst hl
  refine (AnyF.slices_SortFunc_none { L with } p c _ w).mono ?_
  rintro e w' ⟨rfl, rfl⟩
  refine ⟨.tuple #[], rfl, S, [], F1, kW.refl _ _, fun _ _ _ q => q, fun _ _ _ _ => rfl, hS, .inl ⟨?_, rfl⟩, ⟨F1, [], by simp, .inr ⟨[.slice p 0 c], ?_, q3, rfl⟩, rfl⟩, by simpa using hF, fun k hk => .inr (by simpa using hk)⟩
  ·simp only [xx]; exact ⟨[], rfl, trivial⟩
  ·simp only [Jx, List.map_nil, zO]
   exact ⟨p, c, rfl, t1, t2, t3, by simp, by simpa using t5⟩
 have hpos : 0 < l.length := List.length_pos_iff.2 hl
 rcases t5 with ⟨e, _⟩ | ⟨b, arr, ty, cl, F', rfl, e1, e2, e3, e4, rfl, e5⟩
 ·exact absurd (by simpa using e) hl
 obtain ⟨hr, rfl⟩ := e4.areD (dM f l)
 obtain ⟨d, g1, g2⟩ := Ql (S := S) hsz l (fun _ q => q) hr
 have hblk := (Array.getElem?_eq_some_iff.1 e1).1
 obtain ⟨x0, hx0⟩ : ∃ x, x ∈ d := by
  cases d with
  | nil => exact absurd g1.symm hl
  | cons x _ => exact ⟨x, by simp⟩
 letI : Inhabited {p : List Value × α // Rep S (f p.2) p.1 ∧ p.2 ∈ l} := ⟨x0⟩
 let enc : {p : List Value × α // Rep S (f p.2) p.1 ∧ p.2 ∈ l} → List Value := fun p => p.1.1
 let c0 : α → α → Int := fun x y => (cmp x y).getD 0
 have hk : ∀ x, (enc x).length = k := fun x => (x.2.1.len).trans (hsz _)
 have h1 : ∀ x, ∀ v ∈ enc x, v.oneCell' = true := fun x => x.2.1.one
 have hswo : Sort.SWO (ltOf fun x y : {p : List Value × α // Rep S (f p.2) p.1 ∧ p.2 ∈ l} => c0 x.1.2 y.1.2) := by
  refine ⟨fun x => ?_, fun x y z q1 q2 => ?_, fun x y z q1 q2 => ?_⟩
  ·simpa [ltOf] using hO.1 _ x.2.2
  ·simp only [ltOf, decide_eq_true_eq] at q1 q2 ⊢
   exact hO.2.1 _ x.2.2 _ y.2.2 _ z.2.2 q1 q2
  ·simp only [ltOf, decide_eq_false_iff_not] at q1 q2 ⊢
   exact hO.ntr _ x.2.2 _ y.2.2 _ z.2.2 q1 q2
 have hdl : d.length = l.length := by have := congrArg List.length g1; simpa using this
 have hD0 : (Sort.flatK enc k d.toArray).toList = cl := by rw [WK enc k hk]; exact g2
 have hszF : ∀ d' : Array {p : List Value × α // Rep S (f p.2) p.1 ∧ p.2 ∈ l}, d'.size = d.length → (Sort.flatK enc k d').size = l.length * k := fun d' q => by rw [Sort.size_flatK, q, hdl]
 have hle : l.length * k ≤ arr.size := Nat.le_trans (Nat.mul_le_mul_right _ t2) e2
 have hH2 : Sort.HoldsK enc k w b 0 d.toArray := by
  intro j hj
  have hj' : j < cl.length := by rw [← hD0]; simpa using hj
  have hget : (Sort.flatK enc k d.toArray)[j]! = cl[j] := by
   rw [getElem!_pos _ j hj]
   have : (Sort.flatK enc k d.toArray).toList[j]'(by simpa using hj) = cl[j] := by simp only [hD0]
   simpa using this
  have hcell : arr[j]? = some cl[j] := by
   obtain ⟨u, hu⟩ : ∃ u, u = cl[j] := ⟨_, rfl⟩
   have q : cl[j]? = some u := by rw [hu]; exact List.getElem?_eq_getElem hj'
   rw [← hu]
   clear hget hu
   subst e3
   rw [List.getElem?_take] at q
   split at q
   ·simpa using q
   ·cases q
  constructor
  ·simp only [World.cell?, e1, Option.isSome_none, Bool.false_eq_true, if_false, Nat.zero_add, id, hget]
   exact hcell
  ·simp [World.frozen?, e1]
 have hst : ∀ n (d' : Array {p : List Value × α // Rep S (f p.2) p.1 ∧ p.2 ∈ l}) os, wI S (sortWorldK enc k w b 0 n d' os) := by
  intro n d' os b' o' u hu
  have hne : b' ≠ b := by rintro rfl; rw [e5] at hu; cases hu
  have := hS b' o' u hu
  have hlt : b' < w.heap.size := by
   unfold yi at this
   cases hq : w.heap[b']? with
   | none => simp [hq] at this
   | some _ => exact (Array.getElem?_eq_some_iff.1 hq).1
  unfold yi at this ⊢
  rw [z0J enc k w b n d' os hlt hne]
  exact this
 have heg : Enters P g := by
  obtain ⟨⟨fn', p1, p2, p3⟩, _⟩ := hc x0.1.2 x0.1.2 _ (hcmp _ x0.2.2 _ x0.2.2)
  cases hb : fn'.body with
  | none => simp [hb] at p3
  | some body => exact enters_of p1 p2 hb
 have hcall0 : ∀ (m : Nat) (os : Array Obj) (dk : Array {p : List Value × α // Rep S (f p.2) p.1 ∧ p.2 ∈ l}) (x y : {p : List Value × α // Rep S (f p.2) p.1 ∧ p.2 ∈ l}),
   Calls P g (#[zZ (f x.1.2) (enc x), zZ (f y.1.2) (enc y)] ++ cv.toArray) (sortWorldK enc k w b 0 m dk os) fun e w' => e = .returned (.int .i64 (c0 x.1.2 y.1.2)) ∧ ∃ q os', w' = Sort.grow ((sortWorldK enc k w b 0 m dk os).drewN q) os' := by
  intro m os dk x y
  have hcall := (hc x.1.2 y.1.2 _ (hcmp _ x.2.2 _ y.2.2)).2 S (sortWorldK enc k w b 0 m dk os) (zZ (f x.1.2) (enc x) :: zZ (f y.1.2) (enc y) :: cv) [] (hst _ _ _)
   (WI ⟨⟨enc x, x.2.1, rfl⟩, ⟨enc y, y.2.1, rfl⟩, hcv⟩) List.nodup_nil
  have ea : (#[zZ (f x.1.2) (enc x), zZ (f y.1.2) (enc y)] ++ cv.toArray : Array Value) = (zZ (f x.1.2) (enc x) :: zZ (f y.1.2) (enc y) :: cv : List Value).toArray := by simp
  rw [ea]
  refine hcall.mono ?_
  rintro e w' ⟨v', S', F', rfl, b1, b2, b3, b4, b5, b6, b7⟩
  have hv : v' = .int .i64 (c0 x.1.2 y.1.2) := by
   rcases b5 with ⟨r, _⟩ | ⟨cs, r, _, r2⟩
   ·exact (zy.1 r).1
   ·simp only [zO, Rep] at r
    rw [r2, r.1.1]; rfl
  refine ⟨by rw [hv], z2R (b1.mono fun k hk => ?_)⟩
  simpa using hk
 have hsz62 : d.toArray.size < 4611686018427387904 := by
  simp only [List.size_toArray, hdl]
  omega
 have hcon : Calls P (ρ.f 6) #[.slice (some ⟨b, 0, none⟩) d.toArray.size c, .func (.func g) #[] cv.toArray] w fun e w' =>
   e = .returned (.tuple #[]) ∧ ∃ d' n os, Sort.PermIn 0 d.toArray.size d.toArray d' ∧ Sort.SortedIn (ltOf fun x y : {p : List Value × α // Rep S (f p.2) p.1 ∧ p.2 ∈ l} => c0 x.1.2 y.1.2) 0 d.toArray.size d' ∧ w' = sortWorldK enc k w b 0 n d' os := by
  cases ag with
  | true =>
   refine AnyQ.slices_SortFunc (P := P) (ρ := ρ) L k aE zE enc hk h1 (fun x y => c0 x.1.2 y.1.2) hswo g cv.toArray b 0 c d.toArray w heg ?_ hH2 hblk hsz62
   intro m os dk hs x y
   have q := hcall0 m os dk x y
   have hx : ∀ z : {p : List Value × α // Rep S (f p.2) p.1 ∧ p.2 ∈ l}, zZ (f z.1.2) (enc z) = .agg (enc z).toArray := by
    intro z
    have := hag z.1.2
    cases hz : f z.1.2 <;> simp [hz, A.isAgg] at this
    rfl
   rw [hx, hx] at q
   exact q
  | false =>
   have hk1' := hk1 rfl
   subst hk1'
   let e1 : {p : List Value × α // Rep S (f p.2) p.1 ∧ p.2 ∈ l} → Value := fun x => (enc x).headD undef
   have he : ∀ x, enc x = [e1 x] := by
    intro x
    obtain ⟨u, hu⟩ := List.length_eq_one_iff.1 (hk x)
    show enc x = [(enc x).headD undef]
    rw [hu]; rfl
   have hx : ∀ z : {p : List Value × α // Rep S (f p.2) p.1 ∧ p.2 ∈ l}, zZ (f z.1.2) (enc z) = e1 z := by
    intro z
    have := hag z.1.2
    cases hz : f z.1.2 <;> simp [hz, A.isAgg] at this <;> rfl
   refine (Any.slices_SortFunc (P := P) (ρ := ρ) { L with a24 := aE, z24 := zE } e1 (fun x => h1 x _ (by rw [he x]; simp)) (fun x y => c0 x.1.2 y.1.2) hswo g cv.toArray b 0 c d.toArray w heg ?_ (z2T he hH2) hblk hsz62).mono ?_
   ·intro m os dk hs x y
    have q := hcall0 m os dk x y
    rw [hx, hx] at q
    rw [z4T enc e1 he]
    exact q
   ·rintro e w' ⟨q1, d', n, os, q2, q3, q4⟩
    exact ⟨q1, d', n, os, q2, q3, by rw [q4, z4T enc e1 he]⟩
 have ea2 : (#[.slice (some ⟨b, 0, none⟩) l.length c, .func (.func g) #[] cv.toArray] : Array Value) = #[.slice (some ⟨b, 0, none⟩) d.toArray.size c, .func (.func g) #[] cv.toArray] := by simp only [List.size_toArray, hdl]
 rw [ea2]
 refine hcon.mono ?_
 rintro e w' ⟨rfl, d', n, os, hp, hs, rfl⟩
 have hds : d'.size = d.length := by simpa using hp.1
 have hperm : d'.toList.Perm d := by
  have := hp.2.2
  have e1 : d'.extract 0 d.toArray.size = d' := by rw [show d.toArray.size = d'.size by simp [hds]]; exact Array.extract_size
  rw [e1, Array.extract_size] at this
  simpa using this
 have hl' : d'.toList.map (fun p => p.1.2) = Jx c0 l := by
  refine KF hO ?_ ?_
  ·exact (hperm.map _).trans (List.Perm.of_eq g1)
  ·rw [List.pairwise_map, List.pairwise_iff_getElem]
   intro i j hi hj hij
   have hi' : i < d'.size := by simpa using hi
   have hj' : j < d'.size := by simpa using hj
   have := hs i j (Nat.zero_le _) hij (by simpa [hds] using hj')
   rw [getElem!_pos d' j hj', getElem!_pos d' i hi'] at this
   simpa [ltOf] using this
 have hat := z9d enc k w b n d' os e1
 have hFs : (Sort.flatK enc k d').size = l.length * k := hszF d' hds
 have hlen : (Jx c0 l).length = l.length := (Z7 c0 l).length_eq
 refine ⟨.tuple #[], rfl, S, [], [b], ⟨rfl, rfl, rfl, Nat.le_add_right _ _, by rw [z5R]; omega, ?_⟩, fun _ _ _ q => q, fun _ _ _ _ => rfl, hst _ _ _, .inl ⟨?_, rfl⟩, ⟨[b], [], rfl, .inr ⟨[.slice (some ⟨b, 0, none⟩) l.length c], ?_, by simp, rfl⟩, rfl⟩, by simp, by simp⟩
 ·intro j hj
  simp only [not_or, Nat.not_le, List.mem_cons, List.not_mem_nil, or_false] at hj
  exact z0J enc k w b n d' os hj.1 hj.2
 ·simp only [xx]; exact ⟨[], rfl, trivial⟩
 ·simp only [zO, List.length_map]
  refine ⟨some ⟨b, 0, none⟩, c, by rw [hlen], by rw [hlen]; exact t1, by rw [hlen]; exact t2, t3, ?_, .inr ⟨b, _, ty, (Sort.flatK enc k d').toList, [], rfl, hat, by rw [Jn]; exact e2, ?_, ?_, rfl, e5⟩⟩
  ·intro x hx
   obtain ⟨y, _, rfl⟩ := List.mem_map.1 hx
   exact hsz y
  ·rw [hlen, ← hFs]
   exact Jm (by rw [hFs]; exact hle)
  ·have := (Xc d'.toList).concs (sortWorldK enc k w b 0 n d' os).heap
   rw [hl'] at this
   rw [WK enc k hk]
   exact this
end Go.Own

namespace Go.Own
def qR (sz : Nat) (v : Value) (l : Int) : Value :=
 match v with
 | .slice a n c => .slice (if c = l.toNat then a else a.map (·.add (l.toNat * sz))) (n - l.toNat) (c - l.toNat)
 | v => v
theorem z4x {sz : Nat} {v : Value} {l : Int} (h : v.oneCell' = true) : (qR sz v l).oneCell' = true := by
 unfold qR
 split
 ·rfl
 ·exact h
section
variable {C : Ctx} {S : zl} {Fp : Nat → List Nat} {st : St} {a : Act} {w : World}
theorem z6f {r : Nat} {er ec : Nat} {u : Value} (ha : qo w.heap st (Act.tv a) r [] er ec u) {x0 : A} (hr : (st r).t = .own x0) (e1 : (st r).er = er) : u = Act.tv a r := by
 have a3 := ha.2.2
 simp only [hr] at a3
 simp [Yi] at a3
 exact a3 e1
theorem Jp (h : Sim C S Fp [] st a w) {r sz : Nat} {tg : Bool} {es : List A} (hr : (st r).t = .own (.osl sz tg es)) :
  ∃ p c, Act.tv a r = .slice p es.length c ∧ es.length ≤ c ∧ (∀ x ∈ es, x.size = sz) ∧ (0 < es.length → ∃ b, p = some ⟨b, 0, none⟩) := by
 have hq := h.ent r
 unfold yH at hq
 simp only [hr] at hq
 obtain ⟨cs, c1, c2, c3⟩ := hq
 simp only [zO] at c1
 obtain ⟨p, c, rfl, t1, t2, t3, t4, t5⟩ := c1
 refine ⟨p, c, by rw [c3]; rfl, t2, t4, fun hp => ?_⟩
 rcases t5 with ⟨rfl, _⟩ | ⟨b, arr, ty, l, F', rfl, _⟩
 ·simp at hp
 ·exact ⟨b, rfl⟩
open Classical in
noncomputable def vwK (tt : TT) (n : Fr) (dst : Option Nat) (ty r : Nat) (v : Value) (tx : T) (vl : A) (e : Ent) : SM Unit :=
 match vl with
 | .atom (.int _ j) =>
  if (tx = .als r [] e.er e.ec ∨ tx = .d (.atom v)) ∧ WD n.pin r = some v then
   match e.t with
   | .own (.osl sz _ es) => if xN tt ty = some sz ∧ 0 ≤ j ∧ j.toNat ≤ es.length then wrT n dst (.d (.atom (qR sz v j))) else zq
   | _ => zq
  else zq
 | _ => zq
noncomputable def vwO (tt : TT) (n : Fr) (dst : Option Nat) (ty r : Nat) (v : Value) (x lo : Operand) : SM Unit := do
 let tx ← opnd x
 let tl ← opnd lo
 let vl ← val tl
 let e ← rdE r
 vwK tt n dst ty r v tx vl e
noncomputable def vwH (tt : TT) (n : Fr) (dst : Option Nat) (ty r : Nat) (v : Value) (x lo : Operand) : HM Unit := yo (opnd x) >>= fun tx => yo (opnd lo) >>= fun tl => Q3 tl >>= fun vl => yo (rdE r) >>= fun e =>
 match vl with
 | .atom (.int _ j) => kU ((tx = .als r [] e.er e.ec ∨ tx = .d (.atom v)) ∧ WD n.pin r = some v)
   (match e.t with
   | .own (.osl sz _ es) => if xN tt ty = some sz then kU (0 ≤ j ∧ j.toNat ≤ es.length) (yo (wrT n dst (.d (.atom (qR sz v j))))) else zM
   | _ => zM)
 | _ => zM
open Classical in
theorem zaQ (tt : TT) (n : Fr) (dst : Option Nat) (ty r : Nat) (v : Value) (x lo : Operand) : Snd (vwO tt n dst ty r v x lo) (vwH tt n dst ty r v x lo) := by
 refine zj (zm _) fun tx => zj (zm _) fun tl => zj (Z1 _) fun vl => zj (zm _) fun e => ?_
 cases vl with
 | atom u =>
  cases u with
  | int k j =>
   refine qS ?_
   cases e.t with
   | own y =>
    cases y with
    | osl sz tg es => exact WQ (fun h1 h2 => ⟨h1, h2.1, h2.2⟩) (zm _)
    | _ => exact zo _
   | _ => exact zo _
  | _ => exact zo _
 | _ => exact zo _
open Classical in
theorem Loc.vwO (tt : TT) (n : Fr) (dst : Option Nat) (ty r : Nat) (v : Value) (x lo : Operand) : Loc (vwO tt n dst ty r v x lo) := by
 unfold Go.Own.vwO
 refine Loc.bind (Loc.opnd _) fun _ => Loc.bind (Loc.opnd _) fun _ => Loc.bind (Loc.val _) fun _ => Loc.bind (Loc.rdE _) fun _ => ?_
 unfold Go.Own.vwK
 split
 ·refine Loc.ite ?_ Loc.fail
  split
  ·exact Loc.ite (Loc.wrT _ _ _) Loc.fail
  ·exact Loc.fail
 ·exact Loc.fail
theorem z97 {P : Program} {tt : TT} (hT : vw P tt) (h : Sim C S Fp [] st a w) {o : Oper} {t r : Nat} {v : Value} {x lo : Operand} (ho : o.op = .slice t x (some lo) none none) {u : Unit} {R : List Nat} {U : List (Nat × Ent)} (e0 : vwO tt C.n o.dst t r v x lo st = some (u, R, U)) : uf P C o a w (zc U st) := by
 unfold vwO at e0
 obtain ⟨tx, R1, U1, R2, U2, h1, e1, rfl, rfl⟩ := bind_some e0
 obtain ⟨rfl, hx⟩ := zP h h1
 obtain ⟨tl, R3, U3, R4, U4, h3, e2, rfl, rfl⟩ := bind_some e1
 obtain ⟨rfl, hl⟩ := zP h h3
 obtain ⟨vl, R5, U5, R6, U6, h5, e3, rfl, rfl⟩ := bind_some e2
 obtain ⟨rfl, ql⟩ := uC h hl h5
 obtain ⟨en, R7, U7, R8, U8, h7, e4, rfl, rfl⟩ := bind_some e3
 obtain ⟨rfl, rfl, rfl⟩ := ym h7
 simp only [zc, List.nil_append] at e4 ⊢
 unfold vwK at e4
 split at e4
 ·rename_i k j
  split at e4
  ·rename_i hc
   obtain ⟨c1, c2⟩ := hc
   have hs := h.pin r v (ua c2)
   cases ht : (st r).t with
   | own y =>
    cases y with
    | osl sz tg es =>
     simp only [ht] at e4
     split at e4
     ·rename_i hd
      obtain ⟨d1, d2, d3⟩ := hd
      obtain ⟨p, c, ev, hlc, _, _⟩ := Jp h ht
      have hxv : a.eval x = .slice p es.length c := by
       rcases c1 with rfl | rfl
       ·rw [← ev]; exact z6f hx ht rfl
       ·rw [(zy.1 hx).1, ← hs, ev]
      obtain ⟨el, he, hsz⟩ := vn hT d1 w
      obtain ⟨el', _⟩ := zy.1 ql
      have hrun := jT (P := P) (w := w) he hsz (p := p) (len := es.length) (c := c) (m := c) (lo := some (.int k j)) (hi := none) (mx := none) (.inr ⟨k, j, rfl, d2, rfl⟩) (.inl ⟨rfl, rfl⟩) (.inl ⟨rfl, rfl⟩) d3 hlc (Nat.le_refl c) (by simp)
      have hvv : v = .slice p es.length c := by rw [← hs, ev]
      obtain ⟨Fp', hs'⟩ := wz h e4 (x := .d (.atom (qR sz v j))) (v := qR sz v j) (zy.2 ⟨rfl, by rw [hvv]; exact z4x rfl⟩)
      refine zt ?_ hs'
      rw [hvv]
      simp [execOp, ho, hxv, el', hrun, qR]
     ·exact (z8 e4).elim
    | _ => simp only [ht] at e4; exact (z8 e4).elim
   | _ => simp only [ht] at e4; exact (z8 e4).elim
  ·exact (z8 e4).elim
 ·exact (z8 e4).elim
open Classical in
noncomputable def vlO (n : Fr) (dst : Option Nat) (sz r : Nat) (v : Value) (l : Int) (x : Operand) : SM Unit := do
 let tx ← opnd x
 let e ← rdE r
 if tx = .d (.atom (qR sz v l)) ∧ WD n.pin r = some v then
  match e.t with
  | .own (.osl _ _ es) => wrT n dst (.d (.atom (.int .i64 ((es.length - l.toNat : Nat) : Int))))
  | _ => zq
 else zq
noncomputable def vlH (n : Fr) (dst : Option Nat) (sz r : Nat) (v : Value) (l : Int) (x : Operand) : HM Unit := yo (opnd x) >>= fun tx => yo (rdE r) >>= fun e => kU (tx = .d (.atom (qR sz v l)) ∧ WD n.pin r = some v)
  (match e.t with
  | .own (.osl _ _ es) => eqA (.atom (.int .i64 ((es.length - l.toNat : Nat) : Int))) >>= fun y => yo (wrT n dst (.d y))
  | _ => zM)
open Classical in
theorem zaR (n : Fr) (dst : Option Nat) (sz r : Nat) (v : Value) (l : Int) (x : Operand) : Snd (vlO n dst sz r v l x) (vlH n dst sz r v l x) := by
 refine zj (zm _) fun tx => zj (zm _) fun e => qS ?_
 cases e.t with
 | own y =>
  cases y with
  | osl sz tg es => exact Yu (y7 _ fun y => wrT n dst (.d y)).symm (zj (Kg _) fun _ => zm _)
  | _ => exact zo _
 | _ => exact zo _
open Classical in
theorem Loc.vlO (n : Fr) (dst : Option Nat) (sz r : Nat) (v : Value) (l : Int) (x : Operand) : Loc (vlO n dst sz r v l x) := by
 unfold Go.Own.vlO
 refine Loc.bind (Loc.opnd _) fun _ => Loc.bind (Loc.rdE _) fun _ => Loc.ite ?_ Loc.fail
 split
 ·exact Loc.wrT _ _ _
 ·exact Loc.fail
theorem z98 {P : Program} {tt : TT} (hT : vw P tt) (h : Sim C S Fp [] st a w) {o : Oper} {t sz r : Nat} {v : Value} {l : Int} {x : Operand} (hty : qQ tt t = true) (ho : o.op = .call ⟨.builtin .len, ⟨[x]⟩, ⟨[t]⟩⟩) {u : Unit} {R : List Nat} {U : List (Nat × Ent)} (e0 : vlO C.n o.dst sz r v l x st = some (u, R, U)) : uf P C o a w (zc U st) := by
 unfold vlO at e0
 obtain ⟨tx, R1, U1, R2, U2, h1, e1, rfl, rfl⟩ := bind_some e0
 obtain ⟨rfl, hx⟩ := zP h h1
 obtain ⟨en, R7, U7, R8, U8, h7, e4, rfl, rfl⟩ := bind_some e1
 obtain ⟨rfl, rfl, rfl⟩ := ym h7
 simp only [zc, List.nil_append] at e4 ⊢
 split at e4
 ·rename_i hc
  obtain ⟨rfl, c2⟩ := hc
  have hs := h.pin r v (ua c2)
  cases ht : (st r).t with
  | own y =>
   cases y with
   | osl sz' tg es =>
    simp only [ht] at e4
    obtain ⟨p, c, ev, hlc, _, _⟩ := Jp h ht
    have hxv := (zy.1 hx).1
    have hvv : v = .slice p es.length c := by rw [← hs, ev]
    obtain ⟨el, he⟩ := ZA hT hty
    obtain ⟨Fp', hs'⟩ := wz h e4 (x := .d (.atom (.int .i64 ((es.length - l.toNat : Nat) : Int)))) (zy.2 ⟨rfl, rfl⟩)
    refine zt ?_ hs'
    have ex : a.eval x = .slice (if c = l.toNat then p else p.map (·.add (l.toNat * sz))) (es.length - l.toNat) (c - l.toNat) := by rw [hxv, hvv]; rfl
    simp [execOp, ho, resolve, invoke, builtin, Builtin.len_, run_underlying he, ex, goInt]
   | _ => simp only [ht] at e4; exact (z8 e4).elim
  | _ => simp only [ht] at e4; exact (z8 e4).elim
 ·exact (z8 e4).elim
open Classical in
noncomputable def viO (tt : TT) (n : Fr) (dst : Option Nat) (ty sz r : Nat) (v : Value) (l : Int) (x i : Operand) : SM Unit := do
 let tx ← opnd x
 let ti ← opnd i
 let vi ← val ti
 let e ← rdE r
 match vi with
 | .atom (.int _ j) =>
  if tx = .d (.atom (qR sz v l)) ∧ WD n.pin r = some v then
   match e.t with
   | .own (.osl sz' _ es) => if xN tt ty = some sz ∧ sz' = sz ∧ 0 ≤ l ∧ 0 ≤ j ∧ (l + j).toNat < es.length then wrT n dst (.ptr r [.idx (l + j).toNat] e.er e.ec) else zq
   | _ => zq
  else zq
 | _ => zq
noncomputable def viH (tt : TT) (n : Fr) (dst : Option Nat) (ty sz r : Nat) (v : Value) (l : Int) (x i : Operand) : HM Unit := yo (opnd x) >>= fun tx => yo (opnd i) >>= fun ti => Q3 ti >>= fun vi => yo (rdE r) >>= fun e =>
 match vi with
 | .atom (.int _ j) => kU (tx = .d (.atom (qR sz v l)) ∧ WD n.pin r = some v)
   (match e.t with
   | .own (.osl sz' _ es) => if xN tt ty = some sz ∧ sz' = sz then kU (0 ≤ l ∧ 0 ≤ j ∧ (l + j).toNat < es.length) (yo (wrT n dst (.ptr r [.idx (l + j).toNat] e.er e.ec))) else zM
   | _ => zM)
 | _ => zM
open Classical in
theorem zaS (tt : TT) (n : Fr) (dst : Option Nat) (ty sz r : Nat) (v : Value) (l : Int) (x i : Operand) : Snd (viO tt n dst ty sz r v l x i) (viH tt n dst ty sz r v l x i) := by
 refine zj (zm _) fun tx => zj (zm _) fun ti => zj (Z1 _) fun vi => zj (zm _) fun e => ?_
 cases vi with
 | atom u =>
  cases u with
  | int k j =>
   refine qS ?_
   cases e.t with
   | own y =>
    cases y with
    | osl sz' tg es => exact WQ (fun h1 h2 => ⟨h1.1, h1.2, h2.1, h2.2.1, h2.2.2⟩) (zm _)
    | _ => exact zo _
   | _ => exact zo _
  | _ => exact zo _
 | _ => exact zo _
open Classical in
theorem Loc.viO (tt : TT) (n : Fr) (dst : Option Nat) (ty sz r : Nat) (v : Value) (l : Int) (x i : Operand) : Loc (viO tt n dst ty sz r v l x i) := by
 unfold Go.Own.viO
 refine Loc.bind (Loc.opnd _) fun _ => Loc.bind (Loc.opnd _) fun _ => Loc.bind (Loc.val _) fun _ => Loc.bind (Loc.rdE _) fun _ => ?_
 split
 ·refine Loc.ite ?_ Loc.fail
  split
  ·exact Loc.ite (Loc.wrT _ _ _) Loc.fail
  ·exact Loc.fail
 ·exact Loc.fail
theorem z99 {P : Program} {tt : TT} (hT : vw P tt) (h : Sim C S Fp [] st a w) {o : Oper} {t sz r : Nat} {v : Value} {l : Int} {x i : Operand} (ho : o.op = .indexAddr t x i) {u : Unit} {R : List Nat} {U : List (Nat × Ent)} (e0 : viO tt C.n o.dst t sz r v l x i st = some (u, R, U)) : uf P C o a w (zc U st) := by
 unfold viO at e0
 obtain ⟨tx, R1, U1, R2, U2, h1, e1, rfl, rfl⟩ := bind_some e0
 obtain ⟨rfl, hx⟩ := zP h h1
 obtain ⟨ti, R3, U3, R4, U4, h3, e2, rfl, rfl⟩ := bind_some e1
 obtain ⟨rfl, hi⟩ := zP h h3
 obtain ⟨vi, R5, U5, R6, U6, h5, e3, rfl, rfl⟩ := bind_some e2
 obtain ⟨rfl, qi⟩ := uC h hi h5
 obtain ⟨en, R7, U7, R8, U8, h7, e4, rfl, rfl⟩ := bind_some e3
 obtain ⟨rfl, rfl, rfl⟩ := ym h7
 simp only [zc, List.nil_append] at e4 ⊢
 split at e4
 ·rename_i k j
  split at e4
  ·rename_i hc
   obtain ⟨rfl, c2⟩ := hc
   have hs := h.pin r v (ua c2)
   cases ht : (st r).t with
   | own y =>
    cases y with
    | osl sz' tg es =>
     simp only [ht] at e4
     split at e4
     ·rename_i hd
      obtain ⟨d1, rfl, d3, d4, d5⟩ := hd
      have hals : qo w.heap st (Act.tv a) r [] (st r).er (st r).ec (Act.tv a r) := by
       refine ⟨Nat.le_refl _, Nat.le_refl _, ?_⟩
       simp [ht]
      obtain ⟨b, c, ev, hp⟩ := z3q h hals ht rfl (.inl rfl) rfl d5
      obtain ⟨e', he, hsz⟩ := vn hT d1 w
      have hp' : TOk S w.heap st (Act.tv a) (T.ptr r [ji.idx (l + j).toNat] (st r).er (st r).ec) (.pointer (some ⟨b, (l + j).toNat * sz', none⟩)) := hp
      obtain ⟨Fp', hs'⟩ := wz h e4 hp'
      obtain ⟨ei, _⟩ := zy.1 qi
      have hvv : v = .slice (some ⟨b, 0, none⟩) es.length c := by rw [← hs, ev]
      obtain ⟨p2, c2', ev2, hlc, _, _⟩ := Jp h ht
      have hcc : es.length ≤ c := by
       rw [ev] at ev2
       simp only [Value.slice.injEq] at ev2
       rw [ev2.2.2]; exact hlc
      have hxv : a.eval x = .slice (some ⟨b, l.toNat * sz', none⟩) (es.length - l.toNat) (c - l.toNat) := by
       rw [(zy.1 hx).1, hvv]
       have : ¬ c = l.toNat := by omega
       simp [qR, this, Addr.add_lit]
      have hsum : (l + j).toNat = l.toNat + j.toNat := by omega
      refine zt ?_ hs'
      have hrun := YJ (P := P) (b := b) (o := l.toNat * sz') (n := es.length - l.toNat) (c := c - l.toNat) (k := k) he hsz d4 (by omega)
      have hoff : l.toNat * sz' + j.toNat * sz' = (l + j).toNat * sz' := by rw [hsum, Nat.add_mul]
      rw [hoff] at hrun
      simp [execOp, ho, ei, hxv, hrun]
     ·exact (z8 e4).elim
    | _ => simp only [ht] at e4; exact (z8 e4).elim
   | _ => simp only [ht] at e4; exact (z8 e4).elim
  ·exact (z8 e4).elim
 ·exact (z8 e4).elim
end
end Go.Own

namespace Go.Own
def z04 (i : TI) : Option A :=
 match i.zero with
 | some z => if z.live = true then some z.shut.loose else none
 | none => none
theorem z1E {i : TI} {z' : A} (h : z04 i = some z') : ∃ z, i.zero = some z ∧ z.live = true ∧ z' = z.shut.loose := by
 unfold z04 at h
 split at h
 ·rename_i z hz
  split at h
  ·rename_i hl; cases h; exact ⟨z, hz, hl, rfl⟩
  ·cases h
 ·cases h
theorem UW (z : Array Value) (n : Nat) : (Builtin.zeroCells z n).toList = (List.replicate n z.toList).flatten := by
 apply List.ext_getElem?
 intro k
 rw [Jy, Array.length_toList]
 simp only [Builtin.zeroCells, Array.toList_map, Array.toList_range, List.getElem?_map]
 by_cases hk : k < n * z.size
 ·rw [if_pos hk, List.getElem?_range hk, Option.map_some]
  have hz : 0 < z.size := by
   rcases Nat.eq_zero_or_pos z.size with h0 | h0
   ·rw [h0] at hk; simp at hk
   ·exact h0
  have hmod : k % z.size < z.size := Nat.mod_lt _ hz
  rw [Array.getElem?_toList, Array.getElem?_eq_getElem hmod, getElem!_pos z _ hmod]
 ·rw [if_neg hk, List.getElem?_eq_none (by simpa using hk), Option.map_none]
theorem z54 {S : zl} {sz : Nat} : ∀ {xs : List A} {cs : List Value} (_ : yj S xs cs) (_ : ∀ x ∈ xs, x.size = sz) (l : Nat), yj S (xs.take l) (cs.take (l * sz))
 | [], cs, h, _, l => by simp only [yj] at h; subst h; simp [yj]
 | x :: xs, cs, h, hs, 0 => by simp [yj]
 | x :: xs, cs, h, hs, l + 1 => by
  simp only [yj] at h
  obtain ⟨c1, c2, rfl, h1, h2⟩ := h
  have hl : c1.length = sz := by rw [h1.len]; exact hs x (by simp)
  rw [List.take_succ_cons, Nat.succ_mul, Nat.add_comm, ← hl, List.take_length_add_append]
  simp only [yj]
  rw [hl]
  exact ⟨c1, _, rfl, h1, z54 h2 (fun y hy => hs y (by simp [hy])) l⟩
theorem z2z {arr : Array Value} {o : Nat} {zs : List Value} (h : o + zs.length ≤ arr.size) : (ZL arr o zs).toList.take (o + zs.length) = arr.toList.take o ++ zs := by
 rw [← ur h]
 have h1 : (arr.toList.take o).length = o := by simp; omega
 simp only []
 rw [show o + zs.length = (arr.toList.take o ++ zs).length by simp; omega, List.take_left]
section
variable {C : Ctx} {S : zl} {Fp : Nat → List Nat} {st : St} {a : Act} {w : World}
def vcK (tt : TT) (n : Fr) (dst : Option Nat) (ty sz r : Nat) (l : Int) (e : Ent) : SM Unit :=
 match e.t with
 | .own (.osl sz' tg es) =>
  match tt ty with
  | some ⟨.slice el, _, _, _, _⟩ =>
   match tt el with
   | some i =>
    match z04 i with
    | some z => if sz' = sz ∧ i.size = sz ∧ 0 ≤ l ∧ l.toNat ≤ es.length ∧ A.areD es = true then
      wrE r ⟨.own (.osl sz tg (es.take l.toNat ++ List.replicate (es.length - l.toNat) z)), e.er, e.ec + 1⟩ >>= fun _ => wrT n dst (.d (.tup []))
     else zq
    | none => zq
   | none => zq
  | _ => zq
 | _ => zq
open Classical in
noncomputable def vcO (tt : TT) (n : Fr) (dst : Option Nat) (ty sz r : Nat) (v : Value) (l : Int) (x : Operand) : SM Unit := do
 let tx ← opnd x
 let e ← rdE r
 if tx = .d (.atom (qR sz v l)) ∧ WD n.pin r = some v then vcK tt n dst ty sz r l e else zq
noncomputable def vcH (tt : TT) (n : Fr) (dst : Option Nat) (ty sz r : Nat) (v : Value) (l : Int) (x : Operand) : HM Unit := yo (opnd x) >>= fun tx => yo (rdE r) >>= fun e => kU (tx = .d (.atom (qR sz v l)) ∧ WD n.pin r = some v)
  (match e.t with
  | .own (.osl sz' tg es) =>
   match tt ty with
   | some ⟨.slice el, _, _, _, _⟩ =>
    match tt el with
    | some i =>
     match z04 i with
     | some z => if sz' = sz ∧ i.size = sz then kU (0 ≤ l ∧ l.toNat ≤ es.length ∧ A.areD es = true)
       (eqL (es.take l.toNat ++ List.replicate (es.length - l.toNat) z) >>= fun zs => yo (wrE r ⟨.own (.osl sz tg zs), e.er, e.ec + 1⟩ >>= fun _ => wrT n dst (.d (.tup []))))
      else zM
     | none => zM
    | none => zM
   | _ => zM
  | _ => zM)
open Classical in
theorem zaT (tt : TT) (n : Fr) (dst : Option Nat) (ty sz r : Nat) (v : Value) (l : Int) (x : Operand) : Snd (vcO tt n dst ty sz r v l x) (vcH tt n dst ty sz r v l x) := by
 refine zj (zm _) fun tx => zj (zm _) fun e => qS ?_
 unfold vcK
 cases e.t with
 | own y =>
  cases y with
  | osl sz' tg es =>
   dsimp only
   generalize tt ty = q
   rcases q with _ | ⟨k, a1, a2, a3, a4⟩
   ·exact zo _
   ·cases k with
    | slice el =>
     dsimp only
     generalize tt el = q
     cases q with
     | none => exact zo _
     | some i =>
      dsimp only
      cases z04 i with
      | none => exact zo _
      | some z =>
       refine WQ (fun h1 h2 => ⟨h1.1, h1.2, h2.1, h2.2.1, h2.2.2⟩) ?_
       exact Yu (y7 _ fun zs => wrE r ⟨.own (.osl sz tg zs), e.er, e.ec + 1⟩ >>= fun _ => wrT n dst (.d (.tup []))).symm (zj (z0i _) fun _ => zm _)
    | _ => exact zo _
  | _ => exact zo _
 | _ => exact zo _
open Classical in
theorem Loc.vcO (tt : TT) (n : Fr) (dst : Option Nat) (ty sz r : Nat) (v : Value) (l : Int) (x : Operand) : Loc (vcO tt n dst ty sz r v l x) := by
 unfold Go.Own.vcO
 refine Loc.bind (Loc.opnd _) fun _ => Loc.bind (Loc.rdE _) fun _ => Loc.ite ?_ Loc.fail
 unfold Go.Own.vcK
 split
 ·split
  ·split
   ·split
    ·exact Loc.ite (Loc.bind (Loc.wrE _ _) fun _ => Loc.wrT _ _ _) Loc.fail
    ·exact Loc.fail
   ·exact Loc.fail
  ·exact Loc.fail
 ·exact Loc.fail
theorem z9a {P : Program} {tt : TT} (hT : vw P tt) (h : Sim C S Fp [] st a w) {o : Oper} {t sz r : Nat} {v : Value} {l : Int} {x : Operand} (ho : o.op = .call ⟨.builtin .clear, ⟨[x]⟩, ⟨[t]⟩⟩) {u : Unit} {R : List Nat} {U : List (Nat × Ent)} (e0 : vcO tt C.n o.dst t sz r v l x st = some (u, R, U)) : uf P C o a w (zc U st) := by
  unfold vcO at e0
  obtain ⟨tx, R1, U1, R2, U2, h1, e1, rfl, rfl⟩ := bind_some e0
  obtain ⟨rfl, hx⟩ := zP h h1
  obtain ⟨en, R7, U7, R8, U8, h7, e4, rfl, rfl⟩ := bind_some e1
  obtain ⟨rfl, rfl, rfl⟩ := ym h7
  simp only [zc, List.nil_append] at e4 ⊢
  split at e4
  · rename_i hc
    obtain ⟨rfl, c2⟩ := hc
    have hs := h.pin r v (ua c2)
    unfold vcK at e4
    cases ht : (st r).t with
    | own y =>
     cases y with
     | osl sz' tg es =>
      simp only [ht] at e4
      obtain ⟨el, a1, a2, a3, a4, hty⟩ : ∃ el a1 a2 a3 a4, tt t = some ⟨.slice el, a1, a2, a3, a4⟩ := by
        cases hq : tt t with
        | none => simp only [hq] at e4; exact (z8 e4).elim
        | some it =>
          obtain ⟨k, a1, a2, a3, a4⟩ := it
          cases k with
          | slice el => exact ⟨el, a1, a2, a3, a4, rfl⟩
          | _ => simp only [hq] at e4; exact (z8 e4).elim
      simp only [hty] at e4
      obtain ⟨i, hi⟩ : ∃ i, tt el = some i := by
        cases hq : tt el with
        | none => simp only [hq] at e4; exact (z8 e4).elim
        | some i => exact ⟨i, rfl⟩
      simp only [hi] at e4
      obtain ⟨z', hz'⟩ : ∃ z', z04 i = some z' := by
        cases hq : z04 i with
        | none => simp only [hq] at e4; exact (z8 e4).elim
        | some i => exact ⟨i, rfl⟩
      simp only [hz'] at e4
      have hel : P.underlying t = some (.slice el) := (hT _ _ hty).kind
      · · split at e4
          · rename_i hd
            obtain ⟨rfl, d2, d3, d4, d5⟩ := hd
            obtain ⟨z, hz, hlv, rfl⟩ := z1E hz'
            obtain ⟨f, f1, f2, f3, f4⟩ := (hT _ _ hi).info
            obtain ⟨zv, v1, v2, v3⟩ := f4 z hz
            have hzr : Rep S z.shut.loose zv.cells.toList := ((v3 S w.heap).shut (fun _ _ _ q => q) hlv (by simp)).loose
            have hzl : zv.cells.toList.length = sz' := by rw [((v3 S w.heap).shut (S' := S) (fun _ _ _ q => q) hlv (by simp)).len, A.size_shut, v2, d2]
            have hq := h.ent r
            unfold yH at hq
            simp only [ht] at hq
            obtain ⟨cs, c1, c3, c4⟩ := hq
            simp only [zO] at c1
            obtain ⟨p, c, rfl, t1, t2, t3, t4, t5⟩ := c1
            have ev : Act.tv a r = .slice p es.length c := c4
            have hvv : v = .slice p es.length c := by rw [← hs, ev]
            have hxv := (zy.1 hx).1
            rw [hvv] at hxv
            obtain ⟨y1, R9, U9, R10, U10, h9, e5, rfl, rfl⟩ := bind_some e4
            obtain ⟨rfl, rfl⟩ := wa h9
            have hlen : (es.take l.toNat ++ List.replicate (es.length - l.toNat) z.shut.loose).length = es.length := by simp; omega
            have hsz : ∀ y ∈ es.take l.toNat ++ List.replicate (es.length - l.toNat) z.shut.loose, y.size = sz' := by
              intro y hy
              rcases List.mem_append.1 hy with q | q
              · exact t4 y (List.mem_of_mem_take q)
              · rw [List.eq_of_mem_replicate q, ← hzr.len, hzl]
            have hreps : ∀ n, yj S (List.replicate n z.shut.loose) (List.replicate n zv.cells.toList).flatten := by
              intro n
              induction n with
              | zero => simp [yj]
              | succ n ih => simp only [List.replicate_succ, List.flatten_cons, yj]; exact ⟨_, _, rfl, hzr, ih⟩
            obtain ⟨w', F', hrun, hkept, hst, hfr, hconc, hF'⟩ : ∃ w' F', (Builtin.clear_ #[t] o.type #[a.eval x]).run P w = .ok (.tuple #[]) w' ∧ kW C.M w w' ∧ (∀ b o u, S b o = some u → yi w'.heap b o = some u) ∧ (∀ k, k ∉ Fp r → w'.heap[k]? = w.heap[k]?) ∧
                zO S w'.heap (.osl sz' tg (es.take l.toNat ++ List.replicate (es.length - l.toNat) z.shut.loose)) [.slice p es.length c] F' ∧ F' = Fp r := by
              by_cases hn : es.length - l.toNat = 0
              · refine ⟨w, Fp r, ?_, kW.refl _ _, h.still, fun _ _ => rfl, ?_, rfl⟩
                · rw [hxv]
                  simp only [qR]
                  rw [hn]
                  cases hp : (if c = l.toNat then p else p.map (·.add (l.toNat * sz'))) with
                  | none => simp [Builtin.clear_, run_underlying hel]
                  | some _ => simp [Builtin.clear_, run_underlying hel]
                · have : es.take l.toNat ++ List.replicate (es.length - l.toNat) z.shut.loose = es := by rw [hn, List.replicate_zero, List.append_nil, List.take_of_length_le (by omega)]
                  rw [this]
                  simp only [zO]
                  exact ⟨p, c, rfl, t1, t2, t3, t4, t5⟩
              · rcases t5 with ⟨rfl, _⟩ | ⟨b, arr, ty, cl, F1, rfl, k1, k2, k3, k4, k5, k6⟩
                · simp at hn
                obtain ⟨hr, rfl⟩ := k4.areD d5
                let zs := (List.replicate (es.length - l.toNat) zv.cells.toList).flatten
                have hzs : zs.length = (es.length - l.toNat) * sz' := by
                  show (List.replicate _ _).flatten.length = _
                  rw [List.length_flatten]
                  simp [hzl]
                have hfit : l.toNat * sz' + zs.length ≤ arr.size := by
                  rw [hzs, ← Nat.add_mul]
                  refine Nat.le_trans (Nat.mul_le_mul_right _ ?_) k2
                  omega
                let w' := w.setRow b (ZL arr (l.toNat * sz') zs)
                have hheap : ∀ k, k ≠ b → w'.heap[k]? = w.heap[k]? := fun k hk => setRow_other w b k _ hk
                have hheapb : w'.heap[b]? = some (.cells (ZL arr (l.toNat * sz') zs) ty (0, 0)) := setRow_heap w b arr _ ty (0, 0) k1
                have hb : b ∈ Fp r := by rw [k5]; simp
                have h1c : ∀ u ∈ zs, u.oneCell' = true := by
                  intro u hu
                  obtain ⟨m, hm, hu⟩ := List.mem_flatten.1 hu
                  rw [List.eq_of_mem_replicate hm] at hu
                  exact hzr.one u hu
                refine ⟨w', Fp r, ?_, ⟨rfl, rfl, rfl, Nat.le_refl _, by simp [w'], fun k hk => hheap k (fun e => hk (e ▸ h.base r b hb))⟩, ?_, fun k hk => hheap k (fun e => hk (e ▸ hb)), ?_, rfl⟩
                · have hst := run_storeCells_at P b (l.toNat * sz') ty zs 0 arr w k1 (by simpa using hfit) h1c
                  simp only [Nat.add_zero] at hst
                  rw [ur hfit] at hst
                  have hz0 : (zeroValue el).run P w = .ok zv w := by simp [zeroValue, typeInfo, f1, v1]
                  rw [hxv]
                  have hcl : ¬ c = l.toNat := by omega
                  simp only [qR, if_neg hcl, Option.map_some, Addr.add_lit, Nat.zero_add]
                  obtain ⟨m, hm⟩ : ∃ m, es.length - l.toNat = m + 1 := ⟨es.length - l.toNat - 1, by omega⟩
                  have hzc : (Builtin.zeroCells zv.cells (m + 1)).toList = zs := by rw [UW, ← hm]
                  rw [hm]
                  simp [Builtin.clear_, run_underlying hel, hz0, hzc, hst, w']
                · intro b' o'' u hu
                  have hne : b' ≠ b := by rintro rfl; rw [k6] at hu; cases hu
                  rw [x5 (h := w.heap) (h' := w'.heap) (hheap b' hne)]
                  exact h.still b' o'' u hu
                · simp only [zO, hlen]
                  refine ⟨_, c, rfl, t1, t2, t3, hsz, .inr ⟨b, _, ty, _, [], rfl, hheapb, by simpa using k2, rfl, ?_, k5, k6⟩⟩
                  have e1 : es.length * sz' = l.toNat * sz' + zs.length := by rw [hzs, ← Nat.add_mul]; congr 1; omega
                  rw [e1, z2z hfit]
                  have e2 : arr.toList.take (l.toNat * sz') = cl.take (l.toNat * sz') := by
                    rw [← k3, List.take_take, Nat.min_eq_left (Nat.mul_le_mul_right _ d4)]
                  rw [e2]
                  exact ((z54 hr t4 _).append (hreps _)).concs _
            subst hF'
            have hs1 : Sim C S (kY Fp r (Fp r)) [] (upd st r ⟨.own (.osl sz' tg (es.take l.toNat ++ List.replicate (es.length - l.toNat) z.shut.loose)), (st r).er, (st r).ec + 1⟩) a w' := by
              refine h.change r (.own _) _ _ (Fp r) (h.below.trans hkept) (fun _ _ _ q => q) hst h.sbase ?_ ⟨⟨_, hconc, c3, by rw [ev]; simp [zZ]⟩, _, ht⟩ (.inl ⟨_, ht⟩) (Nat.le_refl _) (Nat.lt_succ_self _) ?_ ?_ (by simp) (by simp) (by simp) (by simp)
              · intro t' k htr hk
                exact ⟨hfr k (fun q => htr (h.disj t' r k hk q)), (h.free t' k hk).2.1⟩
              · intro t' k htr hk hk'
                exact htr (h.disj t' r k hk' hk)
              · intro k hk
                exact h.base r k hk
            rw [zw]
            simp only [zc] at e5 ⊢
            obtain ⟨Fp', hs'⟩ := wz hs1 e5 (x := .d (.tup [])) (v := .tuple #[]) (by simp only [TOk, xx]; exact ⟨[], rfl, trivial⟩)
            refine zt ?_ hs'
            simp [execOp, ho, resolve, invoke, builtin, hrun]
          · exact (z8 e4).elim
     | _ => simp only [ht] at e4; exact (z8 e4).elim
    | _ => simp only [ht] at e4; exact (z8 e4).elim
  · exact (z8 e4).elim
end
end Go.Own
