/- -/
import Derived.Test.YtiddgdfbhmmccaaPartA
import Derived.Deep.LoopGhost
import Derived.Sort.LoopGhostIn
import Derived.RangeFuncLeaves
import Derived.RangeFuncRecord
import Derived.IntWalk
import Derived.RangeFuncCalls
set_option linter.unusedVariables false
set_option linter.unusedSimpArgs false
namespace Go.Own
variable {P : Program}{U : List (Nat × Ent)}{tt : TT}{R : List Nat}{o : Oper}{u : Unit}{sz : Nat}{cs : List Value}{p : Option Addr}{t : Nat}{xs : List A}
section
variable {C : Ctx} {S : z8} {Fp : Nat → List Nat} {X : List Nat} {st : St} {a : Act} {w : World}
theorem UN {S : z8} : ∀ {xs ys : List A} {cs : List Value}, zV S (xs ++ ys) cs → ∃ c1 c2, cs = c1 ++ c2 ∧ zV S xs c1 ∧ zV S ys c2
 | [], ys, cs, h => ⟨[], cs, rfl, by simp [zV], h⟩
 | x :: xs, ys, cs, h => by
  simp [List.cons_append, zV] at h
  obtain ⟨c1, c2, rfl, h1, h2⟩ := h
  obtain ⟨d1, d2, rfl, e1, e2⟩ := UN h2
  refine ⟨c1 ++ d1, d2, by simp, ?_, e2⟩
  simp [zV]
  exact ⟨c1, d1, rfl, h1, e1⟩
theorem z4g {S : z8}   {sz : Nat} (h : zV S xs cs) (hs : ∀ x ∈ xs, x.size = sz) {l k : Nat} (hl : l ≤ xs.length) : ∃ ds, zV S ((xs.drop l).take k) ds ∧ ∀ j v, ds[j]? = some v → cs[l * sz + j]? = some v := by
 rw [← List.take_append_drop l xs] at h
 obtain ⟨c1, c2, rfl, h1, h2⟩ := UN h
 rw [← List.take_append_drop k (xs.drop l)] at h2
 obtain ⟨d1, d2, rfl, e1, e2⟩ := UN h2
 refine ⟨d1, e1, fun j v hj => ?_⟩
 have hc1 : c1.length = l * sz := by rw [h1.len, A.sizes_const (sz := sz) (fun x hx => hs x (List.mem_of_mem_take hx)), List.length_take, Nat.min_eq_left hl]
 rw [← hc1, List.getElem?_append_right (by omega), Nat.add_sub_cancel_left, List.getElem?_append_left (List.getElem?_eq_some_iff.1 hj).1]
 exact hj
def bound (dflt : Nat) : Option Operand → SM Nat
 | none => pure dflt
 | some x => do
  let t ← opnd x
  let v ← val t
  match v with
  | .atom (.int _ j) => if 0 ≤ j then pure j.toNat else zm
  | _ => zm
theorem Qe (h : Sim C S Fp X st a w) {dflt n : Nat} {x : Option Operand}   (e : bound dflt x st = some (n, R, U)) :
  U = [] ∧ ((x = none ∧ n = dflt) ∨ ∃ o k j, x = some o ∧ a.eval o = .int k j ∧ 0 ≤ j ∧ n = j.toNat) := by
 cases x with
 | none =>
  cases e
  exact ⟨rfl, .inl ⟨rfl, rfl⟩⟩
 | some o =>
  simp [bound] at e
  have ⟨t, _, hx, e1⟩ := bR (zK h) e
  have ⟨v, _, qv, e2⟩ := bR (ub h hx) e1
  cases v with
  | atom vv =>
   cases vv with
   | int k j =>
    simp only at e2
    split at e2
    ·rename_i hj
     cases e2
     exact ⟨rfl, .inr ⟨o, k, j, rfl, (zw.1 qv).1, hj, rfl⟩⟩
    ·cases e2
   | _ => cases e2
  | _ => cases e2
def Va (x : Option Value) (dflt n : Nat) : Prop := (x = none ∧ n = dflt) ∨ ∃ k j, x = some (.int k j) ∧ 0 ≤ j ∧ n = j.toNat
theorem z25 {w : World} {k : IntKind} {j : Int} {y : Nat} {code : BoundsCode} (h0 : 0 ≤ j) (h1 : j.toNat ≤ y) : (Instr.sliceBound (.int k j) y code).run P w = .ok j.toNat w := by
 have : 0 ≤ j ∧ j ≤ (y : Int) := ⟨h0, by omega⟩
 simp [Instr.sliceBound, asIntOf, this]
theorem Wq {t e : Nat}  {w : World} (he : P.underlying t = some (.slice e)) (hsz : (sizeOf e).run P w = .ok sz w) {p : Option Addr} {len c : Nat} {lo hi mx : Option Value} {l h m : Nat}
  (b1 : Va lo 0 l) (b2 : Va hi len h) (b3 : Va mx c m) (h1 : l ≤ h) (h2 : h ≤ m) (h3 : m ≤ c) (hm : mx.isSome = true → hi.isSome = true) :
  (Instr.sliceAt t (.slice p len c) lo hi mx).run P w = .ok (.slice (if m = l then p else p.map (·.add (l * sz))) (h - l) (m - l)) w := by
 have hb : (Instr.sliceBounds true len c lo hi mx).run P w = .ok (l, h, m) w := by
  rcases b1 with ⟨rfl, rfl⟩ | ⟨k1, j1, rfl, p1, rfl⟩ <;> rcases b2 with ⟨rfl, rfl⟩ | ⟨k2, j2, rfl, p2, rfl⟩ <;> rcases b3 with ⟨rfl, rfl⟩ | ⟨k3, j3, rfl, p3, rfl⟩ <;>
   first
    | (simp at hm; done)
    | (simp [Instr.sliceBounds, z25, *]; done)
 unfold Instr.sliceAt
 simp [Sem.run_bind, run_underlying he, Result.andThen_ok, Instr.slice, hb, hsz]
def sliceO (tt : TT) (n : Fr) (dst : Option Nat) (t : Nat) (x : Operand) (lo hi mx : Option Operand) : SM Unit := do
 let y ← opnd x
 match y with
 | .d (.sl sz tg xs) =>
  if yX tt t = some sz then do
   let l ← bound 0 lo
   let h ← bound xs.length hi
   match mx with
   | none => if l ≤ h ∧ h ≤ xs.length then wrT n dst (.d (.sl sz (tg && h == xs.length) ((xs.drop l).take (h - l)))) else zm
   | some _ => do
    let m ← bound 0 mx
    if l ≤ h ∧ h ≤ m ∧ m ≤ xs.length ∧ hi.isSome = true then wrT n dst (.d (.sl sz (m == h) ((xs.drop l).take (h - l)))) else zm
  else zm
 | _ => zm
theorem W0 {dflt n : Nat} {x : Option Operand} (h : (x = none ∧ n = dflt) ∨ ∃ o k j, x = some o ∧ a.eval o = .int k j ∧ 0 ≤ j ∧ n = j.toNat) : Va (x.map a.eval) dflt n := by
 rcases h with ⟨rfl, rfl⟩ | ⟨o, k, j, rfl, e, h0, rfl⟩
 ·exact .inl ⟨rfl, rfl⟩
 ·exact .inr ⟨k, j, by simp [e], h0, rfl⟩
theorem z0d {S : z8}    {m l h : Nat} {tg' : Bool} (h4 : ∀ x ∈ xs, x.size = sz) (h5 : xs = [] ∨ ∃ b o l, p = some ⟨b, o, none⟩ ∧ zV S xs l ∧ kY S b o l) (h1 : l ≤ h) (h2 : h ≤ xs.length) (hm : h ≤ m) (htg : tg' = true → m = h) :
  yY S (.sl sz tg' ((xs.drop l).take (h - l))) (.slice (if m = l then p else p.map (·.add (l * sz))) (h - l) (m - l)) := by
 simp only [yY]
 have hlen : ((xs.drop l).take (h - l)).length = h - l := by rw [List.length_take, List.length_drop]; omega
 refine ⟨[_], ?_, rfl⟩
 simp only [Rep, hlen]
 refine ⟨_, m - l, rfl, fun q => by rw [htg q], by omega, fun x hx => h4 x (List.mem_of_mem_drop (List.mem_of_mem_take hx)), ?_⟩
 by_cases hz : h = l
 ·left
  apply List.eq_nil_of_length_eq_zero
  rw [hlen]; omega
 ·right
  rcases h5 with rfl | ⟨b, o, L, rfl, r2, r3⟩
  ·simp at h2; omega
  ·have ⟨ds, d1, d2⟩ := z4g (k := h - l) r2 h4 (l := l) (by omega)
   rw [if_neg (by omega)]
   refine ⟨b, o + l * sz, ds, by simp [Addr.add_lit], d1, fun j v hj => ?_⟩
   have := r3 _ v (d2 j v hj)
   rw [← Nat.add_assoc] at this
   exact this
theorem UE {P : Program}  (hT : ut P tt) (h : Sim C S Fp [] st a w)   {x : Operand} {lo hi mx : Option Operand} (ho : o.op = .slice t x lo hi mx)    (e : sliceO tt C.n o.dst t x lo hi mx st = some (u, R, U)) : uU P C o a w (z7 U st) := by
 unfold sliceO at e
 have ⟨y, _, hx, e1⟩ := bR (zK h) e
 cases y with
 | d z =>
  cases z with
  | sl sz tg xs =>
   simp only at e1
   split at e1
   ·rename_i hel
    have ⟨l, _, b1, e2⟩ := bR (Qe h) e1
    have ⟨hh, _, b2, e3⟩ := bR (Qe h) e2
    have ⟨el, he, hsz⟩ := xk hT hel w
    have hx' : yY S (.sl sz tg xs) (a.eval x) := hx
    simp only [yY] at hx'
    have ⟨cs, r1, r2⟩ := hx'
    simp only [Rep] at r1
    obtain ⟨p, c, rfl, r3, r4, r5, r6⟩ := r1
    have ev : a.eval x = .slice p xs.length c := r2
    cases mx with
    | none =>
     simp only at e3
     split at e3
     ·rename_i hc
      have hrun := Wq (P := P) (w := w) he hsz (p := p) (m := c) (W0 b1) (W0 b2) (.inl ⟨rfl, rfl⟩) hc.1 (by omega) (Nat.le_refl c) (by simp)
      have ⟨Fp', hs⟩ := wl h e3 (x := .d _) (z0d (m := c) r5 r6 hc.1 hc.2 (by omega) (by
       intro q
       simp only [Bool.and_eq_true, beq_iff_eq] at q
       rw [r3 q.1, q.2]))
      exact zo (by simp [execOp, ho, ev, hrun]) hs
     ·cases e3
    | some mo =>
     have ⟨m, _, b3, e4⟩ := bR (Qe h) e3
     split at e4
     ·rename_i hc
      have b3' : Va ((some mo).map a.eval) c m := by
       rcases b3 with ⟨q, _⟩ | ⟨o, k, j, q, q2, q3, q4⟩
       ·cases q
       ·cases q; exact .inr ⟨k, j, by simp [q2], q3, q4⟩
      have hrun := Wq (P := P) (w := w) he hsz (p := p) (W0 b1) (W0 b2) b3' hc.1 hc.2.1 (by omega) (by intro _; simpa using hc.2.2.2)
      have ⟨Fp', hs⟩ := wl h e4 (x := .d _) (z0d (m := m) r5 r6 hc.1 (by omega) hc.2.1 (by intro q; simpa using q))
      exact zo (by simp only [Option.map_some] at hrun; simp [execOp, ho, ev, hrun]) hs
     ·cases e4
   ·cases e1
  | _ => cases e1
 | _ => cases e1
end
theorem A.looses_eq (as_ : List A) : A.looses as_ = as_.map A.loose := by
 induction as_ with
 | nil => rfl
 | cons a as_ ih => simp [A.looses, ih]
theorem A.looses_length (as_ : List A) : (A.looses as_).length = as_.length := by rw [A.looses_eq, List.length_map]
mutual
theorem A.size_loose : ∀ (a : A), a.loose.size = a.size
 | .agg fs => by simp [A.loose, A.size]; exact A.sizes_looses fs
 | .tup _ => rfl
 | .sl _ _ _ => rfl
 | .osl _ _ _ => rfl
 | .sptr _ => rfl
 | .dop _ => rfl
 | .box _ => rfl
 | .fn _ _ => rfl
 | .atom _ => rfl
 | .dead _ => rfl
 | .opq _ => rfl
theorem A.sizes_looses : ∀ (as_ : List A), A.sizes (A.looses as_) = A.sizes as_
 | [] => rfl
 | a :: as_ => by simp [A.looses, A.sizes, A.size_loose a, A.sizes_looses as_]
end
variable {as_ : List A}
theorem Xs (h : ∀ x ∈ as_, x.size = sz) : ∀ x ∈ A.looses as_, x.size = sz := by
 intro x hx
 rw [A.looses_eq, List.mem_map] at hx
 obtain ⟨y, hy, rfl⟩ := hx
 rw [A.size_loose]; exact h y hy
theorem KC (h : ∀ c ∈ as_, c.size = 1 ∧ ∀ fs, c ≠ .agg fs) : ∀ c ∈ A.looses as_, c.size = 1 ∧ ∀ fs, c ≠ .agg fs := by
 intro x hx
 rw [A.looses_eq, List.mem_map] at hx
 obtain ⟨y, hy, rfl⟩ := hx
 have ⟨h1, h2⟩ := h y hy
 refine ⟨by rw [A.size_loose]; exact h1, ?_⟩
 intro fs he
 cases y <;> simp [A.loose] at he
 exact h2 _ rfl
mutual
theorem Rep.loose {S : z8} : ∀ {a : A} {cs : List Value}, Rep S a cs → Rep S a.loose cs
 | .agg fs, _, r => by simp only [A.loose, Rep] at r ⊢; exact zV.loose r
 | .atom _, _, r => r
 | .fn f caps, _, r => by
  simp only [A.loose, Rep] at r ⊢
  have ⟨vs, r1, r2, r3⟩ := r
  exact ⟨vs, zV.loose r1, KC r2, r3⟩
 | .sl sz t xs, _, r => by
  simp only [A.loose, Rep] at r ⊢
  have ⟨p, c, r1, _, r3, r4, r5⟩ := r
  refine ⟨p, c, by rw [A.looses_length]; exact r1, by simp, by rw [A.looses_length]; exact r3, Xs r4, ?_⟩
  rcases r5 with rfl | ⟨b, o, l, q1, q2, q3⟩
  ·exact .inl rfl
  ·exact .inr ⟨b, o, l, q1, zV.loose q2, q3⟩
 | .sptr x, _, r => by
  simp only [A.loose, Rep] at r ⊢
  have ⟨b, o, l, r1, r2, r3⟩ := r
  exact ⟨b, o, l, r1, Rep.loose r2, r3⟩
 | .dop _, _, r => r
 | .tup _, _, r => by simp only [Rep] at r
 | .osl _ _ _, _, r => by simp only [Rep] at r
 | .box _, _, r => by simp only [Rep] at r
 | .dead _, _, r => by simp only [Rep] at r
 | .opq _, _, r => by simp only [Rep] at r
theorem zV.loose {S : z8} : ∀ {as_ : List A} {cs : List Value}, zV S as_ cs → zV S (A.looses as_) cs
 | [], _, r => r
 | a :: as_, _, r => by
  simp only [A.looses, zV] at r ⊢
  obtain ⟨c1, c2, rfl, r1, r2⟩ := r
  exact ⟨c1, c2, rfl, Rep.loose r1, zV.loose r2⟩
end
variable {h : Array Obj}
mutual
theorem zA.loose {S : z8}  : ∀ {a : A} {cs : List Value} {F : List Nat}, zA S h a cs F → zA S h a.loose cs F
 | .osl sz t es, _, _, r => by
  simp only [A.loose, zA] at r ⊢
  have ⟨p, c, r1, _, r3, r4, r5, r6⟩ := r
  refine ⟨p, c, by rw [A.looses_length]; exact r1, by simp, by rw [A.looses_length]; exact r3, r4, Xs r5, ?_⟩
  rcases r6 with ⟨rfl, q⟩ | ⟨b, arr, ty, l, F', q1, q2, q3, q4, q5, q6⟩
  ·exact .inl ⟨rfl, q⟩
  ·exact .inr ⟨b, arr, ty, l, F', q1, q2, q3, by rw [A.looses_length]; exact q4, zy.loose q5, q6⟩
 | .box x, _, _, r => by
  simp only [A.loose, zA] at r ⊢
  have ⟨b, ty, l, F', r1, r2, r3, r4⟩ := r
  exact ⟨b, ty, l, F', r1, r2, zA.loose r3, r4⟩
 | .agg fs, _, _, r => by simp only [A.loose, zA] at r ⊢; exact zy.loose r
 | .dead _, _, _, r => r
 | .opq _, _, _, r => r
 | .atom _, _, _, r => r
 | .fn f caps, _, _, r => by
  simp only [zA] at r
  have := Rep.loose r.1
  simp only [A.loose] at this ⊢
  simp only [zA]
  exact ⟨this, r.2⟩
 | .sl sz t xs, _, _, r => by
  simp only [zA] at r
  have := Rep.loose r.1
  simp only [A.loose] at this ⊢
  simp only [zA]
  exact ⟨this, r.2⟩
 | .sptr x, _, _, r => by
  simp only [zA] at r
  have := Rep.loose r.1
  simp only [A.loose] at this ⊢
  simp only [zA]
  exact ⟨this, r.2⟩
 | .dop _, _, _, r => r
 | .tup _, _, _, r => by simp only [zA] at r
theorem zy.loose {S : z8}  : ∀ {as_ : List A} {cs : List Value} {F : List Nat}, zy S h as_ cs F → zy S h (A.looses as_) cs F
 | [], _, _, r => r
 | a :: as_, _, _, r => by
  simp only [A.looses, zy] at r ⊢
  have ⟨c1, c2, F1, F2, e1, e2, r1, r2⟩ := r
  exact ⟨c1, c2, F1, F2, e1, e2, zA.loose r1, zy.loose r2⟩
end
theorem Wh (a : A) (cs : List Value) : zT a.loose cs = zT a cs := by cases a <;> rfl
variable {v : Value}
theorem wi.loose {S : z8} {a : A}  (h : wi S a v) : wi S a.loose v :=
 let ⟨cs, h1, h2⟩ := h; ⟨cs, h1.loose, by rw [Wh]; exact h2⟩
theorem yY.loose {S : z8} {a : A}  (h : yY S a v) : yY S a.loose v := by
 cases a with
 | tup fs =>
  simp [A.loose, yY] at h ⊢
  obtain ⟨vs, e, h⟩ := h
  refine ⟨vs, e, ?_⟩
  clear e
  induction fs generalizing vs with
  | nil => exact h
  | cons f fs ih =>
   cases vs with
   | nil => exact h.elim
   | cons v vs => exact ⟨h.1.loose, ih vs h.2⟩
 | _ => exact wi.repV (wi.loose (by simpa only [yY] using h))
variable {F : List Nat}
theorem Has.loose {S : z8}  {a : A}   (q : Has S h a v F) : Has S h a.loose v F := by
 rcases q with ⟨q, rfl⟩ | ⟨cs, q1, q2, q3⟩
 ·exact .inl ⟨q.loose, rfl⟩
 ·exact .inr ⟨cs, q1.loose, q2, by rw [Wh]; exact q3⟩
theorem k7.loose {S : z8}  : ∀ {as_ : List A} {vs : List Value} {F : List Nat}, k7 S h as_ vs F → k7 S h (as_.map A.loose) vs F
 | [], [], _, q => q
 | _ :: _, _ :: _, _, q => by
  have ⟨F1, F2, e, q1, q2⟩ := q
  exact ⟨F1, F2, e, q1.loose, q2.loose⟩
 | [], _ :: _, _, q => q.elim
 | _ :: _, [], _, q => q.elim
variable {vs : List Value}
theorem k7.norm {S : z8}  {ls : List A}   (ctr : Ctr) (k : Nat) (q : k7 S h ls vs F) : k7 S h (ctr.norm k ls) vs F := by
 unfold Ctr.norm
 split
 ·exact q
 ·exact q.loose
theorem Has.grow {S S' : z8}  {a : A}   (q : Has S h a v F) (hS : ∀ b o u, S b o = some u → S' b o = some u) (hF : ∀ k ∈ F, ∀ o, S k o = none → S' k o = none) : Has S' h a v F := by
 rcases q with ⟨q, rfl⟩ | ⟨cs, q1, q2, q3⟩
 ·exact .inl ⟨q.mono hS, rfl⟩
 ·exact .inr ⟨cs, q1.frame hS (fun k hk => ⟨rfl, fun o => hF k hk o ((q1.own k hk).2.1 o)⟩), q2, q3⟩
theorem kX {S : z8}  : ∀ {as_ : List A} {vs : List Value}, uV (wi S) as_ vs → k7 S h as_ vs []
 | [], [], _ => rfl
 | _ :: _, _ :: _, q => ⟨[], [], rfl, .inl ⟨q.1.repV, rfl⟩, kX q.2⟩
 | [], _ :: _, q => q.elim
 | _ :: _, [], q => q.elim
theorem k7.append {S : z8}  : ∀ {as_ : List A} {vs : List Value} {F : List Nat} {bs : List A} {us : List Value}, k7 S h as_ vs F → k7 S h bs us [] → k7 S h (as_ ++ bs) (vs ++ us) F
 | [], [], _, _, _, q, q' => by rw [show _ = [] from q]; exact q'
 | _ :: _, _ :: _, _, _, _, q, q' => by
  have ⟨F1, F2, e, q1, q2⟩ := q
  exact ⟨F1, F2, e, q1, q2.append q'⟩
 | [], _ :: _, _, _, _, q, _ => q.elim
 | _ :: _, [], _, _, _, q, _ => q.elim
section
variable {C : Ctx} {S : z8} {Fp : Nat → List Nat} {st : St} {a : Act} {w : World}
theorem z0n {y : A}  {S : z8}   (ho : z5P y = true) (hc : zA S h y cs F) : cs = [zT y cs] := by
 have hl := hc.len
 cases y <;> simp [z5P] at ho
 all_goals
  simp [A.size] at hl
  obtain ⟨u, rfl⟩ := List.length_eq_one_iff.1 hl
  rfl
theorem VI {y : A} (h : z5P y = true) : y.plain = true := by
 cases y <;> first | rfl | exact h | (simp [z5P] at h)
end
def qH (P : Program) (k : Nat) (args : List A) (r : A) : Prop :=
 (∃ fn, P.funcs[k]? = some fn ∧ (fn.name == "runtime.NumGoroutine") = false ∧ fn.body.isNone = false) ∧
 ∀ (S : z8) (w : World) (vs : List Value) (F : List Nat), xx S w → k7 S w.heap args vs F → F.Nodup → Calls P k vs.toArray w fun e w' =>
  ∃ v S' F', e = .returned v ∧ wK (fun k => w.heap.size ≤ k ∨ k ∈ F) w w' ∧ (∀ b o u, S b o = some u → S' b o = some u) ∧ (∀ b o, b < w.heap.size → b ∉ F → S' b o = S b o) ∧ xx S' w' ∧ Has S' w'.heap r v F' ∧ F'.Nodup ∧
   ∀ k ∈ F', w.heap.size ≤ k ∨ k ∈ F
def Vr (P : Program) (ext : Fr → Oper → Option (SM Unit)) : Prop :=
 (∀ (C : Ctx) (S : z8) (Fp : Nat → List Nat) (st : St) (a : Act) (w : World) (o : Oper) (m : SM Unit) (u : Unit) (R : List Nat) (U : List (Nat × Ent)), ext C.n o = some m → Sim C S Fp [] st a w → m st = some (u, R, U) → uU P C o a w (z7 U st)) ∧
 ∀ (n : Fr) (o : Oper) (m : SM Unit), ext n o = some m → ∀ (st st' : St) (u : Unit) (R : List Nat) (U : List (Nat × Ent)), m st = some (u, R, U) → (∀ k ∈ R, st' k = st k) → m st' = some (u, R, U)
theorem Vr.none (P : Program) : Vr P (fun _ _ => .none) := ⟨fun _ _ _ _ _ _ _ _ _ _ _ h => (by cases h), fun _ _ _ h => (by cases h)⟩
def uM (P : Program) (ctr : Ctr) : Prop := (∀ k args r, ctr.run k args = some r → qH P k args r) ∧ Vr P ctr.ext
theorem uM.withE {c : Ctr} (h : uM P c) {e : Fr → Oper → Option (SM Unit)} (he : Vr P e) : uM P (c.withE e) := ⟨h.1, he⟩
mutual
theorem A.shut_isD : ∀ {a : A}, a.isD = true → a.shut = a
 | .agg fs, h => by simp [A.isD] at h; simp [A.shut, A.shuts_areD h]
 | .atom _, _ => rfl
 | .fn _ _, _ => rfl
 | .sl _ _ _, _ => rfl
 | .sptr _, _ => rfl
 | .dop _, _ => rfl
 | .tup _, h => by simp [A.isD] at h
 | .osl _ _ _, h => by simp [A.isD] at h
 | .box _, h => by simp [A.isD] at h
 | .dead _, h => by simp [A.isD] at h
 | .opq _, h => by simp [A.isD] at h
theorem A.shuts_areD : ∀ {as_ : List A}, A.areD as_ = true → A.shuts as_ = as_
 | [], _ => rfl
 | a :: as_, h => by
  simp [A.areD, Bool.and_eq_true] at h
  simp [A.shuts, A.shut_isD h.1, A.shuts_areD h.2]
end
theorem YX (a : A) (cs : List Value) : zT a.shut cs = zT a cs := by
 cases a <;> rfl
variable {Fp : Nat → List Nat}{ctr : Ctr}{a : Act}{k : Nat}{fn : Func}{args : Array Operand}{tys : Array TypeId}{caps : Array Operand}{f : Operand}
section
variable {C : Ctx} {S : z8} {Fp : Nat → List Nat} {X : List Nat} {st : St} {a : Act} {w : World}
def yb (S : z8) (h : Array Obj) (F : List Nat) : z8 := fun b o => if b ∈ F then zu h b o else S b o
theorem Jo (tt : TT) (t : Nat) (z : A) : ke tt t z = z ∨ (z = .atom (.slice none 0 0) ∧ ∃ sz, ke tt t z = .osl sz true []) := by
 unfold ke
 split
 ·split
  ·split
   ·exact .inr ⟨rfl, _, rfl⟩
   ·exact .inl rfl
  ·exact .inl rfl
 ·exact .inl rfl
theorem kM (h : Sim C S Fp X st a w)  {r : Nat} (hF : ∀ k ∈ F, k ∈ Fp r) :
  (∀ b o u, S b o = some u → yb S w.heap F b o = some u) ∧ (∀ b o v, yb S w.heap F b o = some v → zu w.heap b o = some v) ∧ (∀ b o, ¬ C.M b → yb S w.heap F b o = C.S0 b o) ∧
  (∀ k, k ∉ F → ∀ o, yb S w.heap F k o = S k o) := by
 refine ⟨?_, ?_, ?_, ?_⟩
 ·intro b o u hs
  unfold yb
  split
  ·rename_i hb
   rw [(h.free r b (hF b hb)).2.1] at hs
   cases hs
  ·exact hs
 ·intro b o v hs
  unfold yb at hs
  split at hs
  ·exact hs
  ·exact h.still b o v hs
 ·intro b o hb
  unfold yb
  split
  ·rename_i hb'
   exact absurd (h.base r b (hF b hb')) hb
  ·exact h.sbase b o hb
 ·intro k hk o
  unfold yb
  rw [if_neg hk]
theorem Yq (h : Sim C S Fp X st a w)   {x : T}  (hx : TOk S w.heap st (Act.tv a) x v) {y : A}   (e : shutT tt t x st = some (y, R, U)) :
  ∃ S' Fp', Sim C S' Fp' X (z7 U st) a w ∧ (∀ b o u, S b o = some u → S' b o = some u) ∧ (∀ k ∈ X, ∀ o, S k o = none → S' k o = none) ∧ wi S' y v := by
 cases x with
 | d z =>
  by_cases hz : ∃ fs, z = .tup fs
  ·obtain ⟨fs, rfl⟩ := hz
   exact (wM (st := st) e).elim
  ·have hz' : ∀ fs, z ≠ .tup fs := fun fs he => hz ⟨fs, he⟩
   have e' : (pure (ke tt t z).shut : SM A) st = some (y, R, U) := by
    cases z <;> first | exact e | exact absurd rfl (hz' _)
   cases e'
   refine ⟨S, Fp, h, fun _ _ _ h => h, fun _ _ _ h => h, ?_⟩
   have hr1 : wi S z v := by
    have hx' : yY S z v := hx
    cases z <;> simp only [yY] at hx' <;> first | exact hx' | exact absurd rfl (hz' _)
   rcases Jo tt t z with hn | ⟨rfl, sz, hn⟩
   ·rw [hn]
    have ⟨cs, r, ev⟩ := hr1
    rw [A.shut_isD r.isD]
    exact ⟨cs, r, ev⟩
   ·rw [hn]
    have ev := (w5.1 hr1).1
    subst ev
    exact ⟨[.slice none 0 0], by simp only [A.shut, A.shuts, Rep]; exact ⟨none, 0, rfl, fun _ => rfl, Nat.le_refl _, by simp, .inl trivial⟩, rfl⟩
 | als r p er ec =>
  simp only [shutT] at e
  have ⟨z, _, q, e1⟩ := bR (Xb h hx) e
  by_cases hd : z.isD = true
  ·rw [if_pos hd] at e1
   cases e1
   refine ⟨S, Fp, h, fun _ _ _ h => h, fun _ _ _ h => h, ?_⟩
   rcases q with ⟨x, cs, F, _, _, _, _, q5, q6, _⟩ | ⟨_, _, _, _, q5⟩
   ·exact ⟨cs, (q5.isD hd).1, q6⟩
   ·exact q5.rep1 hd
  ·rw [if_neg hd] at e1
   by_cases hl : z.live = true
   ·rw [if_pos hl] at e1
    have ⟨_, e2⟩ := bD e1
    rcases q with ⟨x, cs, F, q1, q2, q3, q4, q5, q6, q7, q8⟩ | ⟨q1, _⟩
    ·simp only [q1] at e2
     have ⟨m1, m2, m3, m4⟩ := kM h q7
     have hrep : Rep (yb S w.heap F) z.shut cs := q5.shut m1 hl (fun k hk o => by unfold yb; rw [if_pos hk])
     have hoth : ∀ t k, t ≠ r → k ∈ Fp t → w.heap[k]? = w.heap[k]? ∧ ∀ o, yb S w.heap F k o = none := by
      intro t k ht hk
      refine ⟨rfl, fun o => ?_⟩
      rw [m4 k (fun hF => ht (h.disj t r k hk (q7 k hF)))]
      exact (h.free t k hk).2.1 o
     have hr := h.ent r
     unfold yQ at hr
     simp only [q1] at hr
     by_cases hp : p = []
     ·rw [if_pos hp] at e2
      obtain ⟨u5, R5, U5, R6, U6, h5, h6, rfl, rfl⟩ := bind_some e2
      cases h5
      cases h6
      subst hp
      have hv : v = Act.tv a r := by
       have := hx.2.2
       simp only [q1] at this
       rcases this q2 (.inl trivial) with ⟨_, hv⟩ | ⟨ho, _⟩
       ·exact hv
       ·simp [ZZ] at ho
      refine ⟨yb S w.heap F, Vk Fp r [], ?_, m1, fun k hk o hn => by rw [m4 k (fun hF => h.xd r k hk (q7 k hF))]; exact hn, ⟨cs, hrep, by rw [YX]; exact q6⟩⟩
      simp only [List.append_nil, z7]
      exact h.change r (.d z.shut) _ _ [] h.below m1 m2 m3 hoth ⟨wi.repV ⟨cs, hrep, by rw [YX, ← q6, hv]⟩, rfl⟩ (.inl ⟨x, q1⟩) (Nat.le_refl _) (Nat.lt_succ_self _) (by simp) (by simp) h.xn (fun t k _ hk => h.xd t k hk) (by simp) h.xb
     ·rw [if_neg hp] at e2
      obtain ⟨u5, R5, U5, R6, U6, h5, h6, rfl, rfl⟩ := bind_some e2
      cases h5
      cases h6
      have ⟨cs', c1, c2, c3⟩ := hr
      have hx3 := hx.2.2
      simp only [q1] at hx3
      rcases hx3 q2 q3 with ⟨hp', _⟩ | ⟨ho, y', b, o, csa, g1, g2, g3, g4, g5⟩
      ·exact absurd hp' hp
      rw [q4] at g1
      cases g1
      have ⟨b', o', arr, ty, csy, Fy, f1, f2, f3, f4, f5, f6, f7, f8, f9⟩ := qz p c1 c2 hp (by rintro i q rfl; simp [ZZ] at ho) q4
      rw [c3, f1] at g2
      cases g2
      have hcs := jb f4 f2 f3 g3 g4
      subst hcs
      have ⟨n1, n2, n3, n4⟩ := kM h f7
      have hrep2 : Rep (yb S w.heap Fy) z.shut csa := f4.shut n1 hl (fun k hk o => by unfold yb; rw [if_pos hk])
      have ⟨F0', d1, d2, d3⟩ := f9 (yb S w.heap Fy) w.heap z.shut csa [] n1 rfl (hrep2.conc _) (by simp) (fun k hk hky o => by rw [n4 k hky]; exact (h.free r k hk).2.1 o) (fun _ _ _ _ => rfl) (by rw [jh f3]; exact f2) (by simp)
      refine ⟨yb S w.heap Fy, Vk Fp r F0', ?_, n1, fun k hk o hn => by rw [n4 k (fun hF => h.xd r k hk (f7 k hF))]; exact hn, ⟨csa, hrep2, by rw [YX]; exact g5⟩⟩
      simp only [List.append_nil, z7]
      have hoth2 : ∀ t k, t ≠ r → k ∈ Fp t → w.heap[k]? = w.heap[k]? ∧ ∀ o, yb S w.heap Fy k o = none := by
       intro t k ht hk
       refine ⟨rfl, fun o => ?_⟩
       rw [n4 k (fun hF => ht (h.disj t r k hk (f7 k hF)))]
       exact (h.free t k hk).2.1 o
      refine h.change r (.own (wT p x z.shut)) _ _ F0' h.below n1 n2 n3 hoth2 ⟨⟨cs', d1, d2, by rw [Vx ho]; exact c3⟩, x, q1⟩ (.inl ⟨x, q1⟩) (Nat.le_refl _) (Nat.lt_succ_self _) ?_ ?_ h.xn (fun t k _ hk => h.xd t k hk) ?_ h.xb
      ·intro t k ht hk hk'
       rcases (d3 k).1 hk with hk | hk
       ·exact ht (h.disj t r k hk' hk.1)
       ·simp at hk
      ·intro k hk
       rcases (d3 k).1 hk with hk | hk
       ·exact h.base r k hk.1
       ·simp at hk
      ·intro k hk hk'
       rcases (d3 k).1 hk' with hk' | hk'
       ·exact h.xd r k hk hk'.1
       ·simp at hk'
    ·simp only [q1] at e2; cases e2
   ·rw [if_neg hl] at e1; cases e1
 | gone => exact hx.elim
 | own _ => exact hx.elim
 | ptr _ _ _ _ => exact (wM (st := st) e).elim
theorem xX : ∀ {as_ : List (Operand × Nat)} {S : z8} {Fp : Nat → List Nat} {st : St}, Sim C S Fp X st a w → ∀ {xs : List A} {R : List Nat} {U : List (Nat × Ent)}, shutArgs tt as_ st = some (xs, R, U) →
  ∃ S' Fp', Sim C S' Fp' X (z7 U st) a w ∧ (∀ b o u, S b o = some u → S' b o = some u) ∧ (∀ k ∈ X, ∀ o, S k o = none → S' k o = none) ∧ uV (wi S') xs (as_.map fun p => a.eval p.1)
 | [], S, Fp, st, h, xs, R, U, e => by
  cases e
  exact ⟨S, Fp, h, fun _ _ _ h => h, fun _ _ _ h => h, trivial⟩
 | (x, t) :: as_, S, Fp, st, h, xs, R, U, e => by
  simp [shutArgs] at e
  have ⟨y, _, hx, e1⟩ := bR (zK h) e
  obtain ⟨z, R3, U3, R4, U4, h3, e2, rfl, rfl⟩ := bind_some e1
  have ⟨S1, Fp1, g1, g2, g4, g3⟩ := Yq h hx h3
  obtain ⟨bs, R5, U5, R6, U6, h5, e3, rfl, rfl⟩ := bind_some e2
  have ⟨S2, Fp2, k1, k2, k4, k3⟩ := xX g1 h5
  cases e3
  refine ⟨S2, Fp2, ?_, fun b o u hs => k2 b o u (g2 b o u hs), fun k hk o hn => k4 k hk o (g4 k hk o hn), g3.mono k2, k3⟩
  rw [List.append_nil, zl]
  exact k1
mutual
theorem Rep.flat {S S' : z8} : ∀ {r : A} {cs : List Value}, r.flat = true → Rep S r cs → Rep S' r cs
 | .atom _, _, _, h => by simpa only [Rep] using h
 | .agg fs, _, f, h => by simp [A.flat] at f; simp [Rep] at h ⊢; exact zV.flat f h
 | .tup _, _, _, h => by simp [Rep] at h
 | .fn _ _, _, f, _ => by simp [A.flat] at f
 | .sl _ _ _, _, f, _ => by simp [A.flat] at f
 | .sptr _, _, f, _ => by simp [A.flat] at f
 | .dop _, _, f, _ => by simp [A.flat] at f
 | .osl _ _ _, _, f, _ => by simp [A.flat] at f
 | .box _, _, f, _ => by simp [A.flat] at f
 | .dead _, _, f, _ => by simp [A.flat] at f
 | .opq _, _, f, _ => by simp [A.flat] at f
theorem zV.flat {S S' : z8} : ∀ {rs : List A} {cs : List Value}, A.flats rs = true → zV S rs cs → zV S' rs cs
 | [], _, _, h => by simpa only [zV] using h
 | r :: rs, _, f, h => by
  simp [A.flats, Bool.and_eq_true] at f
  simp [zV] at h ⊢
  have ⟨c1, c2, e, h1, h2⟩ := h
  exact ⟨c1, c2, e, Rep.flat f.1 h1, zV.flat f.2 h2⟩
end
theorem yY.flat {S S' : z8} {r : A}  (f : r.flat = true) (h : yY S r v) : yY S' r v := by
 have one : ∀ {r : A} {v : Value}, r.flat = true → wi S r v → wi S' r v := fun f h => let ⟨cs, h1, h2⟩ := h; ⟨cs, h1.flat f, h2⟩
 cases r with
 | tup fs =>
  simp [yY] at h ⊢
  obtain ⟨vs, e, h⟩ := h
  refine ⟨vs, e, ?_⟩
  simp [A.flat] at f
  clear e
  induction fs generalizing vs with
  | nil => cases vs <;> simp_all [uV]
  | cons x fs ih =>
   cases vs with
   | nil => exact h.elim
   | cons u vs =>
    simp [A.flats, Bool.and_eq_true] at f
    exact ⟨one f.1 h.1, ih f.2 vs h.2⟩
 | _ => simp [yY] at h ⊢; exact one f h
theorem Wt {caps : List A} : ∀ {vs : List Value}, zV S caps vs → (∀ c ∈ caps, c.size = 1 ∧ ∀ fs, c ≠ .agg fs) → uV (wi S) caps vs := by
 induction caps with
 | nil => intro vs h _; simp [zV] at h; subst h; trivial
 | cons c caps ih =>
  intro vs h hc
  simp [zV] at h
  obtain ⟨c1, c2, rfl, h1, h2⟩ := h
  have ⟨hs, hna⟩ := hc c (by simp)
  have hl : c1.length = 1 := by rw [h1.len, hs]
  obtain ⟨u, rfl⟩ := List.length_eq_one_iff.1 hl
  refine ⟨⟨[u], h1, ?_⟩, ih h2 (fun c hc' => hc c (by simp [hc']))⟩
  cases c <;> first | rfl | exact absurd rfl (hna _)
theorem uV.append {α β : Type} {R : α → β → Prop} : ∀ {as_ : List α} {bs : List β} {cs : List α} {ds : List β}, uV R as_ bs → uV R cs ds → uV R (as_ ++ cs) (bs ++ ds)
 | [], [], _, _, _, h => h
 | _ :: _, _ :: _, _, _, h, h' => ⟨h.1, h.2.append h'⟩
 | [], _ :: _, _, _, h, _ => h.elim
 | _ :: _, [], _, _, h, _ => h.elim
theorem WE : ∀ {as_ : List (Bool × Operand × Nat)} {S : z8} {Fp : Nat → List Nat} {X : List Nat} {st : St}, Sim C S Fp X st a w → ∀ {xs : List A} {R : List Nat} {U : List (Nat × Ent)}, passArgs tt as_ st = some (xs, R, U) →
  ∃ S' Fp' G, Sim C S' Fp' (G ++ X) (z7 U st) a w ∧ (∀ b o u, S b o = some u → S' b o = some u) ∧ (∀ k ∈ X, ∀ o, S k o = none → S' k o = none) ∧ k7 S' w.heap xs (as_.map fun p => a.eval p.2.1) G
 | [], S, Fp, X, st, h, xs, R, U, e => by
  cases e
  exact ⟨S, Fp, [], h, fun _ _ _ h => h, fun _ _ _ h => h, rfl⟩
 | (g, x, t) :: as_, S, Fp, X, st, h, xs, R, U, e => by
  simp [passArgs] at e
  have ⟨y, _, hx, e1⟩ := bR (zK h) e
  obtain ⟨z, R3, U3, R4, U4, h3, e2, rfl, rfl⟩ := bind_some e1
  obtain ⟨bs, R5, U5, R6, U6, h5, e3, rfl, rfl⟩ := bind_some e2
  have one : ∃ S1 Fp1 F, Sim C S1 Fp1 (F ++ X) (z7 U3 st) a w ∧ (∀ b o u, S b o = some u → S1 b o = some u) ∧ (∀ k ∈ X, ∀ o, S k o = none → S1 k o = none) ∧ Has S1 w.heap z (a.eval x) F := by
   split at h3
   ·have ⟨Fp1, F, g1, g2⟩ := jw h hx h3
    exact ⟨S, Fp1, F, g1, fun _ _ _ h => h, fun _ _ _ h => h, g2⟩
   ·have ⟨S1, Fp1, g1, g2, g3, g4⟩ := Yq h hx h3
    exact ⟨S1, Fp1, [], g1, g2, g3, .inl ⟨g4.repV, rfl⟩⟩
  have ⟨S1, Fp1, F, g1, g2, g3, g4⟩ := one
  have ⟨S2, Fp2, G, k1, k2, k3, k4⟩ := WE g1 h5
  cases e3
  refine ⟨S2, Fp2, G ++ F, ?_, fun b o u hs => k2 b o u (g2 b o u hs), fun k hk o hn => k3 k (by simp [hk]) o (g3 k hk o hn), F, G, rfl, g4.grow k2 (fun k hk o hn => k3 k (by simp [hk]) o hn), k4⟩
  rw [List.append_nil, zl, List.append_assoc]
  exact k1
theorem k7.nil {S : z8}  : ∀ {as_ : List A} {vs : List Value} {F : List Nat}, k7 S h as_ vs F → as_.length = vs.length
 | [], [], _, _ => rfl
 | _ :: _, _ :: _, _, q => by have ⟨F1, F2, e, q1, q2⟩ := q; simp [q2.nil]
 | [], _ :: _, _, q => q.elim
 | _ :: _, [], _, q => q.elim
theorem Sim.called {S S' : z8}  {st : St}  {w w' : World} {F F' : List Nat} (h : Sim C S Fp (F ++ []) st a w) (b1 : wK (fun k => w.heap.size ≤ k ∨ k ∈ F) w w') (b2 : ∀ b o u, S b o = some u → S' b o = some u)
  (b3 : ∀ b o, b < w.heap.size → b ∉ F → S' b o = S b o) (b4 : xx S' w') (b6 : F'.Nodup) (b7 : ∀ k ∈ F', w.heap.size ≤ k ∨ k ∈ F) : Sim C S' Fp (F' ++ []) st a w' := by
 have hM : ∀ k, (w.heap.size ≤ k ∨ k ∈ F) → C.M k := fun k hk => hk.elim (fun hk => h.mine k (Nat.le_trans h.base_le hk)) (fun hk => h.xb k (by simp [hk]))
 have hno : ∀ t k, k ∈ Fp t → ¬ (w.heap.size ≤ k ∨ k ∈ F) := by
  rintro t k hk (hq | hq)
  ·have := (h.free t k hk).1; omega
  ·exact h.xd t k (by simp [hq]) hk
 refine h.mem (h.below.trans (b1.mono hM)) b2 b4 ?_ ?_ (by simpa using b6) ?_ ?_
 ·intro b o hb
  rcases Nat.lt_or_ge b w.heap.size with hlt | hge
  ·rw [b3 b o hlt (fun hF => hb (hM b (.inr hF)))]
   exact h.sbase b o hb
  ·exact absurd (hM b (.inl hge)) hb
 ·intro t k hk
  refine ⟨b1.block k (hno t k hk), fun o => ?_⟩
  rw [b3 k o (h.free t k hk).1 (fun hF => hno t k hk (.inr hF))]
  exact (h.free t k hk).2.1 o
 ·intro t k hk hkt
  exact hno t k hkt (b7 k (by simpa using hk))
 ·intro k hk
  exact hM k (b7 k (by simpa using hk))
mutual
theorem zA.flatRep {S : z8}  : ∀ {r : A} {cs : List Value} {F : List Nat}, r.flat = true → zA S h r cs F → Rep S r cs
 | .atom _, _, _, _, q => by simp only [zA] at q; exact q.1
 | .agg fs, _, _, f, q => by simp only [A.flat] at f; simp only [zA] at q; simp only [Rep]; exact zy.flatReps f q
 | .tup fs, _, _, _, q => by simp only [zA] at q
 | .fn _ _, _, _, f, _ => by simp [A.flat] at f
 | .sl _ _ _, _, _, f, _ => by simp [A.flat] at f
 | .sptr _, _, _, f, _ => by simp [A.flat] at f
 | .dop _, _, _, f, _ => by simp [A.flat] at f
 | .osl _ _ _, _, _, f, _ => by simp [A.flat] at f
 | .box _, _, _, f, _ => by simp [A.flat] at f
 | .dead _, _, _, f, _ => by simp [A.flat] at f
 | .opq _, _, _, f, _ => by simp [A.flat] at f
theorem zy.flatReps {S : z8}  : ∀ {rs : List A} {cs : List Value} {F : List Nat}, A.flats rs = true → zy S h rs cs F → zV S rs cs
 | [], _, _, _, q => by simp only [zy] at q; simp only [zV]; exact q.1
 | r :: rs, _, _, f, q => by
  simp only [A.flats, Bool.and_eq_true] at f
  simp only [zy] at q
  have ⟨c1, c2, F1, F2, e1, e2, q1, q2⟩ := q
  simp only [zV]
  exact ⟨c1, c2, e1, zA.flatRep f.1 q1, zy.flatReps f.2 q2⟩
end
def z8e (tt : TT) (ctr : Ctr) (n : Fr) (dst : Option Nat) (f : Operand) (as_ : List (Operand × Nat)) : SM Unit := do
 let tf ← opnd f
 let vf ← val tf
 callA tt ctr n dst vf as_
theorem uP (h1 : P.funcs[k]? = some fn) (h2 : (fn.name == "runtime.NumGoroutine") = false) (h3 : fn.body.isNone = false) (args : Array Value) (w : World) : (callFunc k args).run P w = .ok (.enter k args) w := by
 simp only [callFunc, Sem.run_bind, program, Sem.run, Result.andThen_ok, h1, h2, h3, Bool.false_eq_true, if_false, Sem.run_pure]
theorem z8d {P : Program} {tt : TT}  (hC : uM P ctr) (h : Sim C S Fp [] st a w)  {f : Operand} {args : Array Operand} {tys : Array TypeId} (ho : o.op = .call { callee := .value f, args := args, argTypes := tys }) (hsz : args.size = tys.size) {u : Unit} {R : List Nat} {U : List (Nat × Ent)}
  (e : z8e tt ctr C.n o.dst f (args.toList.zip tys.toList) st = some (u, R, U)) : uU P C o a w (z7 U st) := by
 unfold z8e at e
 have ⟨tf, _, hx, e1⟩ := bR (zK h) e
 have ⟨vf, _, qf, e2⟩ := bR (ub h hx) e1
 try simp only [z7, List.nil_append] at e2 ⊢
 cases vf with
 | fn k caps =>
  simp only [callA] at e2
  simp only [yY] at qf
  have ⟨cf, q1, q2⟩ := qf
  simp only [Rep] at q1
  obtain ⟨vs, k1, k2, rfl⟩ := q1
  have ef : a.eval f = .func (.func k) #[] vs.toArray := q2
  have hmapargs : (args.toList.zip tys.toList).map (fun p => a.eval p.1) = (args.map a.eval).toList := by
   have : (args.toList.zip tys.toList).map (fun p => a.eval p.1) = ((args.toList.zip tys.toList).map (·.1)).map a.eval := by rw [List.map_map]; rfl
   rw [this, List.map_fst_zip (by simp [hsz])]
   simp
  have hexec : ∀ fn, P.funcs[k]? = some fn → (fn.name == "runtime.NumGoroutine") = false → fn.body.isNone = false → (execOp a.eval o).run P w = .ok (.enter k ((args.map a.eval).toList ++ vs).toArray) w := by
   intro fn c1 c2 c3
   have hc := uP (P := P) c1 c2 c3 (args.map a.eval ++ vs.toArray) w
   simp only [execOp, ho, resolve, ef, Deferred.ofValue, Sem.run_bind, Sem.run_pure, Result.andThen_ok, invoke, Array.empty_append]
   rw [hc]
   congr 2
   apply Array.ext'
   simp
  split at e2
  ·obtain ⟨xs, R5, U5, R6, U6, h5, e3, rfl, rfl⟩ := bind_some e2
   have hg : ∃ U', shutArgs tt (args.toList.zip tys.toList) st = some (xs, R5, U') ∧ U5 = [] := by
    unfold ghost at h5
    cases hs : shutArgs tt (args.toList.zip tys.toList) st with
    | none => simp [hs] at h5
    | some q =>
     have ⟨q1, q2, q3⟩ := q
     simp only [hs, Option.some.injEq, Prod.mk.injEq] at h5
     obtain ⟨rfl, rfl, rfl⟩ := h5
     exact ⟨q3, rfl, rfl⟩
   obtain ⟨U', hs, rfl⟩ := hg
   try simp only [z7, List.nil_append] at e3 ⊢
   cases hr : ctr.run k (ctr.norm k (xs ++ caps)) with
   | none => simp only [hr] at e3; cases e3
   | some r =>
    simp only [hr] at e3
    have ⟨⟨fn, c1, c2, c3⟩, hcall⟩ := hC.1 k _ r hr
    have ⟨S1, Fp1, g1, g2, _, g3⟩ := xX h hs
    have hcaps := Wt (k1.mono g2) k2
    rw [hmapargs] at g3
    have hC1 := hcall S1 w _ [] g1.still ((kX (g3.append hcaps)).norm ctr k) (by simp)
    intro rd m K Q hK
    refine ⟨fun _ _ => trivial, ?_⟩
    rw [xZ (hexec fn c1 c2 c3) (by simp), Oper.uponIn_enter]
    refine ⟨fun h => (by cases h), CallsIn.mono (qD hC1 rd (m - 1)) ?_⟩
    rintro en w' ⟨v, S', F', rfl, b1, b2, b3, b4, b5, b6, b7⟩
    show K (a.put o.dst v) w'
    have hold : ∀ k, k < w.heap.size → w'.heap[k]? = w.heap[k]? := fun k hk => b1.block k (by simp; omega)
    by_cases hfl : r.flat = true
    ·rw [if_pos hfl] at e3
     have hm : Sim C S Fp [] st a w' := h.mem (h.below.trans (b1.mono (fun k hk => h.mine k (Nat.le_trans h.base_le (by simpa using hk))))) (fun _ _ _ h => h) (fun b o v hs => by rw [xl (hold b (h.still_lt hs))]; exact h.still b o v hs) h.sbase
      (fun t k hk => ⟨hold k (h.free t k hk).1, (h.free t k hk).2.1⟩) (by simp) (by simp) (by simp)
     have b5' : yY S' r v := by
      rcases b5 with ⟨q, _⟩ | ⟨cs, q4, _, q6⟩
      ·exact q
      ·exact wi.repV ⟨cs, q4.flatRep hfl, q6⟩
     have ⟨Fp', hs'⟩ := wl hm e3 (x := .d r) (b5'.flat hfl)
     exact hK _ _ _ _ hs'
    ·rw [if_neg hfl] at e3
     obtain ⟨ys, R7, U7, R8, U8, h7, e4, rfl, rfl⟩ := bind_some e3
     rw [hs] at h7
     cases h7
     rw [zl] at hK
     have ⟨Fp', hs'⟩ := Qv (Sim.called (F := []) g1 b1 b2 b3 b4 b6 b7) e4 b5
     exact hK _ _ _ _ hs'
  ·split at e2
   ·rename_i hlen
    obtain ⟨xs, R5, U5, R6, U6, h5, e3, rfl, rfl⟩ := bind_some e2
    cases hr : ctr.run k (ctr.norm k (xs ++ caps)) with
    | none => simp only [hr] at e3; cases e3
    | some r =>
     simp only [hr] at e3
     have ⟨⟨fn, c1, c2, c3⟩, hcall⟩ := hC.1 k _ r hr
     have ⟨S1, Fp1, G, g1, g2, _, g3⟩ := WE h h5
     have hcaps := Wt (k1.mono g2) k2
     have hmap2 : ((ctr.gives k).zip (args.toList.zip tys.toList)).map (fun p => a.eval p.2.1) = (args.map a.eval).toList := by
      have : ((ctr.gives k).zip (args.toList.zip tys.toList)).map (fun p => a.eval p.2.1) = (((ctr.gives k).zip (args.toList.zip tys.toList)).map (·.2)).map (fun p => a.eval p.1) := by rw [List.map_map]; rfl
      rw [this, List.map_snd_zip (by omega), hmapargs]
     rw [hmap2] at g3
     have hGn := g1.xn
     rw [List.append_nil] at hGn
     have hC1 := hcall S1 w _ G g1.still ((g3.append (kX hcaps)).norm ctr k) hGn
     intro rd m K Q hK
     refine ⟨fun _ _ => trivial, ?_⟩
     rw [xZ (hexec fn c1 c2 c3) (by simp), Oper.uponIn_enter]
     refine ⟨fun h => (by cases h), CallsIn.mono (qD hC1 rd (m - 1)) ?_⟩
     rintro en w' ⟨v, S', F', rfl, b1, b2, b3, b4, b5, b6, b7⟩
     show K (a.put o.dst v) w'
     rw [zl] at hK
     have ⟨Fp', hs'⟩ := Qv (g1.called b1 b2 b3 b4 b6 b7) e3 b5
     exact hK _ _ _ _ hs'
   ·cases e2
 | _ => exact (wM (st := st) e2).elim
def X7 : A → Bool
 | .atom _ | .sptr _ | .dop _ | .sl _ _ _ | .fn _ _ => true
 | _ => false
def WN (tt : TT) (n : Fr) (dst : Option Nat) (f : Nat) (caps : List Operand) : SM Unit := do
 let xs ← shutArgs tt (caps.map fun x => (x, 0))
 if xs.all X7 = true then wrT n dst (.d (.fn f xs)) else zm
theorem V8 : ∀ {xs : List A} {vs : List Value}, uV (wi S) xs vs → (∀ c ∈ xs, c.size = 1 ∧ ∀ fs, c ≠ .agg fs) → zV S xs vs
 | [], [], _, _ => by simp [zV]
 | x :: xs, v :: vs, h, hc => by
  have ⟨⟨cs, h1, h2⟩, h3⟩ := h
  have ⟨hs, hna⟩ := hc x (by simp)
  have hl : cs.length = 1 := by rw [h1.len, hs]
  obtain ⟨u, rfl⟩ := List.length_eq_one_iff.1 hl
  have hv : v = u := by rw [h2]; cases x <;> first | rfl | exact absurd rfl (hna _)
  subst hv
  simp [zV]
  exact ⟨[v], vs, rfl, h1, V8 h3 (fun c hc' => hc c (by simp [hc']))⟩
 | [], _ :: _, h, _ => h.elim
 | _ :: _, [], h, _ => h.elim
theorem KA (h : Sim C S Fp [] st a w)  {f : Nat}  (ho : o.op = .makeFunc (.func f) #[] caps)    (e : WN tt C.n o.dst f caps.toList st = some (u, R, U)) : uU P C o a w (z7 U st) := by
 unfold WN at e
 obtain ⟨xs, R1, U1, R2, U2, h1, e1, rfl, rfl⟩ := bind_some e
 have ⟨S1, Fp1, g1, g2, _, g3⟩ := xX h h1
 rw [zl]
 split at e1
 ·rename_i hall
  have hc : ∀ c ∈ xs, c.size = 1 ∧ ∀ fs, c ≠ .agg fs := by
   intro c hc
   have := List.all_eq_true.1 hall c hc
   cases c <;> simp_all [X7, A.size]
  have hmap : (caps.toList.map fun x => (x, 0)).map (fun p => a.eval p.1) = (caps.map a.eval).toList := by simp [List.map_map, Function.comp_def]
  rw [hmap] at g3
  have ⟨Fp', hs⟩ := wl g1 e1 (x := .d (.fn f xs)) (v := .func (.func f) #[] (caps.map a.eval)) (by
   simp [TOk, yY]
   refine ⟨[.func (.func f) #[] (caps.map a.eval)], ?_, rfl⟩
   simp [Rep]
   exact ⟨(caps.map a.eval).toList, V8 g3 hc, hc, by rw [Array.toArray_toList]⟩)
  exact zo (by simp [execOp, ho, Instr.makeFunc]) hs
 ·cases e1
end
def stepO (tt : TT) (ctr : Ctr) (n : Fr) (o : Oper) : SM Unit :=
 match o.op with
 | .move x => z7c n o.dst x
 | .assign x => Qg tt n o.dst o.type x
 | .binOp op xt x y _ => z3i tt n o.dst op xt x y
 | .unOp op _ x => z67 n o.dst op x
 | .convert s t x => z55 tt n o.dst s t x
 | .pick c x y => z2j n o.dst c x y
 | .extract x i => XX n o.dst x i
 | .nilCheck x => nilCheckO n o.dst x
 | .slice t x lo hi mx => sliceO tt n o.dst t x lo hi mx
 | .load t x => z7g tt n o.dst t x
 | .store t x v => z1N tt o.dst t x v
 | .fieldAddr t x i => Xg tt n o.dst t i x
 | .indexAddr t x i => Xd tt n o.dst t x i
 | .alloc t => z3q tt n o.dst t
 | .box t x => zcz tt n o.dst t x
 | .makeSlice t l c => jk tt n o.dst t l c
 | .buildSlice t len ps => vL tt n o.dst t len ps.toList
 | .build t ps => Ua tt n o.dst t ps.toList
 | .makeFunc (.func f) ⟨[]⟩ caps => WN tt n o.dst f caps.toList
 | .call ⟨.builtin .len, ⟨[x]⟩, ⟨[t]⟩⟩ => zcQ tt n o.dst t x
 | .call ⟨.builtin .cap, ⟨[x]⟩, ⟨[t]⟩⟩ => zd8 tt n o.dst t x
 | .call ⟨.builtin .append, ⟨[s, x]⟩, ⟨[t, t']⟩⟩ => if t = t' then Qj tt n o.dst t s x else zm
 | .call ⟨.value f, args, tys⟩ => if args.size = tys.size then z8e tt ctr n o.dst f (args.toList.zip tys.toList) else zm
 | _ => zm
variable {ops : Array Oper}{α : Type}{rd : Option Nat}{Q : Exit → Act → World → Prop}{m : Nat}
section
variable {C : Ctx} {S : z8} {Fp : Nat → List Nat} {X : List Nat} {st : St} {a : Act} {w : World}
theorem z3Y (hT : ut P tt) (hC : uM P ctr) (h : Sim C S Fp [] st a w)     (e : stepO tt ctr C.n o st = some (u, R, U)) : uU P C o a w (z7 U st) := by
 unfold stepO at e
 cases ho : o.op with
 | move x => simp [ho] at e; exact z7b h ho e
 | assign x => simp [ho] at e; exact z3l h ho e
 | binOp op xt x y yt => simp [ho] at e; exact z5j hT h ho e
 | unOp op xt x => simp [ho] at e; exact z66 h ho e
 | convert s t x => simp [ho] at e; exact z83 hT h ho e
 | pick c x y => simp [ho] at e; exact z76 h ho e
 | extract x i => simp [ho] at e; exact Xh h ho e
 | nilCheck x => simp [ho] at e; exact Y1 h ho e
 | slice t x lo hi mx => simp [ho] at e; exact UE hT h ho e
 | load t x => simp [ho] at e; exact WO hT h ho e
 | store t x v => simp [ho] at e; exact UB hT h ho e
 | fieldAddr t x i => simp [ho] at e; exact kT hT h ho e
 | indexAddr t x i => simp [ho] at e; exact kP hT h ho e
 | alloc t => simp [ho] at e; exact Qk hT h ho e
 | box t x => simp [ho] at e; exact z3g h ho e
 | makeSlice t l c => simp [ho] at e; exact kN hT h ho e
 | buildSlice t len ps => simp [ho] at e; exact jX hT h ho e
 | build t ps => simp [ho] at e; exact Qd hT h ho e
 | makeFunc fn first caps =>
  cases fn with
  | func f =>
   have ⟨l⟩ := first
   cases l with
   | nil => simp [ho] at e; exact KA h ho e
   | cons _ _ => simp [ho] at e; cases e
  | _ => simp [ho] at e; cases e
 | call c =>
  have ⟨callee, ⟨args⟩, ⟨tys⟩⟩ := c
  cases callee with
  | value f =>
   simp [ho] at e
   split at e
   ·rename_i hsz; exact z8d hC h ho hsz e
   ·cases e
  | invoke r m => simp [ho] at e; cases e
  | builtin b =>
   cases b with
   | len =>
    rcases args with _ | ⟨x, _ | ⟨y, l⟩⟩ <;> rcases tys with _ | ⟨t, _ | ⟨t', l'⟩⟩ <;> simp [ho] at e <;> first | cases e | exact z2E hT h ho e
   | cap =>
    rcases args with _ | ⟨x, _ | ⟨y, l⟩⟩ <;> rcases tys with _ | ⟨t, _ | ⟨t', l'⟩⟩ <;> simp [ho] at e <;> first | cases e | exact z3d hT h ho e
   | append =>
    rcases args with _ | ⟨x, _ | ⟨y, _ | ⟨z, l⟩⟩⟩ <;> rcases tys with _ | ⟨t, _ | ⟨t', _ | ⟨t'', l'⟩⟩⟩ <;> simp [ho] at e <;> first | cases e | skip
    split at e
    ·rename_i ht; subst ht; exact V6 hT h ho e
    ·cases e
   | _ => simp [ho] at e; cases e
 | _ => simp [ho] at e; cases e
def stepX (tt : TT) (ctr : Ctr) (n : Fr) (o : Oper) : SM Unit :=
 match ctr.ext n o with
 | some m => m
 | none => stepO tt ctr n o
theorem KX (hT : ut P tt) (hC : uM P ctr) (h : Sim C S Fp [] st a w)     (e : stepX tt ctr C.n o st = some (u, R, U)) : uU P C o a w (z7 U st) := by
 unfold stepX at e
 cases hm : ctr.ext C.n o with
 | some m =>
  simp [hm] at e
  exact hC.2.1 _ _ _ _ _ _ _ _ _ _ _ hm h e
 | none =>
  simp [hm] at e
  exact z3Y hT hC h e
def stepG (tt : TT) (ctr : Ctr) (n : Fr) (ops : Array Oper) (o : Oper) : SM Unit :=
 match o.guard with
 | none => stepX tt ctr n o
 | some (j, want) =>
  match (ops[j]?).bind (·.dst) with
  | some g => do
   let e ← rdE g
   match e.t with
   | .d (.atom (.bool b)) => if b = want then stepX tt ctr n o else wrT n o.dst (.d (.tup []))
   | .d (.tup []) => wrT n o.dst (.d (.tup []))
   | _ => zm
  | none => zm
def z5s (P : Program) (C : Ctx) (ops : Array Oper) (o : Oper) (a : Act) (w : World) (st' : St) : Prop :=
 ∀ (r : Option Nat) (m : Nat) (K : Act → World → Prop) (Q : Exit → Act → World → Prop), (∀ S Fp a' w', Sim C S Fp [] st' a' w' → K a' w') →
  if Region.wanted o (yielded ops a.tmps) then o.wpIn (fen r) m P a w K Q else (∀ f, o.about P w a.eval = some f → (fen r).fn f) ∧ K (a.put o.dst undef) w
theorem Jg (h : Sim C S Fp [] st a w) {dst : Option Nat}    (e : wrT C.n dst (.d (.tup [])) st = some (u, R, U)) : ∃ Fp', Sim C S Fp' [] (z7 U st) (a.put dst undef) w := by
 rcases Ug e with ⟨rfl, rfl⟩ | ⟨k, rfl, hk, rfl⟩
 ·exact ⟨Fp, h⟩
 ·exact ⟨_, h.put hk (.d (.tup [])) [] undef (by simp [yQ, and_true]; exact ⟨[], rfl, trivial⟩) (by simp) (by simp) (by simp) (by simp) (by simp) (by simp)⟩
theorem XI (hT : ut P tt) (hC : uM P ctr) (h : Sim C S Fp [] st a w)      (e : stepG tt ctr C.n ops o st = some (u, R, U)) : z5s P C ops o a w (z7 U st) := by
 unfold stepG at e
 cases hg : o.guard with
 | none =>
  simp only [hg] at e
  intro rd m K Q hK
  simp only [Region.wanted, hg, if_true]
  exact KX hT hC h e rd m K Q hK
 | some q =>
  have ⟨j, want⟩ := q
  simp only [hg] at e
  cases hd : (ops[j]?).bind (·.dst) with
  | none => simp only [hd] at e; cases e
  | some g =>
   simp only [hd] at e
   have ⟨_, e1⟩ := bD e
   have hent := h.ent g
   unfold yQ at hent
   cases ht : (st g).t with
   | d y =>
    simp only [ht] at e1 hent
    cases y with
    | atom vv =>
     cases vv with
     | bool b =>
      simp only at e1
      have hv := (zw.1 hent.1).1
      have hy : yielded ops a.tmps j = some b := by
       unfold yielded
       rw [hd]
       simp only [Option.bind_some]
       have : a.tmps[g]? = some (.bool b) := by
        unfold Act.tv at hv
        rw [Array.getD_eq_getD_getElem?] at hv
        cases hx : a.tmps[g]? with
        | none => rw [hx] at hv; simp [undef] at hv
        | some u => rw [hx] at hv; simp at hv; rw [hv]
       rw [this]
      intro rd m K Q hK
      simp only [Region.wanted, hg, hy]
      by_cases hb : b = want
      ·rw [if_pos hb] at e1
       rw [if_pos (by simp [hb])]
       exact KX hT hC h e1 rd m K Q hK
      ·rw [if_neg hb] at e1
       rw [if_neg (by simpa using hb)]
       have ⟨Fp', hs⟩ := Jg h e1
       exact ⟨fun _ _ => trivial, hK _ _ _ _ hs⟩
     | _ => cases e1
    | tup fs =>
     cases fs with
     | nil =>
      simp only at e1
      have ⟨vs, hv, hvs⟩ := hent.1
      have hvs0 : vs = [] := by cases vs <;> first | rfl | exact hvs.elim
      subst hvs0
      have hy : yielded ops a.tmps j = none := by
       unfold yielded
       rw [hd]
       simp only [Option.bind_some]
       unfold Act.tv at hv
       rw [Array.getD_eq_getD_getElem?] at hv
       cases hx : a.tmps[g]? with
       | none => rfl
       | some u => rw [hx] at hv; simp at hv; rw [hv]
      intro rd m K Q hK
      simp only [Region.wanted, hg, hy]
      rw [if_neg (by simp)]
      have ⟨Fp', hs⟩ := Jg h e1
      exact ⟨fun _ _ => trivial, hK _ _ _ _ hs⟩
     | cons _ _ => cases e1
    | _ => cases e1
   | _ => simp only [ht] at e1; cases e1
def Kn (tt : TT) (ctr : Ctr) (n : Fr) (ops : Array Oper) : List Oper → St → Option St
 | [], st => some st
 | o :: os, st =>
  match stepG tt ctr n ops o st with
  | some (_, _, U) => Kn tt ctr n ops os (z7 U st)
  | none => none
theorem Ws {rd : Option Nat} {m : Nat}    (hT : ut P tt) (hC : uM P ctr)  {Q : Exit → Act → World → Prop} : ∀ (l : List Oper) {st st' : St} {S : z8} {Fp : Nat → List Nat} {a : Act} {w : World}, Sim C S Fp [] st a w → Kn tt ctr C.n ops l st = some st' →
  (∀ S Fp a' w', Sim C S Fp [] st' a' w' → Q .normal a' w') → wpListIn (fen rd) m P ops Q l a w
 | [], st, st', S, Fp, a, w, h, e, hQ => by
  simp [Kn, Option.some.injEq] at e
  subst e
  exact hQ _ _ _ _ h
 | o :: os, st, st', S, Fp, a, w, h, e, hQ => by
  simp [Kn] at e
  cases hs : stepG tt ctr C.n ops o st with
  | none => simp [hs] at e
  | some q =>
   have ⟨u, R, U⟩ := q
   simp [hs] at e
   refine wpListIn_step fun K hK => ?_
   exact XI hT hC h hs rd m K Q fun S' Fp' a' w' h' => hK _ _ (Ws hT hC os h' e hQ)
def Loc (m : SM α) : Prop := ∀ st st' a R U, m st = some (a, R, U) → (∀ k ∈ R, st' k = st k) → m st' = some (a, R, U)
theorem qU (us : List (Nat × Ent)) {st st' : St}  (h : st' k = st k) : z7 us st' k = z7 us st k := by
 induction us generalizing st st' with
 | nil => exact h
 | cons u us ih =>
  simp [z7]
  refine ih ?_
  unfold upd
  split
  ·rfl
  ·exact h
theorem Loc.bind {α β : Type} {m : SM α} {f : α → SM β} (h1 : Loc m) (h2 : ∀ a, Loc (f a)) : Loc (m >>= f) := by
 intro st st' b R U e hR
 obtain ⟨a, R1, U1, R2, U2, q1, q2, rfl, rfl⟩ := bind_some e
 have k1 := h1 st st' a R1 U1 q1 (fun k hk => hR k (by simp [hk]))
 have k2 := h2 a _ (z7 U1 st') b R2 U2 q2 (fun k hk => qU U1 (hR k (by simp [hk])))
 show SM.bind m f st' = _
 unfold SM.bind
 rw [k1]
 simp [k2]
theorem Loc.pure (a : α) : Loc (Pure.pure a : SM α) := by
 intro st st' b R U e _
 cases e
 rfl
theorem Loc.fail : Loc (zm : SM α) := by
 intro st st' b R U e _
 cases e
theorem Loc.rdE (k : Nat) : Loc (rdE k) := by
 intro st st' b R U e h
 obtain ⟨rfl, rfl, rfl⟩ := u6 e
 simp [Go.Own.rdE, h k (by simp)]
theorem Loc.wrE (k : Nat) (x : Ent) : Loc (wrE k x) := by
 intro st st' b R U e _
 cases e
 rfl
theorem Loc.ofO (x : Option α) : Loc (ofO x) := by
 intro st st' b R U e _
 obtain ⟨h, rfl, rfl⟩ := zp e
 simp [Go.Own.ofO, h]
theorem Loc.ghost {m : SM α} (h : Loc m) : Loc (ghost m) := by
 intro st st' b R U e hR
 unfold Go.Own.ghost at e ⊢
 cases hs : m st with
 | none => simp [hs] at e
 | some q =>
  have ⟨q1, q2, q3⟩ := q
  simp [hs, Option.some.injEq, Prod.mk.injEq] at e
  obtain ⟨rfl, rfl, rfl⟩ := e
  rw [h st st' _ _ _ hs hR]
end
theorem Loc.opnd (x : Operand) : Loc (opnd x) := by
 cases x <;> simp [Go.Own.opnd]
 ·refine Loc.bind (Loc.rdE _) fun e => ?_
  split <;> first | exact Loc.pure _ | exact Loc.fail
 ·split <;> first | exact Loc.pure _ | exact Loc.fail
 ·first | exact Loc.fail | (split <;> first | exact Loc.pure _ | exact Loc.fail)
 ·exact Loc.pure _
theorem Loc.look (r : Nat) (p : List uK) (er ec : Nat) : Loc (look r p er ec) := by
 unfold Go.Own.look
 refine Loc.bind (Loc.rdE _) fun e => ?_
 split
 ·split <;> first | exact Loc.ofO _ | exact Loc.fail
 ·split <;> first | exact Loc.pure _ | exact Loc.fail
 ·exact Loc.fail
theorem Loc.lookP (r : Nat) (p : List uK) (er ec : Nat) : Loc (lookP r p er ec) := by
 unfold Go.Own.lookP
 refine Loc.bind (Loc.rdE _) fun e => ?_
 split
 ·split <;> first | exact Loc.ofO _ | exact Loc.fail
 ·exact Loc.fail
theorem Loc.val (x : T) : Loc (val x) := by
 unfold Go.Own.val
 split
 ·exact Loc.pure _
 ·refine Loc.bind (Loc.look _ _ _ _) fun y => ?_
  split <;> first | exact Loc.pure _ | exact Loc.fail
 ·exact Loc.fail
theorem Loc.take (x : T) : Loc (take x) := by
 unfold Go.Own.take
 split
 ·exact Loc.pure _
 ·refine Loc.bind (Loc.look _ _ _ _) fun y => ?_
  split
  ·exact Loc.pure _
  ·split
   ·refine Loc.bind (Loc.rdE _) fun e => ?_
    split
    ·split
     ·exact Loc.bind (Loc.wrE _ _) fun _ => Loc.pure _
     ·exact Loc.bind (Loc.wrE _ _) fun _ => Loc.pure _
    ·exact Loc.fail
   ·exact Loc.fail
 ·exact Loc.fail
theorem Loc.takeC (tt : TT) (t : Nat) (x : T) : Loc (takeC tt t x) := Loc.bind (Loc.take x) fun _ => Loc.pure _
theorem Loc.wrT (n : Fr) (dst : Option Nat) (x : T) : Loc (wrT n dst x) := by
 unfold Go.Own.wrT
 split
 ·exact Loc.pure _
 ·split
  ·exact Loc.bind (Loc.rdE _) fun _ => Loc.wrE _ _
  ·exact Loc.fail
theorem Loc.ptrOf (x : T) : Loc (ptrOf x) := by
 unfold Go.Own.ptrOf
 split
 ·exact Loc.pure _
 ·exact Loc.pure _
 ·refine Loc.bind (Loc.rdE _) fun e => Loc.bind (Loc.look _ _ _ _) fun y => ?_
  split <;> first | exact Loc.pure _ | exact Loc.fail
 ·exact Loc.fail
theorem Loc.peek (x : T) : Loc (peek x) := by
 unfold Go.Own.peek
 split
 ·exact Loc.pure _
 ·exact Loc.look _ _ _ _
 ·exact Loc.fail
theorem Loc.shutT (tt : TT) (t : Nat) (x : T) : Loc (shutT tt t x) := by
 unfold Go.Own.shutT
 split
 ·exact Loc.fail
 ·exact Loc.pure _
 ·refine Loc.bind (Loc.look _ _ _ _) fun y => ?_
  split
  ·exact Loc.pure _
  ·split
   ·refine Loc.bind (Loc.rdE _) fun e => ?_
    split
    ·split
     ·exact Loc.bind (Loc.wrE _ _) fun _ => Loc.pure _
     ·exact Loc.bind (Loc.wrE _ _) fun _ => Loc.pure _
    ·exact Loc.fail
   ·exact Loc.fail
 ·exact Loc.fail
theorem Loc.shutArgs (tt : TT) : ∀ as_, Loc (shutArgs tt as_)
 | [] => Loc.pure _
 | (x, t) :: as_ => Loc.bind (Loc.opnd x) fun _ => Loc.bind (Loc.shutT tt t _) fun _ => Loc.bind (Loc.shutArgs tt as_) fun _ => Loc.pure _
theorem Loc.takes (tt : TT) : ∀ ps, Loc (takes ps tt)
 | [] => Loc.pure _
 | (x, t) :: ps => Loc.bind (Loc.opnd x) fun _ => Loc.bind (Loc.takeC tt t _) fun _ => Loc.bind (Loc.takes tt ps) fun _ => Loc.pure _
theorem Loc.ite {c : Prop} [Decidable c] {x y : SM α} (h1 : Loc x) (h2 : Loc y) : Loc (if c then x else y) := by split <;> assumption
theorem Loc.loadA (tt : TT) (n : Fr) (dst : Option Nat) (t : Nat) (x : T) : Loc (loadA tt n dst t x) := by
 unfold Go.Own.loadA
 refine Loc.bind (Loc.ptrOf x) fun q => ?_
 split
 ·exact Loc.ite (Loc.wrT _ _ _) Loc.fail
 ·exact Loc.bind (Loc.lookP _ _ _ _) fun y => Loc.ite (Loc.ite (Loc.wrT _ _ _) (Loc.wrT _ _ _)) Loc.fail
theorem Loc.storeA (tt : TT) (t : Nat) (x v : T) : Loc (storeA tt t x v) := by
 unfold Go.Own.storeA
 refine Loc.bind (Loc.ptrOf x) fun q => ?_
 split
 ·exact Loc.fail
 ·refine Loc.bind (Loc.takeC _ _ _) fun y => Loc.bind (Loc.rdE _) fun e => ?_
  split
  ·refine Loc.ite ?_ Loc.fail
   split
   ·exact Loc.ite (Loc.wrE _ _) Loc.fail
   ·exact Loc.fail
  ·exact Loc.fail
theorem Loc.fieldAddrA (tt : TT) (n : Fr) (dst : Option Nat) (t i : Nat) (x : T) : Loc (fieldAddrA tt n dst t i x) := by
 unfold Go.Own.fieldAddrA
 refine Loc.bind (Loc.ptrOf x) fun q => ?_
 split
 ·split
  ·exact Loc.ite (Loc.wrT _ _ _) Loc.fail
  ·exact Loc.fail
 ·exact Loc.fail
 ·refine Loc.bind (Loc.lookP _ _ _ _) fun y => ?_
  split
  ·exact Loc.ite (Loc.wrT _ _ _) Loc.fail
  ·exact Loc.fail
theorem Loc.indexAddrA (tt : TT) (n : Fr) (dst : Option Nat) (t : Nat) (x : T) (i : A) : Loc (indexAddrA tt n dst t x i) := by
 unfold Go.Own.indexAddrA
 split
 ·split
  ·refine Loc.ite ?_ Loc.fail
   split
   ·exact Loc.wrT _ _ _
   ·exact Loc.fail
  ·refine Loc.bind (Loc.rdE _) fun e => Loc.bind (Loc.look _ _ _ _) fun y => ?_
   split
   ·exact Loc.ite (Loc.wrT _ _ _) Loc.fail
   ·refine Loc.ite ?_ Loc.fail
    split
    ·exact Loc.wrT _ _ _
    ·exact Loc.fail
   ·exact Loc.fail
  ·exact Loc.fail
 ·exact Loc.fail
theorem Loc.indexArrA (tt : TT) (n : Fr) (dst : Option Nat) (t : Nat) (x : T) (i : A) : Loc (indexArrA tt n dst t x i) := by
 unfold Go.Own.indexArrA
 split
 ·refine Loc.bind (Loc.ptrOf x) fun q => ?_
  split
  ·split
   ·exact Loc.ite (Loc.wrT _ _ _) Loc.fail
   ·exact Loc.fail
  ·exact Loc.fail
  ·refine Loc.bind (Loc.lookP _ _ _ _) fun y => ?_
   split
   ·exact Loc.ite (Loc.wrT _ _ _) Loc.fail
   ·exact Loc.fail
 ·exact Loc.fail
theorem Loc.appendA (tt : TT) (n : Fr) (dst : Option Nat) (t : Nat) (s x : T) : Loc (appendA tt n dst t s x) := by
  unfold Go.Own.appendA
  split
  · split
    · refine Loc.bind (Loc.peek _) fun y => ?_
      split
      all_goals first
        | exact Loc.fail
        | (refine Loc.ite (Loc.bind (Loc.takeC _ _ _) fun z => ?_) Loc.fail
           split
           · exact Loc.ite (Loc.wrT _ _ _) Loc.fail
           · exact Loc.ite (Loc.wrT _ _ _) Loc.fail
           · exact Loc.fail)
    · exact Loc.fail
  · exact Loc.fail
theorem Loc.appendOwnA (tt : TT) (n : Fr) (dst : Option Nat) (t : Nat) (s x : Operand) : Loc (appendOwnA tt n dst t s x) := by
 unfold Go.Own.appendOwnA
 split
 ·split
  ·refine Loc.ite ?_ Loc.fail
   refine Loc.bind (Loc.opnd _) fun _ => Loc.bind (Loc.take _) fun y => Loc.bind (Loc.opnd _) fun _ => Loc.bind (Loc.takeC _ _ _) fun z => ?_
   split
   ·exact Loc.ite (Loc.wrT _ _ _) Loc.fail
   ·exact Loc.fail
  ·exact Loc.fail
 ·exact Loc.fail
theorem Loc.passArgs (tt : TT) : ∀ (as_ : List (Bool × Operand × Nat)), Loc (passArgs tt as_)
 | [] => Loc.pure _
 | (g, x, t) :: as_ => Loc.bind (Loc.opnd x) fun y => Loc.bind (Loc.ite (Loc.takeC tt t y) (Loc.shutT tt t y)) fun _ => Loc.bind (Loc.passArgs tt as_) fun _ => Loc.pure _
theorem Loc.callA (tt : TT) (ctr : Ctr) (n : Fr) (dst : Option Nat) (f : A) (as_ : List (Operand × Nat)) : Loc (callA tt ctr n dst f as_) := by
 unfold Go.Own.callA
 split
 ·refine Loc.ite (Loc.bind (Loc.shutArgs tt as_).ghost fun xs => ?_) (Loc.ite (Loc.bind (Loc.passArgs tt _) fun xs => ?_) Loc.fail)
  ·split
   ·exact Loc.ite (Loc.wrT _ _ _) (Loc.bind (Loc.shutArgs tt as_) fun _ => Loc.wrT _ _ _)
   ·exact Loc.fail
  ·split
   ·exact Loc.wrT _ _ _
   ·exact Loc.fail
 ·exact Loc.fail
theorem Loc.nilCheckO (n : Fr) (dst : Option Nat) (x : Operand) : Loc (nilCheckO n dst x) := by
 unfold Go.Own.nilCheckO
 refine Loc.bind (Loc.opnd _) fun y => ?_
 split
 ·exact Loc.wrT _ _ _
 ·refine Loc.bind (Loc.ptrOf _) fun q => ?_
  split
  ·exact Loc.wrT _ _ _
  ·exact Loc.bind (Loc.lookP _ _ _ _) fun _ => Loc.wrT _ _ _
theorem Loc.bound (dflt : Nat) (x : Option Operand) : Loc (bound dflt x) := by
 cases x with
 | none => exact Loc.pure _
 | some x =>
  refine Loc.bind (Loc.opnd _) fun t => Loc.bind (Loc.val _) fun v => ?_
  split
  ·exact Loc.ite (Loc.pure _) Loc.fail
  ·exact Loc.fail
theorem Loc.sliceO (tt : TT) (n : Fr) (dst : Option Nat) (t : Nat) (x : Operand) (lo hi mx : Option Operand) : Loc (sliceO tt n dst t x lo hi mx) := by
 unfold Go.Own.sliceO
 refine Loc.bind (Loc.opnd _) fun y => ?_
 split
 ·refine Loc.ite (Loc.bind (Loc.bound _ _) fun l => Loc.bind (Loc.bound _ _) fun h => ?_) Loc.fail
  split
  ·exact Loc.ite (Loc.wrT _ _ _) Loc.fail
  ·exact Loc.bind (Loc.bound _ _) fun m => Loc.ite (Loc.wrT _ _ _) Loc.fail
 ·exact Loc.fail
theorem Loc.stepO (tt : TT) (ctr : Ctr) (n : Fr) (o : Oper) : Loc (stepO tt ctr n o) := by
 unfold Go.Own.stepO
 split
 ·exact Loc.bind (Loc.opnd _) fun _ => Loc.wrT _ _ _
 ·unfold Qg
  refine Loc.bind (Loc.opnd _) fun y => ?_
  split
  ·exact Loc.wrT _ _ _
  ·exact Loc.bind (Loc.takeC _ _ _) fun _ => Loc.wrT _ _ _
 ·exact Loc.bind (Loc.opnd _) fun _ => Loc.bind (Loc.val _) fun _ => Loc.bind (Loc.opnd _) fun _ => Loc.bind (Loc.val _) fun _ => Loc.bind (Loc.ofO _) fun _ => Loc.wrT _ _ _
 ·exact Loc.bind (Loc.opnd _) fun _ => Loc.bind (Loc.val _) fun _ => Loc.bind (Loc.ofO _) fun _ => Loc.wrT _ _ _
 ·unfold z55
  refine Loc.bind (Loc.opnd _) fun _ => Loc.bind (Loc.val _) fun v => ?_
  split
  ·split
   ·split
    ·exact Loc.wrT _ _ _
    ·exact Loc.fail
   ·exact Loc.fail
  ·exact Loc.fail
 ·unfold z2j
  refine Loc.bind (Loc.opnd _) fun _ => Loc.bind (Loc.val _) fun v => ?_
  split
  ·exact Loc.bind (Loc.opnd _) fun _ => Loc.wrT _ _ _
  ·exact Loc.bind (Loc.opnd _) fun _ => Loc.wrT _ _ _
  ·exact Loc.fail
 ·unfold XX
  refine Loc.bind (Loc.opnd _) fun t => ?_
  split
  ·split
   ·exact Loc.wrT _ _ _
   ·exact Loc.fail
  ·exact Loc.fail
 ·exact Loc.nilCheckO _ _ _
 ·exact Loc.sliceO _ _ _ _ _ _ _ _
 ·exact Loc.bind (Loc.opnd _) fun _ => Loc.loadA _ _ _ _ _
 ·exact Loc.ite (Loc.bind (Loc.opnd _) fun _ => Loc.bind (Loc.opnd _) fun _ => Loc.storeA _ _ _ _) Loc.fail
 ·exact Loc.bind (Loc.opnd _) fun _ => Loc.fieldAddrA _ _ _ _ _ _
 ·exact Loc.bind (Loc.opnd _) fun _ => Loc.bind (Loc.opnd _) fun _ => Loc.bind (Loc.val _) fun _ => Loc.ite (Loc.indexArrA _ _ _ _ _ _) (Loc.indexAddrA _ _ _ _ _ _)
 ·exact Loc.bind (Loc.ofO _) fun _ => Loc.bind (Loc.ofO _) fun _ => Loc.wrT _ _ _
 ·unfold zcz
  refine Loc.bind (Loc.opnd _) fun _ => Loc.bind (Loc.takeC _ _ _) fun z => ?_
  split
  ·exact Loc.fail
  ·exact Loc.ite (Loc.wrT _ _ _) Loc.fail
 ·unfold jk
  refine Loc.bind (Loc.opnd _) fun _ => Loc.bind (Loc.val _) fun vl => Loc.bind (Loc.opnd _) fun _ => Loc.bind (Loc.val _) fun vc => ?_
  split
  ·split
   ·split
    ·split
     ·exact Loc.ite (Loc.wrT _ _ _) Loc.fail
     ·exact Loc.fail
    ·exact Loc.fail
   ·exact Loc.fail
  ·exact Loc.fail
 ·unfold vL
  split
  ·split
   ·split
    ·exact Loc.bind (Loc.takes _ _) fun _ => Loc.ite (Loc.wrT _ _ _) Loc.fail
    ·exact Loc.fail
   ·exact Loc.fail
  ·exact Loc.fail
 ·unfold Ua
  split
  ·split
   ·exact Loc.bind (Loc.takes _ _) fun _ => Loc.ite (Loc.wrT _ _ _) Loc.fail
   ·exact Loc.fail
  ·exact Loc.fail
 ·exact Loc.bind (Loc.shutArgs _ _) fun _ => Loc.ite (Loc.wrT _ _ _) Loc.fail
 ·exact Loc.bind (Loc.opnd _) fun _ => Loc.bind (Loc.peek _) fun _ => Loc.bind (Loc.ofO _) fun _ => Loc.ite (Loc.wrT _ _ _) Loc.fail
 ·exact Loc.bind (Loc.opnd _) fun _ => Loc.bind (Loc.peek _) fun _ => Loc.bind (Loc.ofO _) fun _ => Loc.ite (Loc.wrT _ _ _) Loc.fail
 ·refine Loc.ite ?_ Loc.fail
  unfold Qj
  refine Loc.bind (Loc.opnd _) fun _ => Loc.bind (Loc.opnd _) fun _ => Loc.bind (Loc.peek _) fun y => ?_
  split
  ·exact Loc.ite (Loc.appendA _ _ _ _ _ _) (Loc.appendOwnA _ _ _ _ _ _)
  ·exact Loc.appendA _ _ _ _ _ _
 ·exact Loc.ite (Loc.bind (Loc.opnd _) fun _ => Loc.bind (Loc.val _) fun _ => Loc.callA _ _ _ _ _ _) Loc.fail
 ·exact Loc.fail
theorem Loc.stepX (hC : uM P ctr) (tt : TT) (n : Fr) (o : Oper) : Loc (stepX tt ctr n o) := by
 unfold Go.Own.stepX
 cases hm : ctr.ext n o with
 | some m => exact fun st st' a R U => hC.2.2 n o m hm st st' a R U
 | none => exact Loc.stepO _ _ _ _
theorem Loc.stepG (hC : uM P ctr) (tt : TT) (n : Fr) (ops : Array Oper) (o : Oper) : Loc (stepG tt ctr n ops o) := by
 unfold Go.Own.stepG
 split
 ·exact Loc.stepX hC _ _ _
 ·split
  ·refine Loc.bind (Loc.rdE _) fun e => ?_
   split
   ·exact Loc.ite (Loc.stepX hC _ _ _) (Loc.wrT _ _ _)
   ·exact Loc.wrT _ _ _
   ·exact Loc.fail
  ·exact Loc.fail
abbrev Log := List Nat × List (Nat × Ent)
def z5U (tt : TT) (ctr : Ctr) (n : Fr) (ops : Array Oper) : List Oper → St → Option (List Log × St)
 | [], st => some ([], st)
 | o :: os, st =>
  match stepG tt ctr n ops o st with
  | some (_, R, U) =>
   match z5U tt ctr n ops os (z7 U st) with
   | some (l, st') => some ((R, U) :: l, st')
   | none => none
  | none => none
def KQ (acc : List Nat) (o : Oper) : Nat := o.after.toList.foldl (fun s e => if Region.binds .any e = true then s ||| 2 ^ e.on ||| acc.getD e.on 0 else s) 0
def jZ : List Oper → List Nat → List Nat
 | [], acc => acc
 | o :: os, acc => jZ os (acc ++ [KQ acc o])
def z5a (R W R' W' : List Nat) : Bool := W.any (fun k => W'.contains k || R'.contains k) || R.any (fun k => W'.contains k)
def Xi (ops : List Oper) : Bool := ops.zipIdx.all fun p => p.1.after.toList.all fun e => !Region.binds .any e || e.on < p.2
def z0y (l : Log) : List Nat × List Nat := (l.1, l.2.map (·.1))
def jp (ops : List Oper) (logs : List (List Nat × List Nat)) : Bool :=
 Xi ops && (List.range ops.length).all fun j => (List.range j).all fun i =>
  !(z5a (logs.getD i ([], [])).1 (logs.getD i ([], [])).2 (logs.getD j ([], [])).1 (logs.getD j ([], [])).2) || ((jZ ops []).getD j 0).testBit i
def YP (k : Nat) (us : List (Nat × Ent)) : List (Nat × Ent) := us.filter fun u => u.1 == k
theorem V5 (us : List (Nat × Ent)) (st : St) (k : Nat) : z7 us st k = z7 (YP k us) st k := by
 induction us generalizing st with
 | nil => rfl
 | cons u us ih =>
  simp only [z7, YP, List.filter_cons]
  by_cases h : u.1 = k
  ·simp only [h, beq_self_eq_true, if_true, z7]
   exact ih _
  ·have : (u.1 == k) = false := by simpa using h
   simp only [this, Bool.false_eq_true, if_false]
   rw [ih]
   exact qU _ (zt _ _ (Ne.symm h))
theorem ZN {us vs : List (Nat × Ent)} (st : St)  (h : YP k us = YP k vs) : z7 us st k = z7 vs st k := by
 rw [V5 us, V5 vs, h]
theorem jS (k : Nat) (us vs : List (Nat × Ent)) : YP k (us ++ vs) = YP k us ++ YP k vs := by simp [YP]
def wv (L : Nat → Bool) : Nat → List Log → List (Nat × Ent)
 | _, [] => []
 | i, l :: ls => (if L i then l.2 else []) ++ wv L (i + 1) ls
theorem WD {L L' : Nat → Bool} : ∀ (ls : List Log) (o : Nat), (∀ j, o ≤ j → L j = L' j) → wv L o ls = wv L' o ls
 | [], _, _ => rfl
 | l :: ls, o, h => by
  simp [wv, h o (Nat.le_refl _), WD ls (o + 1) (fun j hj => h j (by omega))]
theorem kc {L L' : Nat → Bool} {k : Nat} : ∀ (ls : List Log) (o : Nat), (∀ j l, ls[j]? = some l → YP k l.2 ≠ [] → L (o + j) = L' (o + j)) → YP k (wv L o ls) = YP k (wv L' o ls)
 | [], _, _ => rfl
 | l :: ls, o, h => by
  have ih := kc (L := L) (L' := L') (k := k) ls (o + 1) (fun j l hj hne => by
   have := h (j + 1) l (by simpa using hj) hne
   have e : o + (j + 1) = o + 1 + j := by omega
   rw [e] at this
   exact this)
  simp [wv, jS]
  rw [ih]
  congr 1
  by_cases hne : YP k l.2 = []
  ·have h0 : YP k ([] : List (Nat × Ent)) = [] := rfl
   split <;> split <;> first | rfl | rw [hne, h0]
  ·have h0 := h 0 l rfl hne
   simp [Nat.add_zero] at h0
   rw [h0]
theorem UX : ∀ (ls : List Log) (o i : Nat), wv (fun j => decide (j < i)) o ls = ((ls.take (i - o)).map (·.2)).flatten
 | [], o, i => by simp [wv]
 | l :: ls, o, i => by
  simp [wv, UX ls (o + 1) i]
  by_cases h : o < i
  ·rw [show i - o = (i - (o + 1)) + 1 from by omega]
   simp [h]
  ·rw [show i - o = 0 from by omega, show i - (o + 1) = 0 from by omega]
   simp [h]
variable {L : Nat → Bool}
theorem VG : ∀ (ls : List Log) (o : Nat), (∀ j l, ls[j]? = some l → L (o + j) = true → YP k l.2 = []) → YP k (wv L o ls) = []
 | [], _, _ => rfl
 | l :: ls, o, h => by
  simp only [wv, jS]
  rw [VG ls (o + 1) (fun j l hj hL => h (j + 1) l (by simpa using hj) (by rwa [show o + (j + 1) = o + 1 + j from by omega]))]
  split
  ·rename_i hL; rw [h 0 l rfl (by simpa using hL)]; rfl
  ·rfl
theorem Jh {k i : Nat} (hi : L i = false) : ∀ (ls : List Log) (o : Nat), o ≤ i → ∀ {li : Log}, ls[i - o]? = some li →
  (YP k li.2 = [] ∨ ∀ j l, ls[j]? = some l → i < o + j → L (o + j) = true → YP k l.2 = []) →
  YP k (wv (fun j => L j || j == i) o ls) = YP k (wv L o ls) ++ YP k li.2
 | [], _, _, _, e, _ => by simp at e
 | l :: ls, o, ho, li, e, h => by
  simp only [wv, jS]
  by_cases hoi : o = i
  ·subst hoi
   rw [Nat.sub_self] at e
   simp only [List.getElem?_cons_zero, Option.some.injEq] at e
   subst e
   have hc : wv (fun j => L j || j == o) (o + 1) ls = wv L (o + 1) ls := WD ls (o + 1) (fun j hj => by
    have : (j == o) = false := by simp; omega
    simp [this])
   rw [hc]
   simp only [hi, Bool.false_or, beq_self_eq_true, if_true, Bool.false_eq_true, if_false]
   rcases h with h | h
   ·have h0 : YP k ([] : List (Nat × Ent)) = [] := rfl
    rw [h, h0, List.append_nil]
   ·rw [VG ls (o + 1) (fun j l hj hL => h (j + 1) l (by simpa using hj) (by omega) (by rwa [show o + (j + 1) = o + 1 + j from by omega]))]
    simp [YP]
  ·have hlt : o < i := by omega
   rw [show i - o = (i - (o + 1)) + 1 from by omega, List.getElem?_cons_succ] at e
   have ih := Jh hi ls (o + 1) (by omega) e (h.imp id (fun h j l hj hij hL => h (j + 1) l (by simpa using hj) (by omega) (by rwa [show o + (j + 1) = o + 1 + j from by omega])))
   rw [ih, ← List.append_assoc]
   have : (o == i) = false := by simpa using hoi
   simp [this]
variable {n : Fr}
theorem Xc : ∀ {l : List Oper} {st st' : St} {logs : List Log}, z5U tt ctr n ops l st = some (logs, st') →
  logs.length = l.length ∧ st' = z7 ((logs.map (·.2)).flatten) st ∧
  ∀ i o, l[i]? = some o → ∃ li, logs[i]? = some li ∧ stepG tt ctr n ops o (z7 (((logs.take i).map (·.2)).flatten) st) = some ((), li.1, li.2)
 | [], st, st', logs, e => by
  simp [z5U, Option.some.injEq, Prod.mk.injEq] at e
  obtain ⟨rfl, rfl⟩ := e
  exact ⟨rfl, rfl, fun i o h => by simp at h⟩
 | o :: os, st, st', logs, e => by
  simp [z5U] at e
  cases hs : stepG tt ctr n ops o st with
  | none => simp [hs] at e
  | some q =>
   have ⟨u, R, U⟩ := q
   simp [hs] at e
   cases hl : z5U tt ctr n ops os (z7 U st) with
   | none => simp [hl] at e
   | some q =>
    have ⟨ls, s2⟩ := q
    simp [hl, Option.some.injEq, Prod.mk.injEq] at e
    obtain ⟨rfl, rfl⟩ := e
    have ⟨h1, h2, h3⟩ := Xc hl
    refine ⟨by simp [h1], by rw [h2]; simp [zl], ?_⟩
    intro i o' hi
    cases i with
    | zero =>
     simp at hi
     subst hi
     exact ⟨(R, U), rfl, by simpa [z7] using hs⟩
    | succ i =>
     simp at hi
     have ⟨li, q1, q2⟩ := h3 i o' hi
     refine ⟨li, by simpa using q1, ?_⟩
     simpa [zl] using q2
theorem V7 {acc : List Nat}  {i : Nat} (h : (KQ acc o).testBit i = true) : ∃ e ∈ o.after.toList, Region.binds .any e = true ∧ (e.on = i ∨ (acc.getD e.on 0).testBit i = true) := by
 have gen : ∀ (l : List Edge) (s : Nat), (l.foldl (fun s e => if Region.binds .any e = true then s ||| 2 ^ e.on ||| acc.getD e.on 0 else s) s).testBit i = true → s.testBit i = true ∨ ∃ e ∈ l, Region.binds .any e = true ∧ (e.on = i ∨ (acc.getD e.on 0).testBit i = true) := by
  intro l
  induction l with
  | nil => intro s h; exact .inl h
  | cons e l ih =>
   intro s h
   simp [List.foldl_cons] at h
   rcases ih _ h with h | ⟨e', h1, h2⟩
   ·split at h
    ·rename_i hb
     rw [Nat.testBit_or, Nat.testBit_or, Nat.testBit_two_pow] at h
     simp [Bool.or_eq_true, decide_eq_true_eq] at h
     rcases h with (h | h) | h
     ·exact .inl h
     ·exact .inr ⟨e, by simp, hb, .inl h⟩
     ·exact .inr ⟨e, by simp, hb, .inr h⟩
    ·exact .inl h
   ·exact .inr ⟨e', by simp [h1], h2⟩
 rcases gen _ 0 h with h | h
 ·simp at h
 ·exact h
theorem wJ {ops : List Oper}  (hcl : ∀ j o, ops[j]? = some o → L j = true → ∀ e ∈ o.after.toList, Region.binds .any e = true → L e.on = true) :
  ∀ (l : List Oper) (acc : List Nat) (done : List Oper), ops = done ++ l → acc.length = done.length →
   (∀ j i, (acc.getD j 0).testBit i = true → L j = true → L i = true) → ∀ j i, ((jZ l acc).getD j 0).testBit i = true → L j = true → L i = true
 | [], acc, done, _, _, h => by simpa [jZ] using h
 | o :: os, acc, done, e, hl, h => by
  simp [jZ]
  refine wJ hcl os (acc ++ [KQ acc o]) (done ++ [o]) (by simp [e]) (by simp [hl]) ?_
  intro j i hb hL
  rw [List.getD_eq_getElem?_getD] at hb
  by_cases hj : j < acc.length
  ·rw [List.getElem?_append_left hj, ← List.getD_eq_getElem?_getD] at hb
   exact h j i hb hL
  ·by_cases hj2 : j = acc.length
   ·subst hj2
    rw [List.getElem?_append_right (by omega)] at hb
    simp [Nat.sub_self, Option.getD_some] at hb
    have ⟨ed, h1, h2, h3⟩ := V7 hb
    have hLe := hcl acc.length o (by rw [e, hl, List.getElem?_append_right (by omega)]; simp) hL ed h1 h2
    rcases h3 with h3 | h3
    ·rw [← h3]; exact hLe
    ·exact h _ _ h3 hLe
   ·rw [List.getElem?_eq_none (by simp; omega)] at hb
    simp at hb
theorem Y6 {R W R' W' : List Nat} (h : z5a R W R' W' = false) : (∀ k ∈ W, k ∉ W' ∧ k ∉ R') ∧ ∀ k ∈ R, k ∉ W' := by
 unfold z5a at h
 rw [Bool.or_eq_false_iff] at h
 have ⟨h1, h2⟩ := h
 rw [List.any_eq_false] at h1 h2
 refine ⟨fun k hk => ?_, fun k hk => ?_⟩
 ·have := h1 k hk
  simp [Bool.or_eq_true, not_or] at this
  exact this
 ·have := h2 k hk
  simpa using this
theorem KH {us : List (Nat × Ent)} (h : YP k us ≠ []) : k ∈ us.map (·.1) := by
 cases hf : YP k us with
 | nil => exact absurd hf h
 | cons u l =>
  have hm : u ∈ YP k us := by rw [hf]; simp
  unfold YP at hm
  rw [List.mem_filter] at hm
  have : u.1 = k := by simpa using hm.2
  exact List.mem_map.2 ⟨u, hm.1, this⟩
section
variable {C : Ctx}
def XB (n : Nat) (listed : Array Bool) : Nat := ((List.range n).filter fun i => !listed.getD i true).length
theorem YB {n : Nat} {listed : Array Bool} {i : Nat} (hi : i < n) (hl : listed.getD i true = false) : XB n (listed.setIfInBounds i true) < XB n listed := by
 unfold XB
 have hsize : i < listed.size := by
  rcases Nat.lt_or_ge i listed.size with h | h
  ·exact h
  ·simp [Array.getD_eq_getD_getElem?, Array.getElem?_eq_none h] at hl
 have hget : ∀ j, (listed.setIfInBounds i true).getD j true = if j = i then true else listed.getD j true := by
  intro j
  simp [Array.getD_eq_getD_getElem?, Array.getElem?_setIfInBounds]
  by_cases h : i = j
  ·subst h; simp [hsize]
  ·simp [h, Ne.symm h]
 have h1 : ((List.range n).filter fun j => !(listed.setIfInBounds i true).getD j true) = ((List.range n).filter fun j => !listed.getD j true).filter (fun j => j != i) := by
  rw [List.filter_filter]
  congr 1
  funext j
  rw [hget]
  by_cases h : j = i
  ·simp [h]
  ·simp [h]
 rw [h1]
 have hm : i ∈ (List.range n).filter fun j => !listed.getD j true := by
  rw [List.mem_filter]
  exact ⟨List.mem_range.2 hi, by simp [hl]⟩
 have := List.length_filter_lt_length_iff_exists (p := fun j => j != i) (l := (List.range n).filter fun j => !listed.getD j true)
 exact this.2 ⟨i, hm, by simp⟩
theorem KK {rd : Option Nat} {m : Nat}    (hT : ut P tt) (hC : uM P ctr) {ops : Array Oper} {Q : Exit → Act → World → Prop} {st0 st' : St} {logs : List Log} (hlog : z5U tt ctr C.n ops ops.toList st0 = some (logs, st'))
  (hok : jp ops.toList (logs.map z0y) = true) (hQ : ∀ S Fp a' w', Sim C S Fp [] st' a' w' → Q .normal a' w') :
  ∀ (fuel : Nat) (listed : Array Bool) (a : Act) (w : World), XB ops.size listed ≤ fuel →
   (∀ j o, ops[j]? = some o → listed.getD j true = true → ∀ e ∈ o.after.toList, Region.binds .any e = true → listed.getD e.on true = true) →
   (∃ S Fp, Sim C S Fp [] (z7 (wv (fun j => listed.getD j true) 0 logs) st0) a w) → wpAnyIn (fen rd) m P .any ops Q fuel listed a w := by
 have ⟨hlen, hst', hsteps⟩ := Xc hlog
 unfold jp at hok
 rw [Bool.and_eq_true] at hok
 have ⟨hedges, hpairs⟩ := hok
 have hpair : ∀ i j li lj, i < j → logs[i]? = some li → logs[j]? = some lj → z5a li.1 (li.2.map (·.1)) lj.1 (lj.2.map (·.1)) = false ∨ ((jZ ops.toList []).getD j 0).testBit i = true := by
  intro i j li lj hij h1 h2
  have hj : j < ops.toList.length := by rw [← hlen]; exact (List.getElem?_eq_some_iff.1 h2).1
  have := List.all_eq_true.1 (List.all_eq_true.1 hpairs j (List.mem_range.2 hj)) i (List.mem_range.2 hij)
  simp only [List.getD_eq_getElem?_getD, List.getElem?_map, h1, h2, Option.map_some, Option.getD_some, z0y, Bool.or_eq_true, Bool.not_eq_true'] at this
  exact this
 have hedge : ∀ j o, ops.toList[j]? = some o → ∀ e ∈ o.after.toList, Region.binds .any e = true → e.on < j := by
  intro j o hj e he hb
  unfold Xi at hedges
  have := List.all_eq_true.1 (List.all_eq_true.1 hedges (o, j) (by rw [List.mem_zipIdx_iff_getElem?]; exact hj)) e he
  simpa [hb] using this
 have hall : ∀ (listed : Array Bool) (a : Act) (w : World), (∀ j, j < ops.size → listed.getD j true = true) → (∃ S Fp, Sim C S Fp [] (z7 (wv (fun j => listed.getD j true) 0 logs) st0) a w) → Q .normal a w := by
  intro listed a w hl hS
  have ⟨S, Fp, hS⟩ := hS
  have : z7 (wv (fun j => listed.getD j true) 0 logs) st0 = st' := by
   rw [hst']
   have h1 : wv (fun j => listed.getD j true) 0 logs = wv (fun j => decide (j < logs.length)) 0 logs := by
    have gen : ∀ (ls : List Log) (o : Nat), (∀ j, j < ls.length → listed.getD (o + j) true = true) → (∀ j, j < ls.length → o + j < logs.length) → wv (fun j => listed.getD j true) o ls = wv (fun j => decide (j < logs.length)) o ls := by
     intro ls
     induction ls with
     | nil => intro o _ _; rfl
     | cons l ls ih =>
      intro o h1 h2
      have a1 := h1 0 (by simp)
      have a2 := h2 0 (by simp)
      simp only [Nat.add_zero] at a1 a2
      simp only [wv, a1, a2, decide_true, if_true]
      rw [ih (o + 1) (fun j hj => by have := h1 (j + 1) (by simpa using hj); rwa [show o + 1 + j = o + (j + 1) from by omega]) (fun j hj => by have := h2 (j + 1) (by simpa using hj); omega)]
    refine gen logs 0 (fun j hj => ?_) (fun j hj => by omega)
    rw [Nat.zero_add]
    exact hl j (by rw [← Array.length_toList, ← hlen]; exact hj)
   rw [h1, UX]
   simp
  rw [this] at hS
  exact hQ _ _ _ _ hS
 have hready_none : ∀ (listed : Array Bool), Region.ready .any ops listed = [] → ∀ j, j < ops.size → listed.getD j true = true := by
  intro listed hr j
  induction j using Nat.strongRecOn with
  | _ j ih =>
   intro hj
   cases hl : listed.getD j true with
   | true => rfl
   | false =>
    exfalso
    have : j ∈ Region.ready .any ops listed := by
     unfold Region.ready
     rw [List.mem_filter]
     refine ⟨List.mem_range.2 hj, ?_⟩
     rw [hl]
     simp only [Bool.not_false, Bool.true_and, Array.getElem?_eq_getElem hj, Option.map_some, Option.getD_some, Array.all_eq_true_iff_forall_mem]
     intro e he
     by_cases hb : Region.binds .any e = true
     ·have hlt := hedge j ops[j] (by simp [hj]) e (by simpa using he) hb
      have := ih e.on hlt (by omega)
      rw [Array.getD_eq_getD_getElem?] at this ⊢
      have hsz : e.on < listed.size := by
       rcases Nat.lt_or_ge e.on listed.size with h | h
       ·exact h
       ·exfalso
        have hjs : j < listed.size := by
         rcases Nat.lt_or_ge j listed.size with h' | h'
         ·exact h'
         ·simp [Array.getD_eq_getD_getElem?, Array.getElem?_eq_none h'] at hl
        omega
      rw [Array.getElem?_eq_getElem hsz] at this ⊢
      simp only [Option.getD_some] at this ⊢
      simp [this]
     ·simp [hb]
    rw [hr] at this
    cases this
 intro fuel
 induction fuel with
 | zero =>
  intro listed a w hfuel hcl hS
  have hl : ∀ j, j < ops.size → listed.getD j true = true := by
   intro j hj
   cases hx : listed.getD j true with
   | true => rfl
   | false =>
    have := YB hj hx
    omega
  refine ⟨?_, hall listed a w hl hS⟩
  unfold Region.ready
  rw [List.filter_eq_nil_iff]
  intro j hj
  rw [hl j (List.mem_range.1 hj)]
  simp
 | succ fuel ih =>
  intro listed a w hfuel hcl hS
  refine ⟨fun hr => hall listed a w (hready_none listed hr) hS, ?_⟩
  intro i hi
  unfold Region.ready at hi
  rw [List.mem_filter] at hi
  have ⟨hi1, hi2⟩ := hi
  have hin : i < ops.size := List.mem_range.1 hi1
  simp only [Bool.and_eq_true, Bool.not_eq_true', Array.getElem?_eq_getElem hin, Option.map_some, Option.getD_some, Array.all_eq_true_iff_forall_mem] at hi2
  have ⟨hil, hdeps⟩ := hi2
  have hoi : ops.toList[i]? = some ops[i] := by simp [hin]
  have ⟨li, hli, hstep⟩ := hsteps i ops[i] hoi
  have hsz : i < listed.size := by
   rcases Nat.lt_or_ge i listed.size with h | h
   ·exact h
   ·simp [Array.getD_eq_getD_getElem?, Array.getElem?_eq_none h] at hil
  have hdep : ∀ e ∈ ops[i].after.toList, Region.binds .any e = true → listed.getD e.on true = true := by
   intro e he hb
   have := hdeps e (by simpa using he)
   simp only [hb, Bool.not_true, Bool.false_or] at this
   rw [Array.getD_eq_getD_getElem?] at this ⊢
   cases hx : listed[e.on]? with
   | none => rfl
   | some b => simpa [hx] using this
  have hanc : ∀ j k, ((jZ ops.toList []).getD j 0).testBit k = true → listed.getD j true = true → listed.getD k true = true :=
   wJ (L := fun j => listed.getD j true) (ops := ops.toList) (fun j o hj hL e he hb => hcl j o (by simpa using hj) hL e he hb) ops.toList [] [] (by simp) rfl (by simp)
  have hanci : ∀ k, ((jZ ops.toList []).getD i 0).testBit k = true → k ≠ i → listed.getD k true = true := by
   intro k hk hki
   have := wJ (L := fun j => listed.getD j true || j == i) (ops := ops.toList) (fun j o hj hL e he hb => by
    simp only [Bool.or_eq_true, beq_iff_eq] at hL ⊢
    rcases hL with hL | rfl
    ·exact .inl (hcl j o (by simpa using hj) hL e he hb)
    ·rw [hoi] at hj
     cases hj
     exact .inl (hdep e he hb)) ops.toList [] [] (by simp) rfl (by simp) i k hk (by simp)
   simpa [hki] using this
  have hreads : ∀ k ∈ li.1, z7 (wv (fun j => listed.getD j true) 0 logs) st0 k = z7 (((logs.take i).map (·.2)).flatten) st0 k := by
   intro k hk
   rw [show ((logs.take i).map (·.2)).flatten = wv (fun j => decide (j < i)) 0 logs from by rw [UX]; simp]
   refine ZN st0 (kc logs 0 ?_)
   intro j lj hj hne
   rw [Nat.zero_add]
   have hkj := KH hne
   rcases Nat.lt_trichotomy j i with hlt | rfl | hgt
   ·have : listed.getD j true = true := by
     rcases hpair j i lj li hlt hj hli with hc | hb
     ·exact absurd hk ((Y6 hc).1 k hkj).2
     ·exact hanci j hb (by omega)
    simp [hlt, this]
   ·simp [hil]
   ·have : listed.getD j true = false := by
     cases hx : listed.getD j true with
     | false => rfl
     | true =>
      rcases hpair i j li lj hgt hli hj with hc | hb
      ·exact absurd hkj ((Y6 hc).2 k hk)
      ·have := hanc j i hb hx
       rw [hil] at this
       cases this
    rw [this]
    simp; omega
  have hstepL := Loc.stepG hC tt C.n ops ops[i] _ _ _ _ _ hstep hreads
  have hget : ∀ j, (listed.setIfInBounds i true).getD j true = (listed.getD j true || j == i) := by
   intro j
   simp only [Array.getD_eq_getD_getElem?, Array.getElem?_setIfInBounds]
   by_cases h : i = j
   ·subst h; simp [hsz]
   ·have : (j == i) = false := by simp; exact Ne.symm h
    simp [h, this]
  have hnext : z7 li.2 (z7 (wv (fun j => listed.getD j true) 0 logs) st0) = z7 (wv (fun j => (listed.setIfInBounds i true).getD j true) 0 logs) st0 := by
   rw [← zl]
   funext k
   refine ZN st0 ?_
   rw [show (fun j => (listed.setIfInBounds i true).getD j true) = fun j => (fun j => listed.getD j true) j || j == i from funext hget, jS]
   refine (Jh (L := fun j => listed.getD j true) hil logs 0 (Nat.zero_le _) (li := li) (by simpa using hli) ?_).symm
   by_cases hke : YP k li.2 = []
   ·exact .inl hke
   ·right
    intro j lj hj hij hL
    rw [Nat.zero_add] at hij hL
    have hki := KH hke
    rcases hpair i j li lj hij hli hj with hc | hb
    ·have := ((Y6 hc).1 k hki).1
     cases hf : YP k lj.2 with
     | nil => rfl
     | cons u us => exact absurd (KH (by rw [hf]; simp)) this
    ·have := hanc j i hb hL
     rw [hil] at this
     cases this
  have ⟨S, Fp, hS⟩ := hS
  have hgood := XI hT hC hS hstepL rd m (wpAnyIn (fen rd) m P .any ops Q fuel (listed.setIfInBounds i true)) Q (fun S' Fp' a' w' h' => by
   refine ih _ a' w' (by have := YB hin hil; omega) ?_ ⟨S', Fp', by rw [← hnext]; exact h'⟩
   intro j o hj hL e he hb
   rw [hget] at hL ⊢
   simp only [Bool.or_eq_true, beq_iff_eq] at hL ⊢
   rcases hL with hL | rfl
   ·exact .inl (hcl j o hj hL e he hb)
   ·rw [Array.getElem?_eq_getElem hin] at hj
    cases hj
    exact .inl (hdep e he hb))
  unfold wpOpIn
  rw [Array.getElem?_eq_getElem hin]
  exact hgood
end
def JK : Ent := ⟨.gone, 0, 0⟩
def ofL : List (Nat × T) → St
 | [], _ => JK
 | p :: L, t => if t = p.1 then ⟨p.2, 0, 0⟩ else ofL L t
def z5g (live : List Nat) (st : St) (k : Nat) : T :=
 match (st k).t with
 | .d a => .d a
 | .own a => .own a
 | .als r p er ec => if er = (st r).er ∧ ec = (st r).ec ∧ r ∈ live then .als r p 0 0 else .gone
 | .ptr r p er ec => if er = (st r).er ∧ ec = (st r).ec ∧ r ∈ live then .ptr r p 0 0 else .gone
 | .gone => .gone
def canon (live : List Nat) (st : St) : St := ofL (live.map fun k => (k, z5g live st k))
theorem z2r (f : Nat → T) : ∀ (l : List Nat) (t : Nat), ofL (l.map fun k => (k, f k)) t = if t ∈ l then ⟨f t, 0, 0⟩ else JK
 | [], t => by simp [ofL]
 | k :: l, t => by
  simp [List.map_cons, ofL, z2r f l t]
  by_cases h : t = k
  ·simp [h]
  ·simp [h]
theorem qS (live : List Nat) (st : St) (t : Nat) : canon live st t = if t ∈ live then ⟨z5g live st t, 0, 0⟩ else JK := z2r _ live t
section
variable {C : Ctx} {S : z8} {Fp : Nat → List Nat} {X : List Nat} {st : St} {a : Act} {w : World}
theorem Sim.canonF (h : Sim C S Fp [] st a w) (live : List Nat) : ∃ Fp', Sim C S Fp' [] (canon live st) a w ∧ ∀ t k, k ∈ Fp' t → k ∈ Fp t := by
 refine ⟨fun t => if t ∈ live then (match (st t).t with | .own _ => Fp t | _ => []) else [], ?_, ?_⟩
 rotate_left
 ·intro t k hk
  dsimp only at hk
  split at hk
  ·split at hk
   ·exact hk
   ·simp at hk
  ·simp at hk
 refine { size := h.size, pin := h.pin, defers := h.defers, below := h.below, mine := h.mine, still := h.still, sinc := h.sinc, sbase := h.sbase, ent := ?_, disj := ?_, base := ?_, xn := by simp, xd := by simp, xb := by simp }
 ·intro t
  rw [qS]
  by_cases ht : t ∈ live
  ·simp only [ht, if_true]
   have q := h.ent t
   unfold yQ z5g at *
   cases htt : (st t).t with
   | gone => rfl
   | d x => simp only [htt] at q ⊢; exact ⟨q.1, trivial⟩
   | own x => simp only [htt] at q ⊢; exact q
   | als r p er ec =>
    simp only [htt] at q ⊢
    by_cases hc : er = (st r).er ∧ ec = (st r).ec ∧ r ∈ live
    ·simp only [if_pos hc]
     have ⟨h1, h2, h3⟩ := hc
     refine ⟨trivial, ?_⟩
     have ⟨q1, q2, q3⟩ := q.2
     unfold ku
     rw [qS]
     simp only [h3, if_true]
     refine ⟨Nat.le_refl _, Nat.le_refl _, ?_⟩
     unfold z5g
     cases hr : (st r).t with
     | own x => simp only [hr] at q3 ⊢; exact fun _ _ => q3 h1.symm (.inr h2.symm)
     | d x => simp only [hr] at q3 ⊢; exact fun _ hp => q3 h1.symm hp
     | gone => trivial
     | als u _ e1 e2 =>
      by_cases hd : e1 = (st u).er ∧ e2 = (st u).ec ∧ u ∈ live
      ·simp only [if_pos hd]
      ·simp only [if_neg hd]
     | ptr u _ e1 e2 =>
      by_cases hd : e1 = (st u).er ∧ e2 = (st u).ec ∧ u ∈ live
      ·simp only [if_pos hd]
      ·simp only [if_neg hd]
    ·simp only [if_neg hc]
   | ptr r p er ec =>
    simp only [htt] at q ⊢
    by_cases hc : er = (st r).er ∧ ec = (st r).ec ∧ r ∈ live
    ·simp only [if_pos hc]
     have ⟨h1, h2, h3⟩ := hc
     refine ⟨trivial, ?_⟩
     have ⟨q1, q2, q3⟩ := q.2
     unfold uL
     rw [qS]
     simp only [h3, if_true]
     refine ⟨Nat.le_refl _, Nat.le_refl _, ?_⟩
     unfold z5g
     cases hr : (st r).t with
     | own x => simp only [hr] at q3 ⊢; exact fun _ _ => q3 h1.symm h2.symm
     | d x => trivial
     | gone => trivial
     | als u _ e1 e2 =>
      by_cases hd : e1 = (st u).er ∧ e2 = (st u).ec ∧ u ∈ live
      ·simp only [if_pos hd]
      ·simp only [if_neg hd]
     | ptr u _ e1 e2 =>
      by_cases hd : e1 = (st u).er ∧ e2 = (st u).ec ∧ u ∈ live
      ·simp only [if_pos hd]
      ·simp only [if_neg hd]
    ·simp only [if_neg hc]
  ·simp only [ht, if_false]
   rfl
 ·intro t u k ht hu
  split at ht
  ·split at hu
   ·split at ht
    ·split at hu
     ·exact h.disj t u k ht hu
     ·simp at hu
    ·simp at ht
   ·simp at hu
  ·simp at ht
 ·intro t k ht
  split at ht
  ·split at ht
   ·exact h.base t k ht
   ·simp at ht
  ·simp at ht
theorem Sim.canon (h : Sim C S Fp [] st a w) (live : List Nat) : ∃ Fp', Sim C S Fp' [] (canon live st) a w :=
 let ⟨Fp', h1, _⟩ := h.canonF live; ⟨Fp', h1⟩
end
structure Vs (C : Ctx) (rd : Option Nat) : Prop where
 nodup : C.df.Nodup
 df : ∀ D ∈ C.df, ¬ C.M D ∧ C.w0.heap[D]? = some (.deferred (some []))
 rd : ∀ L, rd = some L → ¬ C.M L ∧ ∃ q, C.w0.heap[L]? = some (.loop q)
structure uu (df : List Nat) (M : Nat → Prop) (df' : List Nat) (Fp : Nat → List Nat) (w : World) : Prop where
 nodup : df'.Nodup
 ent : ∀ D ∈ df', w.heap[D]? = some (.deferred (some []))
 off : ∀ D ∈ df', ∀ t, D ∉ Fp t
 old : ∀ D ∈ df', D ∈ df ∨ M D
def z3B (n : Fr) (df : List Nat) (w0 : World) (S0 : z8) (M : Nat → Prop) (Q : Exit → St → Prop) (ex : Exit) (a : Act) (w : World) : Prop :=
 ∃ df' st S Fp, Sim ⟨n, df', w0, S0, M⟩ S Fp [] st a w ∧ uu df M df' Fp w ∧ Q ex st
def AWP (P : Program) (n : Fr) (c : Code) (st : St) (Q : Exit → St → Prop) : Prop :=
 ∀ (rd : Option Nat) (m : Nat) (df : List Nat) (w0 : World) (S0 : z8) (M : Nat → Prop) S Fp a w, Vs ⟨n, df, w0, S0, M⟩ rd → Sim ⟨n, df, w0, S0, M⟩ S Fp [] st a w →
  c.wpIn (fen rd) m P (z3B n df w0 S0 M Q) a w
variable {ex : Exit}
section
variable {n : Fr} {df df' df2 : List Nat} {w0 : World} {S0 : z8} {M : Nat → Prop} {S S2 : z8} {Fp Fp2 : Nat → List Nat} {st st2 : St} {a a2 : Act} {w w2 : World} {rd : Option Nat}
theorem Vs.post (h : Vs ⟨n, df, w0, S0, M⟩ rd) (hs : Sim ⟨n, df, w0, S0, M⟩ S Fp [] st a w) : uu df M df Fp w :=
 ⟨h.nodup, fun D hD => (hs.below.block D (h.df D hD).1).trans (h.df D hD).2, fun D hD t ht => (h.df D hD).1 (hs.base t D ht), fun _ hD => .inl hD⟩
theorem Vs.fin {Q : Exit → St → Prop}  (h : Vs ⟨n, df, w0, S0, M⟩ rd) (hs : Sim ⟨n, df, w0, S0, M⟩ S Fp [] st a w) (hq : Q ex st) : z3B n df w0 S0 M Q ex a w :=
 ⟨df, st, S, Fp, hs, h.post hs, hq⟩
def VH (Fp : Nat → List Nat) (w : World) : Nat → Prop := fun k => w.heap.size ≤ k ∨ ∃ t, k ∈ Fp t
theorem Zh (hs : Sim ⟨n, df', w0, S0, M⟩ S Fp [] st a w) : ∀ k, VH Fp w k → M k
 | _, .inl hk => hs.mine _ (Nat.le_trans hs.below.size hk)
 | k, .inr ⟨t, hk⟩ => hs.base t k hk
theorem Sim.ownM_far {C : Ctx} {X : List Nat} (h : Sim C S Fp X st a w) : ∀ g x, z4R g = some x → ¬ VH Fp w g := by
 rintro g x e (hk | ⟨t, hk⟩)
 ·have := h.still.blk.lt e
  omega
 ·exact h.still.blk.ne ((h.free t g hk).2.1 0) x e
theorem Sim.rebase (hs : Sim ⟨n, df', w0, S0, M⟩ S Fp [] st a w) : Sim ⟨n, df', w, S, VH Fp w⟩ S Fp [] st a w := {
 size := hs.size
 pin := hs.pin
 defers := hs.defers
 below := wK.refl _ _
 mine := ⟨fun _ hk => .inl hk, hs.ownM_far⟩
 still := hs.still
 sinc := fun _ _ _ q => q
 sbase := fun _ _ _ => rfl
 ent := hs.ent
 disj := hs.disj
 base := fun t _ hk => .inr ⟨t, hk⟩
 xn := by simp
 xd := by simp
 xb := by simp }
theorem Vs.rebase (h : Vs ⟨n, df, w0, S0, M⟩ rd) (hs : Sim ⟨n, df', w0, S0, M⟩ S Fp [] st a w) (hd : uu df M df' Fp w) : Vs ⟨n, df', w, S, VH Fp w⟩ rd := {
 nodup := hd.nodup
 df := fun D hD => ⟨by
  rintro (hk | ⟨t, hk⟩)
  ·have := (Array.getElem?_eq_some_iff.1 (hd.ent D hD)).1
   omega
  ·exact hd.off D hD t hk, hd.ent D hD⟩
 rd := fun L hL => by
  have ⟨h1, q, h2⟩ := h.rd L hL
  refine ⟨?_, q, (hs.below.block L h1).trans h2⟩
  rintro (hk | ⟨t, hk⟩)
  ·have q1 : L < w0.heap.size := (Array.getElem?_eq_some_iff.1 h2).1
   have q2 : w0.heap.size ≤ w.heap.size := hs.below.size
   omega
  ·exact h1 (hs.base t L hk) }
theorem Sim.unbase (hs : Sim ⟨n, df', w0, S0, M⟩ S Fp [] st a w) (h2 : Sim ⟨n, df2, w, S, VH Fp w⟩ S2 Fp2 [] st2 a2 w2) : Sim ⟨n, df2, w0, S0, M⟩ S2 Fp2 [] st2 a2 w2 := {
 size := h2.size
 pin := h2.pin
 defers := h2.defers
 below := hs.below.trans (h2.below.mono (Zh hs))
 mine := hs.mine
 still := h2.still
 sinc := fun b o v q => h2.sinc _ _ _ (hs.sinc _ _ _ q)
 sbase := fun b o hb => (h2.sbase b o (fun hk => hb (Zh hs b hk))).trans (hs.sbase b o hb)
 ent := h2.ent
 disj := h2.disj
 base := fun t k hk => Zh hs k (h2.base t k hk)
 xn := by simp
 xd := by simp
 xb := by simp }
theorem uu.trans (hs : Sim ⟨n, df', w0, S0, M⟩ S Fp [] st a w) (hd : uu df M df' Fp w) (h2 : uu df' (VH Fp w) df2 Fp2 w2) : uu df M df2 Fp2 w2 :=
 ⟨h2.nodup, h2.ent, h2.off, fun D hD => (h2.old D hD).elim (hd.old D) fun hk => .inr (Zh hs D hk)⟩
theorem z3B.trans {Q : Exit → St → Prop}  (hs : Sim ⟨n, df', w0, S0, M⟩ S Fp [] st a w) (hd : uu df M df' Fp w) (h : z3B n df' w S (VH Fp w) Q ex a2 w2) : z3B n df w0 S0 M Q ex a2 w2 := by
 have ⟨df2, st2, S2, Fp2, h1, h2, h3⟩ := h
 exact ⟨df2, st2, S2, Fp2, hs.unbase h1, hd.trans hs h2, h3⟩
theorem z3B.next {Q Q' : Exit → St → Prop} {ex ex' : Exit} (h : z3B n df w0 S0 M Q ex a w) (hq : ∀ st, Q ex st → Q' ex' st) : z3B n df w0 S0 M Q' ex' a w := by
 have ⟨df', st, S, Fp, h1, h2, h3⟩ := h
 exact ⟨df', st, S, Fp, h1, h2, hq _ h3⟩
end
def K8 (next : St → Prop) (Q : Exit → St → Prop) : Exit → St → Prop
 | .normal, st => next st
 | e, st => Q e st
def Ub (id : Nat) (Q : Exit → St → Prop) : Exit → St → Prop
 | .exit id', st => if id' = id then Q .normal st else Q (.exit id') st
 | e, st => Q e st
variable {M : Nat → Prop}{x y : Code}{c : Operand}{w0 : World}{df df' : List Nat}{S0 : z8}
section
variable {P : Program} {n : Fr} {st : St} {Q : Exit → St → Prop}
theorem AWP.mono {c : Code} {Q' : Exit → St → Prop} (h : AWP P n c st Q) (hq : ∀ e st, Q e st → Q' e st) : AWP P n c st Q' :=
 fun rd m df w0 S0 M S Fp a w hc hs => wpIn_mono (h rd m df w0 S0 M S Fp a w hc hs) fun _ _ _ hp => hp.next (hq _)
theorem AWP.go {c : Code} {df df' : List Nat} {w0 : World} {S0 : z8} {M : Nat → Prop} {S : z8} {Fp : Nat → List Nat} {a : Act} {w : World} {rd : Option Nat} {m : Nat} (h : AWP P n c st Q)
  (hc : Vs ⟨n, df, w0, S0, M⟩ rd) (hs : Sim ⟨n, df', w0, S0, M⟩ S Fp [] st a w) (hd : uu df M df' Fp w) : c.wpIn (fen rd) m P (z3B n df w0 S0 M Q) a w :=
 wpIn_mono (h rd m df' w S (VH Fp w) S Fp a w (hc.rebase hs hd) hs.rebase) fun _ _ _ hp => hp.trans hs hd
theorem AWP.seq (h : AWP P n x st (K8 (fun st' => AWP P n y st' Q) Q)) : AWP P n (.seq x y) st Q := by
 intro rd m df w0 S0 M S Fp a w hc hs
 refine wpIn_seq (wpIn_mono (h rd m df w0 S0 M S Fp a w hc hs) ?_)
 intro e a' w' hp
 cases e with
 | normal =>
  have ⟨df', st', S', Fp', h1, h2, h3⟩ := hp
  exact AWP.go h3 hc h1 h2
 | _ => exact hp.next fun _ q => q
theorem AWP.skip (h : Q .normal st) : AWP P n .skip st Q := fun _ _ _ _ _ _ _ _ _ _ hc hs => wpIn_skip (hc.fin hs h)
theorem AWP.exit {id : Nat} (h : Q (.exit id) st) : AWP P n (.exit id) st Q := fun _ _ _ _ _ _ _ _ _ _ hc hs => wpIn_exit (hc.fin hs h)
theorem AWP.ret (h : Q .ret st) : AWP P n .ret st Q := fun _ _ _ _ _ _ _ _ _ _ hc hs => wpIn_ret (hc.fin hs h)
theorem AWP.block {id : Nat} {c : Code} (h : AWP P n c st (Ub id Q)) : AWP P n (.block id c) st Q := by
 intro rd m df w0 S0 M S Fp a w hc hs
 refine wpIn_block (wpIn_mono (h rd m df w0 S0 M S Fp a w hc hs) ?_)
 intro e a' w' hp
 cases e with
 | exit id' =>
  simp [Exit.inBlock]
  split
  ·exact hp.next fun _ q => by simpa only [Ub, if_pos ‹id' = id›] using q
  ·exact hp.next fun _ q => by simpa only [Ub, if_neg ‹¬ id' = id›] using q
 | _ => exact hp.next fun _ q => q
def KM (st : St) : Operand → Option Bool
 | .tmp t => match (st t).t with | .d (.atom (.bool b)) => some b | _ => none
 | .const (.bool b) => some b
 | _ => none
theorem z56 {C : Ctx} {S : z8}  {X : List Nat}  {w : World} (h : Sim C S Fp X st a w)  {b : Bool} (e : KM st c = some b) : a.eval c = .bool b := by
 unfold KM at e
 split at e
 ·rename_i t
  split at e
  ·rename_i b' ht
   cases e
   have := h.ent t
   unfold yQ at this
   simp [ht] at this
   exact (zw.1 this.1).1
  ·cases e
 ·cases e
  rfl
 ·cases e
theorem AWP.cond {b : Bool} (hb : KM st c = some b) (h1 : b = true → AWP P n x st Q) (h2 : b = false → AWP P n y st Q) : AWP P n (.cond c x y) st Q := by
 intro rd m df w0 S0 M S Fp a w hc hs
 refine wpIn_cond (z56 hs hb) ?_
 cases b
 ·exact h2 rfl rd m df w0 S0 M S Fp a w hc hs
 ·exact h1 rfl rd m df w0 S0 M S Fp a w hc hs
theorem AWP.canon (live : List Nat) {c : Code} (h : AWP P n c (canon live st) Q) : AWP P n c st Q := by
 intro rd m df w0 S0 M S Fp a w hc hs
 have ⟨Fp', hs'⟩ := hs.canon live
 exact h rd m df w0 S0 M S Fp' a w hc hs'
theorem Sim.canonD {S : z8}   {w : World} (h : Sim ⟨n, df', w0, S0, M⟩ S Fp [] st a w) (hd : uu df M df' Fp w) (live : List Nat) :
  ∃ Fp', Sim ⟨n, df', w0, S0, M⟩ S Fp' [] (Own.canon live st) a w ∧ uu df M df' Fp' w := by
 have ⟨Fp', h1, h2⟩ := h.canonF live
 exact ⟨Fp', h1, hd.nodup, hd.ent, fun D hD t ht => hd.off D hD t (h2 t D ht), hd.old⟩
theorem AWP.loop {c : Code} (live : List Nat) (I : Nat → St → Prop) (n0 : Nat) (h0 : I n0 (Own.canon live st))
  (round : ∀ k st, I k st → AWP P n c st (K8 (fun st' => ∃ k', k' < k ∧ I k' (Own.canon live st')) Q)) : AWP P n (.loop c) st Q := by
 intro rd m df w0 S0 M S Fp a w hc hs
 have ⟨Fp0, hs0, hd0⟩ := hs.canonD (hc.post hs) live
 refine wpIn_loop_ghost (fun k a w => ∃ df' st S Fp, Sim ⟨n, df', w0, S0, M⟩ S Fp [] st a w ∧ uu df M df' Fp w ∧ I k st) n0 ⟨df, _, S, Fp0, hs0, hd0, h0⟩ ?_
 rintro k a w ⟨df1, st1, S1, Fp1, hs1, hd1, h1⟩
 refine wpIn_mono (AWP.go (round k st1 h1) hc hs1 hd1) ?_
 intro e a' w' hp
 cases e with
 | normal =>
  have ⟨df', st', S', Fp', q1, q2, k', hk, hI⟩ := hp
  have ⟨Fp2, hs2, hd2⟩ := q1.canonD q2 live
  exact ⟨k', hk, df', _, S', Fp2, hs2, hd2, hI⟩
 | _ => exact hp.next fun _ q => q
def z8v (m : SM α) (st : St) (R W : List Nat) (K : α → St → List Nat → List Nat → Prop) : Prop :=
 match m st with
 | some (x, r, u) => K x (z7 u st) (R ++ r) (W ++ u.map (·.1))
 | none => False
def z8u (tt : TT) (ctr : Ctr) (n : Fr) (ops : Array Oper) : List Oper → St → (St → Prop) → Prop
 | [], st, K => K st
 | o :: os, st, K => z8v (stepG tt ctr n ops o) st [] [] fun _ st' _ _ => z8u tt ctr n ops os st' K
def z1m (tt : TT) (ctr : Ctr) (n : Fr) (ops : Array Oper) : List Oper → St → List (List Nat × List Nat) → (St → Prop) → Prop
 | [], st, logs, K => jp ops.toList logs = true ∧ K st
 | o :: os, st, logs, K => z8v (stepG tt ctr n ops o) st [] [] fun _ st' R W => z1m tt ctr n ops os st' (logs ++ [(R, W)]) K
theorem z05 {K : St → Prop} : ∀ (l : List Oper) (st : St), z8u tt ctr n ops l st K → ∃ st', Kn tt ctr n ops l st = some st' ∧ K st'
 | [], st, h => ⟨st, rfl, h⟩
 | o :: os, st, h => by
  simp [z8u, z8v] at h
  cases hs : stepG tt ctr n ops o st with
  | none => simp [hs] at h
  | some q =>
   have ⟨x, r, u⟩ := q
   simp [hs] at h
   have ⟨st', h1, h2⟩ := z05 os _ h
   exact ⟨st', by simp [Kn, hs]; exact h1, h2⟩
theorem JS {K : St → Prop} : ∀ (l : List Oper) (st : St) (logs : List (List Nat × List Nat)), z1m tt ctr n ops l st logs K → ∃ ls st', z5U tt ctr n ops l st = some (ls, st') ∧ jp ops.toList (logs ++ ls.map z0y) = true ∧ K st'
 | [], st, logs, h => ⟨[], st, rfl, by simpa using h.1, h.2⟩
 | o :: os, st, logs, h => by
  simp [z1m, z8v] at h
  cases hs : stepG tt ctr n ops o st with
  | none => simp [hs] at h
  | some q =>
   have ⟨x, r, u⟩ := q
   simp [hs] at h
   have ⟨ls, st', h1, h2, h3⟩ := JS os _ _ h
   exact ⟨(r, u) :: ls, st', by simp [z5U, hs, h1], by simpa [z0y, List.append_assoc] using h2, h3⟩
theorem AWP.region (hT : ut P tt) (hC : uM P ctr) {id : Nat}  (h : z8u tt ctr n ops ops.toList st (fun st' => Q .normal st')) : AWP P n (.region id ops false) st Q := by
 intro rd m df w0 S0 M S Fp a w hc hs
 have ⟨st', h1, h2⟩ := z05 _ _ h
 exact wpIn_region_list (Ws (C := ⟨n, df, w0, S0, M⟩) hT hC ops.toList hs h1 fun S' Fp' a' w' h' => hc.fin h' h2)
theorem AWP.drawn (hT : ut P tt) (hC : uM P ctr) (hm : P.follows .mixedOrders = true) {id : Nat}  (h : z1m tt ctr n ops ops.toList st [] (fun st' => Q .normal st')) : AWP P n (.region id ops true) st Q := by
 intro rd m df w0 S0 M S Fp a w hc hs
 have ⟨ls, st', h1, h2, h3⟩ := JS _ _ _ h
 refine wpIn_region_any hm (KK (C := ⟨n, df, w0, S0, M⟩) hT hC h1 (by simpa using h2) (fun S' Fp' a' w' h' => hc.fin h' h3) ops.size _ a _ ?_ ?_ ?_)
 ·unfold XB
  exact Nat.le_trans (List.length_filter_le _ _) (by simp)
 ·intro j o hj hl
  exfalso
  have : j < ops.size := (Array.getElem?_eq_some_iff.1 hj).1
  simp [Array.getD_eq_getD_getElem?, this] at hl
 ·refine ⟨S, Fp, ?_⟩
  have hk : wv (fun j => (Array.replicate ops.size false).getD j true) 0 ls = [] := by
   have hlen := (Xc h1).1
   have gen : ∀ (ls : List Log) (o : Nat), o + ls.length ≤ ops.size → wv (fun j => (Array.replicate ops.size false).getD j true) o ls = [] := by
    intro ls
    induction ls with
    | nil => intro o _; rfl
    | cons l ls ih =>
     intro o ho
     simp only [List.length_cons] at ho
     have : o < ops.size := by omega
     simp only [wv]
     rw [ih (o + 1) (by omega)]
     have hf : (Array.replicate ops.size false).getD o true = false := by simp [Array.getD_eq_getD_getElem?, this]
     simp only [hf, Bool.false_eq_true, if_false, List.append_nil]
   exact gen ls 0 (by rw [hlen]; simp)
  rw [hk]
  exact hs.drew
end
def ini (as_ : List A) : St := fun t => match as_[t]? with | some a => ⟨mkT a, 0, 0⟩ | none => JK
def z4N : Nat → List A → List (Nat × T)
 | _, [] => []
 | i, a :: as_ => (i, mkT a) :: z4N (i + 1) as_
theorem z2K (as_ : List A) : ini as_ = ofL (z4N 0 as_) := by
 have gen : ∀ (as_ : List A) (i t : Nat), ofL (z4N i as_) t = if i ≤ t then (match as_[t - i]? with | some a => ⟨mkT a, 0, 0⟩ | none => JK) else JK := by
  intro as_
  induction as_ with
  | nil => intro i t; simp [z4N, ofL]
  | cons a as_ ih =>
   intro i t
   simp [z4N, ofL]
   by_cases h : t = i
   ·subst h; simp
   ·rw [if_neg h, ih]
    by_cases h1 : i ≤ t
    ·have h2 : i + 1 ≤ t := by omega
     simp [h1, h2]
     rw [show t - i = (t - (i + 1)) + 1 from by omega, List.getElem?_cons_succ]
    ·have h2 : ¬ i + 1 ≤ t := by omega
     simp [h1, h2]
 funext t
 rw [gen]
 simp [ini]
def z9a (tt : TT) (keep : Bool) : List Nat → SM A
 | [t] => do
  let e ← rdE t
  match e.t with
  | .d (.tup _) => zm
  | .d a => pure a
  | .own a => if keep = true then pure a else do
    let xs ← shutArgs tt [(.tmp t, 0)]
    match xs with
    | [x] => pure x
    | _ => zm
  | _ => zm
 | [] => pure (.tup [])
 | [t, u] => do
  let xs ← shutArgs tt [(.tmp t, 0), (.tmp u, 0)]
  pure (.tup xs)
 | [t, u, v] => do
  let xs ← shutArgs tt [(.tmp t, 0), (.tmp u, 0), (.tmp v, 0)]
  pure (.tup xs)
 | [t, u, v, x] => do
  let xs ← shutArgs tt [(.tmp t, 0), (.tmp u, 0), (.tmp v, 0), (.tmp x, 0)]
  pure (.tup xs)
 | _ => zm
def zcJ (tv : Nat → Value) : List Nat → Value
 | [t] => tv t
 | ts => .tuple (ts.map tv).toArray
variable {ts : List Nat}
section
variable {C : Ctx} {S : z8} {Fp : Nat → List Nat} {X : List Nat} {st : St} {a : Act} {w : World}
theorem Km {P : Program}   (hr : fn.results = (ts.map ResultVar.tmp).toArray) (hl : ts.length ≤ 4) (a : Act) (w : World) :
  (results fn a.tmps).run P w = .ok (zcJ (Act.tv a) ts) w := by
 unfold results
 rw [hr]
 rcases ts with _ | ⟨t, _ | ⟨u, _ | ⟨v, _ | ⟨x, _ | ⟨y, l⟩⟩⟩⟩⟩ <;> first | (simp [Act.tv, zcJ]; done) | (simp at hl; done)
theorem z71 {keep : Bool}  (h : Sim C S Fp [] st a w) {x : A}   (e : z9a tt keep ts st = some (x, R, U)) :
  ts.length ≤ 4 ∧ ∃ S' F', (∀ b o u, S b o = some u → S' b o = some u) ∧ (∀ b o, ¬ C.M b → S' b o = C.S0 b o) ∧ xx S' w ∧ Has S' w.heap x (zcJ (Act.tv a) ts) F' ∧ F'.Nodup ∧ ∀ k ∈ F', C.M k := by
 have many : ∀ (us : List Nat) {x : A} {R : List Nat} {U : List (Nat × Ent)}, (do let xs ← shutArgs tt (us.map fun t => (Operand.tmp t, 0)); pure (A.tup xs) : SM A) st = some (x, R, U) →
   ∃ S' F', (∀ b o u, S b o = some u → S' b o = some u) ∧ (∀ b o, ¬ C.M b → S' b o = C.S0 b o) ∧ xx S' w ∧ Has S' w.heap x (.tuple (us.map (Act.tv a)).toArray) F' ∧ F'.Nodup ∧ ∀ k ∈ F', C.M k := by
  intro us x R U e
  obtain ⟨xs, R1, U1, R2, U2, h1, e1, rfl, rfl⟩ := bind_some e
  cases e1
  have ⟨S1, Fp1, g1, g2, _, g3⟩ := xX h h1
  have hm : (us.map fun t => (Operand.tmp t, 0)).map (fun p => a.eval p.1) = us.map (Act.tv a) := by rw [List.map_map]; rfl
  rw [hm] at g3
  refine ⟨S1, [], g2, g1.sbase, g1.still, .inl ⟨?_, rfl⟩, by simp, by simp⟩
  simp only [yY]
  exact ⟨_, rfl, g3⟩
 rcases ts with _ | ⟨t, _ | ⟨u, _ | ⟨v, _ | ⟨y, _ | ⟨z, l⟩⟩⟩⟩⟩
 ·cases e
  refine ⟨by simp, S, [], fun _ _ _ h => h, h.sbase, h.still, .inl ⟨?_, rfl⟩, by simp, by simp⟩
  simp only [yY]
  exact ⟨[], rfl, trivial⟩
 ·refine ⟨by simp, ?_⟩
  simp only [z9a] at e
  obtain ⟨en, R1, U1, R2, U2, h1, e1, rfl, rfl⟩ := bind_some e
  obtain ⟨rfl, rfl, rfl⟩ := u6 h1
  simp only [z7] at e1
  have q := h.ent t
  unfold yQ at q
  cases ht : (st t).t with
  | d y =>
   simp only [ht] at e1 q
   by_cases hy : ∃ fs, y = .tup fs
   ·obtain ⟨fs, rfl⟩ := hy; cases e1
   ·have e2 : (pure y : SM A) st = some (x, R2, U2) := by
     cases y <;> first | exact e1 | exact absurd ⟨_, rfl⟩ hy
    cases e2
    exact ⟨S, [], fun _ _ _ h => h, h.sbase, h.still, .inl ⟨q.1, rfl⟩, by simp, by simp⟩
  | own y =>
   simp only [ht] at e1 q
   split at e1
   ·cases e1
    exact ⟨S, Fp t, fun _ _ _ h => h, h.sbase, h.still, .inr (by have ⟨cs, q1, q2, q3⟩ := q; exact ⟨cs, q1, q2, q3⟩), (by have ⟨cs, q1, q2, q3⟩ := q; exact q2), h.base t⟩
   ·obtain ⟨xs, R3, U3, R4, U4, h3, e2, rfl, rfl⟩ := bind_some e1
    have ⟨S1, Fp1, g1, g2, _, g3⟩ := xX h h3
    rcases xs with _ | ⟨x1, _ | ⟨x2, l⟩⟩
    ·cases e2
    ·cases e2
     exact ⟨S1, [], g2, g1.sbase, g1.still, .inl ⟨g3.1.repV, rfl⟩, by simp, by simp⟩
    ·cases e2
  | _ => simp only [ht] at e1; cases e1
 ·exact ⟨by simp, many [t, u] e⟩
 ·exact ⟨by simp, many [t, u, v] e⟩
 ·exact ⟨by simp, many [t, u, v, y] e⟩
 ·exact (wM (st := st) e).elim
end
theorem JI {S : z8}  : ∀ {as_ : List A} {vs : List Value} {F : List Nat}, k7 S h as_ vs F → ∀ k ∈ F, S k 0 = none
 | [], [], F, q, k, hk => by
  have e : F = [] := q
  subst e; simp at hk
 | _ :: _, _ :: _, F, ⟨F1, F2, e, q1, q2⟩, k, hk => by
  subst e
  rcases List.mem_append.1 hk with hk | hk
  ·exact JI q2 k hk
  ·rcases q1 with ⟨_, rfl⟩ | ⟨cs, c1, _⟩
   ·simp at hk
   ·exact (c1.own k hk).2.1 0
 | [], _ :: _, _, q, _, _ => q.elim
 | _ :: _, [], _, q, _, _ => q.elim
theorem VU {S : z8}  : ∀ {as_ : List A} {vs : List Value} {F : List Nat}, k7 S h as_ vs F → F.Nodup →
  ∃ f : Nat → List Nat, (∀ j y, as_[j]? = some y → ∃ v, vs[j]? = some v ∧ Has S h y v (f j)) ∧ (∀ j, as_[j]? = none → f j = []) ∧ (∀ j k, k ∈ f j → k ∈ F) ∧ (∀ i j k, k ∈ f i → k ∈ f j → i = j)
 | [], [], F, _, _ => ⟨fun _ => [], by simp, by simp, by simp, by simp⟩
 | a :: as_, v :: vs, F, q, hn => by
  obtain ⟨F1, F2, rfl, q1, q2⟩ := q
  rw [List.nodup_append] at hn
  have ⟨f, f1, f2, f3, f4⟩ := VU q2 hn.1
  refine ⟨fun j => match j with | 0 => F1 | j + 1 => f j, ?_, ?_, ?_, ?_⟩
  ·intro j y hj
   cases j with
   | zero => simp at hj; subst hj; exact ⟨v, by simp, q1⟩
   | succ j => simp at hj; have ⟨u, h1, h2⟩ := f1 j y hj; exact ⟨u, by simpa using h1, h2⟩
  ·intro j hj
   cases j with
   | zero => simp at hj
   | succ j => simp at hj; exact f2 j (by simpa using hj)
  ·intro j k hk
   cases j with
   | zero => exact List.mem_append.2 (.inr hk)
   | succ j => exact List.mem_append.2 (.inl (f3 j k hk))
  ·intro i j k hi hj
   cases i with
   | zero =>
    cases j with
    | zero => rfl
    | succ j => exact absurd rfl (hn.2.2 k (f3 j k hj) k hi)
   | succ i =>
    cases j with
    | zero => exact absurd rfl (hn.2.2 k (f3 i k hi) k hj)
    | succ j => rw [f4 i j k hi hj]
 | [], _ :: _, _, q, _ => q.elim
 | _ :: _, [], _, q, _ => q.elim
theorem z7j {S : z8} {w : World}     (hpin : ∀ i u, (i, u) ∈ n.pin → vs[i]? = some u) (hS : xx S w) (hq : k7 S w.heap as_ vs F) (hF : F.Nodup) (hn : as_.length ≤ n.size) :
  ∃ Fp, Sim ⟨n, [], w, S, fun k => w.heap.size ≤ k ∨ k ∈ F⟩ S Fp [] (ini as_) { tmps := vs.toArray ++ Array.replicate (n.size - vs.toArray.size) undef, defers := [] } w := by
 have ⟨f, f1, f2, f3, f4⟩ := VU hq hF
 have hl := hq.nil
 have htv : ∀ t v, vs[t]? = some v → Act.tv { tmps := vs.toArray ++ Array.replicate (n.size - vs.toArray.size) undef, defers := [] } t = v := by
  intro t v h1
  have hlt := (List.getElem?_eq_some_iff.1 h1).1
  simp [Act.tv, Array.getD_eq_getD_getElem?]
  rw [Array.getElem?_append_left (by simpa using hlt)]
  simp [h1]
 refine ⟨f, { size := by simp; omega, pin := fun i u hi => htv i _ (hpin i u hi), defers := rfl, below := wK.refl _ _, mine := ⟨fun k hk => .inl hk, by
   rintro g x e (hk | hk)
   ·have := hS.blk.lt e
    omega
   ·exact hS.blk.ne (JI hq g hk) x e⟩, still := hS, sinc := fun _ _ _ h => h, sbase := fun _ _ _ => rfl, ent := ?_, disj := f4, base := fun t k hk => .inr (f3 t k hk), xn := by simp, xd := by simp, xb := by simp }⟩
 intro t
 unfold ini
 cases ht : as_[t]? with
 | none =>
  rw [f2 t ht]
  rfl
 | some y =>
  have ⟨v, h1, h2⟩ := f1 t y ht
  have hv : Act.tv { tmps := vs.toArray ++ Array.replicate (n.size - vs.toArray.size) undef, defers := [] } t = v := by
   have hlt := (List.getElem?_eq_some_iff.1 h1).1
   simp [Act.tv, Array.getD_eq_getD_getElem?]
   rw [Array.getElem?_append_left (by simpa using hlt)]
   simp [h1]
  rw [hv]
  dsimp only
  unfold yQ
  rcases h2.mkT with ⟨e, q1, q2⟩ | ⟨e, q⟩
  ·simp [e]; exact ⟨q1, q2⟩
  ·simp [e]; exact q
theorem Sim.shutD {C : Ctx} {S : z8}  {st : St}  {w : World} (h : Sim C S Fp [] st a w) {D : Nat} {o o' : Obj} (hM : C.M D) (hD : w.heap[D]? = some o) (hc : ∀ i, zu w.heap D i = none) (hF : ∀ t, D ∉ Fp t) : Sim C S Fp [] st a (w.putObj D o') := by
 have hlt := (Array.getElem?_eq_some_iff.1 hD).1
 refine h.mem (h.below.trans ⟨rfl, rfl, rfl, Nat.le_refl _, by simp [World.putObj], fun k hk => World.putObj_heap_other (by rintro rfl; exact hk hM)⟩) (fun _ _ _ q => q) ?_ h.sbase ?_ (by simp) (by simp) (by simp)
 ·intro b i v q
  have q2 := h.still b i v q
  have hne : b ≠ D := by rintro rfl; rw [hc] at q2; cases q2
  unfold zu at q2 ⊢
  rw [World.putObj_heap_other hne]
  exact q2
 ·intro t k hk
  have hne : k ≠ D := by rintro rfl; exact hF t hk
  exact ⟨World.putObj_heap_other hne, (h.free t k hk).2.1⟩
theorem Qb {D i : Nat} {x : Option (List Deferred)} (hD : h[D]? = some (.deferred x)) : zu h D i = none := by
 unfold zu
 rw [hD]
theorem z2F {F : Fence} {m : Nat}  {tmps : Array Value} {R : Ending → World → Prop} {C : Ctx} {S : z8}  {st : St}  (hres : ∀ w, Sim C S Fp [] st a w → ∃ v, (results fn tmps).run P w = .ok v w ∧ R (.returned v) w) :
  ∀ (Ds : List Nat) (w : World), Sim C S Fp [] st a w → Ds.Nodup → (∀ D ∈ Ds, C.M D ∧ w.heap[D]? = some (.deferred (some [])) ∧ ∀ t, D ∉ Fp t) → LeavesInM F m P fn tmps R (Ds.map mark) .returning w
 | [], w, h, _, _ => hres w h
 | D :: Ds, w, h, hn, hd => by
  rw [List.nodup_cons] at hn
  have ⟨h1, h2, h3⟩ := hd D (by simp)
  refine ⟨by simp, .inl ⟨D, _, rfl, run_takeDeferred h2, z2F hres Ds _ (h.shutD h1 h2 (fun i => Qb h2) h3) hn.2 ?_⟩⟩
  intro D' hD'
  have ⟨q1, q2, q3⟩ := hd D' (by simp [hD'])
  refine ⟨q1, ?_, q3⟩
  rw [World.putObj_heap_other (by rintro rfl; exact hn.1 hD')]
  exact q2
variable {body : Code}
theorem VZ {n : Fr}   {args : List A} {Q : Exit → St → Prop} {R : World → Ending → World → Prop} {S : z8} {w : World} {vs : List Value} {F : List Nat} (hf : P.funcs[k]? = some fn) (hb : fn.body = some body)
  (hn : n.size = fn.ntmps) (hpin : ∀ i u, (i, u) ∈ n.pin → vs[i]? = some u) (ha : args.length ≤ fn.ntmps) (hS : xx S w) (hq : k7 S w.heap args vs F) (hF : F.Nodup)
  (h : AWP P n body (ini args) Q)
  (hQ : ∀ ex st', Q ex st' → (ex = .normal ∨ ex = .ret) ∧ ∀ df S' Fp' a' w', Sim ⟨n, df, w, S, fun k => w.heap.size ≤ k ∨ k ∈ F⟩ S' Fp' [] st' a' w' → ∃ v, (results fn a'.tmps).run P w' = .ok v w' ∧ R w (.returned v) w') : Calls P k vs.toArray w (R w) := by
 refine (callsIn_wide (n := 0)).1 (callsIn_of_wp_marks hf hb trivial ?_ rfl)
 have ⟨Fp, hs⟩ := z7j (n := n) hpin hS hq hF (by rw [hn]; exact ha)
 rw [hn] at hs
 refine wpIn_mono (h none 0 [] w S _ S Fp _ w ⟨by simp, by simp, by simp⟩ hs) ?_
 rintro ex a' w' ⟨df', st', S', Fp', h1, h2, h3⟩
 have ⟨hx, hQ⟩ := hQ _ _ h3
 have fin : LeavesInM Fence.wide 0 P fn a'.tmps (R w) a'.defers .returning w' := by
  rw [h1.defers]
  exact z2F (C := ⟨n, df', w, S, fun k => w.heap.size ≤ k ∨ k ∈ F⟩) (fun w2 hw2 => hQ _ _ _ _ _ hw2) df' w' h1 h2.nodup fun D hD => ⟨(h2.old D hD).elim (fun q => by simp at q) id, h2.ent D hD, h2.off D hD⟩
 rcases hx with rfl | rfl
 ·exact fin
 ·exact fin
section
variable {P : Program} {n : Fr} {st : St} {Q : Exit → St → Prop} {tt : TT} {ctr : Ctr}
theorem AWP.nextC (live : List Nat)  (h : ∀ K : St → Prop, (∀ st', AWP P n y (Own.canon live st') Q → K st') → AWP P n x st (K8 K Q)) : AWP P n (.seq x y) st Q :=
 AWP.seq (h _ fun _ q => AWP.canon live q)
theorem AWP.condT (hb : KM st c = some true) (h : AWP P n x st Q) : AWP P n (.cond c x y) st Q := AWP.cond hb (fun _ => h) (fun h => by cases h)
theorem AWP.condF (hb : KM st c = some false) (h : AWP P n y st Q) : AWP P n (.cond c x y) st Q := AWP.cond hb (fun h => by cases h) (fun _ => h)
end
def z8x (E : St → Prop) : Exit → St → Prop
 | .normal, st => E st
 | .ret, st => E st
 | _, _ => False
def K4 (r : Nat × Option Nat) : ResultVar := match r.2 with | none => .tmp r.1 | some t => .cell r.1 t
def vA (tt : TT) : List (Nat × Option Nat) → List A → Option (List A)
 | [], [] => some []
 | (_, none) :: rs, x :: xs => (vA tt rs xs).map (x :: ·)
 | (_, some t) :: rs, .sptr y :: xs => if j8 tt t y = true then (vA tt rs xs).map (y :: ·) else none
 | _, _ => none
def z99 (tt : TT) (rs : List (Nat × Option Nat)) : SM A := do
 let xs ← shutArgs tt (rs.map fun r => (.tmp r.1, 0))
 match vA tt rs xs with
 | some [y] => pure y
 | some ys => pure (.tup ys)
 | none => zm
theorem vB {w : World}  (g : α → Sem Value) : ∀ (l : List α) (vs : List Value) (acc : Array Value), uV (fun r v => (g r).run P w = .ok v w) l vs → (l.foldlM (fun bs a => bs.push <$> g a) acc).run P w = .ok (acc ++ vs.toArray) w
 | [], [], acc, _ => by simp
 | r :: l, v :: vs, acc, h => by
  rw [List.foldlM_cons, Sem.run_bind]
  have : (acc.push <$> g r : Sem (Array Value)).run P w = .ok (acc.push v) w := by
   rw [map_eq_pure_bind, Sem.run_bind, h.1]
   simp
  rw [this, Result.andThen_ok, vB g l vs _ h.2]
  simp
 | [], _ :: _, _, h => h.elim
 | _ :: _, [], _, h => h.elim
variable {rs : List (Nat × Option Nat)}
section
variable {C : Ctx} {S : z8} {Fp : Nat → List Nat} {X : List Nat} {st : St} {a : Act} {w : World}
theorem YD (hT : ut P tt) {S : z8} (hS : xx S w) : ∀ {rs : List (Nat × Option Nat)} {xs ys : List A}, vA tt rs xs = some ys → uV (wi S) xs (rs.map fun r => Act.tv a r.1) →
  ∃ vs, uV (wi S) ys vs ∧ uV (fun r v => ((fun r : ResultVar => match r with | .tmp t => (pure (a.tmps.getD t undef) : Sem Value) | .cell b t => do loadVar t (← asAddr (a.tmps.getD b undef))) r).run P w = .ok v w) (rs.map K4) vs
 | [], [], ys, e, _ => by
  simp only [vA, Option.some.injEq] at e
  subst e
  exact ⟨[], trivial, trivial⟩
 | (t, none) :: rs, x :: xs, ys, e, h => by
  simp only [vA, Option.map_eq_some_iff] at e
  obtain ⟨zs, e, rfl⟩ := e
  have ⟨vs, h1, h2⟩ := YD hT hS e h.2
  exact ⟨Act.tv a t :: vs, ⟨h.1, h1⟩, by simp only [K4]; exact Sem.run_pure .., h2⟩
 | (t, some ty) :: rs, x :: xs, ys, e, h => by
  cases x with
  | sptr y =>
   simp only [vA] at e
   split at e
   ·rename_i hf
    rw [Option.map_eq_some_iff] at e
    obtain ⟨zs, e, rfl⟩ := e
    have ⟨vs, h1, h2⟩ := YD hT hS e h.2
    have ⟨cs, q1, q2⟩ := h.1
    simp only [Rep] at q1
    obtain ⟨b, o, l, rfl, r1, r2⟩ := q1
    refine ⟨zT y l :: vs, ⟨⟨l, r1, rfl⟩, h1⟩, ?_, h2⟩
    simp only [K4]
    have hv : a.tmps.getD t undef = .pointer (some ⟨b, o, none⟩) := q2
    rw [hv]
    simp only [asAddr, Sem.run_bind, Sem.run_pure, Result.andThen_ok]
    exact ZW hT hf r1.len (fun j u hj => hS _ _ _ (r2 j u hj))
   ·cases e
  | _ => simp [vA] at e
 | [], _ :: _, _, e, _ => by simp [vA] at e
 | (_, none) :: _, [], _, e, _ => by simp [vA] at e
 | (_, some _) :: _, [], _, e, _ => by simp [vA] at e
theorem z70 {P : Program}  (hT : ut P tt)   (hr : fn.results = (rs.map K4).toArray) (h : Sim C S Fp [] st a w) {x : A}   (e : z99 tt rs st = some (x, R, U)) :
  ∃ v S', (results fn a.tmps).run P w = .ok v w ∧ (∀ b o u, S b o = some u → S' b o = some u) ∧ (∀ b o, ¬ C.M b → S' b o = C.S0 b o) ∧ xx S' w ∧ yY S' x v := by
 unfold z99 at e
 obtain ⟨xs, R1, U1, R2, U2, h1, e1, rfl, rfl⟩ := bind_some e
 have ⟨S1, Fp1, g1, g2, _, g3⟩ := xX h h1
 have hm : (rs.map fun r => (Operand.tmp r.1, 0)).map (fun p => a.eval p.1) = rs.map (fun r => Act.tv a r.1) := by rw [List.map_map]; rfl
 rw [hm] at g3
 cases hg : vA tt rs xs with
 | none => simp only [hg] at e1; cases e1
 | some ys =>
  have ⟨vs, q1, q2⟩ := YD (P := P) hT g1.still hg g3
  have hrun : (results fn a.tmps).run P w = .ok (if h : vs.toArray.size = 1 then vs.toArray[0] else .tuple vs.toArray) w := by
   unfold results
   rw [hr, Array.mapM_eq_foldlM, List.foldlM_toArray, Sem.run_bind]
   have := vB (P := P) (w := w) _ _ vs #[] q2
   rw [Array.empty_append] at this
   exact (congrArg (fun r => Result.andThen r (fun q w' => Sem.run P (pure (if h : q.size = 1 then q[0] else Value.tuple q)) w')) this).trans rfl
  simp only [hg] at e1
  refine ⟨_, S1, hrun, g2, g1.sbase, g1.still, ?_⟩
  rcases ys with _ | ⟨y, _ | ⟨y2, l⟩⟩
  ·cases e1
   cases vs with
   | nil => simp only [yY]; exact ⟨[], rfl, trivial⟩
   | cons _ _ => exact q1.elim
  ·cases e1
   rcases vs with _ | ⟨v, _ | ⟨v2, l⟩⟩
   ·exact q1.elim
   ·exact q1.1.repV
   ·exact q1.2.elim
  ·cases e1
   rcases vs with _ | ⟨v, _ | ⟨v2, l2⟩⟩
   ·exact q1.elim
   ·exact q1.2.elim
   ·simp only [yY]
    exact ⟨v :: v2 :: l2, by simp, q1⟩
end
def zdl : List A → A
 | [x] => x
 | ys => .tup ys
section
variable {C : Ctx} {S : z8} {Fp : Nat → List Nat} {X : List Nat} {st : St} {a : Act} {w : World}
theorem QZ {P : Program}  (hT : ut P tt)   (hr : fn.results = (rs.map K4).toArray) {S : z8} (hS : xx S w) {xs ys : List A} (hg : vA tt rs xs = some ys) (h3 : uV (wi S) xs (rs.map fun r => Act.tv a r.1)) :
  ∃ v, (results fn a.tmps).run P w = .ok v w ∧ yY S (zdl ys) v := by
 have ⟨vs, q1, q2⟩ := YD (P := P) hT hS hg h3
 refine ⟨if h : vs.toArray.size = 1 then vs.toArray[0] else .tuple vs.toArray, ?_, ?_⟩
 ·unfold results
  rw [hr, Array.mapM_eq_foldlM, List.foldlM_toArray, Sem.run_bind]
  have := vB (P := P) (w := w) _ _ vs #[] q2
  rw [Array.empty_append] at this
  exact (congrArg (fun r => Result.andThen r (fun q w' => Sem.run P (pure (if h : q.size = 1 then q[0] else Value.tuple q)) w')) this).trans rfl
 ·rcases ys with _ | ⟨y, _ | ⟨y2, l⟩⟩
  ·cases vs with
   | nil => simp [yY]; exact ⟨[], rfl, trivial⟩
   | cons _ _ => exact q1.elim
  ·rcases vs with _ | ⟨v, _ | ⟨v2, l⟩⟩
   ·exact q1.elim
   ·exact q1.1.repV
   ·exact q1.2.elim
  ·rcases vs with _ | ⟨v, _ | ⟨v2, l2⟩⟩
   ·exact q1.elim
   ·exact q1.2.elim
   ·simp [yY]
    exact ⟨v :: v2 :: l2, by simp, q1⟩
end
structure yn where
 α : Type
 k : Nat
 raw : Bool
 gives : List Bool
 enc : α → List A
 pre : α → Prop
 f : α → A
 inj : ∀ x y, enc x = enc y → pre x → pre y → f x = f y
structure Ctr.Has (c : Ctr) (s : yn) : Prop where
 run : ∀ x, s.pre x → c.run s.k (s.enc x) = some (s.f x)
 gives : c.gives s.k = s.gives
 raw : c.raw s.k = s.raw
def yn.Ok (P : Program) (s : yn) : Prop := ∀ x, s.pre x → qH P s.k (s.enc x) (s.f x)
open Classical in
noncomputable def Ctr.add (c : Ctr) (s : yn) : Ctr := {
 run := fun k as_ => if k = s.k then (if h : ∃ x, s.enc x = as_ ∧ s.pre x then some (s.f h.choose) else none) else c.run k as_
 gives := fun k => if k = s.k then s.gives else c.gives k
 raw := fun k => if k = s.k then s.raw else c.raw k }
theorem Ctr.add_has (c : Ctr) (s : yn) : (c.add s).Has s := {
 run := fun x hx => by
  have h : ∃ y, s.enc y = s.enc x ∧ s.pre y := ⟨x, rfl, hx⟩
  simp [Ctr.add, dif_pos h, Option.some.injEq]
  exact s.inj _ _ h.choose_spec.1 h.choose_spec.2 hx
 gives := by simp [Ctr.add]
 raw := by simp [Ctr.add] }
theorem Ctr.Has.add {c : Ctr} {s t : yn} (h : c.Has t) (hk : t.k ≠ s.k) : (c.add s).Has t := {
 run := fun x hx => by simp [Ctr.add, if_neg hk]; exact h.run x hx
 gives := by simp [Ctr.add, if_neg hk]; exact h.gives
 raw := by simp [Ctr.add, if_neg hk]; exact h.raw }
theorem Ctr.add_ok {c : Ctr} {s : yn} (hc : uM P c) (hs : s.Ok P) : uM P (c.add s) := by
 refine ⟨?_, Vr.none P⟩
 ·intro k as_ r e
  simp [Ctr.add] at e
  split at e
  ·rename_i hk
   split at e
   ·rename_i h
    simp [Option.some.injEq] at e
    subst e hk
    have q := hs _ h.choose_spec.2
    rw [h.choose_spec.1] at q
    exact q
   ·cases e
  ·exact hc.1 _ _ _ e
def zer : Ctr := { run := fun _ _ => none, gives := fun _ => [] }
theorem z82 (P : Program) : uM P zer := ⟨fun _ _ _ h => (by cases h), Vr.none P⟩
noncomputable def z81 : List yn → Ctr
 | [] => zer
 | s :: l => (z81 l).add s
def Xj (P : Program) : List yn → Prop
 | [] => True
 | s :: l => (∀ c, uM P c → (∀ t ∈ l, c.Has t) → s.Ok P) ∧ (∀ t ∈ l, t.k ≠ s.k) ∧ Xj P l
theorem z0T : ∀ {l : List yn}, Xj P l → uM P (z81 l) ∧ ∀ t ∈ l, (z81 l).Has t
 | [], _ => ⟨z82 P, fun _ h => by cases h⟩
 | s :: l, h => by
  have ⟨h1, h2⟩ := z0T h.2.2
  refine ⟨Ctr.add_ok h1 (h.1 _ h1 h2), fun t ht => ?_⟩
  rcases List.mem_cons.1 ht with rfl | ht
  ·exact Ctr.add_has _ _
  ·exact (h2 t ht).add (h.2.1 t ht)
theorem z1o {l : List yn} (h : Xj P l) {s : yn} (hs : s ∈ l) : s.Ok P := by
 intro x hx
 have ⟨h1, h2⟩ := z0T h
 exact h1.1 _ _ _ ((h2 s hs).run x hx)
abbrev I (x : Int) : A := .atom (.int .i64 x)
abbrev B (x : Bool) : A := .atom (.bool x)
theorem z1f (f : α → A) (l : List α) : A.looses (l.map f) = l.map fun x => (f x).loose := by rw [A.looses_eq, List.map_map]; rfl
theorem Wl (f : α → A) : ∀ (l : List α), A.shuts (l.map f) = l.map fun x => (f x).shut
 | [] => rfl
 | x :: l => by simp [A.shuts, Wl f l]
theorem z11 (f : α → A) : ∀ (l : List α), (∀ x, (f x).isD = true) → A.areD (l.map f) = true
 | [], _ => rfl
 | x :: l, h => by simp [A.areD, h x, z11 f l h]
theorem WQ (f : α → A) : ∀ (l : List α), (∀ x, (f x).live = true) → A.lives (l.map f) = true
 | [], _ => rfl
 | x :: l, h => by simp [A.lives, h x, WQ f l h]
theorem z4Q {S : z8}  {a : A}   (hd : a.isD = true) (q : Has S h a v F) : wi S a v ∧ F = [] := by
 rcases q with ⟨q, e⟩ | ⟨cs, q1, q2, q3⟩
 ·exact ⟨q.rep1 hd, e⟩
 ·have ⟨r, e⟩ := q1.isD hd
  exact ⟨⟨cs, r, q3⟩, e⟩
theorem Ql {α β : Type} {R : α → β → Prop} : ∀ {l : List α} {m : List β}, uV R l m → l.length = m.length
 | [], [], _ => rfl
 | _ :: _, _ :: _, q => by simp [Ql q.2]
 | [], _ :: _, q => q.elim
 | _ :: _, [], q => q.elim
theorem Qm {α β : Type} {R : α → β → Prop} : ∀ {l : List α} {m : List β} {l' : List α} {m' : List β}, uV R l m → uV R l' m' → uV R (l ++ l') (m ++ m')
 | [], [], _, _, _, q => q
 | _ :: _, _ :: _, _, _, p, q => ⟨p.1, Qm p.2 q⟩
 | [], _ :: _, _, _, q, _ => q.elim
 | _ :: _, [], _, _, q, _ => q.elim
def z4o : List (Nat × Value) → Nat → Option Value
 | [], _ => none
 | p :: ps, k => if p.1 = k then some p.2 else z4o ps k
theorem UW : ∀ {ps : List (Nat × Value)} {k : Nat} {v : Value}, z4o ps k = some v → (k, v) ∈ ps
 | p :: ps, k, v, h => by
  simp [z4o] at h
  split at h
  ·rename_i e
   simp [Option.some.injEq] at h
   subst e; subst h
   exact List.mem_cons_self
  ·exact List.mem_cons_of_mem _ (UW h)
def refT (tt : TT) (n : Fr) (ty : Nat) (x : T) : SM A :=
 match x with
 | .als r p er ec =>
  match z4o n.pin r with
  | some v => do
   let e ← rdE r
   match e.t with
   | .own x => if p = [] ∧ e.er = er ∧ z5P x = true then pure (.atom v) else shutT tt ty (.als r p er ec)
   | _ => shutT tt ty (.als r p er ec)
  | none => shutT tt ty (.als r p er ec)
 | x => shutT tt ty x
def refArgs (tt : TT) (n : Fr) : List (Operand × Nat) → SM (List A)
 | [] => pure []
 | (x, t) :: as_ => do
  let y ← opnd x
  let a ← refT tt n t y
  let bs ← refArgs tt n as_
  pure (a :: bs)
def lentA (n : Fr) (s : Nat) : SM (Value × A) :=
 match z4o n.pin s with
 | some v => do
  let e ← rdE s
  match e.t with
  | .own x =>
   if z5P x = true then do
    wrE s ⟨.own (.dead 1), e.er, e.ec + 1⟩
    pure (v, x)
   else zm
  | _ => zm
 | none => zm
def lentsA (n : Fr) : List Nat → SM (List (Value × A))
 | [] => pure []
 | s :: ss => do
  let q ← lentA n s
  let r ← lentsA n ss
  pure (q :: r)
def backA (s : Nat) (y : A) : SM Unit := do
 let e ← rdE s
 match e.t with
 | .own (.dead _) => if z5P y = true then wrE s ⟨.own y, e.er, e.ec + 1⟩ else zm
 | _ => zm
def backsA : List Nat → List A → SM Unit
 | [], [] => pure ()
 | s :: ss, y :: ys => do
  backA s y
  backsA ss ys
 | _, _ => zm
def zco (P : Program) (fvv : Value) (avs : List Value) (w : World) (R : Value → World → Prop) : Prop :=
 (∃ k caps fn, fvv = .func (.func k) #[] caps ∧ P.funcs[k]? = some fn ∧ (fn.name == "runtime.NumGoroutine") = false ∧ fn.body.isNone = false ∧ Calls P k (avs.toArray ++ caps) w (fun e w' => ∃ v, e = .returned v ∧ R v w')) ∨
 (∃ L q, fvv = .func (.yield L) #[] #[] ∧ w.heap[L]? = some (.loop q) ∧ avs.length = q.params.size ∧
  ∀ rd m, RoundIn (fen rd) m P L q.fn ((q.params.zip avs.toArray).foldl (fun tmps (t, a) => tmps.setIfInBounds t a) q.tmps) q.assign q.body w (fun e w' => ∃ v, e = .returned v ∧ R v w'))
def qG (P : Program) (f : A) (args : List A) (ls : List (Value × A)) (r : A) (ys : List A) : Prop :=
 ∀ (S : z8) (w : World) (fv : Value) (vs : List Value) (F : List Nat), xx S w → wi S f fv → uV (wi S) args vs → k7 S w.heap (ls.map (·.2)) (ls.map (·.1)) F → F.Nodup →
  zco P fv vs w fun v w' => ∃ S' F' G, wK (fun k => w.heap.size ≤ k ∨ k ∈ F) w w' ∧ (∀ b o u, S b o = some u → S' b o = some u) ∧ (∀ b o, b < w.heap.size → b ∉ F → S' b o = S b o) ∧ xx S' w' ∧ Has S' w'.heap r v F' ∧ k7 S' w'.heap ys (ls.map (·.1)) G ∧
   (G ++ F').Nodup ∧ ∀ k ∈ G ++ F', w.heap.size ≤ k ∨ k ∈ F
def lentQ (tt : TT) (tab : A → List A → List (Value × A) → Option (A × List A)) (n : Fr) (dst : Option Nat) (f : Operand) (as_ : List (Operand × Nat)) (L : List Nat) : SM Unit := do
 let fs ← refArgs tt n [(f, 0)]
 let xs ← refArgs tt n as_
 let ls ← lentsA n L
 match fs with
 | [fa] =>
  match tab fa xs ls with
  | some (r, ys) => do
   backsA L ys
   wrT n dst (mkT r)
  | none => zm
 | _ => zm
section
variable {C : Ctx} {S : z8} {Fp : Nat → List Nat} {X : List Nat} {st : St} {a : Act} {w : World}
theorem z72 (h : Sim C S Fp X st a w)   {x : T}  (hx : TOk S w.heap st (Act.tv a) x v) {y : A}   (e : refT tt C.n t x st = some (y, R, U)) :
  ∃ S' Fp', Sim C S' Fp' X (z7 U st) a w ∧ (∀ b o u, S b o = some u → S' b o = some u) ∧ wi S' y v := by
 have other : shutT tt t x st = some (y, R, U) → ∃ S' Fp', Sim C S' Fp' X (z7 U st) a w ∧ (∀ b o u, S b o = some u → S' b o = some u) ∧ wi S' y v := fun e => by
  have ⟨S', Fp', h1, h2, _, h3⟩ := Yq h hx e
  exact ⟨S', Fp', h1, h2, h3⟩
 cases x with
 | als r p er ec =>
  simp only [refT] at e
  have oth : ∀ {y : A} {R : List Nat} {U : List (Nat × Ent)}, shutT tt t (.als r p er ec) st = some (y, R, U) → ∃ S' Fp', Sim C S' Fp' X (z7 U st) a w ∧ (∀ b o u, S b o = some u → S' b o = some u) ∧ wi S' y v := fun e => by
   have ⟨S', Fp', h1, h2, _, h3⟩ := Yq h hx e
   exact ⟨S', Fp', h1, h2, h3⟩
  cases hu : z4o C.n.pin r with
  | none => simp only [hu] at e; exact other e
  | some u =>
  simp only [hu] at e
  have ⟨_, e1⟩ := bD e
  cases ht : (st r).t with
  | own x0 =>
   simp only [ht] at e1
   split at e1
   ·rename_i hc
    cases e1
    obtain ⟨rfl, hc1, hc2⟩ := hc
    refine ⟨S, Fp, h, fun _ _ _ q => q, ?_⟩
    have hr := h.ent r
    unfold yQ at hr
    simp only [ht] at hr
    have ⟨cs, c1, c2, c3⟩ := hr
    have hv : v = Act.tv a r := by
     have := hx.2.2
     simp only [ht] at this
     rcases this hc1 (.inl trivial) with ⟨_, hv⟩ | ⟨ho, _⟩
     ·exact hv
     ·simp [ZZ] at ho
    have hp : Act.tv a r = u := h.pin r u (UW hu)
    rw [w5]
    refine ⟨hv.trans hp, ?_⟩
    have hcs := z0n hc2 c1
    have := c1.one1 (VI hc2) (zT x0 cs) (by have q := List.mem_singleton_self (zT x0 cs); rwa [← hcs] at q)
    rw [← hp, c3]
    exact this
   ·exact oth e1
  | _ => simp only [ht] at e1; exact oth e1
 | own _ => exact hx.elim
 | gone => exact hx.elim
 | _ => exact other e
theorem Za : ∀ {bs : List (Operand × Nat)} {S : z8} {Fp : Nat → List Nat} {st : St}, Sim C S Fp X st a w → ∀ {xs : List A} {R : List Nat} {U : List (Nat × Ent)}, refArgs tt C.n bs st = some (xs, R, U) →
  ∃ S' Fp', Sim C S' Fp' X (z7 U st) a w ∧ (∀ b o u, S b o = some u → S' b o = some u) ∧ uV (wi S') xs (bs.map fun p => a.eval p.1)
 | [], S, Fp, st, h, xs, R, U, e => by
  cases e
  exact ⟨S, Fp, h, fun _ _ _ q => q, trivial⟩
 | (x, t) :: bs, S, Fp, st, h, xs, R, U, e => by
  simp [refArgs] at e
  have ⟨y, _, hx, e1⟩ := bR (zK h) e
  obtain ⟨z, R3, U3, R4, U4, h3, e2, rfl, rfl⟩ := bind_some e1
  have ⟨S1, Fp1, g1, g2, g3⟩ := z72 h hx h3
  obtain ⟨zs, R5, U5, R6, U6, h5, e3, rfl, rfl⟩ := bind_some e2
  have ⟨S2, Fp2, k1, k2, k3⟩ := Za g1 h5
  cases e3
  rw [List.append_nil, zl]
  exact ⟨S2, Fp2, k1, fun b o u q => k2 _ _ _ (g2 _ _ _ q), g3.mono k2, k3⟩
theorem z4G (h : Sim C S Fp X st a w) {s : Nat} {q : Value × A}   (e : lentA C.n s st = some (q, R, U)) :
  ∃ Fp' F, Sim C S Fp' (F ++ X) (z7 U st) a w ∧ Has S w.heap q.2 q.1 F ∧ Act.tv a s = q.1 := by
 simp only [lentA] at e
 cases hu : z4o C.n.pin s with
 | none => simp only [hu] at e; cases e
 | some u =>
 simp only [hu] at e
 have ⟨_, e1⟩ := bD e
 cases ht : (st s).t with
 | own x =>
  simp only [ht] at e1
  split at e1
  ·rename_i ho
   obtain ⟨u5, R5, U5, R6, U6, h5, h6, rfl, rfl⟩ := bind_some e1
   cases h5
   cases h6
   simp only [List.append_nil, z7]
   have hr := h.ent s
   unfold yQ at hr
   simp only [ht] at hr
   have ⟨cs, c1, c2, c3⟩ := hr
   have hp : Act.tv a s = u := h.pin s u (UW hu)
   have hcs := z0n ho c1
   have hone : (zT x cs).oneCell' = true := c1.one1 (VI ho) _ (by have q := List.mem_singleton_self (zT x cs); rwa [← hcs] at q)
   refine ⟨Vk Fp s [], Fp s, ?_, .inr ⟨cs, c1, c2, by rw [← hp]; exact c3⟩, hp⟩
   refine h.change s (.own (.dead 1)) _ _ [] h.below (fun _ _ _ q => q) h.still.cell h.sbase (fun t k _ hk => ⟨rfl, (h.free t k hk).2.1⟩) ⟨⟨[Act.tv a s], ?_, List.nodup_nil, rfl⟩, x, ht⟩ (.inl ⟨x, ht⟩) (Nat.le_refl _) (Nat.lt_succ_self _) (by simp) (by simp) ?_ ?_ (by simp) ?_
   ·simp only [zA]
    refine ⟨rfl, ?_, trivial⟩
    intro v hv
    simp only [List.mem_cons, List.not_mem_nil, or_false] at hv
    rw [hv, c3]; exact hone
   ·rw [List.nodup_append]
    exact ⟨c2, h.xn, fun k hk k' hk' e => h.xd s k' hk' (e ▸ hk)⟩
   ·intro t k hts hk
    rcases List.mem_append.1 hk with hk | hk
    ·exact fun hk' => hts (h.disj t s k hk' hk)
    ·exact h.xd t k hk
   ·intro k hk
    rcases List.mem_append.1 hk with hk | hk
    ·exact h.base s k hk
    ·exact h.xb k hk
  ·cases e1
 | _ => simp only [ht] at e1; cases e1
theorem Jz : ∀ {L : List Nat} {Fp : Nat → List Nat} {X : List Nat} {st : St}, Sim C S Fp X st a w → ∀ {ls : List (Value × A)} {R : List Nat} {U : List (Nat × Ent)}, lentsA C.n L st = some (ls, R, U) →
  ∃ Fp' F, Sim C S Fp' (F ++ X) (z7 U st) a w ∧ k7 S w.heap (ls.map (·.2)) (ls.map (·.1)) F ∧ ls.map (·.1) = L.map (Act.tv a)
 | [], Fp, X, st, h, ls, R, U, e => by
  cases e
  exact ⟨Fp, [], h, rfl, rfl⟩
 | s :: L, Fp, X, st, h, ls, R, U, e => by
  simp [lentsA] at e
  obtain ⟨q, R1, U1, R2, U2, h1, e1, rfl, rfl⟩ := bind_some e
  have ⟨Fp1, F1, g1, g2, g3⟩ := z4G h h1
  obtain ⟨zs, R5, U5, R6, U6, h5, e3, rfl, rfl⟩ := bind_some e1
  have ⟨Fp2, F2, k1, k2, k3⟩ := Jz g1 h5
  cases e3
  rw [List.append_nil, zl]
  exact ⟨Fp2, F2 ++ F1, by rw [List.append_assoc]; exact k1, ⟨F1, F2, rfl, g2, k2⟩, by simp [k3, g3]⟩
theorem z5k (h : Sim C S Fp (F ++ X) st a w) {s : Nat} {y : A} (hy : Has S w.heap y (Act.tv a s) F)    (e : backA s y st = some (u, R, U)) : ∃ Fp', Sim C S Fp' X (z7 U st) a w := by
 simp [backA] at e
 obtain ⟨en, R1, U1, R2, U2, h1, e1, rfl, rfl⟩ := bind_some e
 obtain ⟨rfl, rfl, rfl⟩ := u6 h1
 simp [z7, List.nil_append] at e1 ⊢
 have gone : (∀ m, (st s).t ≠ .own (.dead m)) → ∃ Fp', Sim C S Fp' X (z7 U2 st) a w := fun hne => by
  cases ht : (st s).t with
  | own x => cases x <;> simp [ht] at e1 <;> first | cases e1 | exact absurd ht (hne _)
  | _ => simp [ht] at e1; cases e1
 by_cases hm : ∃ m, (st s).t = .own (.dead m)
 ·have ⟨m, ht⟩ := hm
  simp [ht] at e1
  split at e1
  ·rename_i ho
   cases e1
   simp [z7]
   have hx := h.xn
   rw [List.nodup_append] at hx
   have notup : ∀ fs, y ≠ .tup fs := by rintro fs rfl; simp [z5P] at ho
   have ⟨cz, z1, z2, z3⟩ := hy.cells notup
   refine ⟨Vk Fp s F, ?_⟩
   exact h.change s (.own y) _ _ F h.below (fun _ _ _ q => q) h.still.cell h.sbase (fun t k _ hk => ⟨rfl, (h.free t k hk).2.1⟩) ⟨⟨cz, z1, z2, z3⟩, _, ht⟩ (.inl ⟨_, ht⟩) (Nat.le_refl _) (Nat.lt_succ_self _)
    (fun t k _ hk => h.xd t k (by simp [hk])) (fun k hk => h.xb k (by simp [hk])) hx.2.1 (fun t k _ hk => h.xd t k (by simp [hk])) (fun k hk hk' => hx.2.2 k hk' k hk rfl) (fun k hk => h.xb k (by simp [hk]))
  ·cases e1
 ·exact gone fun m he => hm ⟨m, he⟩
theorem JY : ∀ {L : List Nat} {ys : List A} {F X : List Nat} {Fp : Nat → List Nat} {st : St}, Sim C S Fp (F ++ X) st a w → k7 S w.heap ys (L.map (Act.tv a)) F → ∀ {u : Unit} {R : List Nat} {U : List (Nat × Ent)}, backsA L ys st = some (u, R, U) →
  ∃ Fp', Sim C S Fp' X (z7 U st) a w
 | [], [], F, X, Fp, st, h, hy, u, R, U, e => by
  cases e
  have : F = [] := hy
  subst this
  exact ⟨Fp, h⟩
 | s :: L, y :: ys, F, X, Fp, st, h, hy, u, R, U, e => by
  simp [backsA] at e
  obtain ⟨q, R1, U1, R2, U2, h1, e1, rfl, rfl⟩ := bind_some e
  obtain ⟨F1, F2, rfl, y1, y2⟩ := hy
  have hperm : Sim C S Fp (F1 ++ (F2 ++ X)) st a w := { h with
   xn := by
    have := h.xn
    rw [List.append_assoc] at this
    rw [List.nodup_append] at this ⊢
    have ⟨p1, p2, p3⟩ := this
    rw [List.nodup_append] at p2 ⊢
    have ⟨p4, p5, p6⟩ := p2
    refine ⟨p4, ⟨p1, p5, fun k hk k' hk' => p3 k hk k' (by simp [hk'])⟩, fun k hk k' hk' => ?_⟩
    rcases List.mem_append.1 hk' with q | q
    ·exact fun e => p3 k' q k (by simp [hk]) e.symm
    ·exact p6 k hk k' q
   xd := fun t k hk => h.xd t k (by simp [List.mem_append] at hk ⊢; rcases hk with hk | hk | hk <;> simp [hk])
   xb := fun k hk => h.xb k (by simp [List.mem_append] at hk ⊢; rcases hk with hk | hk | hk <;> simp [hk]) }
  have ⟨Fp1, g1⟩ := z5k hperm y1 h1
  rw [zl]
  exact JY (by simpa using g1) y2 e1
 | [], _ :: _, _, _, _, _, _, _, _, _, _, e => (wM e).elim
 | _ :: _, [], _, _, _, _, _, _, _, _, _, e => (wM e).elim
theorem z3s {P : Program}  {a : Act} {w : World} {f : Operand} {args : Array Operand} {tys : Array TypeId} (ho : o.op = .call { callee := .value f, args := args, argTypes := tys }) {R : Value → World → Prop} (h : zco P (a.eval f) (args.map a.eval).toList w R) (rd : Option Nat) (m : Nat) (K : Act → World → Prop)
  (Q : Exit → Act → World → Prop) (hK : ∀ v w', R v w' → K (a.put o.dst v) w') : o.wpIn (fen rd) m P a w K Q := by
 rcases h with ⟨k, caps, fn, h1, h2, h3, h4, h5⟩ | ⟨L, q, h1, h2, h3, h4⟩
 ·have hexec : (execOp a.eval o).run P w = .ok (.enter k ((args.map a.eval).toList.toArray ++ caps)) w := by
   have hc := uP (P := P) h2 h3 h4 (args.map a.eval ++ caps) w
   simp only [execOp, ho, resolve, h1, Deferred.ofValue, Sem.run_bind, Sem.run_pure, Result.andThen_ok, invoke, Array.empty_append]
   rw [hc]
  refine ⟨fun _ _ => trivial, ?_⟩
  rw [xZ hexec (by simp), Oper.uponIn_enter]
  refine ⟨fun h => (by cases h), CallsIn.mono (qD h5 rd (m - 1)) ?_⟩
  rintro e w' ⟨v, rfl, hr⟩
  exact hK v w' hr
 ·have hexec : (execOp a.eval o).run P w = .ok (.round L q.fn ((q.params.zip (args.map a.eval).toList.toArray).foldl (fun tmps (t, a) => tmps.setIfInBounds t a) q.tmps) q.assign q.body) w := by
   have hy := run_yield (P := P) (args := args.map a.eval) h2 (by simpa using h3)
   simp only [execOp, ho, resolve, h1, Deferred.ofValue, Sem.run_bind, Sem.run_pure, Result.andThen_ok, invoke, Array.empty_append]
   rw [hy]
  refine ⟨fun _ _ => trivial, ?_⟩
  rw [xZ hexec (by simp), Oper.uponIn_round]
  refine ⟨fun h => (by cases h), (h4 rd (m - 1)).mono ?_⟩
  rintro e w' ⟨v, rfl, hr⟩
  exact hK v w' hr
theorem Sim.lentCall (h : Sim C S Fp (X ++ []) st a w) {S' : z8} {w' : World} {Y : List Nat} (b1 : wK (fun k => w.heap.size ≤ k ∨ k ∈ X) w w') (b2 : ∀ b o u, S b o = some u → S' b o = some u) (b3 : ∀ b o, b < w.heap.size → b ∉ X → S' b o = S b o) (b4 : xx S' w')
  (b5 : Y.Nodup) (b6 : ∀ k ∈ Y, w.heap.size ≤ k ∨ k ∈ X) : Sim C S' Fp Y st a w' := by
 rw [List.append_nil] at h
 have hM : ∀ k, (w.heap.size ≤ k ∨ k ∈ X) → C.M k := fun k hk => hk.elim (fun hk => h.mine k (Nat.le_trans h.base_le hk)) (fun hk => h.xb k hk)
 have hno : ∀ t k, k ∈ Fp t → ¬ (w.heap.size ≤ k ∨ k ∈ X) := by
  rintro t k hk (hq | hq)
  ·have := (h.free t k hk).1; omega
  ·exact h.xd t k hq hk
 refine h.mem (h.below.trans (b1.mono hM)) b2 b4 ?_ ?_ b5 (fun t k hk hkt => hno t k hkt (b6 k hk)) (fun k hk => hM k (b6 k hk))
 ·intro b o hb
  rcases Nat.lt_or_ge b w.heap.size with hlt | hge
  ·rw [b3 b o hlt (fun hF => hb (hM b (.inr hF)))]
   exact h.sbase b o hb
  ·exact absurd (hM b (.inl hge)) hb
 ·intro t k hk
  refine ⟨b1.block k (hno t k hk), fun o => ?_⟩
  rw [b3 k o (h.free t k hk).1 (fun hF => hno t k hk (.inr hF))]
  exact (h.free t k hk).2.1 o
theorem z4E {tt : TT} {tab : A → List A → List (Value × A) → Option (A × List A)} (htab : ∀ f xs ls r ys, tab f xs ls = some (r, ys) → qG P f xs ls r ys) (h : Sim C S Fp [] st a w) {op : Oper} {f : Operand} {args : Array Operand} {tys : Array TypeId} {L : List Nat}
  (ho : op.op = .call { callee := .value f, args := args, argTypes := tys }) (hsz : args.size = tys.size) {u : Unit} {R : List Nat} {U : List (Nat × Ent)}
  (e : lentQ tt tab C.n op.dst f (args.toList.zip tys.toList) L st = some (u, R, U)) : uU P C op a w (z7 U st) := by
 unfold lentQ at e
 obtain ⟨fs, R1, U1, R2, U2, e1, e2, rfl, rfl⟩ := bind_some e
 obtain ⟨S1, Fp1, g1, g2, g3⟩ := Za h e1
 obtain ⟨xs, R3, U3, R4, U4, e3, e4, rfl, rfl⟩ := bind_some e2
 obtain ⟨S2, Fp2, j1, j2, j3⟩ := Za g1 e3
 obtain ⟨ls, R5, U5, R6, U6, e5, e6, rfl, rfl⟩ := bind_some e4
 obtain ⟨Fp3, F, k1, k2, k3⟩ := Jz j1 e5
 rw [zl, zl, zl]
 have hmapargs : (args.toList.zip tys.toList).map (fun p => a.eval p.1) = (args.map a.eval).toList := by
  have : (args.toList.zip tys.toList).map (fun p => a.eval p.1) = ((args.toList.zip tys.toList).map (·.1)).map a.eval := by rw [List.map_map]; rfl
  rw [this, List.map_fst_zip (by simp [hsz])]
  simp
 rw [hmapargs] at j3
 rcases fs with _ | ⟨fa, _ | ⟨f2, fs⟩⟩
 ·exact g3.elim
 ·simp only at e6
  cases hr : tab fa xs ls with
  | none => simp [hr] at e6; cases e6
  | some q =>
   obtain ⟨r, ys⟩ := q
   simp [hr] at e6
   have hF : F.Nodup := by simpa using k1.xn
   have hact := htab _ _ _ _ _ hr S2 w (a.eval f) _ F j1.still (g3.1.mono j2) j3 k2 hF
   intro rd m K Q hK
   refine z3s ho hact rd m K Q ?_
   rintro v w' ⟨S', F', G, b1, b2, b3, b4, b5, b6, b7, b8⟩
   have hs' := k1.lentCall b1 b2 b3 b4 b7 b8
   obtain ⟨u1, R11, U11, R12, U12, e11, e12, rfl, rfl⟩ := bind_some e6
   rw [k3] at b6
   obtain ⟨Fp4, m1⟩ := JY (F := G) (X := F') hs' b6 e11
   rw [zl] at hK
   obtain ⟨Fp5, m2⟩ := Qv (X := []) (by simpa using m1) e12 b5
   exact hK _ _ _ _ m2
 ·exact g3.2.elim
end
theorem Loc.refT (tt : TT) (n : Fr) (t : Nat) (x : T) : Loc (refT tt n t x) := by
 unfold Go.Own.refT
 split
 ·split
  ·refine Loc.bind (Loc.rdE _) fun e => ?_
   split
   ·exact Loc.ite (Loc.pure _) (Loc.shutT _ _ _)
   ·exact Loc.shutT _ _ _
  ·exact Loc.shutT _ _ _
 ·exact Loc.shutT _ _ _
theorem Loc.refArgs (tt : TT) (n : Fr) : ∀ bs, Loc (refArgs tt n bs)
 | [] => Loc.pure _
 | (x, t) :: bs => Loc.bind (Loc.opnd x) fun _ => Loc.bind (Loc.refT tt n t _) fun _ => Loc.bind (Loc.refArgs tt n bs) fun _ => Loc.pure _
theorem Loc.lentA (n : Fr) (s : Nat) : Loc (lentA n s) := by
 unfold Go.Own.lentA
 split
 ·refine Loc.bind (Loc.rdE _) fun e => ?_
  split
  ·exact Loc.ite (Loc.bind (Loc.wrE _ _) fun _ => Loc.pure _) Loc.fail
  ·exact Loc.fail
 ·exact Loc.fail
theorem Loc.lentsA (n : Fr) : ∀ L, Loc (lentsA n L)
 | [] => Loc.pure _
 | s :: L => Loc.bind (Loc.lentA n s) fun _ => Loc.bind (Loc.lentsA n L) fun _ => Loc.pure _
theorem Loc.backA (s : Nat) (y : A) : Loc (backA s y) := by
 unfold Go.Own.backA
 refine Loc.bind (Loc.rdE _) fun e => ?_
 split
 ·exact Loc.ite (Loc.wrE _ _) Loc.fail
 ·exact Loc.fail
theorem Loc.backsA : ∀ L ys, Loc (backsA L ys)
 | [], [] => Loc.pure _
 | s :: L, y :: ys => Loc.bind (Loc.backA s y) fun _ => Loc.backsA L ys
 | [], _ :: _ => Loc.fail
 | _ :: _, [] => Loc.fail
theorem Loc.lentQ (tt : TT) (tab : A → List A → List (Value × A) → Option (A × List A)) (n : Fr) (dst : Option Nat) (f : Operand) (bs : List (Operand × Nat)) (L : List Nat) : Loc (lentQ tt tab n dst f bs L) := by
 unfold Go.Own.lentQ
 refine Loc.bind (Loc.refArgs _ _ _) fun fs => Loc.bind (Loc.refArgs _ _ _) fun xs => Loc.bind (Loc.lentsA _ _) fun ls => ?_
 split
 ·split
  ·exact Loc.bind (Loc.backsA _ _) fun _ => Loc.wrT _ _ _
  ·exact Loc.fail
 ·exact Loc.fail
def jT (tt : TT) (tab : A → List A → List (Value × A) → Option (A × List A)) (d : Nat) (L : List Nat) (n : Fr) (o : Oper) : Option (SM Unit) :=
 match o.op with
 | .call ⟨.value f, args, tys⟩ => if o.dst = some d ∧ args.size = tys.size then some (lentQ tt tab n o.dst f (args.toList.zip tys.toList) L) else none
 | _ => none
theorem VW {tab : A → List A → List (Value × A) → Option (A × List A)} (htab : ∀ f xs ls r ys, tab f xs ls = some (r, ys) → qG P f xs ls r ys) (d : Nat) (L : List Nat) : Vr P (jT tt tab d L) := by
 refine ⟨?_, ?_⟩
 ·intro C S Fp st a w o m u R U e h h2
  unfold jT at e
  split at e
  ·rename_i t' args tys ho
   split at e
   ·rename_i hc
    cases e
    exact z4E htab h ho hc.2 h2
   ·cases e
  ·cases e
 ·intro n o m e
  unfold jT at e
  split at e
  ·split at e
   ·cases e
    exact fun st st' a R U => Loc.lentQ _ _ _ _ _ _ _ st st' a R U
   ·cases e
  ·cases e
def mkQ (tt : TT) (n : Fr) (dst : Option Nat) (f : Nat) (caps : List Operand) : SM Unit := do
 let xs ← refArgs tt n (caps.map fun x => (x, 0))
 if xs.all X7 = true then wrT n dst (.d (.fn f xs)) else zm
section
variable {C : Ctx} {S : z8} {Fp : Nat → List Nat} {X : List Nat} {st : St} {a : Act} {w : World}
theorem z9h (h : Sim C S Fp [] st a w)  {f : Nat}  (ho : o.op = .makeFunc (.func f) #[] caps)    (e : mkQ tt C.n o.dst f caps.toList st = some (u, R, U)) : uU P C o a w (z7 U st) := by
 unfold mkQ at e
 obtain ⟨xs, R1, U1, R2, U2, h1, e1, rfl, rfl⟩ := bind_some e
 have ⟨S1, Fp1, g1, g2, g3⟩ := Za h h1
 rw [zl]
 split at e1
 ·rename_i hall
  have hc : ∀ c ∈ xs, c.size = 1 ∧ ∀ fs, c ≠ .agg fs := by
   intro c hc
   have := List.all_eq_true.1 hall c hc
   cases c <;> simp_all [X7, A.size]
  have hmap : (caps.toList.map fun x => (x, 0)).map (fun p => a.eval p.1) = (caps.map a.eval).toList := by simp [List.map_map, Function.comp_def]
  rw [hmap] at g3
  have ⟨Fp', hs⟩ := wl g1 e1 (x := .d (.fn f xs)) (v := .func (.func f) #[] (caps.map a.eval)) (by
   simp [TOk, yY]
   refine ⟨[.func (.func f) #[] (caps.map a.eval)], ?_, rfl⟩
   simp [Rep]
   exact ⟨(caps.map a.eval).toList, V8 g3 hc, hc, by rw [Array.toArray_toList]⟩)
  exact zo (by simp [execOp, ho, Instr.makeFunc]) hs
 ·cases e1
end
theorem Loc.mkQ (tt : TT) (n : Fr) (dst : Option Nat) (f : Nat) (caps : List Operand) : Loc (mkQ tt n dst f caps) := by
 unfold Go.Own.mkQ
 exact Loc.bind (Loc.refArgs _ _ _) fun _ => Loc.ite (Loc.wrT _ _ _) Loc.fail
def z1l (tt : TT) (n : Fr) (o : Oper) : Option (SM Unit) :=
 match o.op with
 | .makeFunc (.func f) ⟨[]⟩ caps => some (mkQ tt n o.dst f caps.toList)
 | _ => none
theorem z4U (P : Program) (tt : TT) : Vr P (z1l tt) := by
 refine ⟨?_, ?_⟩
 ·intro C S Fp st a w o m u R U e h h2
  unfold z1l at e
  split at e
  ·rename_i f caps ho
   cases e
   exact z9h h ho h2
  ·cases e
 ·intro n o m e
  unfold z1l at e
  split at e
  ·cases e
   exact fun st st' a R U => Loc.mkQ _ _ _ _ _ st st' a R U
  ·cases e
def Xl (l : List A) : List Nat → List A → List A
 | i :: is, x :: xs => (Xl l is xs).set i x
 | _, _ => l
theorem Vy (l : List A) : ∀ (is : List Nat) (xs : List A), (Xl l is xs).length = l.length
 | [], _ => rfl
 | _ :: _, [] => rfl
 | i :: is, x :: xs => by simp [Xl, Vy l is xs]
theorem QO (l : List A)  : ∀ {is : List Nat} {xs : List A}, k ∉ is → (Xl l is xs)[k]? = l[k]?
 | [], _, _ => rfl
 | _ :: _, [], _ => rfl
 | i :: is, x :: xs, h => by
  simp [List.mem_cons, not_or] at h
  simp [Xl]
  rw [List.getElem?_set_ne (Ne.symm h.1)]
  exact QO l h.2
theorem z0F {S : z8}   {x : A} {F1 : List Nat} (hx : Has S h x v F1) : ∀ {l : List A} {vs : List Value} {F : List Nat} {p : Nat}, k7 S h l vs F → l[p]? = some (.atom v) → ∃ F', k7 S h (l.set p x) vs F' ∧ F'.Perm (F1 ++ F) ∧ vs[p]? = some v
 | [], vs, F, p, _, e => by simp at e
 | y :: l, [], F, p, q, _ => q.elim
 | y :: l, u :: vs, F, 0, ⟨G1, G2, hF, q1, q2⟩, e => by
  simp [Option.some.injEq] at e
  subst e
  obtain ⟨r1, rfl⟩ := z4Q (by rfl) q1
  have hu : u = v := (w5.1 r1).1
  subst hu
  subst hF
  exact ⟨G2 ++ F1, ⟨F1, G2, rfl, hx, q2⟩, by simpa using List.perm_append_comm, by simp⟩
 | y :: l, u :: vs, F, p + 1, ⟨G1, G2, hF, q1, q2⟩, e => by
  have ⟨F', h1, h2, h3⟩ := z0F hx q2 (p := p) (by simpa using e)
  subst hF
  refine ⟨F' ++ G1, ⟨G1, F', rfl, q1, h1⟩, ?_, by simpa using h3⟩
  rw [← List.append_assoc]
  exact h2.append_right G1
theorem JH {S : z8}  {base : List A}  (hb : uV (wi S) base vs) : ∀ {is : List Nat} {xs : List A} {vals : List Value} {F : List Nat}, is.Nodup → is.map (fun i => base[i]?) = vals.map (fun v => some (.atom v)) → k7 S h xs vals F →
  ∃ F', k7 S h (Xl base is xs) vs F' ∧ F'.Perm F ∧ is.map (fun i => vs[i]?) = vals.map some
 | [], [], [], F, _, _, q => ⟨[], kX hb, by rw [show F = [] from q], rfl⟩
 | [], _ :: _, [], F, _, _, q => q.elim
 | [], _, _ :: _, F, _, e, _ => by simp at e
 | _ :: _, _, [], F, _, e, _ => by simp at e
 | _ :: _, [], _ :: _, F, _, _, q => q.elim
 | i :: is, x :: xs, v :: vals, F, hn, e, ⟨F1, F2, hF, q1, q2⟩ => by
  simp [List.map_cons, List.cons.injEq] at e
  rw [List.nodup_cons] at hn
  have ⟨F', h1, h2, h3⟩ := JH hb hn.2 e.2 q2
  have ⟨F'', g1, g2, g3⟩ := z0F q1 h1 (p := i) (by rw [QO _ hn.1]; exact e.1)
  subst hF
  exact ⟨F'', g1, g2.trans ((h2.append_left F1).trans List.perm_append_comm), by simp [g3, h3]⟩
def Xp : List Nat → SM (List A)
 | [] => pure []
 | s :: ss => do
  let e ← rdE s
  match e.t with
  | .own y => do
   let ys ← Xp ss
   pure (y :: ys)
  | _ => zm
def zcx (tt : TT) (rs : List (Nat × Option Nat)) (is : List Nat) : SM (A × List A) := do
 let xs ← shutArgs tt (rs.map fun r => (.tmp r.1, 0))
 let ys ← Xp is
 match vA tt rs xs with
 | some zs => pure (zdl zs, ys)
 | none => zm
theorem Jj {C : Ctx} {S : z8}  {st : St}  {w : World} (h : Sim C S Fp [] st a w) : ∀ {is : List Nat} {ys : List A} {R : List Nat} {U : List (Nat × Ent)}, is.Nodup → Xp is st = some (ys, R, U) →
  U = [] ∧ ∃ G, k7 S w.heap ys (is.map (Act.tv a)) G ∧ G.Nodup ∧ ∀ k ∈ G, ∃ t ∈ is, k ∈ Fp t
 | [], ys, R, U, _, e => by
  cases e
  exact ⟨rfl, [], rfl, List.nodup_nil, by simp⟩
 | s :: is, ys, R, U, hn, e => by
  rw [List.nodup_cons] at hn
  simp [Xp] at e
  have ⟨_, e1⟩ := bD e
  cases ht : (st s).t with
  | own y =>
   simp [ht] at e1
   have ⟨zs, _, ⟨G, g1, g2, g3⟩, e3⟩ := bR (Jj h hn.2) e1
   cases e3
   have hr := h.ent s
   unfold yQ at hr
   simp [ht] at hr
   have ⟨cs, c1, c2, c3⟩ := hr
   refine ⟨rfl, G ++ Fp s, ⟨Fp s, G, rfl, .inr ⟨cs, c1, c2, c3⟩, g1⟩, ?_, ?_⟩
   ·rw [List.nodup_append]
    refine ⟨g2, c2, ?_⟩
    rintro k hk k' hk' rfl
    have ⟨t, ht1, ht2⟩ := g3 k hk
    exact hn.1 (h.disj t s k ht2 hk' ▸ ht1)
   ·intro k hk
    rcases List.mem_append.1 hk with hk | hk
    ·have ⟨t, ht1, ht2⟩ := g3 k hk
     exact ⟨t, by simp [ht1], ht2⟩
    ·exact ⟨s, by simp, hk⟩
  | _ => simp [ht] at e1; cases e1
variable {β γ : Type}
theorem z1A {i : β} {u : γ} {g : β → Option γ} : ∀ {is : List β} {vals : List γ}, is.map g = vals.map some → (i, u) ∈ is.zip vals → g i = some u
 | [], _, _, h => by simp at h
 | _ :: _, [], _, h => by simp at h
 | j :: is, v :: vals, e, h => by
  simp [List.map_cons, List.cons.injEq] at e
  simp [List.zip_cons_cons, List.mem_cons, Prod.mk.injEq] at h
  rcases h with ⟨rfl, rfl⟩ | h
  ·exact e.1
  ·exact z1A e.2 h
theorem Y3 : ∀ {xs : List β} {ys : List γ}, xs.length = ys.length → (xs.zip ys).map (·.1) = xs
 | [], [], _ => rfl
 | _ :: _, _ :: _, h => by simp [Y3 (by simpa using h)]
 | [], _ :: _, h => by simp at h
 | _ :: _, [], h => by simp at h
theorem WL : ∀ {xs : List β} {ys : List γ}, xs.length = ys.length → (xs.zip ys).map (·.2) = ys
 | [], [], _ => rfl
 | _ :: _, _ :: _, h => by simp [WL (by simpa using h)]
 | [], _ :: _, h => by simp at h
 | _ :: _, [], h => by simp at h
variable {ys : List A}
theorem JA {P : Program}     {rs : List (Nat × Option Nat)} (is : List Nat) {args caps xs : List A} {vals : List Value} {r : A} {ys : List A} (hT : ut P tt) (hf : P.funcs[k]? = some fn) (hnm : (fn.name == "runtime.NumGoroutine") = false) (hb : fn.body = some body)
  (hr : fn.results = (rs.map K4).toArray) (ha : (args ++ caps).length ≤ fn.ntmps) (hn : is.Nodup) (hbase : is.map (fun i => (args ++ caps)[i]?) = vals.map (fun v => some (.atom v))) (hl : xs.length = vals.length)
  (h : AWP P ⟨fn.ntmps, is.zip vals⟩ body (ini (Xl (args ++ caps) is xs)) (fun ex st => (ex = .normal ∨ ex = .ret) ∧ ∃ R U, zcx tt rs is st = some ((r, ys), R, U))) : qG P (.fn k caps) args (vals.zip xs) r ys := by
 intro S w fv vs F hS hfv havs hls hF
 rw [Y3 hl.symm, WL hl.symm] at hls
 obtain ⟨cs0, hfv, rfl⟩ := hfv
 simp [Rep] at hfv
 obtain ⟨us, k1, k2, rfl⟩ := hfv
 have hcaps := Wt k1 k2
 have ⟨F1, p1, p2, p3⟩ := JH (Qm havs hcaps) hn hbase hls
 refine .inl ⟨k, us.toArray, fn, rfl, hf, hnm, by rw [hb]; rfl, ?_⟩
 have hw := VZ (n := ⟨fn.ntmps, is.zip vals⟩) (R := fun w e w' => ∃ v, e = .returned v ∧ ∃ S' F' G, wK (fun k => w.heap.size ≤ k ∨ k ∈ F) w w' ∧ (∀ b o u, S b o = some u → S' b o = some u) ∧ (∀ b o, b < w.heap.size → b ∉ F → S' b o = S b o) ∧ xx S' w' ∧ Has S' w'.heap r v F' ∧
   k7 S' w'.heap ys ((vals.zip xs).map (·.1)) G ∧ (G ++ F').Nodup ∧ ∀ k ∈ G ++ F', w.heap.size ≤ k ∨ k ∈ F) hf hb rfl (fun i u hi => z1A p3 hi) (by rw [Vy]; exact ha) hS p1 (p2.nodup_iff.2 hF) h ?_
 ·simpa using hw
 rintro ex st' ⟨hx, R, U, h3⟩
 refine ⟨hx, ?_⟩
 intro df S' Fp' a' w' h1
 unfold zcx at h3
 obtain ⟨zs, R1, U1, R2, U2, e1, e2, rfl, rfl⟩ := bind_some h3
 have ⟨S1, Fp1, g1, g2, _, g3⟩ := xX h1 e1
 have ⟨qs, _, ⟨G, m1, m2, m3⟩, e4⟩ := bR (Jj g1 hn) e2
 have hm : (rs.map fun r => (Operand.tmp r.1, 0)).map (fun p => a'.eval p.1) = rs.map (fun r => Act.tv a' r.1) := by rw [List.map_map]; rfl
 rw [hm] at g3
 cases hg : vA tt rs zs with
 | none => simp [hg] at e4; cases e4
 | some os =>
  have ⟨v, hres, hrep⟩ := QZ (P := P) hT hr g1.still hg g3
  simp [hg] at e4
  have ⟨e5, _, _⟩ := zf e4
  cases e5
  have hval : is.map (Act.tv a') = (vals.zip xs).map (·.1) := by
   rw [Y3 hl.symm]
   have hlen : is.length = vals.length := by simpa using congrArg List.length hbase
   refine List.ext_getElem? fun j => ?_
   rw [List.getElem?_map]
   cases hj : is[j]? with
   | none =>
    have := List.getElem?_eq_none_iff.1 hj
    rw [List.getElem?_eq_none (by omega)]
    rfl
   | some i =>
    have ⟨hj1, hj2⟩ := List.getElem?_eq_some_iff.1 hj
    have hj3 : j < vals.length := by omega
    rw [List.getElem?_eq_getElem hj3]
    have : (i, vals[j]) ∈ is.zip vals := by
     refine List.mem_iff_getElem?.2 ⟨j, ?_⟩
     rw [List.getElem?_zip_eq_some]
     exact ⟨hj, List.getElem?_eq_getElem hj3⟩
    exact congrArg some (g1.pin i _ this)
  rw [hval] at m1
  have hMF : ∀ k, (w.heap.size ≤ k ∨ k ∈ F1) → (w.heap.size ≤ k ∨ k ∈ F) := fun k hk => hk.imp id fun q => p2.mem_iff.1 q
  refine ⟨v, hres, v, rfl, S1, [], G, g1.below.mono hMF, g1.sinc, ?_, g1.still, .inl ⟨hrep, rfl⟩, m1, by simpa using m2, ?_⟩
  ·intro b o hb' hbF
   exact g1.sbase b o (by rintro (hq | hq) <;> first | omega | exact hbF (p2.mem_iff.1 hq))
  ·intro k hk
   have ⟨t, _, ht⟩ := m3 k (by simpa using hk)
   exact hMF k (g1.base t k ht)
def T.plain : T → Bool
 | .gone | .d _ | .own _ => true
 | _ => false
theorem yQ.frame {S S' : z8} {h h' : Array Obj} {st st' : St} {tv tv' : Nat → Value}  {e : Ent}  (hp : e.t.plain = true) (q : yQ S h st tv F e v) (hS : ∀ b o u, S b o = some u → S' b o = some u) (hF : ∀ k ∈ F, h'[k]? = h[k]? ∧ ∀ o, S' k o = none) : yQ S' h' st' tv' F e v := by
 unfold yQ at q ⊢
 cases ht : e.t with
 | gone => simpa only [ht] using q
 | d x => simp [ht] at q ⊢; exact ⟨q.1.mono hS, q.2⟩
 | own x => simp [ht] at q ⊢; have ⟨cs, q1, q2, q3⟩ := q; exact ⟨cs, q1.frame hS hF, q2, q3⟩
 | _ => rw [ht] at hp; simp [T.plain] at hp
theorem yQ.owns {S : z8}  {st : St} {tv : Nat → Value}  {e : Ent}  (hp : e.t.plain = true) (q : yQ S h st tv F e v) : ∀ k ∈ F, k < h.size ∧ ∀ o, S k o = none := by
 unfold yQ at q
 cases ht : e.t with
 | gone => simp [ht] at q; subst q; simp
 | d x => simp [ht] at q; obtain ⟨_, rfl⟩ := q; simp
 | own x => simp [ht] at q; have ⟨cs, q1, _, _⟩ := q; exact fun k hk => ⟨(q1.own k hk).1, (q1.own k hk).2.1⟩
 | als r p er ec => rw [ht] at hp; simp [T.plain] at hp
 | ptr r p er ec => rw [ht] at hp; simp [T.plain] at hp
def z1g (l : Nat) (rec : Loop) (tv : Nat → Value) (st : St) (hp : ∀ t, (st t).t.plain = true) (i : Nat) : Opq := {
 holds := fun S h u F => u = .func (.yield l) #[] #[] ∧ h[l]? = some (.loop rec) ∧ (∀ o, S l o = none) ∧ ∃ Fp : Nat → List Nat, (∀ t, yQ S h st tv (Fp t) (st t) (tv t)) ∧ (∀ t u k, k ∈ Fp t → k ∈ Fp u → t = u) ∧ (∀ t, l ∉ Fp t) ∧ ∀ k, k ∈ F ↔ k = l ∨ ∃ t, k ∈ Fp t
 one := fun q => .inl (by rw [q.1]; rfl)
 frame := fun hS hF ⟨q1, q2, q3, Fp, q4, q5, q6, q7⟩ => ⟨q1, (hF l ((q7 l).2 (.inl rfl))).1.trans q2, (hF l ((q7 l).2 (.inl rfl))).2, Fp, fun t => (q4 t).frame (hp t) hS (fun k hk => hF k ((q7 k).2 (.inr ⟨t, hk⟩))), q5, q6, q7⟩
 own := fun ⟨q1, q2, q3, Fp, q4, q5, q6, q7⟩ k hk => by
  rcases (q7 k).1 hk with rfl | ⟨t, ht⟩
  ·exact ⟨(Array.getElem?_eq_some_iff.1 q2).1, q3⟩
  ·exact (q4 t).owns (hp t) k ht
 idx := i }
variable {l : Nat}
theorem Sim.putFar {df : List Nat}    {S : z8}  {st : St}  {w : World} (h : Sim ⟨n, df, w0, S0, M⟩ S Fp [] st a w)  (o : Obj) (hl : l < w.heap.size) (hS : ∀ o, S l o = none) (hF : ∀ t, l ∉ Fp t) :
  Sim ⟨n, df, w.putObj l o, S, VH Fp w⟩ S Fp [] st a (w.putObj l o) := by
 have hne : ∀ {b o v}, S b o = some v → b ≠ l := by rintro b o v q rfl; rw [hS] at q; cases q
 have hw : Sim ⟨n, df, w.putObj l o, S, VH Fp w⟩ S Fp [] st a w → Sim ⟨n, df, w.putObj l o, S, VH Fp w⟩ S Fp [] st a (w.putObj l o) := fun h => h.mem (wK.refl _ _) (fun _ _ _ q => q) (fun b i v q => by
   have q2 := h.still b i v q
   unfold zu at q2 ⊢
   rw [World.putObj_heap_other (hne q)]
   exact q2) (fun _ _ _ => rfl) (fun t k hk => ⟨World.putObj_heap_other (by rintro rfl; exact hF t hk), (h.free t k hk).2.1⟩) (by simp) (by simp) (by simp)
 refine { size := h.size, pin := h.pin, defers := h.defers, below := wK.refl _ _, mine := ⟨fun k hk => .inl (by simpa [World.putObj] using hk), h.ownM_far⟩, still := ?_, sinc := fun _ _ _ q => q, sbase := fun _ _ _ => rfl, ent := ?_, disj := h.disj, base := fun t k hk => .inr ⟨t, hk⟩, xn := by simp, xd := by simp, xb := by simp }
 ·refine ⟨?_, h.still.gok, h.still.blk.of (fun _ _ _ q => q) fun g x e => World.putObj_heap_other (by rintro rfl; exact h.still.blk.ne (hS 0) x e)⟩
  intro b i v q
  have q2 := h.still b i v q
  unfold zu at q2 ⊢
  rw [World.putObj_heap_other (hne q)]
  exact q2
 ·intro t
  have q := h.ent t
  unfold yQ at q ⊢
  have hk : ∀ t, ∀ k ∈ Fp t, (w.putObj l o).heap[k]? = w.heap[k]? ∧ ∀ i, S k i = none := fun t k hk => ⟨World.putObj_heap_other (by rintro rfl; exact hF t hk), (h.free t k hk).2.1⟩
  cases ht : (st t).t with
  | gone => simpa only [ht] using q
  | d x => simpa only [ht] using q
  | own x => simp [ht] at q ⊢; have ⟨cs, q1, q2, q3⟩ := q; exact ⟨cs, q1.frame (fun _ _ _ q => q) (hk t), q2, q3⟩
  | als r p er ec => simp [ht] at q ⊢; exact ⟨q.1, q.2.frame (h.ent r) (fun k q => (hk r k q).1)⟩
  | ptr r p er ec => simp [ht] at q ⊢; exact ⟨q.1, q.2.frame (h.ent r) (fun k q => (hk r k q).1)⟩
def Ji : St → List Nat → List A → St
 | st, p :: ps, y :: ys => Ji (upd st p ⟨.d y, 0, 0⟩) ps ys
 | st, _, _ => st
def qK (T : Array Value) (t : Nat) : Value := T.getD t undef
theorem z5L {S : z8}   : ∀ {ps : List Nat} {ys : List A} {vs : List Value} {T : Array Value} {st : St}, uV (wi S) ys vs → ps.length = ys.length → (∀ t, (st t).t.plain = true) → (∀ t, yQ S h st (qK T) (Fp t) (st t) (qK T t)) → (∀ p ∈ ps, p < T.size ∧ Fp p = []) →
  (∀ t, (Ji st ps ys t).t.plain = true) ∧ (∀ t, yQ S h (Ji st ps ys) (qK ((ps.zip vs).foldl (fun tmps (t, a) => tmps.setIfInBounds t a) T)) (Fp t) (Ji st ps ys t) (qK ((ps.zip vs).foldl (fun tmps (t, a) => tmps.setIfInBounds t a) T) t)) ∧
  ((ps.zip vs).foldl (fun tmps (t, a) => tmps.setIfInBounds t a) T).size = T.size ∧ ∀ t, t ∉ ps → qK ((ps.zip vs).foldl (fun tmps (t, a) => tmps.setIfInBounds t a) T) t = qK T t
 | [], [], [], T, st, _, _, hp, hs, _ => ⟨hp, hs, rfl, fun _ _ => rfl⟩
 | p :: ps, y :: ys, v :: vs, T, st, hy, hl, hp, hs, hT => by
  have hset : ∀ t, qK (T.setIfInBounds p v) t = if t = p then v else qK T t := by
   intro t
   unfold qK
   by_cases e : t = p
   ·subst e
    have := (hT t (by simp)).1
    simp [Array.getD_eq_getD_getElem?, this]
   ·simp [Array.getD_eq_getD_getElem?, Array.getElem?_setIfInBounds_ne (Ne.symm e), e]
  have hp1 : ∀ t, (upd st p ⟨.d y, 0, 0⟩ t).t.plain = true := by
   intro t
   unfold upd
   split
   ·rfl
   ·exact hp t
  obtain ⟨r1, r2, r3, r4⟩ := z5L (T := T.setIfInBounds p v) (st := upd st p ⟨.d y, 0, 0⟩) hy.2 (by simpa using hl) hp1 (by
   intro t
   rw [hset]
   by_cases e : t = p
   ·subst e
    rw [zC]
    simp [yQ]
    exact ⟨hy.1.repV, (hT t (by simp)).2⟩
   ·rw [zt _ _ e, if_neg e]
    exact (hs t).frame (hp t) (fun _ _ _ q => q) (fun k hk => ⟨rfl, ((hs t).owns (hp t) k hk).2⟩)) (fun q hq => by simpa using hT q (by simp [hq]))
  refine ⟨r1, r2, ?_, ?_⟩
  ·simpa using r3
  ·intro t ht
   simp [List.mem_cons, not_or] at ht
   have := r4 t ht.2
   rw [hset, if_neg ht.1] at this
   exact this
 | [], _ :: _, _, _, _, _, h, _, _, _ => by simp at h
 | _ :: _, [], _, _, _, _, h, _, _, _ => by simp at h
 | _, [], _ :: _, _, _, h, _, _, _, _ => h.elim
 | _, _ :: _, [], _, _, h, _, _, _, _ => h.elim
def WS : Exit → Option (Option Code)
 | .normal => some none
 | .ret => some (some .ret)
 | .exit id => some (some (.exit id))
 | .goto t => some (some (.goto t))
 | _ => none
theorem z2M {S : z8}  {o : Opq}   (q : Has S h (.opq o) v F) : o.holds S h v F := by
 rcases q with ⟨q, _⟩ | ⟨cs, q1, _, q3⟩
 ·simp [yY] at q
  have ⟨cs, q, _⟩ := q
  simp [Rep] at q
 ·simp [zA] at q1
  obtain ⟨u, rfl, q1⟩ := q1
  have : v = u := q3
  rw [this]; exact q1
theorem z2m {S : z8}  {o : Opq}   (q : o.holds S h v F) (hF : F.Nodup) : Has S h (.opq o) v F :=
 .inr ⟨[v], by simp only [zA]; exact ⟨v, rfl, q⟩, hF, rfl⟩
theorem z3n (T : Array Value) (ds : List Deferred) : Act.tv ⟨T, ds⟩ = qK T := rfl
theorem z0o {C : Ctx} {S : z8}  {st : St}  {w : World}  (h : Sim C S Fp [] st a w) : ∀ {live : List Nat}, live.Nodup → (∀ t, l ∉ Fp t) → (l :: live.flatMap Fp).Nodup := by
 intro live hn hl
 rw [List.nodup_cons]
 refine ⟨by simp [List.mem_flatMap, not_exists, not_and]; exact fun t _ => hl t, ?_⟩
 induction live with
 | nil => simp
 | cons t live ih =>
  rw [List.nodup_cons] at hn
  rw [List.flatMap_cons, List.nodup_append]
  refine ⟨?_, ih hn.2, ?_⟩
  ·have q := h.ent t
   unfold yQ at q
   cases ht : (st t).t with
   | gone => simp [ht] at q; rw [q]; simp
   | d x => simp [ht] at q; rw [q.2]; simp
   | own x => simp [ht] at q; have ⟨_, _, q, _⟩ := q; exact q
   | _ => simp [ht] at q; rw [q.1]; simp
  ·rintro k hk k' hk' rfl
   have ⟨u, hu1, hu2⟩ := List.mem_flatMap.1 hk'
   exact hn.1 (h.disj t u k hk hu2 ▸ hu1)
theorem z4d {P : Program} {n : Fr} {l : Nat} {rec : Loop} {ps : List Nat} {ys : List A} {st0 st1 : St} {i i2 : Nat} {live : List Nat} {jc : Option Code} (hp0 : ∀ t, (st0 t).t.plain = true) (hp1 : ∀ t, (st1 t).t.plain = true)
  (hready : rec.state = .ready) (hparams : rec.params = ps.toArray) (hsize : rec.tmps.size = n.size) (hpin : ∀ j u, (j, u) ∈ n.pin → qK rec.tmps j = u) (hlive : ∀ t ∈ live, (t, qK rec.tmps t) ∈ n.pin) (hnd : live.Nodup)
  (hps : ∀ p ∈ ps, p < n.size ∧ (st0 p).t = .gone ∧ pinned n.pin p = false) (hlen : ps.length = ys.length)
  (h : AWP P n rec.assign (Ji st0 ps ys) (fun e st => e = .normal ∧ AWP P n rec.body st (fun ex st2 => WS ex = some jc ∧ canon live st2 = st1))) :
  qG P (.atom (.func (.yield l) #[] #[])) ys [(.func (.yield l) #[] #[], .opq (z1g l rec (qK rec.tmps) st0 hp0 i))] (.atom (.bool jc.isNone))
   [.opq (z1g l { rec with state := if jc.isNone then .ready else .done, pending := jc } (qK rec.tmps) st1 hp1 i2)] := by
 intro S w fv vs F hS hfv havs hls hF
 obtain ⟨rfl, _⟩ := w5.1 hfv
 have ⟨F1, F2, hFe, hls, hnil⟩ := hls
 have hF2 : F2 = [] := hnil
 subst hF2
 simp [List.nil_append] at hFe
 subst hFe
 have ⟨_, q2, q3, Fp, q4, q5, q6, q7⟩ := z2M hls
 have hlenv : vs.length = ps.length := by rw [hlen]; exact (Ql havs).symm
 refine .inr ⟨l, rec, rfl, q2, by rw [hparams]; simp [hlenv], ?_⟩
 intro rd m
 refine roundIn_of_wpIn (F := fen rd) trivial ?_
 have hinr : (fen rd).inRound l = fen (some l) := rfl
 rw [hinr]
 have hT0 : (rec.params.zip vs.toArray).foldl (fun tmps (t, a) => tmps.setIfInBounds t a) rec.tmps = (ps.zip vs).foldl (fun tmps (t, a) => tmps.setIfInBounds t a) rec.tmps := by
  rw [← Array.foldl_toList, Array.toList_zip, hparams]
 rw [hT0]
 have hgone : ∀ p ∈ ps, p < rec.tmps.size ∧ Fp p = [] := by
  intro p hp
  have ⟨a1, a2, _⟩ := hps p hp
  refine ⟨by rw [hsize]; exact a1, ?_⟩
  have := q4 p
  unfold yQ at this
  simpa only [a2] using this
 have ⟨r1, r2, r3, r4⟩ := z5L (T := rec.tmps) havs hlen hp0 q4 hgone
 have hl : l < w.heap.size := (Array.getElem?_eq_some_iff.1 q2).1
 have hFps : ∀ t k, k ∈ Fp t → k < w.heap.size ∧ ∀ o, S k o = none := fun t => (q4 t).owns (hp0 t)
 have hnl : ¬ VH Fp w l := by
  rintro (hk | ⟨t, hk⟩)
  ·omega
  ·exact q6 t hk
 have hs0 : Sim ⟨n, [], w, S, VH Fp w⟩ S Fp [] (Ji st0 ps ys) ⟨(ps.zip vs).foldl (fun tmps (t, a) => tmps.setIfInBounds t a) rec.tmps, []⟩ w := by
  refine { size := by rw [r3]; exact hsize, pin := ?_, defers := rfl, below := wK.refl _ _, mine := ⟨fun k hk => .inl hk, by
   rintro g x e (hk | ⟨t, hk⟩)
   ·have := hS.blk.lt e
    omega
   ·exact hS.blk.ne ((hFps t g hk).2 0) x e⟩, still := hS, sinc := fun _ _ _ q => q, sbase := fun _ _ _ => rfl, ent := r2, disj := q5, base := fun t k hk => .inr ⟨t, hk⟩, xn := by simp, xd := by simp, xb := by simp }
  intro j u hj
  rw [z3n, r4 j ?_]
  ·exact hpin j u hj
  ·intro hjp
   have := (hps j hjp).2.2
   rw [X4 hj] at this
   cases this
 refine wpIn_mono (h (some l) m [] w S (VH Fp w) S Fp _ w ⟨by simp, by simp, by rintro L hL; cases hL; exact ⟨hnl, rec, q2⟩⟩ hs0) ?_
 rintro e1 a1 w1 ⟨df1, sta, S1, Fp1, s1, d1, rfl, h2⟩
 have hb1 : w1.heap[l]? = some (.loop rec) := (s1.below.block l hnl).trans q2
 refine ⟨_, run_beginRound hb1 hready, ?_⟩
 have hS1l : ∀ o, S1 l o = none := fun o => (s1.sbase l o hnl).trans (q3 o)
 have hF1l : ∀ t, l ∉ Fp1 t := fun t hk => hnl (s1.base t l hk)
 have hl1 : l < w1.heap.size := (Array.getElem?_eq_some_iff.1 hb1).1
 have s2 := s1.putFar (.loop { rec with state := .busy }) hl1 hS1l hF1l
 have hb2 : (w1.putObj l (.loop { rec with state := .busy })).heap[l]? = some (.loop { rec with state := .busy }) := World.putObj_heap_same hl1
 have hnl1 : ¬ VH Fp1 w1 l := by
  rintro (hk | ⟨t, hk⟩)
  ·omega
  ·exact hF1l t hk
 refine wpIn_mono (h2 (some l) m df1 _ S1 (VH Fp1 w1) S1 Fp1 a1 _ ⟨d1.nodup, ?_, by rintro L hL; cases hL; exact ⟨hnl1, _, hb2⟩⟩ s2) ?_
 ·intro D hD
  have hD1 := d1.ent D hD
  refine ⟨?_, ?_⟩
  ·rintro (hk | ⟨t, hk⟩)
   ·have := (Array.getElem?_eq_some_iff.1 hD1).1; omega
   ·exact d1.off D hD t hk
  ·show (w1.putObj l _).heap[D]? = _
   rw [World.putObj_heap_other (by rintro rfl; rw [hb1] at hD1; cases hD1)]
   exact hD1
 rintro e2 a2 w3 ⟨df2, stb, S2, Fp2, s3, d2, hj, hcan⟩
 have ⟨Fp3, s4⟩ := s3.canon live
 rw [hcan] at s4
 have hb3 : w3.heap[l]? = some (.loop { rec with state := .busy }) := (s3.below.block l hnl1).trans hb2
 have hl3 : l < w3.heap.size := (Array.getElem?_eq_some_iff.1 hb3).1
 have hS2l : ∀ o, S2 l o = none := fun o => (s3.sbase l o hnl1).trans (hS1l o)
 have hF3l : ∀ t, l ∉ Fp3 t := fun t hk => hnl1 (s4.base t l hk)
 have hsub : ∀ k, VH Fp w k → (w.heap.size ≤ k ∨ k ∈ F) := fun k hk => hk.imp id fun ⟨t, ht⟩ => (q7 k).2 (.inr ⟨t, ht⟩)
 have hsub1 : ∀ k, VH Fp1 w1 k → (w.heap.size ≤ k ∨ k ∈ F) := fun k hk => hsub k (Zh s1 k hk)
 have hlF : l ∈ F := (q7 l).2 (.inl rfl)
 have hk1 : wK (fun k => w.heap.size ≤ k ∨ k ∈ F) w w3 := by
  have z1 := s1.below.mono hsub
  have z2 : wK (fun k => w.heap.size ≤ k ∨ k ∈ F) w1 (w1.putObj l (.loop { rec with state := .busy })) := ⟨rfl, rfl, rfl, Nat.le_refl _, by simp [World.putObj], fun k hk => World.putObj_heap_other (by rintro rfl; exact hk (.inr hlF))⟩
  exact (z1.trans z2).trans (s3.below.mono hsub1)
 have hfin : ∃ v w', (Instr.endRound l jc).run P w3 = .ok v w' ∧ ∃ v', Ending.returned v = .returned v' ∧ ∃ S' F' G, wK (fun k => w.heap.size ≤ k ∨ k ∈ F) w w' ∧ (∀ b o u, S b o = some u → S' b o = some u) ∧ (∀ b o, b < w.heap.size → b ∉ F → S' b o = S b o) ∧ xx S' w' ∧ Has S' w'.heap (.atom (.bool jc.isNone)) v' F' ∧
   k7 S' w'.heap [.opq (z1g l { rec with state := if jc.isNone then .ready else .done, pending := jc } (qK rec.tmps) st1 hp1 i2)] [.func (.yield l) #[] #[]] G ∧ (G ++ F').Nodup ∧ ∀ k ∈ G ++ F', w.heap.size ≤ k ∨ k ∈ F := by
  refine ⟨_, _, run_endRound jc hb3, _, rfl, S2, [], l :: live.flatMap Fp3, ?_, fun b o u q => s3.sinc _ _ _ (s1.sinc _ _ _ q), ?_, ?_, .inl ⟨zw.2 ⟨rfl, rfl⟩, rfl⟩, ?_, ?_, ?_⟩
  ·exact hk1.trans ⟨rfl, rfl, rfl, Nat.le_refl _, by simp [World.putObj], fun k hk => World.putObj_heap_other (by rintro rfl; exact hk (.inr hlF))⟩
  ·intro b o hb hbF
   have hn0 : ¬ VH Fp w b := fun hk => (hsub b hk).elim (fun q => by omega) hbF
   have hn1 : ¬ VH Fp1 w1 b := fun hk => hn0 (Zh s1 b hk)
   exact (s3.sbase b o hn1).trans (s1.sbase b o hn0)
  ·refine ⟨?_, s3.still.gok, s3.still.blk.of (fun _ _ _ q => q) fun g x e => World.putObj_heap_other (by rintro rfl; exact s3.still.blk.ne (hS2l 0) x e)⟩
   intro b o u hu
   have hne : b ≠ l := by rintro rfl; rw [hS2l] at hu; cases hu
   have := s3.still b o u hu
   unfold zu at this ⊢
   rw [World.putObj_heap_other hne]
   exact this
  ·refine ⟨l :: live.flatMap Fp3, [], rfl, z2m ⟨rfl, World.putObj_heap_same hl3, hS2l, Fp3, ?_, s4.disj, hF3l, ?_⟩ ?_, rfl⟩
   ·intro t
    have q := s4.ent t
    have hent : yQ S2 w3.heap st1 (Act.tv a2) (Fp3 t) (st1 t) (qK rec.tmps t) := by
     by_cases ht : t ∈ live
     ·have := s4.pin t _ (hlive t ht)
      rwa [this] at q
     ·have hg : st1 t = JK := by rw [← hcan, qS, if_neg ht]
      rw [hg] at q ⊢
      exact q
    exact hent.frame (hp1 t) (fun _ _ _ q => q) (fun k hk => ⟨World.putObj_heap_other (by rintro rfl; exact hF3l t hk), (s4.free t k hk).2.1⟩)
   ·intro k
    simp [List.mem_cons, List.mem_flatMap]
    constructor
    ·rintro (rfl | ⟨t, _, ht⟩)
     ·exact .inl rfl
     ·exact .inr ⟨t, ht⟩
    ·rintro (rfl | ⟨t, ht⟩)
     ·exact .inl rfl
     ·refine .inr ⟨t, ?_, ht⟩
      apply Classical.byContradiction
      intro hn
      have hg : st1 t = JK := by rw [← hcan, qS, if_neg hn]
      have q := s4.ent t
      rw [hg] at q
      have : Fp3 t = [] := q
      rw [this] at ht
      simp at ht
   ·exact z0o s4 hnd hF3l
  ·simpa using z0o s4 hnd hF3l
  ·intro k hk
   simp [List.append_nil, List.mem_cons, List.mem_flatMap] at hk
   rcases hk with rfl | ⟨t, _, ht⟩
   ·exact .inr hlF
   ·exact hsub1 k (s4.base t k ht)
 cases e2 with
 | panic _ => cases hj
 | outgrown => cases hj
 | _ => cases hj; exact hfin
theorem wF {P : Program} {w : World} {L : Nat} {q : Loop} (h : w.heap[L]? = some (.loop q)) (fn : FuncId) (tmps : Array Value) (ps : Array Tmp) (assign body : Code) :
  (Instr.enterLoop fn tmps ps assign body (some L)).run P w =
   .ok (w.heap.size, []) (w.alloc (.loop { state := .ready, pending := none, fn, tmps, params := ps, assign, body, defers := q.defers })) := by
 unfold Instr.enterLoop
 simp [Sem.run_bind, run_getLoop h, Result.andThen]
theorem World.alloc_old {w : World}  (o : Obj) (h : k < w.heap.size) : (w.alloc o).heap[k]? = w.heap[k]? := by
 show (w.heap.push o)[k]? = _
 rw [Array.getElem?_push, if_neg (by omega)]
theorem Sim.newObj {C : Ctx} {S : z8}  {st : St}  {w : World} (h : Sim C S Fp [] st a w) (o : Obj) : Sim C S Fp [] st a (w.alloc o) := by
 refine h.mem (h.below.alloc (h.mine _ h.below.size) o) (fun _ _ _ q => q) ?_ h.sbase ?_ (by simp) (by simp) (by simp)
 ·intro b i v q
  have q2 := h.still b i v q
  have hlt := h.still_lt q
  unfold zu at q2 ⊢
  rw [World.alloc_old o hlt]
  exact q2
 ·intro t k hk
  exact ⟨World.alloc_old o (h.free t k hk).1, (h.free t k hk).2.1⟩
theorem zc8 {P : Program}  {df : List Nat}    {S : z8}  {st : St}  {w : World}  (hc : Vs ⟨n, df, w0, S0, M⟩ rd) (h : Sim ⟨n, df, w0, S0, M⟩ S Fp [] st a w) (hd : uu df M df Fp w) (fn : FuncId) (ps : Array Tmp) (assign body : Code) :
  ∃ df' wA dq, (Instr.enterLoop fn a.tmps ps assign body (fen rd).round).run P w = .ok (wA.heap.size, (df'.map mark).take (df'.length - df.length)) (wA.alloc (.loop { state := .ready, pending := none, fn, tmps := a.tmps, params := ps, assign, body, defers := dq })) ∧
   Sim ⟨n, df', w0, S0, M⟩ S Fp [] st { a with defers := (df'.map mark).take (df'.length - df.length) ++ a.defers } wA ∧ uu df M df' Fp wA := by
 cases rd with
 | none =>
  refine ⟨w.heap.size :: df, w.alloc (.deferred (some [])), w.heap.size, ?_, ?_, ?_⟩
  ·have := run_enterLoop_outer (P := P) (w := w) fn a.tmps ps assign body
   simp [World.size_alloc, List.map_cons, List.length_cons, show df.length + 1 - df.length = 1 by omega, List.take_succ_cons, List.take_zero]
   exact this
  ·have h1 := h.newObj (.deferred (some []))
   exact { h1 with defers := by simp [h.defers, show df.length + 1 - df.length = 1 by omega, mark] }
  ·have hlt : ∀ D ∈ df, D < w.heap.size := fun D hD => (Array.getElem?_eq_some_iff.1 (hd.ent D hD)).1
   refine ⟨?_, ?_, ?_, ?_⟩
   ·rw [List.nodup_cons]
    exact ⟨fun q => by have := hlt _ q; omega, hd.nodup⟩
   ·intro D hD
    rcases List.mem_cons.1 hD with rfl | hD
    ·exact World.alloc_heap_new w _
    ·rw [World.alloc_old _ (hlt D hD)]; exact hd.ent D hD
   ·intro D hD t ht
    rcases List.mem_cons.1 hD with rfl | hD
    ·have := (h.free t _ ht).1; omega
    ·exact hd.off D hD t ht
   ·intro D hD
    rcases List.mem_cons.1 hD with rfl | hD
    ·exact .inr (h.mine _ h.below.size)
    ·exact .inl hD
 | some L =>
  have ⟨h1, q, h2⟩ := hc.rd L rfl
  have h3 : w.heap[L]? = some (.loop q) := (h.below.block L h1).trans h2
  refine ⟨df, w, q.defers, ?_, ?_, hd⟩
  ·rw [Nat.sub_self, List.take_zero]
   exact wF h3 fn a.tmps ps assign body
  ·rw [Nat.sub_self, List.take_zero]
   exact h
def zd7 (st : St) : Operand → Option A
 | .tmp t => match (st t).t with | .d a => some a | _ => none
 | _ => none
def zep (P : Program) (n : Fr) (st : St) (Q : Exit → St → Prop) : Option Code → Prop
 | none => Q .normal st
 | some c => AWP P n c st Q
end Go.Own

namespace Go.Ex
open Go.Own (A z8 zu Rep kY)
inductive V where
 | lit (v : Value)
 | fn (f : Nat) (caps : List V)
 | yl (l : Nat)
 | ptr (b o : Nat)
 | sl (b o z n : Nat) (c : Option Nat)
 | mp (b : Nat)
 | ifc (t : Nat) (v : V)
 | agg (xs : List V)
 | tup (xs : List V)
 | tr (a : A)
 | un
structure Loc where
 B : Nat
 O : Nat
 Z : Nat
abbrev Pl := Nat → Option Loc
mutual
def VR (S : z8) (ρ : Pl) : V → Value → Prop
 | .lit v, u => u = v
 | .fn f caps, u => ∃ vs, VRs S ρ caps vs ∧ u = .func (.func f) #[] vs.toArray
 | .yl l, u => ∃ p, ρ l = some p ∧ u = .func (.yield p.B) #[] #[]
 | .ptr b o, u => ∃ p, ρ b = some p ∧ u = .pointer (some ⟨p.B, p.O + o, none⟩)
 | .sl b o z n c, u => ∃ p o' c', ρ b = some p ∧ u = .slice (some ⟨p.B, o', none⟩) n c' ∧ n ≤ c' ∧ (c' ≠ 0 → o' = p.O + o) ∧ (match c with | some k => c' = k | none => p.O + o + c' * z = p.Z)
 | .mp b, u => ∃ p, ρ b = some p ∧ u = .map (some p.B)
 | .ifc t x, u => ∃ v, VR S ρ x v ∧ u = .iface t v
 | .agg xs, u => ∃ vs, VRs S ρ xs vs ∧ u = .agg vs.toArray
 | .tup xs, u => ∃ vs, VRs S ρ xs vs ∧ u = .tuple vs.toArray
 | .tr a, u => Rep S a [u]
 | .un, _ => True
def VRs (S : z8) (ρ : Pl) : List V → List Value → Prop
 | [], vs => vs = []
 | x :: xs, vs => ∃ v us, vs = v :: us ∧ VR S ρ x v ∧ VRs S ρ xs us
end
def z5O : V → Bool
 | .lit v => v.oneCell'
 | .agg _ | .tup _ | .un => false
 | _ => true
def Pl.le (ρ ρ' : Pl) : Prop := ∀ i p, ρ i = some p → ρ' i = some p
theorem Pl.le_refl (ρ : Pl) : Pl.le ρ ρ := fun _ _ h => h
theorem Pl.le_trans {ρ ρ' ρ'' : Pl} (h : Pl.le ρ ρ') (h' : Pl.le ρ' ρ'') : Pl.le ρ ρ'' := fun i p q => h' i p (h i p q)
mutual
theorem VR.mono {S : z8} {ρ ρ' : Pl} (h : Pl.le ρ ρ') : ∀ {x : V} {v : Value}, VR S ρ x v → VR S ρ' x v
 | .lit _, _, r => by simpa only [VR] using r
 | .fn _ caps, _, r => by simp only [VR] at r ⊢; obtain ⟨vs, h1, h2⟩ := r; exact ⟨vs, VRs.mono h h1, h2⟩
 | .yl _, _, r => by simp only [VR] at r ⊢; obtain ⟨p, h1, h2⟩ := r; exact ⟨p, h _ _ h1, h2⟩
 | .ptr _ _, _, r => by simp only [VR] at r ⊢; obtain ⟨p, h1, h2⟩ := r; exact ⟨p, h _ _ h1, h2⟩
 | .sl _ _ _ _ _, _, r => by simp only [VR] at r ⊢; obtain ⟨p, o', c', h1, h2⟩ := r; exact ⟨p, o', c', h _ _ h1, h2⟩
 | .mp _, _, r => by simp only [VR] at r ⊢; obtain ⟨p, h1, h2⟩ := r; exact ⟨p, h _ _ h1, h2⟩
 | .ifc _ x, _, r => by simp only [VR] at r ⊢; obtain ⟨v, h1, h2⟩ := r; exact ⟨v, VR.mono h h1, h2⟩
 | .agg xs, _, r => by simp only [VR] at r ⊢; obtain ⟨vs, h1, h2⟩ := r; exact ⟨vs, VRs.mono h h1, h2⟩
 | .tup xs, _, r => by simp only [VR] at r ⊢; obtain ⟨vs, h1, h2⟩ := r; exact ⟨vs, VRs.mono h h1, h2⟩
 | .tr _, _, r => by simpa only [VR] using r
 | .un, _, _ => by simp only [VR]
theorem VRs.mono {S : z8} {ρ ρ' : Pl} (h : Pl.le ρ ρ') : ∀ {xs : List V} {vs : List Value}, VRs S ρ xs vs → VRs S ρ' xs vs
 | [], _, r => by simpa only [VRs] using r
 | x :: xs, _, r => by
  simp only [VRs] at r ⊢
  obtain ⟨v, us, h1, h2, h3⟩ := r
  exact ⟨v, us, h1, VR.mono h h2, VRs.mono h h3⟩
end
variable {xs : List V}{v : Value}{vs : List Value}
section
variable {S : z8} {ρ : Pl}
theorem VR.one {x : V}  (h : z5O x = true) (r : VR S ρ x v) : v.oneCell' = true := by
 cases x <;> simp only [z5O, Bool.false_eq_true] at h <;> simp only [VR] at r
 ·subst r; exact h
 ·obtain ⟨_, _, rfl⟩ := r; rfl
 ·obtain ⟨_, _, rfl⟩ := r; rfl
 ·obtain ⟨_, _, rfl⟩ := r; rfl
 ·obtain ⟨_, _, _, _, rfl, _⟩ := r; rfl
 ·obtain ⟨_, _, rfl⟩ := r; rfl
 ·obtain ⟨_, _, rfl⟩ := r; rfl
 ·exact r.one v (by simp)
theorem VRs.len : ∀ {xs : List V} {vs : List Value}, VRs S ρ xs vs → vs.length = xs.length
 | [], _, r => by simp only [VRs] at r; simp [r]
 | _ :: xs, _, r => by
  simp only [VRs] at r
  obtain ⟨v, us, rfl, _, h⟩ := r
  simp [VRs.len h]
theorem VRs.get : ∀ {xs : List V} {vs : List Value} {i : Nat} {x : V}, VRs S ρ xs vs → xs[i]? = some x → ∃ v, vs[i]? = some v ∧ VR S ρ x v
 | [], _, _, _, _, e => by simp at e
 | y :: xs, _, 0, x, r, e => by
  simp only [VRs] at r
  obtain ⟨v, us, rfl, h1, _⟩ := r
  simp only [List.getElem?_cons_zero, Option.some.injEq] at e ⊢
  subst e
  exact ⟨v, rfl, h1⟩
 | y :: xs, _, i + 1, x, r, e => by
  simp only [VRs] at r
  obtain ⟨v, us, rfl, _, h2⟩ := r
  simp only [List.getElem?_cons_succ] at e ⊢
  exact VRs.get h2 e
theorem VRs.of_get : ∀ {xs : List V} {vs : List Value}, vs.length = xs.length → (∀ (i : Nat) (x : V), xs[i]? = some x → ∃ v, vs[i]? = some v ∧ VR S ρ x v) → VRs S ρ xs vs
 | [], vs, hl, _ => by
  simp only [VRs]
  exact List.length_eq_zero_iff.1 hl
 | x :: xs, [], hl, _ => by simp at hl
 | x :: xs, v :: vs, hl, h => by
  simp only [VRs]
  refine ⟨v, vs, rfl, ?_, VRs.of_get (by simpa using hl) fun i y hy => ?_⟩
  ·obtain ⟨u, h1, h2⟩ := h 0 x rfl
   simp only [List.getElem?_cons_zero, Option.some.injEq] at h1
   exact h1 ▸ h2
  ·obtain ⟨u, h1, h2⟩ := h (i + 1) y (by simpa using hy)
   exact ⟨u, by simpa using h1, h2⟩
theorem VRs.append {xs ys : List V} {vs us : List Value} (h1 : VRs S ρ xs vs) (h2 : VRs S ρ ys us) : VRs S ρ (xs ++ ys) (vs ++ us) := by
 induction xs generalizing vs with
 | nil => simp only [VRs] at h1; subst h1; exact h2
 | cons x xs ih =>
  simp only [VRs] at h1
  obtain ⟨v, ws, rfl, q1, q2⟩ := h1
  simp only [List.cons_append, VRs]
  exact ⟨v, ws ++ us, rfl, q1, ih q2⟩
theorem VRs.lits : ∀ (vs : List Value), VRs S ρ (vs.map .lit) vs
 | [] => by simp [VRs]
 | v :: vs => by simp only [List.map_cons, VRs]; exact ⟨v, vs, rfl, by simp [VR], VRs.lits vs⟩
theorem VRs.take (h : VRs S ρ xs vs) (n : Nat) : VRs S ρ (xs.take n) (vs.take n) := by
 refine VRs.of_get (by simp [h.len]) fun i x hx => ?_
 rw [List.getElem?_take] at hx ⊢
 split at hx
 ·rename_i hi; rw [if_pos hi]; exact h.get hx
 ·cases hx
theorem VRs.drop (h : VRs S ρ xs vs) (n : Nat) : VRs S ρ (xs.drop n) (vs.drop n) := by
 refine VRs.of_get (by simp [h.len]) fun i x hx => ?_
 rw [List.getElem?_drop] at hx ⊢
 exact h.get hx
end
inductive Key where
 | s (t : Nat)
 | b (i : Nat)
 | f (i : Nat)
 deriving DecidableEq
structure Blk where
 cells : List V
 ex : Bool
 fam : Nat
 foff : Nat
structure Lp where
 fr : List V
 params : List Nat
 assign : Code
 body : Code
 ready : Bool
 pend : Option Code
structure Fam where
 top : Nat
 l : List Nat
def Fam.has (f : Fam) (b : Nat) : Prop := b ∈ f.l ∧ b < f.top
inductive X where
 | z
 | v (x : V)
 | k (k : Blk)
 | mp (es : List (Value × V))
 | lp (r : Lp)
 | m (f : Fam)
def X.mem : X → Bool
 | .k _ | .mp _ | .lp _ => true
 | _ => false
def X.val : X → V
 | .v x => x
 | _ => .un
abbrev St := Key → X
def upd (st : St) (k : Key) (x : X) : St := fun j => if j = k then x else st j
theorem zC (st : St) (k : Key) (x : X) : upd st k x k = x := by simp [upd]
theorem zt (st : St) {k j : Key} (x : X) (h : j ≠ k) : upd st k x j = st j := by simp [upd, h]
abbrev Ups := List (Key × X)
def z7 : Ups → St → St
 | [], st => st
 | u :: us, st => z7 us (upd st u.1 u.2)
def EM (α : Type) := St → Option (α × List Key × Ups)
def EM.bind {α β : Type} (m : EM α) (f : α → EM β) : EM β := fun st =>
 match m st with
 | none => none
 | some (a, R, U) =>
  match f a (z7 U st) with
  | none => none
  | some (b, R', U') => some (b, R ++ R', U ++ U')
variable {α : Type}
def EM.pure (a : α) : EM α := fun _ => some (a, [], [])
instance : Monad EM := { pure := EM.pure, bind := EM.bind }
def efail : EM α := fun _ => none
def rdX (k : Key) : EM X := fun st => some (st k, [k], [])
def wrX (k : Key) (x : X) : EM Unit := fun _ => some ((), [], [(k, x)])
def ofO (x : Option α) : EM α := fun _ => match x with | some a => some (a, [], []) | none => none
theorem zl (us vs : Ups) (st : St) : z7 (us ++ vs) st = z7 vs (z7 us st) := by
 induction us generalizing st with
 | nil => rfl
 | cons u us ih => simp [z7, ih]
variable {st : St}{R : List Key}{U : Ups}
theorem bind_some {α β : Type} {m : EM α} {f : α → EM β}  {b : β}   (h : (m >>= f) st = some (b, R, U)) :
  ∃ a R1 U1 R2 U2, m st = some (a, R1, U1) ∧ f a (z7 U1 st) = some (b, R2, U2) ∧ R = R1 ++ R2 ∧ U = U1 ++ U2 := by
 change EM.bind m f st = _ at h
 unfold EM.bind at h
 split at h
 ·cases h
 ·rename_i a R1 U1 h1
  split at h
  ·cases h
  ·rename_i b' R2 U2 h2
   simp only [Option.some.injEq, Prod.mk.injEq] at h
   obtain ⟨rfl, rfl, rfl⟩ := h
   exact ⟨a, R1, U1, R2, U2, h1, h2, rfl, rfl⟩
theorem zf {a b : α}    (h : (pure a : EM α) st = some (b, R, U)) : b = a ∧ R = [] ∧ U = [] := by
 change EM.pure a st = _ at h
 simp only [EM.pure, Option.some.injEq, Prod.mk.injEq] at h
 exact ⟨h.1.symm, h.2.1.symm, h.2.2.symm⟩
variable {x : X}
theorem Zd {k : Key}     (h : rdX k st = some (x, R, U)) : x = st k ∧ R = [k] ∧ U = [] := by
 simp only [rdX, Option.some.injEq, Prod.mk.injEq] at h
 exact ⟨h.1.symm, h.2.1.symm, h.2.2.symm⟩
theorem wd {k : Key}   {u : Unit}   (h : wrX k x st = some (u, R, U)) : R = [] ∧ U = [(k, x)] := by
 simp only [wrX, Option.some.injEq, Prod.mk.injEq] at h
 exact ⟨h.2.1.symm, h.2.2.symm⟩
theorem zp {x : Option α} {a : α}    (h : ofO x st = some (a, R, U)) : x = some a ∧ R = [] ∧ U = [] := by
 unfold ofO at h
 split at h
 ·simp only [Option.some.injEq, Prod.mk.injEq] at h
  exact ⟨by simp [*], h.2.1.symm, h.2.2.symm⟩
 ·cases h
theorem zn {a : α}    (h : (efail : EM α) st = some (a, R, U)) : False := by
 simp [efail] at h
structure Ctx where
 w0 : World
 S : z8
 M : Nat → Prop
structure wK (M : Nat → Prop) (w w' : World) : Prop where
 os : w'.os = w.os
 tape : w'.tape = w.tape
 output : w'.output = w.output
 drawn : w.drawn ≤ w'.drawn
 size : w.heap.size ≤ w'.heap.size
 block : ∀ k, ¬ M k → w'.heap[k]? = w.heap[k]?
theorem wK.refl (M : Nat → Prop) (w : World) : wK M w w := ⟨rfl, rfl, rfl, Nat.le_refl _, Nat.le_refl _, fun _ _ => rfl⟩
variable {M : Nat → Prop}
theorem wK.trans {a b c : World} (h : wK M a b) (k : wK M b c) : wK M a c :=
 ⟨k.os.trans h.os, k.tape.trans h.tape, k.output.trans h.output, Nat.le_trans h.drawn k.drawn, Nat.le_trans h.size k.size, fun i hi => (k.block i hi).trans (h.block i hi)⟩
theorem wK.mono {M M' : Nat → Prop} {w w' : World} (h : wK M w w') (hM : ∀ k, M k → M' k) : wK M' w w' := ⟨h.os, h.tape, h.output, h.drawn, h.size, fun k hk => h.block k fun q => hk (hM k q)⟩
theorem wK.drew {a w : World} (h : wK M a w) : wK M a w.drew := ⟨h.os, h.tape, h.output, Nat.le_succ_of_le h.drawn, h.size, h.block⟩
theorem wK.alloc {a w : World} (h : wK M a w) (hM : M w.heap.size) (o : Obj) : wK M a (w.alloc o) :=
 h.trans ⟨rfl, rfl, rfl, Nat.le_refl _, by simp, fun k hk => by
  show (w.heap.push o)[k]? = _
  rw [Array.getElem?_push, if_neg (by rintro rfl; exact hk hM)]⟩
def z62 (S : z8) (ρ : Pl) (x : V) (v : Value) : Prop := VR S ρ x v ∧ v.oneCell' = true
def z8r (S : z8) (ρ : Pl) (h : Array Obj) (k : Blk) (p : Loc) : Prop :=
 ∃ arr ty, h[p.B]? = some (.cells arr ty (0, 0)) ∧ p.Z = arr.size ∧ p.O + k.cells.length ≤ arr.size ∧ (k.ex = true → p.O + k.cells.length = p.Z) ∧ ∀ i x, k.cells[i]? = some x → ∃ v, arr[p.O + i]? = some v ∧ z62 S ρ x v
def z8o (S : z8) (ρ : Pl) (h : Array Obj) (es : List (Value × V)) (p : Loc) : Prop :=
 ∃ ents clock, h[p.B]? = some (.map ents clock) ∧ ents.toList.map (·.key) = es.map (·.1) ∧ VRs S ρ (es.map (·.2)) (ents.toList.map (·.val))
def zcB (S : z8) (ρ : Pl) (h : Array Obj) (r : Lp) (p : Loc) : Prop :=
 ∃ q : Loop, h[p.B]? = some (.loop q) ∧ VRs S ρ r.fr q.tmps.toList ∧ q.params.toList = r.params ∧ q.assign = r.assign ∧ q.body = r.body ∧ q.pending = r.pend ∧ q.state = (if r.ready = true then .ready else .done)
def XOk (S : z8) (ρ : Pl) (h : Array Obj) (x : X) (p : Loc) : Prop :=
 match x with
 | .k k => z8r S ρ h k p
 | .mp es => z8o S ρ h es p
 | .lp r => zcB S ρ h r p
 | _ => True
structure vN (C : Ctx) (ρ : Pl) (st : St) (w : World) : Prop where
 ent : ∀ b, (st (.b b)).mem = true → ∃ p, ρ b = some p ∧ XOk C.S ρ w.heap (st (.b b)) p
 dis : ∀ b b' p p', b ≠ b' → (st (.b b)).mem = true → (st (.b b')).mem = true → ρ b = some p → ρ b' = some p' → p.B = p'.B →
  ∃ k k', st (.b b) = .k k ∧ st (.b b') = .k k' ∧ k.fam = k'.fam ∧ p.O + k'.foff = p'.O + k.foff
 fam : ∀ b k, st (.b b) = .k k → ((∃ p, ρ k.fam = some p) ∧ k.fam ≤ b) ∧ ∃ l, st (.f k.fam) = .m l ∧ l.has b
 base : ∀ b p, (st (.b b)).mem = true → ρ b = some p → C.M p.B
 lt : ∀ b p, ρ b = some p → p.B < w.heap.size
 still : ∀ B o v, C.S B o = some v → zu w.heap B o = some v
 sfree : ∀ B o v, C.S B o = some v → ¬ C.M B
 kept : wK C.M C.w0 w
 mine : ∀ B, C.w0.heap.size ≤ B → C.M B
def Act.tv (a : Act) (t : Nat) : Value := a.tmps.getD t undef
def mark (D : Nat) : Deferred := { target := .collected D, args := #[] }
structure z5t (C : Ctx) (N : Nat) (ρ : Pl) (st : St) (a : Act) (w : World) (Ds : List Nat) : Prop where
 size : a.tmps.size = N
 slot : ∀ t, VR C.S ρ (st (.s t)).val (Act.tv a t)
 defers : a.defers = Ds.map mark
 dn : Ds.Nodup
 dm : ∀ D ∈ Ds, C.M D ∧ w.heap[D]? = some (.deferred (some []))
 dx : ∀ D ∈ Ds, ∀ b p, (st (.b b)).mem = true → ρ b = some p → p.B ≠ D
structure Sim (C : Ctx) (N : Nat) (ρ : Pl) (st : St) (a : Act) (w : World) (Ds : List Nat) : Prop where
 h : vN C ρ st w
 f : z5t C N ρ st a w Ds
variable {ρ : Pl}{p : Loc}
theorem XOk.mem_world {S : z8}  {h h' : Array Obj}   (hh : h'[p.B]? = h[p.B]?) (r : XOk S ρ h x p) : XOk S ρ h' x p := by
 cases x <;> simp only [XOk, z8r, z8o, zcB] at r ⊢ <;> first | trivial | (rw [hh]; exact r)
theorem XOk.mono {S : z8} {ρ ρ' : Pl} (hp : Pl.le ρ ρ') {h : Array Obj}   (r : XOk S ρ h x p) : XOk S ρ' h x p := by
 cases x with
 | k k =>
  simp only [XOk, z8r] at r ⊢
  obtain ⟨arr, ty, h1, h2, h3, h4, h5⟩ := r
  exact ⟨arr, ty, h1, h2, h3, h4, fun i x hx => let ⟨v, q1, q2⟩ := h5 i x hx; ⟨v, q1, q2.1.mono hp, q2.2⟩⟩
 | mp es =>
  simp only [XOk, z8o] at r ⊢
  obtain ⟨e, c, h1, h2, h3⟩ := r
  exact ⟨e, c, h1, h2, h3.mono hp⟩
 | lp q =>
  simp only [XOk, zcB] at r ⊢
  obtain ⟨q, h1, h2, h3⟩ := r
  exact ⟨q, h1, h2.mono hp, h3⟩
 | _ => trivial
open Go.Own (A z8 zu Rep kY)
def ud (arr : Array Value) (o : Nat) (l : List Value) : Array Value := arr.mapIdx fun k v => (if o ≤ k then l[k - o]? else none).getD v
theorem xE (arr : Array Value) (o : Nat) (l : List Value) (k : Nat) : (ud arr o l)[k]? = arr[k]?.map fun v => (if o ≤ k then l[k - o]? else none).getD v := by
 simp [ud, Array.getElem?_mapIdx]
@[simp] theorem Jl (arr : Array Value) (o : Nat) (l : List Value) : (ud arr o l).size = arr.size := by simp [ud]
variable {arr : Array Value}{o : Nat}{l : List Value}
theorem X6 (h : o + l.length ≤ arr.size) {j : Nat}  (hj : l[j]? = some v) : (ud arr o l)[o + j]? = some v := by
 have hlt := (List.getElem?_eq_some_iff.1 hj).1
 rw [xE, Array.getElem?_eq_getElem (by omega)]
 simp [show o + j - o = j from by omega, hj]
theorem vo {k : Nat} (h : k < o ∨ o + l.length ≤ k) : (ud arr o l)[k]? = arr[k]? := by
 rw [xE]
 by_cases ho : o ≤ k
 ·have : l[k - o]? = none := List.getElem?_eq_none (by omega)
  simp [ho, this]
 ·simp [ho]
theorem xa {cs : List Value} (h : o + cs.length ≤ arr.size) : (arr.toList.take o ++ cs ++ arr.toList.drop (o + cs.length)).toArray = ud arr o cs := by
 apply Array.ext_getElem?
 intro k
 rw [List.getElem?_toArray]
 have hl : (arr.toList.take o).length = o := by simp; omega
 by_cases h1 : k < o
 ·rw [vo (.inl h1), List.append_assoc, List.getElem?_append_left (by omega), List.getElem?_take, if_pos h1]
  simp
 ·by_cases h2 : k < o + cs.length
  ·have hj : cs[k - o]? = some cs[k - o] := List.getElem?_eq_getElem (by omega)
   have := X6 h hj
   rw [show o + (k - o) = k from by omega] at this
   rw [this, List.getElem?_append_left (by simp; omega), List.getElem?_append_right (by omega), hl, hj]
  ·rw [vo (.inr (by omega)), List.getElem?_append_right (by simp; omega)]
   simp only [List.length_append, hl, List.getElem?_drop]
   rw [show o + cs.length + (k - (o + cs.length)) = k from by omega]
   simp
def wT (ρ : Pl) (n : Nat) (p : Loc) : Pl := fun i => if i = n then some p else ρ i
theorem zS (ρ : Pl) (n : Nat) (p : Loc) : wT ρ n p n = some p := by simp [wT]
theorem ZU (ρ : Pl) {n i : Nat} (p : Loc) (h : i ≠ n) : wT ρ n p i = ρ i := by simp [wT, h]
variable {n : Nat}
theorem jz (p : Loc) (h : ρ n = none) : Pl.le ρ (wT ρ n p) := fun i q hi => by
 by_cases e : i = n
 ·subst e; rw [h] at hi; cases hi
 ·rw [ZU _ _ e]; exact hi
def Ext (lo hi : Nat) (ρ ρ' : Pl) : Prop := Pl.le ρ ρ' ∧ ∀ i, (i < lo ∨ hi ≤ i) → ρ' i = ρ i
theorem Ext.refl (lo hi : Nat) (ρ : Pl) : Ext lo hi ρ ρ := ⟨Pl.le_refl ρ, fun _ _ => rfl⟩
theorem Ext.trans {lo hi : Nat} {ρ ρ' ρ'' : Pl} (h : Ext lo hi ρ ρ') (h' : Ext lo hi ρ' ρ'') : Ext lo hi ρ ρ'' := ⟨Pl.le_trans h.1 h'.1, fun i hi => (h'.2 i hi).trans (h.2 i hi)⟩
theorem Ext.mono {lo hi lo' hi' : Nat} {ρ ρ' : Pl} (h : Ext lo hi ρ ρ') (h1 : lo' ≤ lo) (h2 : hi ≤ hi') : Ext lo' hi' ρ ρ' := ⟨h.1, fun i hi => h.2 i (by omega)⟩
theorem Ext.set {n hi : Nat} (p : Loc) (h : ρ n = none) (hn : n < hi) : Ext n hi ρ (wT ρ n p) := ⟨jz p h, fun i hi => ZU _ _ (by omega)⟩
theorem hao (w : World) (o : Obj) (k : Nat) (h : k < w.heap.size) : (w.alloc o).heap[k]? = w.heap[k]? := Go.RowKit.Below.heap_alloc w o k h
theorem VY {w : World} {B o : Nat}  (h : zu w.heap B o = some v) (x : Obj) : zu (w.alloc x).heap B o = some v := by
 unfold zu at h ⊢
 have : B < w.heap.size := by
  rcases Nat.lt_or_ge B w.heap.size with h1 | h1
  ·exact h1
  ·rw [Array.getElem?_eq_none h1] at h; cases h
 rw [hao w x B this]; exact h
variable {C : Ctx}
theorem vN.congr {st st' : St} {w : World} (h : vN C ρ st w) (hb : ∀ i, st' (.b i) = st (.b i)) (hf : ∀ i, st' (.f i) = st (.f i)) : vN C ρ st' w := {
 ent := fun b q => by rw [hb] at q ⊢; exact h.ent b q
 dis := fun b b' p p' h1 h2 h3 => by rw [hb] at h2 ⊢; rw [hb] at h3 ⊢; exact h.dis b b' p p' h1 h2 h3
 fam := fun b k q => by rw [hb] at q; rw [hf]; exact h.fam b k q
 base := fun b p q => by rw [hb] at q; exact h.base b p q
 lt := h.lt
 still := h.still
 sfree := h.sfree
 kept := h.kept
 mine := h.mine }
theorem vN.drew {w : World} (h : vN C ρ st w) : vN C ρ st w.drew :=
 ⟨h.ent, h.dis, h.fam, h.base, h.lt, h.still, h.sfree, h.kept.drew, h.mine⟩
variable {Ds : List Nat}{N : Nat}{a : Act}
theorem Sim.drew {w : World}  (h : Sim C N ρ st a w Ds) : Sim C N ρ st a w.drew Ds :=
 ⟨h.h.drew, ⟨h.f.size, h.f.slot, h.f.defers, h.f.dn, h.f.dm, h.f.dx⟩⟩
theorem Act.tv_put (a : Act) (k : Nat) (v : Value) (hk : k < a.tmps.size) (t : Nat) : Act.tv (a.put (some k) v) t = if t = k then v else Act.tv a t := by
 simp only [Act.tv, Go.Act.put, Array.getD_eq_getD_getElem?, Array.getElem?_setIfInBounds]
 by_cases h : t = k
 ·subst h; simp [hk]
 ·simp [h, Ne.symm h]
theorem Sim.put {w : World}  (h : Sim C N ρ st a w Ds) {k : Nat} (hk : k < N) {x : V}  (hx : VR C.S ρ x v) : Sim C N ρ (upd st (.s k) (.v x)) (a.put (some k) v) w Ds := {
 h := h.h.congr (fun i => zt _ _ (by simp)) (fun i => zt _ _ (by simp))
 f := {
  size := by simp [Go.Act.put, h.f.size]
  slot := fun t => by
   rw [Act.tv_put a k v (h.f.size ▸ hk)]
   by_cases e : t = k
   ·subst e; rw [zC, if_pos rfl]; exact hx
   ·rw [zt _ _ (by simpa using e), if_neg e]; exact h.f.slot t
  defers := h.f.defers
  dn := h.f.dn
  dm := h.f.dm
  dx := fun D hD b p q => by rw [zt _ _ (by simp)] at q; exact h.f.dx D hD b p q } }
theorem z5t.step {ρ ρ' : Pl} {st st' : St}  {w w' : World}  (h : z5t C N ρ st a w Ds) (hp : Pl.le ρ ρ') (hs : ∀ t, st' (.s t) = st (.s t))
  (hw : ∀ D ∈ Ds, w'.heap[D]? = w.heap[D]?) (hx : ∀ D ∈ Ds, ∀ b p, (st' (.b b)).mem = true → ρ' b = some p → p.B ≠ D) : z5t C N ρ' st' a w' Ds := {
 size := h.size
 slot := fun t => by rw [hs]; exact (h.slot t).mono hp
 defers := h.defers
 dn := h.dn
 dm := fun D hD => ⟨(h.dm D hD).1, by rw [hw D hD]; exact (h.dm D hD).2⟩
 dx := hx }
theorem z5t.lt {w : World}  (h : z5t C N ρ st a w Ds) {D : Nat} (hD : D ∈ Ds) : D < w.heap.size := (Array.getElem?_eq_some_iff.1 (h.dm D hD).2).1
theorem vN.new {ρ : Pl}  {w : World} (h : vN C ρ st w)  (hn : ρ n = none) (o : Obj) (x : X) (Z : Nat) (hx : XOk C.S (wT ρ n ⟨w.heap.size, 0, Z⟩) (w.alloc o).heap x ⟨w.heap.size, 0, Z⟩)
    {st' : St} (hb : ∀ i, st' (.b i) = if i = n then x else st (.b i)) (hf : ∀ b k, st (.b b) = .k k → ∃ l, st' (.f k.fam) = .m l ∧ l.has b)
    (hfx : ∀ k, x = .k k → ((∃ p, wT ρ n ⟨w.heap.size, 0, Z⟩ k.fam = some p) ∧ k.fam ≤ n) ∧ ∃ l, st' (.f k.fam) = .m l ∧ l.has n) : vN C (wT ρ n ⟨w.heap.size, 0, Z⟩) st' (w.alloc o) := by
  have hle := jz (ρ := ρ) (⟨w.heap.size, 0, Z⟩ : Loc) hn
  have old : ∀ b p, b ≠ n → wT ρ n ⟨w.heap.size, 0, Z⟩ b = some p → ρ b = some p ∧ p.B < w.heap.size := by
    intro b p hbn hp
    rw [ZU _ _ hbn] at hp
    exact ⟨hp, h.lt b p hp⟩
  refine ⟨?_, ?_, ?_, ?_, ?_, fun B o' v hB => VY (h.still B o' v hB) o, h.sfree, h.kept.alloc (h.mine _ h.kept.size) o, h.mine⟩
  · intro b q
    rw [hb] at q ⊢
    by_cases e : b = n
    · subst e
      simp only [if_true] at q ⊢
      exact ⟨_, zS _ _ _, hx⟩
    · simp only [e, if_false] at q ⊢
      obtain ⟨p, h1, h2⟩ := h.ent b q
      exact ⟨p, hle _ _ h1, (h2.mono hle).mem_world (hao w o _ (h.lt b p h1))⟩
  · intro b b' p p' hbb h1 h2 h3 h4 h5
    rw [hb] at h1 ⊢
    rw [hb] at h2 ⊢
    by_cases e : b = n
    · subst e
      rw [zS] at h3
      cases h3
      have := old b' p' (Ne.symm hbb) h4
      simp only at h5
      omega
    · by_cases e' : b' = n
      · subst e'
        rw [zS] at h4
        cases h4
        have := old b p hbb h3
        simp only at h5
        omega
      · simp only [e, e', if_false] at h1 h2 ⊢
        exact h.dis b b' p p' hbb h1 h2 (old b p e h3).1 (old b' p' e' h4).1 h5
  · intro b k q
    rw [hb] at q
    by_cases e : b = n
    · subst e
      simp only [if_true] at q
      exact hfx k q
    · simp only [e, if_false] at q
      obtain ⟨⟨⟨p, h1⟩, h2⟩, _⟩ := h.fam b k q
      exact ⟨⟨⟨p, hle _ _ h1⟩, h2⟩, hf b k q⟩
  · intro b p q hp
    rw [hb] at q
    by_cases e : b = n
    · subst e
      rw [zS] at hp
      cases hp
      exact h.mine _ h.kept.size
    · simp only [e, if_false] at q
      exact h.base b p q (old b p e hp).1
  · intro b p hp
    by_cases e : b = n
    · subst e
      rw [zS] at hp
      cases hp
      simp
    · have := (old b p e hp).2
      simp; omega
theorem Sim.new {w : World}  (h : Sim C N ρ st a w Ds)  (hn : ρ n = none) (o : Obj) (x : X) (Z : Nat) (hx : XOk C.S (wT ρ n ⟨w.heap.size, 0, Z⟩) (w.alloc o).heap x ⟨w.heap.size, 0, Z⟩)
    {st' : St} (hb : ∀ i, st' (.b i) = if i = n then x else st (.b i)) (hs : ∀ t, st' (.s t) = st (.s t)) (hf : ∀ b k, st (.b b) = .k k → ∃ l, st' (.f k.fam) = .m l ∧ l.has b)
    (hfx : ∀ k, x = .k k → ((∃ p, wT ρ n ⟨w.heap.size, 0, Z⟩ k.fam = some p) ∧ k.fam ≤ n) ∧ ∃ l, st' (.f k.fam) = .m l ∧ l.has n) : Sim C N (wT ρ n ⟨w.heap.size, 0, Z⟩) st' a (w.alloc o) Ds := by
  refine ⟨h.h.new hn o x Z hx hb hf hfx, h.f.step (jz _ hn) hs (fun D hD => hao w o D (h.f.lt hD)) ?_⟩
  intro D hD b p q hp
  have hlt := h.f.lt hD
  rw [hb] at q
  by_cases e : b = n
  · subst e
    rw [zS] at hp
    cases hp
    show w.heap.size ≠ D
    omega
  · simp only [e, if_false] at q
    rw [ZU _ _ e] at hp
    exact h.f.dx D hD b p q hp
def Wk (k k' : Blk) : Prop := k'.fam = k.fam ∧ k'.foff = k.foff ∧ k'.ex = k.ex ∧ k'.cells.length = k.cells.length ∧ ∀ (i : Nat) (x : V), k'.cells[i]? = some x → x = V.un ∨ k.cells[i]? = some x
theorem Wk.refl (k : Blk) : Wk k k := ⟨rfl, rfl, rfl, rfl, fun _ _ h => .inr h⟩
theorem Wk.trans {k k' k'' : Blk} (h : Wk k k') (h' : Wk k' k'') : Wk k k'' :=
 ⟨h'.1.trans h.1, h'.2.1.trans h.2.1, h'.2.2.1.trans h.2.2.1, h'.2.2.2.1.trans h.2.2.2.1, fun i x hx => (h'.2.2.2.2 i x hx).elim .inl (fun q => h.2.2.2.2 i x q)⟩
structure K1 (st st' : St) : Prop where
 s : ∀ t, st' (.s t) = st (.s t)
 f : ∀ i, st' (.f i) = st (.f i)
 b : ∀ i, st' (.b i) = st (.b i) ∨ ∃ k k', st (.b i) = .k k ∧ st' (.b i) = .k k' ∧ Wk k k'
theorem K1.refl (st : St) : K1 st st := ⟨fun _ => rfl, fun _ => rfl, fun _ => .inl rfl⟩
theorem K1.trans {a b c : St} (h : K1 a b) (h' : K1 b c) : K1 a c := {
 s := fun t => (h'.s t).trans (h.s t)
 f := fun t => (h'.f t).trans (h.f t)
 b := fun i => by
  rcases h'.b i with e | ⟨k, k', e1, e2, e3⟩
  ·rw [e]; exact h.b i
  ·rcases h.b i with d | ⟨j, j', d1, d2, d3⟩
   ·exact .inr ⟨k, k', by rw [← d]; exact e1, e2, e3⟩
   ·rw [d2] at e1; cases e1
    exact .inr ⟨j, k', d1, e2, d3.trans e3⟩ }
theorem K1.mem {st st' : St} (h : K1 st st') (i : Nat) : (st' (.b i)).mem = (st (.b i)).mem := by
 rcases h.b i with e | ⟨k, k', e1, e2, _⟩
 ·rw [e]
 ·rw [e1, e2]; rfl
theorem K1.blk {st st' : St} (h : K1 st st') {i : Nat} {k' : Blk} (e : st' (.b i) = .k k') : ∃ k, st (.b i) = .k k ∧ Wk k k' := by
 rcases h.b i with d | ⟨k, k2, e1, e2, e3⟩
 ·exact ⟨k', by rw [← d]; exact e, Wk.refl _⟩
 ·rw [e2] at e; cases e; exact ⟨k, e1, e3⟩
theorem vN.weak {st st' : St} {w : World} (h : vN C ρ st w) (hw : K1 st st') : vN C ρ st' w := {
 ent := fun b q => by
  rw [hw.mem] at q
  obtain ⟨p, h1, h2⟩ := h.ent b q
  refine ⟨p, h1, ?_⟩
  rcases hw.b b with e | ⟨k, k', e1, e2, e3⟩
  ·rw [e]; exact h2
  ·rw [e1] at h2
   rw [e2]
   obtain ⟨arr, ty, q1, q2, q3, q4, q5⟩ := h2
   obtain ⟨f1, f2, f3, f4, f5⟩ := e3
   refine ⟨arr, ty, q1, q2, by omega, ?_, ?_⟩
   ·intro hx; rw [f4]; exact q4 (f3 ▸ hx)
   ·intro i x hx
    have hlt : i < k.cells.length := by rw [← f4]; exact (List.getElem?_eq_some_iff.1 hx).1
    obtain ⟨v, g1, g2⟩ := q5 i _ (List.getElem?_eq_getElem hlt)
    rcases f5 i x hx with rfl | hx
    ·exact ⟨v, g1, by simp [VR], g2.2⟩
    ·exact q5 i x hx
 dis := fun b b' p p' h1 h2 h3 h4 h5 h6 => by
  rw [hw.mem] at h2 h3
  obtain ⟨k, k', q1, q2, q3, q4⟩ := h.dis b b' p p' h1 h2 h3 h4 h5 h6
  have get : ∀ i k, st (.b i) = .k k → ∃ k', st' (.b i) = .k k' ∧ k'.fam = k.fam ∧ k'.foff = k.foff := by
   intro i k hk
   rcases hw.b i with e | ⟨j, j', e1, e2, e3⟩
   ·exact ⟨k, by rw [e]; exact hk, rfl, rfl⟩
   ·rw [hk] at e1; cases e1; exact ⟨j', e2, e3.1, e3.2.1⟩
  obtain ⟨j, g1, g2, g3⟩ := get b k q1
  obtain ⟨j', g4, g5, g6⟩ := get b' k' q2
  exact ⟨j, j', g1, g4, by rw [g2, g5, q3], by rw [g3, g6, q4]⟩
 fam := fun b k q => by
  obtain ⟨k0, h1, h2⟩ := hw.blk q
  rw [h2.1, hw.f]
  exact h.fam b k0 h1
 base := fun b p q => by rw [hw.mem] at q; exact h.base b p q
 lt := h.lt
 still := h.still
 sfree := h.sfree
 kept := h.kept
 mine := h.mine }
theorem Sim.weak {st st' : St}  {w : World}  (h : Sim C N ρ st a w Ds) (hw : K1 st st') : Sim C N ρ st' a w Ds :=
 ⟨h.h.weak hw, h.f.step (Pl.le_refl _) hw.s (fun _ _ => rfl) (fun D hD b p q => by rw [hw.mem] at q; exact h.f.dx D hD b p q)⟩
def zdk (st : St) (b fam lo hi : Nat) : Prop := ∀ m k, m ≠ b → st (.b m) = .k k → k.fam = fam → ∀ (i : Nat) (x : V), k.cells[i]? = some x → lo ≤ k.foff + i → k.foff + i < hi → x = V.un
def Qq (l : List V) (o : Nat) (xs : List V) : List V := l.take o ++ xs ++ l.drop (o + xs.length)
theorem z4l {l : List V}   (ho : o ≤ l.length) (i : Nat) : (Qq l o xs)[i]? = if i < o then l[i]? else if i < o + xs.length then xs[i - o]? else l[i]? := by
 unfold Qq
 have hl : (l.take o).length = o := by simp; omega
 by_cases h1 : i < o
 ·rw [if_pos h1, List.append_assoc, List.getElem?_append_left (by omega), List.getElem?_take, if_pos h1]
 ·rw [if_neg h1]
  by_cases h2 : i < o + xs.length
  ·rw [if_pos h2, List.getElem?_append_left (by simp; omega), List.getElem?_append_right (by omega), hl]
  ·rw [if_neg h2, List.getElem?_append_right (by simp; omega)]
   simp only [List.length_append, hl, List.getElem?_drop]
   rw [show o + xs.length + (i - (o + xs.length)) = i from by omega]
theorem ZX {l : List V}   (ho : o ≤ l.length) : (Qq l o xs).length = max l.length (o + xs.length) := by
 unfold Qq
 simp only [List.length_append, List.length_take, List.length_drop]
 omega
theorem ZT (w : World) (g : Nat) (cur cs : Array Value) (t : TypeId) (fz : Nat × Nat) (hg : w.heap[g]? = some (.cells cur t fz)) : (w.setRow g cs).heap[g]? = some (.cells cs t fz) := by
 unfold World.setRow
 simp [Array.getElem?_modify, hg]
theorem ky (w : World) (g k : Nat) (cs : Array Value) (h : k ≠ g) : (w.setRow g cs).heap[k]? = w.heap[k]? := by
 unfold World.setRow
 simp [Array.getElem?_modify, Ne.symm h]
theorem Wn (w : World) (g : Nat) (cs : Array Value) : (w.setRow g cs).heap.size = w.heap.size := by
 unfold World.setRow
 simp
theorem Sim.store {w : World}  (h : Sim C N ρ st a w Ds) {b : Nat} {k : Blk}  (hk : st (.b b) = .k k) (hp : ρ b = some p) {arr : Array Value} {ty : TypeId} (harr : w.heap[p.B]? = some (.cells arr ty (0, 0)))
    {o : Nat} {xs : List V} {cs : List Value} (ho : o ≤ k.cells.length) (hfit : p.O + o + cs.length ≤ arr.size) (hex : k.ex = true → o + xs.length ≤ k.cells.length) (hr : VRs C.S ρ xs cs) (h1 : ∀ u ∈ cs, u.oneCell' = true) (hc : zdk st b k.fam (k.foff + o) (k.foff + o + xs.length)) :
    Sim C N ρ (upd st (.b b) (.k { k with cells := Qq k.cells o xs })) a (w.setRow p.B (ud arr (p.O + o) cs)) Ds := by
  have hlen := hr.len
  have hmem : (st (.b b)).mem = true := by rw [hk]; rfl
  have hmem' : ∀ i, ((upd st (.b b) (.k { k with cells := Qq k.cells o xs })) (.b i)).mem = (st (.b i)).mem := by
    intro i
    by_cases e : i = b
    · subst e; rw [zC, hk]; rfl
    · rw [zt _ _ (by simpa using e)]
  have hM := h.h.base b p hmem hp
  have hB : (w.setRow p.B (ud arr (p.O + o) cs)).heap[p.B]? = some (.cells (ud arr (p.O + o) cs) ty (0, 0)) := ZT w p.B arr _ ty (0, 0) harr
  have hoth : ∀ B, B ≠ p.B → (w.setRow p.B (ud arr (p.O + o) cs)).heap[B]? = w.heap[B]? := fun B hB => ky w p.B B _ hB
  refine ⟨⟨?_, ?_, ?_, ?_, ?_, ?_, h.h.sfree, ?_, h.h.mine⟩, ?_⟩
  · intro i q
    rw [hmem'] at q
    by_cases e : i = b
    · subst e
      refine ⟨p, hp, ?_⟩
      rw [zC]
      obtain ⟨p', q1, q2⟩ := h.h.ent i q
      rw [hp] at q1; cases q1
      rw [hk] at q2
      obtain ⟨arr', ty', g1, g2, g3, g4, g5⟩ := q2
      rw [harr] at g1
      cases g1
      refine ⟨_, _, hB, by simpa using g2, ?_, ?_, ?_⟩
      · simp only [Jl, ZX ho]; omega
      · intro hx
        have h2 := g4 hx
        have h3 := hex hx
        simp only [ZX ho]
        omega
      · intro j x hx
        rw [z4l ho] at hx
        by_cases c1 : j < o
        · rw [if_pos c1] at hx
          obtain ⟨v, f1, f2⟩ := g5 j x hx
          exact ⟨v, by rw [vo (.inl (by omega))]; exact f1, f2⟩
        · rw [if_neg c1] at hx
          by_cases c2 : j < o + xs.length
          · rw [if_pos c2] at hx
            obtain ⟨v, f1, f2⟩ := hr.get hx
            refine ⟨v, ?_, f2, h1 v (List.mem_of_getElem? f1)⟩
            have := X6 (arr := arr) (o := p.O + o) (l := cs) (by omega) f1
            rw [show p.O + o + (j - o) = p.O + j from by omega] at this
            exact this
          · rw [if_neg c2] at hx
            obtain ⟨v, f1, f2⟩ := g5 j x hx
            exact ⟨v, by rw [vo (.inr (by omega))]; exact f1, f2⟩
    · obtain ⟨p', q1, q2⟩ := h.h.ent i q
      refine ⟨p', q1, ?_⟩
      rw [zt _ _ (by simpa using e)]
      by_cases hBB : p'.B = p.B
      · obtain ⟨ki, kb, d1, d2, d3, d4⟩ := h.h.dis i b p' p e q hmem q1 hp hBB
        rw [hk] at d2; cases d2
        rw [d1] at q2 ⊢
        obtain ⟨arr', ty', g1, g2, g3, g4, g5⟩ := q2
        rw [hBB, harr] at g1
        cases g1
        refine ⟨ud arr (p.O + o) cs, ty, by rw [hBB]; exact hB, by simpa using g2, by simpa using g3, g4, ?_⟩
        intro j x hx
        obtain ⟨v, f1, f2⟩ := g5 j x hx
        by_cases c : p'.O + j < p.O + o ∨ p.O + o + cs.length ≤ p'.O + j
        · exact ⟨v, by rw [vo c]; exact f1, f2⟩
        · have hun := hc i ki e d1 d3 j x hx (by omega) (by omega)
          subst hun
          have hj : cs[p'.O + j - (p.O + o)]? = some cs[p'.O + j - (p.O + o)] := List.getElem?_eq_getElem (by omega)
          refine ⟨cs[p'.O + j - (p.O + o)], ?_, by simp [VR], h1 _ (List.mem_of_getElem? hj)⟩
          have := X6 (arr := arr) (o := p.O + o) (l := cs) (by omega) hj
          rw [show p.O + o + (p'.O + j - (p.O + o)) = p'.O + j from by omega] at this
          exact this
      · exact q2.mem_world (hoth _ hBB)
  · intro i i' q q' g1 g2 g3 g4 g5 g6
    rw [hmem'] at g2 g3
    obtain ⟨k1, k2, f1, f2, f3, f4⟩ := h.h.dis i i' q q' g1 g2 g3 g4 g5 g6
    have get : ∀ i k', st (.b i) = .k k' → ∃ k'', upd st (.b b) (.k { k with cells := Qq k.cells o xs }) (.b i) = .k k'' ∧ k''.fam = k'.fam ∧ k''.foff = k'.foff := by
      intro i k' hk'
      by_cases e : i = b
      · subst e; rw [hk] at hk'; cases hk'; exact ⟨_, zC _ _ _, rfl, rfl⟩
      · exact ⟨k', by rw [zt _ _ (by simpa using e)]; exact hk', rfl, rfl⟩
    obtain ⟨j1, e1, e2, e3⟩ := get i k1 f1
    obtain ⟨j2, e4, e5, e6⟩ := get i' k2 f2
    exact ⟨j1, j2, e1, e4, by rw [e2, e5, f3], by rw [e3, e6, f4]⟩
  · intro i k' q
    rw [zt _ _ (by simp)]
    by_cases e : i = b
    · subst e
      rw [zC] at q; cases q
      exact h.h.fam i k hk
    · rw [zt _ _ (by simpa using e)] at q
      exact h.h.fam i k' q
  · intro i q g1
    rw [hmem'] at g1
    exact h.h.base i q g1
  · intro i q g
    rw [Wn]
    exact h.h.lt i q g
  · intro B o' v hS
    have hne : B ≠ p.B := by rintro rfl; exact h.h.sfree _ _ _ hS hM
    have := h.h.still B o' v hS
    unfold zu at this ⊢
    rw [hoth B hne]; exact this
  · exact h.h.kept.trans ⟨rfl, rfl, rfl, Nat.le_refl _, by rw [Wn]; exact Nat.le_refl _, fun B hB => hoth B (by rintro rfl; exact hB hM)⟩
  · refine h.f.step (Pl.le_refl _) (fun t => zt _ _ (by simp)) ?_ ?_
    · intro D hD
      exact hoth D (by have := h.f.dx D hD b p hmem hp; exact Ne.symm this)
    · intro D hD i q g
      rw [hmem'] at g
      exact h.f.dx D hD i q g
theorem Sim.alias {ρ : Pl}   {w : World}  (h : Sim C N ρ st a w Ds) {b n : Nat} {k : Blk}  (hn : ρ n = none) (hk : st (.b b) = .k k) (hp : ρ b = some p) {l : Fam} (hl : st (.f k.fam) = .m l) (hfn : k.fam ≤ n) (hln : l.top ≤ n + 1)
  (o m : Nat) (hm : o + m ≤ k.cells.length) :
  Sim C N (wT ρ n ⟨p.B, p.O + o, p.Z⟩) (upd (upd st (.b n) (.k ⟨(k.cells.drop o).take m, false, k.fam, k.foff + o⟩)) (.f k.fam) (.m ⟨n + 1, n :: l.l⟩)) a w Ds := by
 have hle := jz (ρ := ρ) (⟨p.B, p.O + o, p.Z⟩ : Loc) hn
 have hmem : (st (.b b)).mem = true := by rw [hk]; rfl
 obtain ⟨p', q1, q2⟩ := h.h.ent b hmem
 rw [hp] at q1; cases q1
 rw [hk] at q2
 obtain ⟨arr, ty, g1, g2, g3, g4, g5⟩ := q2
 have hbn : b ≠ n := by rintro rfl; rw [hn] at hp; cases hp
 have hb : ∀ i, (upd (upd st (.b n) (.k ⟨(k.cells.drop o).take m, false, k.fam, k.foff + o⟩)) (.f k.fam) (.m ⟨n + 1, n :: l.l⟩)) (.b i) = if i = n then .k ⟨(k.cells.drop o).take m, false, k.fam, k.foff + o⟩ else st (.b i) := by
  intro i
  rw [zt _ _ (by simp)]
  by_cases e : i = n
  ·subst e; simp [zC]
  ·rw [zt _ _ (by simpa using e)]; simp [e]
 have old : ∀ i q, i ≠ n → wT ρ n ⟨p.B, p.O + o, p.Z⟩ i = some q → ρ i = some q := by
  intro i q e hq
  rwa [ZU _ _ e] at hq
 refine ⟨⟨?_, ?_, ?_, ?_, ?_, h.h.still, h.h.sfree, h.h.kept, h.h.mine⟩, ?_⟩
 ·intro i q
  rw [hb] at q ⊢
  by_cases e : i = n
  ·subst e
   simp only [if_true] at q ⊢
   refine ⟨_, zS _ _ _, arr, ty, g1, g2, ?_, by simp, ?_⟩
   ·show p.O + o + _ ≤ _
    simp only [List.length_take, List.length_drop]; omega
   ·intro j x hx
    simp only [List.getElem?_take, List.getElem?_drop] at hx
    split at hx
    ·obtain ⟨v, f1, f2⟩ := g5 (o + j) x hx
     refine ⟨v, ?_, f2.1.mono hle, f2.2⟩
     show arr[p.O + o + j]? = _
     rw [Nat.add_assoc]; exact f1
    ·cases hx
  ·simp only [e, if_false] at q ⊢
   obtain ⟨pi, f1, f2⟩ := h.h.ent i q
   exact ⟨pi, hle _ _ f1, f2.mono hle⟩
 ·intro i i' q q' c1 c2 c3 c4 c5 c6
  rw [hb] at c2 ⊢
  rw [hb] at c3 ⊢
  have side : ∀ j qj, j ≠ n → (st (.b j)).mem = true → ρ j = some qj → qj.B = p.B → ∃ kj, st (.b j) = .k kj ∧ kj.fam = k.fam ∧ qj.O + k.foff = p.O + kj.foff := by
   intro j qj e hj hq hB
   by_cases ejb : j = b
   ·subst ejb
    rw [hp] at hq; cases hq
    exact ⟨k, hk, rfl, rfl⟩
   ·obtain ⟨k1, k2, d1, d2, d3, d4⟩ := h.h.dis j b qj p ejb hj hmem hq hp hB
    rw [hk] at d2; cases d2
    exact ⟨k1, d1, d3, d4⟩
  by_cases e : i = n
  ·subst e
   have e' : i' ≠ i := Ne.symm c1
   simp only [if_true, e', if_false] at c2 c3 ⊢
   rw [zS] at c4; cases c4
   have hq' := old i' q' e' c5
   obtain ⟨kj, d1, d2, d3⟩ := side i' q' e' c3 hq' c6.symm
   exact ⟨_, kj, rfl, d1, d2.symm, by simp only; omega⟩
  ·by_cases e' : i' = n
   ·subst e'
    simp only [if_true, e, if_false] at c2 c3 ⊢
    rw [zS] at c5; cases c5
    have hq := old i q e c4
    obtain ⟨kj, d1, d2, d3⟩ := side i q e c2 hq c6
    exact ⟨kj, _, d1, rfl, d2, by simp only; omega⟩
   ·simp only [e, e', if_false] at c2 c3 ⊢
    exact h.h.dis i i' q q' c1 c2 c3 (old i q e c4) (old i' q' e' c5) c6
 ·intro i ki q
  rw [hb] at q
  by_cases e : i = n
  ·subst e
   simp only [if_true, X.k.injEq] at q
   subst q
   obtain ⟨⟨⟨pf, f1⟩, _⟩, _⟩ := h.h.fam b k hk
   exact ⟨⟨⟨pf, hle _ _ f1⟩, hfn⟩, _, zC _ _ _, by simp [Fam.has]⟩
  ·simp only [e, if_false] at q
   obtain ⟨⟨⟨pf, f1⟩, f0⟩, li, f2, f3⟩ := h.h.fam i ki q
   refine ⟨⟨⟨pf, hle _ _ f1⟩, f0⟩, ?_⟩
   by_cases ef : ki.fam = k.fam
   ·rw [ef] at f2 ⊢
    rw [hl] at f2; cases f2
    exact ⟨_, zC _ _ _, by simp [f3.1], by have := f3.2; show i < n + 1; omega⟩
   ·exact ⟨li, by rw [zt _ _ (by simpa using ef), zt _ _ (by simp)]; exact f2, f3⟩
 ·intro i q c1 c2
  rw [hb] at c1
  by_cases e : i = n
  ·subst e
   rw [zS] at c2; cases c2
   exact h.h.base b p hmem hp
  ·simp only [e, if_false] at c1
   exact h.h.base i q c1 (old i q e c2)
 ·intro i q c
  by_cases e : i = n
  ·subst e
   rw [zS] at c; cases c
   exact h.h.lt b p hp
  ·exact h.h.lt i q (old i q e c)
 ·refine h.f.step hle (fun t => by rw [zt _ _ (by simp), zt _ _ (by simp)]) (fun _ _ => rfl) ?_
  intro D hD i q c1 c2
  rw [hb] at c1
  by_cases e : i = n
  ·subst e
   rw [zS] at c2; cases c2
   exact h.f.dx D hD b p hmem hp
  ·simp only [e, if_false] at c1
   exact h.f.dx D hD i q c1 (old i q e c2)
open Go.Own (A z8 zu Rep kY)
inductive EK where
 | int (k : IntKind)
 | bool
 | str
 | slice (e : Nat)
 | ptr (e : Nat)
 | struct (fs : List (Nat × Nat))
 | array (n e : Nat)
 | map (k e : Nat)
 | func
 | iface
 | other
structure EI where
 kind : EK
 size : Nat
 bytes : Nat
 zero : Option (List Value)
 eqn : Bool
abbrev ET := Nat → Option EI
def EK.isAgg : EK → Bool
 | .struct _ | .array _ _ => true
 | _ => false
def cV : Value → V
 | .agg cs => .agg (cs.toList.map .lit)
 | v => .lit v
def rdS (t : Nat) : EM V := do
 let x ← rdX (.s t)
 pure x.val
def opV : Operand → EM V
 | .tmp t => rdS t
 | .const v => pure (cV v)
 | .func f => pure (.fn f [])
 | .global _ => efail
def opVs : List Operand → EM (List V)
 | [] => pure []
 | x :: xs => do
  let a ← opV x
  let as' ← opVs xs
  pure (a :: as')
def rdB (b : Nat) : EM Blk := do
 let x ← rdX (.b b)
 match x with
 | .k k => pure k
 | _ => efail
def rdF (f : Nat) : EM Fam := do
 let x ← rdX (.f f)
 match x with
 | .m l => pure l
 | _ => efail
def rdM (b : Nat) : EM (List (Value × V)) := do
 let x ← rdX (.b b)
 match x with
 | .mp es => pure es
 | _ => efail
def isV : V → Option (IntKind × Int)
 | .lit (.int k n) => some (k, n)
 | _ => none
def V.cells : V → List V
 | .agg xs => xs
 | x => [x]
def V.isAgg : V → Bool
 | .agg _ => true
 | _ => false
def jL (ag : Bool) (xs : List V) : Option V :=
 if ag = true then some (.agg xs) else match xs with | [x] => some x | _ => none
def zcX (i : EI) (x : V) : Bool := i.kind.isAgg == x.isAgg && x.cells.length == i.size && x.cells.all z5O
def Yn (k : Blk) (lo hi : Nat) : Blk := { k with cells := k.cells.mapIdx fun i x => if lo ≤ k.foff + i ∧ k.foff + i < hi then .un else x }
def touch (b fam lo hi : Nat) : List Nat → EM Unit
 | [] => pure ()
 | m :: l => do
  if m = b then touch b fam lo hi l else do
   let x ← rdX (.b m)
   match x with
   | .k k =>
    if k.fam = fam ∧ lo < k.foff + k.cells.length ∧ k.foff < hi then do
     wrX (.b m) (.k (Yn k lo hi))
     touch b fam lo hi l
    else touch b fam lo hi l
   | _ => touch b fam lo hi l
def putB (b o : Nat) (xs : List V) : EM Unit := do
 let k ← rdB b
 if o + xs.length ≤ k.cells.length then do
  let l ← rdF k.fam
  touch b k.fam (k.foff + o) (k.foff + o + xs.length) l.l
  wrX (.b b) (.k { k with cells := Qq k.cells o xs })
 else efail
mutual
def jq : A → Option (List V)
 | .atom v => some [.lit v]
 | .agg fs => qC fs
 | .sl sz t xs => some [.tr (.sl sz t xs)]
 | .sptr x => some [.tr (.sptr x)]
 | _ => none
def qC : List A → Option (List V)
 | [] => some []
 | a :: as' => match jq a, qC as' with
  | some xs, some ys => some (xs ++ ys)
  | _, _ => none
end
def loadV (tt : ET) (t : Nat) (x : V) : EM V := do
 let i ← ofO (tt t)
 match x with
 | .ptr b o => do
  let k ← rdB b
  if o + i.size ≤ k.cells.length ∧ (i.kind.isAgg = true ∨ i.size = 1) then ofO (jL i.kind.isAgg ((k.cells.drop o).take i.size)) else efail
 | .tr (.sptr y) => do
  let cs ← ofO (jq y)
  if cs.length = i.size ∧ (i.kind.isAgg = true ∨ i.size = 1) then ofO (jL i.kind.isAgg cs) else efail
 | _ => efail
def storeV (tt : ET) (t : Nat) (x v : V) : EM Unit := do
 let i ← ofO (tt t)
 match x with
 | .ptr b o => if zcX i v = true then putB b o v.cells else efail
 | _ => efail
def z4t (tt : ET) (fs : List (Nat × Nat)) (i : Nat) : Option (Nat × Nat) :=
 match fs[i]? with
 | some (off, ft) => (tt ft).map fun j => (off, j.size)
 | none => none
def Q8 (tt : ET) (t i : Nat) : Option (Nat × Nat) :=
 match tt t with
 | some ⟨.struct fs, _, _, _, _⟩ => z4t tt fs i
 | _ => none
def Zm (tt : ET) (t i : Nat) (x : V) : Option V :=
 match Q8 tt t i with
 | some (off, sz) =>
  if sz ≠ 0 then
   match x with
   | .ptr b o => some (.ptr b (o + off))
   | .tr (.sptr (.agg fs)) => if A.sizes (fs.take i) = off then fs[i]?.map fun y => .tr (.sptr y) else none
   | _ => none
  else none
 | none => none
def Yp (tt : ET) (t : Nat) : Option (Nat × EI) :=
 match tt t with
 | some ⟨.slice e, _, _, _, _⟩ => (tt e).map fun i => (e, i)
 | _ => none
def yX (tt : ET) (t : Nat) : Option Nat := (Yp tt t).map (·.2.size)
def JZ (tt : ET) (t : Nat) : Option (Nat × Nat × EI) :=
 match tt t with
 | some ⟨.array n e, _, _, _, _⟩ => (tt e).map fun i => (n, e, i)
 | _ => none
def Jv (tt : ET) (t : Nat) : Option (Nat × Nat) :=
 match tt t with
 | some ⟨.map k e, _, _, _, _⟩ => some (k, e)
 | _ => none
def Zl (tt : ET) (t : Nat) (x : V) (j : Int) : Option V :=
 if 0 ≤ j then
  match x with
  | .sl b o z n _ => if yX tt t = some z ∧ j.toNat < n then some (.ptr b (o + j.toNat * z)) else none
  | .tr (.sl z _ xs) => if yX tt t = some z then xs[j.toNat]?.map fun y => .tr (.sptr y) else none
  | .ptr b o =>
   match JZ tt t with
   | some (n, _, i) => if j.toNat < n then some (.ptr b (o + j.toNat * i.size)) else none
   | none => none
  | _ => none
 else none
def z8f (op : BinOp) (k : IntKind) (x y : Int) : Option Int :=
 let a := BitVec.ofInt k.bits x
 let b := BitVec.ofInt k.bits y
 match op with
 | .and => some (k.wrap (a &&& b).toNat)
 | .or => some (k.wrap (a ||| b).toNat)
 | .xor => some (k.wrap (a ^^^ b).toNat)
 | .andNot => some (k.wrap (a &&& ~~~b).toNat)
 | _ => none
def z3y (op : BinOp) (k : IntKind) (a b : Int) : Option Value :=
 match op with
 | .add => some (.int k (k.wrap (a + b)))
 | .sub => some (.int k (k.wrap (a - b)))
 | .mul => some (.int k (k.wrap (a * b)))
 | .quo => if b = 0 then none else some (.int k (k.wrap (a.tdiv b)))
 | .rem => if b = 0 then none else some (.int k (a.tmod b))
 | .eql => some (.bool (a == b))
 | .neq => some (.bool (a != b))
 | .lss => some (.bool (decide (a < b)))
 | .leq => some (.bool (decide (a ≤ b)))
 | .gtr => some (.bool (decide (a > b)))
 | .geq => some (.bool (decide (a ≥ b)))
 | op => (z8f op k a b).map (.int k)
def QM (op : BinOp) (k : IntKind) (a b : Int) : Option Value :=
 if b < 0 then none else
 match op with
 | .shl => some (.int k (k.wrap (a * 2 ^ (min b.toNat k.bits))))
 | .shr => some (.int k (a.fdiv (2 ^ (min b.toNat k.bits))))
 | _ => none
def zL : List Value → List Value → Option Bool
 | [], [] => some true
 | .int k a :: xs, .int k' b :: ys => if k = k' then (zL xs ys).map fun r => (a == b) && r else none
 | .bool a :: xs, .bool b :: ys => (zL xs ys).map fun r => (a == b) && r
 | .string a :: xs, .string b :: ys => (zL xs ys).map fun r => (a == b) && r
 | _, _ => none
def Qr : List Value → List Value → Bool
 | [], [] => true
 | .int _ _ :: zs, .int _ _ :: vs => Qr zs vs
 | .bool _ :: zs, .bool _ :: vs => Qr zs vs
 | .string _ :: zs, .string _ :: vs => Qr zs vs
 | _, _ => false
def z7V (i : EI) (vs : List Value) : Bool :=
 match i.zero with
 | some z => Qr z vs
 | none => false
def Jx : List V → Option (List Value)
 | [] => some []
 | .lit v :: xs => (Jx xs).map (v :: ·)
 | _ => none
def z8z : EK → V → Option Bool
 | .slice _, .lit (.slice none _ _) => some true
 | .slice _, .sl _ _ _ _ _ => some false
 | .func, .lit .nilFunc => some true
 | .func, .fn _ _ => some false
 | .func, .yl _ => some false
 | .ptr _, .lit (.pointer none) => some true
 | .ptr _, .ptr _ _ => some false
 | .map _ _, .lit (.map none) => some true
 | .map _ _, .mp _ => some false
 | _, _ => none
def zcw (tt : ET) (xt : Nat) (x y : V) : Option Bool :=
 match tt xt with
 | some i =>
  match x, y with
  | .lit (.bool a), .lit (.bool b) => match i.kind with | .bool => some (a == b) | _ => none
  | .agg xs, .agg ys =>
   if i.eqn = true ∧ xs.length = i.size ∧ ys.length = i.size then
    match Jx xs, Jx ys with
    | some vs, some us => if z7V i vs = true then zL vs us else none
    | _, _ => none
   else none
  | x, y =>
   match z8z i.kind x, z8z i.kind y with
   | some true, some b => some b
   | some a, some true => some a
   | _, _ => none
 | none => none
def z8h (tt : ET) (op : BinOp) (xt : Nat) (x y : V) : Option V :=
 match x, y with
 | .lit (.int k a), .lit (.int k' b) =>
  match op with
  | .shl | .shr => (QM op k a b).map .lit
  | op => if k = k' then (z3y op k a b).map .lit else none
 | .lit (.string a), .lit (.string b) =>
  match op with
  | .eql => some (.lit (.bool (a.toList == b.toList)))
  | .neq => some (.lit (.bool (!(a.toList == b.toList))))
  | _ => none
 | x, y =>
  match op with
  | .eql => (zcw tt xt x y).map fun r => .lit (.bool r)
  | .neq => (zcw tt xt x y).map fun r => .lit (.bool (!r))
  | _ => none
def unV (op : UnOp) (x : V) : Option V :=
 match op, x with
 | .not, .lit (.bool b) => some (.lit (.bool (!b)))
 | .neg, .lit (.int k a) => some (.lit (.int k (k.wrap (0 - a))))
 | _, _ => none
def z54 (tt : ET) (s t : Nat) (x : V) : Option V :=
 match tt s, tt t, x with
 | some _, some ⟨.int k, _, _, _, _⟩, .lit (.int _ a) => some (.lit (.int k (k.wrap a)))
 | _, _, _ => none
def lenV (tt : ET) (t : Nat) (x : V) : EM V := do
 let i ← ofO (tt t)
 match i.kind, x with
 | .slice _, .sl _ _ _ n _ => pure (.lit (.int .i64 n))
 | .slice _, .lit (.slice _ n _) => pure (.lit (.int .i64 n))
 | .slice _, .tr (.sl _ _ xs) => pure (.lit (.int .i64 xs.length))
 | .str, .lit (.string s) => pure (.lit (.int .i64 s.size))
 | .map _ _, .lit (.map none) => pure (.lit (.int .i64 0))
 | .map _ _, .mp b => do
  let es ← rdM b
  pure (.lit (.int .i64 es.length))
 | _, _ => efail
def zcy (tt : ET) (t : Nat) (x : V) : Option V :=
 match tt t, x with
 | some ⟨.slice _, _, _, _, _⟩, .sl _ _ _ _ (some c) => some (.lit (.int .i64 c))
 | some ⟨.slice _, _, _, _, _⟩, .lit (.slice _ _ c) => some (.lit (.int .i64 c))
 | some ⟨.slice _, _, _, _, _⟩, .tr (.sl _ true xs) => some (.lit (.int .i64 xs.length))
 | _, _ => none
def lim : Nat := 16777216
def wrNew (n : Nat) (k : Blk) : EM Unit := do
 wrX (.b n) (.k k)
 wrX (.f n) (.m ⟨n + 1, [n]⟩)
def allocV (tt : ET) (n t : Nat) : EM V := do
 let i ← ofO (tt t)
 let z ← ofO i.zero
 wrNew n ⟨z.map .lit, true, n, 0⟩
 pure (.ptr n 0)
def boxV (n : Nat) (x : V) : EM V :=
 if x.cells.all z5O = true then do
  wrNew n ⟨x.cells, true, n, 0⟩
  pure (.ptr n 0)
 else efail
def makeSliceV (tt : ET) (n t : Nat) (l c : Int) : EM V := do
 let (_, i) ← ofO (Yp tt t)
 let z ← ofO i.zero
 if 0 ≤ l ∧ l ≤ c ∧ c ≤ lim ∧ i.bytes ≤ 4096 then do
  wrNew n ⟨(List.replicate c.toNat (z.map V.lit)).flatten, true, n, 0⟩
  pure (.sl n 0 i.size l.toNat (some c.toNat))
 else efail
def JP (place : Nat → Option (Nat × Nat)) (cells : List V) : List (Nat × V) → Option (List V)
 | [] => some cells
 | (i, v) :: rest =>
  match place i with
  | none => none
  | some (off, size) => if v.cells.length ≠ size ∨ off + size > cells.length ∨ v.cells.all z5O = false then none else JP place (Qq cells off v.cells) rest
def parts : List (Nat × Operand) → EM (List (Nat × V))
 | [] => pure []
 | (i, x) :: ps => do
  let a ← opV x
  let r ← parts ps
  pure ((i, a) :: r)
def z0Z (tt : ET) (t : Nat) (ps : List (Nat × V)) : Option V :=
 match tt t with
 | some i =>
  match i.zero with
  | some z =>
   match i.kind with
   | .struct fs => (JP (z4t tt fs) (z.map .lit) ps).map .agg
   | .array _ e =>
    match tt e with
    | some ie => (JP (fun j => some (j * ie.size, ie.size)) (z.map .lit) ps).map .agg
    | none => none
   | _ => none
  | none => none
 | none => none
def buildSliceV (tt : ET) (n t len : Nat) (ps : List (Nat × V)) : EM V := do
 let (_, ie) ← ofO (Yp tt t)
 let z ← ofO ie.zero
 if len * ie.size ≤ lim then do
  let cs ← ofO (JP (fun j => some (j * ie.size, ie.size)) (List.replicate len (z.map V.lit)).flatten ps)
  wrNew n ⟨cs, true, n, 0⟩
  pure (.sl n 0 ie.size len (some len))
 else efail
def elems (z : Nat) (x : V) : EM (Nat × List V) :=
 match x with
 | .lit (.slice none 0 0) => pure (0, [])
 | .sl b o z' m _ => do
  let k ← rdB b
  if z' = z ∧ o + m * z ≤ k.cells.length then pure (m, (k.cells.drop o).take (m * z)) else efail
 | .tr (.sl z' _ xs) => do
  let cs ← ofO (qC xs)
  if z' = z ∧ cs.length = xs.length * z then pure (xs.length, cs) else efail
 | _ => efail
def grow (n : Nat) (z m : Nat) (cs : List V) : EM V := do
 wrNew n ⟨cs, false, n, 0⟩
 pure (.sl n 0 z m none)
def moveV (n o z l m : Nat) (k : Blk) (ys : List V) : EM V := do
 let fl ← (if k.fam ≤ n then rdF k.fam else efail)
 let _ ← (if fl.top ≤ n + 1 then pure () else efail : EM Unit)
 wrX (.b n) (.k ⟨(k.cells.drop o).take (l * z), false, k.fam, k.foff + o⟩)
 wrX (.f k.fam) (.m ⟨n + 1, n :: fl.l⟩)
 touch n k.fam (k.foff + o + l * z) (k.foff + o + l * z + ys.length) fl.l
 wrX (.b n) (.k ⟨(k.cells.drop o).take (l * z) ++ ys, false, k.fam, k.foff + o⟩)
 pure (.sl n 0 z (l + m) none)
def z6X (c : Option Nat) (q : Nat) : Bool := match c with | some r => decide (q ≤ r) | none => true
def JL (c : Option Nat) (q : Nat) : Bool := match c with | some r => decide (r < q) | none => false
def appendSl (n z b o l m : Nat) (c : Option Nat) (ys : List V) : EM V := do
 let k ← rdB b
 if o + (l + m) * z ≤ k.cells.length ∧ z6X c (l + m) = true then do
  putB b (o + l * z) ys
  pure (.sl b o z (l + m) c)
 else if o + l * z ≤ k.cells.length ∧ JL c (l + m) = true then grow n z (l + m) ((k.cells.drop o).take (l * z) ++ ys)
 else if o + l * z ≤ k.cells.length ∧ c = none ∧ k.ex = false then moveV n o z l m k ys
 else efail
def appendV (tt : ET) (n t : Nat) (s x : V) : EM V := do
 let (_, i) ← ofO (Yp tt t)
 if i.bytes ≤ 4096 ∧ 0 < i.size ∧ i.zero.isSome = true then do
  let (m, ys) ← elems i.size x
  match s with
  | .lit (.slice none 0 0) => if m = 0 then pure s else if m ≤ lim then grow n i.size m ys else efail
  | .tr (.sl z true xs) => do
   let cs ← ofO (qC xs)
   if z = i.size ∧ m ≠ 0 ∧ xs.length + m ≤ lim then grow n i.size (xs.length + m) (cs ++ ys) else efail
  | .sl b o z l c => if m = 0 then pure s else if z = i.size ∧ l + m ≤ lim then appendSl n i.size b o l m c ys else efail
  | _ => efail
 else efail
def qE (dflt : Nat) : Option V → Option Nat
 | none => some dflt
 | some (.lit (.int _ n)) => if 0 ≤ n then some n.toNat else none
 | some _ => none
def opO : Option Operand → EM (Option V)
 | none => pure none
 | some x => do
  let a ← opV x
  pure (some a)
def Ke (b o z n : Nat) (c : Option Nat) (lo hi mx : Option V) : Option V :=
 match qE 0 lo, qE n hi, mx with
 | some l, some h, none =>
  if l ≤ h ∧ (h ≤ n ∨ JL c h = false ∧ c ≠ none) then some (.sl b (o + l * z) z (h - l) (c.map (· - l))) else none
 | some l, some h, some m =>
  match qE 0 (some m), hi with
  | some m, some _ => if l ≤ h ∧ h ≤ m ∧ (m ≤ n ∨ JL c m = false ∧ c ≠ none) then some (.sl b (o + l * z) z (h - l) (some (m - l))) else none
  | _, _ => none
 | _, _, _ => none
def UF (lo hi mx : Option V) : Option V :=
 match qE 0 lo, qE 0 hi, mx with
 | some 0, some 0, none => some (.lit (.slice none 0 0))
 | some 0, some 0, some m => match qE 0 (some m), hi with | some 0, some _ => some (.lit (.slice none 0 0)) | _, _ => none
 | _, _, _ => none
def z01 (tt : ET) (t : Nat) (x : V) (lo hi mx : Option V) : Option V :=
 match x with
 | .sl b o z n c => if yX tt t = some z then Ke b o z n c lo hi mx else none
 | .lit (.slice none 0 0) => if (yX tt t).isSome = true then UF lo hi mx else none
 | .ptr b o =>
  match JZ tt t, mx with
  | some (n, _, i), none =>
   match qE 0 lo, qE n hi with
   | some l, some h => if l ≤ h ∧ h ≤ n then some (.sl b (o + l * i.size) i.size (h - l) (some (n - l))) else none
   | _, _ => none
  | _, _ => none
 | _ => none
def z4r (tt : ET) (t : Nat) (xs : List V) (off : Nat) : Option V :=
 match tt t with
 | some i => if off + i.size ≤ xs.length ∧ (i.kind.isAgg = true ∨ i.size = 1) then jL i.kind.isAgg ((xs.drop off).take i.size) else none
 | none => none
def z0O (tt : ET) (t i : Nat) (x : V) : Option V :=
 match tt t, x with
 | some ⟨.struct fs, _, _, _, _⟩, .agg xs =>
  match fs[i]? with
  | some (off, ft) => z4r tt ft xs off
  | none => none
 | _, _ => none
def z0E (tt : ET) (t : Nat) (x : V) (j : Int) : Option V :=
 if 0 ≤ j then
  match x with
  | .agg xs =>
   match JZ tt t with
   | some (n, e, i) => if j.toNat < n then z4r tt e xs (j.toNat * i.size) else none
   | none => none
  | .lit (.string s) =>
   match tt t with
   | some ⟨.str, _, _, _, _⟩ => (s[j.toNat]?).map fun b => .lit (.int .u8 b.toNat)
   | _ => none
  | _ => none
 else none
def XW (x : V) (i : Nat) : Option V :=
 match x with
 | .tup xs => xs[i]?
 | _ => none
def Yz (x : V) : Option V :=
 match x with
 | .ptr b o => some (.ptr b o)
 | .fn f cs => some (.fn f cs)
 | .yl l => some (.yl l)
 | .tr (.sptr y) => some (.tr (.sptr y))
 | _ => none
def zcM (mx : Bool) : V → V → Option V
 | .lit (.int k x), .lit (.int _ y) => some (.lit (.int k (if mx = true then (if y > x then y else x) else (if y < x then y else x))))
 | _, _ => none
def Jt (mx : Bool) : V → List V → Option V
 | x, [] => some x
 | x, y :: ys => (zcM mx x y).bind fun z => Jt mx z ys
def z1i : V → Option Value
 | .lit (.int k n) => some (.int k n)
 | .lit (.bool b) => some (.bool b)
 | .lit (.string s) => some (.string s)
 | .agg xs => (Jx xs).map fun vs => .agg vs.toArray
 | _ => none
def kO : Value → Value → Option Bool
 | .int k a, .int k' b => if k = k' then some (a == b) else none
 | .bool a, .bool b => some (a == b)
 | .string a, .string b => some (a == b)
 | .agg xs, .agg ys => zL xs.toList ys.toList
 | _, _ => none
def XC (k : Value) : List (Value × V) → Nat → Option (Option (Nat × V))
 | [], _ => some none
 | e :: es, i =>
  match kO k e.1 with
  | some true => some (some (i, e.2))
  | some false => XC k es (i + 1)
  | none => none
def JC (tt : ET) (t : Nat) (k : Value) : Bool :=
 match tt t with
 | some i =>
  match i.kind, k with
  | .int _, .int _ _ => true
  | .bool, .bool _ => true
  | .str, .string _ => true
  | .struct _, .agg xs => i.eqn && xs.size == i.size && z7V i xs.toList
  | .array _ _, .agg xs => i.eqn && xs.size == i.size && z7V i xs.toList
  | _, _ => false
 | none => false
def z3E (tt : ET) (t : Nat) : Option V :=
 match tt t with
 | some i => i.zero.bind fun z => jL i.kind.isAgg (z.map .lit)
 | none => none
def entsV : V → EM (List (Value × V))
 | .lit (.map none) => pure []
 | .mp b => rdM b
 | _ => efail
def lookupV (tt : ET) (t : Nat) (x i : V) (ok : Bool) : EM V := do
 let (kt, et) ← ofO (Jv tt t)
 let k ← ofO (z1i i)
 let es ← entsV x
 if JC tt kt k = true then do
  let r ← ofO (XC k es 0)
  match r with
  | some (_, v) => pure (if ok = true then .tup [v, .lit (.bool true)] else v)
  | none => do
   let z ← ofO (z3E tt et)
   pure (if ok = true then .tup [z, .lit (.bool false)] else z)
 else efail
def mapUpdateV (tt : ET) (t : Nat) (x i v : V) : EM Unit := do
 let (kt, _) ← ofO (Jv tt t)
 let k ← ofO (z1i i)
 match x with
 | .mp b => do
  let es ← rdM b
  if JC tt kt k = true then do
   let r ← ofO (XC k es 0)
   match r with
   | some (j, _) => wrX (.b b) (.mp (es.set j (k, v)))
   | none => wrX (.b b) (.mp (es ++ [(k, v)]))
  else efail
 | _ => efail
def makeMapV (n : Nat) : EM V := do
 wrX (.b n) (.mp [])
 pure (.mp n)
end Go.Ex
