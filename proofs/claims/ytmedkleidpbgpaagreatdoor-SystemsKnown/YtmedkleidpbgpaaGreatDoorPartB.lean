/- -/
import Derived.Test.YtmedkleidpbgpaaGreatDoorPartA
import Derived.Deep.LoopGhost
import Derived.Sort.LoopGhostIn
import Derived.RangeFuncLeaves
import Derived.RangeFuncRecord
import Derived.IntWalk
import Derived.RangeFuncCalls
import Derived.RangeFuncWrites
import Derived.OrdersIn
import Derived.TacticsIn
set_option linter.unusedVariables false
set_option linter.unusedSimpArgs false
namespace Go.Own
variable {P : Program}{S : zn}{U : List (Nat × Ent)}{tt : TT}{R : List Nat}{w : World}{o : Oper}{u : Unit}{sz : Nat}{cs : List Value}{p : Option Addr}{t : Nat}{xs : List A}
section
variable {C : Ctx} {S : zn} {Fp : Nat → List Nat} {X : List Nat} {st : St} {a : Act} {w : World}
theorem z0Y : ∀ {xs ys : List A} {cs : List Value}, yw S (xs ++ ys) cs → ∃ c1 c2, cs = c1 ++ c2 ∧ yw S xs c1 ∧ yw S ys c2
 | [], ys, cs, h => ⟨[], cs, rfl, by simp [yw], h⟩
 | x :: xs, ys, cs, h => by
  simp [List.cons_append, yw] at h
  obtain ⟨c1, c2, rfl, h1, h2⟩ := h
  obtain ⟨d1, d2, rfl, e1, e2⟩ := z0Y h2
  refine ⟨c1 ++ d1, d2, by simp, ?_, e2⟩
  simp [yw]
  exact ⟨c1, d1, rfl, h1, e1⟩
theorem z7D {sz : Nat} (h : yw S xs cs) (hs : ∀ x ∈ xs, x.size = sz) {l k : Nat} (hl : l ≤ xs.length) : ∃ ds, yw S ((xs.drop l).take k) ds ∧ ∀ j v, ds[j]? = some v → cs[l * sz + j]? = some v := by
 rw [← List.take_append_drop l xs] at h
 obtain ⟨c1, c2, rfl, h1, h2⟩ := z0Y h
 rw [← List.take_append_drop k (xs.drop l)] at h2
 obtain ⟨d1, d2, rfl, e1, e2⟩ := z0Y h2
 refine ⟨d1, e1, fun j v hj => ?_⟩
 have hc1 : c1.length = l * sz := by rw [h1.len, A.sizes_const (sz := sz) (fun x hx => hs x (List.mem_of_mem_take hx)), List.length_take, Nat.min_eq_left hl]
 rw [← hc1, List.getElem?_append_right (by omega), Nat.add_sub_cancel_left, List.getElem?_append_left (List.getElem?_eq_some_iff.1 hj).1]
 exact hj
def bound (dflt : Nat) : Option Operand → SM Nat
 | none => pure dflt
 | some x => do
  let t ← opnd x
  let v ← val t
  match v with
  | .atom (.int _ j) => if 0 ≤ j then pure j.toNat else zt
  | _ => zt
theorem We (h : Sim C S Fp X st a w) {dflt n : Nat} {x : Option Operand}   (e : bound dflt x st = some (n, R, U)) :
  U = [] ∧ ((x = none ∧ n = dflt) ∨ ∃ o k j, x = some o ∧ a.eval o = .int k j ∧ 0 ≤ j ∧ n = j.toNat) := by
 cases x with
 | none =>
  cases e
  exact ⟨rfl, .inl ⟨rfl, rfl⟩⟩
 | some o =>
  simp [bound] at e
  have ⟨t, _, hx, e1⟩ := bR (zD h) e
  have ⟨v, _, qv, e2⟩ := bR (vO h hx) e1
  cases v with
  | atom vv =>
   cases vv with
   | int k j =>
    simp only at e2
    split at e2
    ·rename_i hj
     cases e2
     exact ⟨rfl, .inr ⟨o, k, j, rfl, (zw.1 qv).1, hj, rfl⟩⟩
    ·cases e2
   | _ => cases e2
  | _ => cases e2
def QP (x : Option Value) (dflt n : Nat) : Prop := (x = none ∧ n = dflt) ∨ ∃ k j, x = some (.int k j) ∧ 0 ≤ j ∧ n = j.toNat
theorem z5f {k : IntKind} {j : Int} {y : Nat} {code : BoundsCode} (h0 : 0 ≤ j) (h1 : j.toNat ≤ y) : (Instr.sliceBound (.int k j) y code).run P w = .ok j.toNat w := by
 have : 0 ≤ j ∧ j ≤ (y : Int) := ⟨h0, by omega⟩
 simp [Instr.sliceBound, asIntOf, this]
theorem Y5 {t e : Nat}   (he : P.underlying t = some (.slice e)) (hsz : (sizeOf e).run P w = .ok sz w) {p : Option Addr} {len c : Nat} {lo hi mx : Option Value} {l h m : Nat}
  (b1 : QP lo 0 l) (b2 : QP hi len h) (b3 : QP mx c m) (h1 : l ≤ h) (h2 : h ≤ m) (h3 : m ≤ c) (hm : mx.isSome = true → hi.isSome = true) :
  (Instr.sliceAt t (.slice p len c) lo hi mx).run P w = .ok (.slice (if m = l then p else p.map (·.add (l * sz))) (h - l) (m - l)) w := by
 have hb : (Instr.sliceBounds true len c lo hi mx).run P w = .ok (l, h, m) w := by
  rcases b1 with ⟨rfl, rfl⟩ | ⟨k1, j1, rfl, p1, rfl⟩ <;> rcases b2 with ⟨rfl, rfl⟩ | ⟨k2, j2, rfl, p2, rfl⟩ <;> rcases b3 with ⟨rfl, rfl⟩ | ⟨k3, j3, rfl, p3, rfl⟩ <;>
   first
    | (simp at hm; done)
    | (simp [Instr.sliceBounds, z5f, *]; done)
 unfold Instr.sliceAt
 simp [Sem.run_bind, run_underlying he, Result.andThen_ok, Instr.slice, hb, hsz]
def sliceO (tt : TT) (n : Fr) (dst : Option Nat) (t : Nat) (x : Operand) (lo hi mx : Option Operand) : SM Unit := do
 let y ← opnd x
 match y with
 | .d (.sl sz tg xs) =>
  if w9 tt t = some sz then do
   let l ← bound 0 lo
   let h ← bound xs.length hi
   match mx with
   | none => if l ≤ h ∧ h ≤ xs.length then wrT n dst (.d (.sl sz (tg && h == xs.length) ((xs.drop l).take (h - l)))) else zt
   | some _ => do
    let m ← bound 0 mx
    if l ≤ h ∧ h ≤ m ∧ m ≤ xs.length ∧ hi.isSome = true then wrT n dst (.d (.sl sz (m == h) ((xs.drop l).take (h - l)))) else zt
  else zt
 | _ => zt
theorem Vh {dflt n : Nat} {x : Option Operand} (h : (x = none ∧ n = dflt) ∨ ∃ o k j, x = some o ∧ a.eval o = .int k j ∧ 0 ≤ j ∧ n = j.toNat) : QP (x.map a.eval) dflt n := by
 rcases h with ⟨rfl, rfl⟩ | ⟨o, k, j, rfl, e, h0, rfl⟩
 ·exact .inl ⟨rfl, rfl⟩
 ·exact .inr ⟨k, j, by simp [e], h0, rfl⟩
theorem z3N {m l h : Nat} {tg' : Bool} (h4 : ∀ x ∈ xs, x.size = sz) (h5 : xs = [] ∨ ∃ b o l, p = some ⟨b, o, none⟩ ∧ yw S xs l ∧ z2Q S b o l) (h1 : l ≤ h) (h2 : h ≤ xs.length) (hm : h ≤ m) (htg : tg' = true → m = h) :
  we S (.sl sz tg' ((xs.drop l).take (h - l))) (.slice (if m = l then p else p.map (·.add (l * sz))) (h - l) (m - l)) := by
 simp only [we]
 have hlen : ((xs.drop l).take (h - l)).length = h - l := by rw [List.length_take, List.length_drop]; omega
 refine ⟨[_], ?_, rfl⟩
 simp only [Rep, hlen]
 refine ⟨_, m - l, rfl, fun q => by rw [htg q], by omega, fun x hx => h4 x (List.mem_of_mem_drop (List.mem_of_mem_take hx)), ?_⟩
 by_cases hz : h = l
 ·left
  apply List.eq_nil_of_length_eq_zero
  rw [hlen]; omega
 ·right
  rcases h5 with rfl | ⟨b, o, L, rfl, r2, r3⟩
  ·simp at h2; omega
  ·have ⟨ds, d1, d2⟩ := z7D (k := h - l) r2 h4 (l := l) (by omega)
   rw [if_neg (by omega)]
   refine ⟨b, o + l * sz, ds, by simp [Addr.add_lit], d1, fun j v hj => ?_⟩
   have := r3 _ v (d2 j v hj)
   rw [← Nat.add_assoc] at this
   exact this
theorem z7m {P : Program}  (hT : wG P tt) (h : Sim C S Fp [] st a w)   {x : Operand} {lo hi mx : Option Operand} (ho : o.op = .slice t x lo hi mx)    (e : sliceO tt C.n o.dst t x lo hi mx st = some (u, R, U)) : qE P C o a w (zl U st) := by
 unfold sliceO at e
 have ⟨y, _, hx, e1⟩ := bR (zD h) e
 cases y with
 | d z =>
  cases z with
  | sl sz tg xs =>
   simp only at e1
   split at e1
   ·rename_i hel
    have ⟨l, _, b1, e2⟩ := bR (We h) e1
    have ⟨hh, _, b2, e3⟩ := bR (We h) e2
    have ⟨el, he, hsz⟩ := vq hT hel w
    have hx' : we S (.sl sz tg xs) (a.eval x) := hx
    simp only [we] at hx'
    have ⟨cs, r1, r2⟩ := hx'
    simp only [Rep] at r1
    obtain ⟨p, c, rfl, r3, r4, r5, r6⟩ := r1
    have ev : a.eval x = .slice p xs.length c := r2
    cases mx with
    | none =>
     simp only at e3
     split at e3
     ·rename_i hc
      have hrun := Y5 (P := P) (w := w) he hsz (p := p) (m := c) (Vh b1) (Vh b2) (.inl ⟨rfl, rfl⟩) hc.1 (by omega) (Nat.le_refl c) (by simp)
      have ⟨Fp', hs⟩ := wJ h e3 (x := .d _) (z3N (m := c) r5 r6 hc.1 hc.2 (by omega) (by
       intro q
       simp only [Bool.and_eq_true, beq_iff_eq] at q
       rw [r3 q.1, q.2]))
      exact zr (by simp [execOp, ho, ev, hrun]) hs
     ·cases e3
    | some mo =>
     have ⟨m, _, b3, e4⟩ := bR (We h) e3
     split at e4
     ·rename_i hc
      have b3' : QP ((some mo).map a.eval) c m := by
       rcases b3 with ⟨q, _⟩ | ⟨o, k, j, q, q2, q3, q4⟩
       ·cases q
       ·cases q; exact .inr ⟨k, j, by simp [q2], q3, q4⟩
      have hrun := Y5 (P := P) (w := w) he hsz (p := p) (Vh b1) (Vh b2) b3' hc.1 hc.2.1 (by omega) (by intro _; simpa using hc.2.2.2)
      have ⟨Fp', hs⟩ := wJ h e4 (x := .d _) (z3N (m := m) r5 r6 hc.1 (by omega) hc.2.1 (by intro q; simpa using q))
      exact zr (by simp only [Option.map_some] at hrun; simp [execOp, ho, ev, hrun]) hs
     ·cases e4
   ·cases e1
  | _ => cases e1
 | _ => cases e1
end
theorem A.looses_eq (as_ : List A) : A.looses as_ = as_.map A.loose := by
 induction as_ with
 | nil => rfl
 | cons a as_ ih => simp [A.looses, ih]
theorem A.looses_length (as_ : List A) : (A.looses as_).length = as_.length := by rw [A.looses_eq, List.length_map]
mutual
theorem A.size_loose : ∀ (a : A), a.loose.size = a.size
 | .agg fs => by simp [A.loose, A.size]; exact A.sizes_looses fs
 | .tup _ => rfl
 | .sl _ _ _ => rfl
 | .osl _ _ _ => rfl
 | .sptr _ => rfl
 | .dop _ => rfl
 | .box _ => rfl
 | .fn _ _ => rfl
 | .atom _ => rfl
 | .dead _ => rfl
 | .opq _ => rfl
theorem A.sizes_looses : ∀ (as_ : List A), A.sizes (A.looses as_) = A.sizes as_
 | [] => rfl
 | a :: as_ => by simp [A.looses, A.sizes, A.size_loose a, A.sizes_looses as_]
end
variable {as_ : List A}
theorem QW (h : ∀ x ∈ as_, x.size = sz) : ∀ x ∈ A.looses as_, x.size = sz := by
 intro x hx
 rw [A.looses_eq, List.mem_map] at hx
 obtain ⟨y, hy, rfl⟩ := hx
 rw [A.size_loose]; exact h y hy
theorem z3d (h : ∀ c ∈ as_, c.size = 1 ∧ ∀ fs, c ≠ .agg fs) : ∀ c ∈ A.looses as_, c.size = 1 ∧ ∀ fs, c ≠ .agg fs := by
 intro x hx
 rw [A.looses_eq, List.mem_map] at hx
 obtain ⟨y, hy, rfl⟩ := hx
 have ⟨h1, h2⟩ := h y hy
 refine ⟨by rw [A.size_loose]; exact h1, ?_⟩
 intro fs he
 cases y <;> simp [A.loose] at he
 exact h2 _ rfl
mutual
theorem Rep.loose : ∀ {a : A} {cs : List Value}, Rep S a cs → Rep S a.loose cs
 | .agg fs, _, r => by simp only [A.loose, Rep] at r ⊢; exact yw.loose r
 | .atom _, _, r => r
 | .fn f caps, _, r => by
  simp only [A.loose, Rep] at r ⊢
  have ⟨vs, r1, r2, r3⟩ := r
  exact ⟨vs, yw.loose r1, z3d r2, r3⟩
 | .sl sz t xs, _, r => by
  simp only [A.loose, Rep] at r ⊢
  have ⟨p, c, r1, _, r3, r4, r5⟩ := r
  refine ⟨p, c, by rw [A.looses_length]; exact r1, by simp, by rw [A.looses_length]; exact r3, QW r4, ?_⟩
  rcases r5 with rfl | ⟨b, o, l, q1, q2, q3⟩
  ·exact .inl rfl
  ·exact .inr ⟨b, o, l, q1, yw.loose q2, q3⟩
 | .sptr x, _, r => by
  simp only [A.loose, Rep] at r ⊢
  have ⟨b, o, l, r1, r2, r3⟩ := r
  exact ⟨b, o, l, r1, Rep.loose r2, r3⟩
 | .dop _, _, r => r
 | .tup _, _, r => by simp only [Rep] at r
 | .osl _ _ _, _, r => by simp only [Rep] at r
 | .box _, _, r => by simp only [Rep] at r
 | .dead _, _, r => by simp only [Rep] at r
 | .opq _, _, r => by simp only [Rep] at r
theorem yw.loose : ∀ {as_ : List A} {cs : List Value}, yw S as_ cs → yw S (A.looses as_) cs
 | [], _, r => r
 | a :: as_, _, r => by
  simp only [A.looses, yw] at r ⊢
  obtain ⟨c1, c2, rfl, r1, r2⟩ := r
  exact ⟨c1, c2, rfl, Rep.loose r1, yw.loose r2⟩
end
variable {h : Array Obj}
mutual
theorem zH.loose : ∀ {a : A} {cs : List Value} {F : List Nat}, zH S h a cs F → zH S h a.loose cs F
 | .osl sz t es, _, _, r => by
  simp only [A.loose, zH] at r ⊢
  have ⟨p, c, r1, _, r3, r4, r5, r6⟩ := r
  refine ⟨p, c, by rw [A.looses_length]; exact r1, by simp, by rw [A.looses_length]; exact r3, r4, QW r5, ?_⟩
  rcases r6 with ⟨rfl, q⟩ | ⟨b, arr, ty, l, F', q1, q2, q3, q4, q5, q6⟩
  ·exact .inl ⟨rfl, q⟩
  ·exact .inr ⟨b, arr, ty, l, F', q1, q2, q3, by rw [A.looses_length]; exact q4, zL.loose q5, q6⟩
 | .box x, _, _, r => by
  simp only [A.loose, zH] at r ⊢
  have ⟨b, ty, l, F', r1, r2, r3, r4⟩ := r
  exact ⟨b, ty, l, F', r1, r2, zH.loose r3, r4⟩
 | .agg fs, _, _, r => by simp only [A.loose, zH] at r ⊢; exact zL.loose r
 | .dead _, _, _, r => r
 | .opq _, _, _, r => r
 | .atom _, _, _, r => r
 | .fn f caps, _, _, r => by
  simp only [zH] at r
  have := Rep.loose r.1
  simp only [A.loose] at this ⊢
  simp only [zH]
  exact ⟨this, r.2⟩
 | .sl sz t xs, _, _, r => by
  simp only [zH] at r
  have := Rep.loose r.1
  simp only [A.loose] at this ⊢
  simp only [zH]
  exact ⟨this, r.2⟩
 | .sptr x, _, _, r => by
  simp only [zH] at r
  have := Rep.loose r.1
  simp only [A.loose] at this ⊢
  simp only [zH]
  exact ⟨this, r.2⟩
 | .dop _, _, _, r => r
 | .tup _, _, _, r => by simp only [zH] at r
theorem zL.loose : ∀ {as_ : List A} {cs : List Value} {F : List Nat}, zL S h as_ cs F → zL S h (A.looses as_) cs F
 | [], _, _, r => r
 | a :: as_, _, _, r => by
  simp only [A.looses, zL] at r ⊢
  have ⟨c1, c2, F1, F2, e1, e2, r1, r2⟩ := r
  exact ⟨c1, c2, F1, F2, e1, e2, zH.loose r1, zL.loose r2⟩
end
theorem JN (a : A) (cs : List Value) : yc a.loose cs = yc a cs := by cases a <;> rfl
variable {v : Value}
theorem u6.loose {a : A}  (h : u6 S a v) : u6 S a.loose v :=
 let ⟨cs, h1, h2⟩ := h; ⟨cs, h1.loose, by rw [JN]; exact h2⟩
theorem we.loose {a : A}  (h : we S a v) : we S a.loose v := by
 cases a with
 | tup fs =>
  simp [A.loose, we] at h ⊢
  obtain ⟨vs, e, h⟩ := h
  refine ⟨vs, e, ?_⟩
  clear e
  induction fs generalizing vs with
  | nil => exact h
  | cons f fs ih =>
   cases vs with
   | nil => exact h.elim
   | cons v vs => exact ⟨h.1.loose, ih vs h.2⟩
 | _ => exact u6.repV (u6.loose (by simpa only [we] using h))
variable {F : List Nat}
theorem Has.loose {a : A}   (q : Has S h a v F) : Has S h a.loose v F := by
 rcases q with ⟨q, rfl⟩ | ⟨cs, q1, q2, q3⟩
 ·exact .inl ⟨q.loose, rfl⟩
 ·exact .inr ⟨cs, q1.loose, q2, by rw [JN]; exact q3⟩
theorem YO.loose : ∀ {as_ : List A} {vs : List Value} {F : List Nat}, YO S h as_ vs F → YO S h (as_.map A.loose) vs F
 | [], [], _, q => q
 | _ :: _, _ :: _, _, q => by
  have ⟨F1, F2, e, q1, q2⟩ := q
  exact ⟨F1, F2, e, q1.loose, q2.loose⟩
 | [], _ :: _, _, q => q.elim
 | _ :: _, [], _, q => q.elim
variable {vs : List Value}
theorem YO.norm {ls : List A}   (ctr : Ctr) (k : Nat) (q : YO S h ls vs F) : YO S h (ctr.norm k ls) vs F := by
 unfold Ctr.norm
 split
 ·exact q
 ·exact q.loose
theorem Has.grow {S S' : zn}  {a : A}   (q : Has S h a v F) (hS : ∀ b o u, S b o = some u → S' b o = some u) (hF : ∀ k ∈ F, ∀ o, S k o = none → S' k o = none) : Has S' h a v F := by
 rcases q with ⟨q, rfl⟩ | ⟨cs, q1, q2, q3⟩
 ·exact .inl ⟨q.mono hS, rfl⟩
 ·exact .inr ⟨cs, q1.frame hS (fun k hk => ⟨rfl, fun o => hF k hk o ((q1.own k hk).2.1 o)⟩), q2, q3⟩
theorem V0 : ∀ {as_ : List A} {vs : List Value}, ZW (u6 S) as_ vs → YO S h as_ vs []
 | [], [], _ => rfl
 | _ :: _, _ :: _, q => ⟨[], [], rfl, .inl ⟨q.1.repV, rfl⟩, V0 q.2⟩
 | [], _ :: _, q => q.elim
 | _ :: _, [], q => q.elim
theorem YO.append : ∀ {as_ : List A} {vs : List Value} {F : List Nat} {bs : List A} {us : List Value}, YO S h as_ vs F → YO S h bs us [] → YO S h (as_ ++ bs) (vs ++ us) F
 | [], [], _, _, _, q, q' => by rw [show _ = [] from q]; exact q'
 | _ :: _, _ :: _, _, _, _, q, q' => by
  have ⟨F1, F2, e, q1, q2⟩ := q
  exact ⟨F1, F2, e, q1, q2.append q'⟩
 | [], _ :: _, _, _, _, q, _ => q.elim
 | _ :: _, [], _, _, _, q, _ => q.elim
section
variable {C : Ctx} {S : zn} {Fp : Nat → List Nat} {st : St} {a : Act} {w : World}
theorem Jy {y : A}     (ho : z6N y = true) (hc : zH S h y cs F) : cs = [yc y cs] := by
 have hl := hc.len
 cases y <;> simp [z6N] at ho
 all_goals
  simp [A.size] at hl
  obtain ⟨u, rfl⟩ := List.length_eq_one_iff.1 hl
  rfl
theorem Vd {y : A} (h : z6N y = true) : y.plain = true := by
 cases y <;> first | rfl | exact h | (simp [z6N] at h)
end
def XJ (P : Program) (k : Nat) (args : List A) (r : A) : Prop :=
 (∃ fn, P.funcs[k]? = some fn ∧ (fn.name == "runtime.NumGoroutine") = false ∧ fn.body.isNone = false) ∧
 ∀ (S : zn) (w : World) (vs : List Value) (F : List Nat), wN S w → YO S w.heap args vs F → F.Nodup → Calls P k vs.toArray w fun e w' =>
  ∃ v S' F', e = .returned v ∧ Xr (fun k => w.heap.size ≤ k ∨ k ∈ F) w w' ∧ (∀ b o u, S b o = some u → S' b o = some u) ∧ (∀ b o, b < w.heap.size → b ∉ F → S' b o = S b o) ∧ wN S' w' ∧ Has S' w'.heap r v F' ∧ F'.Nodup ∧
   ∀ k ∈ F', w.heap.size ≤ k ∨ k ∈ F
def KQ (P : Program) (ext : Fr → Oper → Option (SM Unit)) : Prop :=
 (∀ (C : Ctx) (S : zn) (Fp : Nat → List Nat) (st : St) (a : Act) (w : World) (o : Oper) (m : SM Unit) (u : Unit) (R : List Nat) (U : List (Nat × Ent)), ext C.n o = some m → Sim C S Fp [] st a w → m st = some (u, R, U) → qE P C o a w (zl U st)) ∧
 ∀ (n : Fr) (o : Oper) (m : SM Unit), ext n o = some m → ∀ (st st' : St) (u : Unit) (R : List Nat) (U : List (Nat × Ent)), m st = some (u, R, U) → (∀ k ∈ R, st' k = st k) → m st' = some (u, R, U)
theorem KQ.none (P : Program) : KQ P (fun _ _ => .none) := ⟨fun _ _ _ _ _ _ _ _ _ _ _ h => (by cases h), fun _ _ _ h => (by cases h)⟩
def zO (P : Program) (ctr : Ctr) : Prop := (∀ k args r, ctr.run k args = some r → XJ P k args r) ∧ KQ P ctr.ext
theorem zO.withE {c : Ctr} (h : zO P c) {e : Fr → Oper → Option (SM Unit)} (he : KQ P e) : zO P (c.withE e) := ⟨h.1, he⟩
mutual
theorem A.shut_isD : ∀ {a : A}, a.isD = true → a.shut = a
 | .agg fs, h => by simp [A.isD] at h; simp [A.shut, A.shuts_areD h]
 | .atom _, _ => rfl
 | .fn _ _, _ => rfl
 | .sl _ _ _, _ => rfl
 | .sptr _, _ => rfl
 | .dop _, _ => rfl
 | .tup _, h => by simp [A.isD] at h
 | .osl _ _ _, h => by simp [A.isD] at h
 | .box _, h => by simp [A.isD] at h
 | .dead _, h => by simp [A.isD] at h
 | .opq _, h => by simp [A.isD] at h
theorem A.shuts_areD : ∀ {as_ : List A}, A.areD as_ = true → A.shuts as_ = as_
 | [], _ => rfl
 | a :: as_, h => by
  simp [A.areD, Bool.and_eq_true] at h
  simp [A.shuts, A.shut_isD h.1, A.shuts_areD h.2]
end
theorem Qb (a : A) (cs : List Value) : yc a.shut cs = yc a cs := by
 cases a <;> rfl
variable {Fp : Nat → List Nat}{ctr : Ctr}{a : Act}{k : Nat}{st : St}{fn : Func}{args : Array Operand}{tys : Array TypeId}{f : Operand}
section
variable {C : Ctx} {S : zn} {Fp : Nat → List Nat} {X : List Nat} {st : St} {a : Act} {w : World}
def xQ (S : zn) (h : Array Obj) (F : List Nat) : zn := fun b o => if b ∈ F then yj h b o else S b o
theorem z2g (tt : TT) (t : Nat) (z : A) : Wn tt t z = z ∨ (z = .atom (.slice none 0 0) ∧ ∃ sz, Wn tt t z = .osl sz true []) := by
 unfold Wn
 split
 ·split
  ·split
   ·exact .inr ⟨rfl, _, rfl⟩
   ·exact .inl rfl
  ·exact .inl rfl
 ·exact .inl rfl
theorem WR (h : Sim C S Fp X st a w)  {r : Nat} (hF : ∀ k ∈ F, k ∈ Fp r) :
  (∀ b o u, S b o = some u → xQ S w.heap F b o = some u) ∧ (∀ b o v, xQ S w.heap F b o = some v → yj w.heap b o = some v) ∧ (∀ b o, ¬ C.M b → xQ S w.heap F b o = C.S0 b o) ∧
  (∀ k, k ∉ F → ∀ o, xQ S w.heap F k o = S k o) := by
 refine ⟨?_, ?_, ?_, ?_⟩
 ·intro b o u hs
  unfold xQ
  split
  ·rename_i hb
   rw [(h.free r b (hF b hb)).2.1] at hs
   cases hs
  ·exact hs
 ·intro b o v hs
  unfold xQ at hs
  split at hs
  ·exact hs
  ·exact h.still b o v hs
 ·intro b o hb
  unfold xQ
  split
  ·rename_i hb'
   exact absurd (h.base r b (hF b hb')) hb
  ·exact h.sbase b o hb
 ·intro k hk o
  unfold xQ
  rw [if_neg hk]
theorem V9 (h : Sim C S Fp X st a w)   {x : T}  (hx : TOk S w.heap st (Act.tv a) x v) {y : A}   (e : shutT tt t x st = some (y, R, U)) :
  ∃ S' Fp', Sim C S' Fp' X (zl U st) a w ∧ (∀ b o u, S b o = some u → S' b o = some u) ∧ (∀ k ∈ X, ∀ o, S k o = none → S' k o = none) ∧ u6 S' y v := by
 cases x with
 | d z =>
  by_cases hz : ∃ fs, z = .tup fs
  ·obtain ⟨fs, rfl⟩ := hz
   exact (w7 (st := st) e).elim
  ·have hz' : ∀ fs, z ≠ .tup fs := fun fs he => hz ⟨fs, he⟩
   have e' : (pure (Wn tt t z).shut : SM A) st = some (y, R, U) := by
    cases z <;> first | exact e | exact absurd rfl (hz' _)
   cases e'
   refine ⟨S, Fp, h, fun _ _ _ h => h, fun _ _ _ h => h, ?_⟩
   have hr1 : u6 S z v := by
    have hx' : we S z v := hx
    cases z <;> simp only [we] at hx' <;> first | exact hx' | exact absurd rfl (hz' _)
   rcases z2g tt t z with hn | ⟨rfl, sz, hn⟩
   ·rw [hn]
    have ⟨cs, r, ev⟩ := hr1
    rw [A.shut_isD r.isD]
    exact ⟨cs, r, ev⟩
   ·rw [hn]
    have ev := (uE.1 hr1).1
    subst ev
    exact ⟨[.slice none 0 0], by simp only [A.shut, A.shuts, Rep]; exact ⟨none, 0, rfl, fun _ => rfl, Nat.le_refl _, by simp, .inl trivial⟩, rfl⟩
 | als r p er ec =>
  simp only [shutT] at e
  have ⟨z, _, q, e1⟩ := bR (VM h hx) e
  by_cases hd : z.isD = true
  ·rw [if_pos hd] at e1
   cases e1
   refine ⟨S, Fp, h, fun _ _ _ h => h, fun _ _ _ h => h, ?_⟩
   rcases q with ⟨x, cs, F, _, _, _, _, q5, q6, _⟩ | ⟨_, _, _, _, q5⟩
   ·exact ⟨cs, (q5.isD hd).1, q6⟩
   ·exact q5.rep1 hd
  ·rw [if_neg hd] at e1
   by_cases hl : z.live = true
   ·rw [if_pos hl] at e1
    have ⟨_, e2⟩ := bD e1
    rcases q with ⟨x, cs, F, q1, q2, q3, q4, q5, q6, q7, q8⟩ | ⟨q1, _⟩
    ·simp only [q1] at e2
     have ⟨m1, m2, m3, m4⟩ := WR h q7
     have hrep : Rep (xQ S w.heap F) z.shut cs := q5.shut m1 hl (fun k hk o => by unfold xQ; rw [if_pos hk])
     have hoth : ∀ t k, t ≠ r → k ∈ Fp t → w.heap[k]? = w.heap[k]? ∧ ∀ o, xQ S w.heap F k o = none := by
      intro t k ht hk
      refine ⟨rfl, fun o => ?_⟩
      rw [m4 k (fun hF => ht (h.disj t r k hk (q7 k hF)))]
      exact (h.free t k hk).2.1 o
     have hr := h.ent r
     unfold xV at hr
     simp only [q1] at hr
     by_cases hp : p = []
     ·rw [if_pos hp] at e2
      obtain ⟨u5, R5, U5, R6, U6, h5, h6, rfl, rfl⟩ := bind_some e2
      cases h5
      cases h6
      subst hp
      have hv : v = Act.tv a r := by
       have := hx.2.2
       simp only [q1] at this
       rcases this q2 (.inl trivial) with ⟨_, hv⟩ | ⟨ho, _⟩
       ·exact hv
       ·simp [Vn] at ho
      refine ⟨xQ S w.heap F, Qc Fp r [], ?_, m1, fun k hk o hn => by rw [m4 k (fun hF => h.xd r k hk (q7 k hF))]; exact hn, ⟨cs, hrep, by rw [Qb]; exact q6⟩⟩
      simp only [List.append_nil, zl]
      exact h.change r (.d z.shut) _ _ [] h.below m1 m2 m3 hoth ⟨u6.repV ⟨cs, hrep, by rw [Qb, ← q6, hv]⟩, rfl⟩ (.inl ⟨x, q1⟩) (Nat.le_refl _) (Nat.lt_succ_self _) (by simp) (by simp) h.xn (fun t k _ hk => h.xd t k hk) (by simp) h.xb
     ·rw [if_neg hp] at e2
      obtain ⟨u5, R5, U5, R6, U6, h5, h6, rfl, rfl⟩ := bind_some e2
      cases h5
      cases h6
      have ⟨cs', c1, c2, c3⟩ := hr
      have hx3 := hx.2.2
      simp only [q1] at hx3
      rcases hx3 q2 q3 with ⟨hp', _⟩ | ⟨ho, y', b, o, csa, g1, g2, g3, g4, g5⟩
      ·exact absurd hp' hp
      rw [q4] at g1
      cases g1
      have ⟨b', o', arr, ty, csy, Fy, f1, f2, f3, f4, f5, f6, f7, f8, f9⟩ := Yk p c1 c2 hp (by rintro i q rfl; simp [Vn] at ho) q4
      rw [c3, f1] at g2
      cases g2
      have hcs := Xw f4 f2 f3 g3 g4
      subst hcs
      have ⟨n1, n2, n3, n4⟩ := WR h f7
      have hrep2 : Rep (xQ S w.heap Fy) z.shut csa := f4.shut n1 hl (fun k hk o => by unfold xQ; rw [if_pos hk])
      have ⟨F0', d1, d2, d3⟩ := f9 (xQ S w.heap Fy) w.heap z.shut csa [] n1 rfl (hrep2.conc _) (by simp) (fun k hk hky o => by rw [n4 k hky]; exact (h.free r k hk).2.1 o) (fun _ _ _ _ => rfl) (by rw [Xz f3]; exact f2) (by simp)
      refine ⟨xQ S w.heap Fy, Qc Fp r F0', ?_, n1, fun k hk o hn => by rw [n4 k (fun hF => h.xd r k hk (f7 k hF))]; exact hn, ⟨csa, hrep2, by rw [Qb]; exact g5⟩⟩
      simp only [List.append_nil, zl]
      have hoth2 : ∀ t k, t ≠ r → k ∈ Fp t → w.heap[k]? = w.heap[k]? ∧ ∀ o, xQ S w.heap Fy k o = none := by
       intro t k ht hk
       refine ⟨rfl, fun o => ?_⟩
       rw [n4 k (fun hF => ht (h.disj t r k hk (f7 k hF)))]
       exact (h.free t k hk).2.1 o
      refine h.change r (.own (Ww p x z.shut)) _ _ F0' h.below n1 n2 n3 hoth2 ⟨⟨cs', d1, d2, by rw [z0c ho]; exact c3⟩, x, q1⟩ (.inl ⟨x, q1⟩) (Nat.le_refl _) (Nat.lt_succ_self _) ?_ ?_ h.xn (fun t k _ hk => h.xd t k hk) ?_ h.xb
      ·intro t k ht hk hk'
       rcases (d3 k).1 hk with hk | hk
       ·exact ht (h.disj t r k hk' hk.1)
       ·simp at hk
      ·intro k hk
       rcases (d3 k).1 hk with hk | hk
       ·exact h.base r k hk.1
       ·simp at hk
      ·intro k hk hk'
       rcases (d3 k).1 hk' with hk' | hk'
       ·exact h.xd r k hk hk'.1
       ·simp at hk'
    ·simp only [q1] at e2; cases e2
   ·rw [if_neg hl] at e1; cases e1
 | gone => exact hx.elim
 | own _ => exact hx.elim
 | ptr _ _ _ _ => exact (w7 (st := st) e).elim
theorem wS : ∀ {as_ : List (Operand × Nat)} {S : zn} {Fp : Nat → List Nat} {st : St}, Sim C S Fp X st a w → ∀ {xs : List A} {R : List Nat} {U : List (Nat × Ent)}, shutArgs tt as_ st = some (xs, R, U) →
  ∃ S' Fp', Sim C S' Fp' X (zl U st) a w ∧ (∀ b o u, S b o = some u → S' b o = some u) ∧ (∀ k ∈ X, ∀ o, S k o = none → S' k o = none) ∧ ZW (u6 S') xs (as_.map fun p => a.eval p.1)
 | [], S, Fp, st, h, xs, R, U, e => by
  cases e
  exact ⟨S, Fp, h, fun _ _ _ h => h, fun _ _ _ h => h, trivial⟩
 | (x, t) :: as_, S, Fp, st, h, xs, R, U, e => by
  simp [shutArgs] at e
  have ⟨y, _, hx, e1⟩ := bR (zD h) e
  obtain ⟨z, R3, U3, R4, U4, h3, e2, rfl, rfl⟩ := bind_some e1
  have ⟨S1, Fp1, g1, g2, g4, g3⟩ := V9 h hx h3
  obtain ⟨bs, R5, U5, R6, U6, h5, e3, rfl, rfl⟩ := bind_some e2
  have ⟨S2, Fp2, k1, k2, k4, k3⟩ := wS g1 h5
  cases e3
  refine ⟨S2, Fp2, ?_, fun b o u hs => k2 b o u (g2 b o u hs), fun k hk o hn => k4 k hk o (g4 k hk o hn), g3.mono k2, k3⟩
  rw [List.append_nil, zz]
  exact k1
mutual
theorem Rep.flat {S S' : zn} : ∀ {r : A} {cs : List Value}, r.flat = true → Rep S r cs → Rep S' r cs
 | .atom _, _, _, h => by simpa only [Rep] using h
 | .agg fs, _, f, h => by simp [A.flat] at f; simp [Rep] at h ⊢; exact yw.flat f h
 | .tup _, _, _, h => by simp [Rep] at h
 | .fn _ _, _, f, _ => by simp [A.flat] at f
 | .sl _ _ _, _, f, _ => by simp [A.flat] at f
 | .sptr _, _, f, _ => by simp [A.flat] at f
 | .dop _, _, f, _ => by simp [A.flat] at f
 | .osl _ _ _, _, f, _ => by simp [A.flat] at f
 | .box _, _, f, _ => by simp [A.flat] at f
 | .dead _, _, f, _ => by simp [A.flat] at f
 | .opq _, _, f, _ => by simp [A.flat] at f
theorem yw.flat {S S' : zn} : ∀ {rs : List A} {cs : List Value}, A.flats rs = true → yw S rs cs → yw S' rs cs
 | [], _, _, h => by simpa only [yw] using h
 | r :: rs, _, f, h => by
  simp [A.flats, Bool.and_eq_true] at f
  simp [yw] at h ⊢
  have ⟨c1, c2, e, h1, h2⟩ := h
  exact ⟨c1, c2, e, Rep.flat f.1 h1, yw.flat f.2 h2⟩
end
theorem we.flat {S S' : zn} {r : A}  (f : r.flat = true) (h : we S r v) : we S' r v := by
 have one : ∀ {r : A} {v : Value}, r.flat = true → u6 S r v → u6 S' r v := fun f h => let ⟨cs, h1, h2⟩ := h; ⟨cs, h1.flat f, h2⟩
 cases r with
 | tup fs =>
  simp [we] at h ⊢
  obtain ⟨vs, e, h⟩ := h
  refine ⟨vs, e, ?_⟩
  simp [A.flat] at f
  clear e
  induction fs generalizing vs with
  | nil => cases vs <;> simp_all [ZW]
  | cons x fs ih =>
   cases vs with
   | nil => exact h.elim
   | cons u vs =>
    simp [A.flats, Bool.and_eq_true] at f
    exact ⟨one f.1 h.1, ih f.2 vs h.2⟩
 | _ => simp [we] at h ⊢; exact one f h
theorem K2 {caps : List A} : ∀ {vs : List Value}, yw S caps vs → (∀ c ∈ caps, c.size = 1 ∧ ∀ fs, c ≠ .agg fs) → ZW (u6 S) caps vs := by
 induction caps with
 | nil => intro vs h _; simp [yw] at h; subst h; trivial
 | cons c caps ih =>
  intro vs h hc
  simp [yw] at h
  obtain ⟨c1, c2, rfl, h1, h2⟩ := h
  have ⟨hs, hna⟩ := hc c (by simp)
  have hl : c1.length = 1 := by rw [h1.len, hs]
  obtain ⟨u, rfl⟩ := List.length_eq_one_iff.1 hl
  refine ⟨⟨[u], h1, ?_⟩, ih h2 (fun c hc' => hc c (by simp [hc']))⟩
  cases c <;> first | rfl | exact absurd rfl (hna _)
theorem ZW.append {α β : Type} {R : α → β → Prop} : ∀ {as_ : List α} {bs : List β} {cs : List α} {ds : List β}, ZW R as_ bs → ZW R cs ds → ZW R (as_ ++ cs) (bs ++ ds)
 | [], [], _, _, _, h => h
 | _ :: _, _ :: _, _, _, h, h' => ⟨h.1, h.2.append h'⟩
 | [], _ :: _, _, _, h, _ => h.elim
 | _ :: _, [], _, _, h, _ => h.elim
theorem Ka : ∀ {as_ : List (Bool × Operand × Nat)} {S : zn} {Fp : Nat → List Nat} {X : List Nat} {st : St}, Sim C S Fp X st a w → ∀ {xs : List A} {R : List Nat} {U : List (Nat × Ent)}, passArgs tt as_ st = some (xs, R, U) →
  ∃ S' Fp' G, Sim C S' Fp' (G ++ X) (zl U st) a w ∧ (∀ b o u, S b o = some u → S' b o = some u) ∧ (∀ k ∈ X, ∀ o, S k o = none → S' k o = none) ∧ YO S' w.heap xs (as_.map fun p => a.eval p.2.1) G
 | [], S, Fp, X, st, h, xs, R, U, e => by
  cases e
  exact ⟨S, Fp, [], h, fun _ _ _ h => h, fun _ _ _ h => h, rfl⟩
 | (g, x, t) :: as_, S, Fp, X, st, h, xs, R, U, e => by
  simp [passArgs] at e
  have ⟨y, _, hx, e1⟩ := bR (zD h) e
  obtain ⟨z, R3, U3, R4, U4, h3, e2, rfl, rfl⟩ := bind_some e1
  obtain ⟨bs, R5, U5, R6, U6, h5, e3, rfl, rfl⟩ := bind_some e2
  have one : ∃ S1 Fp1 F, Sim C S1 Fp1 (F ++ X) (zl U3 st) a w ∧ (∀ b o u, S b o = some u → S1 b o = some u) ∧ (∀ k ∈ X, ∀ o, S k o = none → S1 k o = none) ∧ Has S1 w.heap z (a.eval x) F := by
   split at h3
   ·have ⟨Fp1, F, g1, g2⟩ := XM h hx h3
    exact ⟨S, Fp1, F, g1, fun _ _ _ h => h, fun _ _ _ h => h, g2⟩
   ·have ⟨S1, Fp1, g1, g2, g3, g4⟩ := V9 h hx h3
    exact ⟨S1, Fp1, [], g1, g2, g3, .inl ⟨g4.repV, rfl⟩⟩
  have ⟨S1, Fp1, F, g1, g2, g3, g4⟩ := one
  have ⟨S2, Fp2, G, k1, k2, k3, k4⟩ := Ka g1 h5
  cases e3
  refine ⟨S2, Fp2, G ++ F, ?_, fun b o u hs => k2 b o u (g2 b o u hs), fun k hk o hn => k3 k (by simp [hk]) o (g3 k hk o hn), F, G, rfl, g4.grow k2 (fun k hk o hn => k3 k (by simp [hk]) o hn), k4⟩
  rw [List.append_nil, zz, List.append_assoc]
  exact k1
theorem YO.nil : ∀ {as_ : List A} {vs : List Value} {F : List Nat}, YO S h as_ vs F → as_.length = vs.length
 | [], [], _, _ => rfl
 | _ :: _, _ :: _, _, q => by have ⟨F1, F2, e, q1, q2⟩ := q; simp [q2.nil]
 | [], _ :: _, _, q => q.elim
 | _ :: _, [], _, q => q.elim
theorem Sim.called {S S' : zn}    {w w' : World} {F F' : List Nat} (h : Sim C S Fp (F ++ []) st a w) (b1 : Xr (fun k => w.heap.size ≤ k ∨ k ∈ F) w w') (b2 : ∀ b o u, S b o = some u → S' b o = some u)
  (b3 : ∀ b o, b < w.heap.size → b ∉ F → S' b o = S b o) (b4 : wN S' w') (b6 : F'.Nodup) (b7 : ∀ k ∈ F', w.heap.size ≤ k ∨ k ∈ F) : Sim C S' Fp (F' ++ []) st a w' := by
 have hM : ∀ k, (w.heap.size ≤ k ∨ k ∈ F) → C.M k := fun k hk => hk.elim (fun hk => h.mine k (Nat.le_trans h.base_le hk)) (fun hk => h.xb k (by simp [hk]))
 have hno : ∀ t k, k ∈ Fp t → ¬ (w.heap.size ≤ k ∨ k ∈ F) := by
  rintro t k hk (hq | hq)
  ·have := (h.free t k hk).1; omega
  ·exact h.xd t k (by simp [hq]) hk
 refine h.mem (h.below.trans (b1.mono hM)) b2 b4 ?_ ?_ (by simpa using b6) ?_ ?_
 ·intro b o hb
  rcases Nat.lt_or_ge b w.heap.size with hlt | hge
  ·rw [b3 b o hlt (fun hF => hb (hM b (.inr hF)))]
   exact h.sbase b o hb
  ·exact absurd (hM b (.inl hge)) hb
 ·intro t k hk
  refine ⟨b1.block k (hno t k hk), fun o => ?_⟩
  rw [b3 k o (h.free t k hk).1 (fun hF => hno t k hk (.inr hF))]
  exact (h.free t k hk).2.1 o
 ·intro t k hk hkt
  exact hno t k hkt (b7 k (by simpa using hk))
 ·intro k hk
  exact hM k (b7 k (by simpa using hk))
mutual
theorem zH.flatRep : ∀ {r : A} {cs : List Value} {F : List Nat}, r.flat = true → zH S h r cs F → Rep S r cs
 | .atom _, _, _, _, q => by simp only [zH] at q; exact q.1
 | .agg fs, _, _, f, q => by simp only [A.flat] at f; simp only [zH] at q; simp only [Rep]; exact zL.flatReps f q
 | .tup fs, _, _, _, q => by simp only [zH] at q
 | .fn _ _, _, _, f, _ => by simp [A.flat] at f
 | .sl _ _ _, _, _, f, _ => by simp [A.flat] at f
 | .sptr _, _, _, f, _ => by simp [A.flat] at f
 | .dop _, _, _, f, _ => by simp [A.flat] at f
 | .osl _ _ _, _, _, f, _ => by simp [A.flat] at f
 | .box _, _, _, f, _ => by simp [A.flat] at f
 | .dead _, _, _, f, _ => by simp [A.flat] at f
 | .opq _, _, _, f, _ => by simp [A.flat] at f
theorem zL.flatReps : ∀ {rs : List A} {cs : List Value} {F : List Nat}, A.flats rs = true → zL S h rs cs F → yw S rs cs
 | [], _, _, _, q => by simp only [zL] at q; simp only [yw]; exact q.1
 | r :: rs, _, _, f, q => by
  simp only [A.flats, Bool.and_eq_true] at f
  simp only [zL] at q
  have ⟨c1, c2, F1, F2, e1, e2, q1, q2⟩ := q
  simp only [yw]
  exact ⟨c1, c2, e1, zH.flatRep f.1 q1, zL.flatReps f.2 q2⟩
end
def zau (tt : TT) (ctr : Ctr) (n : Fr) (dst : Option Nat) (f : Operand) (as_ : List (Operand × Nat)) : SM Unit := do
 let tf ← opnd f
 let vf ← val tf
 callA tt ctr n dst vf as_
theorem Qh (h1 : P.funcs[k]? = some fn) (h2 : (fn.name == "runtime.NumGoroutine") = false) (h3 : fn.body.isNone = false) (args : Array Value) (w : World) : (callFunc k args).run P w = .ok (.enter k args) w := by
 simp only [callFunc, Sem.run_bind, program, Sem.run, Result.andThen_ok, h1, h2, h3, Bool.false_eq_true, if_false, Sem.run_pure]
theorem zat {P : Program} {tt : TT}  (hC : zO P ctr) (h : Sim C S Fp [] st a w)  {f : Operand} {args : Array Operand} {tys : Array TypeId} (ho : o.op = .call { callee := .value f, args := args, argTypes := tys }) (hsz : args.size = tys.size) {u : Unit} {R : List Nat} {U : List (Nat × Ent)}
  (e : zau tt ctr C.n o.dst f (args.toList.zip tys.toList) st = some (u, R, U)) : qE P C o a w (zl U st) := by
 unfold zau at e
 have ⟨tf, _, hx, e1⟩ := bR (zD h) e
 have ⟨vf, _, qf, e2⟩ := bR (vO h hx) e1
 try simp only [zl, List.nil_append] at e2 ⊢
 cases vf with
 | fn k caps =>
  simp only [callA] at e2
  simp only [we] at qf
  have ⟨cf, q1, q2⟩ := qf
  simp only [Rep] at q1
  obtain ⟨vs, k1, k2, rfl⟩ := q1
  have ef : a.eval f = .func (.func k) #[] vs.toArray := q2
  have hmapargs : (args.toList.zip tys.toList).map (fun p => a.eval p.1) = (args.map a.eval).toList := by
   have : (args.toList.zip tys.toList).map (fun p => a.eval p.1) = ((args.toList.zip tys.toList).map (·.1)).map a.eval := by rw [List.map_map]; rfl
   rw [this, List.map_fst_zip (by simp [hsz])]
   simp
  have hexec : ∀ fn, P.funcs[k]? = some fn → (fn.name == "runtime.NumGoroutine") = false → fn.body.isNone = false → (execOp a.eval o).run P w = .ok (.enter k ((args.map a.eval).toList ++ vs).toArray) w := by
   intro fn c1 c2 c3
   have hc := Qh (P := P) c1 c2 c3 (args.map a.eval ++ vs.toArray) w
   simp only [execOp, ho, resolve, ef, Deferred.ofValue, Sem.run_bind, Sem.run_pure, Result.andThen_ok, invoke, Array.empty_append]
   rw [hc]
   congr 2
   apply Array.ext'
   simp
  split at e2
  ·obtain ⟨xs, R5, U5, R6, U6, h5, e3, rfl, rfl⟩ := bind_some e2
   have hg : ∃ U', shutArgs tt (args.toList.zip tys.toList) st = some (xs, R5, U') ∧ U5 = [] := by
    unfold ghost at h5
    cases hs : shutArgs tt (args.toList.zip tys.toList) st with
    | none => simp [hs] at h5
    | some q =>
     have ⟨q1, q2, q3⟩ := q
     simp only [hs, Option.some.injEq, Prod.mk.injEq] at h5
     obtain ⟨rfl, rfl, rfl⟩ := h5
     exact ⟨q3, rfl, rfl⟩
   obtain ⟨U', hs, rfl⟩ := hg
   try simp only [zl, List.nil_append] at e3 ⊢
   cases hr : ctr.run k (ctr.norm k (xs ++ caps)) with
   | none => simp only [hr] at e3; cases e3
   | some r =>
    simp only [hr] at e3
    have ⟨⟨fn, c1, c2, c3⟩, hcall⟩ := hC.1 k _ r hr
    have ⟨S1, Fp1, g1, g2, _, g3⟩ := wS h hs
    have hcaps := K2 (k1.mono g2) k2
    rw [hmapargs] at g3
    have hC1 := hcall S1 w _ [] g1.still ((V0 (g3.append hcaps)).norm ctr k) (by simp)
    intro rd m K Q hK
    refine ⟨fun _ _ => trivial, ?_⟩
    rw [Xx (hexec fn c1 c2 c3) (by simp), Oper.uponIn_enter]
    refine ⟨fun h => (by cases h), CallsIn.mono (UC hC1 rd (m - 1)) ?_⟩
    rintro en w' ⟨v, S', F', rfl, b1, b2, b3, b4, b5, b6, b7⟩
    show K (a.put o.dst v) w'
    have hold : ∀ k, k < w.heap.size → w'.heap[k]? = w.heap[k]? := fun k hk => b1.block k (by simp; omega)
    by_cases hfl : r.flat = true
    ·rw [if_pos hfl] at e3
     have hm : Sim C S Fp [] st a w' := h.mem (h.below.trans (b1.mono (fun k hk => h.mine k (Nat.le_trans h.base_le (by simpa using hk))))) (fun _ _ _ h => h) (fun b o v hs => by rw [wv (hold b (h.still_lt hs))]; exact h.still b o v hs) h.sbase
      (fun t k hk => ⟨hold k (h.free t k hk).1, (h.free t k hk).2.1⟩) (by simp) (by simp) (by simp)
     have b5' : we S' r v := by
      rcases b5 with ⟨q, _⟩ | ⟨cs, q4, _, q6⟩
      ·exact q
      ·exact u6.repV ⟨cs, q4.flatRep hfl, q6⟩
     have ⟨Fp', hs'⟩ := wJ hm e3 (x := .d r) (b5'.flat hfl)
     exact hK _ _ _ _ hs'
    ·rw [if_neg hfl] at e3
     obtain ⟨ys, R7, U7, R8, U8, h7, e4, rfl, rfl⟩ := bind_some e3
     rw [hs] at h7
     cases h7
     rw [zz] at hK
     have ⟨Fp', hs'⟩ := z0a (Sim.called (F := []) g1 b1 b2 b3 b4 b6 b7) e4 b5
     exact hK _ _ _ _ hs'
  ·split at e2
   ·rename_i hlen
    obtain ⟨xs, R5, U5, R6, U6, h5, e3, rfl, rfl⟩ := bind_some e2
    cases hr : ctr.run k (ctr.norm k (xs ++ caps)) with
    | none => simp only [hr] at e3; cases e3
    | some r =>
     simp only [hr] at e3
     have ⟨⟨fn, c1, c2, c3⟩, hcall⟩ := hC.1 k _ r hr
     have ⟨S1, Fp1, G, g1, g2, _, g3⟩ := Ka h h5
     have hcaps := K2 (k1.mono g2) k2
     have hmap2 : ((ctr.gives k).zip (args.toList.zip tys.toList)).map (fun p => a.eval p.2.1) = (args.map a.eval).toList := by
      have : ((ctr.gives k).zip (args.toList.zip tys.toList)).map (fun p => a.eval p.2.1) = (((ctr.gives k).zip (args.toList.zip tys.toList)).map (·.2)).map (fun p => a.eval p.1) := by rw [List.map_map]; rfl
      rw [this, List.map_snd_zip (by omega), hmapargs]
     rw [hmap2] at g3
     have hGn := g1.xn
     rw [List.append_nil] at hGn
     have hC1 := hcall S1 w _ G g1.still ((g3.append (V0 hcaps)).norm ctr k) hGn
     intro rd m K Q hK
     refine ⟨fun _ _ => trivial, ?_⟩
     rw [Xx (hexec fn c1 c2 c3) (by simp), Oper.uponIn_enter]
     refine ⟨fun h => (by cases h), CallsIn.mono (UC hC1 rd (m - 1)) ?_⟩
     rintro en w' ⟨v, S', F', rfl, b1, b2, b3, b4, b5, b6, b7⟩
     show K (a.put o.dst v) w'
     rw [zz] at hK
     have ⟨Fp', hs'⟩ := z0a (g1.called b1 b2 b3 b4 b6 b7) e3 b5
     exact hK _ _ _ _ hs'
   ·cases e2
 | _ => exact (w7 (st := st) e2).elim
def z3a : A → Bool
 | .atom _ | .sptr _ | .dop _ | .sl _ _ _ | .fn _ _ => true
 | _ => false
def Kg (tt : TT) (n : Fr) (dst : Option Nat) (f : Nat) (caps : List Operand) : SM Unit := do
 let xs ← shutArgs tt (caps.map fun x => (x, 0))
 if xs.all z3a = true then wrT n dst (.d (.fn f xs)) else zt
theorem z2N : ∀ {xs : List A} {vs : List Value}, ZW (u6 S) xs vs → (∀ c ∈ xs, c.size = 1 ∧ ∀ fs, c ≠ .agg fs) → yw S xs vs
 | [], [], _, _ => by simp [yw]
 | x :: xs, v :: vs, h, hc => by
  have ⟨⟨cs, h1, h2⟩, h3⟩ := h
  have ⟨hs, hna⟩ := hc x (by simp)
  have hl : cs.length = 1 := by rw [h1.len, hs]
  obtain ⟨u, rfl⟩ := List.length_eq_one_iff.1 hl
  have hv : v = u := by rw [h2]; cases x <;> first | rfl | exact absurd rfl (hna _)
  subst hv
  simp [yw]
  exact ⟨[v], vs, rfl, h1, z2N h3 (fun c hc' => hc c (by simp [hc']))⟩
 | [], _ :: _, h, _ => h.elim
 | _ :: _, [], h, _ => h.elim
theorem z3c (h : Sim C S Fp [] st a w)  {f : Nat} {caps : Array Operand} (ho : o.op = .makeFunc (.func f) #[] caps)    (e : Kg tt C.n o.dst f caps.toList st = some (u, R, U)) : qE P C o a w (zl U st) := by
 unfold Kg at e
 obtain ⟨xs, R1, U1, R2, U2, h1, e1, rfl, rfl⟩ := bind_some e
 have ⟨S1, Fp1, g1, g2, _, g3⟩ := wS h h1
 rw [zz]
 split at e1
 ·rename_i hall
  have hc : ∀ c ∈ xs, c.size = 1 ∧ ∀ fs, c ≠ .agg fs := by
   intro c hc
   have := List.all_eq_true.1 hall c hc
   cases c <;> simp_all [z3a, A.size]
  have hmap : (caps.toList.map fun x => (x, 0)).map (fun p => a.eval p.1) = (caps.map a.eval).toList := by simp [List.map_map, Function.comp_def]
  rw [hmap] at g3
  have ⟨Fp', hs⟩ := wJ g1 e1 (x := .d (.fn f xs)) (v := .func (.func f) #[] (caps.map a.eval)) (by
   simp [TOk, we]
   refine ⟨[.func (.func f) #[] (caps.map a.eval)], ?_, rfl⟩
   simp [Rep]
   exact ⟨(caps.map a.eval).toList, z2N g3 hc, hc, by rw [Array.toArray_toList]⟩)
  exact zr (by simp [execOp, ho, Instr.makeFunc]) hs
 ·cases e1
end
def stepO (tt : TT) (ctr : Ctr) (n : Fr) (o : Oper) : SM Unit :=
 match o.op with
 | .move x => zac n o.dst x
 | .assign x => z1n tt n o.dst o.type x
 | .binOp op xt x y _ => z6u tt n o.dst op xt x y
 | .unOp op _ x => z9c n o.dst op x
 | .convert s t x => z87 tt n o.dst s t x
 | .pick c x y => z5z n o.dst c x y
 | .extract x i => JD n o.dst x i
 | .nilCheck x => nilCheckO n o.dst x
 | .slice t x lo hi mx => sliceO tt n o.dst t x lo hi mx
 | .load t x => zae tt n o.dst t x
 | .store t x v => z4U tt o.dst t x v
 | .fieldAddr t x i => Qs tt n o.dst t i x
 | .indexAddr t x i => Qq tt n o.dst t x i
 | .alloc t => z6F tt n o.dst t
 | .box t x => zcq tt n o.dst t x
 | .makeSlice t l c => XC tt n o.dst t l c
 | .buildSlice t len ps => Zd tt n o.dst t len ps.toList
 | .build t ps => z0y tt n o.dst t ps.toList
 | .makeFunc (.func f) ⟨[]⟩ caps => Kg tt n o.dst f caps.toList
 | .call ⟨.builtin .len, ⟨[x]⟩, ⟨[t]⟩⟩ => zcT tt n o.dst t x
 | .call ⟨.builtin .cap, ⟨[x]⟩, ⟨[t]⟩⟩ => zdb tt n o.dst t x
 | .call ⟨.builtin .append, ⟨[s, x]⟩, ⟨[t, t']⟩⟩ => if t = t' then z1r tt n o.dst t s x else zt
 | .call ⟨.value f, args, tys⟩ => if args.size = tys.size then zau tt ctr n o.dst f (args.toList.zip tys.toList) else zt
 | _ => zt
variable {ops : Array Oper}{α : Type}{rd : Option Nat}{m : Nat}
section
variable {C : Ctx} {S : zn} {Fp : Nat → List Nat} {X : List Nat} {st : St} {a : Act} {w : World}
theorem z0P (hT : wG P tt) (hC : zO P ctr) (h : Sim C S Fp [] st a w)     (e : stepO tt ctr C.n o st = some (u, R, U)) : qE P C o a w (zl U st) := by
 unfold stepO at e
 cases ho : o.op with
 | move x => simp [ho] at e; exact zab h ho e
 | assign x => simp [ho] at e; exact z6y h ho e
 | binOp op xt x y yt => simp [ho] at e; exact z8o hT h ho e
 | unOp op xt x => simp [ho] at e; exact z9b h ho e
 | convert s t x => simp [ho] at e; exact zar hT h ho e
 | pick c x y => simp [ho] at e; exact za8 h ho e
 | extract x i => simp [ho] at e; exact z4E h ho e
 | nilCheck x => simp [ho] at e; exact z3b h ho e
 | slice t x lo hi mx => simp [ho] at e; exact z7m hT h ho e
 | load t x => simp [ho] at e; exact zad hT h ho e
 | store t x v => simp [ho] at e; exact z7g hT h ho e
 | fieldAddr t x i => simp [ho] at e; exact z2F hT h ho e
 | indexAddr t x i => simp [ho] at e; exact z2s hT h ho e
 | alloc t => simp [ho] at e; exact z8w hT h ho e
 | box t x => simp [ho] at e; exact zc2 h ho e
 | makeSlice t l c => simp [ho] at e; exact z2i hT h ho e
 | buildSlice t len ps => simp [ho] at e; exact z1f hT h ho e
 | build t ps => simp [ho] at e; exact z8m hT h ho e
 | makeFunc fn first caps =>
  cases fn with
  | func f =>
   have ⟨l⟩ := first
   cases l with
   | nil => simp [ho] at e; exact z3c h ho e
   | cons _ _ => simp [ho] at e; cases e
  | _ => simp [ho] at e; cases e
 | call c =>
  have ⟨callee, ⟨args⟩, ⟨tys⟩⟩ := c
  cases callee with
  | value f =>
   simp [ho] at e
   split at e
   ·rename_i hsz; exact zat hC h ho hsz e
   ·cases e
  | invoke r m => simp [ho] at e; cases e
  | builtin b =>
   cases b with
   | len =>
    rcases args with _ | ⟨x, _ | ⟨y, l⟩⟩ <;> rcases tys with _ | ⟨t, _ | ⟨t', l'⟩⟩ <;> simp [ho] at e <;> first | cases e | exact zbL hT h ho e
   | cap =>
    rcases args with _ | ⟨x, _ | ⟨y, l⟩⟩ <;> rcases tys with _ | ⟨t, _ | ⟨t', l'⟩⟩ <;> simp [ho] at e <;> first | cases e | exact zbZ hT h ho e
   | append =>
    rcases args with _ | ⟨x, _ | ⟨y, _ | ⟨z, l⟩⟩⟩ <;> rcases tys with _ | ⟨t, _ | ⟨t', _ | ⟨t'', l'⟩⟩⟩ <;> simp [ho] at e <;> first | cases e | skip
    split at e
    ·rename_i ht; subst ht; exact z6C hT h ho e
    ·cases e
   | _ => simp [ho] at e; cases e
 | _ => simp [ho] at e; cases e
def stepX (tt : TT) (ctr : Ctr) (n : Fr) (o : Oper) : SM Unit :=
 match ctr.ext n o with
 | some m => m
 | none => stepO tt ctr n o
theorem z3y (hT : wG P tt) (hC : zO P ctr) (h : Sim C S Fp [] st a w)     (e : stepX tt ctr C.n o st = some (u, R, U)) : qE P C o a w (zl U st) := by
 unfold stepX at e
 cases hm : ctr.ext C.n o with
 | some m =>
  simp [hm] at e
  exact hC.2.1 _ _ _ _ _ _ _ _ _ _ _ hm h e
 | none =>
  simp [hm] at e
  exact z0P hT hC h e
def stepG (tt : TT) (ctr : Ctr) (n : Fr) (ops : Array Oper) (o : Oper) : SM Unit :=
 match o.guard with
 | none => stepX tt ctr n o
 | some (j, want) =>
  match (ops[j]?).bind (·.dst) with
  | some g => do
   let e ← rdE g
   match e.t with
   | .d (.atom (.bool b)) => if b = want then stepX tt ctr n o else wrT n o.dst (.d (.tup []))
   | .d (.tup []) => wrT n o.dst (.d (.tup []))
   | _ => zt
  | none => zt
def zdm (P : Program) (C : Ctx) (ops : Array Oper) (o : Oper) (a : Act) (w : World) (st' : St) : Prop :=
 ∀ (r : Option Nat) (m : Nat) (K : Act → World → Prop) (Q : Exit → Act → World → Prop), (∀ S Fp a' w', Sim C S Fp [] st' a' w' → K a' w') →
  if Region.wanted o (yielded ops a.tmps) then o.wpIn (fen r) m P a w K Q else (∀ f, o.about P w a.eval = some f → (fen r).fn f) ∧ K (a.put o.dst undef) w
theorem z26 (h : Sim C S Fp [] st a w) {dst : Option Nat}    (e : wrT C.n dst (.d (.tup [])) st = some (u, R, U)) : ∃ Fp', Sim C S Fp' [] (zl U st) (a.put dst undef) w := by
 rcases z0F e with ⟨rfl, rfl⟩ | ⟨k, rfl, hk, rfl⟩
 ·exact ⟨Fp, h⟩
 ·exact ⟨_, h.put hk (.d (.tup [])) [] undef (by simp [xV, and_true]; exact ⟨[], rfl, trivial⟩) (by simp) (by simp) (by simp) (by simp) (by simp) (by simp)⟩
theorem z3A (hT : wG P tt) (hC : zO P ctr) (h : Sim C S Fp [] st a w)      (e : stepG tt ctr C.n ops o st = some (u, R, U)) : zdm P C ops o a w (zl U st) := by
 unfold stepG at e
 cases hg : o.guard with
 | none =>
  simp only [hg] at e
  intro rd m K Q hK
  simp only [Region.wanted, hg, if_true]
  exact z3y hT hC h e rd m K Q hK
 | some q =>
  have ⟨j, want⟩ := q
  simp only [hg] at e
  cases hd : (ops[j]?).bind (·.dst) with
  | none => simp only [hd] at e; cases e
  | some g =>
   simp only [hd] at e
   have ⟨_, e1⟩ := bD e
   have hent := h.ent g
   unfold xV at hent
   cases ht : (st g).t with
   | d y =>
    simp only [ht] at e1 hent
    cases y with
    | atom vv =>
     cases vv with
     | bool b =>
      simp only at e1
      have hv := (zw.1 hent.1).1
      have hy : yielded ops a.tmps j = some b := by
       unfold yielded
       rw [hd]
       simp only [Option.bind_some]
       have : a.tmps[g]? = some (.bool b) := by
        unfold Act.tv at hv
        rw [Array.getD_eq_getD_getElem?] at hv
        cases hx : a.tmps[g]? with
        | none => rw [hx] at hv; simp [undef] at hv
        | some u => rw [hx] at hv; simp at hv; rw [hv]
       rw [this]
      intro rd m K Q hK
      simp only [Region.wanted, hg, hy]
      by_cases hb : b = want
      ·rw [if_pos hb] at e1
       rw [if_pos (by simp [hb])]
       exact z3y hT hC h e1 rd m K Q hK
      ·rw [if_neg hb] at e1
       rw [if_neg (by simpa using hb)]
       have ⟨Fp', hs⟩ := z26 h e1
       exact ⟨fun _ _ => trivial, hK _ _ _ _ hs⟩
     | _ => cases e1
    | tup fs =>
     cases fs with
     | nil =>
      simp only at e1
      have ⟨vs, hv, hvs⟩ := hent.1
      have hvs0 : vs = [] := by cases vs <;> first | rfl | exact hvs.elim
      subst hvs0
      have hy : yielded ops a.tmps j = none := by
       unfold yielded
       rw [hd]
       simp only [Option.bind_some]
       unfold Act.tv at hv
       rw [Array.getD_eq_getD_getElem?] at hv
       cases hx : a.tmps[g]? with
       | none => rfl
       | some u => rw [hx] at hv; simp at hv; rw [hv]
      intro rd m K Q hK
      simp only [Region.wanted, hg, hy]
      rw [if_neg (by simp)]
      have ⟨Fp', hs⟩ := z26 h e1
      exact ⟨fun _ _ => trivial, hK _ _ _ _ hs⟩
     | cons _ _ => cases e1
    | _ => cases e1
   | _ => simp only [ht] at e1; cases e1
def zaI (tt : TT) (ctr : Ctr) (n : Fr) (ops : Array Oper) : List Oper → St → Option St
 | [], st => some st
 | o :: os, st =>
  match stepG tt ctr n ops o st with
  | some (_, _, U) => zaI tt ctr n ops os (zl U st)
  | none => none
theorem z5g {rd : Option Nat} {m : Nat}    (hT : wG P tt) (hC : zO P ctr)  {Q : Exit → Act → World → Prop} : ∀ (l : List Oper) {st st' : St} {S : zn} {Fp : Nat → List Nat} {a : Act} {w : World}, Sim C S Fp [] st a w → zaI tt ctr C.n ops l st = some st' →
  (∀ S Fp a' w', Sim C S Fp [] st' a' w' → Q .normal a' w') → wpListIn (fen rd) m P ops Q l a w
 | [], st, st', S, Fp, a, w, h, e, hQ => by
  simp [zaI, Option.some.injEq] at e
  subst e
  exact hQ _ _ _ _ h
 | o :: os, st, st', S, Fp, a, w, h, e, hQ => by
  simp [zaI] at e
  cases hs : stepG tt ctr C.n ops o st with
  | none => simp [hs] at e
  | some q =>
   have ⟨u, R, U⟩ := q
   simp [hs] at e
   refine wpListIn_step fun K hK => ?_
   exact z3A hT hC h hs rd m K Q fun S' Fp' a' w' h' => hK _ _ (z5g hT hC os h' e hQ)
def Loc (m : SM α) : Prop := ∀ st st' a R U, m st = some (a, R, U) → (∀ k ∈ R, st' k = st k) → m st' = some (a, R, U)
theorem Jc (us : List (Nat × Ent)) {st st' : St}  (h : st' k = st k) : zl us st' k = zl us st k := by
 induction us generalizing st st' with
 | nil => exact h
 | cons u us ih =>
  simp [zl]
  refine ih ?_
  unfold upd
  split
  ·rfl
  ·exact h
theorem Loc.bind {α β : Type} {m : SM α} {f : α → SM β} (h1 : Loc m) (h2 : ∀ a, Loc (f a)) : Loc (m >>= f) := by
 intro st st' b R U e hR
 obtain ⟨a, R1, U1, R2, U2, q1, q2, rfl, rfl⟩ := bind_some e
 have k1 := h1 st st' a R1 U1 q1 (fun k hk => hR k (by simp [hk]))
 have k2 := h2 a _ (zl U1 st') b R2 U2 q2 (fun k hk => Jc U1 (hR k (by simp [hk])))
 show SM.bind m f st' = _
 unfold SM.bind
 rw [k1]
 simp [k2]
theorem Loc.pure (a : α) : Loc (Pure.pure a : SM α) := by
 intro st st' b R U e _
 cases e
 rfl
theorem Loc.fail : Loc (zt : SM α) := by
 intro st st' b R U e _
 cases e
theorem Loc.rdE (k : Nat) : Loc (rdE k) := by
 intro st st' b R U e h
 obtain ⟨rfl, rfl, rfl⟩ := qJ e
 simp [Go.Own.rdE, h k (by simp)]
theorem Loc.wrE (k : Nat) (x : Ent) : Loc (wrE k x) := by
 intro st st' b R U e _
 cases e
 rfl
theorem Loc.ofO (x : Option α) : Loc (ofO x) := by
 intro st st' b R U e _
 obtain ⟨h, rfl, rfl⟩ := W1 e
 simp [Go.Own.ofO, h]
theorem Loc.ghost {m : SM α} (h : Loc m) : Loc (ghost m) := by
 intro st st' b R U e hR
 unfold Go.Own.ghost at e ⊢
 cases hs : m st with
 | none => simp [hs] at e
 | some q =>
  have ⟨q1, q2, q3⟩ := q
  simp [hs, Option.some.injEq, Prod.mk.injEq] at e
  obtain ⟨rfl, rfl, rfl⟩ := e
  rw [h st st' _ _ _ hs hR]
end
theorem Loc.opnd (x : Operand) : Loc (opnd x) := by
 cases x <;> simp [Go.Own.opnd]
 ·refine Loc.bind (Loc.rdE _) fun e => ?_
  split <;> first | exact Loc.pure _ | exact Loc.fail
 ·split <;> first | exact Loc.pure _ | exact Loc.fail
 ·first | exact Loc.fail | (split <;> first | exact Loc.pure _ | exact Loc.fail)
 ·exact Loc.pure _
theorem Loc.look (r : Nat) (p : List ZI) (er ec : Nat) : Loc (look r p er ec) := by
 unfold Go.Own.look
 refine Loc.bind (Loc.rdE _) fun e => ?_
 split
 ·split <;> first | exact Loc.ofO _ | exact Loc.fail
 ·split <;> first | exact Loc.pure _ | exact Loc.fail
 ·exact Loc.fail
theorem Loc.lookP (r : Nat) (p : List ZI) (er ec : Nat) : Loc (lookP r p er ec) := by
 unfold Go.Own.lookP
 refine Loc.bind (Loc.rdE _) fun e => ?_
 split
 ·split <;> first | exact Loc.ofO _ | exact Loc.fail
 ·exact Loc.fail
theorem Loc.val (x : T) : Loc (val x) := by
 unfold Go.Own.val
 split
 ·exact Loc.pure _
 ·refine Loc.bind (Loc.look _ _ _ _) fun y => ?_
  split <;> first | exact Loc.pure _ | exact Loc.fail
 ·exact Loc.fail
theorem Loc.take (x : T) : Loc (take x) := by
 unfold Go.Own.take
 split
 ·exact Loc.pure _
 ·refine Loc.bind (Loc.look _ _ _ _) fun y => ?_
  split
  ·exact Loc.pure _
  ·split
   ·refine Loc.bind (Loc.rdE _) fun e => ?_
    split
    ·split
     ·exact Loc.bind (Loc.wrE _ _) fun _ => Loc.pure _
     ·exact Loc.bind (Loc.wrE _ _) fun _ => Loc.pure _
    ·exact Loc.fail
   ·exact Loc.fail
 ·exact Loc.fail
theorem Loc.takeC (tt : TT) (t : Nat) (x : T) : Loc (takeC tt t x) := Loc.bind (Loc.take x) fun _ => Loc.pure _
theorem Loc.wrT (n : Fr) (dst : Option Nat) (x : T) : Loc (wrT n dst x) := by
 unfold Go.Own.wrT
 split
 ·exact Loc.pure _
 ·split
  ·exact Loc.bind (Loc.rdE _) fun _ => Loc.wrE _ _
  ·exact Loc.fail
theorem Loc.ptrOf (x : T) : Loc (ptrOf x) := by
 unfold Go.Own.ptrOf
 split
 ·exact Loc.pure _
 ·exact Loc.pure _
 ·refine Loc.bind (Loc.rdE _) fun e => Loc.bind (Loc.look _ _ _ _) fun y => ?_
  split <;> first | exact Loc.pure _ | exact Loc.fail
 ·exact Loc.fail
theorem Loc.peek (x : T) : Loc (peek x) := by
 unfold Go.Own.peek
 split
 ·exact Loc.pure _
 ·exact Loc.look _ _ _ _
 ·exact Loc.fail
theorem Loc.shutT (tt : TT) (t : Nat) (x : T) : Loc (shutT tt t x) := by
 unfold Go.Own.shutT
 split
 ·exact Loc.fail
 ·exact Loc.pure _
 ·refine Loc.bind (Loc.look _ _ _ _) fun y => ?_
  split
  ·exact Loc.pure _
  ·split
   ·refine Loc.bind (Loc.rdE _) fun e => ?_
    split
    ·split
     ·exact Loc.bind (Loc.wrE _ _) fun _ => Loc.pure _
     ·exact Loc.bind (Loc.wrE _ _) fun _ => Loc.pure _
    ·exact Loc.fail
   ·exact Loc.fail
 ·exact Loc.fail
theorem Loc.shutArgs (tt : TT) : ∀ as_, Loc (shutArgs tt as_)
 | [] => Loc.pure _
 | (x, t) :: as_ => Loc.bind (Loc.opnd x) fun _ => Loc.bind (Loc.shutT tt t _) fun _ => Loc.bind (Loc.shutArgs tt as_) fun _ => Loc.pure _
theorem Loc.takes (tt : TT) : ∀ ps, Loc (takes ps tt)
 | [] => Loc.pure _
 | (x, t) :: ps => Loc.bind (Loc.opnd x) fun _ => Loc.bind (Loc.takeC tt t _) fun _ => Loc.bind (Loc.takes tt ps) fun _ => Loc.pure _
theorem Loc.ite {c : Prop} [Decidable c] {x y : SM α} (h1 : Loc x) (h2 : Loc y) : Loc (if c then x else y) := by split <;> assumption
theorem Loc.loadA (tt : TT) (n : Fr) (dst : Option Nat) (t : Nat) (x : T) : Loc (loadA tt n dst t x) := by
 unfold Go.Own.loadA
 refine Loc.bind (Loc.ptrOf x) fun q => ?_
 split
 ·exact Loc.ite (Loc.wrT _ _ _) Loc.fail
 ·exact Loc.bind (Loc.lookP _ _ _ _) fun y => Loc.ite (Loc.ite (Loc.wrT _ _ _) (Loc.wrT _ _ _)) Loc.fail
theorem Loc.storeA (tt : TT) (t : Nat) (x v : T) : Loc (storeA tt t x v) := by
 unfold Go.Own.storeA
 refine Loc.bind (Loc.ptrOf x) fun q => ?_
 split
 ·exact Loc.fail
 ·refine Loc.bind (Loc.takeC _ _ _) fun y => Loc.bind (Loc.rdE _) fun e => ?_
  split
  ·refine Loc.ite ?_ Loc.fail
   split
   ·exact Loc.ite (Loc.wrE _ _) Loc.fail
   ·exact Loc.fail
  ·exact Loc.fail
theorem Loc.fieldAddrA (tt : TT) (n : Fr) (dst : Option Nat) (t i : Nat) (x : T) : Loc (fieldAddrA tt n dst t i x) := by
 unfold Go.Own.fieldAddrA
 refine Loc.bind (Loc.ptrOf x) fun q => ?_
 split
 ·split
  ·exact Loc.ite (Loc.wrT _ _ _) Loc.fail
  ·exact Loc.fail
 ·exact Loc.fail
 ·refine Loc.bind (Loc.lookP _ _ _ _) fun y => ?_
  split
  ·exact Loc.ite (Loc.wrT _ _ _) Loc.fail
  ·exact Loc.fail
theorem Loc.indexAddrA (tt : TT) (n : Fr) (dst : Option Nat) (t : Nat) (x : T) (i : A) : Loc (indexAddrA tt n dst t x i) := by
 unfold Go.Own.indexAddrA
 split
 ·split
  ·refine Loc.ite ?_ Loc.fail
   split
   ·exact Loc.wrT _ _ _
   ·exact Loc.fail
  ·refine Loc.bind (Loc.rdE _) fun e => Loc.bind (Loc.look _ _ _ _) fun y => ?_
   split
   ·exact Loc.ite (Loc.wrT _ _ _) Loc.fail
   ·refine Loc.ite ?_ Loc.fail
    split
    ·exact Loc.wrT _ _ _
    ·exact Loc.fail
   ·exact Loc.fail
  ·exact Loc.fail
 ·exact Loc.fail
theorem Loc.indexArrA (tt : TT) (n : Fr) (dst : Option Nat) (t : Nat) (x : T) (i : A) : Loc (indexArrA tt n dst t x i) := by
 unfold Go.Own.indexArrA
 split
 ·refine Loc.bind (Loc.ptrOf x) fun q => ?_
  split
  ·split
   ·exact Loc.ite (Loc.wrT _ _ _) Loc.fail
   ·exact Loc.fail
  ·exact Loc.fail
  ·refine Loc.bind (Loc.lookP _ _ _ _) fun y => ?_
   split
   ·exact Loc.ite (Loc.wrT _ _ _) Loc.fail
   ·exact Loc.fail
 ·exact Loc.fail
theorem Loc.appendA (tt : TT) (n : Fr) (dst : Option Nat) (t : Nat) (s x : T) : Loc (appendA tt n dst t s x) := by
  unfold Go.Own.appendA
  split
  · split
    · refine Loc.bind (Loc.peek _) fun y => ?_
      split
      all_goals first
        | exact Loc.fail
        | (refine Loc.ite (Loc.bind (Loc.takeC _ _ _) fun z => ?_) Loc.fail
           split
           · exact Loc.ite (Loc.wrT _ _ _) Loc.fail
           · exact Loc.ite (Loc.wrT _ _ _) Loc.fail
           · exact Loc.fail)
    · exact Loc.fail
  · exact Loc.fail
theorem Loc.appendOwnA (tt : TT) (n : Fr) (dst : Option Nat) (t : Nat) (s x : Operand) : Loc (appendOwnA tt n dst t s x) := by
 unfold Go.Own.appendOwnA
 split
 ·split
  ·refine Loc.ite ?_ Loc.fail
   refine Loc.bind (Loc.opnd _) fun _ => Loc.bind (Loc.take _) fun y => Loc.bind (Loc.opnd _) fun _ => Loc.bind (Loc.takeC _ _ _) fun z => ?_
   split
   ·exact Loc.ite (Loc.wrT _ _ _) Loc.fail
   ·exact Loc.fail
  ·exact Loc.fail
 ·exact Loc.fail
theorem Loc.passArgs (tt : TT) : ∀ (as_ : List (Bool × Operand × Nat)), Loc (passArgs tt as_)
 | [] => Loc.pure _
 | (g, x, t) :: as_ => Loc.bind (Loc.opnd x) fun y => Loc.bind (Loc.ite (Loc.takeC tt t y) (Loc.shutT tt t y)) fun _ => Loc.bind (Loc.passArgs tt as_) fun _ => Loc.pure _
theorem Loc.callA (tt : TT) (ctr : Ctr) (n : Fr) (dst : Option Nat) (f : A) (as_ : List (Operand × Nat)) : Loc (callA tt ctr n dst f as_) := by
 unfold Go.Own.callA
 split
 ·refine Loc.ite (Loc.bind (Loc.shutArgs tt as_).ghost fun xs => ?_) (Loc.ite (Loc.bind (Loc.passArgs tt _) fun xs => ?_) Loc.fail)
  ·split
   ·exact Loc.ite (Loc.wrT _ _ _) (Loc.bind (Loc.shutArgs tt as_) fun _ => Loc.wrT _ _ _)
   ·exact Loc.fail
  ·split
   ·exact Loc.wrT _ _ _
   ·exact Loc.fail
 ·exact Loc.fail
theorem Loc.nilCheckO (n : Fr) (dst : Option Nat) (x : Operand) : Loc (nilCheckO n dst x) := by
 unfold Go.Own.nilCheckO
 refine Loc.bind (Loc.opnd _) fun y => ?_
 split
 ·exact Loc.wrT _ _ _
 ·refine Loc.bind (Loc.ptrOf _) fun q => ?_
  split
  ·exact Loc.wrT _ _ _
  ·exact Loc.bind (Loc.lookP _ _ _ _) fun _ => Loc.wrT _ _ _
theorem Loc.bound (dflt : Nat) (x : Option Operand) : Loc (bound dflt x) := by
 cases x with
 | none => exact Loc.pure _
 | some x =>
  refine Loc.bind (Loc.opnd _) fun t => Loc.bind (Loc.val _) fun v => ?_
  split
  ·exact Loc.ite (Loc.pure _) Loc.fail
  ·exact Loc.fail
theorem Loc.sliceO (tt : TT) (n : Fr) (dst : Option Nat) (t : Nat) (x : Operand) (lo hi mx : Option Operand) : Loc (sliceO tt n dst t x lo hi mx) := by
 unfold Go.Own.sliceO
 refine Loc.bind (Loc.opnd _) fun y => ?_
 split
 ·refine Loc.ite (Loc.bind (Loc.bound _ _) fun l => Loc.bind (Loc.bound _ _) fun h => ?_) Loc.fail
  split
  ·exact Loc.ite (Loc.wrT _ _ _) Loc.fail
  ·exact Loc.bind (Loc.bound _ _) fun m => Loc.ite (Loc.wrT _ _ _) Loc.fail
 ·exact Loc.fail
theorem Loc.stepO (tt : TT) (ctr : Ctr) (n : Fr) (o : Oper) : Loc (stepO tt ctr n o) := by
 unfold Go.Own.stepO
 split
 ·exact Loc.bind (Loc.opnd _) fun _ => Loc.wrT _ _ _
 ·unfold z1n
  refine Loc.bind (Loc.opnd _) fun y => ?_
  split
  ·exact Loc.wrT _ _ _
  ·exact Loc.bind (Loc.takeC _ _ _) fun _ => Loc.wrT _ _ _
 ·exact Loc.bind (Loc.opnd _) fun _ => Loc.bind (Loc.val _) fun _ => Loc.bind (Loc.opnd _) fun _ => Loc.bind (Loc.val _) fun _ => Loc.bind (Loc.ofO _) fun _ => Loc.wrT _ _ _
 ·exact Loc.bind (Loc.opnd _) fun _ => Loc.bind (Loc.val _) fun _ => Loc.bind (Loc.ofO _) fun _ => Loc.wrT _ _ _
 ·unfold z87
  refine Loc.bind (Loc.opnd _) fun _ => Loc.bind (Loc.val _) fun v => ?_
  split
  ·split
   ·split
    ·exact Loc.wrT _ _ _
    ·exact Loc.fail
   ·exact Loc.fail
  ·exact Loc.fail
 ·unfold z5z
  refine Loc.bind (Loc.opnd _) fun _ => Loc.bind (Loc.val _) fun v => ?_
  split
  ·exact Loc.bind (Loc.opnd _) fun _ => Loc.wrT _ _ _
  ·exact Loc.bind (Loc.opnd _) fun _ => Loc.wrT _ _ _
  ·exact Loc.fail
 ·unfold JD
  refine Loc.bind (Loc.opnd _) fun t => ?_
  split
  ·split
   ·exact Loc.wrT _ _ _
   ·exact Loc.fail
  ·exact Loc.fail
 ·exact Loc.nilCheckO _ _ _
 ·exact Loc.sliceO _ _ _ _ _ _ _ _
 ·exact Loc.bind (Loc.opnd _) fun _ => Loc.loadA _ _ _ _ _
 ·exact Loc.ite (Loc.bind (Loc.opnd _) fun _ => Loc.bind (Loc.opnd _) fun _ => Loc.storeA _ _ _ _) Loc.fail
 ·exact Loc.bind (Loc.opnd _) fun _ => Loc.fieldAddrA _ _ _ _ _ _
 ·exact Loc.bind (Loc.opnd _) fun _ => Loc.bind (Loc.opnd _) fun _ => Loc.bind (Loc.val _) fun _ => Loc.ite (Loc.indexArrA _ _ _ _ _ _) (Loc.indexAddrA _ _ _ _ _ _)
 ·exact Loc.bind (Loc.ofO _) fun _ => Loc.bind (Loc.ofO _) fun _ => Loc.wrT _ _ _
 ·unfold zcq
  refine Loc.bind (Loc.opnd _) fun _ => Loc.bind (Loc.takeC _ _ _) fun z => ?_
  split
  ·exact Loc.fail
  ·exact Loc.ite (Loc.wrT _ _ _) Loc.fail
 ·unfold XC
  refine Loc.bind (Loc.opnd _) fun _ => Loc.bind (Loc.val _) fun vl => Loc.bind (Loc.opnd _) fun _ => Loc.bind (Loc.val _) fun vc => ?_
  split
  ·split
   ·split
    ·split
     ·exact Loc.ite (Loc.wrT _ _ _) Loc.fail
     ·exact Loc.fail
    ·exact Loc.fail
   ·exact Loc.fail
  ·exact Loc.fail
 ·unfold Zd
  split
  ·split
   ·split
    ·exact Loc.bind (Loc.takes _ _) fun _ => Loc.ite (Loc.wrT _ _ _) Loc.fail
    ·exact Loc.fail
   ·exact Loc.fail
  ·exact Loc.fail
 ·unfold z0y
  split
  ·split
   ·exact Loc.bind (Loc.takes _ _) fun _ => Loc.ite (Loc.wrT _ _ _) Loc.fail
   ·exact Loc.fail
  ·exact Loc.fail
 ·exact Loc.bind (Loc.shutArgs _ _) fun _ => Loc.ite (Loc.wrT _ _ _) Loc.fail
 ·exact Loc.bind (Loc.opnd _) fun _ => Loc.bind (Loc.peek _) fun _ => Loc.bind (Loc.ofO _) fun _ => Loc.ite (Loc.wrT _ _ _) Loc.fail
 ·exact Loc.bind (Loc.opnd _) fun _ => Loc.bind (Loc.peek _) fun _ => Loc.bind (Loc.ofO _) fun _ => Loc.ite (Loc.wrT _ _ _) Loc.fail
 ·refine Loc.ite ?_ Loc.fail
  unfold z1r
  refine Loc.bind (Loc.opnd _) fun _ => Loc.bind (Loc.opnd _) fun _ => Loc.bind (Loc.peek _) fun y => ?_
  split
  ·exact Loc.ite (Loc.appendA _ _ _ _ _ _) (Loc.appendOwnA _ _ _ _ _ _)
  ·exact Loc.appendA _ _ _ _ _ _
 ·exact Loc.ite (Loc.bind (Loc.opnd _) fun _ => Loc.bind (Loc.val _) fun _ => Loc.callA _ _ _ _ _ _) Loc.fail
 ·exact Loc.fail
theorem Loc.stepX (hC : zO P ctr) (tt : TT) (n : Fr) (o : Oper) : Loc (stepX tt ctr n o) := by
 unfold Go.Own.stepX
 cases hm : ctr.ext n o with
 | some m => exact fun st st' a R U => hC.2.2 n o m hm st st' a R U
 | none => exact Loc.stepO _ _ _ _
theorem Loc.stepG (hC : zO P ctr) (tt : TT) (n : Fr) (ops : Array Oper) (o : Oper) : Loc (stepG tt ctr n ops o) := by
 unfold Go.Own.stepG
 split
 ·exact Loc.stepX hC _ _ _
 ·split
  ·refine Loc.bind (Loc.rdE _) fun e => ?_
   split
   ·exact Loc.ite (Loc.stepX hC _ _ _) (Loc.wrT _ _ _)
   ·exact Loc.wrT _ _ _
   ·exact Loc.fail
  ·exact Loc.fail
abbrev Log := List Nat × List (Nat × Ent)
def z8W (tt : TT) (ctr : Ctr) (n : Fr) (ops : Array Oper) : List Oper → St → Option (List Log × St)
 | [], st => some ([], st)
 | o :: os, st =>
  match stepG tt ctr n ops o st with
  | some (_, R, U) =>
   match z8W tt ctr n ops os (zl U st) with
   | some (l, st') => some ((R, U) :: l, st')
   | none => none
  | none => none
def zaB (acc : List Nat) (o : Oper) : Nat := o.after.toList.foldl (fun s e => if Region.binds .any e = true then s ||| 2 ^ e.on ||| acc.getD e.on 0 else s) 0
def z2M : List Oper → List Nat → List Nat
 | [], acc => acc
 | o :: os, acc => z2M os (acc ++ [zaB acc o])
def z8g (R W R' W' : List Nat) : Bool := W.any (fun k => W'.contains k || R'.contains k) || R.any (fun k => W'.contains k)
def z6j (ops : List Oper) : Bool := ops.zipIdx.all fun p => p.1.after.toList.all fun e => !Region.binds .any e || e.on < p.2
def z3Y (l : Log) : List Nat × List Nat := (l.1, l.2.map (·.1))
def KD (ops : List Oper) (logs : List (List Nat × List Nat)) : Bool :=
 z6j ops && (List.range ops.length).all fun j => (List.range j).all fun i =>
  !(z8g (logs.getD i ([], [])).1 (logs.getD i ([], [])).2 (logs.getD j ([], [])).1 (logs.getD j ([], [])).2) || ((z2M ops []).getD j 0).testBit i
def Q2 (k : Nat) (us : List (Nat × Ent)) : List (Nat × Ent) := us.filter fun u => u.1 == k
theorem KM (us : List (Nat × Ent)) (st : St) (k : Nat) : zl us st k = zl (Q2 k us) st k := by
 induction us generalizing st with
 | nil => rfl
 | cons u us ih =>
  simp only [zl, Q2, List.filter_cons]
  by_cases h : u.1 = k
  ·simp only [h, beq_self_eq_true, if_true, zl]
   exact ih _
  ·have : (u.1 == k) = false := by simpa using h
   simp only [this, Bool.false_eq_true, if_false]
   rw [ih]
   exact Jc _ (Ur _ _ (Ne.symm h))
theorem VC {us vs : List (Nat × Ent)} (st : St)  (h : Q2 k us = Q2 k vs) : zl us st k = zl vs st k := by
 rw [KM us, KM vs, h]
theorem Wa (k : Nat) (us vs : List (Nat × Ent)) : Q2 k (us ++ vs) = Q2 k us ++ Q2 k vs := by simp [Q2]
def j0 (L : Nat → Bool) : Nat → List Log → List (Nat × Ent)
 | _, [] => []
 | i, l :: ls => (if L i then l.2 else []) ++ j0 L (i + 1) ls
theorem K9 {L L' : Nat → Bool} : ∀ (ls : List Log) (o : Nat), (∀ j, o ≤ j → L j = L' j) → j0 L o ls = j0 L' o ls
 | [], _, _ => rfl
 | l :: ls, o, h => by
  simp [j0, h o (Nat.le_refl _), K9 ls (o + 1) (fun j hj => h j (by omega))]
theorem Wm {L L' : Nat → Bool} {k : Nat} : ∀ (ls : List Log) (o : Nat), (∀ j l, ls[j]? = some l → Q2 k l.2 ≠ [] → L (o + j) = L' (o + j)) → Q2 k (j0 L o ls) = Q2 k (j0 L' o ls)
 | [], _, _ => rfl
 | l :: ls, o, h => by
  have ih := Wm (L := L) (L' := L') (k := k) ls (o + 1) (fun j l hj hne => by
   have := h (j + 1) l (by simpa using hj) hne
   have e : o + (j + 1) = o + 1 + j := by omega
   rw [e] at this
   exact this)
  simp [j0, Wa]
  rw [ih]
  congr 1
  by_cases hne : Q2 k l.2 = []
  ·have h0 : Q2 k ([] : List (Nat × Ent)) = [] := rfl
   split <;> split <;> first | rfl | rw [hne, h0]
  ·have h0 := h 0 l rfl hne
   simp [Nat.add_zero] at h0
   rw [h0]
theorem z12 : ∀ (ls : List Log) (o i : Nat), j0 (fun j => decide (j < i)) o ls = ((ls.take (i - o)).map (·.2)).flatten
 | [], o, i => by simp [j0]
 | l :: ls, o, i => by
  simp [j0, z12 ls (o + 1) i]
  by_cases h : o < i
  ·rw [show i - o = (i - (o + 1)) + 1 from by omega]
   simp [h]
  ·rw [show i - o = 0 from by omega, show i - (o + 1) = 0 from by omega]
   simp [h]
variable {L : Nat → Bool}
theorem z0j : ∀ (ls : List Log) (o : Nat), (∀ j l, ls[j]? = some l → L (o + j) = true → Q2 k l.2 = []) → Q2 k (j0 L o ls) = []
 | [], _, _ => rfl
 | l :: ls, o, h => by
  simp only [j0, Wa]
  rw [z0j ls (o + 1) (fun j l hj hL => h (j + 1) l (by simpa using hj) (by rwa [show o + (j + 1) = o + 1 + j from by omega]))]
  split
  ·rename_i hL; rw [h 0 l rfl (by simpa using hL)]; rfl
  ·rfl
theorem z28 {k i : Nat} (hi : L i = false) : ∀ (ls : List Log) (o : Nat), o ≤ i → ∀ {li : Log}, ls[i - o]? = some li →
  (Q2 k li.2 = [] ∨ ∀ j l, ls[j]? = some l → i < o + j → L (o + j) = true → Q2 k l.2 = []) →
  Q2 k (j0 (fun j => L j || j == i) o ls) = Q2 k (j0 L o ls) ++ Q2 k li.2
 | [], _, _, _, e, _ => by simp at e
 | l :: ls, o, ho, li, e, h => by
  simp only [j0, Wa]
  by_cases hoi : o = i
  ·subst hoi
   rw [Nat.sub_self] at e
   simp only [List.getElem?_cons_zero, Option.some.injEq] at e
   subst e
   have hc : j0 (fun j => L j || j == o) (o + 1) ls = j0 L (o + 1) ls := K9 ls (o + 1) (fun j hj => by
    have : (j == o) = false := by simp; omega
    simp [this])
   rw [hc]
   simp only [hi, Bool.false_or, beq_self_eq_true, if_true, Bool.false_eq_true, if_false]
   rcases h with h | h
   ·have h0 : Q2 k ([] : List (Nat × Ent)) = [] := rfl
    rw [h, h0, List.append_nil]
   ·rw [z0j ls (o + 1) (fun j l hj hL => h (j + 1) l (by simpa using hj) (by omega) (by rwa [show o + (j + 1) = o + 1 + j from by omega]))]
    simp [Q2]
  ·have hlt : o < i := by omega
   rw [show i - o = (i - (o + 1)) + 1 from by omega, List.getElem?_cons_succ] at e
   have ih := z28 hi ls (o + 1) (by omega) e (h.imp id (fun h j l hj hij hL => h (j + 1) l (by simpa using hj) (by omega) (by rwa [show o + (j + 1) = o + 1 + j from by omega])))
   rw [ih, ← List.append_assoc]
   have : (o == i) = false := by simpa using hoi
   simp [this]
variable {n : Fr}
theorem Qn : ∀ {l : List Oper} {st st' : St} {logs : List Log}, z8W tt ctr n ops l st = some (logs, st') →
  logs.length = l.length ∧ st' = zl ((logs.map (·.2)).flatten) st ∧
  ∀ i o, l[i]? = some o → ∃ li, logs[i]? = some li ∧ stepG tt ctr n ops o (zl (((logs.take i).map (·.2)).flatten) st) = some ((), li.1, li.2)
 | [], st, st', logs, e => by
  simp [z8W, Option.some.injEq, Prod.mk.injEq] at e
  obtain ⟨rfl, rfl⟩ := e
  exact ⟨rfl, rfl, fun i o h => by simp at h⟩
 | o :: os, st, st', logs, e => by
  simp [z8W] at e
  cases hs : stepG tt ctr n ops o st with
  | none => simp [hs] at e
  | some q =>
   have ⟨u, R, U⟩ := q
   simp [hs] at e
   cases hl : z8W tt ctr n ops os (zl U st) with
   | none => simp [hl] at e
   | some q =>
    have ⟨ls, s2⟩ := q
    simp [hl, Option.some.injEq, Prod.mk.injEq] at e
    obtain ⟨rfl, rfl⟩ := e
    have ⟨h1, h2, h3⟩ := Qn hl
    refine ⟨by simp [h1], by rw [h2]; simp [zz], ?_⟩
    intro i o' hi
    cases i with
    | zero =>
     simp at hi
     subst hi
     exact ⟨(R, U), rfl, by simpa [zl] using hs⟩
    | succ i =>
     simp at hi
     have ⟨li, q1, q2⟩ := h3 i o' hi
     refine ⟨li, by simpa using q1, ?_⟩
     simpa [zz] using q2
theorem z6D {acc : List Nat}  {i : Nat} (h : (zaB acc o).testBit i = true) : ∃ e ∈ o.after.toList, Region.binds .any e = true ∧ (e.on = i ∨ (acc.getD e.on 0).testBit i = true) := by
 have gen : ∀ (l : List Edge) (s : Nat), (l.foldl (fun s e => if Region.binds .any e = true then s ||| 2 ^ e.on ||| acc.getD e.on 0 else s) s).testBit i = true → s.testBit i = true ∨ ∃ e ∈ l, Region.binds .any e = true ∧ (e.on = i ∨ (acc.getD e.on 0).testBit i = true) := by
  intro l
  induction l with
  | nil => intro s h; exact .inl h
  | cons e l ih =>
   intro s h
   simp [List.foldl_cons] at h
   rcases ih _ h with h | ⟨e', h1, h2⟩
   ·split at h
    ·rename_i hb
     rw [Nat.testBit_or, Nat.testBit_or, Nat.testBit_two_pow] at h
     simp [Bool.or_eq_true, decide_eq_true_eq] at h
     rcases h with (h | h) | h
     ·exact .inl h
     ·exact .inr ⟨e, by simp, hb, .inl h⟩
     ·exact .inr ⟨e, by simp, hb, .inr h⟩
    ·exact .inl h
   ·exact .inr ⟨e', by simp [h1], h2⟩
 rcases gen _ 0 h with h | h
 ·simp at h
 ·exact h
theorem Ua {ops : List Oper}  (hcl : ∀ j o, ops[j]? = some o → L j = true → ∀ e ∈ o.after.toList, Region.binds .any e = true → L e.on = true) :
  ∀ (l : List Oper) (acc : List Nat) (done : List Oper), ops = done ++ l → acc.length = done.length →
   (∀ j i, (acc.getD j 0).testBit i = true → L j = true → L i = true) → ∀ j i, ((z2M l acc).getD j 0).testBit i = true → L j = true → L i = true
 | [], acc, done, _, _, h => by simpa [z2M] using h
 | o :: os, acc, done, e, hl, h => by
  simp [z2M]
  refine Ua hcl os (acc ++ [zaB acc o]) (done ++ [o]) (by simp [e]) (by simp [hl]) ?_
  intro j i hb hL
  rw [List.getD_eq_getElem?_getD] at hb
  by_cases hj : j < acc.length
  ·rw [List.getElem?_append_left hj, ← List.getD_eq_getElem?_getD] at hb
   exact h j i hb hL
  ·by_cases hj2 : j = acc.length
   ·subst hj2
    rw [List.getElem?_append_right (by omega)] at hb
    simp [Nat.sub_self, Option.getD_some] at hb
    have ⟨ed, h1, h2, h3⟩ := z6D hb
    have hLe := hcl acc.length o (by rw [e, hl, List.getElem?_append_right (by omega)]; simp) hL ed h1 h2
    rcases h3 with h3 | h3
    ·rw [← h3]; exact hLe
    ·exact h _ _ h3 hLe
   ·rw [List.getElem?_eq_none (by simp; omega)] at hb
    simp at hb
theorem VW {R W R' W' : List Nat} (h : z8g R W R' W' = false) : (∀ k ∈ W, k ∉ W' ∧ k ∉ R') ∧ ∀ k ∈ R, k ∉ W' := by
 unfold z8g at h
 rw [Bool.or_eq_false_iff] at h
 have ⟨h1, h2⟩ := h
 rw [List.any_eq_false] at h1 h2
 refine ⟨fun k hk => ?_, fun k hk => ?_⟩
 ·have := h1 k hk
  simp [Bool.or_eq_true, not_or] at this
  exact this
 ·have := h2 k hk
  simpa using this
theorem z3l {us : List (Nat × Ent)} (h : Q2 k us ≠ []) : k ∈ us.map (·.1) := by
 cases hf : Q2 k us with
 | nil => exact absurd hf h
 | cons u l =>
  have hm : u ∈ Q2 k us := by rw [hf]; simp
  unfold Q2 at hm
  rw [List.mem_filter] at hm
  have : u.1 = k := by simpa using hm.2
  exact List.mem_map.2 ⟨u, hm.1, this⟩
section
variable {C : Ctx}
def z5T (n : Nat) (listed : Array Bool) : Nat := ((List.range n).filter fun i => !listed.getD i true).length
theorem z2n {n : Nat} {listed : Array Bool} {i : Nat} (hi : i < n) (hl : listed.getD i true = false) : z5T n (listed.setIfInBounds i true) < z5T n listed := by
 unfold z5T
 have hsize : i < listed.size := by
  rcases Nat.lt_or_ge i listed.size with h | h
  ·exact h
  ·simp [Array.getD_eq_getD_getElem?, Array.getElem?_eq_none h] at hl
 have hget : ∀ j, (listed.setIfInBounds i true).getD j true = if j = i then true else listed.getD j true := by
  intro j
  simp [Array.getD_eq_getD_getElem?, Array.getElem?_setIfInBounds]
  by_cases h : i = j
  ·subst h; simp [hsize]
  ·simp [h, Ne.symm h]
 have h1 : ((List.range n).filter fun j => !(listed.setIfInBounds i true).getD j true) = ((List.range n).filter fun j => !listed.getD j true).filter (fun j => j != i) := by
  rw [List.filter_filter]
  congr 1
  funext j
  rw [hget]
  by_cases h : j = i
  ·simp [h]
  ·simp [h]
 rw [h1]
 have hm : i ∈ (List.range n).filter fun j => !listed.getD j true := by
  rw [List.mem_filter]
  exact ⟨List.mem_range.2 hi, by simp [hl]⟩
 have := List.length_filter_lt_length_iff_exists (p := fun j => j != i) (l := (List.range n).filter fun j => !listed.getD j true)
 exact this.2 ⟨i, hm, by simp⟩
theorem zap {rd : Option Nat} {m : Nat}    (hT : wG P tt) (hC : zO P ctr) {ops : Array Oper} {Q : Exit → Act → World → Prop} {st0 st' : St} {logs : List Log} (hlog : z8W tt ctr C.n ops ops.toList st0 = some (logs, st'))
  (hok : KD ops.toList (logs.map z3Y) = true) (hQ : ∀ S Fp a' w', Sim C S Fp [] st' a' w' → Q .normal a' w') :
  ∀ (fuel : Nat) (listed : Array Bool) (a : Act) (w : World), z5T ops.size listed ≤ fuel →
   (∀ j o, ops[j]? = some o → listed.getD j true = true → ∀ e ∈ o.after.toList, Region.binds .any e = true → listed.getD e.on true = true) →
   (∃ S Fp, Sim C S Fp [] (zl (j0 (fun j => listed.getD j true) 0 logs) st0) a w) → wpAnyIn (fen rd) m P .any ops Q fuel listed a w := by
 have ⟨hlen, hst', hsteps⟩ := Qn hlog
 unfold KD at hok
 rw [Bool.and_eq_true] at hok
 have ⟨hedges, hpairs⟩ := hok
 have hpair : ∀ i j li lj, i < j → logs[i]? = some li → logs[j]? = some lj → z8g li.1 (li.2.map (·.1)) lj.1 (lj.2.map (·.1)) = false ∨ ((z2M ops.toList []).getD j 0).testBit i = true := by
  intro i j li lj hij h1 h2
  have hj : j < ops.toList.length := by rw [← hlen]; exact (List.getElem?_eq_some_iff.1 h2).1
  have := List.all_eq_true.1 (List.all_eq_true.1 hpairs j (List.mem_range.2 hj)) i (List.mem_range.2 hij)
  simp only [List.getD_eq_getElem?_getD, List.getElem?_map, h1, h2, Option.map_some, Option.getD_some, z3Y, Bool.or_eq_true, Bool.not_eq_true'] at this
  exact this
 have hedge : ∀ j o, ops.toList[j]? = some o → ∀ e ∈ o.after.toList, Region.binds .any e = true → e.on < j := by
  intro j o hj e he hb
  unfold z6j at hedges
  have := List.all_eq_true.1 (List.all_eq_true.1 hedges (o, j) (by rw [List.mem_zipIdx_iff_getElem?]; exact hj)) e he
  simpa [hb] using this
 have hall : ∀ (listed : Array Bool) (a : Act) (w : World), (∀ j, j < ops.size → listed.getD j true = true) → (∃ S Fp, Sim C S Fp [] (zl (j0 (fun j => listed.getD j true) 0 logs) st0) a w) → Q .normal a w := by
  intro listed a w hl hS
  have ⟨S, Fp, hS⟩ := hS
  have : zl (j0 (fun j => listed.getD j true) 0 logs) st0 = st' := by
   rw [hst']
   have h1 : j0 (fun j => listed.getD j true) 0 logs = j0 (fun j => decide (j < logs.length)) 0 logs := by
    have gen : ∀ (ls : List Log) (o : Nat), (∀ j, j < ls.length → listed.getD (o + j) true = true) → (∀ j, j < ls.length → o + j < logs.length) → j0 (fun j => listed.getD j true) o ls = j0 (fun j => decide (j < logs.length)) o ls := by
     intro ls
     induction ls with
     | nil => intro o _ _; rfl
     | cons l ls ih =>
      intro o h1 h2
      have a1 := h1 0 (by simp)
      have a2 := h2 0 (by simp)
      simp only [Nat.add_zero] at a1 a2
      simp only [j0, a1, a2, decide_true, if_true]
      rw [ih (o + 1) (fun j hj => by have := h1 (j + 1) (by simpa using hj); rwa [show o + 1 + j = o + (j + 1) from by omega]) (fun j hj => by have := h2 (j + 1) (by simpa using hj); omega)]
    refine gen logs 0 (fun j hj => ?_) (fun j hj => by omega)
    rw [Nat.zero_add]
    exact hl j (by rw [← Array.length_toList, ← hlen]; exact hj)
   rw [h1, z12]
   simp
  rw [this] at hS
  exact hQ _ _ _ _ hS
 have hready_none : ∀ (listed : Array Bool), Region.ready .any ops listed = [] → ∀ j, j < ops.size → listed.getD j true = true := by
  intro listed hr j
  induction j using Nat.strongRecOn with
  | _ j ih =>
   intro hj
   cases hl : listed.getD j true with
   | true => rfl
   | false =>
    exfalso
    have : j ∈ Region.ready .any ops listed := by
     unfold Region.ready
     rw [List.mem_filter]
     refine ⟨List.mem_range.2 hj, ?_⟩
     rw [hl]
     simp only [Bool.not_false, Bool.true_and, Array.getElem?_eq_getElem hj, Option.map_some, Option.getD_some, Array.all_eq_true_iff_forall_mem]
     intro e he
     by_cases hb : Region.binds .any e = true
     ·have hlt := hedge j ops[j] (by simp [hj]) e (by simpa using he) hb
      have := ih e.on hlt (by omega)
      rw [Array.getD_eq_getD_getElem?] at this ⊢
      have hsz : e.on < listed.size := by
       rcases Nat.lt_or_ge e.on listed.size with h | h
       ·exact h
       ·exfalso
        have hjs : j < listed.size := by
         rcases Nat.lt_or_ge j listed.size with h' | h'
         ·exact h'
         ·simp [Array.getD_eq_getD_getElem?, Array.getElem?_eq_none h'] at hl
        omega
      rw [Array.getElem?_eq_getElem hsz] at this ⊢
      simp only [Option.getD_some] at this ⊢
      simp [this]
     ·simp [hb]
    rw [hr] at this
    cases this
 intro fuel
 induction fuel with
 | zero =>
  intro listed a w hfuel hcl hS
  have hl : ∀ j, j < ops.size → listed.getD j true = true := by
   intro j hj
   cases hx : listed.getD j true with
   | true => rfl
   | false =>
    have := z2n hj hx
    omega
  refine ⟨?_, hall listed a w hl hS⟩
  unfold Region.ready
  rw [List.filter_eq_nil_iff]
  intro j hj
  rw [hl j (List.mem_range.1 hj)]
  simp
 | succ fuel ih =>
  intro listed a w hfuel hcl hS
  refine ⟨fun hr => hall listed a w (hready_none listed hr) hS, ?_⟩
  intro i hi
  unfold Region.ready at hi
  rw [List.mem_filter] at hi
  have ⟨hi1, hi2⟩ := hi
  have hin : i < ops.size := List.mem_range.1 hi1
  simp only [Bool.and_eq_true, Bool.not_eq_true', Array.getElem?_eq_getElem hin, Option.map_some, Option.getD_some, Array.all_eq_true_iff_forall_mem] at hi2
  have ⟨hil, hdeps⟩ := hi2
  have hoi : ops.toList[i]? = some ops[i] := by simp [hin]
  have ⟨li, hli, hstep⟩ := hsteps i ops[i] hoi
  have hsz : i < listed.size := by
   rcases Nat.lt_or_ge i listed.size with h | h
   ·exact h
   ·simp [Array.getD_eq_getD_getElem?, Array.getElem?_eq_none h] at hil
  have hdep : ∀ e ∈ ops[i].after.toList, Region.binds .any e = true → listed.getD e.on true = true := by
   intro e he hb
   have := hdeps e (by simpa using he)
   simp only [hb, Bool.not_true, Bool.false_or] at this
   rw [Array.getD_eq_getD_getElem?] at this ⊢
   cases hx : listed[e.on]? with
   | none => rfl
   | some b => simpa [hx] using this
  have hanc : ∀ j k, ((z2M ops.toList []).getD j 0).testBit k = true → listed.getD j true = true → listed.getD k true = true :=
   Ua (L := fun j => listed.getD j true) (ops := ops.toList) (fun j o hj hL e he hb => hcl j o (by simpa using hj) hL e he hb) ops.toList [] [] (by simp) rfl (by simp)
  have hanci : ∀ k, ((z2M ops.toList []).getD i 0).testBit k = true → k ≠ i → listed.getD k true = true := by
   intro k hk hki
   have := Ua (L := fun j => listed.getD j true || j == i) (ops := ops.toList) (fun j o hj hL e he hb => by
    simp only [Bool.or_eq_true, beq_iff_eq] at hL ⊢
    rcases hL with hL | rfl
    ·exact .inl (hcl j o (by simpa using hj) hL e he hb)
    ·rw [hoi] at hj
     cases hj
     exact .inl (hdep e he hb)) ops.toList [] [] (by simp) rfl (by simp) i k hk (by simp)
   simpa [hki] using this
  have hreads : ∀ k ∈ li.1, zl (j0 (fun j => listed.getD j true) 0 logs) st0 k = zl (((logs.take i).map (·.2)).flatten) st0 k := by
   intro k hk
   rw [show ((logs.take i).map (·.2)).flatten = j0 (fun j => decide (j < i)) 0 logs from by rw [z12]; simp]
   refine VC st0 (Wm logs 0 ?_)
   intro j lj hj hne
   rw [Nat.zero_add]
   have hkj := z3l hne
   rcases Nat.lt_trichotomy j i with hlt | rfl | hgt
   ·have : listed.getD j true = true := by
     rcases hpair j i lj li hlt hj hli with hc | hb
     ·exact absurd hk ((VW hc).1 k hkj).2
     ·exact hanci j hb (by omega)
    simp [hlt, this]
   ·simp [hil]
   ·have : listed.getD j true = false := by
     cases hx : listed.getD j true with
     | false => rfl
     | true =>
      rcases hpair i j li lj hgt hli hj with hc | hb
      ·exact absurd hkj ((VW hc).2 k hk)
      ·have := hanc j i hb hx
       rw [hil] at this
       cases this
    rw [this]
    simp; omega
  have hstepL := Loc.stepG hC tt C.n ops ops[i] _ _ _ _ _ hstep hreads
  have hget : ∀ j, (listed.setIfInBounds i true).getD j true = (listed.getD j true || j == i) := by
   intro j
   simp only [Array.getD_eq_getD_getElem?, Array.getElem?_setIfInBounds]
   by_cases h : i = j
   ·subst h; simp [hsz]
   ·have : (j == i) = false := by simp; exact Ne.symm h
    simp [h, this]
  have hnext : zl li.2 (zl (j0 (fun j => listed.getD j true) 0 logs) st0) = zl (j0 (fun j => (listed.setIfInBounds i true).getD j true) 0 logs) st0 := by
   rw [← zz]
   funext k
   refine VC st0 ?_
   rw [show (fun j => (listed.setIfInBounds i true).getD j true) = fun j => (fun j => listed.getD j true) j || j == i from funext hget, Wa]
   refine (z28 (L := fun j => listed.getD j true) hil logs 0 (Nat.zero_le _) (li := li) (by simpa using hli) ?_).symm
   by_cases hke : Q2 k li.2 = []
   ·exact .inl hke
   ·right
    intro j lj hj hij hL
    rw [Nat.zero_add] at hij hL
    have hki := z3l hke
    rcases hpair i j li lj hij hli hj with hc | hb
    ·have := ((VW hc).1 k hki).1
     cases hf : Q2 k lj.2 with
     | nil => rfl
     | cons u us => exact absurd (z3l (by rw [hf]; simp)) this
    ·have := hanc j i hb hL
     rw [hil] at this
     cases this
  have ⟨S, Fp, hS⟩ := hS
  have hgood := z3A hT hC hS hstepL rd m (wpAnyIn (fen rd) m P .any ops Q fuel (listed.setIfInBounds i true)) Q (fun S' Fp' a' w' h' => by
   refine ih _ a' w' (by have := z2n hin hil; omega) ?_ ⟨S', Fp', by rw [← hnext]; exact h'⟩
   intro j o hj hL e he hb
   rw [hget] at hL ⊢
   simp only [Bool.or_eq_true, beq_iff_eq] at hL ⊢
   rcases hL with hL | rfl
   ·exact .inl (hcl j o hj hL e he hb)
   ·rw [Array.getElem?_eq_getElem hin] at hj
    cases hj
    exact .inl (hdep e he hb))
  unfold wpOpIn
  rw [Array.getElem?_eq_getElem hin]
  exact hgood
end
def z2z : Ent := ⟨.gone, 0, 0⟩
def ofL : List (Nat × T) → St
 | [], _ => z2z
 | p :: L, t => if t = p.1 then ⟨p.2, 0, 0⟩ else ofL L t
def z8k (live : List Nat) (st : St) (k : Nat) : T :=
 match (st k).t with
 | .d a => .d a
 | .own a => .own a
 | .als r p er ec => if er = (st r).er ∧ ec = (st r).ec ∧ r ∈ live then .als r p 0 0 else .gone
 | .ptr r p er ec => if er = (st r).er ∧ ec = (st r).ec ∧ r ∈ live then .ptr r p 0 0 else .gone
 | .gone => .gone
def canon (live : List Nat) (st : St) : St := ofL (live.map fun k => (k, z8k live st k))
theorem z5H (f : Nat → T) : ∀ (l : List Nat) (t : Nat), ofL (l.map fun k => (k, f k)) t = if t ∈ l then ⟨f t, 0, 0⟩ else z2z
 | [], t => by simp [ofL]
 | k :: l, t => by
  simp [List.map_cons, ofL, z5H f l t]
  by_cases h : t = k
  ·simp [h]
  ·simp [h]
theorem YN (live : List Nat) (st : St) (t : Nat) : canon live st t = if t ∈ live then ⟨z8k live st t, 0, 0⟩ else z2z := z5H _ live t
section
variable {C : Ctx} {S : zn} {Fp : Nat → List Nat} {X : List Nat} {st : St} {a : Act} {w : World}
theorem Sim.canonF (h : Sim C S Fp [] st a w) (live : List Nat) : ∃ Fp', Sim C S Fp' [] (canon live st) a w ∧ ∀ t k, k ∈ Fp' t → k ∈ Fp t := by
 refine ⟨fun t => if t ∈ live then (match (st t).t with | .own _ => Fp t | _ => []) else [], ?_, ?_⟩
 rotate_left
 ·intro t k hk
  dsimp only at hk
  split at hk
  ·split at hk
   ·exact hk
   ·simp at hk
  ·simp at hk
 refine { size := h.size, pin := h.pin, defers := h.defers, below := h.below, mine := h.mine, still := h.still, sinc := h.sinc, sbase := h.sbase, ent := ?_, disj := ?_, base := ?_, xn := by simp, xd := by simp, xb := by simp }
 ·intro t
  rw [YN]
  by_cases ht : t ∈ live
  ·simp only [ht, if_true]
   have q := h.ent t
   unfold xV z8k at *
   cases htt : (st t).t with
   | gone => rfl
   | d x => simp only [htt] at q ⊢; exact ⟨q.1, trivial⟩
   | own x => simp only [htt] at q ⊢; exact q
   | als r p er ec =>
    simp only [htt] at q ⊢
    by_cases hc : er = (st r).er ∧ ec = (st r).ec ∧ r ∈ live
    ·simp only [if_pos hc]
     have ⟨h1, h2, h3⟩ := hc
     refine ⟨trivial, ?_⟩
     have ⟨q1, q2, q3⟩ := q.2
     unfold Xt
     rw [YN]
     simp only [h3, if_true]
     refine ⟨Nat.le_refl _, Nat.le_refl _, ?_⟩
     unfold z8k
     cases hr : (st r).t with
     | own x => simp only [hr] at q3 ⊢; exact fun _ _ => q3 h1.symm (.inr h2.symm)
     | d x => simp only [hr] at q3 ⊢; exact fun _ hp => q3 h1.symm hp
     | gone => trivial
     | als u _ e1 e2 =>
      by_cases hd : e1 = (st u).er ∧ e2 = (st u).ec ∧ u ∈ live
      ·simp only [if_pos hd]
      ·simp only [if_neg hd]
     | ptr u _ e1 e2 =>
      by_cases hd : e1 = (st u).er ∧ e2 = (st u).ec ∧ u ∈ live
      ·simp only [if_pos hd]
      ·simp only [if_neg hd]
    ·simp only [if_neg hc]
   | ptr r p er ec =>
    simp only [htt] at q ⊢
    by_cases hc : er = (st r).er ∧ ec = (st r).ec ∧ r ∈ live
    ·simp only [if_pos hc]
     have ⟨h1, h2, h3⟩ := hc
     refine ⟨trivial, ?_⟩
     have ⟨q1, q2, q3⟩ := q.2
     unfold ZV
     rw [YN]
     simp only [h3, if_true]
     refine ⟨Nat.le_refl _, Nat.le_refl _, ?_⟩
     unfold z8k
     cases hr : (st r).t with
     | own x => simp only [hr] at q3 ⊢; exact fun _ _ => q3 h1.symm h2.symm
     | d x => trivial
     | gone => trivial
     | als u _ e1 e2 =>
      by_cases hd : e1 = (st u).er ∧ e2 = (st u).ec ∧ u ∈ live
      ·simp only [if_pos hd]
      ·simp only [if_neg hd]
     | ptr u _ e1 e2 =>
      by_cases hd : e1 = (st u).er ∧ e2 = (st u).ec ∧ u ∈ live
      ·simp only [if_pos hd]
      ·simp only [if_neg hd]
    ·simp only [if_neg hc]
  ·simp only [ht, if_false]
   rfl
 ·intro t u k ht hu
  split at ht
  ·split at hu
   ·split at ht
    ·split at hu
     ·exact h.disj t u k ht hu
     ·simp at hu
    ·simp at ht
   ·simp at hu
  ·simp at ht
 ·intro t k ht
  split at ht
  ·split at ht
   ·exact h.base t k ht
   ·simp at ht
  ·simp at ht
theorem Sim.canon (h : Sim C S Fp [] st a w) (live : List Nat) : ∃ Fp', Sim C S Fp' [] (canon live st) a w :=
 let ⟨Fp', h1, _⟩ := h.canonF live; ⟨Fp', h1⟩
end
structure z07 (C : Ctx) (rd : Option Nat) : Prop where
 nodup : C.df.Nodup
 df : ∀ D ∈ C.df, ¬ C.M D ∧ C.w0.heap[D]? = some (.deferred (some []))
 rd : ∀ L, rd = some L → ¬ C.M L ∧ ∃ q, C.w0.heap[L]? = some (.loop q)
structure ZK (df : List Nat) (M : Nat → Prop) (df' : List Nat) (Fp : Nat → List Nat) (w : World) : Prop where
 nodup : df'.Nodup
 ent : ∀ D ∈ df', w.heap[D]? = some (.deferred (some []))
 off : ∀ D ∈ df', ∀ t, D ∉ Fp t
 old : ∀ D ∈ df', D ∈ df ∨ M D
def z6R (n : Fr) (df : List Nat) (w0 : World) (S0 : zn) (M : Nat → Prop) (Q : Exit → St → Prop) (ex : Exit) (a : Act) (w : World) : Prop :=
 ∃ df' st S Fp, Sim ⟨n, df', w0, S0, M⟩ S Fp [] st a w ∧ ZK df M df' Fp w ∧ Q ex st
def AWP (P : Program) (n : Fr) (c : Code) (st : St) (Q : Exit → St → Prop) : Prop :=
 ∀ (rd : Option Nat) (m : Nat) (df : List Nat) (w0 : World) (S0 : zn) (M : Nat → Prop) S Fp a w, z07 ⟨n, df, w0, S0, M⟩ rd → Sim ⟨n, df, w0, S0, M⟩ S Fp [] st a w →
  c.wpIn (fen rd) m P (z6R n df w0 S0 M Q) a w
variable {Q : Exit → St → Prop}{C : Ctx}{X : List Nat}{ex : Exit}
section
variable {n : Fr} {df df' df2 : List Nat} {w0 : World} {S0 : zn} {M : Nat → Prop} {S S2 : zn} {Fp Fp2 : Nat → List Nat} {st st2 : St} {a a2 : Act} {w w2 : World} {rd : Option Nat}
theorem z07.post (h : z07 ⟨n, df, w0, S0, M⟩ rd) (hs : Sim ⟨n, df, w0, S0, M⟩ S Fp [] st a w) : ZK df M df Fp w :=
 ⟨h.nodup, fun D hD => (hs.below.block D (h.df D hD).1).trans (h.df D hD).2, fun D hD t ht => (h.df D hD).1 (hs.base t D ht), fun _ hD => .inl hD⟩
theorem z07.fin (h : z07 ⟨n, df, w0, S0, M⟩ rd) (hs : Sim ⟨n, df, w0, S0, M⟩ S Fp [] st a w) (hq : Q ex st) : z6R n df w0 S0 M Q ex a w :=
 ⟨df, st, S, Fp, hs, h.post hs, hq⟩
def z0l (Fp : Nat → List Nat) (w : World) : Nat → Prop := fun k => w.heap.size ≤ k ∨ ∃ t, k ∈ Fp t
theorem Vc (hs : Sim ⟨n, df', w0, S0, M⟩ S Fp [] st a w) : ∀ k, z0l Fp w k → M k
 | _, .inl hk => hs.mine _ (Nat.le_trans hs.below.size hk)
 | k, .inr ⟨t, hk⟩ => hs.base t k hk
theorem Sim.ownM_far (h : Sim C S Fp X st a w) : ∀ g x, z63 g = some x → ¬ z0l Fp w g := by
 rintro g x e (hk | ⟨t, hk⟩)
 ·have := h.still.blk.lt e
  omega
 ·exact h.still.blk.ne ((h.free t g hk).2.1 0) x e
theorem Sim.rebase (hs : Sim ⟨n, df', w0, S0, M⟩ S Fp [] st a w) : Sim ⟨n, df', w, S, z0l Fp w⟩ S Fp [] st a w := {
 size := hs.size
 pin := hs.pin
 defers := hs.defers
 below := Xr.refl _ _
 mine := ⟨fun _ hk => .inl hk, hs.ownM_far⟩
 still := hs.still
 sinc := fun _ _ _ q => q
 sbase := fun _ _ _ => rfl
 ent := hs.ent
 disj := hs.disj
 base := fun t _ hk => .inr ⟨t, hk⟩
 xn := by simp
 xd := by simp
 xb := by simp }
theorem z07.rebase (h : z07 ⟨n, df, w0, S0, M⟩ rd) (hs : Sim ⟨n, df', w0, S0, M⟩ S Fp [] st a w) (hd : ZK df M df' Fp w) : z07 ⟨n, df', w, S, z0l Fp w⟩ rd := {
 nodup := hd.nodup
 df := fun D hD => ⟨by
  rintro (hk | ⟨t, hk⟩)
  ·have := (Array.getElem?_eq_some_iff.1 (hd.ent D hD)).1
   omega
  ·exact hd.off D hD t hk, hd.ent D hD⟩
 rd := fun L hL => by
  have ⟨h1, q, h2⟩ := h.rd L hL
  refine ⟨?_, q, (hs.below.block L h1).trans h2⟩
  rintro (hk | ⟨t, hk⟩)
  ·have q1 : L < w0.heap.size := (Array.getElem?_eq_some_iff.1 h2).1
   have q2 : w0.heap.size ≤ w.heap.size := hs.below.size
   omega
  ·exact h1 (hs.base t L hk) }
theorem Sim.unbase (hs : Sim ⟨n, df', w0, S0, M⟩ S Fp [] st a w) (h2 : Sim ⟨n, df2, w, S, z0l Fp w⟩ S2 Fp2 [] st2 a2 w2) : Sim ⟨n, df2, w0, S0, M⟩ S2 Fp2 [] st2 a2 w2 := {
 size := h2.size
 pin := h2.pin
 defers := h2.defers
 below := hs.below.trans (h2.below.mono (Vc hs))
 mine := hs.mine
 still := h2.still
 sinc := fun b o v q => h2.sinc _ _ _ (hs.sinc _ _ _ q)
 sbase := fun b o hb => (h2.sbase b o (fun hk => hb (Vc hs b hk))).trans (hs.sbase b o hb)
 ent := h2.ent
 disj := h2.disj
 base := fun t k hk => Vc hs k (h2.base t k hk)
 xn := by simp
 xd := by simp
 xb := by simp }
theorem ZK.trans (hs : Sim ⟨n, df', w0, S0, M⟩ S Fp [] st a w) (hd : ZK df M df' Fp w) (h2 : ZK df' (z0l Fp w) df2 Fp2 w2) : ZK df M df2 Fp2 w2 :=
 ⟨h2.nodup, h2.ent, h2.off, fun D hD => (h2.old D hD).elim (hd.old D) fun hk => .inr (Vc hs D hk)⟩
theorem z6R.trans (hs : Sim ⟨n, df', w0, S0, M⟩ S Fp [] st a w) (hd : ZK df M df' Fp w) (h : z6R n df' w S (z0l Fp w) Q ex a2 w2) : z6R n df w0 S0 M Q ex a2 w2 := by
 have ⟨df2, st2, S2, Fp2, h1, h2, h3⟩ := h
 exact ⟨df2, st2, S2, Fp2, hs.unbase h1, hd.trans hs h2, h3⟩
theorem z6R.next {Q Q' : Exit → St → Prop} {ex ex' : Exit} (h : z6R n df w0 S0 M Q ex a w) (hq : ∀ st, Q ex st → Q' ex' st) : z6R n df w0 S0 M Q' ex' a w := by
 have ⟨df', st, S, Fp, h1, h2, h3⟩ := h
 exact ⟨df', st, S, Fp, h1, h2, hq _ h3⟩
end
def z2V (next : St → Prop) (Q : Exit → St → Prop) : Exit → St → Prop
 | .normal, st => next st
 | e, st => Q e st
def z0z (id : Nat) (Q : Exit → St → Prop) : Exit → St → Prop
 | .exit id', st => if id' = id then Q .normal st else Q (.exit id') st
 | e, st => Q e st
variable {M : Nat → Prop}{x y : Code}{c : Operand}{w0 : World}{id : Nat}{df df' : List Nat}{S0 : zn}{K : St → Prop}
section
variable {P : Program} {n : Fr} {st : St} {Q : Exit → St → Prop}
theorem AWP.mono {c : Code} {Q' : Exit → St → Prop} (h : AWP P n c st Q) (hq : ∀ e st, Q e st → Q' e st) : AWP P n c st Q' :=
 fun rd m df w0 S0 M S Fp a w hc hs => wpIn_mono (h rd m df w0 S0 M S Fp a w hc hs) fun _ _ _ hp => hp.next (hq _)
theorem AWP.go {c : Code} {df df' : List Nat} {w0 : World} {S0 : zn} {M : Nat → Prop} {S : zn} {Fp : Nat → List Nat} {a : Act} {w : World} {rd : Option Nat} {m : Nat} (h : AWP P n c st Q)
  (hc : z07 ⟨n, df, w0, S0, M⟩ rd) (hs : Sim ⟨n, df', w0, S0, M⟩ S Fp [] st a w) (hd : ZK df M df' Fp w) : c.wpIn (fen rd) m P (z6R n df w0 S0 M Q) a w :=
 wpIn_mono (h rd m df' w S (z0l Fp w) S Fp a w (hc.rebase hs hd) hs.rebase) fun _ _ _ hp => hp.trans hs hd
theorem AWP.seq (h : AWP P n x st (z2V (fun st' => AWP P n y st' Q) Q)) : AWP P n (.seq x y) st Q := by
 intro rd m df w0 S0 M S Fp a w hc hs
 refine wpIn_seq (wpIn_mono (h rd m df w0 S0 M S Fp a w hc hs) ?_)
 intro e a' w' hp
 cases e with
 | normal =>
  have ⟨df', st', S', Fp', h1, h2, h3⟩ := hp
  exact AWP.go h3 hc h1 h2
 | _ => exact hp.next fun _ q => q
theorem AWP.skip (h : Q .normal st) : AWP P n .skip st Q := fun _ _ _ _ _ _ _ _ _ _ hc hs => wpIn_skip (hc.fin hs h)
theorem AWP.exit (h : Q (.exit id) st) : AWP P n (.exit id) st Q := fun _ _ _ _ _ _ _ _ _ _ hc hs => wpIn_exit (hc.fin hs h)
theorem AWP.ret (h : Q .ret st) : AWP P n .ret st Q := fun _ _ _ _ _ _ _ _ _ _ hc hs => wpIn_ret (hc.fin hs h)
theorem AWP.block {c : Code} (h : AWP P n c st (z0z id Q)) : AWP P n (.block id c) st Q := by
 intro rd m df w0 S0 M S Fp a w hc hs
 refine wpIn_block (wpIn_mono (h rd m df w0 S0 M S Fp a w hc hs) ?_)
 intro e a' w' hp
 cases e with
 | exit id' =>
  simp [Exit.inBlock]
  split
  ·exact hp.next fun _ q => by simpa only [z0z, if_pos ‹id' = id›] using q
  ·exact hp.next fun _ q => by simpa only [z0z, if_neg ‹¬ id' = id›] using q
 | _ => exact hp.next fun _ q => q
def z3p (st : St) : Operand → Option Bool
 | .tmp t => match (st t).t with | .d (.atom (.bool b)) => some b | _ => none
 | .const (.bool b) => some b
 | _ => none
theorem z89 (h : Sim C S Fp X st a w)  {b : Bool} (e : z3p st c = some b) : a.eval c = .bool b := by
 unfold z3p at e
 split at e
 ·rename_i t
  split at e
  ·rename_i b' ht
   cases e
   have := h.ent t
   unfold xV at this
   simp [ht] at this
   exact (zw.1 this.1).1
  ·cases e
 ·cases e
  rfl
 ·cases e
theorem AWP.cond {b : Bool} (hb : z3p st c = some b) (h1 : b = true → AWP P n x st Q) (h2 : b = false → AWP P n y st Q) : AWP P n (.cond c x y) st Q := by
 intro rd m df w0 S0 M S Fp a w hc hs
 refine wpIn_cond (z89 hs hb) ?_
 cases b
 ·exact h2 rfl rd m df w0 S0 M S Fp a w hc hs
 ·exact h1 rfl rd m df w0 S0 M S Fp a w hc hs
theorem AWP.canon (live : List Nat) {c : Code} (h : AWP P n c (canon live st) Q) : AWP P n c st Q := by
 intro rd m df w0 S0 M S Fp a w hc hs
 have ⟨Fp', hs'⟩ := hs.canon live
 exact h rd m df w0 S0 M S Fp' a w hc hs'
theorem Sim.canonD (h : Sim ⟨n, df', w0, S0, M⟩ S Fp [] st a w) (hd : ZK df M df' Fp w) (live : List Nat) :
  ∃ Fp', Sim ⟨n, df', w0, S0, M⟩ S Fp' [] (Own.canon live st) a w ∧ ZK df M df' Fp' w := by
 have ⟨Fp', h1, h2⟩ := h.canonF live
 exact ⟨Fp', h1, hd.nodup, hd.ent, fun D hD t ht => hd.off D hD t (h2 t D ht), hd.old⟩
theorem AWP.loop {c : Code} (live : List Nat) (I : Nat → St → Prop) (n0 : Nat) (h0 : I n0 (Own.canon live st))
  (round : ∀ k st, I k st → AWP P n c st (z2V (fun st' => ∃ k', k' < k ∧ I k' (Own.canon live st')) Q)) : AWP P n (.loop c) st Q := by
 intro rd m df w0 S0 M S Fp a w hc hs
 have ⟨Fp0, hs0, hd0⟩ := hs.canonD (hc.post hs) live
 refine wpIn_loop_ghost (fun k a w => ∃ df' st S Fp, Sim ⟨n, df', w0, S0, M⟩ S Fp [] st a w ∧ ZK df M df' Fp w ∧ I k st) n0 ⟨df, _, S, Fp0, hs0, hd0, h0⟩ ?_
 rintro k a w ⟨df1, st1, S1, Fp1, hs1, hd1, h1⟩
 refine wpIn_mono (AWP.go (round k st1 h1) hc hs1 hd1) ?_
 intro e a' w' hp
 cases e with
 | normal =>
  have ⟨df', st', S', Fp', q1, q2, k', hk, hI⟩ := hp
  have ⟨Fp2, hs2, hd2⟩ := q1.canonD q2 live
  exact ⟨k', hk, df', _, S', Fp2, hs2, hd2, hI⟩
 | _ => exact hp.next fun _ q => q
def zaH (m : SM α) (st : St) (R W : List Nat) (K : α → St → List Nat → List Nat → Prop) : Prop :=
 match m st with
 | some (x, r, u) => K x (zl u st) (R ++ r) (W ++ u.map (·.1))
 | none => False
def zaG (tt : TT) (ctr : Ctr) (n : Fr) (ops : Array Oper) : List Oper → St → (St → Prop) → Prop
 | [], st, K => K st
 | o :: os, st, K => zaH (stepG tt ctr n ops o) st [] [] fun _ st' _ _ => zaG tt ctr n ops os st' K
def z4F (tt : TT) (ctr : Ctr) (n : Fr) (ops : Array Oper) : List Oper → St → List (List Nat × List Nat) → (St → Prop) → Prop
 | [], st, logs, K => KD ops.toList logs = true ∧ K st
 | o :: os, st, logs, K => zaH (stepG tt ctr n ops o) st [] [] fun _ st' R W => z4F tt ctr n ops os st' (logs ++ [(R, W)]) K
theorem z3D : ∀ (l : List Oper) (st : St), zaG tt ctr n ops l st K → ∃ st', zaI tt ctr n ops l st = some st' ∧ K st'
 | [], st, h => ⟨st, rfl, h⟩
 | o :: os, st, h => by
  simp [zaG, zaH] at h
  cases hs : stepG tt ctr n ops o st with
  | none => simp [hs] at h
  | some q =>
   have ⟨x, r, u⟩ := q
   simp [hs] at h
   have ⟨st', h1, h2⟩ := z3D os _ h
   exact ⟨st', by simp [zaI, hs]; exact h1, h2⟩
theorem z2H : ∀ (l : List Oper) (st : St) (logs : List (List Nat × List Nat)), z4F tt ctr n ops l st logs K → ∃ ls st', z8W tt ctr n ops l st = some (ls, st') ∧ KD ops.toList (logs ++ ls.map z3Y) = true ∧ K st'
 | [], st, logs, h => ⟨[], st, rfl, by simpa using h.1, h.2⟩
 | o :: os, st, logs, h => by
  simp [z4F, zaH] at h
  cases hs : stepG tt ctr n ops o st with
  | none => simp [hs] at h
  | some q =>
   have ⟨x, r, u⟩ := q
   simp [hs] at h
   have ⟨ls, st', h1, h2, h3⟩ := z2H os _ _ h
   exact ⟨(r, u) :: ls, st', by simp [z8W, hs, h1], by simpa [z3Y, List.append_assoc] using h2, h3⟩
theorem AWP.region (hT : wG P tt) (hC : zO P ctr)   (h : zaG tt ctr n ops ops.toList st (fun st' => Q .normal st')) : AWP P n (.region id ops false) st Q := by
 intro rd m df w0 S0 M S Fp a w hc hs
 have ⟨st', h1, h2⟩ := z3D _ _ h
 exact wpIn_region_list (z5g (C := ⟨n, df, w0, S0, M⟩) hT hC ops.toList hs h1 fun S' Fp' a' w' h' => hc.fin h' h2)
theorem AWP.drawn (hT : wG P tt) (hC : zO P ctr) (hm : P.follows .mixedOrders = true)   (h : z4F tt ctr n ops ops.toList st [] (fun st' => Q .normal st')) : AWP P n (.region id ops true) st Q := by
 intro rd m df w0 S0 M S Fp a w hc hs
 have ⟨ls, st', h1, h2, h3⟩ := z2H _ _ _ h
 refine wpIn_region_any hm (zap (C := ⟨n, df, w0, S0, M⟩) hT hC h1 (by simpa using h2) (fun S' Fp' a' w' h' => hc.fin h' h3) ops.size _ a _ ?_ ?_ ?_)
 ·unfold z5T
  exact Nat.le_trans (List.length_filter_le _ _) (by simp)
 ·intro j o hj hl
  exfalso
  have : j < ops.size := (Array.getElem?_eq_some_iff.1 hj).1
  simp [Array.getD_eq_getD_getElem?, this] at hl
 ·refine ⟨S, Fp, ?_⟩
  have hk : j0 (fun j => (Array.replicate ops.size false).getD j true) 0 ls = [] := by
   have hlen := (Qn h1).1
   have gen : ∀ (ls : List Log) (o : Nat), o + ls.length ≤ ops.size → j0 (fun j => (Array.replicate ops.size false).getD j true) o ls = [] := by
    intro ls
    induction ls with
    | nil => intro o _; rfl
    | cons l ls ih =>
     intro o ho
     simp only [List.length_cons] at ho
     have : o < ops.size := by omega
     simp only [j0]
     rw [ih (o + 1) (by omega)]
     have hf : (Array.replicate ops.size false).getD o true = false := by simp [Array.getD_eq_getD_getElem?, this]
     simp only [hf, Bool.false_eq_true, if_false, List.append_nil]
   exact gen ls 0 (by rw [hlen]; simp)
  rw [hk]
  exact hs.drew
end
def ini (as_ : List A) : St := fun t => match as_[t]? with | some a => ⟨mkT a, 0, 0⟩ | none => z2z
def z4J : Nat → List A → List (Nat × T)
 | _, [] => []
 | i, a :: as_ => (i, mkT a) :: z4J (i + 1) as_
theorem z41 (as_ : List A) : ini as_ = ofL (z4J 0 as_) := by
 have gen : ∀ (as_ : List A) (i t : Nat), ofL (z4J i as_) t = if i ≤ t then (match as_[t - i]? with | some a => ⟨mkT a, 0, 0⟩ | none => z2z) else z2z := by
  intro as_
  induction as_ with
  | nil => intro i t; simp [z4J, ofL]
  | cons a as_ ih =>
   intro i t
   simp [z4J, ofL]
   by_cases h : t = i
   ·subst h; simp
   ·rw [if_neg h, ih]
    by_cases h1 : i ≤ t
    ·have h2 : i + 1 ≤ t := by omega
     simp [h1, h2]
     rw [show t - i = (t - (i + 1)) + 1 from by omega, List.getElem?_cons_succ]
    ·have h2 : ¬ i + 1 ≤ t := by omega
     simp [h1, h2]
 funext t
 rw [gen]
 simp [ini]
def zbw (tt : TT) (keep : Bool) : List Nat → SM A
 | [t] => do
  let e ← rdE t
  match e.t with
  | .d (.tup _) => zt
  | .d a => pure a
  | .own a => if keep = true then pure a else do
    let xs ← shutArgs tt [(.tmp t, 0)]
    match xs with
    | [x] => pure x
    | _ => zt
  | _ => zt
 | [] => pure (.tup [])
 | [t, u] => do
  let xs ← shutArgs tt [(.tmp t, 0), (.tmp u, 0)]
  pure (.tup xs)
 | [t, u, v] => do
  let xs ← shutArgs tt [(.tmp t, 0), (.tmp u, 0), (.tmp v, 0)]
  pure (.tup xs)
 | [t, u, v, x] => do
  let xs ← shutArgs tt [(.tmp t, 0), (.tmp u, 0), (.tmp v, 0), (.tmp x, 0)]
  pure (.tup xs)
 | _ => zt
def zcN (tv : Nat → Value) : List Nat → Value
 | [t] => tv t
 | ts => .tuple (ts.map tv).toArray
variable {ts : List Nat}
section
variable {C : Ctx} {S : zn} {Fp : Nat → List Nat} {X : List Nat} {st : St} {a : Act} {w : World}
theorem z34 {P : Program}   (hr : fn.results = (ts.map ResultVar.tmp).toArray) (hl : ts.length ≤ 4) (a : Act) (w : World) :
  (results fn a.tmps).run P w = .ok (zcN (Act.tv a) ts) w := by
 unfold results
 rw [hr]
 rcases ts with _ | ⟨t, _ | ⟨u, _ | ⟨v, _ | ⟨x, _ | ⟨y, l⟩⟩⟩⟩⟩ <;> first | (simp [Act.tv, zcN]; done) | (simp at hl; done)
theorem za4 {keep : Bool}  (h : Sim C S Fp [] st a w) {x : A}   (e : zbw tt keep ts st = some (x, R, U)) :
  ts.length ≤ 4 ∧ ∃ S' F', (∀ b o u, S b o = some u → S' b o = some u) ∧ (∀ b o, ¬ C.M b → S' b o = C.S0 b o) ∧ wN S' w ∧ Has S' w.heap x (zcN (Act.tv a) ts) F' ∧ F'.Nodup ∧ ∀ k ∈ F', C.M k := by
 have many : ∀ (us : List Nat) {x : A} {R : List Nat} {U : List (Nat × Ent)}, (do let xs ← shutArgs tt (us.map fun t => (Operand.tmp t, 0)); pure (A.tup xs) : SM A) st = some (x, R, U) →
   ∃ S' F', (∀ b o u, S b o = some u → S' b o = some u) ∧ (∀ b o, ¬ C.M b → S' b o = C.S0 b o) ∧ wN S' w ∧ Has S' w.heap x (.tuple (us.map (Act.tv a)).toArray) F' ∧ F'.Nodup ∧ ∀ k ∈ F', C.M k := by
  intro us x R U e
  obtain ⟨xs, R1, U1, R2, U2, h1, e1, rfl, rfl⟩ := bind_some e
  cases e1
  have ⟨S1, Fp1, g1, g2, _, g3⟩ := wS h h1
  have hm : (us.map fun t => (Operand.tmp t, 0)).map (fun p => a.eval p.1) = us.map (Act.tv a) := by rw [List.map_map]; rfl
  rw [hm] at g3
  refine ⟨S1, [], g2, g1.sbase, g1.still, .inl ⟨?_, rfl⟩, by simp, by simp⟩
  simp only [we]
  exact ⟨_, rfl, g3⟩
 rcases ts with _ | ⟨t, _ | ⟨u, _ | ⟨v, _ | ⟨y, _ | ⟨z, l⟩⟩⟩⟩⟩
 ·cases e
  refine ⟨by simp, S, [], fun _ _ _ h => h, h.sbase, h.still, .inl ⟨?_, rfl⟩, by simp, by simp⟩
  simp only [we]
  exact ⟨[], rfl, trivial⟩
 ·refine ⟨by simp, ?_⟩
  simp only [zbw] at e
  obtain ⟨en, R1, U1, R2, U2, h1, e1, rfl, rfl⟩ := bind_some e
  obtain ⟨rfl, rfl, rfl⟩ := qJ h1
  simp only [zl] at e1
  have q := h.ent t
  unfold xV at q
  cases ht : (st t).t with
  | d y =>
   simp only [ht] at e1 q
   by_cases hy : ∃ fs, y = .tup fs
   ·obtain ⟨fs, rfl⟩ := hy; cases e1
   ·have e2 : (pure y : SM A) st = some (x, R2, U2) := by
     cases y <;> first | exact e1 | exact absurd ⟨_, rfl⟩ hy
    cases e2
    exact ⟨S, [], fun _ _ _ h => h, h.sbase, h.still, .inl ⟨q.1, rfl⟩, by simp, by simp⟩
  | own y =>
   simp only [ht] at e1 q
   split at e1
   ·cases e1
    exact ⟨S, Fp t, fun _ _ _ h => h, h.sbase, h.still, .inr (by have ⟨cs, q1, q2, q3⟩ := q; exact ⟨cs, q1, q2, q3⟩), (by have ⟨cs, q1, q2, q3⟩ := q; exact q2), h.base t⟩
   ·obtain ⟨xs, R3, U3, R4, U4, h3, e2, rfl, rfl⟩ := bind_some e1
    have ⟨S1, Fp1, g1, g2, _, g3⟩ := wS h h3
    rcases xs with _ | ⟨x1, _ | ⟨x2, l⟩⟩
    ·cases e2
    ·cases e2
     exact ⟨S1, [], g2, g1.sbase, g1.still, .inl ⟨g3.1.repV, rfl⟩, by simp, by simp⟩
    ·cases e2
  | _ => simp only [ht] at e1; cases e1
 ·exact ⟨by simp, many [t, u] e⟩
 ·exact ⟨by simp, many [t, u, v] e⟩
 ·exact ⟨by simp, many [t, u, v, y] e⟩
 ·exact (w7 (st := st) e).elim
end
theorem z2u : ∀ {as_ : List A} {vs : List Value} {F : List Nat}, YO S h as_ vs F → ∀ k ∈ F, S k 0 = none
 | [], [], F, q, k, hk => by
  have e : F = [] := q
  subst e; simp at hk
 | _ :: _, _ :: _, F, ⟨F1, F2, e, q1, q2⟩, k, hk => by
  subst e
  rcases List.mem_append.1 hk with hk | hk
  ·exact z2u q2 k hk
  ·rcases q1 with ⟨_, rfl⟩ | ⟨cs, c1, _⟩
   ·simp at hk
   ·exact (c1.own k hk).2.1 0
 | [], _ :: _, _, q, _, _ => q.elim
 | _ :: _, [], _, q, _, _ => q.elim
theorem z0r : ∀ {as_ : List A} {vs : List Value} {F : List Nat}, YO S h as_ vs F → F.Nodup →
  ∃ f : Nat → List Nat, (∀ j y, as_[j]? = some y → ∃ v, vs[j]? = some v ∧ Has S h y v (f j)) ∧ (∀ j, as_[j]? = none → f j = []) ∧ (∀ j k, k ∈ f j → k ∈ F) ∧ (∀ i j k, k ∈ f i → k ∈ f j → i = j)
 | [], [], F, _, _ => ⟨fun _ => [], by simp, by simp, by simp, by simp⟩
 | a :: as_, v :: vs, F, q, hn => by
  obtain ⟨F1, F2, rfl, q1, q2⟩ := q
  rw [List.nodup_append] at hn
  have ⟨f, f1, f2, f3, f4⟩ := z0r q2 hn.1
  refine ⟨fun j => match j with | 0 => F1 | j + 1 => f j, ?_, ?_, ?_, ?_⟩
  ·intro j y hj
   cases j with
   | zero => simp at hj; subst hj; exact ⟨v, by simp, q1⟩
   | succ j => simp at hj; have ⟨u, h1, h2⟩ := f1 j y hj; exact ⟨u, by simpa using h1, h2⟩
  ·intro j hj
   cases j with
   | zero => simp at hj
   | succ j => simp at hj; exact f2 j (by simpa using hj)
  ·intro j k hk
   cases j with
   | zero => exact List.mem_append.2 (.inr hk)
   | succ j => exact List.mem_append.2 (.inl (f3 j k hk))
  ·intro i j k hi hj
   cases i with
   | zero =>
    cases j with
    | zero => rfl
    | succ j => exact absurd rfl (hn.2.2 k (f3 j k hj) k hi)
   | succ i =>
    cases j with
    | zero => exact absurd rfl (hn.2.2 k (f3 i k hi) k hj)
    | succ j => rw [f4 i j k hi hj]
 | [], _ :: _, _, q, _ => q.elim
 | _ :: _, [], _, q, _ => q.elim
theorem zai (hpin : ∀ i u, (i, u) ∈ n.pin → vs[i]? = some u) (hS : wN S w) (hq : YO S w.heap as_ vs F) (hF : F.Nodup) (hn : as_.length ≤ n.size) :
  ∃ Fp, Sim ⟨n, [], w, S, fun k => w.heap.size ≤ k ∨ k ∈ F⟩ S Fp [] (ini as_) { tmps := vs.toArray ++ Array.replicate (n.size - vs.toArray.size) undef, defers := [] } w := by
 have ⟨f, f1, f2, f3, f4⟩ := z0r hq hF
 have hl := hq.nil
 have htv : ∀ t v, vs[t]? = some v → Act.tv { tmps := vs.toArray ++ Array.replicate (n.size - vs.toArray.size) undef, defers := [] } t = v := by
  intro t v h1
  have hlt := (List.getElem?_eq_some_iff.1 h1).1
  simp [Act.tv, Array.getD_eq_getD_getElem?]
  rw [Array.getElem?_append_left (by simpa using hlt)]
  simp [h1]
 refine ⟨f, { size := by simp; omega, pin := fun i u hi => htv i _ (hpin i u hi), defers := rfl, below := Xr.refl _ _, mine := ⟨fun k hk => .inl hk, by
   rintro g x e (hk | hk)
   ·have := hS.blk.lt e
    omega
   ·exact hS.blk.ne (z2u hq g hk) x e⟩, still := hS, sinc := fun _ _ _ h => h, sbase := fun _ _ _ => rfl, ent := ?_, disj := f4, base := fun t k hk => .inr (f3 t k hk), xn := by simp, xd := by simp, xb := by simp }⟩
 intro t
 unfold ini
 cases ht : as_[t]? with
 | none =>
  rw [f2 t ht]
  rfl
 | some y =>
  have ⟨v, h1, h2⟩ := f1 t y ht
  have hv : Act.tv { tmps := vs.toArray ++ Array.replicate (n.size - vs.toArray.size) undef, defers := [] } t = v := by
   have hlt := (List.getElem?_eq_some_iff.1 h1).1
   simp [Act.tv, Array.getD_eq_getD_getElem?]
   rw [Array.getElem?_append_left (by simpa using hlt)]
   simp [h1]
  rw [hv]
  dsimp only
  unfold xV
  rcases h2.mkT with ⟨e, q1, q2⟩ | ⟨e, q⟩
  ·simp [e]; exact ⟨q1, q2⟩
  ·simp [e]; exact q
theorem Sim.shutD (h : Sim C S Fp [] st a w) {D : Nat} {o o' : Obj} (hM : C.M D) (hD : w.heap[D]? = some o) (hc : ∀ i, yj w.heap D i = none) (hF : ∀ t, D ∉ Fp t) : Sim C S Fp [] st a (w.putObj D o') := by
 have hlt := (Array.getElem?_eq_some_iff.1 hD).1
 refine h.mem (h.below.trans ⟨rfl, rfl, rfl, Nat.le_refl _, by simp [World.putObj], fun k hk => World.putObj_heap_other (by rintro rfl; exact hk hM)⟩) (fun _ _ _ q => q) ?_ h.sbase ?_ (by simp) (by simp) (by simp)
 ·intro b i v q
  have q2 := h.still b i v q
  have hne : b ≠ D := by rintro rfl; rw [hc] at q2; cases q2
  unfold yj at q2 ⊢
  rw [World.putObj_heap_other hne]
  exact q2
 ·intro t k hk
  have hne : k ≠ D := by rintro rfl; exact hF t hk
  exact ⟨World.putObj_heap_other hne, (h.free t k hk).2.1⟩
theorem z1e {D i : Nat} {x : Option (List Deferred)} (hD : h[D]? = some (.deferred x)) : yj h D i = none := by
 unfold yj
 rw [hD]
theorem z5U {F : Fence} {m : Nat}  {tmps : Array Value} {R : Ending → World → Prop}      (hres : ∀ w, Sim C S Fp [] st a w → ∃ v, (results fn tmps).run P w = .ok v w ∧ R (.returned v) w) :
  ∀ (Ds : List Nat) (w : World), Sim C S Fp [] st a w → Ds.Nodup → (∀ D ∈ Ds, C.M D ∧ w.heap[D]? = some (.deferred (some [])) ∧ ∀ t, D ∉ Fp t) → LeavesInM F m P fn tmps R (Ds.map zaK) .returning w
 | [], w, h, _, _ => hres w h
 | D :: Ds, w, h, hn, hd => by
  rw [List.nodup_cons] at hn
  have ⟨h1, h2, h3⟩ := hd D (by simp)
  refine ⟨by simp, .inl ⟨D, _, rfl, run_takeDeferred h2, z5U hres Ds _ (h.shutD h1 h2 (fun i => z1e h2) h3) hn.2 ?_⟩⟩
  intro D' hD'
  have ⟨q1, q2, q3⟩ := hd D' (by simp [hD'])
  refine ⟨q1, ?_, q3⟩
  rw [World.putObj_heap_other (by rintro rfl; exact hn.1 hD')]
  exact q2
variable {body : Code}
theorem Qu {n : Fr}   {args : List A} {Q : Exit → St → Prop} {R : World → Ending → World → Prop} {S : zn} {w : World} {vs : List Value} {F : List Nat} (hf : P.funcs[k]? = some fn) (hb : fn.body = some body)
  (hn : n.size = fn.ntmps) (hpin : ∀ i u, (i, u) ∈ n.pin → vs[i]? = some u) (ha : args.length ≤ fn.ntmps) (hS : wN S w) (hq : YO S w.heap args vs F) (hF : F.Nodup)
  (h : AWP P n body (ini args) Q)
  (hQ : ∀ ex st', Q ex st' → (ex = .normal ∨ ex = .ret) ∧ ∀ df S' Fp' a' w', Sim ⟨n, df, w, S, fun k => w.heap.size ≤ k ∨ k ∈ F⟩ S' Fp' [] st' a' w' → ∃ v, (results fn a'.tmps).run P w' = .ok v w' ∧ R w (.returned v) w') : Calls P k vs.toArray w (R w) := by
 refine (callsIn_wide (n := 0)).1 (callsIn_of_wp_marks hf hb trivial ?_ rfl)
 have ⟨Fp, hs⟩ := zai (n := n) hpin hS hq hF (by rw [hn]; exact ha)
 rw [hn] at hs
 refine wpIn_mono (h none 0 [] w S _ S Fp _ w ⟨by simp, by simp, by simp⟩ hs) ?_
 rintro ex a' w' ⟨df', st', S', Fp', h1, h2, h3⟩
 have ⟨hx, hQ⟩ := hQ _ _ h3
 have fin : LeavesInM Fence.wide 0 P fn a'.tmps (R w) a'.defers .returning w' := by
  rw [h1.defers]
  exact z5U (C := ⟨n, df', w, S, fun k => w.heap.size ≤ k ∨ k ∈ F⟩) (fun w2 hw2 => hQ _ _ _ _ _ hw2) df' w' h1 h2.nodup fun D hD => ⟨(h2.old D hD).elim (fun q => by simp at q) id, h2.ent D hD, h2.off D hD⟩
 rcases hx with rfl | rfl
 ·exact fin
 ·exact fin
section
variable {P : Program} {n : Fr} {st : St} {Q : Exit → St → Prop} {tt : TT} {ctr : Ctr}
theorem AWP.nextC (live : List Nat)  (h : ∀ K : St → Prop, (∀ st', AWP P n y (Own.canon live st') Q → K st') → AWP P n x st (z2V K Q)) : AWP P n (.seq x y) st Q :=
 AWP.seq (h _ fun _ q => AWP.canon live q)
theorem AWP.condT (hb : z3p st c = some true) (h : AWP P n x st Q) : AWP P n (.cond c x y) st Q := AWP.cond hb (fun _ => h) (fun h => by cases h)
theorem AWP.condF (hb : z3p st c = some false) (h : AWP P n y st Q) : AWP P n (.cond c x y) st Q := AWP.cond hb (fun h => by cases h) (fun _ => h)
end
def z6L (E : St → Prop) : Exit → St → Prop
 | .normal, st => E st
 | .ret, st => E st
 | _, _ => False
def z1H (r : Nat × Option Nat) : ResultVar := match r.2 with | none => .tmp r.1 | some t => .cell r.1 t
def kY (tt : TT) : List (Nat × Option Nat) → List A → Option (List A)
 | [], [] => some []
 | (_, none) :: rs, x :: xs => (kY tt rs xs).map (x :: ·)
 | (_, some t) :: rs, .sptr y :: xs => if Zn tt t y = true then (kY tt rs xs).map (y :: ·) else none
 | _, _ => none
def zbv (tt : TT) (rs : List (Nat × Option Nat)) : SM A := do
 let xs ← shutArgs tt (rs.map fun r => (.tmp r.1, 0))
 match kY tt rs xs with
 | some [y] => pure y
 | some ys => pure (.tup ys)
 | none => zt
theorem XW (g : α → Sem Value) : ∀ (l : List α) (vs : List Value) (acc : Array Value), ZW (fun r v => (g r).run P w = .ok v w) l vs → (l.foldlM (fun bs a => bs.push <$> g a) acc).run P w = .ok (acc ++ vs.toArray) w
 | [], [], acc, _ => by simp
 | r :: l, v :: vs, acc, h => by
  rw [List.foldlM_cons, Sem.run_bind]
  have : (acc.push <$> g r : Sem (Array Value)).run P w = .ok (acc.push v) w := by
   rw [map_eq_pure_bind, Sem.run_bind, h.1]
   simp
  rw [this, Result.andThen_ok, XW g l vs _ h.2]
  simp
 | [], _ :: _, _, h => h.elim
 | _ :: _, [], _, h => h.elim
variable {rs : List (Nat × Option Nat)}
section
variable {C : Ctx} {S : zn} {Fp : Nat → List Nat} {X : List Nat} {st : St} {a : Act} {w : World}
theorem UA (hT : wG P tt)  (hS : wN S w) : ∀ {rs : List (Nat × Option Nat)} {xs ys : List A}, kY tt rs xs = some ys → ZW (u6 S) xs (rs.map fun r => Act.tv a r.1) →
  ∃ vs, ZW (u6 S) ys vs ∧ ZW (fun r v => ((fun r : ResultVar => match r with | .tmp t => (pure (a.tmps.getD t undef) : Sem Value) | .cell b t => do loadVar t (← asAddr (a.tmps.getD b undef))) r).run P w = .ok v w) (rs.map z1H) vs
 | [], [], ys, e, _ => by
  simp only [kY, Option.some.injEq] at e
  subst e
  exact ⟨[], trivial, trivial⟩
 | (t, none) :: rs, x :: xs, ys, e, h => by
  simp only [kY, Option.map_eq_some_iff] at e
  obtain ⟨zs, e, rfl⟩ := e
  have ⟨vs, h1, h2⟩ := UA hT hS e h.2
  exact ⟨Act.tv a t :: vs, ⟨h.1, h1⟩, by simp only [z1H]; exact Sem.run_pure .., h2⟩
 | (t, some ty) :: rs, x :: xs, ys, e, h => by
  cases x with
  | sptr y =>
   simp only [kY] at e
   split at e
   ·rename_i hf
    rw [Option.map_eq_some_iff] at e
    obtain ⟨zs, e, rfl⟩ := e
    have ⟨vs, h1, h2⟩ := UA hT hS e h.2
    have ⟨cs, q1, q2⟩ := h.1
    simp only [Rep] at q1
    obtain ⟨b, o, l, rfl, r1, r2⟩ := q1
    refine ⟨yc y l :: vs, ⟨⟨l, r1, rfl⟩, h1⟩, ?_, h2⟩
    simp only [z1H]
    have hv : a.tmps.getD t undef = .pointer (some ⟨b, o, none⟩) := q2
    rw [hv]
    simp only [asAddr, Sem.run_bind, Sem.run_pure, Result.andThen_ok]
    exact Zb hT hf r1.len (fun j u hj => hS _ _ _ (r2 j u hj))
   ·cases e
  | _ => simp [kY] at e
 | [], _ :: _, _, e, _ => by simp [kY] at e
 | (_, none) :: _, [], _, e, _ => by simp [kY] at e
 | (_, some _) :: _, [], _, e, _ => by simp [kY] at e
theorem za3 {P : Program}  (hT : wG P tt)   (hr : fn.results = (rs.map z1H).toArray) (h : Sim C S Fp [] st a w) {x : A}   (e : zbv tt rs st = some (x, R, U)) :
  ∃ v S', (results fn a.tmps).run P w = .ok v w ∧ (∀ b o u, S b o = some u → S' b o = some u) ∧ (∀ b o, ¬ C.M b → S' b o = C.S0 b o) ∧ wN S' w ∧ we S' x v := by
 unfold zbv at e
 obtain ⟨xs, R1, U1, R2, U2, h1, e1, rfl, rfl⟩ := bind_some e
 have ⟨S1, Fp1, g1, g2, _, g3⟩ := wS h h1
 have hm : (rs.map fun r => (Operand.tmp r.1, 0)).map (fun p => a.eval p.1) = rs.map (fun r => Act.tv a r.1) := by rw [List.map_map]; rfl
 rw [hm] at g3
 cases hg : kY tt rs xs with
 | none => simp only [hg] at e1; cases e1
 | some ys =>
  have ⟨vs, q1, q2⟩ := UA (P := P) hT g1.still hg g3
  have hrun : (results fn a.tmps).run P w = .ok (if h : vs.toArray.size = 1 then vs.toArray[0] else .tuple vs.toArray) w := by
   unfold results
   rw [hr, Array.mapM_eq_foldlM, List.foldlM_toArray, Sem.run_bind]
   have := XW (P := P) (w := w) _ _ vs #[] q2
   rw [Array.empty_append] at this
   exact (congrArg (fun r => Result.andThen r (fun q w' => Sem.run P (pure (if h : q.size = 1 then q[0] else Value.tuple q)) w')) this).trans rfl
  simp only [hg] at e1
  refine ⟨_, S1, hrun, g2, g1.sbase, g1.still, ?_⟩
  rcases ys with _ | ⟨y, _ | ⟨y2, l⟩⟩
  ·cases e1
   cases vs with
   | nil => simp only [we]; exact ⟨[], rfl, trivial⟩
   | cons _ _ => exact q1.elim
  ·cases e1
   rcases vs with _ | ⟨v, _ | ⟨v2, l⟩⟩
   ·exact q1.elim
   ·exact q1.1.repV
   ·exact q1.2.elim
  ·cases e1
   rcases vs with _ | ⟨v, _ | ⟨v2, l2⟩⟩
   ·exact q1.elim
   ·exact q1.2.elim
   ·simp only [we]
    exact ⟨v :: v2 :: l2, by simp, q1⟩
end
def zdq : List A → A
 | [x] => x
 | ys => .tup ys
section
variable {C : Ctx} {S : zn} {Fp : Nat → List Nat} {X : List Nat} {st : St} {a : Act} {w : World}
theorem z1W {P : Program}  (hT : wG P tt)   (hr : fn.results = (rs.map z1H).toArray)  (hS : wN S w) {xs ys : List A} (hg : kY tt rs xs = some ys) (h3 : ZW (u6 S) xs (rs.map fun r => Act.tv a r.1)) :
  ∃ v, (results fn a.tmps).run P w = .ok v w ∧ we S (zdq ys) v := by
 have ⟨vs, q1, q2⟩ := UA (P := P) hT hS hg h3
 refine ⟨if h : vs.toArray.size = 1 then vs.toArray[0] else .tuple vs.toArray, ?_, ?_⟩
 ·unfold results
  rw [hr, Array.mapM_eq_foldlM, List.foldlM_toArray, Sem.run_bind]
  have := XW (P := P) (w := w) _ _ vs #[] q2
  rw [Array.empty_append] at this
  exact (congrArg (fun r => Result.andThen r (fun q w' => Sem.run P (pure (if h : q.size = 1 then q[0] else Value.tuple q)) w')) this).trans rfl
 ·rcases ys with _ | ⟨y, _ | ⟨y2, l⟩⟩
  ·cases vs with
   | nil => simp [we]; exact ⟨[], rfl, trivial⟩
   | cons _ _ => exact q1.elim
  ·rcases vs with _ | ⟨v, _ | ⟨v2, l⟩⟩
   ·exact q1.elim
   ·exact q1.1.repV
   ·exact q1.2.elim
  ·rcases vs with _ | ⟨v, _ | ⟨v2, l2⟩⟩
   ·exact q1.elim
   ·exact q1.2.elim
   ·simp [we]
    exact ⟨v :: v2 :: l2, by simp, q1⟩
end
structure wI where
 α : Type
 k : Nat
 raw : Bool
 gives : List Bool
 enc : α → List A
 pre : α → Prop
 f : α → A
 inj : ∀ x y, enc x = enc y → pre x → pre y → f x = f y
structure Ctr.Has (c : Ctr) (s : wI) : Prop where
 run : ∀ x, s.pre x → c.run s.k (s.enc x) = some (s.f x)
 gives : c.gives s.k = s.gives
 raw : c.raw s.k = s.raw
def wI.Ok (P : Program) (s : wI) : Prop := ∀ x, s.pre x → XJ P s.k (s.enc x) (s.f x)
open Classical in
noncomputable def Ctr.add (c : Ctr) (s : wI) : Ctr := {
 run := fun k as_ => if k = s.k then (if h : ∃ x, s.enc x = as_ ∧ s.pre x then some (s.f h.choose) else none) else c.run k as_
 gives := fun k => if k = s.k then s.gives else c.gives k
 raw := fun k => if k = s.k then s.raw else c.raw k }
theorem Ctr.add_has (c : Ctr) (s : wI) : (c.add s).Has s := {
 run := fun x hx => by
  have h : ∃ y, s.enc y = s.enc x ∧ s.pre y := ⟨x, rfl, hx⟩
  simp [Ctr.add, dif_pos h, Option.some.injEq]
  exact s.inj _ _ h.choose_spec.1 h.choose_spec.2 hx
 gives := by simp [Ctr.add]
 raw := by simp [Ctr.add] }
theorem Ctr.Has.add {c : Ctr} {s t : wI} (h : c.Has t) (hk : t.k ≠ s.k) : (c.add s).Has t := {
 run := fun x hx => by simp [Ctr.add, if_neg hk]; exact h.run x hx
 gives := by simp [Ctr.add, if_neg hk]; exact h.gives
 raw := by simp [Ctr.add, if_neg hk]; exact h.raw }
theorem Ctr.add_ok {c : Ctr} {s : wI} (hc : zO P c) (hs : s.Ok P) : zO P (c.add s) := by
 refine ⟨?_, KQ.none P⟩
 ·intro k as_ r e
  simp [Ctr.add] at e
  split at e
  ·rename_i hk
   split at e
   ·rename_i h
    simp [Option.some.injEq] at e
    subst e hk
    have q := hs _ h.choose_spec.2
    rw [h.choose_spec.1] at q
    exact q
   ·cases e
  ·exact hc.1 _ _ _ e
def Qt : Ctr := { run := fun _ _ => none, gives := fun _ => [] }
theorem z3o (P : Program) : zO P Qt := ⟨fun _ _ _ h => (by cases h), KQ.none P⟩
noncomputable def zaq : List wI → Ctr
 | [] => Qt
 | s :: l => (zaq l).add s
def Qv (P : Program) : List wI → Prop
 | [] => True
 | s :: l => (∀ c, zO P c → (∀ t ∈ l, c.Has t) → s.Ok P) ∧ (∀ t ∈ l, t.k ≠ s.k) ∧ Qv P l
theorem z4f : ∀ {l : List wI}, Qv P l → zO P (zaq l) ∧ ∀ t ∈ l, (zaq l).Has t
 | [], _ => ⟨z3o P, fun _ h => by cases h⟩
 | s :: l, h => by
  have ⟨h1, h2⟩ := z4f h.2.2
  refine ⟨Ctr.add_ok h1 (h.1 _ h1 h2), fun t ht => ?_⟩
  rcases List.mem_cons.1 ht with rfl | ht
  ·exact Ctr.add_has _ _
  ·exact (h2 t ht).add (h.2.1 t ht)
theorem z4G {l : List wI} (h : Qv P l) {s : wI} (hs : s ∈ l) : s.Ok P := by
 intro x hx
 have ⟨h1, h2⟩ := z4f h
 exact h1.1 _ _ _ ((h2 s hs).run x hx)
abbrev I (x : Int) : A := .atom (.int .i64 x)
abbrev B (x : Bool) : A := .atom (.bool x)
theorem z0o (f : α → A) (l : List α) : A.looses (l.map f) = l.map fun x => (f x).loose := by rw [A.looses_eq, List.map_map]; rfl
theorem JQ (f : α → A) : ∀ (l : List α), A.shuts (l.map f) = l.map fun x => (f x).shut
 | [] => rfl
 | x :: l => by simp [A.shuts, JQ f l]
theorem z4l (f : α → A) : ∀ (l : List α), (∀ x, (f x).isD = true) → A.areD (l.map f) = true
 | [], _ => rfl
 | x :: l, h => by simp [A.areD, h x, z4l f l h]
theorem Kj (f : α → A) : ∀ (l : List α), (∀ x, (f x).live = true) → A.lives (l.map f) = true
 | [], _ => rfl
 | x :: l, h => by simp [A.lives, h x, Kj f l h]
theorem Has.frame {S S' : zn} {h h' : Array Obj} (hS : ∀ b o v, S b o = some v → S' b o = some v) {a : A}   (q : Has S h a v F) (hF : ∀ k ∈ F, h'[k]? = h[k]? ∧ ∀ o, S' k o = none) : Has S' h' a v F := by
 rcases q with ⟨q, rfl⟩ | ⟨cs, q1, q2, q3⟩
 ·exact .inl ⟨q.mono hS, rfl⟩
 ·exact .inr ⟨cs, q1.frame hS hF, q2, q3⟩
theorem Has.own {a : A}   (q : Has S h a v F) : ∀ k ∈ F, k < h.size ∧ ∀ o, S k o = none := by
 rcases q with ⟨_, rfl⟩ | ⟨cs, q1, _, _⟩
 ·simp
 ·exact fun k hk => ⟨(q1.own k hk).1, (q1.own k hk).2.1⟩
theorem z43 {a : A}   (hd : a.isD = true) (q : Has S h a v F) : u6 S a v ∧ F = [] := by
 rcases q with ⟨q, e⟩ | ⟨cs, q1, q2, q3⟩
 ·exact ⟨q.rep1 hd, e⟩
 ·have ⟨r, e⟩ := q1.isD hd
  exact ⟨⟨cs, r, q3⟩, e⟩
theorem z4o {α β : Type} {R : α → β → Prop} : ∀ {l : List α} {m : List β}, ZW R l m → l.length = m.length
 | [], [], _ => rfl
 | _ :: _, _ :: _, q => by simp [z4o q.2]
 | [], _ :: _, q => q.elim
 | _ :: _, [], q => q.elim
theorem JF {α β : Type} {R : α → β → Prop} : ∀ {l : List α} {m : List β} {l' : List α} {m' : List β}, ZW R l m → ZW R l' m' → ZW R (l ++ l') (m ++ m')
 | [], [], _, _, _, q => q
 | _ :: _, _ :: _, _, _, p, q => ⟨p.1, JF p.2 q⟩
 | [], _ :: _, _, _, q, _ => q.elim
 | _ :: _, [], _, _, q, _ => q.elim
def WO : List (Nat × Value) → Nat → Option Value
 | [], _ => none
 | p :: ps, k => if p.1 = k then some p.2 else WO ps k
theorem vL : ∀ {ps : List (Nat × Value)} {k : Nat} {v : Value}, WO ps k = some v → (k, v) ∈ ps
 | p :: ps, k, v, h => by
  simp [WO] at h
  split at h
  ·rename_i e
   simp [Option.some.injEq] at h
   subst e; subst h
   exact List.mem_cons_self
  ·exact List.mem_cons_of_mem _ (vL h)
def refT (tt : TT) (n : Fr) (ty : Nat) (x : T) : SM A :=
 match x with
 | .als r p er ec =>
  match WO n.pin r with
  | some v => do
   let e ← rdE r
   match e.t with
   | .own x => if p = [] ∧ e.er = er ∧ z6N x = true then pure (.atom v) else shutT tt ty (.als r p er ec)
   | _ => shutT tt ty (.als r p er ec)
  | none => shutT tt ty (.als r p er ec)
 | x => shutT tt ty x
def refArgs (tt : TT) (n : Fr) : List (Operand × Nat) → SM (List A)
 | [] => pure []
 | (x, t) :: as_ => do
  let y ← opnd x
  let a ← refT tt n t y
  let bs ← refArgs tt n as_
  pure (a :: bs)
def lentA (n : Fr) (s : Nat) : SM (Value × A) :=
 match WO n.pin s with
 | some v => do
  let e ← rdE s
  match e.t with
  | .own x =>
   if z6N x = true then do
    wrE s ⟨.own (.dead 1), e.er, e.ec + 1⟩
    pure (v, x)
   else zt
  | _ => zt
 | none => zt
def lentsA (n : Fr) : List Nat → SM (List (Value × A))
 | [] => pure []
 | s :: ss => do
  let q ← lentA n s
  let r ← lentsA n ss
  pure (q :: r)
def backA (s : Nat) (y : A) : SM Unit := do
 let e ← rdE s
 match e.t with
 | .own (.dead _) => if z6N y = true then wrE s ⟨.own y, e.er, e.ec + 1⟩ else zt
 | _ => zt
def backsA : List Nat → List A → SM Unit
 | [], [] => pure ()
 | s :: ss, y :: ys => do
  backA s y
  backsA ss ys
 | _, _ => zt
def zes (P : Program) (fvv : Value) (avs : List Value) (w : World) (R : Value → World → Prop) : Prop :=
 (∃ k caps fn, fvv = .func (.func k) #[] caps ∧ P.funcs[k]? = some fn ∧ (fn.name == "runtime.NumGoroutine") = false ∧ fn.body.isNone = false ∧ Calls P k (avs.toArray ++ caps) w (fun e w' => ∃ v, e = .returned v ∧ R v w')) ∨
 (∃ L q, fvv = .func (.yield L) #[] #[] ∧ w.heap[L]? = some (.loop q) ∧ avs.length = q.params.size ∧
  ∀ rd m, RoundIn (fen rd) m P L q.fn ((q.params.zip avs.toArray).foldl (fun tmps (t, a) => tmps.setIfInBounds t a) q.tmps) q.assign q.body w (fun e w' => ∃ v, e = .returned v ∧ R v w'))
def qQ (P : Program) (f : A) (args : List A) (ls : List (Value × A)) (r : A) (ys : List A) : Prop :=
 ∀ (S : zn) (w : World) (fv : Value) (vs : List Value) (F : List Nat), wN S w → u6 S f fv → ZW (u6 S) args vs → YO S w.heap (ls.map (·.2)) (ls.map (·.1)) F → F.Nodup →
  zes P fv vs w fun v w' => ∃ S' F' G, Xr (fun k => w.heap.size ≤ k ∨ k ∈ F) w w' ∧ (∀ b o u, S b o = some u → S' b o = some u) ∧ (∀ b o, b < w.heap.size → b ∉ F → S' b o = S b o) ∧ wN S' w' ∧ Has S' w'.heap r v F' ∧ YO S' w'.heap ys (ls.map (·.1)) G ∧
   (G ++ F').Nodup ∧ ∀ k ∈ G ++ F', w.heap.size ≤ k ∨ k ∈ F
def lentQ (tt : TT) (tab : A → List A → List (Value × A) → Option (A × List A)) (n : Fr) (dst : Option Nat) (f : Operand) (as_ : List (Operand × Nat)) (L : List Nat) : SM Unit := do
 let fs ← refArgs tt n [(f, 0)]
 let xs ← refArgs tt n as_
 let ls ← lentsA n L
 match fs with
 | [fa] =>
  match tab fa xs ls with
  | some (r, ys) => do
   backsA L ys
   wrT n dst (mkT r)
  | none => zt
 | _ => zt
variable {tab : A → List A → List (Value × A) → Option (A × List A)}
section
variable {C : Ctx} {S : zn} {Fp : Nat → List Nat} {X : List Nat} {st : St} {a : Act} {w : World}
theorem za6 (h : Sim C S Fp X st a w)   {x : T}  (hx : TOk S w.heap st (Act.tv a) x v) {y : A}   (e : refT tt C.n t x st = some (y, R, U)) :
  ∃ S' Fp', Sim C S' Fp' X (zl U st) a w ∧ (∀ b o u, S b o = some u → S' b o = some u) ∧ u6 S' y v := by
 have other : shutT tt t x st = some (y, R, U) → ∃ S' Fp', Sim C S' Fp' X (zl U st) a w ∧ (∀ b o u, S b o = some u → S' b o = some u) ∧ u6 S' y v := fun e => by
  have ⟨S', Fp', h1, h2, _, h3⟩ := V9 h hx e
  exact ⟨S', Fp', h1, h2, h3⟩
 cases x with
 | als r p er ec =>
  simp only [refT] at e
  have oth : ∀ {y : A} {R : List Nat} {U : List (Nat × Ent)}, shutT tt t (.als r p er ec) st = some (y, R, U) → ∃ S' Fp', Sim C S' Fp' X (zl U st) a w ∧ (∀ b o u, S b o = some u → S' b o = some u) ∧ u6 S' y v := fun e => by
   have ⟨S', Fp', h1, h2, _, h3⟩ := V9 h hx e
   exact ⟨S', Fp', h1, h2, h3⟩
  cases hu : WO C.n.pin r with
  | none => simp only [hu] at e; exact other e
  | some u =>
  simp only [hu] at e
  have ⟨_, e1⟩ := bD e
  cases ht : (st r).t with
  | own x0 =>
   simp only [ht] at e1
   split at e1
   ·rename_i hc
    cases e1
    obtain ⟨rfl, hc1, hc2⟩ := hc
    refine ⟨S, Fp, h, fun _ _ _ q => q, ?_⟩
    have hr := h.ent r
    unfold xV at hr
    simp only [ht] at hr
    have ⟨cs, c1, c2, c3⟩ := hr
    have hv : v = Act.tv a r := by
     have := hx.2.2
     simp only [ht] at this
     rcases this hc1 (.inl trivial) with ⟨_, hv⟩ | ⟨ho, _⟩
     ·exact hv
     ·simp [Vn] at ho
    have hp : Act.tv a r = u := h.pin r u (vL hu)
    rw [uE]
    refine ⟨hv.trans hp, ?_⟩
    have hcs := Jy hc2 c1
    have := c1.one1 (Vd hc2) (yc x0 cs) (by have q := List.mem_singleton_self (yc x0 cs); rwa [← hcs] at q)
    rw [← hp, c3]
    exact this
   ·exact oth e1
  | _ => simp only [ht] at e1; exact oth e1
 | own _ => exact hx.elim
 | gone => exact hx.elim
 | _ => exact other e
theorem Qj : ∀ {bs : List (Operand × Nat)} {S : zn} {Fp : Nat → List Nat} {st : St}, Sim C S Fp X st a w → ∀ {xs : List A} {R : List Nat} {U : List (Nat × Ent)}, refArgs tt C.n bs st = some (xs, R, U) →
  ∃ S' Fp', Sim C S' Fp' X (zl U st) a w ∧ (∀ b o u, S b o = some u → S' b o = some u) ∧ ZW (u6 S') xs (bs.map fun p => a.eval p.1)
 | [], S, Fp, st, h, xs, R, U, e => by
  cases e
  exact ⟨S, Fp, h, fun _ _ _ q => q, trivial⟩
 | (x, t) :: bs, S, Fp, st, h, xs, R, U, e => by
  simp [refArgs] at e
  have ⟨y, _, hx, e1⟩ := bR (zD h) e
  obtain ⟨z, R3, U3, R4, U4, h3, e2, rfl, rfl⟩ := bind_some e1
  have ⟨S1, Fp1, g1, g2, g3⟩ := za6 h hx h3
  obtain ⟨zs, R5, U5, R6, U6, h5, e3, rfl, rfl⟩ := bind_some e2
  have ⟨S2, Fp2, k1, k2, k3⟩ := Qj g1 h5
  cases e3
  rw [List.append_nil, zz]
  exact ⟨S2, Fp2, k1, fun b o u q => k2 _ _ _ (g2 _ _ _ q), g3.mono k2, k3⟩
theorem z7Q (h : Sim C S Fp X st a w) {s : Nat} {q : Value × A}   (e : lentA C.n s st = some (q, R, U)) :
  ∃ Fp' F, Sim C S Fp' (F ++ X) (zl U st) a w ∧ Has S w.heap q.2 q.1 F ∧ Act.tv a s = q.1 := by
 simp only [lentA] at e
 cases hu : WO C.n.pin s with
 | none => simp only [hu] at e; cases e
 | some u =>
 simp only [hu] at e
 have ⟨_, e1⟩ := bD e
 cases ht : (st s).t with
 | own x =>
  simp only [ht] at e1
  split at e1
  ·rename_i ho
   obtain ⟨u5, R5, U5, R6, U6, h5, h6, rfl, rfl⟩ := bind_some e1
   cases h5
   cases h6
   simp only [List.append_nil, zl]
   have hr := h.ent s
   unfold xV at hr
   simp only [ht] at hr
   have ⟨cs, c1, c2, c3⟩ := hr
   have hp : Act.tv a s = u := h.pin s u (vL hu)
   have hcs := Jy ho c1
   have hone : (yc x cs).oneCell' = true := c1.one1 (Vd ho) _ (by have q := List.mem_singleton_self (yc x cs); rwa [← hcs] at q)
   refine ⟨Qc Fp s [], Fp s, ?_, .inr ⟨cs, c1, c2, by rw [← hp]; exact c3⟩, hp⟩
   refine h.change s (.own (.dead 1)) _ _ [] h.below (fun _ _ _ q => q) h.still.cell h.sbase (fun t k _ hk => ⟨rfl, (h.free t k hk).2.1⟩) ⟨⟨[Act.tv a s], ?_, List.nodup_nil, rfl⟩, x, ht⟩ (.inl ⟨x, ht⟩) (Nat.le_refl _) (Nat.lt_succ_self _) (by simp) (by simp) ?_ ?_ (by simp) ?_
   ·simp only [zH]
    refine ⟨rfl, ?_, trivial⟩
    intro v hv
    simp only [List.mem_cons, List.not_mem_nil, or_false] at hv
    rw [hv, c3]; exact hone
   ·rw [List.nodup_append]
    exact ⟨c2, h.xn, fun k hk k' hk' e => h.xd s k' hk' (e ▸ hk)⟩
   ·intro t k hts hk
    rcases List.mem_append.1 hk with hk | hk
    ·exact fun hk' => hts (h.disj t s k hk' hk)
    ·exact h.xd t k hk
   ·intro k hk
    rcases List.mem_append.1 hk with hk | hk
    ·exact h.base s k hk
    ·exact h.xb k hk
  ·cases e1
 | _ => simp only [ht] at e1; cases e1
theorem z2l : ∀ {L : List Nat} {Fp : Nat → List Nat} {X : List Nat} {st : St}, Sim C S Fp X st a w → ∀ {ls : List (Value × A)} {R : List Nat} {U : List (Nat × Ent)}, lentsA C.n L st = some (ls, R, U) →
  ∃ Fp' F, Sim C S Fp' (F ++ X) (zl U st) a w ∧ YO S w.heap (ls.map (·.2)) (ls.map (·.1)) F ∧ ls.map (·.1) = L.map (Act.tv a)
 | [], Fp, X, st, h, ls, R, U, e => by
  cases e
  exact ⟨Fp, [], h, rfl, rfl⟩
 | s :: L, Fp, X, st, h, ls, R, U, e => by
  simp [lentsA] at e
  obtain ⟨q, R1, U1, R2, U2, h1, e1, rfl, rfl⟩ := bind_some e
  have ⟨Fp1, F1, g1, g2, g3⟩ := z7Q h h1
  obtain ⟨zs, R5, U5, R6, U6, h5, e3, rfl, rfl⟩ := bind_some e1
  have ⟨Fp2, F2, k1, k2, k3⟩ := z2l g1 h5
  cases e3
  rw [List.append_nil, zz]
  exact ⟨Fp2, F2 ++ F1, by rw [List.append_assoc]; exact k1, ⟨F1, F2, rfl, g2, k2⟩, by simp [k3, g3]⟩
theorem z8p (h : Sim C S Fp (F ++ X) st a w) {s : Nat} {y : A} (hy : Has S w.heap y (Act.tv a s) F)    (e : backA s y st = some (u, R, U)) : ∃ Fp', Sim C S Fp' X (zl U st) a w := by
 simp [backA] at e
 obtain ⟨en, R1, U1, R2, U2, h1, e1, rfl, rfl⟩ := bind_some e
 obtain ⟨rfl, rfl, rfl⟩ := qJ h1
 simp [zl, List.nil_append] at e1 ⊢
 have gone : (∀ m, (st s).t ≠ .own (.dead m)) → ∃ Fp', Sim C S Fp' X (zl U2 st) a w := fun hne => by
  cases ht : (st s).t with
  | own x => cases x <;> simp [ht] at e1 <;> first | cases e1 | exact absurd ht (hne _)
  | _ => simp [ht] at e1; cases e1
 by_cases hm : ∃ m, (st s).t = .own (.dead m)
 ·have ⟨m, ht⟩ := hm
  simp [ht] at e1
  split at e1
  ·rename_i ho
   cases e1
   simp [zl]
   have hx := h.xn
   rw [List.nodup_append] at hx
   have notup : ∀ fs, y ≠ .tup fs := by rintro fs rfl; simp [z6N] at ho
   have ⟨cz, z1, z2, z3⟩ := hy.cells notup
   refine ⟨Qc Fp s F, ?_⟩
   exact h.change s (.own y) _ _ F h.below (fun _ _ _ q => q) h.still.cell h.sbase (fun t k _ hk => ⟨rfl, (h.free t k hk).2.1⟩) ⟨⟨cz, z1, z2, z3⟩, _, ht⟩ (.inl ⟨_, ht⟩) (Nat.le_refl _) (Nat.lt_succ_self _)
    (fun t k _ hk => h.xd t k (by simp [hk])) (fun k hk => h.xb k (by simp [hk])) hx.2.1 (fun t k _ hk => h.xd t k (by simp [hk])) (fun k hk hk' => hx.2.2 k hk' k hk rfl) (fun k hk => h.xb k (by simp [hk]))
  ·cases e1
 ·exact gone fun m he => hm ⟨m, he⟩
theorem z2J : ∀ {L : List Nat} {ys : List A} {F X : List Nat} {Fp : Nat → List Nat} {st : St}, Sim C S Fp (F ++ X) st a w → YO S w.heap ys (L.map (Act.tv a)) F → ∀ {u : Unit} {R : List Nat} {U : List (Nat × Ent)}, backsA L ys st = some (u, R, U) →
  ∃ Fp', Sim C S Fp' X (zl U st) a w
 | [], [], F, X, Fp, st, h, hy, u, R, U, e => by
  cases e
  have : F = [] := hy
  subst this
  exact ⟨Fp, h⟩
 | s :: L, y :: ys, F, X, Fp, st, h, hy, u, R, U, e => by
  simp [backsA] at e
  obtain ⟨q, R1, U1, R2, U2, h1, e1, rfl, rfl⟩ := bind_some e
  obtain ⟨F1, F2, rfl, y1, y2⟩ := hy
  have hperm : Sim C S Fp (F1 ++ (F2 ++ X)) st a w := { h with
   xn := by
    have := h.xn
    rw [List.append_assoc] at this
    rw [List.nodup_append] at this ⊢
    have ⟨p1, p2, p3⟩ := this
    rw [List.nodup_append] at p2 ⊢
    have ⟨p4, p5, p6⟩ := p2
    refine ⟨p4, ⟨p1, p5, fun k hk k' hk' => p3 k hk k' (by simp [hk'])⟩, fun k hk k' hk' => ?_⟩
    rcases List.mem_append.1 hk' with q | q
    ·exact fun e => p3 k' q k (by simp [hk]) e.symm
    ·exact p6 k hk k' q
   xd := fun t k hk => h.xd t k (by simp [List.mem_append] at hk ⊢; rcases hk with hk | hk | hk <;> simp [hk])
   xb := fun k hk => h.xb k (by simp [List.mem_append] at hk ⊢; rcases hk with hk | hk | hk <;> simp [hk]) }
  have ⟨Fp1, g1⟩ := z8p hperm y1 h1
  rw [zz]
  exact z2J (by simpa using g1) y2 e1
 | [], _ :: _, _, _, _, _, _, _, _, _, _, e => (w7 e).elim
 | _ :: _, [], _, _, _, _, _, _, _, _, _, e => (w7 e).elim
theorem z96 {P : Program}  {a : Act} {w : World} {f : Operand} {args : Array Operand} {tys : Array TypeId} (ho : o.op = .call { callee := .value f, args := args, argTypes := tys }) {R : Value → World → Prop} (h : zes P (a.eval f) (args.map a.eval).toList w R) (rd : Option Nat) (m : Nat) (K : Act → World → Prop)
  (Q : Exit → Act → World → Prop) (hK : ∀ v w', R v w' → K (a.put o.dst v) w') : o.wpIn (fen rd) m P a w K Q := by
 rcases h with ⟨k, caps, fn, h1, h2, h3, h4, h5⟩ | ⟨L, q, h1, h2, h3, h4⟩
 ·have hexec : (execOp a.eval o).run P w = .ok (.enter k ((args.map a.eval).toList.toArray ++ caps)) w := by
   have hc := Qh (P := P) h2 h3 h4 (args.map a.eval ++ caps) w
   simp only [execOp, ho, resolve, h1, Deferred.ofValue, Sem.run_bind, Sem.run_pure, Result.andThen_ok, invoke, Array.empty_append]
   rw [hc]
  refine ⟨fun _ _ => trivial, ?_⟩
  rw [Xx hexec (by simp), Oper.uponIn_enter]
  refine ⟨fun h => (by cases h), CallsIn.mono (UC h5 rd (m - 1)) ?_⟩
  rintro e w' ⟨v, rfl, hr⟩
  exact hK v w' hr
 ·have hexec : (execOp a.eval o).run P w = .ok (.round L q.fn ((q.params.zip (args.map a.eval).toList.toArray).foldl (fun tmps (t, a) => tmps.setIfInBounds t a) q.tmps) q.assign q.body) w := by
   have hy := run_yield (P := P) (args := args.map a.eval) h2 (by simpa using h3)
   simp only [execOp, ho, resolve, h1, Deferred.ofValue, Sem.run_bind, Sem.run_pure, Result.andThen_ok, invoke, Array.empty_append]
   rw [hy]
  refine ⟨fun _ _ => trivial, ?_⟩
  rw [Xx hexec (by simp), Oper.uponIn_round]
  refine ⟨fun h => (by cases h), (h4 rd (m - 1)).mono ?_⟩
  rintro e w' ⟨v, rfl, hr⟩
  exact hK v w' hr
theorem Sim.lentCall (h : Sim C S Fp (X ++ []) st a w) {S' : zn} {w' : World} {Y : List Nat} (b1 : Xr (fun k => w.heap.size ≤ k ∨ k ∈ X) w w') (b2 : ∀ b o u, S b o = some u → S' b o = some u) (b3 : ∀ b o, b < w.heap.size → b ∉ X → S' b o = S b o) (b4 : wN S' w')
  (b5 : Y.Nodup) (b6 : ∀ k ∈ Y, w.heap.size ≤ k ∨ k ∈ X) : Sim C S' Fp Y st a w' := by
 rw [List.append_nil] at h
 have hM : ∀ k, (w.heap.size ≤ k ∨ k ∈ X) → C.M k := fun k hk => hk.elim (fun hk => h.mine k (Nat.le_trans h.base_le hk)) (fun hk => h.xb k hk)
 have hno : ∀ t k, k ∈ Fp t → ¬ (w.heap.size ≤ k ∨ k ∈ X) := by
  rintro t k hk (hq | hq)
  ·have := (h.free t k hk).1; omega
  ·exact h.xd t k hq hk
 refine h.mem (h.below.trans (b1.mono hM)) b2 b4 ?_ ?_ b5 (fun t k hk hkt => hno t k hkt (b6 k hk)) (fun k hk => hM k (b6 k hk))
 ·intro b o hb
  rcases Nat.lt_or_ge b w.heap.size with hlt | hge
  ·rw [b3 b o hlt (fun hF => hb (hM b (.inr hF)))]
   exact h.sbase b o hb
  ·exact absurd (hM b (.inl hge)) hb
 ·intro t k hk
  refine ⟨b1.block k (hno t k hk), fun o => ?_⟩
  rw [b3 k o (h.free t k hk).1 (fun hF => hno t k hk (.inr hF))]
  exact (h.free t k hk).2.1 o
theorem z7O {tt : TT}  (htab : ∀ f xs ls r ys, tab f xs ls = some (r, ys) → qQ P f xs ls r ys) (h : Sim C S Fp [] st a w) {op : Oper} {f : Operand} {args : Array Operand} {tys : Array TypeId} {L : List Nat}
  (ho : op.op = .call { callee := .value f, args := args, argTypes := tys }) (hsz : args.size = tys.size) {u : Unit} {R : List Nat} {U : List (Nat × Ent)}
  (e : lentQ tt tab C.n op.dst f (args.toList.zip tys.toList) L st = some (u, R, U)) : qE P C op a w (zl U st) := by
 unfold lentQ at e
 obtain ⟨fs, R1, U1, R2, U2, e1, e2, rfl, rfl⟩ := bind_some e
 obtain ⟨S1, Fp1, g1, g2, g3⟩ := Qj h e1
 obtain ⟨xs, R3, U3, R4, U4, e3, e4, rfl, rfl⟩ := bind_some e2
 obtain ⟨S2, Fp2, j1, j2, j3⟩ := Qj g1 e3
 obtain ⟨ls, R5, U5, R6, U6, e5, e6, rfl, rfl⟩ := bind_some e4
 obtain ⟨Fp3, F, k1, k2, k3⟩ := z2l j1 e5
 rw [zz, zz, zz]
 have hmapargs : (args.toList.zip tys.toList).map (fun p => a.eval p.1) = (args.map a.eval).toList := by
  have : (args.toList.zip tys.toList).map (fun p => a.eval p.1) = ((args.toList.zip tys.toList).map (·.1)).map a.eval := by rw [List.map_map]; rfl
  rw [this, List.map_fst_zip (by simp [hsz])]
  simp
 rw [hmapargs] at j3
 rcases fs with _ | ⟨fa, _ | ⟨f2, fs⟩⟩
 ·exact g3.elim
 ·simp only at e6
  cases hr : tab fa xs ls with
  | none => simp [hr] at e6; cases e6
  | some q =>
   obtain ⟨r, ys⟩ := q
   simp [hr] at e6
   have hF : F.Nodup := by simpa using k1.xn
   have hact := htab _ _ _ _ _ hr S2 w (a.eval f) _ F j1.still (g3.1.mono j2) j3 k2 hF
   intro rd m K Q hK
   refine z96 ho hact rd m K Q ?_
   rintro v w' ⟨S', F', G, b1, b2, b3, b4, b5, b6, b7, b8⟩
   have hs' := k1.lentCall b1 b2 b3 b4 b7 b8
   obtain ⟨u1, R11, U11, R12, U12, e11, e12, rfl, rfl⟩ := bind_some e6
   rw [k3] at b6
   obtain ⟨Fp4, m1⟩ := z2J (F := G) (X := F') hs' b6 e11
   rw [zz] at hK
   obtain ⟨Fp5, m2⟩ := z0a (X := []) (by simpa using m1) e12 b5
   exact hK _ _ _ _ m2
 ·exact g3.2.elim
end
theorem Loc.refT (tt : TT) (n : Fr) (t : Nat) (x : T) : Loc (refT tt n t x) := by
 unfold Go.Own.refT
 split
 ·split
  ·refine Loc.bind (Loc.rdE _) fun e => ?_
   split
   ·exact Loc.ite (Loc.pure _) (Loc.shutT _ _ _)
   ·exact Loc.shutT _ _ _
  ·exact Loc.shutT _ _ _
 ·exact Loc.shutT _ _ _
theorem Loc.refArgs (tt : TT) (n : Fr) : ∀ bs, Loc (refArgs tt n bs)
 | [] => Loc.pure _
 | (x, t) :: bs => Loc.bind (Loc.opnd x) fun _ => Loc.bind (Loc.refT tt n t _) fun _ => Loc.bind (Loc.refArgs tt n bs) fun _ => Loc.pure _
theorem Loc.lentA (n : Fr) (s : Nat) : Loc (lentA n s) := by
 unfold Go.Own.lentA
 split
 ·refine Loc.bind (Loc.rdE _) fun e => ?_
  split
  ·exact Loc.ite (Loc.bind (Loc.wrE _ _) fun _ => Loc.pure _) Loc.fail
  ·exact Loc.fail
 ·exact Loc.fail
theorem Loc.lentsA (n : Fr) : ∀ L, Loc (lentsA n L)
 | [] => Loc.pure _
 | s :: L => Loc.bind (Loc.lentA n s) fun _ => Loc.bind (Loc.lentsA n L) fun _ => Loc.pure _
theorem Loc.backA (s : Nat) (y : A) : Loc (backA s y) := by
 unfold Go.Own.backA
 refine Loc.bind (Loc.rdE _) fun e => ?_
 split
 ·exact Loc.ite (Loc.wrE _ _) Loc.fail
 ·exact Loc.fail
theorem Loc.backsA : ∀ L ys, Loc (backsA L ys)
 | [], [] => Loc.pure _
 | s :: L, y :: ys => Loc.bind (Loc.backA s y) fun _ => Loc.backsA L ys
 | [], _ :: _ => Loc.fail
 | _ :: _, [] => Loc.fail
theorem Loc.lentQ (tt : TT) (tab : A → List A → List (Value × A) → Option (A × List A)) (n : Fr) (dst : Option Nat) (f : Operand) (bs : List (Operand × Nat)) (L : List Nat) : Loc (lentQ tt tab n dst f bs L) := by
 unfold Go.Own.lentQ
 refine Loc.bind (Loc.refArgs _ _ _) fun fs => Loc.bind (Loc.refArgs _ _ _) fun xs => Loc.bind (Loc.lentsA _ _) fun ls => ?_
 split
 ·split
  ·exact Loc.bind (Loc.backsA _ _) fun _ => Loc.wrT _ _ _
  ·exact Loc.fail
 ·exact Loc.fail
def Wb (tt : TT) (tab : A → List A → List (Value × A) → Option (A × List A)) (d : Nat) (L : List Nat) (n : Fr) (o : Oper) : Option (SM Unit) :=
 match o.op with
 | .call ⟨.value f, args, tys⟩ => if o.dst = some d ∧ args.size = tys.size then some (lentQ tt tab n o.dst f (args.toList.zip tys.toList) L) else none
 | _ => none
theorem z0u (htab : ∀ f xs ls r ys, tab f xs ls = some (r, ys) → qQ P f xs ls r ys) (d : Nat) (L : List Nat) : KQ P (Wb tt tab d L) := by
 refine ⟨?_, ?_⟩
 ·intro C S Fp st a w o m u R U e h h2
  unfold Wb at e
  split at e
  ·rename_i t' args tys ho
   split at e
   ·rename_i hc
    cases e
    exact z7O htab h ho hc.2 h2
   ·cases e
  ·cases e
 ·intro n o m e
  unfold Wb at e
  split at e
  ·split at e
   ·cases e
    exact fun st st' a R U => Loc.lentQ _ _ _ _ _ _ _ st st' a R U
   ·cases e
  ·cases e
def QQ (l : List A) : List Nat → List A → List A
 | i :: is, x :: xs => (QQ l is xs).set i x
 | _, _ => l
theorem z0d (l : List A) : ∀ (is : List Nat) (xs : List A), (QQ l is xs).length = l.length
 | [], _ => rfl
 | _ :: _, [] => rfl
 | i :: is, x :: xs => by simp [QQ, z0d l is xs]
theorem z1L (l : List A)  : ∀ {is : List Nat} {xs : List A}, k ∉ is → (QQ l is xs)[k]? = l[k]?
 | [], _, _ => rfl
 | _ :: _, [], _ => rfl
 | i :: is, x :: xs, h => by
  simp [List.mem_cons, not_or] at h
  simp [QQ]
  rw [List.getElem?_set_ne (Ne.symm h.1)]
  exact z1L l h.2
theorem z42 {x : A} {F1 : List Nat} (hx : Has S h x v F1) : ∀ {l : List A} {vs : List Value} {F : List Nat} {p : Nat}, YO S h l vs F → l[p]? = some (.atom v) → ∃ F', YO S h (l.set p x) vs F' ∧ F'.Perm (F1 ++ F) ∧ vs[p]? = some v
 | [], vs, F, p, _, e => by simp at e
 | y :: l, [], F, p, q, _ => q.elim
 | y :: l, u :: vs, F, 0, ⟨G1, G2, hF, q1, q2⟩, e => by
  simp [Option.some.injEq] at e
  subst e
  obtain ⟨r1, rfl⟩ := z43 (by rfl) q1
  have hu : u = v := (uE.1 r1).1
  subst hu
  subst hF
  exact ⟨G2 ++ F1, ⟨F1, G2, rfl, hx, q2⟩, by simpa using List.perm_append_comm, by simp⟩
 | y :: l, u :: vs, F, p + 1, ⟨G1, G2, hF, q1, q2⟩, e => by
  have ⟨F', h1, h2, h3⟩ := z42 hx q2 (p := p) (by simpa using e)
  subst hF
  refine ⟨F' ++ G1, ⟨G1, F', rfl, q1, h1⟩, ?_, by simpa using h3⟩
  rw [← List.append_assoc]
  exact h2.append_right G1
theorem z2t {base : List A}  (hb : ZW (u6 S) base vs) : ∀ {is : List Nat} {xs : List A} {vals : List Value} {F : List Nat}, is.Nodup → is.map (fun i => base[i]?) = vals.map (fun v => some (.atom v)) → YO S h xs vals F →
  ∃ F', YO S h (QQ base is xs) vs F' ∧ F'.Perm F ∧ is.map (fun i => vs[i]?) = vals.map some
 | [], [], [], F, _, _, q => ⟨[], V0 hb, by rw [show F = [] from q], rfl⟩
 | [], _ :: _, [], F, _, _, q => q.elim
 | [], _, _ :: _, F, _, e, _ => by simp at e
 | _ :: _, _, [], F, _, e, _ => by simp at e
 | _ :: _, [], _ :: _, F, _, _, q => q.elim
 | i :: is, x :: xs, v :: vals, F, hn, e, ⟨F1, F2, hF, q1, q2⟩ => by
  simp [List.map_cons, List.cons.injEq] at e
  rw [List.nodup_cons] at hn
  have ⟨F', h1, h2, h3⟩ := z2t hb hn.2 e.2 q2
  have ⟨F'', g1, g2, g3⟩ := z42 q1 h1 (p := i) (by rw [z1L _ hn.1]; exact e.1)
  subst hF
  exact ⟨F'', g1, g2.trans ((h2.append_left F1).trans List.perm_append_comm), by simp [g3, h3]⟩
def QV : List Nat → SM (List A)
 | [] => pure []
 | s :: ss => do
  let e ← rdE s
  match e.t with
  | .own y => do
   let ys ← QV ss
   pure (y :: ys)
  | _ => zt
def zco (tt : TT) (rs : List (Nat × Option Nat)) (is : List Nat) : SM (A × List A) := do
 let xs ← shutArgs tt (rs.map fun r => (.tmp r.1, 0))
 let ys ← QV is
 match kY tt rs xs with
 | some zs => pure (zdq zs, ys)
 | none => zt
theorem z2c (h : Sim C S Fp [] st a w) : ∀ {is : List Nat} {ys : List A} {R : List Nat} {U : List (Nat × Ent)}, is.Nodup → QV is st = some (ys, R, U) →
  U = [] ∧ ∃ G, YO S w.heap ys (is.map (Act.tv a)) G ∧ G.Nodup ∧ ∀ k ∈ G, ∃ t ∈ is, k ∈ Fp t
 | [], ys, R, U, _, e => by
  cases e
  exact ⟨rfl, [], rfl, List.nodup_nil, by simp⟩
 | s :: is, ys, R, U, hn, e => by
  rw [List.nodup_cons] at hn
  simp [QV] at e
  have ⟨_, e1⟩ := bD e
  cases ht : (st s).t with
  | own y =>
   simp [ht] at e1
   have ⟨zs, _, ⟨G, g1, g2, g3⟩, e3⟩ := bR (z2c h hn.2) e1
   cases e3
   have hr := h.ent s
   unfold xV at hr
   simp [ht] at hr
   have ⟨cs, c1, c2, c3⟩ := hr
   refine ⟨rfl, G ++ Fp s, ⟨Fp s, G, rfl, .inr ⟨cs, c1, c2, c3⟩, g1⟩, ?_, ?_⟩
   ·rw [List.nodup_append]
    refine ⟨g2, c2, ?_⟩
    rintro k hk k' hk' rfl
    have ⟨t, ht1, ht2⟩ := g3 k hk
    exact hn.1 (h.disj t s k ht2 hk' ▸ ht1)
   ·intro k hk
    rcases List.mem_append.1 hk with hk | hk
    ·have ⟨t, ht1, ht2⟩ := g3 k hk
     exact ⟨t, by simp [ht1], ht2⟩
    ·exact ⟨s, by simp, hk⟩
  | _ => simp [ht] at e1; cases e1
variable {β γ : Type}
theorem z4P {i : β} {u : γ} {g : β → Option γ} : ∀ {is : List β} {vals : List γ}, is.map g = vals.map some → (i, u) ∈ is.zip vals → g i = some u
 | [], _, _, h => by simp at h
 | _ :: _, [], _, h => by simp at h
 | j :: is, v :: vals, e, h => by
  simp [List.map_cons, List.cons.injEq] at e
  simp [List.zip_cons_cons, List.mem_cons, Prod.mk.injEq] at h
  rcases h with ⟨rfl, rfl⟩ | h
  ·exact e.1
  ·exact z4P e.2 h
theorem VL : ∀ {xs : List β} {ys : List γ}, xs.length = ys.length → (xs.zip ys).map (·.1) = xs
 | [], [], _ => rfl
 | _ :: _, _ :: _, h => by simp [VL (by simpa using h)]
 | [], _ :: _, h => by simp at h
 | _ :: _, [], h => by simp at h
theorem Kf : ∀ {xs : List β} {ys : List γ}, xs.length = ys.length → (xs.zip ys).map (·.2) = ys
 | [], [], _ => rfl
 | _ :: _, _ :: _, h => by simp [Kf (by simpa using h)]
 | [], _ :: _, h => by simp at h
 | _ :: _, [], h => by simp at h
variable {ys : List A}
theorem z2m {P : Program}     {rs : List (Nat × Option Nat)} (is : List Nat) {args caps xs : List A} {vals : List Value} {r : A} {ys : List A} (hT : wG P tt) (hf : P.funcs[k]? = some fn) (hnm : (fn.name == "runtime.NumGoroutine") = false) (hb : fn.body = some body)
  (hr : fn.results = (rs.map z1H).toArray) (ha : (args ++ caps).length ≤ fn.ntmps) (hn : is.Nodup) (hbase : is.map (fun i => (args ++ caps)[i]?) = vals.map (fun v => some (.atom v))) (hl : xs.length = vals.length)
  (h : AWP P ⟨fn.ntmps, is.zip vals⟩ body (ini (QQ (args ++ caps) is xs)) (fun ex st => (ex = .normal ∨ ex = .ret) ∧ ∃ R U, zco tt rs is st = some ((r, ys), R, U))) : qQ P (.fn k caps) args (vals.zip xs) r ys := by
 intro S w fv vs F hS hfv havs hls hF
 rw [VL hl.symm, Kf hl.symm] at hls
 obtain ⟨cs0, hfv, rfl⟩ := hfv
 simp [Rep] at hfv
 obtain ⟨us, k1, k2, rfl⟩ := hfv
 have hcaps := K2 k1 k2
 have ⟨F1, p1, p2, p3⟩ := z2t (JF havs hcaps) hn hbase hls
 refine .inl ⟨k, us.toArray, fn, rfl, hf, hnm, by rw [hb]; rfl, ?_⟩
 have hw := Qu (n := ⟨fn.ntmps, is.zip vals⟩) (R := fun w e w' => ∃ v, e = .returned v ∧ ∃ S' F' G, Xr (fun k => w.heap.size ≤ k ∨ k ∈ F) w w' ∧ (∀ b o u, S b o = some u → S' b o = some u) ∧ (∀ b o, b < w.heap.size → b ∉ F → S' b o = S b o) ∧ wN S' w' ∧ Has S' w'.heap r v F' ∧
   YO S' w'.heap ys ((vals.zip xs).map (·.1)) G ∧ (G ++ F').Nodup ∧ ∀ k ∈ G ++ F', w.heap.size ≤ k ∨ k ∈ F) hf hb rfl (fun i u hi => z4P p3 hi) (by rw [z0d]; exact ha) hS p1 (p2.nodup_iff.2 hF) h ?_
 ·simpa using hw
 rintro ex st' ⟨hx, R, U, h3⟩
 refine ⟨hx, ?_⟩
 intro df S' Fp' a' w' h1
 unfold zco at h3
 obtain ⟨zs, R1, U1, R2, U2, e1, e2, rfl, rfl⟩ := bind_some h3
 have ⟨S1, Fp1, g1, g2, _, g3⟩ := wS h1 e1
 have ⟨qs, _, ⟨G, m1, m2, m3⟩, e4⟩ := bR (z2c g1 hn) e2
 have hm : (rs.map fun r => (Operand.tmp r.1, 0)).map (fun p => a'.eval p.1) = rs.map (fun r => Act.tv a' r.1) := by rw [List.map_map]; rfl
 rw [hm] at g3
 cases hg : kY tt rs zs with
 | none => simp [hg] at e4; cases e4
 | some os =>
  have ⟨v, hres, hrep⟩ := z1W (P := P) hT hr g1.still hg g3
  simp [hg] at e4
  have ⟨e5, _, _⟩ := wT e4
  cases e5
  have hval : is.map (Act.tv a') = (vals.zip xs).map (·.1) := by
   rw [VL hl.symm]
   have hlen : is.length = vals.length := by simpa using congrArg List.length hbase
   refine List.ext_getElem? fun j => ?_
   rw [List.getElem?_map]
   cases hj : is[j]? with
   | none =>
    have := List.getElem?_eq_none_iff.1 hj
    rw [List.getElem?_eq_none (by omega)]
    rfl
   | some i =>
    have ⟨hj1, hj2⟩ := List.getElem?_eq_some_iff.1 hj
    have hj3 : j < vals.length := by omega
    rw [List.getElem?_eq_getElem hj3]
    have : (i, vals[j]) ∈ is.zip vals := by
     refine List.mem_iff_getElem?.2 ⟨j, ?_⟩
     rw [List.getElem?_zip_eq_some]
     exact ⟨hj, List.getElem?_eq_getElem hj3⟩
    exact congrArg some (g1.pin i _ this)
  rw [hval] at m1
  have hMF : ∀ k, (w.heap.size ≤ k ∨ k ∈ F1) → (w.heap.size ≤ k ∨ k ∈ F) := fun k hk => hk.imp id fun q => p2.mem_iff.1 q
  refine ⟨v, hres, v, rfl, S1, [], G, g1.below.mono hMF, g1.sinc, ?_, g1.still, .inl ⟨hrep, rfl⟩, m1, by simpa using m2, ?_⟩
  ·intro b o hb' hbF
   exact g1.sbase b o (by rintro (hq | hq) <;> first | omega | exact hbF (p2.mem_iff.1 hq))
  ·intro k hk
   have ⟨t, _, ht⟩ := m3 k (by simpa using hk)
   exact hMF k (g1.base t k ht)
def T.plain : T → Bool
 | .gone | .d _ | .own _ => true
 | _ => false
theorem xV.frame {S S' : zn} {h h' : Array Obj} {st st' : St} {tv tv' : Nat → Value}  {e : Ent}  (hp : e.t.plain = true) (q : xV S h st tv F e v) (hS : ∀ b o u, S b o = some u → S' b o = some u) (hF : ∀ k ∈ F, h'[k]? = h[k]? ∧ ∀ o, S' k o = none) : xV S' h' st' tv' F e v := by
 unfold xV at q ⊢
 cases ht : e.t with
 | gone => simpa only [ht] using q
 | d x => simp [ht] at q ⊢; exact ⟨q.1.mono hS, q.2⟩
 | own x => simp [ht] at q ⊢; have ⟨cs, q1, q2, q3⟩ := q; exact ⟨cs, q1.frame hS hF, q2, q3⟩
 | _ => rw [ht] at hp; simp [T.plain] at hp
theorem xV.owns {tv : Nat → Value}  {e : Ent}  (hp : e.t.plain = true) (q : xV S h st tv F e v) : ∀ k ∈ F, k < h.size ∧ ∀ o, S k o = none := by
 unfold xV at q
 cases ht : e.t with
 | gone => simp [ht] at q; subst q; simp
 | d x => simp [ht] at q; obtain ⟨_, rfl⟩ := q; simp
 | own x => simp [ht] at q; have ⟨cs, q1, _, _⟩ := q; exact fun k hk => ⟨(q1.own k hk).1, (q1.own k hk).2.1⟩
 | als r p er ec => rw [ht] at hp; simp [T.plain] at hp
 | ptr r p er ec => rw [ht] at hp; simp [T.plain] at hp
def Ki (l : Nat) (rec : Loop) (tv : Nat → Value) (st : St) (hp : ∀ t, (st t).t.plain = true) (i : Nat) : Opq := {
 holds := fun S h u F => u = .func (.yield l) #[] #[] ∧ h[l]? = some (.loop rec) ∧ (∀ o, S l o = none) ∧ ∃ Fp : Nat → List Nat, (∀ t, xV S h st tv (Fp t) (st t) (tv t)) ∧ (∀ t u k, k ∈ Fp t → k ∈ Fp u → t = u) ∧ (∀ t, l ∉ Fp t) ∧ ∀ k, k ∈ F ↔ k = l ∨ ∃ t, k ∈ Fp t
 one := fun q => .inl (by rw [q.1]; rfl)
 frame := fun hS hF ⟨q1, q2, q3, Fp, q4, q5, q6, q7⟩ => ⟨q1, (hF l ((q7 l).2 (.inl rfl))).1.trans q2, (hF l ((q7 l).2 (.inl rfl))).2, Fp, fun t => (q4 t).frame (hp t) hS (fun k hk => hF k ((q7 k).2 (.inr ⟨t, hk⟩))), q5, q6, q7⟩
 own := fun ⟨q1, q2, q3, Fp, q4, q5, q6, q7⟩ k hk => by
  rcases (q7 k).1 hk with rfl | ⟨t, ht⟩
  ·exact ⟨(Array.getElem?_eq_some_iff.1 q2).1, q3⟩
  ·exact (q4 t).owns (hp t) k ht
 idx := i }
variable {l : Nat}
theorem Sim.putFar {df : List Nat}         (h : Sim ⟨n, df, w0, S0, M⟩ S Fp [] st a w)  (o : Obj) (hl : l < w.heap.size) (hS : ∀ o, S l o = none) (hF : ∀ t, l ∉ Fp t) :
  Sim ⟨n, df, w.putObj l o, S, z0l Fp w⟩ S Fp [] st a (w.putObj l o) := by
 have hne : ∀ {b o v}, S b o = some v → b ≠ l := by rintro b o v q rfl; rw [hS] at q; cases q
 have hw : Sim ⟨n, df, w.putObj l o, S, z0l Fp w⟩ S Fp [] st a w → Sim ⟨n, df, w.putObj l o, S, z0l Fp w⟩ S Fp [] st a (w.putObj l o) := fun h => h.mem (Xr.refl _ _) (fun _ _ _ q => q) (fun b i v q => by
   have q2 := h.still b i v q
   unfold yj at q2 ⊢
   rw [World.putObj_heap_other (hne q)]
   exact q2) (fun _ _ _ => rfl) (fun t k hk => ⟨World.putObj_heap_other (by rintro rfl; exact hF t hk), (h.free t k hk).2.1⟩) (by simp) (by simp) (by simp)
 refine { size := h.size, pin := h.pin, defers := h.defers, below := Xr.refl _ _, mine := ⟨fun k hk => .inl (by simpa [World.putObj] using hk), h.ownM_far⟩, still := ?_, sinc := fun _ _ _ q => q, sbase := fun _ _ _ => rfl, ent := ?_, disj := h.disj, base := fun t k hk => .inr ⟨t, hk⟩, xn := by simp, xd := by simp, xb := by simp }
 ·refine ⟨?_, h.still.gok, h.still.blk.of (fun _ _ _ q => q) fun g x e => World.putObj_heap_other (by rintro rfl; exact h.still.blk.ne (hS 0) x e)⟩
  intro b i v q
  have q2 := h.still b i v q
  unfold yj at q2 ⊢
  rw [World.putObj_heap_other (hne q)]
  exact q2
 ·intro t
  have q := h.ent t
  unfold xV at q ⊢
  have hk : ∀ t, ∀ k ∈ Fp t, (w.putObj l o).heap[k]? = w.heap[k]? ∧ ∀ i, S k i = none := fun t k hk => ⟨World.putObj_heap_other (by rintro rfl; exact hF t hk), (h.free t k hk).2.1⟩
  cases ht : (st t).t with
  | gone => simpa only [ht] using q
  | d x => simpa only [ht] using q
  | own x => simp [ht] at q ⊢; have ⟨cs, q1, q2, q3⟩ := q; exact ⟨cs, q1.frame (fun _ _ _ q => q) (hk t), q2, q3⟩
  | als r p er ec => simp [ht] at q ⊢; exact ⟨q.1, q.2.frame (h.ent r) (fun k q => (hk r k q).1)⟩
  | ptr r p er ec => simp [ht] at q ⊢; exact ⟨q.1, q.2.frame (h.ent r) (fun k q => (hk r k q).1)⟩
def z29 : St → List Nat → List A → St
 | st, p :: ps, y :: ys => z29 (upd st p ⟨.d y, 0, 0⟩) ps ys
 | st, _, _ => st
def Yx (T : Array Value) (t : Nat) : Value := T.getD t undef
theorem z8P : ∀ {ps : List Nat} {ys : List A} {vs : List Value} {T : Array Value} {st : St}, ZW (u6 S) ys vs → ps.length = ys.length → (∀ t, (st t).t.plain = true) → (∀ t, xV S h st (Yx T) (Fp t) (st t) (Yx T t)) → (∀ p ∈ ps, p < T.size ∧ Fp p = []) →
  (∀ t, (z29 st ps ys t).t.plain = true) ∧ (∀ t, xV S h (z29 st ps ys) (Yx ((ps.zip vs).foldl (fun tmps (t, a) => tmps.setIfInBounds t a) T)) (Fp t) (z29 st ps ys t) (Yx ((ps.zip vs).foldl (fun tmps (t, a) => tmps.setIfInBounds t a) T) t)) ∧
  ((ps.zip vs).foldl (fun tmps (t, a) => tmps.setIfInBounds t a) T).size = T.size ∧ ∀ t, t ∉ ps → Yx ((ps.zip vs).foldl (fun tmps (t, a) => tmps.setIfInBounds t a) T) t = Yx T t
 | [], [], [], T, st, _, _, hp, hs, _ => ⟨hp, hs, rfl, fun _ _ => rfl⟩
 | p :: ps, y :: ys, v :: vs, T, st, hy, hl, hp, hs, hT => by
  have hset : ∀ t, Yx (T.setIfInBounds p v) t = if t = p then v else Yx T t := by
   intro t
   unfold Yx
   by_cases e : t = p
   ·subst e
    have := (hT t (by simp)).1
    simp [Array.getD_eq_getD_getElem?, this]
   ·simp [Array.getD_eq_getD_getElem?, Array.getElem?_setIfInBounds_ne (Ne.symm e), e]
  have hp1 : ∀ t, (upd st p ⟨.d y, 0, 0⟩ t).t.plain = true := by
   intro t
   unfold upd
   split
   ·rfl
   ·exact hp t
  obtain ⟨r1, r2, r3, r4⟩ := z8P (T := T.setIfInBounds p v) (st := upd st p ⟨.d y, 0, 0⟩) hy.2 (by simpa using hl) hp1 (by
   intro t
   rw [hset]
   by_cases e : t = p
   ·subst e
    rw [YI]
    simp [xV]
    exact ⟨hy.1.repV, (hT t (by simp)).2⟩
   ·rw [Ur _ _ e, if_neg e]
    exact (hs t).frame (hp t) (fun _ _ _ q => q) (fun k hk => ⟨rfl, ((hs t).owns (hp t) k hk).2⟩)) (fun q hq => by simpa using hT q (by simp [hq]))
  refine ⟨r1, r2, ?_, ?_⟩
  ·simpa using r3
  ·intro t ht
   simp [List.mem_cons, not_or] at ht
   have := r4 t ht.2
   rw [hset, if_neg ht.1] at this
   exact this
 | [], _ :: _, _, _, _, _, h, _, _, _ => by simp at h
 | _ :: _, [], _, _, _, _, h, _, _, _ => by simp at h
 | _, [], _ :: _, _, _, h, _, _, _, _ => h.elim
 | _, _ :: _, [], _, _, h, _, _, _, _ => h.elim
def z5X : Exit → Option (Option Code)
 | .normal => some none
 | .ret => some (some .ret)
 | .exit id => some (some (.exit id))
 | .goto t => some (some (.goto t))
 | _ => none
theorem z62 {o : Opq}   (q : Has S h (.opq o) v F) : o.holds S h v F := by
 rcases q with ⟨q, _⟩ | ⟨cs, q1, _, q3⟩
 ·simp [we] at q
  have ⟨cs, q, _⟩ := q
  simp [Rep] at q
 ·simp [zH] at q1
  obtain ⟨u, rfl, q1⟩ := q1
  have : v = u := q3
  rw [this]; exact q1
theorem z5F {o : Opq}   (q : o.holds S h v F) (hF : F.Nodup) : Has S h (.opq o) v F :=
 .inr ⟨[v], by simp only [zH]; exact ⟨v, rfl, q⟩, hF, rfl⟩
theorem z6A (T : Array Value) (ds : List Deferred) : Act.tv ⟨T, ds⟩ = Yx T := rfl
theorem z3V (h : Sim C S Fp [] st a w) : ∀ {live : List Nat}, live.Nodup → (∀ t, l ∉ Fp t) → (l :: live.flatMap Fp).Nodup := by
 intro live hn hl
 rw [List.nodup_cons]
 refine ⟨by simp [List.mem_flatMap, not_exists, not_and]; exact fun t _ => hl t, ?_⟩
 induction live with
 | nil => simp
 | cons t live ih =>
  rw [List.nodup_cons] at hn
  rw [List.flatMap_cons, List.nodup_append]
  refine ⟨?_, ih hn.2, ?_⟩
  ·have q := h.ent t
   unfold xV at q
   cases ht : (st t).t with
   | gone => simp [ht] at q; rw [q]; simp
   | d x => simp [ht] at q; rw [q.2]; simp
   | own x => simp [ht] at q; have ⟨_, _, q, _⟩ := q; exact q
   | _ => simp [ht] at q; rw [q.1]; simp
  ·rintro k hk k' hk' rfl
   have ⟨u, hu1, hu2⟩ := List.mem_flatMap.1 hk'
   exact hn.1 (h.disj t u k hk hu2 ▸ hu1)
theorem z7w {P : Program} {n : Fr} {l : Nat} {rec : Loop} {ps : List Nat} {ys : List A} {st0 st1 : St} {i i2 : Nat} {live : List Nat} {jc : Option Code} (hp0 : ∀ t, (st0 t).t.plain = true) (hp1 : ∀ t, (st1 t).t.plain = true)
  (hready : rec.state = .ready) (hparams : rec.params = ps.toArray) (hsize : rec.tmps.size = n.size) (hpin : ∀ j u, (j, u) ∈ n.pin → Yx rec.tmps j = u) (hlive : ∀ t ∈ live, (t, Yx rec.tmps t) ∈ n.pin) (hnd : live.Nodup)
  (hps : ∀ p ∈ ps, p < n.size ∧ (st0 p).t = .gone ∧ pinned n.pin p = false) (hlen : ps.length = ys.length)
  (h : AWP P n rec.assign (z29 st0 ps ys) (fun e st => e = .normal ∧ AWP P n rec.body st (fun ex st2 => z5X ex = some jc ∧ canon live st2 = st1))) :
  qQ P (.atom (.func (.yield l) #[] #[])) ys [(.func (.yield l) #[] #[], .opq (Ki l rec (Yx rec.tmps) st0 hp0 i))] (.atom (.bool jc.isNone))
   [.opq (Ki l { rec with state := if jc.isNone then .ready else .done, pending := jc } (Yx rec.tmps) st1 hp1 i2)] := by
 intro S w fv vs F hS hfv havs hls hF
 obtain ⟨rfl, _⟩ := uE.1 hfv
 have ⟨F1, F2, hFe, hls, hnil⟩ := hls
 have hF2 : F2 = [] := hnil
 subst hF2
 simp [List.nil_append] at hFe
 subst hFe
 have ⟨_, q2, q3, Fp, q4, q5, q6, q7⟩ := z62 hls
 have hlenv : vs.length = ps.length := by rw [hlen]; exact (z4o havs).symm
 refine .inr ⟨l, rec, rfl, q2, by rw [hparams]; simp [hlenv], ?_⟩
 intro rd m
 refine roundIn_of_wpIn (F := fen rd) trivial ?_
 have hinr : (fen rd).inRound l = fen (some l) := rfl
 rw [hinr]
 have hT0 : (rec.params.zip vs.toArray).foldl (fun tmps (t, a) => tmps.setIfInBounds t a) rec.tmps = (ps.zip vs).foldl (fun tmps (t, a) => tmps.setIfInBounds t a) rec.tmps := by
  rw [← Array.foldl_toList, Array.toList_zip, hparams]
 rw [hT0]
 have hgone : ∀ p ∈ ps, p < rec.tmps.size ∧ Fp p = [] := by
  intro p hp
  have ⟨a1, a2, _⟩ := hps p hp
  refine ⟨by rw [hsize]; exact a1, ?_⟩
  have := q4 p
  unfold xV at this
  simpa only [a2] using this
 have ⟨r1, r2, r3, r4⟩ := z8P (T := rec.tmps) havs hlen hp0 q4 hgone
 have hl : l < w.heap.size := (Array.getElem?_eq_some_iff.1 q2).1
 have hFps : ∀ t k, k ∈ Fp t → k < w.heap.size ∧ ∀ o, S k o = none := fun t => (q4 t).owns (hp0 t)
 have hnl : ¬ z0l Fp w l := by
  rintro (hk | ⟨t, hk⟩)
  ·omega
  ·exact q6 t hk
 have hs0 : Sim ⟨n, [], w, S, z0l Fp w⟩ S Fp [] (z29 st0 ps ys) ⟨(ps.zip vs).foldl (fun tmps (t, a) => tmps.setIfInBounds t a) rec.tmps, []⟩ w := by
  refine { size := by rw [r3]; exact hsize, pin := ?_, defers := rfl, below := Xr.refl _ _, mine := ⟨fun k hk => .inl hk, by
   rintro g x e (hk | ⟨t, hk⟩)
   ·have := hS.blk.lt e
    omega
   ·exact hS.blk.ne ((hFps t g hk).2 0) x e⟩, still := hS, sinc := fun _ _ _ q => q, sbase := fun _ _ _ => rfl, ent := r2, disj := q5, base := fun t k hk => .inr ⟨t, hk⟩, xn := by simp, xd := by simp, xb := by simp }
  intro j u hj
  rw [z6A, r4 j ?_]
  ·exact hpin j u hj
  ·intro hjp
   have := (hps j hjp).2.2
   rw [Qk hj] at this
   cases this
 refine wpIn_mono (h (some l) m [] w S (z0l Fp w) S Fp _ w ⟨by simp, by simp, by rintro L hL; cases hL; exact ⟨hnl, rec, q2⟩⟩ hs0) ?_
 rintro e1 a1 w1 ⟨df1, sta, S1, Fp1, s1, d1, rfl, h2⟩
 have hb1 : w1.heap[l]? = some (.loop rec) := (s1.below.block l hnl).trans q2
 refine ⟨_, run_beginRound hb1 hready, ?_⟩
 have hS1l : ∀ o, S1 l o = none := fun o => (s1.sbase l o hnl).trans (q3 o)
 have hF1l : ∀ t, l ∉ Fp1 t := fun t hk => hnl (s1.base t l hk)
 have hl1 : l < w1.heap.size := (Array.getElem?_eq_some_iff.1 hb1).1
 have s2 := s1.putFar (.loop { rec with state := .busy }) hl1 hS1l hF1l
 have hb2 : (w1.putObj l (.loop { rec with state := .busy })).heap[l]? = some (.loop { rec with state := .busy }) := World.putObj_heap_same hl1
 have hnl1 : ¬ z0l Fp1 w1 l := by
  rintro (hk | ⟨t, hk⟩)
  ·omega
  ·exact hF1l t hk
 refine wpIn_mono (h2 (some l) m df1 _ S1 (z0l Fp1 w1) S1 Fp1 a1 _ ⟨d1.nodup, ?_, by rintro L hL; cases hL; exact ⟨hnl1, _, hb2⟩⟩ s2) ?_
 ·intro D hD
  have hD1 := d1.ent D hD
  refine ⟨?_, ?_⟩
  ·rintro (hk | ⟨t, hk⟩)
   ·have := (Array.getElem?_eq_some_iff.1 hD1).1; omega
   ·exact d1.off D hD t hk
  ·show (w1.putObj l _).heap[D]? = _
   rw [World.putObj_heap_other (by rintro rfl; rw [hb1] at hD1; cases hD1)]
   exact hD1
 rintro e2 a2 w3 ⟨df2, stb, S2, Fp2, s3, d2, hj, hcan⟩
 have ⟨Fp3, s4⟩ := s3.canon live
 rw [hcan] at s4
 have hb3 : w3.heap[l]? = some (.loop { rec with state := .busy }) := (s3.below.block l hnl1).trans hb2
 have hl3 : l < w3.heap.size := (Array.getElem?_eq_some_iff.1 hb3).1
 have hS2l : ∀ o, S2 l o = none := fun o => (s3.sbase l o hnl1).trans (hS1l o)
 have hF3l : ∀ t, l ∉ Fp3 t := fun t hk => hnl1 (s4.base t l hk)
 have hsub : ∀ k, z0l Fp w k → (w.heap.size ≤ k ∨ k ∈ F) := fun k hk => hk.imp id fun ⟨t, ht⟩ => (q7 k).2 (.inr ⟨t, ht⟩)
 have hsub1 : ∀ k, z0l Fp1 w1 k → (w.heap.size ≤ k ∨ k ∈ F) := fun k hk => hsub k (Vc s1 k hk)
 have hlF : l ∈ F := (q7 l).2 (.inl rfl)
 have hk1 : Xr (fun k => w.heap.size ≤ k ∨ k ∈ F) w w3 := by
  have z1 := s1.below.mono hsub
  have z2 : Xr (fun k => w.heap.size ≤ k ∨ k ∈ F) w1 (w1.putObj l (.loop { rec with state := .busy })) := ⟨rfl, rfl, rfl, Nat.le_refl _, by simp [World.putObj], fun k hk => World.putObj_heap_other (by rintro rfl; exact hk (.inr hlF))⟩
  exact (z1.trans z2).trans (s3.below.mono hsub1)
 have hfin : ∃ v w', (Instr.endRound l jc).run P w3 = .ok v w' ∧ ∃ v', Ending.returned v = .returned v' ∧ ∃ S' F' G, Xr (fun k => w.heap.size ≤ k ∨ k ∈ F) w w' ∧ (∀ b o u, S b o = some u → S' b o = some u) ∧ (∀ b o, b < w.heap.size → b ∉ F → S' b o = S b o) ∧ wN S' w' ∧ Has S' w'.heap (.atom (.bool jc.isNone)) v' F' ∧
   YO S' w'.heap [.opq (Ki l { rec with state := if jc.isNone then .ready else .done, pending := jc } (Yx rec.tmps) st1 hp1 i2)] [.func (.yield l) #[] #[]] G ∧ (G ++ F').Nodup ∧ ∀ k ∈ G ++ F', w.heap.size ≤ k ∨ k ∈ F := by
  refine ⟨_, _, run_endRound jc hb3, _, rfl, S2, [], l :: live.flatMap Fp3, ?_, fun b o u q => s3.sinc _ _ _ (s1.sinc _ _ _ q), ?_, ?_, .inl ⟨zw.2 ⟨rfl, rfl⟩, rfl⟩, ?_, ?_, ?_⟩
  ·exact hk1.trans ⟨rfl, rfl, rfl, Nat.le_refl _, by simp [World.putObj], fun k hk => World.putObj_heap_other (by rintro rfl; exact hk (.inr hlF))⟩
  ·intro b o hb hbF
   have hn0 : ¬ z0l Fp w b := fun hk => (hsub b hk).elim (fun q => by omega) hbF
   have hn1 : ¬ z0l Fp1 w1 b := fun hk => hn0 (Vc s1 b hk)
   exact (s3.sbase b o hn1).trans (s1.sbase b o hn0)
  ·refine ⟨?_, s3.still.gok, s3.still.blk.of (fun _ _ _ q => q) fun g x e => World.putObj_heap_other (by rintro rfl; exact s3.still.blk.ne (hS2l 0) x e)⟩
   intro b o u hu
   have hne : b ≠ l := by rintro rfl; rw [hS2l] at hu; cases hu
   have := s3.still b o u hu
   unfold yj at this ⊢
   rw [World.putObj_heap_other hne]
   exact this
  ·refine ⟨l :: live.flatMap Fp3, [], rfl, z5F ⟨rfl, World.putObj_heap_same hl3, hS2l, Fp3, ?_, s4.disj, hF3l, ?_⟩ ?_, rfl⟩
   ·intro t
    have q := s4.ent t
    have hent : xV S2 w3.heap st1 (Act.tv a2) (Fp3 t) (st1 t) (Yx rec.tmps t) := by
     by_cases ht : t ∈ live
     ·have := s4.pin t _ (hlive t ht)
      rwa [this] at q
     ·have hg : st1 t = z2z := by rw [← hcan, YN, if_neg ht]
      rw [hg] at q ⊢
      exact q
    exact hent.frame (hp1 t) (fun _ _ _ q => q) (fun k hk => ⟨World.putObj_heap_other (by rintro rfl; exact hF3l t hk), (s4.free t k hk).2.1⟩)
   ·intro k
    simp [List.mem_cons, List.mem_flatMap]
    constructor
    ·rintro (rfl | ⟨t, _, ht⟩)
     ·exact .inl rfl
     ·exact .inr ⟨t, ht⟩
    ·rintro (rfl | ⟨t, ht⟩)
     ·exact .inl rfl
     ·refine .inr ⟨t, ?_, ht⟩
      apply Classical.byContradiction
      intro hn
      have hg : st1 t = z2z := by rw [← hcan, YN, if_neg hn]
      have q := s4.ent t
      rw [hg] at q
      have : Fp3 t = [] := q
      rw [this] at ht
      simp at ht
   ·exact z3V s4 hnd hF3l
  ·simpa using z3V s4 hnd hF3l
  ·intro k hk
   simp [List.append_nil, List.mem_cons, List.mem_flatMap] at hk
   rcases hk with rfl | ⟨t, _, ht⟩
   ·exact .inr hlF
   ·exact hsub1 k (s4.base t k ht)
 cases e2 with
 | panic _ => cases hj
 | outgrown => cases hj
 | _ => cases hj; exact hfin
theorem VI {P : Program}  {L : Nat} {q : Loop} (h : w.heap[L]? = some (.loop q)) (fn : FuncId) (tmps : Array Value) (ps : Array Tmp) (assign body : Code) :
  (Instr.enterLoop fn tmps ps assign body (some L)).run P w =
   .ok (w.heap.size, []) (w.alloc (.loop { state := .ready, pending := none, fn, tmps, params := ps, assign, body, defers := q.defers })) := by
 unfold Instr.enterLoop
 simp [Sem.run_bind, run_getLoop h, Result.andThen]
theorem World.alloc_old (o : Obj) (h : k < w.heap.size) : (w.alloc o).heap[k]? = w.heap[k]? := by
 show (w.heap.push o)[k]? = _
 rw [Array.getElem?_push, if_neg (by omega)]
theorem Sim.newObj (h : Sim C S Fp [] st a w) (o : Obj) : Sim C S Fp [] st a (w.alloc o) := by
 refine h.mem (h.below.alloc (h.mine _ h.below.size) o) (fun _ _ _ q => q) ?_ h.sbase ?_ (by simp) (by simp) (by simp)
 ·intro b i v q
  have q2 := h.still b i v q
  have hlt := h.still_lt q
  unfold yj at q2 ⊢
  rw [World.alloc_old o hlt]
  exact q2
 ·intro t k hk
  exact ⟨World.alloc_old o (h.free t k hk).1, (h.free t k hk).2.1⟩
theorem zbU {P : Program}  {df : List Nat}        {w : World}  (hc : z07 ⟨n, df, w0, S0, M⟩ rd) (h : Sim ⟨n, df, w0, S0, M⟩ S Fp [] st a w) (hd : ZK df M df Fp w) (fn : FuncId) (ps : Array Tmp) (assign body : Code) :
  ∃ df' wA dq, (Instr.enterLoop fn a.tmps ps assign body (fen rd).round).run P w = .ok (wA.heap.size, (df'.map zaK).take (df'.length - df.length)) (wA.alloc (.loop { state := .ready, pending := none, fn, tmps := a.tmps, params := ps, assign, body, defers := dq })) ∧
   Sim ⟨n, df', w0, S0, M⟩ S Fp [] st { a with defers := (df'.map zaK).take (df'.length - df.length) ++ a.defers } wA ∧ ZK df M df' Fp wA := by
 cases rd with
 | none =>
  refine ⟨w.heap.size :: df, w.alloc (.deferred (some [])), w.heap.size, ?_, ?_, ?_⟩
  ·have := run_enterLoop_outer (P := P) (w := w) fn a.tmps ps assign body
   simp [World.size_alloc, List.map_cons, List.length_cons, show df.length + 1 - df.length = 1 by omega, List.take_succ_cons, List.take_zero]
   exact this
  ·have h1 := h.newObj (.deferred (some []))
   exact { h1 with defers := by simp [h.defers, show df.length + 1 - df.length = 1 by omega, zaK] }
  ·have hlt : ∀ D ∈ df, D < w.heap.size := fun D hD => (Array.getElem?_eq_some_iff.1 (hd.ent D hD)).1
   refine ⟨?_, ?_, ?_, ?_⟩
   ·rw [List.nodup_cons]
    exact ⟨fun q => by have := hlt _ q; omega, hd.nodup⟩
   ·intro D hD
    rcases List.mem_cons.1 hD with rfl | hD
    ·exact World.alloc_heap_new w _
    ·rw [World.alloc_old _ (hlt D hD)]; exact hd.ent D hD
   ·intro D hD t ht
    rcases List.mem_cons.1 hD with rfl | hD
    ·have := (h.free t _ ht).1; omega
    ·exact hd.off D hD t ht
   ·intro D hD
    rcases List.mem_cons.1 hD with rfl | hD
    ·exact .inr (h.mine _ h.below.size)
    ·exact .inl hD
 | some L =>
  have ⟨h1, q, h2⟩ := hc.rd L rfl
  have h3 : w.heap[L]? = some (.loop q) := (h.below.block L h1).trans h2
  refine ⟨df, w, q.defers, ?_, ?_, hd⟩
  ·rw [Nat.sub_self, List.take_zero]
   exact VI h3 fn a.tmps ps assign body
  ·rw [Nat.sub_self, List.take_zero]
   exact h
def zcp (st : St) : Operand → Option A
 | .tmp t => match (st t).t with | .d a => some a | _ => none
 | _ => none
def zd4 (P : Program) (n : Fr) (st : St) (Q : Exit → St → Prop) : Option Code → Prop
 | none => Q .normal st
 | some c => AWP P n c st Q
end Go.Own

namespace Go.Ex
open Go.Own (A zn yj Rep z2Q)
inductive EK where
 | int (k : IntKind)
 | bool
 | str
 | slice (e : Nat)
 | ptr (e : Nat)
 | struct (fs : List (Nat × Nat))
 | array (n e : Nat)
 | map (k e : Nat)
 | func
 | iface
 | other
structure EI where
 kind : EK
 size : Nat
 bytes : Nat
 zero : Option (List Value)
 eqn : Bool
def EK.isAgg : EK → Bool
 | .struct _ | .array _ _ => true
 | _ => false
def xF : List Value → List Value → Option Bool
 | [], [] => some true
 | .int k a :: xs, .int k' b :: ys => if k = k' then (xF xs ys).map fun r => (a == b) && r else none
 | .bool a :: xs, .bool b :: ys => (xF xs ys).map fun r => (a == b) && r
 | .string a :: xs, .string b :: ys => (xF xs ys).map fun r => (a == b) && r
 | _, _ => none
def z1v : List Value → List Value → Bool
 | [], [] => true
 | .int _ _ :: zs, .int _ _ :: vs => z1v zs vs
 | .bool _ :: zs, .bool _ :: vs => z1v zs vs
 | .string _ :: zs, .string _ :: vs => z1v zs vs
 | _, _ => false
def zd1 (i : EI) (vs : List Value) : Bool :=
 match i.zero with
 | some z => z1v z vs
 | none => false
open Go.Own (A zn yj Rep yw z2Q)
def Xs (P : Program) (t : Nat) : EK → Prop
 | .int k => P.underlying t = some (.int k)
 | .bool => P.underlying t = some .bool
 | .str => P.underlying t = some .string
 | .slice e => P.underlying t = some (.slice e)
 | .ptr e => P.underlying t = some (.pointer e)
 | .struct fs => ∃ fields, P.underlying t = some (.struct fields) ∧ fields.toList.map (fun f => (f.offset, f.type)) = fs ∧ ∀ f ∈ fields.toList, ∃ i, P.info? f.type = some i
 | .array n e => P.underlying t = some (.array n e)
 | .map k e => P.underlying t = some (.map k e)
 | .func => ∃ a b c, P.underlying t = some (.func a b c)
 | .iface => ∃ ms, P.underlying t = some (.interface ms)
 | .other => ∃ d, P.underlying t = some d ∧ (match d with | .struct _ | .array _ _ => false | _ => true) = true
structure z6S (P : Program) (t : Nat) (i : EI) : Prop where
 guard : P.eqGuardType P.depth t = false
 run : ∀ (vs us : List Value) (r : Bool) (w : World), vs.length = i.size → us.length = i.size → zd1 i vs = true → xF vs us = some r → (Op.equal t (.agg vs.toArray) (.agg us.toArray)).run P w = .ok r w
 key : ∀ (vs : List Value) (e : Bool) (w : World), vs.length = i.size → (Instr.checkKey e 10000 t (.agg vs.toArray)).run P w = .ok () w
variable {k : EK}
section
variable {P : Program} {N n hi : Nat} {a : Act} {w : World} {Ds : List Nat} {o : Oper}
theorem WM {t : Nat}  (h : Xs P t k) (w : World) : (Go.isAgg t).run P w = .ok k.isAgg w := by
 cases k with
 | struct fs => obtain ⟨f, h, _⟩ := h; simp [Go.isAgg, run_underlying h, EK.isAgg]
 | func => obtain ⟨_, _, _, h⟩ := h; simp [Go.isAgg, run_underlying h, EK.isAgg]
 | iface => obtain ⟨_, h⟩ := h; simp [Go.isAgg, run_underlying h, EK.isAgg]
 | other =>
  obtain ⟨d, h, hd⟩ := h
  cases d <;> first | (simp at hd; done) | simp [Go.isAgg, run_underlying h, EK.isAgg]
 | _ => simp only [Xs] at h; simp [Go.isAgg, run_underlying h, EK.isAgg]
end
open Go.Own (A zn yj Rep yw z2Q)
def mkV (ag : Bool) (cs : List Value) : Value := if ag = true then .agg cs.toArray else cs.headD undef
theorem VU : ∀ {z1 z2 vs : List Value}, z1v (z1 ++ z2) vs = true → z1v z1 (vs.take z1.length) = true ∧ z1v z2 (vs.drop z1.length) = true
 | [], z2, vs, h => ⟨rfl, h⟩
 | a :: z1, z2, [], h => by cases a <;> simp [z1v] at h
 | a :: z1, z2, v :: vs, h => by
  have : z1v (z1 ++ z2) vs = true ∧ (∀ l l', z1v l l' = true → z1v (a :: l) (v :: l') = true) := by
   cases a <;> cases v <;> simp only [List.cons_append, z1v, Bool.false_eq_true] at h ⊢ <;> exact ⟨h, fun l l' q => q⟩
  obtain ⟨h1, h2⟩ := this
  obtain ⟨q1, q2⟩ := VU h1
  exact ⟨h2 _ _ q1, q2⟩
theorem WX : ∀ {n : Nat} {vs us : List Value} {r : Bool}, xF vs us = some r → ∃ r1 r2, xF (vs.take n) (us.take n) = some r1 ∧ xF (vs.drop n) (us.drop n) = some r2 ∧ r = (r1 && r2)
 | 0, vs, us, r, h => ⟨true, r, by simp [xF], by simpa using h, by simp⟩
 | n + 1, [], us, r, h => by
  cases us with
  | nil => simp only [xF, Option.some.injEq] at h; subst h; exact ⟨true, true, by simp [xF], by simp [xF], rfl⟩
  | cons u us => simp [xF] at h
 | n + 1, v :: vs, [], r, h => by unfold xF at h; split at h <;> simp_all
 | n + 1, v :: vs, u :: us, r, h => by
  have : ∃ b r', xF vs us = some r' ∧ r = (b && r') ∧ ∀ l l' q, xF l l' = some q → xF (v :: l) (u :: l') = some (b && q) := by
   unfold xF at h
   split at h
   ·rename_i h1 _; cases h1
   ·rename_i k a xs k' b ys h1 h2
    cases h1; cases h2
    split at h
    ·rename_i hk
     rw [Option.map_eq_some_iff] at h
     obtain ⟨r', e1, rfl⟩ := h
     exact ⟨_, r', e1, rfl, fun l l' q hq => by simp [xF, hk, hq]⟩
    ·cases h
   ·rename_i a xs b ys h1 h2
    cases h1; cases h2
    rw [Option.map_eq_some_iff] at h
    obtain ⟨r', e1, rfl⟩ := h
    exact ⟨_, r', e1, rfl, fun l l' q hq => by simp [xF, hq]⟩
   ·rename_i a xs b ys h1 h2
    cases h1; cases h2
    rw [Option.map_eq_some_iff] at h
    obtain ⟨r', e1, rfl⟩ := h
    exact ⟨_, r', e1, rfl, fun l l' q hq => by simp [xF, hq]⟩
   ·cases h
  obtain ⟨b, r', h1, rfl, h2⟩ := this
  obtain ⟨r1, r2, q1, q2, rfl⟩ := WX (n := n) h1
  exact ⟨b && r1, r2, h2 _ _ _ q1, q2, by rw [Bool.and_assoc]⟩
structure EqP (P : Program) (t : Nat) (z : List Value) (ag : Bool) (dep : Nat) : Prop where
 pos : 1 ≤ dep
 part : ∀ (cs : List Value) (off : Nat) (w : World), off + z.length ≤ cs.length → (Go.part t cs.toArray off).run P w = .ok (mkV ag ((cs.drop off).take z.length)) w
 size : ∀ w, (Go.sizeOf t).run P w = .ok z.length w
 eq : ∀ d, dep ≤ d → ∀ (vs us : List Value) (r : Bool) (w : World), vs.length = z.length → us.length = z.length → z1v z vs = true → xF vs us = some r → (Op.equalIn d t (mkV ag vs) (mkV ag us)).run P w = .ok r w
 guard : ∀ d, dep ≤ d → P.eqGuardType d t = false
 key : ∀ d e, dep ≤ d → ∀ (vs : List Value) (w : World), vs.length = z.length → (Instr.checkKey e d t (mkV ag vs)).run P w = .ok () w
variable {z : List Value}{dep d : Nat}{zs : List (List Value × Bool)}{ag : Bool}{vs us : List Value}
section
variable {P : Program} {t : Nat}
theorem XE {n : Nat} (h : ∃ f, P.info? t = some f ∧ f.size = n) (w : World) : (Go.sizeOf t).run P w = .ok n w := by
 obtain ⟨f, f1, f2⟩ := h
 simp [Go.sizeOf, typeInfo, f1, f2]
theorem z7G (hk : Xs P t k) {n : Nat} (hs : ∃ f, P.info? t = some f ∧ f.size = n) (h1 : k.isAgg = true ∨ n = 1) (cs : List Value) (off : Nat) (w : World) (hle : off + n ≤ cs.length) : (Go.part t cs.toArray off).run P w = .ok (mkV k.isAgg ((cs.drop off).take n)) w := by
 have hk' := WM hk w
 unfold Go.part
 simp only [Sem.run_bind, hk', Result.andThen_ok, Sem.run_ite]
 by_cases hag : k.isAgg = true
 ·simp only [hag, if_true, XE hs, Result.andThen_ok, Sem.run_pure, mkV]
  congr 2
  apply Array.ext_getElem?
  intro j
  simp [List.getElem?_take, List.getElem?_drop]
 ·have hn : n = 1 := h1.resolve_left hag
  subst hn
  have hlt : off < cs.length := by omega
  have : cs.toArray[off]? = some cs[off] := by simp [hlt]
  simp only [hag, if_false, Bool.false_eq_true, mkV, this, Sem.run_pure]
  congr 1
  rw [List.take_one, List.head?_drop, List.getElem?_eq_getElem hlt]
  rfl
def z7S : EK → Value → Bool
 | .int _, .int _ _ => true
 | .bool, .bool _ => true
 | .str, .string _ => true
 | _, _ => false
theorem z4d (hk : Xs P t k) (hs : ∃ f, P.info? t = some f ∧ f.size = 1) {z : Value} (hz : z7S k z = true) : EqP P t [z] false 1 := by
 have hag : k.isAgg = false := by cases k <;> first | rfl | (cases z <;> cases hz)
 refine ⟨Nat.le_refl _, fun cs off w h => ?_, fun w => XE hs w, ?_, ?_, ?_⟩
 ·have := z7G hk hs (.inr rfl) cs off w h
  rw [hag] at this
  exact this
 ·intro d hd vs us r w hv hu hf he
  obtain ⟨d, rfl⟩ : ∃ d', d = d' + 1 := ⟨d - 1, by omega⟩
  rcases vs with _ | ⟨v, _ | ⟨_, _⟩⟩ <;> simp at hv
  rcases us with _ | ⟨u, _ | ⟨_, _⟩⟩ <;> simp at hu
  simp only [mkV, Bool.false_eq_true, if_false, List.headD_cons]
  unfold Op.equalIn
  cases k <;> cases z <;> simp only [z7S, Bool.false_eq_true] at hz <;> cases v <;> simp only [z1v, Bool.false_eq_true] at hf <;> cases u <;> simp only [xF, reduceCtorEq] at he
  ·split at he
   ·rename_i hkk
    simp only [Option.map_some, Bool.and_true, Option.some.injEq] at he
    subst he
    simp only [Xs] at hk
    simp [Sem.run_bind, run_underlying hk, hkk]
   ·cases he
  ·simp only [Option.map_some, Bool.and_true, Option.some.injEq] at he
   subst he
   simp only [Xs] at hk
   simp [Sem.run_bind, run_underlying hk]
  ·simp only [Option.map_some, Bool.and_true, Option.some.injEq] at he
   subst he
   simp only [Xs] at hk
   simp [Sem.run_bind, run_underlying hk]
 ·intro d hd
  obtain ⟨d, rfl⟩ : ∃ d', d = d' + 1 := ⟨d - 1, by omega⟩
  unfold Program.eqGuardType
  cases k <;> cases z <;> simp only [z7S, Bool.false_eq_true] at hz <;> simp only [Xs] at hk <;> simp [hk]
 ·intro d e hd vs w hv
  obtain ⟨d, rfl⟩ : ∃ d', d = d' + 1 := ⟨d - 1, by omega⟩
  unfold Instr.checkKey
  cases k <;> cases z <;> simp only [z7S, Bool.false_eq_true] at hz <;> simp only [Xs] at hk <;> simp [Sem.run_bind, run_underlying hk]
def zy (P : Program) (dep : Nat) : List Field → Nat → List (List Value × Bool) → Prop
 | [], _, [] => True
 | f :: fs, off, (z, ag) :: zs => f.name ≠ "_" ∧ f.offset = off ∧ EqP P f.type z ag dep ∧ zy P dep fs (off + z.length) zs
 | _, _, _ => False
def kW (zs : List (List Value × Bool)) : List Value := (zs.map (·.1)).flatten
theorem z2E (hd : dep ≤ d)  (w : World) : ∀ {fs : List Field} {off : Nat} {zs : List (List Value × Bool)} {r : Bool}, zy P dep fs off zs → off + (kW zs).length = vs.length → off + (kW zs).length = us.length → z1v (kW zs) (vs.drop off) = true → xF (vs.drop off) (us.drop off) = some r →
  Sem.run P (forIn fs ((none, ()) : Option Bool × Unit) fun f _ =>
   if f.name ≠ "_" then do
    let a ← Go.part f.type vs.toArray f.offset
    let b ← Go.part f.type us.toArray f.offset
    let q ← Op.equalIn d f.type a b
    if (!q) = true then pure (ForInStep.done (some false, ())) else pure (ForInStep.yield (none, ()))
   else pure (ForInStep.yield (none, ()))) w = .ok (if r = true then (none, ()) else (some false, ())) w
 | [], off, [], r, _, h1, h2, hf, he => by
  have hv : vs.drop off = [] := List.drop_eq_nil_of_le (by simp [kW] at h1; omega)
  have hu : us.drop off = [] := List.drop_eq_nil_of_le (by simp [kW] at h2; omega)
  rw [hv, hu] at he
  simp only [xF, Option.some.injEq] at he
  subst he
  simp
 | f :: fs, off, (z, ag) :: zs, r, hok, h1, h2, hf, he => by
  obtain ⟨g1, g2, g3, g4⟩ := hok
  have hz : kW ((z, ag) :: zs) = z ++ kW zs := by simp [kW]
  rw [hz] at h1 h2 hf
  simp only [List.length_append] at h1 h2
  obtain ⟨f1, f2⟩ := VU hf
  rw [List.drop_drop] at f2
  obtain ⟨r1, r2, e1, e2, rfl⟩ := WX (n := z.length) he
  rw [List.drop_drop, List.drop_drop] at e2
  have p1 := g3.part vs off w (by omega)
  have p2 := g3.part us off w (by omega)
  have p3 := g3.eq d hd _ _ r1 w (by simp; omega) (by simp; omega) f1 e1
  simp only [List.forIn_cons, Sem.run_bind, ne_eq, g1, not_false_eq_true, if_true, g2, p1, p2, p3, Result.andThen_ok]
  cases r1
  ·simp
  ·simp only [Bool.not_true, Bool.false_eq_true, if_false, Sem.run_pure, Result.andThen_ok, Bool.true_and]
   exact z2E hd w g4 (by omega) (by omega) f2 e2
 | [], _, _ :: _, _, h, _, _, _, _ => by simp [zy] at h
 | _ :: _, _, [], _, h, _, _, _, _ => by simp [zy] at h
theorem z0t (hd : dep ≤ d) {e : Bool} {vs : List Value} (w : World) : ∀ {fs : List Field} {off : Nat} {zs : List (List Value × Bool)}, zy P dep fs off zs → off + (kW zs).length = vs.length →
  Sem.run P (forIn fs PUnit.unit fun f _ =>
   if f.name ≠ "_" then do
    let a ← Go.part f.type vs.toArray f.offset
    Instr.checkKey e d f.type a
    pure (ForInStep.yield PUnit.unit)
   else pure (ForInStep.yield PUnit.unit)) w = .ok PUnit.unit w
 | [], off, [], _, h1 => by simp
 | f :: fs, off, (z, ag) :: zs, hok, h1 => by
  obtain ⟨g1, g2, g3, g4⟩ := hok
  have hz : kW ((z, ag) :: zs) = z ++ kW zs := by simp [kW]
  rw [hz] at h1
  simp only [List.length_append] at h1
  have p1 := g3.part vs off w (by omega)
  have p3 := g3.key d e hd ((vs.drop off).take z.length) w (by simp; omega)
  simp only [List.forIn_cons, Sem.run_bind, ne_eq, g1, not_false_eq_true, if_true, g2, p1, p3, Result.andThen_ok, Sem.run_pure]
  exact z0t hd w g4 (by omega)
 | [], _, _ :: _, h, _ => by simp [zy] at h
 | _ :: _, _, [], h, _ => by simp [zy] at h
theorem Ja (hd : dep ≤ d) : ∀ {fs : List Field} {off : Nat} {zs : List (List Value × Bool)}, zy P dep fs off zs → fs.any (fun f => f.name != "_" && P.eqGuardType d f.type) = false
 | [], _, _, _ => rfl
 | f :: fs, off, (z, ag) :: zs, hok => by
  obtain ⟨g1, g2, g3, g4⟩ := hok
  simp only [List.any_cons, g3.guard d hd, Bool.and_false, Bool.false_or]
  exact Ja hd g4
 | _ :: _, _, [], h => by simp [zy] at h
theorem wC {fields : Array Field} (hu : P.underlying t = some (.struct fields)) (hst : P.stoodInHeld t = false)  (hs : ∃ f, P.info? t = some f ∧ f.size = (kW zs).length) {dep : Nat} (h1 : 1 ≤ dep) (hf : zy P dep fields.toList 0 zs) : EqP P t (kW zs) true (dep + 1) := by
 have hk : Xs P t (.struct (fields.toList.map fun f => (f.offset, f.type))) ∨ True := .inr trivial
 refine ⟨by omega, fun cs off w h => ?_, fun w => XE hs w, ?_, ?_, ?_⟩
 ·unfold Go.part Go.isAgg
  simp only [Sem.run_bind, run_underlying hu, Result.andThen_ok, Sem.run_pure, if_true, XE hs, mkV]
  congr 2
  apply Array.ext_getElem?
  intro j
  simp [List.getElem?_take, List.getElem?_drop]
 ·intro d hd vs us r w hv hu' hfit he
  obtain ⟨d, rfl⟩ : ∃ d', d = d' + 1 := ⟨d - 1, by omega⟩
  simp only [mkV, if_true]
  unfold Op.equalIn
  simp only [Sem.run_bind, run_underlying hu, Result.andThen_ok, program, Sem.run, hst, Bool.false_eq_true, if_false]
  rw [← Array.forIn_toList]
  have := z2E (P := P) (d := d) (dep := dep) (by omega) (vs := vs) (us := us) w (off := 0) (r := r) hf (by simpa using hv.symm) (by simpa using hu'.symm) (by simpa using hfit) (by simpa using he)
  rw [this]
  cases r <;> simp
 ·intro d hd
  obtain ⟨d, rfl⟩ : ∃ d', d = d' + 1 := ⟨d - 1, by omega⟩
  unfold Program.eqGuardType
  simp only [hu]
  rw [← Array.any_toList]
  exact Ja (by omega) hf
 ·intro d e hd vs w hv
  obtain ⟨d, rfl⟩ : ∃ d', d = d' + 1 := ⟨d - 1, by omega⟩
  simp only [mkV, if_true]
  unfold Instr.checkKey
  simp only [Sem.run_bind, run_underlying hu, Result.andThen_ok]
  rw [← Array.forIn_toList]
  have := z0t (P := P) (dep := dep) (d := d) (e := e) (vs := vs) (by omega) w (off := 0) hf (by simpa using hv.symm)
  rw [this]
  simp
def z6M (n : Nat) (z : List Value) : List Value := (List.replicate n z).flatten
theorem z3O (n : Nat) (z : List Value) : (z6M n z).length = n * z.length := by simp [z6M]
theorem z40 (hd : dep ≤ d) {el : Nat}   (hE : EqP P el z ag dep)  (w : World) : ∀ {n i : Nat} {r : Bool}, i * z.length + n * z.length = vs.length → i * z.length + n * z.length = us.length → z1v (z6M n z) (vs.drop (i * z.length)) = true → xF (vs.drop (i * z.length)) (us.drop (i * z.length)) = some r →
  Sem.run P (forIn (List.range' i n) ((none, ()) : Option Bool × Unit) fun j _ => do
    let a ← Go.part el vs.toArray (j * z.length)
    let b ← Go.part el us.toArray (j * z.length)
    let q ← Op.equalIn d el a b
    if (!q) = true then pure (ForInStep.done (some false, ())) else pure (ForInStep.yield (none, ()))) w = .ok (if r = true then (none, ()) else (some false, ())) w
 | 0, i, r, h1, h2, hf, he => by
  have hv : vs.drop (i * z.length) = [] := List.drop_eq_nil_of_le (by omega)
  have hu : us.drop (i * z.length) = [] := List.drop_eq_nil_of_le (by omega)
  rw [hv, hu] at he
  simp only [xF, Option.some.injEq] at he
  subst he
  simp
 | n + 1, i, r, h1, h2, hf, he => by
  have hz : z6M (n + 1) z = z ++ z6M n z := by simp [z6M, List.replicate_succ]
  rw [hz] at hf
  rw [Nat.add_mul, Nat.one_mul] at h1 h2
  obtain ⟨f1, f2⟩ := VU hf
  have hi : i * z.length + z.length = (i + 1) * z.length := by rw [Nat.add_mul, Nat.one_mul]
  rw [List.drop_drop, hi] at f2
  obtain ⟨r1, r2, e1, e2, rfl⟩ := WX (n := z.length) he
  rw [List.drop_drop, List.drop_drop, hi] at e2
  have p1 := hE.part vs (i * z.length) w (by omega)
  have p2 := hE.part us (i * z.length) w (by omega)
  have p3 := hE.eq d hd _ _ r1 w (by simp; omega) (by simp; omega) f1 e1
  simp only [List.range'_succ, List.forIn_cons, Sem.run_bind, p1, p2, p3, Result.andThen_ok]
  cases r1
  ·simp
  ·simp only [Bool.not_true, Bool.false_eq_true, if_false, Sem.run_pure, Result.andThen_ok, Bool.true_and]
   exact z40 hd hE w (by omega) (by omega) f2 e2
theorem z2p (hd : dep ≤ d) {e : Bool} {el : Nat}   (hE : EqP P el z ag dep) {vs : List Value} (w : World) : ∀ {n i : Nat}, i * z.length + n * z.length = vs.length →
  Sem.run P (forIn (List.range' i n) PUnit.unit fun j _ => do
    let s ← Go.sizeOf el
    let a ← Go.part el vs.toArray (j * s)
    Instr.checkKey e d el a
    pure (ForInStep.yield PUnit.unit)) w = .ok PUnit.unit w
 | 0, i, h1 => by simp
 | n + 1, i, h1 => by
  rw [Nat.add_mul, Nat.one_mul] at h1
  have hi : i * z.length + z.length = (i + 1) * z.length := by rw [Nat.add_mul, Nat.one_mul]
  have p1 := hE.part vs (i * z.length) w (by omega)
  have p3 := hE.key d e hd ((vs.drop (i * z.length)).take z.length) w (by simp; omega)
  simp only [List.range'_succ, List.forIn_cons, Sem.run_bind, hE.size, p1, p3, Result.andThen_ok, Sem.run_pure]
  exact z2p hd hE w (by omega)
theorem z2G {n el : Nat} (hu : P.underlying t = some (.array n el))   {dep : Nat} (hE : EqP P el z ag dep) (hs : ∃ f, P.info? t = some f ∧ f.size = (z6M n z).length) : EqP P t (z6M n z) true (dep + 1) := by
 refine ⟨by omega, fun cs off w h => ?_, fun w => XE hs w, ?_, ?_, ?_⟩
 ·unfold Go.part Go.isAgg
  simp only [Sem.run_bind, run_underlying hu, Result.andThen_ok, Sem.run_pure, if_true, XE hs, mkV]
  congr 2
  apply Array.ext_getElem?
  intro j
  simp [List.getElem?_take, List.getElem?_drop]
 ·intro d hd vs us r w hv hu' hfit he
  obtain ⟨d, rfl⟩ : ∃ d', d = d' + 1 := ⟨d - 1, by omega⟩
  rw [z3O] at hv hu'
  simp only [mkV, if_true]
  unfold Op.equalIn
  simp only [Sem.run_bind, run_underlying hu, Result.andThen_ok, hE.size]
  simp only [Std.Legacy.Range.forIn_eq_forIn_range', Std.Legacy.Range.size, Nat.sub_zero, Nat.add_one_sub_one, Nat.div_one]
  have := z40 (P := P) (d := d) (dep := dep) (by omega) hE (vs := vs) (us := us) w (n := n) (i := 0) (r := r) (by simpa using hv.symm) (by simpa using hu'.symm) (by simpa using hfit) (by simpa using he)
  rw [this]
  cases r <;> simp
 ·intro d hd
  obtain ⟨d, rfl⟩ : ∃ d', d = d' + 1 := ⟨d - 1, by omega⟩
  unfold Program.eqGuardType
  simp only [hu]
  exact hE.guard d (by omega)
 ·intro d e hd vs w hv
  obtain ⟨d, rfl⟩ : ∃ d', d = d' + 1 := ⟨d - 1, by omega⟩
  rw [z3O] at hv
  simp only [mkV, if_true]
  unfold Instr.checkKey
  simp only [Sem.run_bind, run_underlying hu, Result.andThen_ok]
  simp only [Std.Legacy.Range.forIn_eq_forIn_range', Std.Legacy.Range.size, Nat.sub_zero, Nat.add_one_sub_one, Nat.div_one]
  have := z2p (P := P) (dep := dep) (d := d) (e := e) (vs := vs) (by omega) hE w (n := n) (i := 0) (by simpa using hv.symm)
  rw [this]
  simp
theorem EqP.mono {dep dep' : Nat} (h : EqP P t z ag dep) (hd : dep ≤ dep') : EqP P t z ag dep' :=
 ⟨Nat.le_trans h.pos hd, h.part, h.size, fun d q => h.eq d (Nat.le_trans hd q), fun d q => h.guard d (Nat.le_trans hd q), fun d e q => h.key d e (Nat.le_trans hd q)⟩
theorem zy.nil {dep off : Nat} : zy P dep [] off [] := trivial
theorem zy.cons {dep off : Nat} {f : Field} {fs : List Field}    (h1 : f.name ≠ "_") (h2 : f.offset = off) (h3 : EqP P f.type z ag dep) (h4 : zy P dep fs (off + z.length) zs) : zy P dep (f :: fs) off ((z, ag) :: zs) := ⟨h1, h2, h3, h4⟩
theorem zan {i : EI}  {dep : Nat} (h : EqP P t z true dep) (hz : i.zero = some z) (hsz : i.size = z.length) (h1 : dep ≤ P.depth) (h2 : dep ≤ 10000) : z6S P t i := {
 guard := h.guard _ h1
 run := fun vs us r w hv hu hf he => h.eq _ h2 vs us r w (hv.trans hsz) (hu.trans hsz) (by simpa only [zd1, hz] using hf) he
 key := fun vs e w hv => h.key _ e h2 vs w (hv.trans hsz) }
end
end Go.Ex

namespace Go.Own
inductive H where
 | a (x : A)
 | l (xs : List A)
 | b (x : Bool)
 | g (gs : List Bool)
 | cut (n : Nat)
 | n (m : Nat) (ks : List Nat)
 | v (m : Nat) (ks : List Nat)
 | u (m : Nat)
 | f
 | op (m : Nat)
 | stp (m : Nat)
def HM (α : Type) := St → List H → Option (α × List Nat × List (Nat × Ent) × List H × List Prop)
def HM.bind {α β : Type} (m : HM α) (f : α → HM β) : HM β := fun st hs =>
 match m st hs with
 | none => none
 | some (a, R, U, hs', ob) =>
  match f a (zl U st) hs' with
  | none => none
  | some (b, R', U', hs'', ob') => some (b, R ++ R', U ++ U', hs'', ob ++ ob')
variable {α : Type}
def HM.pure (a : α) : HM α := fun _ hs => some (a, [], [], hs, [])
instance : Monad HM := { pure := HM.pure, bind := HM.bind }
def zF : HM α := fun _ _ => none
def yk (m : SM α) : HM α := fun st hs => match m st with | some (a, R, U) => some (a, R, U, hs, []) | none => none
def z8R (p : Prop) : HM Unit := fun _ hs => some ((), [], [], hs, [p])
def z7X : HM (List A) := fun _ hs => match hs with | .l x :: hs => some (x, [], [], hs, []) | _ => none
def zbQ : HM (List Bool) := fun _ hs => match hs with | .g x :: hs => some (x, [], [], hs, []) | _ => none
def KV : List Prop → Prop
 | [] => True
 | p :: ps => p ∧ KV ps
theorem xy : ∀ {l m : List Prop}, KV (l ++ m) → KV l ∧ KV m
 | [], _, h => ⟨trivial, h⟩
 | _ :: _, _, h => ⟨⟨h.1, (xy h.2).1⟩, (xy h.2).2⟩
def Snd (m : SM α) (h : HM α) : Prop := ∀ st hs a R U hs' ob, h st hs = some (a, R, U, hs', ob) → KV ob → m st = some (a, R, U)
theorem zo (m : SM α) : Snd m (yk m) := by
 intro st hs a R U hs' ob e _
 unfold Go.Own.yk at e
 split at e
 ·rename_i h; cases e; exact h
 ·cases e
theorem zk {α β : Type} {m : SM α} {h : HM α} {f : α → SM β} {g : α → HM β} (h1 : Snd m h) (h2 : ∀ a, Snd (f a) (g a)) : Snd (m >>= f) (h >>= g) := by
 intro st hs b R U hs' ob e ho
 change HM.bind h g st hs = _ at e
 change SM.bind m f st = _
 unfold HM.bind at e
 split at e
 ·cases e
 ·rename_i a R1 U1 hs1 ob1 e1
  split at e
  ·cases e
  ·rename_i b' R2 U2 hs2 ob2 e2
   cases e
   have ⟨o1, o2⟩ := xy ho
   unfold SM.bind
   rw [h1 _ _ _ _ _ _ _ e1 o1]
   dsimp only
   rw [h2 _ _ _ _ _ _ _ _ e2 o2]
theorem wB (a : α) : Snd (pure a) (pure a : HM α) := by
 intro st hs b R U hs' ob e _
 change HM.pure a st hs = _ at e
 unfold HM.pure at e
 cases e
 rfl
theorem zp (m : SM α) : Snd m (zF : HM α) := by intro st hs b R U hs' ob e; cases e
def z4L (x : Option A) : HM A := fun _ hs => match hs with | .a y :: hs => some (y, [], [], hs, [x = some y]) | _ => none
theorem z0g (x : Option A) : Snd (ofO x) (z4L x) := by
 intro st hs a R U hs' ob e ho
 unfold Go.Own.z4L at e
 split at e
 ·cases e
  have : x = some _ := ho.1
  subst this
  rfl
 ·cases e
def eqA (x : A) : HM A := fun _ hs => match hs with | .a y :: hs => some (y, [], [], hs, [x = y]) | _ => none
theorem z1Q (x : A) : Snd (pure x) (eqA x) := by
 intro st hs a R U hs' ob e ho
 unfold Go.Own.eqA at e
 split at e
 ·cases e
  have : x = _ := ho.1
  subst this
  rfl
 ·cases e
def eqL (x : List A) : HM (List A) := fun _ hs => match hs with | .l y :: hs => some (y, [], [], hs, [x = y]) | _ => none
theorem z33 (x : List A) : Snd (pure x) (eqL x) := by
 intro st hs a R U hs' ob e ho
 unfold Go.Own.eqL at e
 split at e
 ·cases e
  have : x = _ := ho.1
  subst this
  rfl
 ·cases e
def zc7 (x : Bool) : HM Bool := fun _ hs => match hs with | .b y :: hs => some (y, [], [], hs, [x = y]) | _ => none
theorem z5b (x : Bool) : Snd (pure x) (zc7 x) := by
 intro st hs a R U hs' ob e ho
 unfold Go.Own.zc7 at e
 split at e
 ·cases e
  have : x = _ := ho.1
  subst this
  rfl
 ·cases e
def Zq (p : Prop)  (h : HM α) : HM α := z8R p >>= fun _ => h
variable {p : Prop}
theorem ue {m m' : SM α} {h : HM α} [Decidable p] (h1 : Snd m h) : Snd (if p then m else m') (Zq p h) := by
 intro st hs b R U hs' ob e ho
 change HM.bind (z8R p) (fun _ => h) st hs = _ at e
 unfold HM.bind z8R at e
 dsimp only at e
 split at e
 ·cases e
 ·rename_i b' R2 U2 hs2 ob2 e2
  simp [Option.some.injEq, Prod.mk.injEq, List.nil_append] at e
  obtain ⟨rfl, rfl, rfl, rfl, rfl⟩ := e
  have : p := ho.1
  rw [if_pos this]
  exact h1 _ _ _ _ _ _ _ e2 ho.2
theorem Qg {m : SM α} {h : HM α} (h1 : p → Snd m h) : Snd m (Zq p h) := by
 intro st hs b R U hs' ob e ho
 change HM.bind (z8R p) (fun _ => h) st hs = _ at e
 unfold HM.bind z8R at e
 dsimp only at e
 split at e
 ·cases e
 ·rename_i b' R2 U2 hs2 ob2 e2
  simp [Option.some.injEq, Prod.mk.injEq, List.nil_append] at e
  obtain ⟨rfl, rfl, rfl, rfl, rfl⟩ := e
  exact h1 ho.1 _ _ _ _ _ _ _ e2 ho.2
theorem vE {α : Type} {p : Prop} [Decidable p] {m m' : SM α} {h h' : HM α} (h1 : Snd m h) (h2 : Snd m' h') : Snd (if p then m else m') (if p then h else h') := by
 split <;> assumption
theorem Vx {m m' : SM α} {h : HM α} (e : m = m') (h1 : Snd m' h) : Snd m h := e ▸ h1
def z49 (m : HM α) : HM α := fun st hs => match m st hs with | some (a, R, _, hs', ob) => some (a, R, [], hs', ob) | none => none
theorem z5a {m : SM α} {h : HM α} (h1 : Snd m h) : Snd (ghost m) (z49 h) := by
 intro st hs b R U hs' ob e ho
 unfold z49 at e
 split at e
 ·rename_i a R1 U1 hs1 ob1 e1
  cases e
  unfold Go.Own.ghost
  rw [h1 _ _ _ _ _ _ _ e1 ho]
 ·cases e
def orH (x y : HM α) : HM α := fun st hs => match hs with | .f :: hs' => x st hs' | hs => y st hs
theorem zeE {m : SM α} {x y : HM α} (h1 : Snd m x) (h2 : Snd m y) : Snd m (orH x y) := by
 intro st hs a R U hs' ob e ho
 unfold orH at e
 split at e
 ·exact h1 _ _ _ _ _ _ _ e ho
 ·exact h2 _ _ _ _ _ _ _ e ho
def z6O : List ZI → A → HM A
 | [], x => pure x
 | .deref :: p, .box x => z6O p x
 | .fld i :: p, .agg fs => orH (z4L fs[i]? >>= fun y => z6O p y) (match fs[i]? with | some y => z6O p y | none => zF)
 | .idx i :: p, .osl _ _ es => z4L es[i]? >>= fun y => z6O p y
 | _, _ => zF
theorem yd {α β : Type} (x : α) (f : α → SM β) : (pure x >>= f) = f x := by
 funext st
 change SM.bind (SM.pure x) f st = _
 unfold SM.bind SM.pure
 simp [List.nil_append]
 show (match f x st with | none => none | some (b, R', U') => some (b, R', U')) = f x st
 cases f x st with
 | _ => rfl
theorem z2e (e : Option A) (f : A → Option α) : (ofO (match e with | some y => f y | none => none) : SM α) = (ofO e >>= fun y => ofO (f y)) := by
 funext st
 change _ = SM.bind (ofO e) _ st
 cases e with
 | none => rfl
 | some y =>
  unfold SM.bind ofO
  simp [List.nil_append]
  cases f y <;> rfl
theorem z32 : ∀ (p : List ZI) (x : A), Snd (ofO (wF p x)) (z6O p x)
 | [], x => wB x
 | .deref :: p, .box x => z32 p x
 | .fld i :: p, .agg fs => by
  simp [wF, z6O]
  refine zeE ?_ ?_
  ·refine Vx (z2e _ (fun y => wF p y)) ?_
   exact zk (z0g _) fun y => z32 p y
  ·cases h : fs[i]? with
   | some y => exact z32 p y
   | none => exact zp _
 | .idx i :: p, .osl sz t es => by
  simp [wF, z6O]
  refine Vx (z2e _ (fun y => wF p y)) ?_
  exact zk (z0g _) fun y => z32 p y
 | .deref :: p, .atom _ | .deref :: p, .fn _ _ | .deref :: p, .agg _ | .deref :: p, .tup _ | .deref :: p, .sl _ _ _ | .deref :: p, .sptr _ | .deref :: p, .dop _ | .deref :: p, .osl _ _ _ | .deref :: p, .dead _ | .deref :: p, .opq _ => zp _
 | .fld i :: p, .atom _ | .fld i :: p, .fn _ _ | .fld i :: p, .box _ | .fld i :: p, .tup _ | .fld i :: p, .sl _ _ _ | .fld i :: p, .sptr _ | .fld i :: p, .dop _ | .fld i :: p, .osl _ _ _ | .fld i :: p, .dead _ | .fld i :: p, .opq _ => zp _
 | .idx i :: p, .atom _ | .idx i :: p, .fn _ _ | .idx i :: p, .box _ | .idx i :: p, .tup _ | .idx i :: p, .sl _ _ _ | .idx i :: p, .sptr _ | .idx i :: p, .dop _ | .idx i :: p, .agg _ | .idx i :: p, .dead _ | .idx i :: p, .opq _ => zp _
def z4I : List ZI → A → A → HM A
 | [], _, z => pure z
 | .deref :: p, .box x, z => z4I p x z >>= fun y => pure (.box y)
 | .fld i :: p, .agg fs, z => orH (z4L fs[i]? >>= fun y => z4I p y z >>= fun w => eqL (fs.set i w) >>= fun es' => pure (.agg es')) (match fs[i]? with | some y => z4I p y z >>= fun w => pure (.agg (fs.set i w)) | none => zF)
 | .idx i :: p, .osl sz t es, z => z4L es[i]? >>= fun y => z4I p y z >>= fun w => eqL (es.set i w) >>= fun es' => pure (.osl sz t es')
 | _, _, _ => zF
variable {U : List (Nat × Ent)}{R : List Nat}{hs' : List H}{hs : List H}{st : St}
theorem z6z {x : Option A}   {a : A}    {ob : List Prop} (e : z4L x st hs = some (a, R, U, hs', ob)) (ho : KV ob) : x = some a ∧ R = [] ∧ U = [] := by
 unfold z4L at e
 split at e
 ·cases e
  exact ⟨ho.1, rfl, rfl⟩
 ·cases e
theorem z6h {x : List A}   {a : List A}    {ob : List Prop} (e : eqL x st hs = some (a, R, U, hs', ob)) (ho : KV ob) : x = a ∧ R = [] ∧ U = [] := by
 unfold eqL at e
 split at e
 ·cases e
  exact ⟨ho.1, rfl, rfl⟩
 ·cases e
theorem WT {α β : Type} {m : HM α} {f : α → HM β}   {b : β}    {ob : List Prop} (e : (m >>= f) st hs = some (b, R, U, hs', ob)) :
  ∃ a R1 U1 hs1 ob1 R2 U2 ob2, m st hs = some (a, R1, U1, hs1, ob1) ∧ f a (zl U1 st) hs1 = some (b, R2, U2, hs', ob2) ∧ R = R1 ++ R2 ∧ U = U1 ++ U2 ∧ ob = ob1 ++ ob2 := by
 change HM.bind m f st hs = _ at e
 unfold HM.bind at e
 split at e
 ·cases e
 ·rename_i a R1 U1 hs1 ob1 e1
  split at e
  ·cases e
  ·rename_i b' R2 U2 hs2 ob2 e2
   cases e
   exact ⟨a, R1, U1, hs1, ob1, R2, U2, ob2, e1, e2, rfl, rfl, rfl⟩
theorem VR {x b : α}      {ob : List Prop} (e : (pure x : HM α) st hs = some (b, R, U, hs', ob)) : x = b ∧ R = [] ∧ U = [] ∧ ob = [] := by
 change HM.pure x st hs = _ at e
 unfold HM.pure at e
 cases e
 exact ⟨rfl, rfl, rfl, rfl⟩
theorem Ut : ∀ (p : List ZI) (x z : A) {st : St} {hs : List H} {a : A} {R : List Nat} {U : List (Nat × Ent)} {hs' : List H} {ob : List Prop}, z4I p x z st hs = some (a, R, U, hs', ob) → KV ob → Ww p x z = a ∧ R = [] ∧ U = []
 | [], x, z, st, hs, a, R, U, hs', ob, e, _ => by have ⟨h1, h2, h3, _⟩ := VR e; exact ⟨h1, h2, h3⟩
 | .deref :: p, .box x, z, st, hs, a, R, U, hs', ob, e, ho => by
  simp [z4I] at e
  obtain ⟨b, R1, U1, hs1, ob1, R2, U2, ob2, e1, e2, rfl, rfl, rfl⟩ := WT e
  have ⟨o1, o2⟩ := xy ho
  obtain ⟨h1, rfl, rfl⟩ := Ut p x z e1 o1
  obtain ⟨h2, rfl, rfl, _⟩ := VR e2
  exact ⟨by rw [Ww, h1]; exact h2, rfl, rfl⟩
 | .fld i :: p, .agg fs, z, st, hs, a, R, U, hs', ob, e, ho => by
  simp [z4I] at e
  unfold orH at e
  split at e
  ·obtain ⟨b, R1, U1, hs1, ob1, R2, U2, ob2, e1, e2, rfl, rfl, rfl⟩ := WT e
   have ⟨o1, o2⟩ := xy ho
   obtain ⟨g1, rfl, rfl⟩ := z6z e1 o1
   obtain ⟨w, R3, U3, hs3, ob3, R4, U4, ob4, e3, e4, rfl, rfl, rfl⟩ := WT e2
   have ⟨o3, o4⟩ := xy o2
   obtain ⟨h1, rfl, rfl⟩ := Ut p b z e3 o3
   obtain ⟨es', R5, U5, hs5, ob5, R6, U6, ob6, e5, e6, rfl, rfl, rfl⟩ := WT e4
   have ⟨o5, o6⟩ := xy o4
   obtain ⟨g2, rfl, rfl⟩ := z6h e5 o5
   obtain ⟨h2, rfl, rfl, _⟩ := VR e6
   refine ⟨?_, rfl, rfl⟩
   rw [Ww, g1]
   dsimp only
   rw [h1, g2]
   exact h2
  ·cases hy : fs[i]? with
   | some y =>
    simp [hy] at e
    obtain ⟨b, R1, U1, hs1, ob1, R2, U2, ob2, e1, e2, rfl, rfl, rfl⟩ := WT e
    have ⟨o1, o2⟩ := xy ho
    obtain ⟨h1, rfl, rfl⟩ := Ut p y z e1 o1
    obtain ⟨h2, rfl, rfl, _⟩ := VR e2
    refine ⟨?_, rfl, rfl⟩
    rw [Ww, hy]
    dsimp only
    rw [h1]
    exact h2
   | none => simp [hy] at e; cases e
 | .idx i :: p, .osl sz t es, z, st, hs, a, R, U, hs', ob, e, ho => by
  simp [z4I] at e
  obtain ⟨b, R1, U1, hs1, ob1, R2, U2, ob2, e1, e2, rfl, rfl, rfl⟩ := WT e
  have ⟨o1, o2⟩ := xy ho
  obtain ⟨g1, rfl, rfl⟩ := z6z e1 o1
  obtain ⟨w, R3, U3, hs3, ob3, R4, U4, ob4, e3, e4, rfl, rfl, rfl⟩ := WT e2
  have ⟨o3, o4⟩ := xy o2
  obtain ⟨h1, rfl, rfl⟩ := Ut p b z e3 o3
  obtain ⟨es', R5, U5, hs5, ob5, R6, U6, ob6, e5, e6, rfl, rfl, rfl⟩ := WT e4
  have ⟨o5, o6⟩ := xy o4
  obtain ⟨g2, rfl, rfl⟩ := z6h e5 o5
  obtain ⟨h2, rfl, rfl, _⟩ := VR e6
  refine ⟨?_, rfl, rfl⟩
  rw [Ww, g1]
  dsimp only
  rw [h1, g2]
  exact h2
 | .deref :: p, .atom _, _, _, _, _, _, _, _, _, e, _ | .deref :: p, .fn _ _, _, _, _, _, _, _, _, _, e, _ | .deref :: p, .agg _, _, _, _, _, _, _, _, _, e, _ | .deref :: p, .tup _, _, _, _, _, _, _, _, _, e, _ | .deref :: p, .sl _ _ _, _, _, _, _, _, _, _, _, e, _
 | .deref :: p, .sptr _, _, _, _, _, _, _, _, _, e, _ | .deref :: p, .dop _, _, _, _, _, _, _, _, _, e, _ | .deref :: p, .osl _ _ _, _, _, _, _, _, _, _, _, e, _ | .deref :: p, .dead _, _, _, _, _, _, _, _, _, e, _ | .deref :: p, .opq _, _, _, _, _, _, _, _, _, e, _ => by cases e
 | .fld i :: p, .atom _, _, _, _, _, _, _, _, _, e, _ | .fld i :: p, .fn _ _, _, _, _, _, _, _, _, _, e, _ | .fld i :: p, .box _, _, _, _, _, _, _, _, _, e, _ | .fld i :: p, .tup _, _, _, _, _, _, _, _, _, e, _ | .fld i :: p, .sl _ _ _, _, _, _, _, _, _, _, _, e, _
 | .fld i :: p, .sptr _, _, _, _, _, _, _, _, _, e, _ | .fld i :: p, .dop _, _, _, _, _, _, _, _, _, e, _ | .fld i :: p, .osl _ _ _, _, _, _, _, _, _, _, _, e, _ | .fld i :: p, .dead _, _, _, _, _, _, _, _, _, e, _ | .fld i :: p, .opq _, _, _, _, _, _, _, _, _, e, _ => by cases e
 | .idx i :: p, .atom _, _, _, _, _, _, _, _, _, e, _ | .idx i :: p, .fn _ _, _, _, _, _, _, _, _, _, e, _ | .idx i :: p, .agg _, _, _, _, _, _, _, _, _, e, _ | .idx i :: p, .tup _, _, _, _, _, _, _, _, _, e, _ | .idx i :: p, .sl _ _ _, _, _, _, _, _, _, _, _, e, _
 | .idx i :: p, .sptr _, _, _, _, _, _, _, _, _, e, _ | .idx i :: p, .dop _, _, _, _, _, _, _, _, _, e, _ | .idx i :: p, .box _, _, _, _, _, _, _, _, _, e, _ | .idx i :: p, .dead _, _, _, _, _, _, _, _, _, e, _ | .idx i :: p, .opq _, _, _, _, _, _, _, _, _, e, _ => by cases e
theorem z9O (p : List ZI) (x z : A) : Snd (pure (Ww p x z)) (z4I p x z) := by
 intro st hs a R U hs' ob e ho
 obtain ⟨rfl, rfl, rfl⟩ := Ut p x z e ho
 rfl
def Vl : A → HM A
 | .osl sz t es => z7X >>= fun xs => Zq (A.lives es = true ∧ A.shuts es = xs) (pure (.sl sz t xs))
 | .agg fs => shutAs fs >>= fun gs => pure (.agg gs)
 | .box x => Vl x >>= fun y => pure (.sptr y)
 | .dead _ | .opq _ | .tup _ => zF
 | x => pure x
where shutAs : List A → HM (List A)
 | [] => pure []
 | x :: xs => Vl x >>= fun y => shutAs xs >>= fun ys => pure (y :: ys)
theorem z16 {h : HM α}   {a : α}    {ob : List Prop} (e : Zq p h st hs = some (a, R, U, hs', ob)) (ho : KV ob) : p ∧ ∃ ob', h st hs = some (a, R, U, hs', ob') ∧ KV ob' := by
 obtain ⟨_, R1, U1, hs1, ob1, R2, U2, ob2, e1, e2, rfl, rfl, rfl⟩ := WT e
 unfold z8R at e1
 cases e1
 exact ⟨ho.1, ob2, e2, ho.2⟩
mutual
theorem JS : ∀ (x : A) {st : St} {hs : List H} {a : A} {R : List Nat} {U : List (Nat × Ent)} {hs' : List H} {ob : List Prop}, Vl x st hs = some (a, R, U, hs', ob) → KV ob → x.live = true ∧ x.shut = a ∧ R = [] ∧ U = []
 | .osl sz t es, st, hs, a, R, U, hs', ob, e, ho => by
  simp only [Vl] at e
  obtain ⟨xs, R1, U1, hs1, ob1, R2, U2, ob2, e1, e2, rfl, rfl, rfl⟩ := WT e
  have ⟨o1, o2⟩ := xy ho
  have hh : R1 = [] ∧ U1 = [] := by
   unfold z7X at e1
   split at e1
   ·simp only [Option.some.injEq, Prod.mk.injEq] at e1; exact ⟨e1.2.1.symm, e1.2.2.1.symm⟩
   ·cases e1
  obtain ⟨rfl, rfl⟩ := hh
  have ⟨⟨q1, q2⟩, ob', e3, _⟩ := z16 e2 o2
  obtain ⟨h1, rfl, rfl, _⟩ := VR e3
  exact ⟨by simp only [A.live]; exact q1, by simp only [A.shut]; rw [q2]; exact h1, rfl, rfl⟩
 | .agg fs, st, hs, a, R, U, hs', ob, e, ho => by
  simp only [Vl] at e
  obtain ⟨xs, R1, U1, hs1, ob1, R2, U2, ob2, e1, e2, rfl, rfl, rfl⟩ := WT e
  have ⟨o1, o2⟩ := xy ho
  obtain ⟨q1, q2, rfl, rfl⟩ := z0b fs e1 o1
  obtain ⟨h1, rfl, rfl, _⟩ := VR e2
  exact ⟨by simp only [A.live]; exact q1, by simp only [A.shut]; rw [q2]; exact h1, rfl, rfl⟩
 | .box x, st, hs, a, R, U, hs', ob, e, ho => by
  simp only [Vl] at e
  obtain ⟨xs, R1, U1, hs1, ob1, R2, U2, ob2, e1, e2, rfl, rfl, rfl⟩ := WT e
  have ⟨o1, o2⟩ := xy ho
  obtain ⟨q1, q2, rfl, rfl⟩ := JS x e1 o1
  obtain ⟨h1, rfl, rfl, _⟩ := VR e2
  exact ⟨by simp only [A.live]; exact q1, by simp only [A.shut]; rw [q2]; exact h1, rfl, rfl⟩
 | .dead _, _, _, _, _, _, _, _, e, _ => by cases e
 | .opq _, _, _, _, _, _, _, _, e, _ => by cases e
 | .tup _, _, _, _, _, _, _, _, e, _ => by cases e
 | .atom v, _, _, _, _, _, _, _, e, _ => by simp only [Vl] at e; obtain ⟨h1, rfl, rfl, _⟩ := VR e; exact ⟨rfl, h1, rfl, rfl⟩
 | .fn _ _, _, _, _, _, _, _, _, e, _ => by simp only [Vl] at e; obtain ⟨h1, rfl, rfl, _⟩ := VR e; exact ⟨rfl, h1, rfl, rfl⟩
 | .sl _ _ _, _, _, _, _, _, _, _, e, _ => by simp only [Vl] at e; obtain ⟨h1, rfl, rfl, _⟩ := VR e; exact ⟨rfl, h1, rfl, rfl⟩
 | .sptr _, _, _, _, _, _, _, _, e, _ => by simp only [Vl] at e; obtain ⟨h1, rfl, rfl, _⟩ := VR e; exact ⟨rfl, h1, rfl, rfl⟩
 | .dop _, _, _, _, _, _, _, _, e, _ => by simp only [Vl] at e; obtain ⟨h1, rfl, rfl, _⟩ := VR e; exact ⟨rfl, h1, rfl, rfl⟩
theorem z0b : ∀ (x : List A) {st : St} {hs : List H} {a : List A} {R : List Nat} {U : List (Nat × Ent)} {hs' : List H} {ob : List Prop}, Vl.shutAs x st hs = some (a, R, U, hs', ob) → KV ob → A.lives x = true ∧ A.shuts x = a ∧ R = [] ∧ U = []
 | [], _, _, _, _, _, _, _, e, _ => by simp only [Vl.shutAs] at e; obtain ⟨h1, rfl, rfl, _⟩ := VR e; exact ⟨rfl, h1, rfl, rfl⟩
 | x :: xs, st, hs, a, R, U, hs', ob, e, ho => by
  simp only [Vl.shutAs] at e
  obtain ⟨y, R1, U1, hs1, ob1, R2, U2, ob2, e1, e2, rfl, rfl, rfl⟩ := WT e
  have ⟨o1, o2⟩ := xy ho
  obtain ⟨q1, q2, rfl, rfl⟩ := JS x e1 o1
  obtain ⟨ys, R3, U3, hs3, ob3, R4, U4, ob4, e3, e4, rfl, rfl, rfl⟩ := WT e2
  have ⟨o3, o4⟩ := xy o2
  obtain ⟨q3, q4, rfl, rfl⟩ := z0b xs e3 o3
  obtain ⟨h1, rfl, rfl, _⟩ := VR e4
  exact ⟨by simp only [A.lives, Bool.and_eq_true]; exact ⟨q1, q3⟩, by simp only [A.shuts]; rw [q2, q4]; exact h1, rfl, rfl⟩
end
theorem Jf {p c q : Prop} [Decidable p] [Decidable c] {m m' : SM α} {h : HM α} (hpq : c → q → p) (h1 : Snd m h) : Snd (if p then m else m') (if c then Zq q h else zF) := by
 by_cases hc : c
 ·rw [if_pos hc]
  exact Qg fun hq => Vx (if_pos (hpq hc hq)) h1
 ·rw [if_neg hc]
  exact zp _
def z3g (r : Nat) (p : List ZI) (er ec : Nat) : HM A := yk (rdE r) >>= fun e =>
 match e.t with
 | .own x => if e.er = er ∧ (p = [] ∨ e.ec = ec) then z6O p x else zF
 | .d x => if e.er = er ∧ p = [] then pure x else zF
 | _ => zF
theorem z0f (r : Nat) (p : List ZI) (er ec : Nat) : Snd (look r p er ec) (z3g r p er ec) := by
 refine zk (zo _) fun e => ?_
 have ⟨t, a, b⟩ := e
 cases t with
 | own x => exact vE (z32 _ _) (zp _)
 | d x => exact vE (wB _) (zp _)
 | _ => exact zp _
def z0p (r : Nat) (p : List ZI) (er ec : Nat) : HM A := yk (rdE r) >>= fun e =>
 match e.t with
 | .own x => if e.er = er ∧ e.ec = ec then z6O p x else zF
 | _ => zF
theorem z0V (r : Nat) (p : List ZI) (er ec : Nat) : Snd (lookP r p er ec) (z0p r p er ec) := by
 refine zk (zo _) fun e => ?_
 have ⟨t, a, b⟩ := e
 cases t with
 | own x => exact vE (z32 _ _) (zp _)
 | _ => exact zp _
def Q0 : T → HM A
 | .d a => pure a
 | .als r p er ec => z3g r p er ec >>= fun y => if y.isD = true then pure y else zF
 | _ => zF
theorem Za (x : T) : Snd (val x) (Q0 x) := by
 cases x with
 | d a => exact wB _
 | als r p er ec => exact zk (z0f _ _ _ _) fun y => vE (wB _) (zp _)
 | _ => exact zp _
def z4S : T → HM A
 | .d a => pure a
 | .als r p er ec => z3g r p er ec >>= fun y =>
  if y.isD = true then pure y else if y.plain = true then yk (rdE r) >>= fun e =>
   match e.t with
   | .own x =>
    if p = [] then yk (wrE r ⟨.gone, e.er + 1, e.ec + 1⟩) >>= fun _ => pure y
    else z4I p x (.dead y.size) >>= fun z => yk (wrE r ⟨.own z, e.er, e.ec + 1⟩) >>= fun _ => pure y
   | _ => zF
  else zF
 | _ => zF
theorem z3G (x : T) : Snd (take x) (z4S x) := by
 cases x with
 | d a => exact wB _
 | als r p er ec =>
  refine zk (z0f _ _ _ _) fun y => vE (wB _) (vE (zk (zo _) fun e => ?_) (zp _))
  have ⟨t, a, b⟩ := e
  cases t with
  | own x =>
   refine vE (sdLift' _ _) ?_
   refine Vx (m' := pure (Ww p x (.dead y.size)) >>= fun z => wrE r ⟨.own z, a, b + 1⟩ >>= fun _ => pure y) (yd _ _).symm ?_
   exact zk (z9O _ _ _) fun z => sdLift' _ _
  | _ => exact zp _
 | _ => exact zp _
where sdLift' {β : Type} (m : SM Unit) (y : β) : Snd (m >>= fun _ => pure y) (yk m >>= fun _ => pure y) := zk (zo m) fun _ => wB y
def Us (tt : TT) (t : Nat) (x : T) : HM A := z4S x >>= fun y => pure (Wn tt t y)
theorem VG (tt : TT) (t : Nat) (x : T) : Snd (takeC tt t x) (Us tt t x) := zk (z3G x) fun _ => wB _
def K6 : T → HM (A ⊕ (Nat × List ZI × Nat × Nat))
 | .d (.sptr y) => pure (.inl y)
 | .ptr r p er ec => pure (.inr (r, p, er, ec))
 | .als r p er ec => yk (rdE r) >>= fun e => z3g r p er ec >>= fun y =>
  match y with
  | .box _ => pure (.inr (r, p ++ [.deref], e.er, e.ec))
  | .sptr z => pure (.inl z)
  | _ => zF
 | _ => zF
theorem JU (x : T) : Snd (ptrOf x) (K6 x) := by
 cases x with
 | d a => cases a <;> first | exact wB _ | exact zp _
 | ptr r p er ec => exact wB _
 | als r p er ec =>
  refine zk (zo _) fun e => zk (z0f _ _ _ _) fun y => ?_
  cases y <;> first | exact wB _ | exact zp _
 | _ => exact zp _
def z4z : T → HM A
 | .d a => pure a
 | .als r p er ec => z3g r p er ec
 | _ => zF
theorem z1O (x : T) : Snd (peek x) (z4z x) := by
 cases x with
 | d a => exact wB _
 | als r p er ec => exact z0f _ _ _ _
 | _ => exact zp _
def z8X (tt : TT) (n : Fr) (dst : Option Nat) (t : Nat) (x : T) : HM Unit := K6 x >>= fun q =>
 match q with
 | .inl y => if Zn tt t y = true ∧ y.isD = true then yk (wrT n dst (.d y)) else zF
 | .inr (r, p, er, ec) => z0p r p er ec >>= fun y =>
  if Zn tt t y = true then
   (if y.isD = true then yk (wrT n dst (.d y)) else yk (wrT n dst (.als r p er ec)))
  else zF
theorem z9T (tt : TT) (n : Fr) (dst : Option Nat) (t : Nat) (x : T) : Snd (loadA tt n dst t x) (z8X tt n dst t x) := by
 refine zk (JU _) fun q => ?_
 rcases q with y | ⟨r, p, er, ec⟩
 ·exact vE (zo _) (zp _)
 ·exact zk (z0V _ _ _ _) fun y => vE (vE (zo _) (zo _)) (zp _)
def z4V (tt : TT) (t : Nat) (x v : T) : HM Unit := K6 x >>= fun q =>
 match q with
 | .inl _ => zF
 | .inr (r, p, er, ec) => Us tt t v >>= fun y => yk (rdE r) >>= fun e =>
  match e.t with
  | .own x0 =>
   if e.er = er ∧ e.ec = ec then z6O p x0 >>= fun y0 =>
    if y.size = y0.size ∧ Zn tt t y = true then z4I p x0 y >>= fun z => yk (wrE r ⟨.own z, e.er, e.ec + 1⟩) else zF
   else zF
  | _ => zF
theorem z7t (tt : TT) (t : Nat) (x v : T) : Snd (storeA tt t x v) (z4V tt t x v) := by
 refine zk (JU _) fun q => ?_
 rcases q with y | ⟨r, p, er, ec⟩
 ·exact zp _
 ·refine zk (VG _ _ _) fun y => zk (zo _) fun e => ?_
  have ⟨t', a, b⟩ := e
  cases t' with
  | own x0 =>
   refine vE ?_ (zp _)
   refine Vx (m' := ofO (wF p x0) >>= fun y0 => if y.size = y0.size ∧ Zn tt t y = true then wrE r ⟨.own (Ww p x0 y), a, b + 1⟩ else zt) ?_ ?_
   ·cases wF p x0 with
    | none => rfl
    | some y0 => exact (yd _ _).symm
   ·refine zk (z32 _ _) fun y0 => vE ?_ (zp _)
    refine Vx (m' := pure (Ww p x0 y) >>= fun z => wrE r ⟨.own z, a, b + 1⟩) (yd _ _).symm ?_
    exact zk (z9O _ _ _) fun z => zo _
  | _ => exact zp _
def KA (tt : TT) (n : Fr) (dst : Option Nat) (t i : Nat) (x : T) : HM Unit := K6 x >>= fun q =>
 match q with
 | .inl (.agg fs) =>
  match fs[i]? with
  | some y => if Qr tt t i fs = true then yk (wrT n dst (.d (.sptr y))) else zF
  | none => zF
 | .inl _ => zF
 | .inr (r, p, er, ec) => z0p r p er ec >>= fun y =>
  match y with
  | .agg fs => if Qr tt t i fs = true ∧ i < fs.length then yk (wrT n dst (.ptr r (p ++ [.fld i]) er ec)) else zF
  | _ => zF
theorem z1P (tt : TT) (n : Fr) (dst : Option Nat) (t i : Nat) (x : T) : Snd (fieldAddrA tt n dst t i x) (KA tt n dst t i x) := by
 refine zk (JU _) fun q => ?_
 rcases q with y | ⟨r, p, er, ec⟩
 ·cases y with
  | agg fs =>
   dsimp only
   cases fs[i]? with
   | some y => exact vE (zo _) (zp _)
   | none => exact zp _
  | _ => exact zp _
 ·refine zk (z0V _ _ _ _) fun y => ?_
  cases y with
  | agg fs => exact vE (zo _) (zp _)
  | _ => exact zp _
def zaj (tt : TT) (n : Fr) (dst : Option Nat) (t : Nat) (sz : Nat) (xs : List A) (j : Int) : HM Unit :=
 if w9 tt t = some sz then Zq (0 ≤ j) (z4L xs[j.toNat]? >>= fun y => yk (wrT n dst (.d (.sptr y)))) else zF
theorem z59 (tt : TT) (n : Fr) (dst : Option Nat) (t : Nat) (sz : Nat) (xs : List A) (j : Int) :
  Snd (if w9 tt t = some sz ∧ 0 ≤ j then (match xs[j.toNat]? with | some y => wrT n dst (.d (.sptr y)) | none => zt) else zt) (zaj tt n dst t sz xs j) := by
 refine Jf (fun h1 h2 => ⟨h1, h2⟩) ?_
 refine Vx (m' := ofO xs[j.toNat]? >>= fun y => wrT n dst (.d (.sptr y))) ?_ (zk (z0g _) fun y => zo _)
 cases xs[j.toNat]? with
 | none => rfl
 | some y0 => exact (yd _ _).symm
def VQ (tt : TT) (n : Fr) (dst : Option Nat) (t : Nat) (x : T) (i : A) : HM Unit :=
 match i with
 | .atom (.int _ j) =>
  match x with
  | .d (.sl sz _ xs) => zaj tt n dst t sz xs j
  | .als r p er ec => yk (rdE r) >>= fun e => z3g r p er ec >>= fun y =>
   match y with
   | .osl sz _ es => if w9 tt t = some sz then Zq (0 ≤ j ∧ j.toNat < es.length) (yk (wrT n dst (.ptr r (p ++ [.idx j.toNat]) e.er e.ec))) else zF
   | .sl sz _ xs => zaj tt n dst t sz xs j
   | _ => zF
  | _ => zF
 | _ => zF
theorem QR (tt : TT) (n : Fr) (dst : Option Nat) (t : Nat) (x : T) (i : A) : Snd (indexAddrA tt n dst t x i) (VQ tt n dst t x i) := by
 cases i with
 | atom v =>
  cases v with
  | int k j =>
   cases x with
   | d a =>
    cases a with
    | sl sz tg xs => exact z59 tt n dst t sz xs j
    | _ => exact zp _
   | als r p er ec =>
    refine zk (zo _) fun e => zk (z0f _ _ _ _) fun y => ?_
    cases y with
    | osl sz tg es => exact Jf (fun h1 h2 => ⟨h1, h2.1, h2.2⟩) (zo _)
    | sl sz tg xs => exact z59 tt n dst t sz xs j
    | _ => exact zp _
   | _ => exact zp _
  | _ => exact zp _
 | _ => exact zp _
def Qp (tt : TT) (n : Fr) (dst : Option Nat) (t : Nat) (x : T) (i : A) : HM Unit :=
 match i with
 | .atom (.int _ j) => K6 x >>= fun q =>
  match q with
  | .inl (.agg fs) => z4L fs[j.toNat]? >>= fun y => Zq (Yy tt t fs j = true) (yk (wrT n dst (.d (.sptr y))))
  | .inl _ => zF
  | .inr (r, p, er, ec) => z0p r p er ec >>= fun y =>
   match y with
   | .agg fs => Zq (Yy tt t fs j = true ∧ j.toNat < fs.length) (yk (wrT n dst (.ptr r (p ++ [.fld j.toNat]) er ec)))
   | _ => zF
 | _ => zF
theorem JV (tt : TT) (n : Fr) (dst : Option Nat) (t : Nat) (x : T) (i : A) : Snd (indexArrA tt n dst t x i) (Qp tt n dst t x i) := by
 cases i with
 | atom v =>
  cases v with
  | int k j =>
   refine zk (JU _) fun q => ?_
   rcases q with y | ⟨r, p, er, ec⟩
   ·cases y with
    | agg fs =>
     refine Vx (m' := ofO fs[j.toNat]? >>= fun y => if Yy tt t fs j = true then wrT n dst (.d (.sptr y)) else zt) ?_ (zk (z0g _) fun y => ue (zo _))
     dsimp only
     cases fs[j.toNat]? with
     | none => rfl
     | some y0 => exact (yd _ _).symm
    | _ => exact zp _
   ·refine zk (z0V _ _ _ _) fun y => ?_
    cases y with
    | agg fs => exact ue (zo _)
    | _ => exact zp _
  | _ => exact zp _
 | _ => exact zp _
def JE (tt : TT) (n : Fr) (dst : Option Nat) (t : Nat) (s x : T) : HM Unit :=
 match tt t with
 | some ⟨.slice e, _, _, _, _⟩ =>
  match tt e with
  | some i => z4z x >>= fun y =>
   match y with
   | .sl sz _ ys | .osl sz _ ys =>
    if sz = i.size ∧ i.bytes ≤ 4096 ∧ 0 < i.size ∧ i.zero.isSome = true then Zq (A.areD ys = true) (Us tt t s >>= fun z =>
     match z with
     | .osl sz' tg es => if sz' = i.size then Zq (es.length + ys.length ≤ lim) (eqL (es ++ ys) >>= fun zs => yk (wrT n dst (.own (.osl sz' false zs)))) else zF
     | .sl sz' tg es => if sz' = i.size ∧ tg = true then Zq (es.length + ys.length ≤ lim ∧ ys ≠ [] ∧ A.areD es = true) (eqL (es ++ ys) >>= fun zs => yk (wrT n dst (.own (.osl sz' false zs)))) else zF
     | _ => zF)
    else zF
   | _ => zF
  | none => zF
 | _ => zF
theorem z1U (tt : TT) (n : Fr) (dst : Option Nat) (t : Nat) (s : T) (i : TI) (sz : Nat) (ys : List A) :
    Snd (if sz = i.size ∧ A.areD ys = true ∧ i.bytes ≤ 4096 ∧ 0 < i.size ∧ i.zero.isSome = true then do
          let z ← takeC tt t s
          match z with
          | .osl sz' tg es => if sz' = i.size ∧ es.length + ys.length ≤ lim then wrT n dst (.own (.osl sz' false (es ++ ys))) else zt
          | .sl sz' tg es => if sz' = i.size ∧ es.length + ys.length ≤ lim ∧ tg = true ∧ ys ≠ [] ∧ A.areD es = true then wrT n dst (.own (.osl sz' false (es ++ ys))) else zt
          | _ => zt
        else zt)
      (if sz = i.size ∧ i.bytes ≤ 4096 ∧ 0 < i.size ∧ i.zero.isSome = true then Zq (A.areD ys = true) (Us tt t s >>= fun z =>
          match z with
          | .osl sz' tg es => if sz' = i.size then Zq (es.length + ys.length ≤ lim) (eqL (es ++ ys) >>= fun zs => yk (wrT n dst (.own (.osl sz' false zs)))) else zF
          | .sl sz' tg es => if sz' = i.size ∧ tg = true then Zq (es.length + ys.length ≤ lim ∧ ys ≠ [] ∧ A.areD es = true) (eqL (es ++ ys) >>= fun zs => yk (wrT n dst (.own (.osl sz' false zs)))) else zF
          | _ => zF)
        else zF) := by
  refine Jf (fun h1 h2 => ⟨h1.1, h2, h1.2⟩) (zk (VG _ _ _) fun z => ?_)
  cases z with
  | osl sz' tg es =>
    refine Jf (fun h1 h2 => ⟨h1, h2⟩) ?_
    exact Vx (yd (es ++ ys) fun zs => wrT n dst (.own (.osl sz' false zs))).symm (zk (z33 _) fun _ => zo _)
  | sl sz' tg es =>
    refine Jf (fun h1 h2 => ⟨h1.1, h2.1, h1.2, h2.2⟩) ?_
    exact Vx (yd (es ++ ys) fun zs => wrT n dst (.own (.osl sz' false zs))).symm (zk (z33 _) fun _ => zo _)
  | _ => exact zp _
theorem z1T (tt : TT) (n : Fr) (dst : Option Nat) (t : Nat) (s x : T) : Snd (appendA tt n dst t s x) (JE tt n dst t s x) := by
 unfold appendA JE
 generalize tt t = q
 rcases q with _ | ⟨k, a1, a2, a3, a4⟩
 ·exact zp _
 ·cases k with
  | slice e =>
   dsimp only
   generalize tt e = q
   cases q with
   | none => exact zp _
   | some i =>
    refine zk (z1O _) fun y => ?_
    cases y with
    | sl sz _ ys => exact z1U tt n dst t s _ sz ys
    | osl sz _ ys => exact z1U tt n dst t s _ sz ys
    | _ => exact zp _
  | _ => exact zp _
def U0 (tt : TT) (n : Fr) (dst : Option Nat) (t : Nat) (s x : Operand) : HM Unit :=
 match tt t with
 | some ⟨.slice e, _, _, _, _⟩ =>
  match tt e with
  | some i =>
   if i.bytes ≤ 4096 ∧ 0 < i.size ∧ i.zero.isSome = true then yk (opnd x) >>= fun tx => z4S tx >>= fun y => yk (opnd s) >>= fun ts => Us tt t ts >>= fun z =>
    match y, z with
    | .osl sz _ ys, .osl sz' tg es => if sz = i.size ∧ sz' = i.size ∧ A.plains ys = true then Zq (es.length + ys.length ≤ lim) (eqL (es ++ ys) >>= fun zs => yk (wrT n dst (.own (.osl sz' false zs)))) else zF
    | _, _ => zF
   else zF
  | none => zF
 | _ => zF
theorem z1S (tt : TT) (n : Fr) (dst : Option Nat) (t : Nat) (s x : Operand) : Snd (appendOwnA tt n dst t s x) (U0 tt n dst t s x) := by
 unfold appendOwnA U0
 generalize tt t = q
 rcases q with _ | ⟨k, a1, a2, a3, a4⟩
 ·exact zp _
 ·cases k with
  | slice e =>
   dsimp only
   generalize tt e = q
   cases q with
   | none => exact zp _
   | some i =>
    refine vE (zk (zo _) fun tx => zk (z3G _) fun y => zk (zo _) fun ts => zk (VG _ _ _) fun z => ?_) (zp _)
    cases y with
    | osl sz tg' ys =>
     cases z with
     | osl sz' tg es =>
      refine Jf (fun h1 h2 => ⟨h1.1, h1.2.1, h1.2.2, h2⟩) ?_
      exact Vx (yd (es ++ ys) fun zs => wrT n dst (.own (.osl sz' false zs))).symm (zk (z33 _) fun _ => zo _)
     | _ => exact zp _
    | _ => exact zp _
  | _ => exact zp _
def JR (tt : TT) (t : Nat) : T → HM A
 | .d (.tup _) => zF
 | .d a => pure (Wn tt t a).shut
 | .als r p er ec => z3g r p er ec >>= fun y =>
  if y.isD = true then pure y else Vl y >>= fun ys => yk (rdE r) >>= fun e =>
    match e.t with
    | .own x =>
     if p = [] then yk (wrE r ⟨.d ys, e.er, e.ec + 1⟩) >>= fun _ => pure ys
     else z4I p x ys >>= fun z => yk (wrE r ⟨.own z, e.er, e.ec + 1⟩) >>= fun _ => pure ys
    | _ => zF
 | _ => zF
theorem z9N (y : A) {f : A → SM α} {g : A → HM α} (h : Snd (f y.shut) (g y.shut)) : Snd (if y.live = true then f y.shut else zt) (Vl y >>= g) := by
 intro st hs b R U hs' ob e ho
 obtain ⟨a, R1, U1, hs1, ob1, R2, U2, ob2, e1, e2, rfl, rfl, rfl⟩ := WT e
 have ⟨o1, o2⟩ := xy ho
 obtain ⟨q1, rfl, rfl, rfl⟩ := JS y e1 o1
 rw [if_pos q1]
 exact h _ _ _ _ _ _ _ e2 o2
theorem XU (tt : TT) (t : Nat) (x : T) : Snd (shutT tt t x) (JR tt t x) := by
 cases x with
 | d a => cases a <;> first | exact zp _ | exact wB _
 | als r p er ec =>
  refine zk (z0f _ _ _ _) fun y => vE (wB _) ?_
  refine z9N y (f := fun ys => do
    let e ← rdE r
    match e.t with
    | .own x =>
     if p = [] then do
      wrE r ⟨.d ys, e.er, e.ec + 1⟩
      pure ys
     else do
      wrE r ⟨.own (Ww p x ys), e.er, e.ec + 1⟩
      pure ys
    | _ => zt) ?_
  refine zk (zo _) fun e => ?_
  have ⟨t', a, b⟩ := e
  cases t' with
  | own x =>
   refine vE (zk (zo _) fun _ => wB _) ?_
   refine Vx (m' := pure (Ww p x y.shut) >>= fun z => wrE r ⟨.own z, a, b + 1⟩ >>= fun _ => pure y.shut) (yd _ _).symm ?_
   exact zk (z9O _ _ _) fun z => zk (zo _) fun _ => wB _
  | _ => exact zp _
 | _ => exact zp _
def uD (tt : TT) : List (Operand × Nat) → HM (List A)
 | [] => pure []
 | (x, t) :: as_ => yk (opnd x) >>= fun y => JR tt t y >>= fun a => uD tt as_ >>= fun bs => pure (a :: bs)
theorem qI (tt : TT) : ∀ as_, Snd (shutArgs tt as_) (uD tt as_)
 | [] => wB _
 | (x, t) :: as_ => zk (zo _) fun y => zk (XU _ _ _) fun a => zk (qI tt as_) fun bs => wB _
def Kb (tt : TT) : List (Bool × Operand × Nat) → HM (List A)
 | [] => pure []
 | (g, x, t) :: as_ => yk (opnd x) >>= fun y => (if g = true then Us tt t y else JR tt t y) >>= fun a => Kb tt as_ >>= fun bs => pure (a :: bs)
theorem z0e (tt : TT) : ∀ as_, Snd (passArgs tt as_) (Kb tt as_)
 | [] => wB _
 | (g, x, t) :: as_ => zk (zo _) fun y => zk (vE (VG _ _ _) (XU _ _ _)) fun a => zk (z0e tt as_) fun bs => wB _
def z6s (tt : TT) (ctr : Ctr) (n : Fr) (dst : Option Nat) (f : A) (as_ : List (Operand × Nat)) : HM Unit :=
 match f with
 | .fn k caps => zbQ >>= fun gs => Zq (ctr.gives k = gs) (
  if gs.isEmpty = true then z49 (uD tt as_) >>= fun xs => z4L (ctr.run k (ctr.norm k (xs ++ caps))) >>= fun r =>
    if r.flat = true then yk (wrT n dst (.d r))
    else uD tt as_ >>= fun _ => yk (wrT n dst (mkT r))
  else if gs.length = as_.length then Kb tt (gs.zip as_) >>= fun xs => z4L (ctr.run k (ctr.norm k (xs ++ caps))) >>= fun r => yk (wrT n dst (mkT r))
  else zF)
 | _ => zF
theorem z9V (tt : TT) (ctr : Ctr) (n : Fr) (dst : Option Nat) (f : A) (as_ : List (Operand × Nat)) : Snd (callA tt ctr n dst f as_) (z6s tt ctr n dst f as_) := by
 cases f with
 | fn k caps =>
  intro st hs b R U hs' ob e ho
  unfold z6s at e
  obtain ⟨gs, R1, U1, hs1, ob1, R2, U2, ob2, e1, e2, rfl, rfl, rfl⟩ := WT e
  have ⟨o1, o2⟩ := xy ho
  have hh : R1 = [] ∧ U1 = [] := by
   unfold zbQ at e1
   split at e1
   ·simp only [Option.some.injEq, Prod.mk.injEq] at e1; exact ⟨e1.2.1.symm, e1.2.2.1.symm⟩
   ·cases e1
  obtain ⟨rfl, rfl⟩ := hh
  have ⟨q2, ob', e3, o3⟩ := z16 e2 o2
  subst q2
  simp only [callA]
  revert e3
  have main : ∀ {h : HM Unit} {m : SM Unit}, Snd m h → h (zl [] st) hs1 = some (b, R2, U2, hs', ob') → m st = some (b, [] ++ R2, [] ++ U2) := fun hs e => hs _ _ _ _ _ _ _ e o3
  intro e3
  refine main ?_ e3
  refine vE ?_ (vE ?_ (zp _))
  ·refine zk (z5a (qI _ _)) fun xs => ?_
   refine Vx (m' := ofO (ctr.run k (ctr.norm k (xs ++ caps))) >>= fun r => if r.flat = true then wrT n dst (.d r) else shutArgs tt as_ >>= fun _ => wrT n dst (mkT r)) ?_ (zk (z0g _) fun r => vE (zo _) (zk (qI _ _) fun _ => zo _))
   cases ctr.run k (ctr.norm k (xs ++ caps)) with
   | none => rfl
   | some r => exact (yd _ _).symm
  ·refine zk (z0e _ _) fun xs => ?_
   refine Vx (m' := ofO (ctr.run k (ctr.norm k (xs ++ caps))) >>= fun r => wrT n dst (mkT r)) ?_ (zk (z0g _) fun r => zo _)
   cases ctr.run k (ctr.norm k (xs ++ caps)) with
   | none => rfl
   | some r => exact (yd _ _).symm
 | _ => exact zp _
def z3x : List (Operand × Nat) → TT → HM (List A)
 | [], _ => pure []
 | (x, t) :: ps, tt => yk (opnd x) >>= fun y => Us tt t y >>= fun a => z3x ps tt >>= fun bs => pure (a :: bs)
theorem z2Z (tt : TT) : ∀ ps, Snd (takes ps tt) (z3x ps tt)
 | [] => wB _
 | (x, t) :: ps => zk (zo _) fun y => zk (VG _ _ _) fun a => zk (z2Z tt ps) fun bs => wB _
end Go.Own
