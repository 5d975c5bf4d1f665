/- -/
import Derived.Test.YtkelmheleahmpaaGreatDoorPartG
import Derived.Test.YtkelmheleahmpaaGreatDoorPartE
import Derived.Test.YtkelmheleahmpaaGreatDoorPartB
import Derived.OpenShut
import Derived.ChangeShapes
import Derived.Test.YtkelmheleahmpaaGreatDoorPartC
import Derived.WalkKit
import Derived.ProofKit
import Derived.Carry
import Derived.Test.YtkelmheleahmpaaGreatDoorRows
import Derived.Test.YtkelmheleahmpaaGreatDoorChecked
import Derived.LaidMore
import Derived.Stop.Joined
import Derived.SevenTiedAt
import Derived.Test.YtkelmheleahmpaaGreatDoorCards
import Derived.Test.YtkelmheleahmpaaGreatDoorTie
set_option linter.unusedVariables false
set_option linter.unusedSimpArgs false
namespace Go.Own
open Classical
variable {α β : Type}
def atL (f : α → List β) : Option α → List β
 | some x => f x
 | none => []
theorem z5U (f : α → List β) : ∀ L : List α, ((List.range L.length).flatMap fun i => atL f L[i]?) = L.flatMap f
 | [] => by simp
 | x :: L => by
  rw [List.length_cons, List.range_succ_eq_map, List.flatMap_cons, List.flatMap_map, List.flatMap_cons]
  congr 1
  exact z5U f L
theorem z94 (p : α → Prop) (f : α → β) : ∀ L : List α, (L.flatMap fun x => if p x then [] else [f x]) = (L.filter fun x => !decide (p x)).map f
 | [] => rfl
 | x :: L => by
  rw [List.flatMap_cons, z94 p f L, List.filter_cons]
  by_cases hc : p x <;> simp [hc]
theorem zfm (w : List z8) : zR w = some w := by
 unfold zR
 rw [gdT (by simp)]
 simp
noncomputable def unc (m : z6) (l : List (List Nat)) (g : Nat) : List T3 := (GL m g).filter fun t => !decide (Kd m l (toI g t))
theorem zcq (m : z6) (l : List (List Nat)) (g : Nat) : ((GL m g).map (toI g)).filter (fun x => !decide (Kd m l x)) = (unc m l g).map (toI g) := by
 rw [List.filter_map]
 rfl
theorem z5A {step : List β × Int → Option (LR (List β × Int) (List β))} (L : List α) (f : α → β) (hL : L.length < 4611686018427387904)
  (h : ∀ i x, L[i]? = some x → step ((L.take i).map f, (i : Int)) = some (.next ((L.take i).map f ++ [f x], ((i + 1 : Nat) : Int)))) (hd : step (L.map f, (L.length : Int)) = some (.done (L.map f))) : loop step ([], 0) = some (L.map f) := by
 refine QF (fun i => ((L.take i).map f, (i : Int))) L.length (by omega) ?_ ?_
 ·intro i hi
  have hx := List.getElem?_eq_getElem hi
  show step ((L.take i).map f, (i : Int)) = some (.next ((L.take (i + 1)).map f, ((i + 1 : Nat) : Int)))
  rw [h i _ hx, List.take_add_one, hx, List.map_append]
  rfl
 ·simp only [List.take_length]; exact hd
theorem z0D {ρ : Type} {step : Int → Option (LR Int (Unit ⊕ ρ))} (n : Nat) (hn : n < 9223372036854775808) (h : ∀ i : Nat, i < n → step (i : Int) = some (.next ((i + 1 : Nat) : Int))) (hd : step (n : Int) = some (.done (.inl ()))) : loop step 0 = some (.inl ()) := QF (fun i : Nat => (i : Int)) n hn h hd
section
variable {m : z6} (h : VM m) {l : List (List Nat)} (hl : WL m l) (hc : chE m.Inputs (lN l) = 0) (hR : m.Rows.length ≤ 6) (h3 : kk m ≤ 3)
include h hl hc hR h3
theorem WP {g : Nat} (hg : g < 3) : xD m (lN l) (g : Int) = some ((unc m l g).map (fun t => (toC m g t).pair_), 0) := by
 have hgs := z3W h hR h3 g
 unfold xD
 rw [zaV h hc, oB, show ((0 : Int) != 0) = false from rfl, cond_false, z4j h hl, oB, z8q h hg, oB]
 have key : ∀ L : List T3, L.length ≤ 54 → loop (fun s => xj (mk3 (cv0 m l)) (L.map (toC m g)) s.1 s.2) (([] : List z8), (0 : Int)) = some ([] ++ (List.range L.length).flatMap fun i => atL (fun t => if Kd m l (toI g t) then [] else [(toC m g t).pair_]) L[i]?) := by
  intro L hL
  refine vJ _ L.length (by omega) 1 0 (Nat.le_refl _) (fun i _ => ?_) ?_ ?_
  ·cases L[i]? with
   | none => simp [atL]
   | some t => simp only [atL]; split <;> simp
  ·intro i out hi ho
   have hx := List.getElem?_eq_getElem hi
   have hix : idx (L.map (toC m g)) (i : Int) = some (toC m g L[i]) := by rw [yW, List.getElem?_map, hx]; rfl
   have hmk : mkd g L[i] (cv0 m l) ↔ Kd m l (toI g L[i]) := by
    obtain ⟨a1, a2, a3⟩ := z62 h hl
    have hg' : g = 0 ∨ g = 1 ∨ g = 2 := by omega
    unfold mkd toI
    rcases hg' with rfl | rfl | rfl
    ·simp only [if_true]; exact a1 _
    ·simp only [Nat.one_ne_zero, if_false, if_true]; exact a2 _ _
    ·simp only [show ¬ (2 = 0) by decide, show ¬ (2 = 1) by decide, if_false]; exact a3 _ _ _
   have hwi : w64 ((i : Int) + 1) = ((i + 1 : Nat) : Int) := x3 (by omega)
   unfold xj
   rw [List.length_map]
   simp only
   rw [show decide ((i : Int) < (L.length : Int)) = true by simp [hi], cond_true, hix, oB, zaO, oB]
   by_cases hcv : Kd m l (toI g L[i])
   ·rw [decide_eq_true (hmk.2 hcv), Bool.not_true, cond_false]
    unfold xk
    simp only [hx, atL, if_pos hcv, List.append_nil, hwi]
   ·rw [decide_eq_false (fun q => hcv (hmk.1 q)), Bool.not_false, cond_true, gdT (by simp; omega)]
    unfold xk
    simp only [hx, atL, if_neg hcv, hwi]
  ·intro out
   unfold xj
   rw [List.length_map]
   simp
 rw [key _ hgs, oB, List.nil_append, z5U, z94]
 unfold vu
 rw [zfm, oB]
 rfl
theorem Ja {g : Nat} : (unc m l g).length ≤ 54 := by have _ := hl; have _ := hc; exact Nat.le_trans (List.length_filter_le _ _) (z3W h hR h3 g)
theorem z4b : u4 m (lN l) = some ((unc m l 0).map (fun t => (t.1 : Int)), 0) := by
 have hu := Ja h hl hc hR h3 (g := 0)
 unfold u4
 rw [show (0 : Int) = ((0 : Nat) : Int) from rfl, WP h hl hc hR h3 (by decide), oB, gdT (by simp; omega)]
 generalize unc m l 0 = L at *
 have key : loop (fun s => xF (L.map (fun t => (toC m 0 t).pair_), ((0 : Nat) : Int)) s.1 s.2) (([] : List Int), (0 : Int)) = some (L.map fun t => (t.1 : Int)) := by
  refine z5A L (fun t => (t.1 : Int)) (by omega) ?_ ?_
  ·intro i t ht
   have hi := (List.getElem?_eq_some_iff.1 ht).1
   unfold xF
   simp only [List.length_map]
   rw [show decide ((i : Int) < (L.length : Int)) = true by simp [hi], cond_true, yW, List.getElem?_map, ht, Option.map_some, oB, gdT (by simp; omega), x3 (by omega)]
   rfl
  ·unfold xF
   simp
 rw [show ((0 : Nat) : Int) = 0 from rfl] at key
 rw [show ((0 : Nat) : Int) = 0 from rfl, key, oB]
 unfold vU
 rw [gdT (by simp)]
theorem z5m : vE m (lN l) = some ((unc m l 1).map (fun t => (⟨t.1, t.2.1⟩ : x5 Int)), 0) := by
 have hu := Ja h hl hc hR h3 (g := 1)
 unfold vE
 rw [show (1 : Int) = ((1 : Nat) : Int) from rfl, WP h hl hc hR h3 (by decide), oB, gdT (by simp; omega)]
 generalize unc m l 1 = L at *
 have key : loop (fun s => w9 (L.map (fun t => (toC m 1 t).pair_), 0) s.1 s.2) (([] : List (x5 Int)), (0 : Int)) = some (L.map fun t => (⟨t.1, t.2.1⟩ : x5 Int)) := by
  refine z5A L (fun t => (⟨t.1, t.2.1⟩ : x5 Int)) (by omega) ?_ ?_
  ·intro i t ht
   have hi := (List.getElem?_eq_some_iff.1 ht).1
   unfold w9
   simp only [List.length_map]
   rw [show decide ((i : Int) < (L.length : Int)) = true by simp [hi], cond_true, yW, List.getElem?_map, ht, Option.map_some, oB, gdT (by simp; omega), x3 (by omega)]
   rfl
  ·unfold w9
   simp
 rw [key, oB]
 unfold um
 rw [gdT (by simp)]
theorem z5l : uz m (lN l) = some ((unc m l 2).map (fun t => (⟨t.1, t.2.1, t.2.2⟩ : z8)), 0) := by
 unfold uz
 rw [show (2 : Int) = ((2 : Nat) : Int) from rfl, WP h hl hc hR h3 (by decide), oB]
 rfl
omit hl hc hR h3 in
theorem z9k (hn : unc m l 1 = []) : unc m l 0 = [] := by
 have h1 : ∀ t ∈ GL m 1, Kd m l (toI 1 t) := by
  intro t ht
  apply Classical.byContradiction
  intro q
  have : t ∈ unc m l 1 := List.mem_filter.2 ⟨ht, by simp [q]⟩
  rw [hn] at this
  simp at this
 have h0 := z23 h h1
 unfold unc
 rw [List.filter_eq_nil_iff]
 intro t ht
 simp [h0 t ht]
end
set_option maxRecDepth 100000
theorem z1K : X5 = some true := by kernel_rfl
def Ok5 (a : Int) : Prop := (0) ≤ a ∧ a ≤ 255
def Ok4 (_ : Bool) : Prop := True
def zbc (a : Int) : Prop := (0) ≤ a ∧ a ≤ 65535
def zhq (l : List Int) : Prop := ∀ a ∈ l, zbc a
def zhp (a : yh) : Prop := Ok5 a.States ∧ Ok5 a.Inputs ∧ Ok5 a.Outputs ∧ Ok4 a.Partial ∧ zhq a.Edges
def zg2 (l : List Int) : Prop := ∀ a ∈ l, Ok5 a
def zho (l : List (List Int)) : Prop := ∀ a ∈ l, zg2 a
def zhn (a : wn) : Prop := zhp a.M ∧ zho a.L
open Classical
theorem z7T {x : wn} (hx : zhn x) : wI x = some true := by
 obtain ⟨⟨a1, a2, a3, _, a5⟩, b⟩ := hx
 obtain ⟨r, e, l, e2, k⟩ := zhv (x := x) ⟨a1.1, a2.1, a3.1, a5⟩ b
 obtain ⟨m, L⟩ := r
 simp only at e2 k
 subst e2
 have p1 := z4b k.vm k.wl k.ch k.rows k.kk3
 have p2 := z5m k.vm k.wl k.ch k.rows k.kk3
 have p3 := z5l k.vm k.wl k.ch k.rows k.kk3
 have q1 := Um k.vm k.gg k.wl (by decide : 0 < 3)
 have q2 := Um k.vm k.gg k.wl (by decide : 1 < 3)
 have q3 := Um k.vm k.gg k.wl (by decide : 2 < 3)
 rw [zcq] at q1 q2 q3
 have u0 := Ja k.vm k.wl k.ch k.rows k.kk3 (g := 0)
 have u1 := Ja k.vm k.wl k.ch k.rows k.kk3 (g := 1)
 have u2 := Ja k.vm k.wl k.ch k.rows k.kk3 (g := 2)
 have hnil := z9k k.vm (l := l)
 have e' : Zf (wn.mk x.M x.L) = some (m, lN l) := e
 unfold wI
 rw [e, oB, p1, oB, p2, oB, p3, oB, show (0 : Int) = ((0 : Nat) : Int) from rfl, q1, oB, show (1 : Int) = ((1 : Nat) : Int) from rfl, q2, oB, show (2 : Int) = ((2 : Nat) : Int) from rfl, q3, oB]
 generalize unc m l 0 = U0 at *
 generalize unc m l 1 = U1 at *
 generalize unc m l 2 = U2 at *
 have hJ : yl (U0.map (fun t => (t.1 : Int)), ((0 : Nat) : Int)) (U1.map (fun t => (⟨t.1, t.2.1⟩ : x5 Int)), ((0 : Nat) : Int)) (U2.map (fun t => (⟨t.1, t.2.1, t.2.2⟩ : z8)), ((0 : Nat) : Int)) (U0.map (toI 0)) (U1.map (toI 1)) (U2.map (toI 2)) = some true := by
  unfold yl
  rw [z0D U0.length (by omega), oB]
  ·unfold xM
   simp only
   rw [z0D U1.length (by omega), oB]
   ·unfold xL
    simp only
    rw [z0D U2.length (by omega), oB]
    ·unfold xK
     rw [z1K]
     rfl
    ·intro i hi
     have hx := List.getElem?_eq_getElem hi
     unfold yM
     simp only [List.length_map]
     rw [show decide ((i : Int) < (U2.length : Int)) = true by simp [hi], cond_true, yW, List.getElem?_map, yW, List.getElem?_map, hx, Option.map_some, Option.map_some, oB, oB, oB, oB, x3 (by omega)]
     simp [toI]
    ·unfold yM
     simp
   ·intro i hi
    have hx := List.getElem?_eq_getElem hi
    unfold yK
    simp only [List.length_map]
    rw [show decide ((i : Int) < (U1.length : Int)) = true by simp [hi], cond_true, yW, List.getElem?_map, yW, List.getElem?_map, hx, Option.map_some, Option.map_some, oB, oB, oB, x3 (by omega)]
    simp [toI]
   ·unfold yK
    simp
  ·intro i hi
   have hx := List.getElem?_eq_getElem hi
   unfold yI
   simp only [List.length_map]
   rw [show decide ((i : Int) < (U0.length : Int)) = true by simp [hi], cond_true, yW, List.getElem?_map, yW, List.getElem?_map, hx, Option.map_some, Option.map_some, oB, oB, x3 (by omega)]
   simp [toI]
  ·unfold yI
   simp
 simp only [List.length_map, bne_self_eq_false, cond_false, hJ]
 cases U1 with
 | nil =>
  have := hnil rfl
  subst this
  rfl
 | cons t U1 =>
  rw [show ((((t :: U1).length : Nat) : Int) == ((0 : Nat) : Int)) = false by simp; omega]
  rfl
def z0W (w : World) : zn := fun b o => y9 w.heap b o
variable {v : Value}
theorem z6d {w : World} {a : Addr}  (h : w.cell? a = some v) : a.spot = none ∧ y9 w.heap a.block a.off = some v := by
 unfold World.cell? at h
 unfold y9
 split at h
 ·rename_i c ty fr he
  rw [he]
  split at h
  ·cases h
  ·rename_i hs
   exact ⟨by simpa using hs, h⟩
 ·cases h
variable {cs : List Value}{S : zn}{t : Nat}
section
variable {H : Type} {enc : TypeId × Value → H} {P : Program} {w : World} {base : Nat} {spare : Nat → Bool} {held : Bool}
theorem z6b {a : Addr} {n : Nat}  (h : w.cells? base a n = some cs) (hn : 0 < n) : a.spot = none ∧ cs.length = n ∧ Kw (z0W w) a.block a.off cs := by
 obtain ⟨_, h2, h3⟩ := World.cells?_some h
 have h0 : a.spot = none := by
  have h4 := h3 0 hn
  cases hc : cs[0]? with
  | none => rw [List.getElem?_eq_none_iff] at hc; omega
  | some v =>
   rw [hc] at h4
   have := (z6d h4).1
   simpa [Addr.add] using this
 refine ⟨h0, h2, fun j v hj => ?_⟩
 have hlt := (List.getElem?_eq_some_iff.1 hj).1
 have h4 := h3 j (by omega)
 rw [hj] at h4
 have q := (z6d h4).2
 unfold Addr.add at q
 split at q
 ·rename_i e; subst e; exact q
 ·exact q
theorem z1u : ∀ {bs : List A} {cs : List Value} {a : A} {c : List Value}, y8 S bs cs → Rep S a c → y8 S (bs ++ [a]) (cs ++ c)
 | [], cs, a, c, h1, h2 => by
  simp only [y8] at h1
  subst h1
  simp only [List.nil_append, y8]
  exact ⟨c, [], by simp, h2, rfl⟩
 | x :: bs, cs, a, c, h1, h2 => by
  simp only [y8] at h1
  obtain ⟨c1, c2, rfl, r1, r2⟩ := h1
  simp only [List.cons_append, y8]
  exact ⟨c1, c2 ++ c, by simp, r1, z1u r2 h2⟩
theorem z7N {b o : Nat} {c1 c2 : List Value} (h1 : Kw S b o c1) (h2 : Kw S b (o + c1.length) c2) : Kw S b o (c1 ++ c2) := by
 intro j v hj
 rcases Nat.lt_or_ge j c1.length with q | q
 ·rw [List.getElem?_append_left q] at hj
  exact h1 j v hj
 ·rw [List.getElem?_append_right q] at hj
  have := h2 _ _ hj
  rwa [show o + c1.length + (j - c1.length) = o + j by omega] at this
theorem Jd {α : Type} {t e sz : Nat} (f : α → A) (ok : α → Prop) (ht : P.underlying t = some (.slice e)) (hsz : P.cellsOf e = sz) (h0 : 0 < sz) (hf : ∀ a, (f a).size = sz)
    (hel : ∀ n cs x, DataW.trod enc P w base spare held n e cs = some x → ∃ a, ok a ∧ Rep (z0W w) (f a) cs)
    {fuel : Nat} {cs : List Value} {x : DataW H × List MemPlace} (h : DataW.trod enc P w base spare held fuel t cs = some x) : ∃ l : List α, (∀ a ∈ l, ok a) ∧ Rep (z0W w) (.sl sz false (l.map f)) cs := by
  rcases DataW.trod_slice ht h with ⟨rfl, _⟩ | ⟨a, len, cap, elems, rest, n, _, rfl, _, _, hlc, _, hlen, hall, _, _⟩
  · refine ⟨[], by simp, ?_⟩
    simp only [Rep, List.map_nil, List.length_nil]
    exact ⟨none, 0, rfl, by simp, Nat.le_refl _, by simp, .inl trivial⟩
  · have key : ∀ k, k ≤ len → ∃ (l : List α) (cells : List Value), l.length = k ∧ (∀ a ∈ l, ok a) ∧ y8 (z0W w) (l.map f) cells ∧ cells.length = k * sz ∧ (0 < k → a.spot = none) ∧ Kw (z0W w) a.block a.off cells := by
      intro k
      induction k with
      | zero => intro _; exact ⟨[], [], rfl, by simp, by simp [y8], by simp, by simp, fun j v h => by simp at h⟩
      | succ k ih =>
        intro hk
        obtain ⟨l, cells, q1, q2, q3, q4, q5, q6⟩ := ih (by omega)
        have hk' := hall k (by omega)
        have hsome : elems[k]? = some elems[k] := List.getElem?_eq_getElem (by omega)
        rw [hsome, Option.bind_eq_some_iff, hsz] at hk'
        obtain ⟨c, hc, htr⟩ := hk'
        obtain ⟨y, hy, hr⟩ := hel _ _ _ htr
        obtain ⟨g1, g2, g3⟩ := z6b hc h0
        refine ⟨l ++ [y], cells ++ c, by simp [q1], ?_, ?_, ?_, ?_, ?_⟩
        · intro z hz
          rcases List.mem_append.1 hz with q | q
          · exact q2 z q
          · simp only [List.mem_cons, List.not_mem_nil, or_false] at q; subst q; exact hy
        · rw [List.map_append]; exact z1u q3 hr
        · rw [List.length_append, q4, g2, Nat.succ_mul]
        · intro _
          rcases Nat.eq_zero_or_pos k with rfl | hk0
          · simpa [Addr.add] using g1
          · exact q5 hk0
        · refine z7N q6 ?_
          rw [q4]
          unfold Addr.add at g3
          split at g3
          · rename_i e0
            rw [e0, Nat.add_zero]
            exact g3
          · exact g3
    obtain ⟨l, cells, q1, q2, q3, q4, q5, q6⟩ := key len (Nat.le_refl _)
    refine ⟨l, q2, ?_⟩
    simp only [Rep, List.length_map]
    refine ⟨some a, cap, by rw [q1], by simp, by omega, ?_, ?_⟩
    · intro y hy
      obtain ⟨z, _, rfl⟩ := List.mem_map.1 hy
      exact hf z
    · rcases Nat.eq_zero_or_pos len with rfl | hl
      · left; rw [List.length_eq_zero_iff.1 q1]; rfl
      · right
        refine ⟨a.block, a.off, cells, ?_, q3, q6⟩
        have := q5 hl
        obtain ⟨b, o, s⟩ := a
        simp only at this
        subst this
        rfl
theorem z5L {k : IntKind} {lo hi : Int} (ht : P.underlying t = some (.int k)) (hlo : k.min = lo) (hhi : k.max = hi) {fuel : Nat}  {x : DataW H × List MemPlace} (h : DataW.trod enc P w base spare held fuel t cs = some x) :
  ∃ n : Int, (lo ≤ n ∧ n ≤ hi) ∧ cs = [.int k n] ∧ Rep (z0W w) (.atom (.int k n)) cs := by
 obtain ⟨n, rfl, _, hw⟩ := DataW.trod_int ht h
 simp only [Lit.wf, Bool.and_eq_true, decide_eq_true_eq, hlo, hhi] at hw
 exact ⟨n, hw, rfl, by simp only [Rep]; exact ⟨trivial, rfl⟩⟩
theorem z8g (ht : P.underlying t = some .bool) {fuel : Nat}  {x : DataW H × List MemPlace} (h : DataW.trod enc P w base spare held fuel t cs = some x) :
  ∃ b : Bool, Rep (z0W w) (.atom (.bool b)) cs := by
 obtain ⟨b, rfl, _⟩ := DataW.trod_bool ht h
 exact ⟨b, by simp only [Rep]; exact ⟨trivial, rfl⟩⟩
theorem Vp {fs : List Field} (ht : P.underlying t = some (.struct ⟨fs⟩)) {fuel : Nat}  {x : DataW H × List MemPlace} (h : DataW.trod enc P w base spare held fuel t cs = some x) :
  cs.length = P.cellsOf t ∧ ∀ (i : Nat) (f : Field), fs[i]? = some f → ∃ n y, DataW.trod enc P w base spare held n f.type ((cs.drop f.offset).take (P.cellsOf f.type)) = some y := by
 obtain ⟨xs, n, _, _, hl, hxl, hall⟩ := DataW.trod_struct ht h
 refine ⟨hl, fun i f hf => ?_⟩
 have hlt := (List.getElem?_eq_some_iff.1 hf).1
 have := hall i f (by simpa using hf)
 rw [List.getElem?_eq_getElem (by rw [hxl]; simpa using hlt)] at this
 exact ⟨n, _, this⟩
end
theorem Zx {a : A} {bs : List A}  {n : Nat} (h1 : Rep S a (cs.take n)) (h2 : y8 S bs (cs.drop n)) : y8 S (a :: bs) cs := by
 simp only [y8]
 exact ⟨cs.take n, cs.drop n, (List.take_append_drop n cs).symm, h1, h2⟩
variable {P : Program}
section
open Go Go.ChangeShapes Go.WideShapes Go.ChangeAt Go.RowKit
theorem z5h {P : Program} {H : Type} {enc : TypeId × Value → H} {f : Func} {s : ChangeSpec} {apart fresh handsOn again : Bool} {W W' : World} {args : Array Value} {v : Value} {ds : List (DataW H)} {pa : List MemPlace}
  (hvar : s.vars = []) (hvars2 : (s.fn H (ds ++ [])).vars = []) (hW : DataW.Whole enc P f.params.toList s.vars apart W args.toList ds [] (pa ++ [])) (hb : Below W.heap.size W W')
  (hres : ∀ (b : Nat) (sp : Nat → Bool) (hd : Bool), DataW.TrodAll enc P W' b sp hd f.resultTypes.toList (v.resultList f.resultTypes.size) (s.fn H (ds ++ [])).results [])
  (hargs : ∀ sp : Nat → Bool, (∀ p ∈ pa ++ [], sp p.block = true) → DataW.TrodAll enc P W' 0 sp true f.params.toList args.toList (s.fn H (ds ++ [])).args pa)
  (hok : ∀ (j : Nat) (t : TypeId) (r : Value), f.resultTypes[j]? = some t → (v.resultList f.resultTypes.size)[j]? = some r → Value.okWide P W' .any 0 t r) :
  s.post enc P f apart fresh handsOn again W args v W' := by
 have hlt : ∀ p ∈ pa ++ [], p.block < W.heap.size := fun p hp => by simpa using hW.lt p hp
 have hvr : ∀ sp : Nat → Bool, DataW.TrodVars enc P W' sp s.vars (s.fn H (ds ++ [])).vars [] := fun sp => by rw [hvar, hvars2]; rfl
 refine ⟨ds, [], pa ++ [], [], pa, [], hW, hres _ _ _, hargs _ (fun p hp => by simpa using hlt p hp), hvr _, World.keptBut_mono (fun _ q => q.elim) (hb.frame fun _ => False), fun _ => ?_⟩
 obtain ⟨_, _, _, _, _, hz, hn⟩ := hW
 refine ⟨hok, _, _, ([] ++ pa) ++ [], ⟨[] ++ pa, [], trodAll_append (hargs _ (fun _ _ => rfl)) (hres _ _ _), hvr _, rfl, ?_, ?_⟩, ?_⟩
 ·intro b off hp
  have hp' : MemPlace.cell b off ∈ pa ++ [] := by simpa using hp
  rw [hb.frozen (p := ⟨b, off, none⟩) (hlt _ hp')]
  exact hz b off hp'
 ·intro ha
  simpa using hn ha
 ·intro p hp _
  simpa using hp
end
theorem z7d {k : Nat} {α ρ : Type} {enc : α → List A} {encR : ρ → A} {F : α → Option ρ} {gives : List Bool} {inj : ∀ x y, enc x = enc y → x = y} (h : (spF k enc encR F gives inj).Ok P) {x : α} {r : ρ} (hr : F x = some r) : Xs P k (enc x) (encR r) := by
 have := h x ⟨r, hr⟩
 simpa only [spF, hr] using this
variable {fs : Array Field}
section
variable {P : Program} {w : World} {r : Reach} {base t : Nat} {v : Value}
theorem z40 (hu : P.underlying t = some (.struct fs)) (h : Value.okWide P w r base t v) : v = .agg v.cells.toList.toArray := by
 unfold Value.okWide at h
 rw [hu] at h
 obtain ⟨cs, rfl, _⟩ := h
 rfl
theorem z2v {a : A} (hu : P.underlying t = some (.struct fs)) (hr : Rep S a v.cells.toList) (h : Value.okWide P w r base t v) (ha : a.isAgg = true) : vb S a v := ⟨_, hr, by cases a <;> first | exact z40 hu h | cases ha⟩
theorem z7X {h : Array Obj}  {F : List Nat} (q : Has S h (.atom (.bool true)) v F) : v = .bool true := by
 rcases q with ⟨q, _⟩ | ⟨cs, q, _, rfl⟩
 ·rw [(zr.1 q).1]
 ·simp only [zJ, Rep] at q
  obtain ⟨⟨rfl, _⟩, _⟩ := q
  rfl
end
open Go.Proofs
section
variable {H : Type} {enc : TypeId × Value → H} {w : World} {base : Nat} {spare : Nat → Bool} {held : Bool}
theorem z98 : Tryz.prog.cellsOf 5 = 1 := by kernel_rfl
theorem rd5 {fuel : Nat}  {x : DataW H × List MemPlace} (h : DataW.trod enc Tryz.prog w base spare held fuel 5 cs = some x) : ∃ a : Int, Ok5 a ∧ Rep (z0W w) ((eI .u8) a) cs := by
 obtain ⟨n, h1, _, h2⟩ := z5L Tryz.underlying5 (lo := 0) (hi := 255) rfl rfl h
 exact ⟨n, h1, h2⟩
theorem zcV : Tryz.prog.cellsOf 4 = 1 := by kernel_rfl
theorem rd4 {fuel : Nat}  {x : DataW H × List MemPlace} (h : DataW.trod enc Tryz.prog w base spare held fuel 4 cs = some x) : ∃ a : Bool, Ok4 a ∧ Rep (z0W w) (eB a) cs := by
 obtain ⟨n, h2⟩ := z8g Tryz.underlying4 h
 exact ⟨n, trivial, h2⟩
theorem z89 : Tryz.prog.cellsOf 103 = 1 := by kernel_rfl
theorem zf2 {fuel : Nat}  {x : DataW H × List MemPlace} (h : DataW.trod enc Tryz.prog w base spare held fuel 103 cs = some x) : ∃ a : Int, zbc a ∧ Rep (z0W w) ((eI .u16) a) cs := by
 obtain ⟨n, h1, _, h2⟩ := z5L Tryz.underlying103 (lo := 0) (hi := 65535) rfl rfl h
 exact ⟨n, h1, h2⟩
theorem zaZ : Tryz.prog.cellsOf 22 = 1 := by kernel_rfl
theorem zhU {fuel : Nat}  {x : DataW H × List MemPlace} (h : DataW.trod enc Tryz.prog w base spare held fuel 22 cs = some x) : ∃ a : List Int, zhq a ∧ Rep (z0W w) ((eSl 1 false (eI .u16)) a) cs := by
 exact Jd (eI .u16) zbc Tryz.underlying22 z89 (by omega) (fun _ => rfl) (fun _ _ _ q => zf2 q) h
theorem z6c : Tryz.prog.cellsOf 24 = 5 := by kernel_rfl
theorem zhT {fuel : Nat}  {x : DataW H × List MemPlace} (h : DataW.trod enc Tryz.prog w base spare held fuel 24 cs = some x) : ∃ a : yh, zhp a ∧ Rep (z0W w) ((uT (eI .u8) (eI .u8) (eI .u8) eB (eSl 1 false (eI .u16))) a) cs := by
 obtain ⟨hl, hf⟩ := Vp Tryz.underlying24 h
 rw [z6c] at hl
 obtain ⟨_, _, q0⟩ := hf 0 _ rfl
 obtain ⟨_, _, q1⟩ := hf 1 _ rfl
 obtain ⟨_, _, q2⟩ := hf 2 _ rfl
 obtain ⟨_, _, q3⟩ := hf 3 _ rfl
 obtain ⟨_, _, q4⟩ := hf 4 _ rfl
 simp only [zaZ, zcV, z98] at q0 q1 q2 q3 q4
 obtain ⟨a0, k0, r0⟩ := rd5 q0
 obtain ⟨a1, k1, r1⟩ := rd5 q1
 obtain ⟨a2, k2, r2⟩ := rd5 q2
 obtain ⟨a3, k3, r3⟩ := rd4 q3
 obtain ⟨a4, k4, r4⟩ := zhU q4
 refine ⟨⟨a0, a1, a2, a3, a4⟩, ⟨k0, k1, k2, k3, k4⟩, ?_⟩
 show Rep (z0W w) (.agg [(eI .u8) a0, (eI .u8) a1, (eI .u8) a2, eB a3, (eSl 1 false (eI .u16)) a4]) cs
 simp only [Rep]
 refine Zx (n := 1) (by simpa [List.drop_drop] using r0) (Zx (n := 1) (by simpa [List.drop_drop] using r1) (Zx (n := 1) (by simpa [List.drop_drop] using r2) (Zx (n := 1) (by simpa [List.drop_drop] using r3) (Zx (n := 1) (by simpa [List.drop_drop] using r4) ?_))))
 simp only [List.drop_drop, y8]
 exact List.drop_eq_nil_of_le (by omega)
theorem zaW : Tryz.prog.cellsOf 64 = 1 := by kernel_rfl
theorem zhQ {fuel : Nat}  {x : DataW H × List MemPlace} (h : DataW.trod enc Tryz.prog w base spare held fuel 64 cs = some x) : ∃ a : List Int, zg2 a ∧ Rep (z0W w) ((eSl 1 false (eI .u8)) a) cs := by
 exact Jd (eI .u8) Ok5 Tryz.underlying64 z98 (by omega) (fun _ => rfl) (fun _ _ _ q => rd5 q) h
theorem zaY : Tryz.prog.cellsOf 25 = 1 := by kernel_rfl
theorem zhS {fuel : Nat}  {x : DataW H × List MemPlace} (h : DataW.trod enc Tryz.prog w base spare held fuel 25 cs = some x) : ∃ a : List (List Int), zho a ∧ Rep (z0W w) ((eSl 1 false (eSl 1 false (eI .u8))) a) cs := by
 exact Jd (eSl 1 false (eI .u8)) zg2 Tryz.underlying25 zaW (by omega) (fun _ => rfl) (fun _ _ _ q => zhQ q) h
theorem zaX : Tryz.prog.cellsOf 27 = 6 := by kernel_rfl
theorem zhR {fuel : Nat}  {x : DataW H × List MemPlace} (h : DataW.trod enc Tryz.prog w base spare held fuel 27 cs = some x) : ∃ a : wn, zhn a ∧ Rep (z0W w) ((uS (uT (eI .u8) (eI .u8) (eI .u8) eB (eSl 1 false (eI .u16))) (eSl 1 false (eSl 1 false (eI .u8)))) a) cs := by
 obtain ⟨hl, hf⟩ := Vp Tryz.underlying27 h
 rw [zaX] at hl
 obtain ⟨_, _, q0⟩ := hf 0 _ rfl
 obtain ⟨_, _, q1⟩ := hf 1 _ rfl
 simp only [z6c, zaY] at q0 q1
 obtain ⟨a0, k0, r0⟩ := zhT q0
 obtain ⟨a1, k1, r1⟩ := zhS q1
 refine ⟨⟨a0, a1⟩, ⟨k0, k1⟩, ?_⟩
 show Rep (z0W w) (.agg [(uT (eI .u8) (eI .u8) (eI .u8) eB (eSl 1 false (eI .u16))) a0, (eSl 1 false (eSl 1 false (eI .u8))) a1]) cs
 simp only [Rep]
 refine Zx (n := 5) (by simpa [List.drop_drop] using r0) (Zx (n := 1) (by simpa [List.drop_drop] using r1) ?_)
 simp only [List.drop_drop, y8]
 exact List.drop_eq_nil_of_le (by omega)
end
end Go.Own
namespace Go.Proofs.YtkelmheleahmpaaGreatDoor.coveragesMissing
open Go Go.ChangeShapes Go.WideShapes Go.ChangeAt Go.RowKit
theorem own : ownKnob Tryz.prog.godebug = none := by kernel_rfl
theorem zaD : laidOutB Tryz.prog = true := by kernel_rfl
section
variable {H : Type} {enc : TypeId × Value → H} {W : World}
set_option maxRecDepth 100000 in
theorem zhB {base : Nat} {v0 : Value} {d0 : DataW H} {p0 : List MemPlace} (h0 : DataW.Trod enc Tryz.prog W 0 (fun _ => true) true 27 v0 d0 p0) (k0 : Value.okWide Tryz.prog W .any base (27 : Nat) v0) :
  Calls Tryz.prog 6 #[v0] W fun e w' => e = .returned (.bool true) ∧ Go.Own.ZQ (fun k => W.heap.size ≤ k) W w' := by
 obtain ⟨n0, h0⟩ := h0
 obtain ⟨x0, o0, r0⟩ := Go.Own.zhR h0
 have q := (Go.Own.z7d (Go.Own.z4i Go.Own.zdq List.mem_cons_self : Go.Own.vg.Ok Tryz.prog) (x := x0) (r := true) (Go.Own.z7T o0)).2 (Go.Own.z0W W) W [v0] [] ⟨fun _ _ _ h => h, fun g x e => by cases e⟩ ?_ (by simp)
 ·refine Calls.mono q ?_
  rintro e w' ⟨v, S', F', rfl, hk, _, _, _, hr, _, _⟩
  refine ⟨?_, hk.mono (by rintro k (h | h) <;> simp_all)⟩
  rw [Go.Own.z7X hr]
 ·refine Go.Own.ZO ?_
  have g0 : Go.Own.vb (Go.Own.z0W W) ((Go.Own.uS (Go.Own.uT (Go.Own.eI .u8) (Go.Own.eI .u8) (Go.Own.eI .u8) Go.Own.eB (Go.Own.eSl 1 false (Go.Own.eI .u16))) (Go.Own.eSl 1 false (Go.Own.eSl 1 false (Go.Own.eI .u8)))) x0) v0 := Go.Own.z2v (t := (27 : Nat)) Tryz.underlying27 r0 k0 rfl
  exact ⟨g0, trivial⟩
end
set_option maxRecDepth 100000 in
theorem z82 (os : Os) (args : Array Value) : laidMetH Tryz.prog Rows.coveragesMissingRow.laid ((World.doorLaid Tryz.prog 400 os).forCall (fun _ _ => 0) ⟨#[], args, []⟩).memory :=
 laidMetH_of_parts3 (fuel := 8) (laidMet_of_run' 8 (by kernel_rfl) (by kernel_rfl)) (by kernel_rfl) (by kernel_rfl)
set_option maxRecDepth 100000 in
theorem zcs (os : Os) (started : os.Started) (H : Type) (enc : TypeId × Value → H) :
  ReturnsInHanded {} Tryz.checked os 6 .any (fun w args => (Rows.coveragesMissingSpec.pre enc Tryz.prog Tryz.f6 Rows.coveragesMissingRow.domain false w args ∧ laidMetH Tryz.prog Rows.coveragesMissingRow.laid w) ∧ sizedMet enc Tryz.prog Tryz.f6 (OpenSpec.ofChange Rows.coveragesMissingSpec) false w args) (Rows.coveragesMissingSpec.post enc Tryz.prog Tryz.f6 false true false false) := by
 refine returnsInHanded_of_change_and (C := Tryz.checked) (X := fun w _ => laidMetH Tryz.prog Rows.coveragesMissingRow.laid w) (fun _ _ _ hh h => h.of_heap hh) own started (by kernel_rfl) Tryz.func6
  (ChangeSpec.witness_shaped (enc := enc) (C := Tryz.checked) (os := os) (X := fun w _ => laidMetH Tryz.prog Rows.coveragesMissingRow.laid w) false (World.doorLaid Tryz.prog 400 os) #[.agg #[.int .u8 0, .int .u8 0, .int .u8 0, .bool false, .slice none 0 0, .slice none 0 0]] 8 rfl (World.shaped_of_RefB (by kernel_rfl) (by kernel_rfl)) (by kernel_rfl) (by kernel_rfl) (by kernel_rfl) (z82 os _)) ?_
 intro W base args ds gs before hval0 hW hcnd _ hL _
 have hval : ∀ (j : Nat) t v, Tryz.f6.params[j]? = some t → args[j]? = some v → Value.okWide Tryz.prog W .any base t v := hval0
 have hW' := hW
 obtain ⟨p, q, hA0, hV, rfl, hfz, hnd⟩ := hW
 have hA : DataW.TrodAll enc Tryz.prog W 0 (fun _ => true) true Tryz.f6.params.toList args.toList ds p := hA0
 rw [Tryz.params6] at hA hval
 obtain ⟨v0, d0, rfl, rfl, h0⟩ := trodAll_one hA
 obtain ⟨rfl, rfl⟩ := trodVars_none hV
 clear hA0 hval0
 refine (zhB h0 (hval 0 (27 : Nat) v0 rfl rfl)).mono fun e W' ⟨he, hk⟩ => ?_
 subst he
 have hb : Below W.heap.size W W' := ⟨hk.os, hk.tape, hk.output, hk.size, fun k q => hk.block k (by omega)⟩
 have hlt : ∀ x ∈ p, x.block < W.heap.size := fun x hx => by simpa using hW'.lt x (by simpa using hx)
 refine ⟨_, rfl, Go.Own.z5h rfl rfl hW' hb (fun _ _ _ => trodAll_cons_mk (shut_bool Tryz.underlying4 _) trodAll_mk0) (fun sp hsp => ?_) (ok_one (by kernel_rfl) rfl (okWide_bool_mk Tryz.underlying4 _))⟩
 have st : ∀ {t : Nat} {v : Value} {d : DataW H} {p' : List MemPlace}, DataW.Trod enc Tryz.prog W 0 (fun _ => true) true t v d p' → Tryz.prog.readableRec t = true → t < Tryz.prog.types.size → (∀ x ∈ p', x ∈ p) → DataW.Trod enc Tryz.prog W' 0 sp true t v d p' := by
  intro t v d p' hd h1 h2 hp
  exact WideElems.Trod_stays zaD h1 h2 hd (fun x hx => hb.same (hlt x (hp x hx))) (fun x hx => hsp x (by simpa using hp x hx))
 have := trodAll_mk1 (st h0 (by kernel_rfl) (of_decide_eq_true (by kernel_rfl)) (fun x hx => by simp [hx]))
 rw [Tryz.params6]
 exact this
theorem Yl : Rows.coveragesMissingRow.holds Tryz.pinned (OpenSpec.ofChange Rows.coveragesMissingSpec) :=
 OpenClaim.holds_of_wide 6 Tryz.f6 rfl rfl rfl rfl rfl rfl rfl ⟨rfl, rfl, rfl, rfl, rfl⟩ rfl rfl rfl rfl rfl (by kernel_rfl) Tryz.func6 (by kernel_rfl)
  (of_decide_eq_true (by kernel_rfl)) (by unfold Func.isWrapper; first | (rw [if_pos (by decide +kernel)]; kernel_rfl) | (rw [if_neg (by decide +kernel)]; exact ⟨rfl, rfl⟩))
  (fun os started H enc _ => zcs os started H enc)
theorem proved : Rows.CoveragesMissingCardSaid :=
 Claim7.holds_tied_plain_at .later [] [.data, .data, .data] true (true, "a011b7cdf67d6ea9b3b85658e15c2d97abbd214391bbb37e485bdd7fc2c81f04") false
  Yl (fun _ h => by cases h) (by kernel_rfl) (fun _ h => by cases h) coveragesMissing_row_tie rfl ⟨rfl, rfl⟩ (by kernel_rfl) rfl
  (fun f fn hf hfn => by
   obtain rfl : f = 6 := Option.some.inj ((show Tryz.prog.funcNamed "gauntlet/gauntletlaw40.CoveragesMissing" = some 6 by kernel_rfl).symm.trans hf) |>.symm
   obtain rfl : fn = Tryz.f6 := (Option.some.inj (Tryz.func6.symm.trans hfn)).symm
   exact ⟨by kernel_rfl, fun j t ht => by
    rw [Tryz.params6] at ht
    have hm : t ∈ [27] := by simpa using Array.mem_of_getElem? ht
    have hall : ([27].all fun u => !Tryz.prog.wantsStandIn u) = true := by kernel_rfl
    exact (show Tryz.prog.wantsStandIn t = false by simpa using List.all_eq_true.1 hall t hm)⟩)
  (by kernel_rfl)
#print axioms proved
end Go.Proofs.YtkelmheleahmpaaGreatDoor.coveragesMissing
