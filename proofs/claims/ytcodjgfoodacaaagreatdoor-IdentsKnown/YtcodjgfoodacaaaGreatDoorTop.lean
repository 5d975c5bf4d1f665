/- -/
import Derived.Test.YtcodjgfoodacaaaGreatDoorPartG
import Derived.Test.YtcodjgfoodacaaaGreatDoorPartE
import Derived.Test.YtcodjgfoodacaaaGreatDoorPartB
import Derived.OpenShut
import Derived.ChangeShapes
import Derived.Stop.LaidErr
import Derived.Test.YtcodjgfoodacaaaGreatDoorPartC
import Derived.WalkKit
import Derived.ProofKit
import Derived.Carry
import Derived.Test.YtcodjgfoodacaaaGreatDoorRows
import Derived.Test.YtcodjgfoodacaaaGreatDoorChecked
import Derived.LaidMore
import Derived.Stop.Joined
import Derived.SevenTiedAt
import Derived.Test.YtcodjgfoodacaaaGreatDoorCards
import Derived.Test.YtcodjgfoodacaaaGreatDoorTie
import Derived.MakeChecks
set_option linter.unusedVariables false
set_option linter.unusedSimpArgs false
namespace Go.Own
structure KF (m : z6) (n : Nat) : Prop where
 inp : m.Inputs = 1
 out : m.Outputs = 2
 len : m.Rows.length = n
 n2 : 2 ≤ n
 n30 : n ≤ 30
 row : ∀ s, s < n → m.Rows[s]? = some [⟨(((s + 1) % n : Nat) : Int), if s + 1 = n then 1 else 0⟩]
section
variable {m : z6} {n : Nat} (h : KF m n)
include h
theorem KF.kk : kk m = 1 := by unfold Go.Own.kk; rw [h.inp]; rfl
theorem KF.E {s : Nat} (hs : s < n) : E m s 0 = ⟨(((s + 1) % n : Nat) : Int), if s + 1 = n then 1 else 0⟩ := by
 unfold Go.Own.E
 rw [h.row s hs]
 rfl
theorem KF.vm : VM m := by
 have h2 := h.n2
 have h30 := h.n30
 refine ⟨by rw [h.inp]; omega, by rw [h.inp]; omega, by rw [h.out]; omega, by rw [h.out]; omega, by rw [h.len]; omega, by rw [h.len]; omega, fun r hr => ?_, fun r hr x hx => ?_⟩
 ·obtain ⟨s, hs⟩ := List.mem_iff_getElem?.1 hr
  have hlt := (List.getElem?_eq_some_iff.1 hs).1
  rw [h.row s (by rw [h.len] at hlt; exact hlt)] at hs
  cases hs
  rw [h.inp]
  rfl
 ·obtain ⟨s, hs⟩ := List.mem_iff_getElem?.1 hr
  have hlt := (List.getElem?_eq_some_iff.1 hs).1
  rw [h.row s (by rw [h.len] at hlt; exact hlt)] at hs
  cases hs
  have : x = ⟨(((s + 1) % n : Nat) : Int), if s + 1 = n then 1 else 0⟩ := by simpa using hx
  subst this
  have hm : (s + 1) % n < n := Nat.mod_lt _ (by omega)
  right
  rw [h.len, h.out]
  simp only
  refine ⟨by omega, by omega, ?_, ?_⟩ <;> split <;> omega
theorem KF.cpl : Cpl m := by
 intro s i hs hi
 rw [h.kk] at hi
 have : i = 0 := by omega
 subst this
 rw [h.E (by rw [h.len] at hs; exact hs)]
 exact Int.natCast_nonneg _
theorem KF.bad {a b : Nat} (hab : a < b) (hb : b < n) : Yj m m (a, b) 0 = decide (b + 1 = n) := by
 unfold Yj
 simp only
 rw [h.E (show a < n by omega), h.E hb]
 have : ¬ a + 1 = n := by omega
 rw [if_neg this]
 by_cases e : b + 1 = n
 ·rw [if_pos e, decide_eq_true e]; rfl
 ·rw [if_neg e, decide_eq_false e]; rfl
theorem KF.nx {a b : Nat} (hab : a < b) (hb : b + 1 < n) : nxP m m (a, b) 0 = some (a + 1, b + 1) := by
 unfold nxP
 simp only
 rw [h.E (show a < n by omega), h.E (show b < n by omega)]
 simp only
 rw [if_pos ⟨Int.natCast_nonneg _, Int.natCast_nonneg _⟩, Nat.mod_eq_of_lt (show a + 1 < n by omega), Nat.mod_eq_of_lt hb]
 rfl
theorem KF.mkk : ∀ (j a b : Nat), a < b → b < n → MkP m j (a, b) → n - b ≤ j
 | 0, _, _, _, _, g => g.elim
 | j + 1, a, b, hab, hb, g => by
  rcases g with g | ⟨i, hi, g⟩
  ·have := KF.mkk j a b hab hb g
   omega
  ·rw [h.kk] at hi
   have : i = 0 := by omega
   subst this
   by_cases e : b + 1 = n
   ·omega
   ·rcases g with g | ⟨q, g1, g2⟩
    ·rw [h.bad hab hb, decide_eq_false e] at g
     cases g
    ·rw [h.nx hab (by omega)] at g1
     cases g1
     have := KF.mkk j (a + 1) (b + 1) (by omega) (by omega) g2
     omega
theorem KF.lst : ∀ (k a b : Nat), a < b → b < n → n - b = k + 1 → z4a m (a, b) (List.replicate (k + 1) 0)
 | 0, a, b, hab, hb, e => by
  refine z5F (by rw [h.kk]; omega) ?_ fun j hj => by omega
  rw [h.bad hab hb, decide_eq_true (by omega)]
 | k + 1, a, b, hab, hb, e => by
  have ih := KF.lst k (a + 1) (b + 1) (by omega) (by omega) (by omega)
  refine z3M (n := k) (fun g => ?_) (by rw [h.kk]; omega) (h.nx hab (by omega)) ih (by simp) fun j hj => by omega
  have := h.mkk (k + 1) a b hab hb g
  omega
theorem KF.lw {a b : Nat} (hab : a < b) (hb : b < n) : lw m a b = List.replicate (n - b) 0 := by
 have := h.lst (n - b - 1) a b hab hb (by omega)
 rw [show n - b - 1 + 1 = n - b by omega] at this
 exact zcg this
theorem KF.dist : zb1 m := by
 intro s t hs ht q
 rw [h.len] at hs ht
 have no : ∀ a b, a < b → b < n → ¬ SEq m a b := fun a b hab hb g => by
  have hw := h.lst (n - b - 1) a b hab hb (by omega)
  exact JO hw.1 (g _ (z2I hw.1))
 rcases Nat.lt_trichotomy s t with g | g | g
 ·exact (no s t g ht q).elim
 ·exact g
 ·exact (no t s g hs fun w hw => (q w hw).symm).elim
theorem KF.aft : ∀ (k s : Nat), s + k < n → aft m (s : Int) (List.replicate k 0) = ((s + k : Nat) : Int)
 | 0, s, _ => rfl
 | k + 1, s, hk => by
  rw [List.replicate_succ]
  simp only [Go.Own.aft]
  rw [Y7, h.E (by omega)]
  simp only
  rw [Nat.mod_eq_of_lt (by omega), KF.aft k (s + 1) (by omega)]
  congr 1
  omega
theorem KF.rall : zde m := by
 intro t ht
 rw [h.len] at ht
 refine ⟨List.replicate t 0, fun i hi => ?_, ?_⟩
 ·rw [List.eq_of_mem_replicate hi, h.kk]; omega
 ·have := h.aft t 0 (by omega)
  rw [Nat.zero_add] at this
  exact this
theorem KF.proper : xQ m = some 0 := by
 obtain ⟨e, e1, e2⟩ := z4m h.vm
 rw [e1, e2.uniq (.inr (.inr (.inr ⟨rfl, h.cpl, h.rall, h.dist⟩)))]
def Va (k : Nat) : List (List Int) := (List.range k).map fun i => List.replicate (i + 1) 0
omit h in
theorem z9Y (k : Nat) : SW (Va k) := by
 unfold SW Va
 rw [List.pairwise_map]
 refine List.Pairwise.imp_of_mem (R := fun a b : Nat => a < b) (fun ha hb hab => ?_) List.pairwise_lt_range
 unfold XV
 simp only [List.length_replicate]
 omega
theorem KF.srt {P D : Nat → Nat → Prop} {out : List (List Int)} (hx : Wx m P D out) (hP : ∀ b, 0 < b → b < n → P 0 b ∧ D 0 b) : Go.Own.srt out = Va (n - 1) := by
 have h2 := h.n2
 refine (z3q (z9Y (n - 1)) fun x => ?_).symm
 rw [hx x]
 unfold Va
 simp only [List.mem_map, List.mem_range]
 constructor
 ·rintro ⟨i, hi, rfl⟩
  have hb : n - 1 - i < n := by omega
  refine ⟨0, n - 1 - i, by omega, by rw [h.len]; omega, (hP _ (by omega) hb).2, (hP _ (by omega) hb).1, ?_⟩
  unfold lwI
  rw [h.lw (by omega) hb, List.map_replicate]
  congr 1
  omega
 ·rintro ⟨a, b, g1, g2, _, _, rfl⟩
  rw [h.len] at g2
  refine ⟨n - b - 1, by omega, ?_⟩
  unfold lwI
  rw [h.lw g1 g2, List.map_replicate]
  congr 1
  omega
theorem KF.all : j6 m = some (Va (n - 1), 0) := by
 obtain ⟨o, e1, out, o1, o2, rfl⟩ := z4M h.vm h.cpl h.dist (by rw [h.len]; exact h.n30)
 unfold j6
 rw [bdT h.proper, show ((0 : Int) != 0) = false from rfl, cond_false, bdT e1, h.srt o1 fun b _ _ => ⟨trivial, trivial⟩]
theorem KF.of : kX m 0 = some (Va (n - 1), 0) := by
 have h2 := h.n2
 obtain ⟨o, e1, out, o1, o2, rfl⟩ := z4f h.vm h.cpl h.dist (by rw [h.len]; exact h.n30) 0
 have e1' : vh m 0 = some (Go.Own.srt out, 0) := e1
 unfold kX
 rw [bdT h.proper, show ((0 : Int) != 0) = false from rfl, cond_false, decide_eq_false (by omega), cond_false, decide_eq_false (by rw [h.len]; omega), cond_false, bdT e1', h.srt o1 fun b _ _ => ⟨.inl rfl, trivial⟩]
end
theorem zeY (x b : Int) : Wl .u64 (orK .u64 x b) b = IntKind.u64.wrap ((BitVec.ofInt 64 b).toNat) := by
 unfold Wl orK
 show IntKind.u64.wrap (((BitVec.ofInt 64 (IntKind.u64.wrap (((BitVec.ofInt 64 x ||| BitVec.ofInt 64 b).toNat : Nat) : Int)) &&& BitVec.ofInt 64 b).toNat : Nat) : Int) = _
 have h1 : IntKind.u64.wrap (((BitVec.ofInt 64 x ||| BitVec.ofInt 64 b).toNat : Nat) : Int) = (((BitVec.ofInt 64 x ||| BitVec.ofInt 64 b).toNat : Nat) : Int) := z0A (by omega) (by have := (BitVec.ofInt 64 x ||| BitVec.ofInt 64 b).isLt; omega)
 rw [h1, BitVec.ofInt_natCast, BitVec.ofNat_toNat, BitVec.setWidth_eq]
 congr 3
 ext i hi
 simp only [BitVec.getElem_and, BitVec.getElem_or]
 cases (BitVec.ofInt 64 x)[i] <;> cases (BitVec.ofInt 64 b)[i] <;> rfl
theorem z5X : ∀ j : Fin 12, orK .u64 0 (Je .u64 1 ((j : Nat) : Int)) = ((2 ^ (j : Nat) : Nat) : Int) ∧ IntKind.u64.wrap ((BitVec.ofInt 64 (Je .u64 1 ((j : Nat) : Int))).toNat) = ((2 ^ (j : Nat) : Nat) : Int) ∧
  y5 ((2 ^ (j : Nat) : Nat) : Int) = some 1 ∧ y5 ((2 ^ ((j : Nat) + 1) - 1 : Nat) : Int) = some (((j : Nat) : Int) + 1) := by decide +kernel
theorem zcs : ((List.range 12).all fun j => (List.range (2 ^ j)).all fun x => Wl .u64 ((2 ^ j : Nat) : Int) (x : Int) == 0) = true := by kernel_rfl
def okx (x : Nat) : Bool := match y5 (x : Int) with
 | some c => decide (1 < c) || (x == 0 || (List.range 12).any fun j => x == 2 ^ j)
 | none => false
theorem zfd : ((List.range 4096).all okx) = true := by kernel_rfl
theorem zau : ((List.range 12).all fun j => (List.range (j + 1)).all fun i => ((Wl .u64 (Int.fdiv ((2 ^ j : Nat) : Int) (2 ^ (min ((i : Int)).toNat 64))) 1) == 1) == decide (i = j)) = true := by kernel_rfl
theorem zc8 {j x : Nat} (hj : j < 12) (h1 : 2 ^ j < x) (h2 : x < 2 ^ (j + 1)) : ∃ c, y5 (x : Int) = some c ∧ 1 < c := by
 have hx : x < 4096 := by
  have : 2 ^ (j + 1) ≤ 2 ^ 12 := Nat.pow_le_pow_right (by omega) (by omega)
  omega
 have := List.all_eq_true.1 zfd x (List.mem_range.2 hx)
 unfold okx at this
 cases e : y5 (x : Int) with
 | none => rw [e] at this; cases this
 | some c =>
  rw [e] at this
  refine ⟨c, rfl, ?_⟩
  simp only [Bool.or_eq_true, decide_eq_true_eq, beq_iff_eq, List.any_eq_true, List.mem_range] at this
  rcases this with g | g | ⟨i, _, g⟩
  ·exact g
  ·omega
  ·exfalso
   rcases Nat.lt_or_ge j i with q | q
   ·have : 2 ^ (j + 1) ≤ 2 ^ i := Nat.pow_le_pow_right (by omega) q
    omega
   ·have : 2 ^ i ≤ 2 ^ j := Nat.pow_le_pow_right (by omega) q
    omega
section
variable {m : z6} {n : Nat} (h : KF m n) {j : Nat} (hn : n = j + 2) (hj : j < 12)
include h hn hj
omit h hn hj in
theorem zbY {i : Nat} (hi : i < j + 1) : ((Va (j + 1)).drop ((i : Int)).toNat).take ((((i + 1 : Nat) : Int)).toNat - ((i : Int)).toNat) = [List.replicate (i + 1) 0] := by
 have hx : (Va (j + 1))[i]? = some (List.replicate (i + 1) 0) := by
  unfold Va
  rw [List.getElem?_map, List.getElem?_range hi]
  rfl
 have hl := (List.getElem?_eq_some_iff.1 hx).1
 rw [Int.toNat_natCast, Int.toNat_natCast, show i + 1 - i = 1 by omega, List.drop_eq_getElem_cons hl]
 have := (List.getElem?_eq_some_iff.1 hx).2
 rw [this]
 rfl
omit hj in
theorem z9X {s t : Nat} (hst : s < t) (ht : t < n) : sgn m [List.replicate (j + 1) 0] s ≠ sgn m [List.replicate (j + 1) 0] t := by
 intro e
 have e1 : rsp m (s : Int) (uI (List.replicate (j + 1) 0)) = rsp m (t : Int) (uI (List.replicate (j + 1) 0)) := by simpa [sgn] using e
 have hw := h.lst (n - t - 1) s t hst ht (by omega)
 have e2 : uI (List.replicate (j + 1) 0) = List.replicate (n - t - 1 + 1) 0 ++ List.replicate (j + 1 - (n - t - 1 + 1)) 0 := by
  rw [List.replicate_append_replicate]
  unfold uI
  rw [List.map_replicate]
  congr 1
  omega
 rw [e2] at e1
 have := congrArg (List.take (List.replicate (n - t - 1 + 1) 0).length) e1
 have rt : ∀ (u x : List Nat) (s : Int), (rsp m s (u ++ x)).take u.length = rsp m s u := by
  intro u
  induction u with
  | nil => intro x s; simp [rsp]
  | cons i u ih => intro x s; simp only [List.cons_append, rsp, List.length_cons, List.take_succ_cons, ih]
 rw [rt, rt] at this
 exact JO hw.1 this
theorem z9W {i : Nat} (hi : i < j) : sgn m [List.replicate (i + 1) 0] 0 = sgn m [List.replicate (i + 1) 0] 1 := by
 have key : rsp m ((0 : Nat) : Int) (uI (List.replicate (i + 1) 0)) = rsp m ((1 : Nat) : Int) (uI (List.replicate (i + 1) 0)) := by
  refine Classical.byContradiction fun hne => ?_
  have e : uI (List.replicate (i + 1) 0) = List.replicate (i + 1) 0 := by unfold uI; rw [List.map_replicate]; rfl
  rw [e] at hne
  obtain ⟨v, u, g1, g2⟩ := z0U h.vm.wm (List.replicate (i + 1) 0) (0, 1) (by rw [h.len]; omega) (by rw [h.len]; omega) (fun x hx => by rw [List.eq_of_mem_replicate hx, h.kk]; omega) hne
  have := h.mkk v.length 0 1 (by omega) (by omega) (Xp g1)
  have hl := congrArg List.length g2
  simp only [List.length_replicate, List.length_append] at hl
  omega
 unfold sgn
 simp only [List.map_cons, List.map_nil, List.cons.injEq, and_true]
 exact key
theorem z7Z : Ret (uM m (Va (j + 1))) fun o => o.length ≤ 2000 ∧ (∃ r, o = ((2 ^ j : Nat) : Int) :: r) ∧ ∀ c ∈ o, (Wl .u64 c ((2 ^ j : Nat) : Int) == 0) = false := by
 have hN := h.len
 have hW : ∀ k : Nat, k ≤ 1000 → w64 ((k : Int) + 1) = ((k + 1 : Nat) : Int) := fun k hk => by rw [xS (by omega) (by omega)]; rfl
 have hsh : Je .u64 1 ((j : Nat) : Int) = ((2 ^ j : Nat) : Int) := z1H ⟨j, by omega⟩
 obtain ⟨b1, b2, _, _⟩ := z5X ⟨j, hj⟩
 simp only at b1 b2
 rw [hsh] at b1 b2
 have hlen : (Va (j + 1)).length = j + 1 := by unfold Va; simp
 unfold uM vC
 rw [Option.bind_some, zP]
 refine Ret.mono (Q := fun o => ∃ out : List Int, o = .next out ∧ out.length ≤ 2000 ∧ (∃ r, out = ((2 ^ j : Nat) : Int) :: r) ∧ ∀ c ∈ out, (Wl .u64 c ((2 ^ j : Nat) : Int) == 0) = false) ?_ fun o ho => ?_
 ·refine Qp m.Rows.length (by omega) _ (fun s t o => ∃ out : List Int, o = .next out ∧ out.length ≤ 30 * s + t ∧ s ≤ 30 ∧ t ≤ 32 ∧ ((s = 0 ∧ t = 1) → out = []) ∧ (¬ (s = 0 ∧ t = 1) → ∃ r, out = ((2 ^ j : Nat) : Int) :: r) ∧ ∀ c ∈ out, (Wl .u64 c ((2 ^ j : Nat) : Int) == 0) = false) _ ⟨[], rfl, by simp, by omega, by omega, fun _ => rfl, fun q => (q ⟨rfl, rfl⟩).elim, fun c hc => by simp at hc⟩ ?_ ?_ ?_
  ·rintro s t o hst ht ⟨out, rfl, ho, h1, h2, h3, h4, h5⟩
   have main : Ret (w4 m (Va (j + 1)) out (s : Int) (t : Int)) fun o => ∃ c, o = .next (out ++ [c]) ∧ (Wl .u64 c ((2 ^ j : Nat) : Int) == 0) = false ∧ (s = 0 ∧ t = 1 → c = ((2 ^ j : Nat) : Int)) := by
    unfold w4
    rw [zP]
    refine Ret.mono (Q := fun c => ∃ c', c = orK .u64 c' ((2 ^ j : Nat) : Int) ∧ (s = 0 ∧ t = 1 → c' = 0)) ?_ fun c hc => ?_
    ·refine wK (fun q => ∃ i : Nat, q.2 = (i : Int) ∧ i ≤ j + 1 ∧ (i < j + 1 → s = 0 ∧ t = 1 → q.1 = 0) ∧ (i = j + 1 → ∃ c', q.1 = orK .u64 c' ((2 ^ j : Nat) : Int) ∧ (s = 0 ∧ t = 1 → c' = 0))) (fun q => 1000 - q.2.toNat) ⟨0, rfl, Nat.zero_le _, fun _ _ => rfl, fun q => by omega⟩ (by simp) ?_
     rintro ⟨c, q⟩ ⟨i, e2, hi, hz, hf⟩
     simp only at e2 hz hf
     subst e2
     unfold uv v6
     rw [yz, hlen]
     refine ⟨fun cc => ?_, fun cc => ?_⟩
     ·have hi' : i < j + 1 := by
       have := of_decide_eq_true cc
       simp only at this
       omega
      rw [hW i (by omega), zbY hi', UD]
      refine ⟨⟨by omega, by omega, by omega⟩, ?_⟩
      have hsub : ∀ w ∈ [List.replicate (i + 1) (0 : Int)], VW m w := fun w hw => by
       rw [List.mem_singleton.1 hw]
       refine ⟨by simp; omega, fun c hc => ?_⟩
       rw [List.eq_of_mem_replicate hc, h.inp]
       omega
      rw [bdT (z8B h.vm h.cpl (show s < m.Rows.length by omega) (by simp) hsub), UD]
      refine ⟨⟨by omega, by omega, by omega⟩, ?_⟩
      rw [bdT (z8B h.vm h.cpl ht (by simp) hsub), bdT (zct _ _ (by rw [z9I]; simp) fun x hx => by have := z7m hsub hx; omega), yz]
      by_cases hij : i = j
      ·subst hij
       have hd := z9X h hn hst (by omega)
       rw [decide_eq_false hd]
       refine ⟨fun _ => ?_, fun q => by cases q⟩
       rw [UD, hsh]
       exact ⟨by omega, zl.2 ⟨⟨i + 1, rfl, hi', fun q => by omega, fun _ => ⟨c, rfl, fun q => hz hi' q⟩⟩, by simp only; omega⟩⟩
      ·have fin : ∀ c2, (s = 0 ∧ t = 1 → c2 = 0) → Ret (some (.next (c2, ((i + 1 : Nat) : Int))) : Option (LR (Int × Int) Int)) (LRP (fun s' => (∃ i : Nat, s'.2 = (i : Int) ∧ i ≤ j + 1 ∧ (i < j + 1 → s = 0 ∧ t = 1 → s'.1 = 0) ∧ (i = j + 1 → ∃ c', s'.1 = orK .u64 c' ((2 ^ j : Nat) : Int) ∧ (s = 0 ∧ t = 1 → c' = 0))) ∧ 1000 - s'.2.toNat < 1000 - ((i : Int)).toNat) fun c => ∃ c', c = orK .u64 c' ((2 ^ j : Nat) : Int) ∧ (s = 0 ∧ t = 1 → c' = 0)) := fun c2 q2 => zl.2 ⟨⟨i + 1, rfl, hi', fun _ q => q2 q, fun q => by omega⟩, by simp only; omega⟩
       refine ⟨fun hb => ?_, fun _ => fin c fun q => hz hi' q⟩
       rw [UD]
       refine ⟨by omega, fin _ fun q => ?_⟩
       exfalso
       obtain ⟨rfl, rfl⟩ := q
       have := z9W h hn hj (show i < j by omega)
       rw [decide_eq_true this] at hb
       cases hb
     ·have : i = j + 1 := by
       have := of_decide_eq_false cc
       simp only at this
       omega
      exact zl.2 (hf this)
    ·obtain ⟨c', rfl, hc'⟩ := hc
     unfold uw
     rw [UD]
     refine ⟨by simp; omega, zl.2 ⟨_, rfl, ?_, fun q => by rw [hc' q]; exact b1⟩⟩
     rw [zeY, b2]
     have : 0 < 2 ^ j := Nat.pow_pos (by omega)
     simp only [beq_eq_false_iff_ne, ne_eq]
     omega
   obtain ⟨o, e, c, rfl, q1, q2⟩ := main
   refine ⟨(.next (out ++ [c]), true), ?_, .inl ⟨rfl, _, rfl, by simp; omega, by omega, by omega, fun q => by omega, fun _ => ?_, fun x hx => ?_⟩⟩
   ·simp only [yOf]
    rw [e]
   ·by_cases g : s = 0 ∧ t = 1
    ·rw [h3 g, q2 g]
     exact ⟨[], rfl⟩
    ·obtain ⟨r, hr⟩ := h4 g
     exact ⟨r ++ [c], by rw [hr]; rfl⟩
   ·rcases List.mem_append.1 hx with g | g
    ·exact h5 x g
    ·rw [List.mem_singleton.1 g]; exact q1
  ·rintro s t o hs hst ht ⟨out, rfl, ho, h1, h2, h3, h4, h5⟩
   exact ⟨out, rfl, by omega, by omega, by omega, fun q => by omega, fun _ => h4 (by have := h.n2; omega), h5⟩
  ·rintro s t o hs ⟨out, rfl, ho, h1, h2, h3, h4, h5⟩
   exact ⟨out, rfl, by omega, h4 (by have := h.n2; omega), h5⟩
 ·obtain ⟨out, rfl, ho⟩ := ho
  exact zl.2 ho
omit h in
theorem z5O (r1 : List Int) (hl : r1.length ≤ 2000) (hr : ∃ r, r1 = ((2 ^ j : Nat) : Int) :: r) (ha : ∀ c ∈ r1, (Wl .u64 c ((2 ^ j : Nat) : Int) == 0) = false) :
  Ret (loop (fun s => uN (Va (j + 1), 0) r1 s.1 s.2) (IntKind.u64.wrap ((Je .u64 1 (((Va (j + 1)).length : Nat) : Int)) - 1), 0)) fun b => b = ((2 ^ j : Nat) : Int) := by
 have hlen : (Va (j + 1)).length = j + 1 := by unfold Va; simp
 have hsh : Je .u64 1 (((Va (j + 1)).length : Nat) : Int) = ((2 ^ (j + 1) : Nat) : Int) := by
  rw [hlen]
  exact z1H ⟨j + 1, by omega⟩
 have hp : 2 ^ (j + 1) = 2 * 2 ^ j := by rw [Nat.pow_succ]; omega
 have hp1 : 1 ≤ 2 ^ j := Nat.pow_pos (by omega)
 have hp2 : 2 ^ j ≤ 2 ^ 11 := Nat.pow_le_pow_right (by omega) (by omega)
 obtain ⟨_, _, c1, c2⟩ := z5X ⟨j, hj⟩
 simp only at c1 c2
 have hb0 : IntKind.u64.wrap (((2 ^ (j + 1) : Nat) : Int) - 1) = ((2 ^ (j + 1) - 1 : Nat) : Int) := by
  rw [z0A (by omega) (by omega)]
  omega
 rw [hsh, hb0]
 have hand : ∀ x : Nat, x < 2 ^ j → (Wl .u64 ((2 ^ j : Nat) : Int) (x : Int) == 0) = true := fun x hx =>
  List.all_eq_true.1 (List.all_eq_true.1 zcs j (List.mem_range.2 hj)) x (List.mem_range.2 hx)
 refine wK (fun q => ∃ x : Nat, q.2 = (x : Int) ∧ x ≤ 2 ^ (j + 1) ∧ ((x ≤ 2 ^ j ∧ q.1 = ((2 ^ (j + 1) - 1 : Nat) : Int)) ∨ (2 ^ j < x ∧ q.1 = ((2 ^ j : Nat) : Int)))) (fun q => 10000 - q.2.toNat) ⟨0, rfl, Nat.zero_le _, .inl ⟨Nat.zero_le _, rfl⟩⟩ (by simp) ?_
 rintro ⟨b, q⟩ ⟨x, e2, hx, hb⟩
 simp only at e2 hb
 subst e2
 unfold uN
 rw [hsh, yz]
 refine ⟨fun c => ?_, fun c => ?_⟩
 ·have hx' : x < 2 ^ (j + 1) := by
   have := of_decide_eq_true c
   simp only at this
   omega
  have nx : ∀ b', ((x + 1 ≤ 2 ^ j ∧ b' = ((2 ^ (j + 1) - 1 : Nat) : Int)) ∨ (2 ^ j < x + 1 ∧ b' = ((2 ^ j : Nat) : Int))) → Ret (yi (x : Int) b') (LRP (fun s' => (∃ x : Nat, s'.2 = (x : Int) ∧ x ≤ 2 ^ (j + 1) ∧ ((x ≤ 2 ^ j ∧ s'.1 = ((2 ^ (j + 1) - 1 : Nat) : Int)) ∨ (2 ^ j < x ∧ s'.1 = ((2 ^ j : Nat) : Int)))) ∧ 10000 - s'.2.toNat < 10000 - ((x : Int)).toNat) fun b => b = ((2 ^ j : Nat) : Int)) := fun b' hb' => by
   unfold yi
   rw [z0A (by omega) (by omega)]
   exact zl.2 ⟨⟨x + 1, rfl, hx', hb'⟩, by simp only; omega⟩
  have j7 : ∀ z, wz r1 b (x : Int) z = yi (x : Int) (match xL (fun _ y => if (Wl .u64 y (x : Int) == 0) = true then some b else none) r1 0 with | some b => b | none => (x : Int)) := fun z => by
   unfold wz ju
   rw [qK r1 (by omega) (step := fun s => vj r1 b (x : Int) s) (fun _ y => if (Wl .u64 y (x : Int) == 0) = true then some b else none) ?_ ?_, Option.bind_some]
   ·cases xL (fun _ y => if (Wl .u64 y (x : Int) == 0) = true then some b else none) r1 0 <;> rfl
   ·intro i y hy
    have hlt := (List.getElem?_eq_some_iff.1 hy).1
    unfold vj
    rw [decide_eq_true (by omega), cond_true, yU, bdT hy]
    by_cases e : (Wl .u64 y (x : Int) == 0) = true
    ·rw [e, cond_true, if_pos rfl]; rfl
    ·rw [Bool.not_eq_true] at e
     rw [e, cond_false, if_neg (by simp)]; rfl
   ·unfold vj
    rw [decide_eq_false (by omega), cond_false]
  rcases hb with ⟨hxj, rfl⟩ | ⟨hxj, rfl⟩
  ·rcases Nat.lt_or_ge x (2 ^ j) with hlt | hge
   ·have keep := nx ((2 ^ (j + 1) - 1 : Nat) : Int) (.inl ⟨hlt, rfl⟩)
    have keep7 : ∀ z, wz r1 ((2 ^ (j + 1) - 1 : Nat) : Int) (x : Int) z = yi (x : Int) ((2 ^ (j + 1) - 1 : Nat) : Int) := fun z => by
     rw [j7 z]
     obtain ⟨r, rfl⟩ := hr
     simp only [xL]
     rw [if_pos (hand x hlt)]
    rw [zP]
    refine (zc7 _).mono fun r3 _ => ?_
    rw [bdT c2, yz]
    refine ⟨fun _ => keep, fun _ => ?_⟩
    rw [yz]
    refine ⟨fun _ => ?_, fun _ => by rw [keep7]; exact keep⟩
    rw [yz]
    refine ⟨fun _ => keep, fun _ => ?_⟩
    rw [zP]
    refine (z6u _ _).mono fun r5 _ => ?_
    rw [yz]
    exact ⟨fun _ => keep, fun _ => by rw [keep7]; exact keep⟩
   ·have hxe : x = 2 ^ j := by omega
    subst hxe
    have hno : xL (fun _ y => if (Wl .u64 y ((2 ^ j : Nat) : Int) == 0) = true then some ((2 ^ (j + 1) - 1 : Nat) : Int) else none) r1 0 = none := Ye fun i y hy => by
     rw [if_neg]
     rw [ha y (List.mem_of_getElem? hy)]
     simp
    rw [bdT c1, bdT c2, decide_eq_false (by omega), cond_false]
    by_cases hj0 : j = 0
    ·subst hj0
     simp only [Nat.zero_add, Nat.pow_one, Nat.pow_zero]
     have := nx ((2 ^ 0 : Nat) : Int) (.inr ⟨by omega, rfl⟩)
     exact this
    ·have e : ((1 : Int) == ((j : Int) + 1)) = false := by simp; omega
     rw [e, cond_false, j7, hno]
     exact nx _ (.inr ⟨by omega, rfl⟩)
  ·obtain ⟨c3, e3, hc3⟩ := zc8 hj hxj hx'
   rw [bdT e3, bdT c1, decide_eq_true (by omega), cond_true]
   exact nx _ (.inr ⟨by omega, rfl⟩)
 ·have hxe : x = 2 ^ (j + 1) := by
   have := of_decide_eq_false c
   simp only at this
   omega
  rcases hb with ⟨hxj, _⟩ | ⟨_, rfl⟩
  ·omega
  ·exact zl.2 rfl
theorem zan : w9 m = some ([List.replicate (j + 1) 0], 0) := by
 have hlen : (Va (j + 1)).length = j + 1 := by unfold Va; simp
 have hA := h.all
 rw [hn, show j + 2 - 1 = j + 1 by omega] at hA
 obtain ⟨r1, e1, l1, l2, l3⟩ := z7Z h hn hj
 obtain ⟨b, e2, rfl⟩ := z5O hn hj r1 l1 l2 l3
 unfold w9
 rw [bdT hA, show ((0 : Int) != 0) = false from rfl, cond_false, decide_eq_false (by simp only; rw [hlen]; omega), cond_false, bdT e1, gdT (by omega), gdT (by omega), bdT e2]
 unfold jw jv yb
 have hpk : ∀ i, i < j + 1 → ((Wl .u64 (Int.fdiv ((2 ^ j : Nat) : Int) (2 ^ (min ((i : Int)).toNat 64))) 1) == 1) = decide (i = j) := fun i hi => by
  have := List.all_eq_true.1 (List.all_eq_true.1 zau j (List.mem_range.2 hj)) i (List.mem_range.2 hi)
  simpa using this
 have hlp := Xz (step := fun q => xR (Va (j + 1), 0) ((2 ^ j : Nat) : Int) q.1 q.2) (fun i => (if i = j + 1 then [List.replicate (j + 1) 0] else [], (i : Int))) (j + 1) (t := [List.replicate (j + 1) 0]) (by omega) (fun i hi => by
  have hx : (Va (j + 1))[i]? = some (List.replicate (i + 1) 0) := by
   unfold Va
   rw [List.getElem?_map, List.getElem?_range hi]
   rfl
  show xR (Va (j + 1), 0) ((2 ^ j : Nat) : Int) (if i = j + 1 then [List.replicate (j + 1) 0] else []) (i : Int) = _
  unfold xR uO
  rw [if_neg (by omega), decide_eq_true (by simp only; rw [hlen]; omega), cond_true, yU]
  simp only
  rw [bdT hx, gdT (by omega), hpk i hi, xS (by omega) (by omega)]
  by_cases e : i = j
  ·subst e
   rw [decide_eq_true rfl, cond_true, gdT (by simp), if_pos rfl]
   rfl
  ·rw [decide_eq_false e, cond_false, if_neg (by omega)]
   rfl) (by
  show xR (Va (j + 1), 0) ((2 ^ j : Nat) : Int) (if j + 1 = j + 1 then [List.replicate (j + 1) 0] else []) ((j + 1 : Nat) : Int) = _
  unfold xR
  rw [decide_eq_false (by simp only; rw [hlen]; omega), cond_false, if_pos rfl])
 rw [if_neg (by omega)] at hlp
 have h0 : ((([] : List (List Int)), ((0 : Nat) : Int))) = (([] : List (List Int)), (0 : Int)) := rfl
 rw [h0] at hlp
 rw [bdT hlp]
 rfl
end
theorem z2b : XA = some true := by kernel_rfl
abbrev M1k : z6 := z6.mk 2 1 ([[(z8.mk 0 0), (z8.mk 0 0)]])
theorem k1 : j6 M1k = some ([], 0) := by kernel_rfl
theorem k2 : w9 M1k = some ([], 0) := by kernel_rfl
theorem k3 : jI M1k [] = some (true, 0) := by kernel_rfl
theorem k4 : wj M1k [] [] = some ([0], 0) := by kernel_rfl
theorem k5 : ZM [0] [0] = some true := by kernel_rfl
def z4B (n s : Nat) : List z8 := [⟨(((s + 1) % n : Nat) : Int), 0⟩]
theorem z9Z {n : Nat} (h1 : 2 ≤ n) (h2 : n ≤ 14) : loop (fun s => y8 (n : Int) s.1 s.2) (([] : List (List z8)), 0) = some ((List.range n).map (z4B n)) := by
 have := Xz (step := fun s => y8 (n : Int) s.1 s.2) (fun i => ((List.range i).map (z4B n), (i : Int))) n (t := (List.range n).map (z4B n)) (by omega) (fun i hi => by
  show y8 (n : Int) ((List.range i).map (z4B n)) (i : Int) = _
  unfold y8
  have e : Int.tmod (w64 ((i : Int) + 1)) (n : Int) = (((i + 1) % n : Nat) : Int) := by
   rw [xS (by omega) (by omega), Int.tmod_eq_emod_of_nonneg (by omega)]
   rfl
  rw [decide_eq_true (by omega), cond_true, gdT (by omega), gdT (by simp; omega), e, xS (by omega) (by omega), List.range_succ, List.map_append]
  rfl) (by
  show y8 (n : Int) _ _ = _
  unfold y8
  rw [decide_eq_false (by omega), cond_false])
 exact this
theorem za0 {n : Nat} (h1 : 2 ≤ n) (h2 : n ≤ 14) : KF (z6.mk 1 2 (((List.range n).map (z4B n)).set (n - 1) [⟨(((n - 1 + 1) % n : Nat) : Int), 1⟩])) n := by
 refine ⟨rfl, rfl, by simp, h1, by omega, fun s hs => ?_⟩
 rw [List.getElem?_set]
 by_cases e : n - 1 = s
 ·subst e
  rw [if_pos rfl, if_pos (by simp; omega), if_pos (by omega)]
 ·rw [if_neg e, List.getElem?_map, List.getElem?_range hs, if_neg (by omega)]
  rfl
theorem J4K {n : Nat} (h1 : 2 ≤ n) (h2 : n ≤ 14) : wD (n : Int) ((List.range n).map (z4B n)) = some (.next ((n + 1 : Nat) : Int)) := by
 have hm := za0 h1 h2
 have w1 : w64 ((n : Int) - 1) = ((n - 1 : Nat) : Int) := by rw [xS (by omega) (by omega)]; omega
 have w2 : w64 ((n : Int) - 2) = ((n - 2 : Nat) : Int) := by rw [xS (by omega) (by omega)]; omega
 have w3 : w64 ((n : Int) + 1) = ((n + 1 : Nat) : Int) := by rw [xS (by omega) (by omega)]; rfl
 have hr : ((List.range n).map (z4B n))[n - 1]? = some (z4B n (n - 1)) := by rw [List.getElem?_map, List.getElem?_range (by omega)]; rfl
 have hr0 : (z4B n (n - 1))[0]? = some ⟨(((n - 1 + 1) % n : Nat) : Int), 0⟩ := rfl
 have hA := hm.all
 have hO := hm.of
 have hl : (Va (n - 1)).length = n - 1 := by unfold Va; simp
 have g0 : idx (Va (n - 1)) 0 = some (List.replicate 1 0) := by
  show (Va (n - 1))[0]? = _
  unfold Va
  rw [List.getElem?_map, List.getElem?_range (by omega)]
  rfl
 have g1 : (Va (n - 1))[n - 2]? = some (List.replicate (n - 1) 0) := by
  unfold Va
  rw [List.getElem?_map, List.getElem?_range (by omega)]
  show some (List.replicate (n - 2 + 1) (0 : Int)) = _
  rw [show n - 2 + 1 = n - 1 by omega]
 unfold wD
 rw [w1, w2, yU, bdT hr, show idx (z4B n (n - 1)) 0 = some ⟨(((n - 1 + 1) % n : Nat) : Int), 0⟩ from hr0, Option.bind_some]
 have hset : (z4B n (n - 1)).set (0 : Int).toNat ⟨(((n - 1 + 1) % n : Nat) : Int), 1⟩ = [⟨(((n - 1 + 1) % n : Nat) : Int), 1⟩] := rfl
 rw [Int.toNat_natCast, hset, bdT hA]
 have q0 : ((0 : Int) != 0) = false := rfl
 have q1 : ((((Va (n - 1)).length : Nat) : Int) != ((n - 1 : Nat) : Int)) = false := by rw [hl]; simp
 have q2 : ((((List.replicate 1 (0 : Int)).length : Nat) : Int) != 1) = false := rfl
 have q3 : ((((List.replicate (n - 1) (0 : Int)).length : Nat) : Int) != ((n - 1 : Nat) : Int)) = false := by rw [List.length_replicate]; simp
 by_cases h14 : n = 14
 ·have hF : w9 (z6.mk 1 2 (((List.range n).map (z4B n)).set (n - 1) [⟨(((n - 1 + 1) % n : Nat) : Int), 1⟩])) = some ([], 3) := by
   unfold w9
   rw [bdT hA, q0, cond_false, decide_eq_true (by simp only; rw [hl]; omega), cond_true]
  rw [bdT hF, bdT hO]
  simp only
  rw [q0, cond_false, q1, cond_false, g0, Option.bind_some, q2, cond_false, yU, bdT g1, q3, cond_false, cond_false, cond_false, decide_eq_true (by omega), cond_true, show ((3 : Int) != 3) = false from rfl, cond_false]
  unfold xO
  rw [w3]
 ·obtain ⟨j, hj⟩ : ∃ j, n = j + 2 := ⟨n - 2, by omega⟩
  have hF := zan hm hj (by omega)
  rw [bdT hF, bdT hO]
  have e2 : List.replicate (j + 1) (0 : Int) = List.replicate (n - 1) 0 := by rw [show j + 1 = n - 1 by omega]
  rw [e2]
  simp only
  rw [q0, cond_false, q1, cond_false, g0, Option.bind_some, q2, cond_false, yU, bdT g1, q3, cond_false, cond_false, cond_false, decide_eq_false (by omega), cond_false, cond_false, show (((([List.replicate (n - 1) (0 : Int)] : List (List Int)).length : Nat) : Int) != 1) = false from rfl, cond_false, show idx [List.replicate (n - 1) (0 : Int)] 0 = some (List.replicate (n - 1) 0) from rfl, Option.bind_some, q3, cond_false]
  unfold xO
  rw [w3]
theorem L2K {n : Nat} (h1 : 2 ≤ n) (h2 : n ≤ 14) : zX (n : Int) = some (.next ((n + 1 : Nat) : Int)) := by
 unfold zX
 rw [decide_eq_true (by omega), cond_true, bdT (z9Z h1 h2), J4K h1 h2]
theorem zf5 : loop (fun s => zX s) 2 = some (.inl ()) := by
 have := Xz (step := fun s => zX s) (fun i => ((i + 2 : Nat) : Int)) 13 (t := .inl ()) (by omega) (fun i hi => by
  show zX ((i + 2 : Nat) : Int) = _
  rw [L2K (by omega) (by omega)]) (by
  show zX ((13 + 2 : Nat) : Int) = _
  unfold zX
  rw [decide_eq_false (by omega), cond_false])
 exact this
theorem z7Y : qY = some true := by
 have hw : (w64 (((([] : List (List Int)).length : Nat) : Int) + ((([] : List (List Int)).length : Nat) : Int)) != 0) = false := by
  rw [xS (by simp) (by simp)]
  simp
 unfold qY
 rw [k1, Option.bind_some, k2, Option.bind_some, k3, Option.bind_some, k4, Option.bind_some]
 simp only
 rw [show ((0 : Int) != 0) = false from rfl, cond_false, cond_false, cond_false, cond_false, hw, cond_false, show (!true) = false from rfl, cond_false, bdT k5, show (!true) = false from rfl, cond_false, bdT zf5]
 simp only
 unfold vO
 rw [z2b]
 rfl
def zfm (w : World) : zi := fun b o => zZ w.heap b o
theorem zaD {w : World} {a : Addr} {v : Value} (h : w.cell? a = some v) : a.spot = none ∧ zZ w.heap a.block a.off = some v := by
 unfold World.cell? at h
 unfold zZ
 split at h
 ·rename_i c ty fr he
  rw [he]
  split at h
  ·cases h
  ·rename_i hs
   exact ⟨by simpa using hs, h⟩
 ·cases h
open Go.RowKit Go.ChangeShapes
theorem z1T {S : zi} (k : IntKind) : ∀ l : List Int, yG S (l.map fun n => A.atom (.int k n)) (l.map fun n => Value.int k n)
 | [] => by simp [yG]
 | n :: l => by
  simp only [List.map_cons, yG, Rep]
  exact ⟨[.int k n], _, rfl, ⟨rfl, rfl⟩, z1T k l⟩
theorem z7b {P : Program} {W : World} {n : String} {l : List Int} {r : List (String × DataW Unit)} {g : Nat} {t e : TypeId} {k : IntKind} {N : Nat} (h : laidMet P ((n, .agg (l.map fun x => .lit (.int k x))) :: r) W)
  (hg : P.globalNamed n = some g) (ht : (P.globals[g]?).map (·.type) = some t) (hu : P.underlying t = some (.array N e)) (he : P.underlying e = some (.int k)) (hc : P.cellsOf e = 1) :
  ∀ (j : Nat) (x : Int), l[j]? = some x → zfm W g j = some (.int k x) := by
 obtain ⟨ps, ⟨g0, t0, cs0, f0, p0, q0, hg0, ht0, hv0, hd0, _, _⟩, _, _⟩ := h
 obtain rfl := Option.some.inj (hg.symm.trans hg0)
 obtain rfl := Option.some.inj (ht.symm.trans ht0)
 obtain ⟨xs, m, _, hxs, hlen, hxl, hall⟩ := DataW.trod_array hu hd0
 have hx1 : l.map (fun x => (DataW.lit (.int k x) : DataW Unit)) = xs.map (·.1) := by
  have := (Prod.mk.inj hxs).1
  injection this
 intro j x hj
 have hjl : j < l.length := (List.getElem?_eq_some_iff.1 hj).1
 have hll : l.length = xs.length := by simpa using congrArg List.length hx1
 have hjx : j < xs.length := by omega
 have hy : xs[j]? = some xs[j] := List.getElem?_eq_getElem hjx
 have h1 := hall j (by omega)
 rw [hy, hc, Nat.mul_one] at h1
 obtain ⟨v, e1, e2, _⟩ := DataW.trod_int he h1
 have e3 : (xs.map (·.1))[j]? = some (.lit (.int k x)) := by rw [← hx1, List.getElem?_map, hj]; rfl
 rw [List.getElem?_map, hy, e2] at e3
 have e4 : v = x := by
  simp only [Option.map_some, Option.some.injEq] at e3
  injection e3 with e3
  injection e3
 subst e4
 have h2 : cs0.toList[j]? = some (.int k v) := by
  have := congrArg (fun q => q[0]?) e1
  simpa [List.getElem?_take, List.getElem?_drop] using this
 have h3 := World.var?_cell hg hv0 j
 rw [show cs0[j]? = some (.int k v) by simpa using h2] at h3
 exact (zaD h3).2
section
open Go Go.ChangeShapes Go.WideShapes Go.ChangeAt Go.RowKit
theorem z5r {P : Program} {H : Type} {enc : TypeId × Value → H} {f : Func} {s : ChangeSpec} {apart fresh handsOn again : Bool} {W W' : World} {args : Array Value} {v : Value} {ds : List (DataW H)} {pa : List MemPlace}
  (hvar : s.vars = []) (hvars2 : (s.fn H (ds ++ [])).vars = []) (hW : DataW.Whole enc P f.params.toList s.vars apart W args.toList ds [] (pa ++ [])) (hb : Below W.heap.size W W')
  (hres : ∀ (b : Nat) (sp : Nat → Bool) (hd : Bool), DataW.TrodAll enc P W' b sp hd f.resultTypes.toList (v.resultList f.resultTypes.size) (s.fn H (ds ++ [])).results [])
  (hargs : ∀ sp : Nat → Bool, (∀ p ∈ pa ++ [], sp p.block = true) → DataW.TrodAll enc P W' 0 sp true f.params.toList args.toList (s.fn H (ds ++ [])).args pa)
  (hok : ∀ (j : Nat) (t : TypeId) (r : Value), f.resultTypes[j]? = some t → (v.resultList f.resultTypes.size)[j]? = some r → Value.okWide P W' .any 0 t r) :
  s.post enc P f apart fresh handsOn again W args v W' := by
 have hlt : ∀ p ∈ pa ++ [], p.block < W.heap.size := fun p hp => by simpa using hW.lt p hp
 have hvr : ∀ sp : Nat → Bool, DataW.TrodVars enc P W' sp s.vars (s.fn H (ds ++ [])).vars [] := fun sp => by rw [hvar, hvars2]; rfl
 refine ⟨ds, [], pa ++ [], [], pa, [], hW, hres _ _ _, hargs _ (fun p hp => by simpa using hlt p hp), hvr _, World.keptBut_mono (fun _ q => q.elim) (hb.frame fun _ => False), fun _ => ?_⟩
 obtain ⟨_, _, _, _, _, hz, hn⟩ := hW
 refine ⟨hok, _, _, ([] ++ pa) ++ [], ⟨[] ++ pa, [], trodAll_append (hargs _ (fun _ _ => rfl)) (hres _ _ _), hvr _, rfl, ?_, ?_⟩, ?_⟩
 ·intro b off hp
  have hp' : MemPlace.cell b off ∈ pa ++ [] := by simpa using hp
  rw [hb.frozen (p := ⟨b, off, none⟩) (hlt _ hp')]
  exact hz b off hp'
 ·intro ha
  simpa using hn ha
 ·intro p hp _
  simpa using hp
end
theorem z7h {P : Program} {k : Nat} {α ρ : Type} {enc : α → List A} {encR : ρ → A} {F : α → Option ρ} {gives : List Bool} {inj : ∀ x y, enc x = enc y → x = y} (h : (spF k enc encR F gives inj).Ok P) {x : α} {r : ρ} (hr : F x = some r) : Xl P k (enc x) (encR r) := by
 have := h x ⟨r, hr⟩
 simpa only [spF, hr] using this
section
variable {P : Program} {w : World} {r : Reach} {base t : Nat} {v : Value}
theorem z84 {S : zi} {h : Array Obj} {v : Value} {F : List Nat} (q : Has S h (.atom (.bool true)) v F) : v = .bool true := by
 rcases q with ⟨q, _⟩ | ⟨cs, q, _, rfl⟩
 ·rw [(zm.1 q).1]
 ·simp only [zC, Rep] at q
  obtain ⟨⟨rfl, _⟩, _⟩ := q
  rfl
end
open Go.Proofs
end Go.Own
namespace Go.Proofs.YtcodjgfoodacaaaGreatDoor.identsKnown
open Go Go.ChangeShapes Go.WideShapes Go.ChangeAt Go.RowKit
theorem own : ownKnob Tryz.prog.godebug = none := by kernel_rfl
section
variable {H : Type} {enc : TypeId × Value → H} {W : World}
theorem z86 {W : World} (hL : laidMetH Tryz.prog Rows.identsKnownRow.laid W) : Go.Own.Gok (Go.Own.zfm W) := by
 rw [MakeChecks.laidMetH_plain _ _ _ (by kernel_rfl)] at hL
 obtain ⟨x0, hx⟩ : ∃ x0, Rows.identsKnownRow.laid = x0 :: [("math/bits.deBruijn64tab", .agg (Go.Own.zfh.map fun n => .lit (.int .u8 n)))] := ⟨_, rfl⟩
 rw [hx] at hL
 have hl := Go.Own.z7b (hL.tail) (g := 1) (by kernel_rfl) (t := 162) (by kernel_rfl) Tryz.underlying162 Tryz.underlying5 (by kernel_rfl)
 intro g x e
 unfold Go.Own.zeu at e
 split at e
 ·rename_i h0
  subst h0
  cases e
  refine ⟨_, (by simp only [Go.Own.Rep]; exact Go.Own.z1T _ _), fun j v hj => ?_⟩
  rw [List.getElem?_map] at hj
  obtain ⟨y, hy, rfl⟩ := Option.map_eq_some_iff.1 hj
  rw [Nat.zero_add]
  exact hl j y hy
 ·cases e
set_option maxRecDepth 100000 in
theorem zgT {base : Nat} (hL : laidMetH Tryz.prog Rows.identsKnownRow.laid W) :
  Calls Tryz.prog 7 #[] W fun e w' => e = .returned (.bool true) ∧ Go.Own.YQ (fun k => W.heap.size ≤ k) W w' := by
 have q := (Go.Own.z7h (Go.Own.z4v Go.Own.zdg List.mem_cons_self : Go.Own.ji.Ok Tryz.prog) (x := ()) (r := true) (Go.Own.z7Y)).2 (Go.Own.zfm W) W [] [] ⟨fun _ _ _ h => h, z86 hL⟩ ?_ (by simp)
 ·refine Calls.mono q ?_
  rintro e w' ⟨v, S', F', rfl, hk, _, _, _, hr, _, _⟩
  refine ⟨?_, hk.mono (by rintro k (h | h) <;> simp_all)⟩
  rw [Go.Own.z84 hr]
 ·refine Go.Own.Yk ?_
  exact trivial
end
set_option maxRecDepth 100000 in
theorem z89 (os : Os) (args : Array Value) : laidMetH Tryz.prog Rows.identsKnownRow.laid ((World.doorLaid Tryz.prog 400 os).forCall (fun _ _ => 0) ⟨#[], args, []⟩).memory :=
 laidMetH_of_parts3 (fuel := 8) (laidMet_of_run' 8 (by kernel_rfl) (by kernel_rfl)) (by kernel_rfl) (by kernel_rfl)
set_option maxRecDepth 100000 in
theorem zci (os : Os) (started : os.Started) (H : Type) (enc : TypeId × Value → H) :
  ReturnsInHanded {} Tryz.checked os 7 .any (fun w args => (Rows.identsKnownSpec.pre enc Tryz.prog Tryz.f7 Rows.identsKnownRow.domain false w args ∧ laidMetH Tryz.prog Rows.identsKnownRow.laid w) ∧ sizedMet enc Tryz.prog Tryz.f7 (OpenSpec.ofChange Rows.identsKnownSpec) false w args) (Rows.identsKnownSpec.post enc Tryz.prog Tryz.f7 false true false false) := by
 refine returnsInHanded_of_change_and (C := Tryz.checked) (X := fun w _ => laidMetH Tryz.prog Rows.identsKnownRow.laid w) (fun _ _ _ hh h => h.of_heap hh) own started (by kernel_rfl) Tryz.func7
  (ChangeSpec.witness_shaped (enc := enc) (C := Tryz.checked) (os := os) (X := fun w _ => laidMetH Tryz.prog Rows.identsKnownRow.laid w) false (World.doorLaid Tryz.prog 400 os) #[] 8 rfl (World.shaped_of_RefB (by kernel_rfl) (by kernel_rfl)) (by kernel_rfl) (by kernel_rfl) (by kernel_rfl) (z89 os _)) ?_
 intro W base args ds gs before hval0 hW hcnd _ hL _
 have hval : ∀ (j : Nat) t v, Tryz.f7.params[j]? = some t → args[j]? = some v → Value.okWide Tryz.prog W .any base t v := hval0
 have hW' := hW
 obtain ⟨p, q, hA0, hV, rfl, hfz, hnd⟩ := hW
 have hA : DataW.TrodAll enc Tryz.prog W 0 (fun _ => true) true Tryz.f7.params.toList args.toList ds p := hA0
 rw [Tryz.params7] at hA hval
 obtain ⟨rfl, rfl, rfl⟩ := trodAll_none hA
 obtain ⟨rfl, rfl⟩ := trodVars_none hV
 clear hA0 hval0
 refine (zgT hL (base := base)).mono fun e W' ⟨he, hk⟩ => ?_
 subst he
 have hb : Below W.heap.size W W' := ⟨hk.os, hk.tape, hk.output, hk.size, fun k q => hk.block k (by omega)⟩
 have hlt : ∀ x ∈ ([] : List MemPlace), x.block < W.heap.size := fun x hx => by cases hx
 refine ⟨_, rfl, Go.Own.z5r rfl rfl hW' hb (fun _ _ _ => trodAll_cons_mk (shut_bool Tryz.underlying4 _) trodAll_mk0) (fun sp hsp => ?_) (ok_one (by kernel_rfl) rfl (okWide_bool_mk Tryz.underlying4 _))⟩
 rw [Tryz.params7]
 exact trodAll_mk0
theorem Wt : Rows.identsKnownRow.holds Tryz.pinned (OpenSpec.ofChange Rows.identsKnownSpec) :=
 OpenClaim.holds_of_wide 7 Tryz.f7 rfl rfl rfl rfl rfl rfl rfl ⟨rfl, rfl, rfl, rfl, rfl⟩ rfl rfl rfl rfl rfl (by kernel_rfl) Tryz.func7 (by kernel_rfl)
  (of_decide_eq_true (by kernel_rfl)) (by unfold Func.isWrapper; first | (rw [if_pos (by decide +kernel)]; kernel_rfl) | (rw [if_neg (by decide +kernel)]; exact ⟨rfl, rfl⟩))
  (fun os started H enc _ => zci os started H enc)
theorem proved : Rows.IdentsKnownCardSaid :=
 Claim7.holds_tied_plain_at .later [] [.data, .data] true (true, "715c2141db8d2242eb7f34f812cc2666e7c04bdf1baf18ebf980598cb96d27b9") false
  Wt (fun _ h => by cases h) (by kernel_rfl) (fun _ h => by cases h) identsKnown_row_tie rfl ⟨rfl, rfl⟩ (by kernel_rfl) rfl
  (fun f fn hf hfn => by
   obtain rfl : f = 7 := Option.some.inj ((show Tryz.prog.funcNamed "gauntlet/gauntletlaw14.IdentsKnown" = some 7 by kernel_rfl).symm.trans hf) |>.symm
   obtain rfl : fn = Tryz.f7 := (Option.some.inj (Tryz.func7.symm.trans hfn)).symm
   exact ⟨by kernel_rfl, fun j t ht => by
    rw [Tryz.params7] at ht
    have hm : t ∈ [] := by simpa using Array.mem_of_getElem? ht
    have hall : ([].all fun u => !Tryz.prog.wantsStandIn u) = true := by kernel_rfl
    exact (show Tryz.prog.wantsStandIn t = false by simpa using List.all_eq_true.1 hall t hm)⟩)
  (by kernel_rfl)
#print axioms proved
end Go.Proofs.YtcodjgfoodacaaaGreatDoor.identsKnown
