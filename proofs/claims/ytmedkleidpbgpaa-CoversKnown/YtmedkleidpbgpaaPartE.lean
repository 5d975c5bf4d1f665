/- -/
import Derived.Test.YtmedkleidpbgpaaPartB
import Derived.Test.YtmedkleidpbgpaaProg
import Derived.Test.YtmedkleidpbgpaaPartD
import Derived.Test.YtmedkleidpbgpaaPartC
import Derived.Shelf.SlSortCmp.NoneTotal
import Derived.Ground.SlsfProg
set_option linter.unusedVariables false
set_option linter.unusedSimpArgs false
namespace Go.Ex
open Go.Proofs
theorem q3 : EqP Try.prog 3 [.int .i64 0] false 1 := z5Z (k := .int .i64) Try.underlying3 ⟨_, (by kernel_rfl : Try.prog.info? 3 = some Try.t3), rfl⟩ rfl
theorem q45 : EqP Try.prog 45 (Y0 [([.int .i64 0], false), ([.int .i64 0], false)]) true 2 := YD Try.underlying45 (by kernel_rfl) ⟨_, (by kernel_rfl : Try.prog.info? 45 = some Try.t45), rfl⟩ (by decide) (ya.cons (by decide) rfl (q3.mono (by decide)) (ya.cons (by decide) rfl (q3.mono (by decide)) (ya.nil)))
theorem q46 : EqP Try.prog 46 (Y0 [([.int .i64 0], false), ([.int .i64 0], false)]) true 2 := YD Try.underlying46 (by kernel_rfl) ⟨_, (by kernel_rfl : Try.prog.info? 46 = some Try.t46), rfl⟩ (by decide) (ya.cons (by decide) rfl (q3.mono (by decide)) (ya.cons (by decide) rfl (q3.mono (by decide)) (ya.nil)))
def i64 : EI := ⟨.func, 1, 8, some [.nilFunc], false⟩
theorem zcJ : EqP Try.prog 131 (Y0 [([.int .i64 0], false), ([.int .i64 0], false), ([.int .i64 0], false)]) true 2 := YD Try.underlying131 (by kernel_rfl) ⟨_, (by kernel_rfl : Try.prog.info? 131 = some Try.t131), rfl⟩ (by decide) (ya.cons (by decide) rfl (q3.mono (by decide)) (ya.cons (by decide) rfl (q3.mono (by decide)) (ya.cons (by decide) rfl (q3.mono (by decide)) (ya.nil))))
theorem zcA : EqP Try.prog 132 (Y0 [([.int .i64 0], false), ([.int .i64 0], false), ([.int .i64 0], false)]) true 2 := YD Try.underlying132 (by kernel_rfl) ⟨_, (by kernel_rfl : Try.prog.info? 132 = some Try.t132), rfl⟩ (by decide) (ya.cons (by decide) rfl (q3.mono (by decide)) (ya.cons (by decide) rfl (q3.mono (by decide)) (ya.cons (by decide) rfl (q3.mono (by decide)) (ya.nil))))
end Go.Ex

namespace Go.Own
open Go.Proofs
def zaz : Value → Bool
 | .int _ _ => true
 | _ => false
theorem z07 : ∀ {z vs us : List Value} {r : Bool}, z.all zaz = true → z.length = vs.length → yT vs us = some r → Go.Ex.z08 z vs = true ∧ Go.Ex.yT vs us = some r
 | [], [], us, r, _, _, h => by
  cases us with
  | nil => simp only [yT, Option.some.injEq] at h; subst h; exact ⟨rfl, rfl⟩
  | cons u us => simp [yT] at h
 | a :: z, v :: vs, us, r, hz, hl, h => by
  have q : ∃ k x u' k' y, v = .int k x ∧ us = .int k' y :: u' ∧ k = k' := by
   cases us with
   | nil => cases v <;> simp [yT] at h
   | cons u us =>
    cases v <;> cases u <;> simp [yT] at h
    exact ⟨_, _, _, _, _, rfl, rfl, h.1⟩
  obtain ⟨k, x, u', k', y, rfl, rfl, hk⟩ := q
  simp only [yT, hk, if_true, Option.map_eq_some_iff] at h
  obtain ⟨r', e1, rfl⟩ := h
  simp only [List.all_cons, Bool.and_eq_true] at hz
  obtain ⟨q1, q2⟩ := z07 hz.2 (by simpa using hl) e1
  refine ⟨?_, by simp [Go.Ex.yT, hk, q2]⟩
  cases a <;> first | (simp [zaz] at hz; done) | simpa [Go.Ex.z08] using q1
 | [], _ :: _, _, _, _, hl, _ => by simp at hl
 | _ :: _, [], _, _, _, hl, _ => by simp at hl
variable {P : Program}{z : List Value}
theorem z8k {t n : Nat} {i : Go.Ex.EI} (h : Go.Ex.z6Z P t i)  (hz : i.zero = some z) (hi : z.all zaz = true) (hs : i.size = n) (hn : z.length = n) : z6Z P t n := {
 guard := h.guard
 run := fun vs us r w hv hu he => by
  obtain ⟨q1, q2⟩ := z07 hi (by rw [hn, hv]) he
  exact h.run vs us r w (by rw [hs]; exact hv) (by rw [hs]; exact hu) (by simpa only [Go.Ex.zbd, hz] using q1) q2 }
theorem exq {t dep : Nat}  (q : Go.Ex.EqP P t z true dep) (h1 : Nat.ble dep P.depth = true := by kernel_rfl) (h2 : dep ≤ 10000 := by decide) : Go.Ex.z6Z P t ⟨.func, z.length, 0, some z, true⟩ := Go.Ex.z8j q rfl rfl (Nat.le_of_ble_eq_true h1) h2
theorem z6U {t n dep : Nat}  (q : Go.Ex.EqP P t z true dep) (hi : z.all zaz = true) (hn : z.length = n) (h1 : Nat.ble dep P.depth = true := by kernel_rfl) (h2 : dep ≤ 10000 := by decide) : z6Z P t n := z8k (exq q h1 h2) rfl hi hn hn
variable {h : Array Obj}{S : zf}
theorem z4j {v : Value} (hv : v.oneCell' = true) : zw S h (.atom v) [v] [] := by simp only [zw, Rep]; exact ⟨⟨trivial, hv⟩, trivial⟩
theorem z64 (sz : Nat) : zw S h (.osl sz true []) [.slice none 0 0] [] := by
 simp only [zw]
 exact ⟨none, 0, rfl, (fun _ => rfl), Nat.le_refl _, Nat.zero_le _, by simp, .inl ⟨trivial, rfl, rfl, trivial⟩⟩
variable {fs : List A}
theorem z65 {cs : List Value} (q : zz S h fs cs []) : zw S h (.agg fs) cs [] := by simpa only [zw] using q
theorem z4h : zz S h [] [] [] := by simp [zz]
theorem z4i {a : A}  {c1 c2 : List Value} (q1 : zw S h a c1 []) (q2 : zz S h fs c2 []) : zz S h (a :: fs) (c1 ++ c2) [] := by simp only [zz]; exact ⟨c1, c2, [], [], rfl, rfl, q1, q2⟩
def zc : A → Option (List Value)
 | .atom v => if v.oneCell' = true then some [v] else none
 | .osl _ true [] => some [.slice none 0 0]
 | .agg fs => zcs fs
 | _ => none
where zcs : List A → Option (List Value)
 | [] => some []
 | a :: l => match zc a, zcs l with | some c, some d => some (c ++ d) | _, _ => none
mutual
theorem z8X : ∀ {a : A} {c : List Value}, zc a = some c → zw S h a c []
 | .atom v, c, e => by
  simp only [zc] at e
  split at e
  ·rename_i q; cases e; exact z4j q
  ·cases e
 | .osl sz true [], c, e => by simp only [zc] at e; cases e; exact z64 sz
 | .agg fs, c, e => z65 (z6t (by simpa only [zc] using e))
theorem z6t : ∀ {l : List A} {c : List Value}, zc.zcs l = some c → zz S h l c []
 | [], c, e => by simp only [zc.zcs] at e; cases e; exact z4h
 | a :: l, c, e => by
  simp only [zc.zcs] at e
  split at e
  ·rename_i c d e1 e2; cases e; exact z4i (z8X e1) (z6t e2)
  ·cases e
end
def zq (z : Option A) (v : Option Value) (n : Nat) : Prop := match z, v with | some z, some v => z.size = n ∧ zc z = some v.cells.toList | none, _ => True | _, _ => False
theorem tiq {t : Nat} {i : TI} (f : TypeInfo) (k : Q1 P t i.kind) (e : i.eqn = true → z6Z P t i.size := by intro h; cases h) (h : P.info? t = some f := by kernel_rfl) (h2 : f.size = i.size := by rfl) (h3 : f.bytes = i.bytes := by rfl) (h4 : zq i.zero f.zero i.size := by exact And.intro rfl rfl) : kF P t i :=
 ⟨⟨f, h, h2, h3, fun z hz => by
  rw [hz] at h4
  cases hv : f.zero with
  | none => rw [hv] at h4; exact h4.elim
  | some v => rw [hv] at h4; exact ⟨v, rfl, h4.1, fun S h => z8X h4.2⟩⟩, k, e⟩
def ti1 : TI := ⟨.other, 1, 8, some (.atom .nilFunc), false⟩
theorem z98 : kF Try.prog 1 ti1 := tiq Try.t1 ⟨_, Try.underlying1, rfl⟩
def ti2 : TI := ⟨.int .i64, 1, 8, some (.atom (.int .i64 0)), false⟩
theorem z97 : kF Try.prog 2 ti2 := tiq Try.t2 Try.underlying2
def ti3 : TI := ⟨.int .i64, 1, 8, some (.atom (.int .i64 0)), false⟩
theorem z96 : kF Try.prog 3 ti3 := tiq Try.t3 Try.underlying3
def ti4 : TI := ⟨.bool, 1, 1, some (.atom (.bool false)), false⟩
theorem z95 : kF Try.prog 4 ti4 := tiq Try.t4 Try.underlying4
def ti5 : TI := ⟨.int .u8, 1, 1, some (.atom (.int .u8 0)), false⟩
theorem z94 : kF Try.prog 5 ti5 := tiq Try.t5 Try.underlying5
def ti9 : TI := ⟨.str, 1, 16, some (.atom (.string ⟨#[]⟩)), false⟩
theorem z93 : kF Try.prog 9 ti9 := tiq Try.t9 Try.underlying9
def zbR : TI := ⟨.slice 29, 1, 24, some (.osl 1 true []), false⟩
theorem z7r : kF Try.prog 22 zbR := tiq Try.t22 Try.underlying22
def zbQ : TI := ⟨.int .i64, 1, 8, some (.atom (.int .i64 0)), false⟩
theorem z7q : kF Try.prog 23 zbQ := tiq Try.t23 Try.underlying23
def zbP : TI := ⟨.slice 3, 1, 24, some (.osl 1 true []), false⟩
theorem z7p : kF Try.prog 29 zbP := tiq Try.t29 Try.underlying29
def zbO : TI := ⟨.slice 44, 1, 24, some (.osl 1 true []), false⟩
theorem z7o : kF Try.prog 41 zbO := tiq Try.t41 Try.underlying41
def zbN : TI := ⟨.struct [(0, 1), (1, 1), (2, 1)], 3, 40, some (.agg [.atom (.int .i64 0), .atom (.int .i64 0), .osl 1 true []]), false⟩
theorem z7n : kF Try.prog 43 zbN := tiq Try.t43 ⟨_, Try.underlying43, by kernel_rfl, by
  intro f hf
  simp only [List.mem_cons, List.not_mem_nil, or_false] at hf
  rcases hf with rfl | rfl | rfl
  ·exact ⟨Try.t3, by kernel_rfl⟩
  ·exact ⟨Try.t3, by kernel_rfl⟩
  ·exact ⟨Try.t41, by kernel_rfl⟩⟩
def zbM : TI := ⟨.slice 46, 1, 24, some (.osl 2 true []), false⟩
theorem z7m : kF Try.prog 44 zbM := tiq Try.t44 Try.underlying44
def zbL : TI := ⟨.struct [(0, 1), (1, 1)], 2, 16, some (.agg [.atom (.int .i64 0), .atom (.int .i64 0)]), true⟩
theorem z7l : kF Try.prog 46 zbL := tiq Try.t46 ⟨_, Try.underlying46, by kernel_rfl, by
  intro f hf
  simp only [List.mem_cons, List.not_mem_nil, or_false] at hf
  rcases hf with rfl | rfl
  ·exact ⟨Try.t3, by kernel_rfl⟩
  ·exact ⟨Try.t3, by kernel_rfl⟩⟩ (fun _ => z6U Go.Ex.q46 rfl rfl)
def zbK : TI := ⟨.slice 4, 1, 24, some (.osl 1 true []), false⟩
theorem z7k : kF Try.prog 51 zbK := tiq Try.t51 Try.underlying51
def zbJ : TI := ⟨.slice 51, 1, 24, some (.osl 1 true []), false⟩
theorem z7j : kF Try.prog 52 zbJ := tiq Try.t52 Try.underlying52
def zbI : TI := ⟨.struct [(0, 1), (1, 1)], 2, 48, some (.agg [.osl 1 true [], .osl 1 true []]), false⟩
theorem z7i : kF Try.prog 54 zbI := tiq Try.t54 ⟨_, Try.underlying54, by kernel_rfl, by
  intro f hf
  simp only [List.mem_cons, List.not_mem_nil, or_false] at hf
  rcases hf with rfl | rfl
  ·exact ⟨Try.t51, by kernel_rfl⟩
  ·exact ⟨Try.t52, by kernel_rfl⟩⟩
def zbH : TI := ⟨.other, 1, 8, some (.atom .nilFunc), false⟩
theorem z7h : kF Try.prog 57 zbH := tiq Try.t57 ⟨_, Try.underlying57, rfl⟩
def zbG : TI := ⟨.other, 1, 8, some (.atom (.map none)), false⟩
theorem z7g : kF Try.prog 63 zbG := tiq Try.t63 ⟨_, Try.underlying63, rfl⟩
def zbF : TI := ⟨.other, 1, 8, some (.atom .nilFunc), false⟩
theorem z7f : kF Try.prog 78 zbF := tiq Try.t78 ⟨_, Try.underlying78, rfl⟩
def zbE : TI := ⟨.other, 1, 8, some (.atom .nilFunc), false⟩
theorem z7e : kF Try.prog 82 zbE := tiq Try.t82 ⟨_, Try.underlying82, rfl⟩
def zbD : TI := ⟨.other, 1, 8, some (.atom .nilFunc), false⟩
theorem z7d : kF Try.prog 84 zbD := tiq Try.t84 ⟨_, Try.underlying84, rfl⟩
def zbC : TI := ⟨.other, 1, 8, some (.atom .nilFunc), false⟩
theorem z7c : kF Try.prog 85 zbC := tiq Try.t85 ⟨_, Try.underlying85, rfl⟩
def zbB : TI := ⟨.other, 1, 8, some (.atom .nilFunc), false⟩
theorem z7b : kF Try.prog 90 zbB := tiq Try.t90 ⟨_, Try.underlying90, rfl⟩
def zbA : TI := ⟨.other, 1, 8, some (.atom .nilFunc), false⟩
theorem z7a : kF Try.prog 91 zbA := tiq Try.t91 ⟨_, Try.underlying91, rfl⟩
def zbz : TI := ⟨.slice 22, 1, 24, some (.osl 1 true []), false⟩
theorem z79 : kF Try.prog 93 zbz := tiq Try.t93 Try.underlying93
def zby : TI := ⟨.other, 1, 8, some (.atom .nilFunc), false⟩
theorem z78 : kF Try.prog 96 zby := tiq Try.t96 ⟨_, Try.underlying96, rfl⟩
def zbx : TI := ⟨.other, 1, 8, some (.atom .nilFunc), false⟩
theorem z75 : kF Try.prog 97 zbx := tiq Try.t97 ⟨_, Try.underlying97, rfl⟩
def zbw : TI := ⟨.slice 5, 1, 24, some (.osl 1 true []), false⟩
theorem z74 : kF Try.prog 99 zbw := tiq Try.t99 Try.underlying99
def z9h : TI := ⟨.other, 1, 8, some (.atom .nilFunc), false⟩
theorem z54 : kF Try.prog 109 z9h := tiq Try.t109 ⟨_, Try.underlying109, rfl⟩
def z9g : TI := ⟨.other, 1, 8, some (.atom .nilFunc), false⟩
theorem z52 : kF Try.prog 111 z9g := tiq Try.t111 ⟨_, Try.underlying111, rfl⟩
def z9f : TI := ⟨.other, 1, 8, some (.atom .nilFunc), false⟩
theorem z51 : kF Try.prog 115 z9f := tiq Try.t115 ⟨_, Try.underlying115, rfl⟩
def z9e : TI := ⟨.other, 1, 8, some (.atom .nilFunc), false⟩
theorem z4Z : kF Try.prog 126 z9e := tiq Try.t126 ⟨_, Try.underlying126, rfl⟩
def z9d : TI := ⟨.other, 1, 8, some (.atom .nilFunc), false⟩
theorem z4Y : kF Try.prog 128 z9d := tiq Try.t128 ⟨_, Try.underlying128, rfl⟩
def z9c : TI := ⟨.other, 1, 8, some (.atom .nilFunc), false⟩
theorem z4X : kF Try.prog 129 z9c := tiq Try.t129 ⟨_, Try.underlying129, rfl⟩
def z9b : TI := ⟨.struct [(0, 1), (1, 1), (2, 1)], 3, 24, some (.agg [.atom (.int .i64 0), .atom (.int .i64 0), .atom (.int .i64 0)]), true⟩
theorem z4W : kF Try.prog 132 z9b := tiq Try.t132 ⟨_, Try.underlying132, by kernel_rfl, by
  intro f hf
  simp only [List.mem_cons, List.not_mem_nil, or_false] at hf
  rcases hf with rfl | rfl | rfl
  ·exact ⟨Try.t3, by kernel_rfl⟩
  ·exact ⟨Try.t3, by kernel_rfl⟩
  ·exact ⟨Try.t3, by kernel_rfl⟩⟩ (fun _ => z6U Go.Ex.zcA rfl rfl)
def z9a : TI := ⟨.other, 1, 8, some (.atom .nilFunc), false⟩
theorem z4V : kF Try.prog 149 z9a := tiq Try.t149 ⟨_, Try.underlying149, rfl⟩
def z99 : TI := ⟨.slice 132, 1, 24, some (.osl 3 true []), false⟩
theorem z4U : kF Try.prog 150 z99 := tiq Try.t150 Try.underlying150
def tiL : List (Nat × TI) := [(1, ti1), (2, ti2), (3, ti3), (4, ti4), (5, ti5), (9, ti9), (22, zbR), (23, zbQ), (29, zbP), (41, zbO), (43, zbN), (44, zbM), (46, zbL), (51, zbK), (52, zbJ), (54, zbI), (57, zbH), (63, zbG), (78, zbF), (82, zbE), (84, zbD), (85, zbC), (90, zbB), (91, zbA), (93, zbz), (96, zby), (97, zbx), (99, zbw), (109, z9h), (111, z9g), (115, z9f), (126, z9e), (128, z9d), (129, z9c), (132, z9b), (149, z9a), (150, z99)]
def yh : TT := fun t => (tiL.find? fun p => p.1 == t).map (·.2)
def z4K (P : Program) : List (Nat × TI) → Prop
 | [] => True
 | p :: l => kF P p.1 p.2 ∧ z4K P l
theorem z4K.mem : ∀ {l : List (Nat × TI)}, z4K P l → ∀ p ∈ l, kF P p.1 p.2
 | p :: _, h, q, hq => by
  rcases List.mem_cons.1 hq with rfl | hq
  ·exact h.1
  ·exact z4K.mem h.2 q hq
 | [], _, _, hq => by cases hq
theorem z92 : z4K Try.prog tiL := ⟨z98, z97, z96, z95, z94, z93, z7r, z7q, z7p, z7o, z7n, z7m, z7l, z7k, z7j, z7i, z7h, z7g, z7f, z7e, z7d, z7c, z7b, z7a, z79, z78, z75, z74, z54, z52, z51, z4Z, z4Y, z4X, z4W, z4V, z4U, trivial⟩
theorem zp : xH Try.prog yh := by
 intro t i h
 unfold yh at h
 rw [Option.map_eq_some_iff] at h
 obtain ⟨p, h1, rfl⟩ := h
 have h2 := List.find?_some h1
 have h3 := z92.mem p (List.mem_of_find?_eq_some h1)
 rw [beq_iff_eq.1 h2] at h3
 exact h3
structure z8 where
 To : Int
 Out : Int
def vp (f0 : Int → A) (f1 : Int → A) (x : z8) : A := .agg [f0 x.To, f1 x.Out]
instance (f0 : Int → A) (f1 : Int → A) (g0 : Int → A) (g1 : Int → A) [h0 : Q4 f0 g0] [h1 : Q4 f1 g1] : Q4 (vp f0 f1) (vp g0 g1) := ⟨fun x => by simp [vp, A.loose, A.looses, h0.lo, h1.lo]⟩
instance (f0 : Int → A) (f1 : Int → A) (g0 : Int → A) (g1 : Int → A) [h0 : z6s f0 g0] [h1 : z6s f1 g1] : z6s (vp f0 f1) (vp g0 g1) := ⟨fun x => by simp [vp, A.live, A.lives, h0.live, h1.live], fun x => by simp [vp, A.shut, A.shuts, h0.sh, h1.sh]⟩
instance (f0 : Int → A) (f1 : Int → A) [h0 : qw f0] [h1 : qw f1] : qw (vp f0 f1) := ⟨fun x y h => by
 simp only [vp, A.agg.injEq, List.cons.injEq, and_true] at h
 cases x; cases y
 simp only [z8.mk.injEq]
 exact ⟨h0.inj _ _ h.1, h1.inj _ _ h.2⟩⟩
structure z6 where
 Inputs : Int
 Outputs : Int
 Rows : List (List z8)
def yV (f0 : Int → A) (f1 : Int → A) (f2 : List (List z8) → A) (x : z6) : A := .agg [f0 x.Inputs, f1 x.Outputs, f2 x.Rows]
instance (f0 : Int → A) (f1 : Int → A) (f2 : List (List z8) → A) (g0 : Int → A) (g1 : Int → A) (g2 : List (List z8) → A) [h0 : Q4 f0 g0] [h1 : Q4 f1 g1] [h2 : Q4 f2 g2] : Q4 (yV f0 f1 f2) (yV g0 g1 g2) := ⟨fun x => by simp [yV, A.loose, A.looses, h0.lo, h1.lo, h2.lo]⟩
instance (f0 : Int → A) (f1 : Int → A) (f2 : List (List z8) → A) [h0 : qw f0] [h1 : qw f1] [h2 : qw f2] : qw (yV f0 f1 f2) := ⟨fun x y h => by
 simp only [yV, A.agg.injEq, List.cons.injEq, and_true] at h
 cases x; cases y
 simp only [z6.mk.injEq]
 exact ⟨h0.inj _ _ h.1, h1.inj _ _ h.2.1, h2.inj _ _ h.2.2⟩⟩
instance (f0 : Int → A) (f1 : Int → A) (f2 : List (List z8) → A) (g0 : Int → A) (g1 : Int → A) (g2 : List (List z8) → A) (x : z6) [∀ y, LeA (f0 y) (g0 y)] [∀ y, LeA (f1 y) (g1 y)] [∀ y, LeA (f2 y) (g2 y)] [∀ y, SzA (f0 y) (g0 y)] [∀ y, SzA (f1 y) (g1 y)] [∀ y, SzA (f2 y) (g2 y)] : LeA (yV f0 f1 f2 x) (yV g0 g1 g2 x) := by unfold yV; infer_instance
structure z7 where
 States : List Bool
 Edges : List (List Bool)
def xO (f0 : List Bool → A) (f1 : List (List Bool) → A) (x : z7) : A := .agg [f0 x.States, f1 x.Edges]
instance (f0 : List Bool → A) (f1 : List (List Bool) → A) (g0 : List Bool → A) (g1 : List (List Bool) → A) [h0 : Q4 f0 g0] [h1 : Q4 f1 g1] : Q4 (xO f0 f1) (xO g0 g1) := ⟨fun x => by simp [xO, A.loose, A.looses, h0.lo, h1.lo]⟩
instance (f0 : List Bool → A) (f1 : List (List Bool) → A) [h0 : qw f0] [h1 : qw f1] : qw (xO f0 f1) := ⟨fun x y h => by
 simp only [xO, A.agg.injEq, List.cons.injEq, and_true] at h
 cases x; cases y
 simp only [z7.mk.injEq]
 exact ⟨h0.inj _ _ h.1, h1.inj _ _ h.2⟩⟩
structure zg where
 state_ : Int
 from_ : Int
 input_ : Int
def jJ (f0 : Int → A) (f1 : Int → A) (f2 : Int → A) (x : zg) : A := .agg [f0 x.state_, f1 x.from_, f2 x.input_]
instance (f0 : Int → A) (f1 : Int → A) (f2 : Int → A) [h0 : z2G f0] [h1 : z2G f1] [h2 : z2G f2] : z2G (jJ f0 f1 f2) := ⟨fun x => by simp [jJ, A.isD, A.areD, h0.isD, h1.isD, h2.isD]⟩
def jo : Option z8 :=
 some (z8.mk (-1) (-1))
def uA (m_ : z6) (x_ : z8) : Option Bool :=
 (jo).bind fun r_ =>
 bif (x_.To == r_.To) && ((x_.Out == r_.Out) && true) then (
  some true)
 else (
  bif decide (x_.To ≥ 0) then (
   bif decide (x_.To < ((m_.Rows.length : Nat) : Int)) then (
    bif decide (x_.Out ≥ 0) then (
     some (decide (x_.Out < m_.Outputs)))
    else (
     some false))
   else (
    some false))
  else (
   some false))
def u9 (x_ : z8) (x1 : z6) : Option Bool :=
 (uA x1 x_).bind fun r_ =>
 some (!r_)
def yj : Option Int :=
 some (-1)
abbrev R0_ : Type := Option (LR Int (Unit ⊕ Int))
def zB (s_ : List z8) (f_ : z6) (x8 : Int) : R0_ :=
 bif decide (x8 < ((s_.length : Nat) : Int)) then (
  (idx s_ x8).bind fun bi =>
  (u9 bi f_).bind fun r_ =>
  bif r_ then (
   some (.done (.inr x8)))
  else (
   some (.next (w64 (x8 + 1)))))
 else (
  some (.done (.inl ())))
def y7 (s_ : List z8) (f_ : z6) : Option Int :=
 (loop (fun s => zB s_ f_ s) 0).bind fun t2 =>
 match t2 with
 | .inl p => yj
 | .inr p => some p
def zJ (s_ : List z8) (f_ : z6) : Option Bool :=
 (y7 s_ f_).bind fun r_ =>
 some (decide (r_ ≥ 0))
def qe : Option Int :=
 some 0
def xQ (m_ : z6) (ga : Int) : R0_ :=
 bif decide (ga < ((m_.Rows.length : Nat) : Int)) then (
  (idx m_.Rows ga).bind fun ax =>
  bif ((ax.length : Nat) : Int) != m_.Inputs then (
   some (.done (.inr 1)))
  else (
   (zJ ax m_).bind fun r_ =>
   bif r_ then (
    some (.done (.inr 1)))
   else (
    some (.next (w64 (ga + 1))))))
 else (
  some (.done (.inl ())))
def ww (m_ : z6) : Option Int :=
 bif decide (m_.Inputs > 16) then (
  some 3)
 else (
  bif decide (m_.Outputs > 16) then (
   some 3)
  else (
   bif decide (((m_.Rows.length : Nat) : Int) > 64) then (
    some 3)
   else (
    bif decide (m_.Inputs < 1) then (
     some 1)
    else (
     bif decide (m_.Outputs < 1) then (
      some 1)
     else (
      bif decide (((m_.Rows.length : Nat) : Int) < 1) then (
       some 1)
      else (
       (loop (fun s => xQ m_ s) 0).bind fun t2 =>
       match t2 with
       | .inl p => qe
       | .inr p => some p))))))
def jh (c_ : Int) (x1 : Int) : Option Bool :=
 bif decide (c_ < 0) then (
  some true)
 else (
  some (decide (c_ ≥ x1)))
def xV : Option Int :=
 some (-1)
def zX (s_ : List Int) (f_ : Int) (x8 : Int) : R0_ :=
 bif decide (x8 < ((s_.length : Nat) : Int)) then (
  (idx s_ x8).bind fun bi =>
  (jh bi f_).bind fun r_ =>
  bif r_ then (
   some (.done (.inr x8)))
  else (
   some (.next (w64 (x8 + 1)))))
 else (
  some (.done (.inl ())))
def xy (s_ : List Int) (f_ : Int) : Option Int :=
 (loop (fun s => zX s_ f_ s) 0).bind fun t2 =>
 match t2 with
 | .inl p => xV
 | .inr p => some p
def yP (s_ : List Int) (f_ : Int) : Option Bool :=
 (xy s_ f_).bind fun r_ =>
 some (decide (r_ ≥ 0))
def uT (w_ : List Int) (inputs : Int) : Option Int :=
 bif decide (inputs > 16) then (
  some 3)
 else (
  bif decide (((w_.length : Nat) : Int) > 256) then (
   some 3)
  else (
   bif decide (inputs < 1) then (
    some 1)
   else (
    (yP w_ inputs).bind fun r_ =>
    bif r_ then (
     some 1)
    else (
     some 0))))
def ko : Option Int :=
 some 0
def vm (l_ : List (List Int)) (inputs : Int) (gb : Int) : R0_ :=
 bif decide (gb < ((l_.length : Nat) : Int)) then (
  (idx l_ gb).bind fun av =>
  (uT av inputs).bind fun r_ =>
  bif r_ != 0 then (
   some (.done (.inr r_)))
  else (
   some (.next (w64 (gb + 1)))))
 else (
  some (.done (.inl ())))
def uX (l_ : List (List Int)) (inputs : Int) : Option Int :=
 bif decide (inputs > 16) then (
  some 3)
 else (
  bif decide (((l_.length : Nat) : Int) > 4096) then (
   some 3)
  else (
   bif decide (inputs < 1) then (
    some 1)
   else (
    (loop (fun s => vm l_ inputs s) 0).bind fun t2 =>
    match t2 with
    | .inl p => ko
    | .inr p => some p)))
def uB (x_ : Int) : Option Bool :=
 some (x_ != x_)
def wS (x_ : Int) (y_ : Int) : Option Int :=
 (uB x_).bind fun r_ =>
 (uB y_).bind fun ai =>
 bif r_ then (
  bif ai then (
   some 0)
  else (
   some (-1)))
 else (
  bif ai then (
   some 1)
  else (
   bif decide (x_ < y_) then (
    some (-1))
   else (
    bif decide (x_ > y_) then (
     some 1)
    else (
     some 0))))
def xj (s1 : List Int) (s2 : List Int) : Option Int :=
 bif decide (((s1.length : Nat) : Int) < ((s2.length : Nat) : Int)) then (
  some (-1))
 else (
  some 0)
def y9 (s1 : List Int) (s2 : List Int) (cq : Int) : R0_ :=
 bif decide (cq < ((s1.length : Nat) : Int)) then (
  (idx s1 cq).bind fun ii =>
  bif decide (cq ≥ ((s2.length : Nat) : Int)) then (
   some (.done (.inr 1)))
  else (
   (idx s2 cq).bind fun gl =>
   (wS ii gl).bind fun r_ =>
   bif r_ != 0 then (
    some (.done (.inr r_)))
   else (
    some (.next (w64 (cq + 1))))))
 else (
  some (.done (.inl ())))
def xc (s1 : List Int) (s2 : List Int) : Option Int :=
 (loop (fun s => y9 s1 s2 s) 0).bind fun t2 =>
 match t2 with
 | .inl p => xj s1 s2
 | .inr p => some p
def jp : Option Int :=
 some 0
def vV (vals : List Int) (x8 : Int) : R0_ :=
 bif decide (x8 < ((vals.length : Nat) : Int)) then (
  (idx vals x8).bind fun gm =>
  bif gm != 0 then (
   some (.done (.inr gm)))
  else (
   some (.next (w64 (x8 + 1)))))
 else (
  some (.done (.inl ())))
def kQ (vals : List Int) : Option Int :=
 (loop (fun s => vV vals s) 0).bind fun t2 =>
 match t2 with
 | .inl p => jp
 | .inr p => some p
def yz (a_ : List Int) (b_ : List Int) : Option Int :=
 (wS ((a_.length : Nat) : Int) ((b_.length : Nat) : Int)).bind fun r_ =>
 (xc a_ b_).bind fun ai =>
 (kQ ([r_, ai])).bind fun aj =>
 some aj
def qB : Option Bool :=
 some true
abbrev R1_ : Type := Option (LR Int (Unit ⊕ Bool))
def vn (l_ : List (List Int)) (i_ : Int) : R1_ :=
 bif decide (i_ < ((l_.length : Nat) : Int)) then (
  (idx l_ (w64 (i_ - 1))).bind fun av =>
  (idx l_ i_).bind fun em =>
  (yz av em).bind fun r_ =>
  bif decide (r_ ≥ 0) then (
   some (.done (.inr false)))
  else (
   some (.next (w64 (i_ + 1)))))
 else (
  some (.done (.inl ())))
def jA (l_ : List (List Int)) : Option Bool :=
 (loop (fun s => vn l_ s) 1).bind fun t2 =>
 match t2 with
 | .inl p => qB
 | .inr p => some p
def kn (n_ : Int) : Option Int :=
 some n_
def vh (l_ : List (List Int)) (cw : Int) (x7 : Int) : Option (LR (Int × Int) Int) :=
 bif decide (x7 < ((l_.length : Nat) : Int)) then (
  (idx l_ x7).bind fun av =>
  some (.next (w64 (cw + ((av.length : Nat) : Int)), w64 (x7 + 1))))
 else (
  some (.done cw))
def uW (l_ : List (List Int)) : Option Int :=
 (loop (fun s => vh l_ s.1 s.2) (0, 0)).bind fun t2 =>
 kn t2
def uZ (l_ : List (List Int)) (inputs : Int) : Option Int :=
 (uX l_ inputs).bind fun r_ =>
 bif r_ != 0 then (
  some r_)
 else (
  (jA l_).bind fun ai =>
  bif !ai then (
   some 1)
  else (
   (uW l_).bind fun aj =>
   bif decide (aj > 65536) then (
    some 3)
   else (
    some 0)))
def xu (m_ : z6) (l_ : List (List Int)) : Option Int :=
 (ww m_).bind fun r_ =>
 bif r_ != 0 then (
  some r_)
 else (
  (uZ l_ m_.Inputs).bind fun ai =>
  some ai)
def jK (m_ : z6) (bl : List (List Bool)) : Option z7 :=
 some (z7.mk (List.replicate ((m_.Rows.length : Nat) : Int).toNat false) bl)
def xY (m_ : z6) (a7 : List (List Bool)) (eu : Int) : Option (LR (List (List Bool) × Int) (List (List Bool))) :=
 bif decide (eu < ((m_.Rows.length : Nat) : Int)) then (
  gd ((0 : Int) ≤ m_.Inputs ∧ (m_.Inputs : Int) ≤ 4294967296) <|
  (idx a7 eu).bind fun gy =>
  some (.next ((a7.set eu.toNat (List.replicate m_.Inputs.toNat false)), w64 (eu + 1))))
 else (
  some (.done a7))
def ul (m_ : z6) : Option z7 :=
 gd ((0 : Int) ≤ ((m_.Rows.length : Nat) : Int) ∧ (((m_.Rows.length : Nat) : Int) : Int) ≤ 4294967296) <|
 gd ((0 : Int) ≤ ((m_.Rows.length : Nat) : Int) ∧ (((m_.Rows.length : Nat) : Int) : Int) ≤ 4294967296) <|
 (loop (fun s => xY m_ s.1 s.2) ((List.replicate ((m_.Rows.length : Nat) : Int).toNat ([] : List Bool)), 0)).bind fun t2 =>
 jK m_ t2
variable {σ : Type}
def wx (yy : σ → (Int × Int) → Option σ) (m_ : z6) (w_ : List Int) (ew : σ) (s_ : Int) (d0 : Int) : Option (LR (σ × Int × Int) σ) :=
 bif decide (d0 < ((w_.length : Nat) : Int)) then (
  (idx w_ d0).bind fun ff =>
  (idx m_.Rows s_).bind fun ax =>
  (idx ax ff).bind fun ar =>
  bif ar.To == (-1) then (
   some (.done ew))
  else (
   (yy ew (ar.To, w64 (d0 + 1))).bind fun gq =>
   some (.next (gq, ar.To, w64 (d0 + 1)))))
 else (
  some (.done ew))
def wy (m_ : z6) (w_ : List Int)  (yy : σ → (Int × Int) → Option σ) (sg : σ) : Option σ :=
 (yy sg (0, 0)).bind fun db =>
 (loop (fun s => wx yy m_ w_ s.1 s.2.1 s.2.2) (db, 0, 0)).bind fun t1 =>
 some t1
def vU (x0 : List Int) (s_ : Int) (k_ : Int) (y1 : z7) : Option z7 :=
 bif k_ == ((x0.length : Nat) : Int) then (
  (idx y1.States s_).bind fun cn =>
  some (z7.mk (y1.States.set s_.toNat true) y1.Edges))
 else (
  bif k_ == (w64 (((x0.length : Nat) : Int) - 1)) then (
   (idx y1.Edges s_).bind fun bm =>
   (idx x0 k_).bind fun fh =>
   (idx bm fh).bind fun ca =>
   some (z7.mk y1.States (y1.Edges.set s_.toNat (bm.set fh.toNat true))))
  else (
   some y1))
def kA (bq : List Bool) (bl : List (List Bool)) : Option z7 :=
 some (z7.mk bq bl)
abbrev R2_ : Type := Option (LR (List Bool × List (List Bool) × Int) ((List Bool × List (List Bool))))
def vq (m_ : z6) (l_ : List (List Int)) (bh : List Bool) (a7 : List (List Bool)) (gc : Int) : R2_ :=
 bif decide (gc < ((l_.length : Nat) : Int)) then (
  (idx l_ gc).bind fun av =>
  (wy m_ av (fun s x => vU av x.1 x.2 s) (z7.mk bh a7)).bind fun ai =>
  some (.next (ai.States, ai.Edges, w64 (gc + 1))))
 else (
  some (.done (bh, a7)))
def qm (m_ : z6) (l_ : List (List Int)) : Option z7 :=
 (ul m_).bind fun r_ =>
 (loop (fun s => vq m_ l_ s.1 s.2.1 s.2.2) (r_.States, r_.Edges, 0)).bind fun t2 =>
 kA t2.1 t2.2
def wm (is : Bool) : Option Bool :=
 some is
def v6 (x_ : Bool) (x1 : Unit) : Option Bool :=
 (wm x_).bind fun r_ =>
 some (!r_)
def xE : Option Int :=
 some (-1)
def zS (s_ : List Bool) (x8 : Int) : R0_ :=
 bif decide (x8 < ((s_.length : Nat) : Int)) then (
  (idx s_ x8).bind fun bi =>
  (v6 bi ()).bind fun r_ =>
  bif r_ then (
   some (.done (.inr x8)))
  else (
   some (.next (w64 (x8 + 1)))))
 else (
  some (.done (.inl ())))
def x6 (s_ : List Bool) (f_ : Unit) : Option Int :=
 (loop (fun s => zS s_ s) 0).bind fun t2 =>
 match t2 with
 | .inl p => xE
 | .inr p => some p
def yD (s_ : List Bool) (f_ : Unit) : Option Bool :=
 (x6 s_ ()).bind fun r_ =>
 some (decide (r_ ≥ 0))
def wR (l_ : List Bool) (is : Unit) : Option Bool :=
 (yD l_ ()).bind fun r_ =>
 some (!r_)
def yf (m_ : z6) (l_ : List (List Int)) : Option (Bool × Int) :=
 (xu m_ l_).bind fun r_ =>
 bif r_ != 0 then (
  some (false, r_))
 else (
  (qm m_ l_).bind fun ai =>
  (wR ai.States ()).bind fun aj =>
  some (aj, 0))
def yg (gr : Int → (List Bool) → z6 → Option (List Bool × z6)) (ax : List z8) (x1 : List Bool) (cm : Int) (cb : Int) (dc : List (List z8)) (co : Int) : Option (LR (List Bool × Int × Int × List (List z8) × Int) ((List Bool × z6))) :=
 bif decide (co < ((ax.length : Nat) : Int)) then (
  (idx ax co).bind fun ar =>
  (gr ar.To x1 (z6.mk cm cb dc)).bind fun r_ =>
  some (.next (r_.1, r_.2.Inputs, r_.2.Outputs, r_.2.Rows, w64 (co + 1))))
 else (
  some (.done (x1, (z6.mk cm cb dc))))
def xe (gr : Int → (List Bool) → z6 → Option (List Bool × z6)) (s_ : Int) (y0 : List Bool) (y1 : z6) : Option (List Bool × z6) :=
 bif s_ == (-1) then (
  some (y0, y1))
 else (
  (idx y0 s_).bind fun ix =>
  bif ix then (
   some (y0, y1))
  else (
   (idx y0 s_).bind fun iy =>
   (idx y1.Rows s_).bind fun ax =>
   (loop (fun s => yg gr ax s.1 s.2.1 s.2.2.1 s.2.2.2.1 s.2.2.2.2) ((y0.set s_.toNat true), y1.Inputs, y1.Outputs, y1.Rows, 0)).bind fun t1 =>
   some t1))
def zV (fu : Nat) : Int → (List Bool) → z6 → Option (List Bool × z6) := Nat.rec (motive := fun _ => Int → (List Bool) → z6 → Option (List Bool × z6)) (fun _ _ _ => none) (fun _ ih => xe ih) fu
def wv : Option Int :=
 some (-1)
def y8 (s_ : List Bool) (v_ : Bool) (x8 : Int) : R0_ :=
 bif decide (x8 < ((s_.length : Nat) : Int)) then (
  (idx s_ x8).bind fun bi =>
  bif v_ == bi then (
   some (.done (.inr x8)))
  else (
   some (.next (w64 (x8 + 1)))))
 else (
  some (.done (.inl ())))
def w8 (s_ : List Bool) (v_ : Bool) : Option Int :=
 (loop (fun s => y8 s_ v_ s) 0).bind fun t2 =>
 match t2 with
 | .inl p => wv
 | .inr p => some p
def yx (s_ : List Bool) (v_ : Bool) : Option Bool :=
 (w8 s_ v_).bind fun r_ =>
 some (decide (r_ ≥ 0))
def wk (m_ : z6) : Option (Bool × Int) :=
 (ww m_).bind fun r_ =>
 bif r_ != 0 then (
  some (false, r_))
 else (
  gd ((0 : Int) ≤ ((m_.Rows.length : Nat) : Int) ∧ (((m_.Rows.length : Nat) : Int) : Int) ≤ 4294967296) <|
  (zV JE 0 (List.replicate ((m_.Rows.length : Nat) : Int).toNat false) m_).bind fun ai =>
  (yx ai.1 false).bind fun aj =>
  some (!aj, 0))
def qA (m_ : z6) (from_ : Int) : Option (z6 × Int) :=
 some (m_, from_)
def yd (cg : Int) (bf : List Bool) (ee : List zg) : Option (LR (List Bool × List zg × Int) ((σ × List Bool × List zg))) :=
 some (.next (bf, ee, w64 (cg + 1)))
def xg (au : zg) (yr : σ × Bool) (ax : List z8) (bp : List Bool) (bj : List zg) (cg : Int) : Option (LR (List Bool × List zg × Int) ((σ × List Bool × List zg))) :=
 bif decide (cg < ((ax.length : Nat) : Int)) then (
  (idx ax cg).bind fun ar =>
  bif ar.To != (-1) then (
   (idx bp ar.To).bind fun gt =>
   bif !gt then (
    (idx bp ar.To).bind fun il =>
    gd (bj.length + [(zg.mk ar.To au.state_ cg)].length ≤ 4294967296) <|
    yd cg (bp.set ar.To.toNat true) (bj ++ [(zg.mk ar.To au.state_ cg)]))
   else (
    yd cg bp bj))
  else (
   yd cg bp bj))
 else (
  some (.done (yr.1, bp, bj)))
def xS (x0 : z6) (yy : σ → zg → Option (σ × Bool)) (db : σ) (cu : List Bool) (bc : List zg) : Option (LR (σ × List Bool × List zg) σ) :=
 bif decide (((bc.length : Nat) : Int) > 0) then (
  (idx bc 0).bind fun au =>
  gd ((0 : Int) ≤ 1 ∧ (1 : Int) ≤ ((bc.length : Nat) : Int)) <|
  (yy db au).bind fun yr =>
  bif !yr.2 then (
   some (.done yr.1))
  else (
   (idx x0.Rows au.state_).bind fun ax =>
   (loop (fun s => xg au yr ax s.1 s.2.1 s.2.2) (cu, (bc.drop (1 : Int).toNat), 0)).bind fun t2 =>
   some (.next t2)))
 else (
  some (.done db))
def v8 (x0 : z6) (x1 : Int) {σ : Type} (yy : σ → zg → Option (σ × Bool)) (sg : σ) : Option σ :=
 gd ((0 : Int) ≤ ((x0.Rows.length : Nat) : Int) ∧ (((x0.Rows.length : Nat) : Int) : Int) ≤ 4294967296) <|
 (idx (List.replicate ((x0.Rows.length : Nat) : Int).toNat false) x1).bind fun i6 =>
 (loop (fun s => xS x0 yy s.1 s.2.1 s.2.2) (sg, ((List.replicate ((x0.Rows.length : Nat) : Int).toNat false).set x1.toNat true), ([(zg.mk x1 (-1) (-1))] : List zg))).bind fun t1 =>
 some t1
def yk (s_ : List Int) : Option (List Int) :=
 gd (([] : List Int).length + s_.length ≤ 4294967296) <|
 some s_
def yG (s_ : List Int) : Option (List Int) :=
 gd ((0 : Int) ≤ 0 ∧ (0 : Int) ≤ ((s_.length : Nat) : Int) ∧ (((s_.length : Nat) : Int) : Int) ≤ ((s_.length : Nat) : Int) ∧ (((s_.length : Nat) : Int) : Int) ≤ ((s_.length : Nat) : Int)) <|
 some ((s_.drop 0).take (((s_.length : Nat) : Int).toNat - 0))
abbrev R3_ : Type := Option (List (List Int) × List Bool)
def qz (l_ : List (List Int)) (is : List Bool) : R3_ :=
 some (l_, is)
def xi (de : List (List Int)) (dp : List Bool) (cj : zg) : Option (LR (List (List Int) × List Bool) Empty) :=
 (idx dp cj.state_).bind fun iz =>
 bif cj.from_ != (-1) then (
  (idx de cj.from_).bind fun av =>
  (yk av).bind fun ai =>
  gd (ai.length + [cj.input_].length ≤ 4294967296) <|
  (yG (ai ++ [cj.input_])).bind fun aj =>
  (idx de cj.state_).bind fun em =>
  some (.next ((de.set cj.state_.toNat aj), (dp.set cj.state_.toNat true))))
 else (
  some (.next (de, (dp.set cj.state_.toNat true))))
def jy (m_ : z6) (from_ : Int) : R3_ :=
 gd ((0 : Int) ≤ ((m_.Rows.length : Nat) : Int) ∧ (((m_.Rows.length : Nat) : Int) : Int) ≤ 4294967296) <|
 gd ((0 : Int) ≤ ((m_.Rows.length : Nat) : Int) ∧ (((m_.Rows.length : Nat) : Int) : Int) ≤ 4294967296) <|
 (qA m_ from_).bind fun r_ =>
 (v8 r_.1 r_.2 (yOf (fun s x => xi s.1 s.2 x)) (.next ((List.replicate ((m_.Rows.length : Nat) : Int).toNat ([] : List Int)), (List.replicate ((m_.Rows.length : Nat) : Int).toNat false)))).bind fun t2 =>
 match t2 with
 | .next (de, dp) => (
  qz de dp)
 | .done z => nomatch z
def qJ (m_ : z6) : Option (List (List Int) × List Bool × Int) :=
 (ww m_).bind fun r_ =>
 bif r_ != 0 then (
  some (([] : List (List Int)), ([] : List Bool), r_))
 else (
  (jy m_ 0).bind fun ai =>
  some (ai.1, ai.2, 0))
abbrev R4_ : Type := Option (List (List Int))
def wi (s_ : List (List Int)) : R4_ :=
 gd (([] : List (List Int)).length + s_.length ≤ 4294967296) <|
 some s_
def vj (a_ : List Int) (b_ : List Int) : Option Bool :=
 (yz a_ b_).bind fun r_ =>
 some (r_ == 0)
def xr (s_ : List (List Int)) : R4_ :=
 some s_
abbrev R5_ : Type := Option (LR Int (Unit ⊕ List (List Int)))
def yq (k_ : Int) : R5_ :=
 some (.next (w64 (k_ + 1)))
def zQ (bu : List (List Int)) (bw : Int) : R5_ :=
 gd ((0 : Int) ≤ bw ∧ (bw : Int) ≤ ((bu.length : Nat) : Int)) <|
 gd ((0 : Int) ≤ bw ∧ (bw : Int) ≤ ((bu.length : Nat) : Int)) <|
 gd ((0 : Int) ≤ bw ∧ (bw : Int) ≤ (((bu.take bw.toNat ++ List.replicate (bu.length - bw.toNat) []).length : Nat) : Int)) <|
 some (.done (.inr ((bu.take bw.toNat ++ List.replicate (bu.length - bw.toNat) []).take bw.toNat)))
abbrev R6_ : Type := Option (LR (List (List Int) × Int × Int) ((List (List Int) × Int)))
def zP (k2 : Int) (gu : List (List Int)) (gv : Int) : R6_ :=
 some (.next (gu, gv, w64 (k2 + 1)))
def zO (k_ : Int) (cr : List (List Int)) (dw : Int) (k2 : Int) : R6_ :=
 bif decide (k2 < ((cr.length - k_.toNat : Nat) : Int)) then (
  gd ((0 : Int) ≤ k_ ∧ (0 : Int) ≤ k2) <|
  (idx cr (k_ + k2)).bind fun fw =>
  gd ((0 : Int) ≤ k_ ∧ (0 : Int) ≤ w64 (k2 - 1)) <|
  (idx cr (k_ + (w64 (k2 - 1)))).bind fun fx =>
  (vj fw fx).bind fun ai =>
  bif !ai then (
   gd ((0 : Int) ≤ k_ ∧ (0 : Int) ≤ k2) <|
   (idx cr (k_ + k2)).bind fun fy =>
   (idx cr dw).bind fun iv =>
   zP k2 (cr.set dw.toNat fy) (w64 (dw + 1)))
  else (
   zP k2 cr dw))
 else (
  some (.done (cr, dw)))
def y6 (s_ : List (List Int)) (k_ : Int) : R5_ :=
 bif decide (k_ < ((s_.length : Nat) : Int)) then (
  (idx s_ k_).bind fun bi =>
  (idx s_ (w64 (k_ - 1))).bind fun fz =>
  (vj bi fz).bind fun r_ =>
  bif r_ then (
   gd ((0 : Int) ≤ k_ ∧ (k_ : Int) ≤ ((s_.length : Nat) : Int)) <|
   (loop (fun s => zO k_ s.1 s.2.1 s.2.2) (s_, k_, 1)).bind fun t5 =>
   zQ t5.1 t5.2)
  else (
   yq k_))
 else (
  some (.done (.inl ())))
def ye (s_ : List (List Int)) (eq : Unit) : R4_ :=
 bif decide (((s_.length : Nat) : Int) < 2) then (
  some s_)
 else (
  (loop (fun s => y6 s_ s) 1).bind fun t2 =>
  match t2 with
  | .inl p => xr s_
  | .inr p => some p)
def yR (s_ : List (List Int)) : R4_ :=
 some s_
def yQ (s_ : List Int) : Option (List Int) :=
 some s_
abbrev R7_ : Type := Option (List (List Int) × Int)
def up (out : List (List Int × Bool)) : R7_ :=
 gd (∀ q ∈ out, q.2 = true) <|
 some ((out.map (·.1)), 0)
def xl (aj : List (List Int)) (aw : List (List Int × Bool)) (co : Int) : Option (LR ((List (List Int × Bool)) × Int) ((List (List Int × Bool)))) :=
 bif decide (co < ((aj.length - (0 : Int).toNat : Nat) : Int)) then (
  gd ((0 : Int) ≤ 0 ∧ (0 : Int) ≤ co) <|
  (idx aw (0 + co)).bind fun ep =>
  gd (ep.2 = false) <|
  (yk ep.1).bind fun ak =>
  (yQ ak).bind fun am =>
  (idx aw co).bind fun fj =>
  gd (fj.2 = false) <|
  some (.next ((aw.set co.toNat (am, true)), w64 (co + 1))))
 else (
  some (.done aw))
def yW (l_ : List (List Int)) : R7_ :=
 (wi l_).bind fun r_ =>
 (z30 (fun x y => yz x y) r_).bind fun sorted =>
 (ye sorted ()).bind fun ai =>
 (yR ai).bind fun aj =>
 bif decide (((aj.length : Nat) : Int) > 4096) then (
  some (([] : List (List Int)), 3))
 else (
  (uW aj).bind fun al =>
  bif decide (al > 65536) then (
   some (([] : List (List Int)), 3))
  else (
   (loop (fun s => xl aj s.1 s.2) ((aj.map fun q => (q, false)), 0)).bind fun t2 =>
   up t2))
def Yu (l_ : List (List Int)) (inputs : Int) : R7_ :=
 (uX l_ inputs).bind fun r_ =>
 bif r_ != 0 then (
  some (([] : List (List Int)), r_))
 else (
  (yW l_).bind fun ai =>
  some (ai.1, ai.2))
def xk (m_ : z6) : R7_ :=
 (wk m_).bind fun r_ =>
 bif r_.2 != 0 then (
  some (([] : List (List Int)), r_.2))
 else (
  bif !r_.1 then (
   some (([] : List (List Int)), 11))
  else (
   (qJ m_).bind fun ai =>
   bif ai.2.2 != 0 then (
    some (([] : List (List Int)), ai.2.2))
   else (
    (Yu ai.1 m_.Inputs).bind fun aj =>
    some (aj.1, aj.2))))
abbrev R8_ : Type := Option (LR (List (List Int) × List (List Int) × Int × Int) ((List (List Int) × Int)))
def kg (k_ : Int) (cx : List (List Int)) (eg : List (List Int)) (cw : Int) (im : Int) (io : Bool) (ip : Bool) : R8_ :=
 some (.next (cx, eg, cw, w64 (k_ + 1)))
def ke (k_ : Int) (aw : List (List Int)) (a8 : Int) (br : Bool) (next : List (List Int)) : R8_ :=
 kg k_ aw next a8 a8 (decide (a8 > 65536)) br
abbrev R9_ : Type := Option (LR (List (List Int) × Int) (List (List Int)))
def kc (dg : Int) (fk : List (List Int)) : R9_ :=
 some (.next (fk, w64 (dg + 1)))
def we (inputs : Int) (ce : List Int) (dr : List (List Int)) (dh : Int) : R9_ :=
 bif decide (dh < inputs) then (
  (yG ce).bind fun ai =>
  gd (ai.length + [dh].length ≤ 4294967296) <|
  gd (dr.length + [(ai ++ [dh])].length ≤ 4294967296) <|
  some (.next ((dr ++ [(ai ++ [dh])]), w64 (dh + 1))))
 else (
  some (.done dr))
def wf (inputs : Int) (aq : List (List Int)) (dx : List (List Int)) (dg : Int) : R9_ :=
 bif decide (dg < ((aq.length : Nat) : Int)) then (
  (idx aq dg).bind fun ce =>
  (loop (fun s => we inputs ce s.1 s.2) (dx, 0)).bind fun t8 =>
  kc dg t8)
 else (
  some (.done dx))
def uh (inputs : Int) (to : Int) (aq : List (List Int)) (k_ : Int) (aw : List (List Int)) (a8 : Int) (br : Bool) : R8_ :=
 bif k_ == to then (
  (yW aw).bind fun r_ =>
  some (.done (r_.1, r_.2)))
 else (
  (loop (fun s => wf inputs aq s.1 s.2) (([] : List (List Int)), 0)).bind fun t6 =>
  ke k_ aw a8 br t6)
def ui (inputs : Int) (to : Int) (aq : List (List Int)) (k_ : Int) (aw : List (List Int)) (a8 : Int) : R8_ :=
 bif decide (((aw.length : Nat) : Int) > 4096) then (
  some (.done (([] : List (List Int)), 3)))
 else (
  bif decide (a8 > 65536) then (
   some (.done (([] : List (List Int)), 3)))
  else (
   bif decide (k_ < to) then (
    bif decide ((w64 (((aq.length : Nat) : Int) * inputs)) > 4096) then (
     some (.done (([] : List (List Int)), 3)))
    else (
     uh inputs to aq k_ aw a8 (decide ((w64 (((aq.length : Nat) : Int) * inputs)) > 4096))))
   else (
    uh inputs to aq k_ aw a8 false)))
def wY (inputs : Int) (from_ : Int) (to : Int) (out : List (List Int)) (aq : List (List Int)) (n_ : Int) (k_ : Int) : R8_ :=
 bif decide (k_ ≥ from_) then (
  gd (out.length + aq.length ≤ 4294967296) <|
  ui inputs to aq k_ (out ++ aq) (w64 (n_ + (w64 (k_ * ((aq.length : Nat) : Int))))))
 else (
  ui inputs to aq k_ out n_)
def uq (inputs : Int) (from_ : Int) (to : Int) : R7_ :=
 bif decide (inputs > 16) then (
  some (([] : List (List Int)), 3))
 else (
  bif decide (inputs < 1) then (
   some (([] : List (List Int)), 1))
  else (
   bif decide (to < 0) then (
    some (([] : List (List Int)), 1))
   else (
    bif decide (to > 256) then (
     some (([] : List (List Int)), 3))
    else (
     (loop (fun s => wY inputs from_ to s.1 s.2.1 s.2.2.1 s.2.2.2) (([] : List (List Int)), ([[]] : List (List Int)), 0, 0)).bind fun t1 =>
     some t1))))
def uY (inputs : Int) (k_ : Int) : R7_ :=
 (uq inputs 0 k_).bind fun r_ =>
 some (r_.1, r_.2)
def jk : Option Int :=
 some 0
def vO (inputs : Int) (l_ : List (List (List Int))) (ge : Int) : R0_ :=
 bif decide (ge < ((l_.length : Nat) : Int)) then (
  (idx l_ ge).bind fun av =>
  (uZ av inputs).bind fun r_ =>
  bif r_ != 0 then (
   some (.done (.inr r_)))
  else (
   some (.next (w64 (ge + 1)))))
 else (
  some (.done (.inl ())))
def kK (inputs : Int) (l_ : List (List (List Int))) : Option Int :=
 (loop (fun s => vO inputs l_ s) 0).bind fun t2 =>
 match t2 with
 | .inl p => jk
 | .inr p => some p
def Ya (b_ : List Int) : Option (List UInt8) :=
 some (u8s b_)
def wX (w_ : List Int) (fl : List Int) (cq : Int) : Option (LR (List Int × Int) (List Int)) :=
 bif decide (cq < ((w_.length : Nat) : Int)) then (
  (idx w_ cq).bind fun ff =>
  (idx fl cq).bind fun bo =>
  some (.next ((fl.set cq.toNat (IntKind.u8.wrap (ff))), w64 (cq + 1))))
 else (
  some (.done fl))
def Yb (w_ : List Int) : Option (List UInt8) :=
 gd ((0 : Int) ≤ ((w_.length : Nat) : Int) ∧ (((w_.length : Nat) : Int) : Int) ≤ 4294967296) <|
 (loop (fun s => wX w_ s.1 s.2) ((List.replicate ((w_.length : Nat) : Int).toNat (0 : Int)), 0)).bind fun t2 =>
 Ya t2
def vH (out : List (List Int)) : R7_ :=
 (yW out).bind fun ai =>
 some (ai.1, ai.2)
abbrev zce : Type := Option (LR ((List ((List UInt8) × Bool)) × Int × List (List Int) × Int) (List (List Int) ⊕ (List (List Int) × Int)))
def vG (ct : Int) (bp : List ((List UInt8) × Bool)) (cw : Int) (aw : List (List Int)) : zce :=
 some (.next (bp, cw, aw, w64 (ct + 1)))
abbrev zcd : Type := Option (LR ((List ((List UInt8) × Bool)) × Int × List (List Int) × Int) (((List ((List UInt8) × Bool)) × Int × List (List Int)) ⊕ (List (List Int) × Int)))
def wM (du : Int) (fm : List ((List UInt8) × Bool)) (gh : Int) (fg : List (List Int)) : zcd :=
 bif decide (((fg.length : Nat) : Int) > 4096) then (
  some (.done (.inr (([] : List (List Int)), 3))))
 else (
  bif decide (gh > 65536) then (
   some (.done (.inr (([] : List (List Int)), 3))))
  else (
   some (.next (fm, gh, fg, w64 (du + 1)))))
def wL (b_ : List (List Int)) (bt : List Int) (bf : List ((List UInt8) × Bool)) (a8 : Int) (dn : List (List Int)) (du : Int) : zcd :=
 bif decide (du < ((b_.length : Nat) : Int)) then (
  (idx b_ du).bind fun bo =>
  (yG bt).bind fun aj =>
  gd (aj.length + bo.length ≤ 4294967296) <|
  bif decide ((((aj ++ bo).length : Nat) : Int) > 256) then (
   some (.done (.inr (([] : List (List Int)), 3))))
  else (
   (Yb (aj ++ bo)).bind fun al =>
   (some ((QA bf al).getD false)).bind fun val =>
   bif !val then (
    gd (dn.length + [(aj ++ bo)].length ≤ 4294967296) <|
    wM du (z1D bf al true) (w64 (a8 + (((aj ++ bo).length : Nat) : Int))) (dn ++ [(aj ++ bo)]))
   else (
    wM du bf a8 dn)))
 else (
  some (.done (.inl (bf, a8, dn))))
def vF (a_ : List (List Int)) (b_ : List (List Int)) (cu : List ((List UInt8) × Bool)) (n_ : Int) (cx : List (List Int)) (ct : Int) : zce :=
 bif decide (ct < ((a_.length : Nat) : Int)) then (
  (idx a_ ct).bind fun bt =>
  (loop (fun s => wL b_ bt s.1 s.2.1 s.2.2.1 s.2.2.2) (cu, n_, cx, 0)).bind fun t4 =>
  match t4 with
  | .inl p => vG ct p.1 p.2.1 p.2.2
  | .inr p => some (.done (.inr p)))
 else (
  some (.done (.inl cx)))
def uj (a_ : List (List Int)) (b_ : List (List Int)) (inputs : Int) : R7_ :=
 (kK inputs ([a_, b_])).bind fun r_ =>
 bif r_ != 0 then (
  some (([] : List (List Int)), r_))
 else (
  (loop (fun s => vF a_ b_ s.1 s.2.1 s.2.2.1 s.2.2.2) (([] : List ((List UInt8) × Bool)), 0, ([] : List (List Int)), 0)).bind fun t2 =>
  match t2 with
  | .inl p => vH p
  | .inr p => some p)
def zZ (m_ : z6) (k_ : Int) : R7_ :=
 (xk m_).bind fun r_ =>
 bif r_.2 != 0 then (
  some (([] : List (List Int)), r_.2))
 else (
  bif decide (k_ < 0) then (
   some (([] : List (List Int)), 1))
  else (
   (uY m_.Inputs k_).bind fun ai =>
   bif ai.2 != 0 then (
    some (([] : List (List Int)), ai.2))
   else (
    (uj r_.1 ai.1 m_.Inputs).bind fun aj =>
    some (aj.1, aj.2))))
def xA (m_ : z6) : R7_ :=
 (zZ m_ 1).bind fun r_ =>
 some (r_.1, r_.2)
def yI (is : Bool) : Option Bool :=
 some is
def w9 (x_ : Bool) (x1 : Unit) : Option Bool :=
 (yI x_).bind fun r_ =>
 some (!r_)
def yZ : Option Int :=
 some (-1)
def zK (s_ : List Bool) (x8 : Int) : R0_ :=
 bif decide (x8 < ((s_.length : Nat) : Int)) then (
  (idx s_ x8).bind fun bi =>
  (w9 bi ()).bind fun r_ =>
  bif r_ then (
   some (.done (.inr x8)))
  else (
   some (.next (w64 (x8 + 1)))))
 else (
  some (.done (.inl ())))
def yC (s_ : List Bool) (f_ : Unit) : Option Int :=
 (loop (fun s => zK s_ s) 0).bind fun t2 =>
 match t2 with
 | .inl p => yZ
 | .inr p => some p
def yc (s_ : List Bool) (f_ : Unit) : Option Bool :=
 (yC s_ ()).bind fun r_ =>
 some (decide (r_ ≥ 0))
def xJ (l_ : List Bool) (is : Unit) : Option Bool :=
 (yc l_ ()).bind fun r_ =>
 some (!r_)
def x9 (r_ : List Bool) : Option Bool :=
 (xJ r_ ()).bind fun ai =>
 some ai
def wI (x_ : List Bool) (x1 : Unit) : Option Bool :=
 (x9 x_).bind fun r_ =>
 some (!r_)
def xq : Option Int :=
 some (-1)
def zN (s_ : List (List Bool)) (x8 : Int) : R0_ :=
 bif decide (x8 < ((s_.length : Nat) : Int)) then (
  (idx s_ x8).bind fun bi =>
  (wI bi ()).bind fun r_ =>
  bif r_ then (
   some (.done (.inr x8)))
  else (
   some (.next (w64 (x8 + 1)))))
 else (
  some (.done (.inl ())))
def yN (s_ : List (List Bool)) (f_ : Unit) : Option Int :=
 (loop (fun s => zN s_ s) 0).bind fun t2 =>
 match t2 with
 | .inl p => xq
 | .inr p => some p
def yp (s_ : List (List Bool)) (f_ : Unit) : Option Bool :=
 (yN s_ ()).bind fun r_ =>
 some (decide (r_ ≥ 0))
def wl (l_ : List (List Bool)) (is : Unit) : Option Bool :=
 (yp l_ ()).bind fun r_ =>
 some (!r_)
def zR (m_ : z6) (l_ : List (List Int)) : Option (Bool × Int) :=
 (xu m_ l_).bind fun r_ =>
 bif r_ != 0 then (
  some (false, r_))
 else (
  (qm m_ l_).bind fun ai =>
  (wl ai.Edges ()).bind fun aj =>
  some (aj, 0))
def xF (x1 : List Int) (x2 : z6) (s_ : Int) (k_ : Int) (y0 : z7) : Option z7 :=
 (idx y0.States s_).bind fun cn =>
 bif decide (k_ < ((x1.length : Nat) : Int)) then (
  (idx x2.Rows s_).bind fun ax =>
  (idx x1 k_).bind fun fh =>
  (idx ax fh).bind fun ar =>
  bif ar.To != (-1) then (
   (idx y0.Edges s_).bind fun bm =>
   (idx x1 k_).bind fun fq =>
   (idx bm fq).bind fun ca =>
   some (z7.mk (y0.States.set s_.toNat true) (y0.Edges.set s_.toNat (bm.set fq.toNat true))))
  else (
   some (z7.mk (y0.States.set s_.toNat true) y0.Edges)))
 else (
  some (z7.mk (y0.States.set s_.toNat true) y0.Edges))
def qn (bq : List Bool) (bl : List (List Bool)) : Option (z7 × Int) :=
 some ((z7.mk bq bl), 0)
def xR (m_ : z6) (l_ : List (List Int)) (bh : List Bool) (a7 : List (List Bool)) (gf : Int) : R2_ :=
 bif decide (gf < ((l_.length : Nat) : Int)) then (
  (idx l_ gf).bind fun av =>
  (wy m_ av (fun s x => xF av m_ x.1 x.2 s) (z7.mk bh a7)).bind fun aj =>
  some (.next (aj.States, aj.Edges, w64 (gf + 1))))
 else (
  some (.done (bh, a7)))
def wz (m_ : z6) (l_ : List (List Int)) : Option (z7 × Int) :=
 (xu m_ l_).bind fun r_ =>
 bif r_ != 0 then (
  some ((z7.mk [] []), r_))
 else (
  (ul m_).bind fun ai =>
  (loop (fun s => xR m_ l_ s.1 s.2.1 s.2.2) (ai.States, ai.Edges, 0)).bind fun t2 =>
  qn t2.1 t2.2)
def Zw : Option z6 :=
 some (z6.mk 2 2 ([[(z8.mk 1 0), (z8.mk 0 0)], [(z8.mk 2 1), (z8.mk (-1) (-1))], [(z8.mk 0 0), (z8.mk 2 1)]]))
def qg (l_ : List (List Int)) : R4_ :=
 some l_
def j7 : Option Int :=
 some 0
def j6 (a_ : List Int) (b_ : List Int) (i_ : Int) : R0_ :=
 bif decide (i_ < ((a_.length : Nat) : Int)) then (
  (idx a_ i_).bind fun bt =>
  (idx b_ i_).bind fun bo =>
  bif decide (bt < bo) then (
   some (.done (.inr (-1))))
  else (
   (idx a_ i_).bind fun ij =>
   (idx b_ i_).bind fun ik =>
   bif decide (ij > ik) then (
    some (.done (.inr 1)))
   else (
    some (.next (w64 (i_ + 1))))))
 else (
  some (.done (.inl ())))
def Zp (a_ : List Int) (b_ : List Int) : Option Int :=
 bif ((a_.length : Nat) : Int) != ((b_.length : Nat) : Int) then (
  bif decide (((a_.length : Nat) : Int) < ((b_.length : Nat) : Int)) then (
   some (-1))
  else (
   some 1))
 else (
  (loop (fun s => j6 a_ b_ s) 0).bind fun t2 =>
  match t2 with
  | .inl p => j7
  | .inr p => some p)
def Zr : Option Bool :=
 some true
def Zq (a_ : List (List Int)) (b_ : List (List Int)) (i_ : Int) : R1_ :=
 bif decide (i_ < ((a_.length : Nat) : Int)) then (
  (idx a_ i_).bind fun bt =>
  (idx b_ i_).bind fun bo =>
  (Zp bt bo).bind fun r_ =>
  bif r_ != 0 then (
   some (.done (.inr false)))
  else (
   some (.next (w64 (i_ + 1)))))
 else (
  some (.done (.inl ())))
def Wj (a_ : List (List Int)) (b_ : List (List Int)) : Option Bool :=
 bif ((a_.length : Nat) : Int) != ((b_.length : Nat) : Int) then (
  some false)
 else (
  (loop (fun s => Zq a_ b_ s) 0).bind fun t2 =>
  match t2 with
  | .inl p => Zr
  | .inr p => some p)
def kP (a_ : List (List Int)) (b_ : List (List Int)) : Option Bool :=
 (Wj a_ b_).bind fun r_ =>
 bif r_ then (
  some (((a_.length : Nat) : Int) == ((a_.length : Nat) : Int)))
 else (
  some false)
def Zn : Option Bool :=
 some true
def Zm (s_ : Int) : R1_ :=
 some (.next (w64 (s_ + 1)))
def Zk (a_ : z7) (b_ : z7) (s_ : Int) (i_ : Int) : R1_ :=
 (idx a_.Edges s_).bind fun ft =>
 bif decide (i_ < ((ft.length : Nat) : Int)) then (
  (idx a_.Edges s_).bind fun gi =>
  (idx gi i_).bind fun ca =>
  (idx b_.Edges s_).bind fun gj =>
  (idx gj i_).bind fun dj =>
  bif !(ca == dj) then (
   some (.done (.inr false)))
  else (
   some (.next (w64 (i_ + 1)))))
 else (
  some (.done (.inl ())))
def Zl (a_ : z7) (b_ : z7) (s_ : Int) : R1_ :=
 bif decide (s_ < ((a_.Edges.length : Nat) : Int)) then (
  (idx a_.Edges s_).bind fun bm =>
  (idx b_.Edges s_).bind fun dt =>
  bif ((bm.length : Nat) : Int) != ((dt.length : Nat) : Int) then (
   some (.done (.inr false)))
  else (
   (loop (fun s => Zk a_ b_ s_ s) 0).bind fun t5 =>
   match t5 with
   | .inl p => Zm s_
   | .inr p => some (.done (.inr p))))
 else (
  some (.done (.inl ())))
def Zo (a_ : z7) (b_ : z7) : Option Bool :=
 (loop (fun s => Zl a_ b_ s) 0).bind fun t3 =>
 match t3 with
 | .inl p => Zn
 | .inr p => some p
def Zj (a_ : z7) (b_ : z7) (bu : Int) : R1_ :=
 bif decide (bu < ((a_.States.length : Nat) : Int)) then (
  (idx a_.States bu).bind fun cn =>
  (idx b_.States bu).bind fun dv =>
  bif !(cn == dv) then (
   some (.done (.inr false)))
  else (
   some (.next (w64 (bu + 1)))))
 else (
  some (.done (.inl ())))
def Wi (a_ : z7) (b_ : z7) : Option Bool :=
 bif ((a_.States.length : Nat) : Int) != ((b_.States.length : Nat) : Int) then (
  some false)
 else (
  bif ((a_.Edges.length : Nat) : Int) != ((b_.Edges.length : Nat) : Int) then (
   some false)
  else (
   (loop (fun s => Zj a_ b_ s) 0).bind fun t6 =>
   match t6 with
   | .inl p => Zo a_ b_
   | .inr p => some p))
def Zv : Option Bool :=
 (Zw).bind fun r_ =>
 (qg ([[], [0], [1], [0, 0], [0, 1], [0, 0, 0], [0, 0, 1]])).bind fun ai =>
 (qg ([[], [0], [0, 0]])).bind fun aj =>
 (xk r_).bind fun al =>
 (xA r_).bind fun ak =>
 (zZ r_ 0).bind fun am =>
 (zZ r_ (-1)).bind fun cd =>
 (qg ([[1], [0, 1, 0]])).bind fun d8 =>
 (wz r_ d8).bind fun ez =>
 bif al.2 != 0 then (
  some false)
 else (
  bif ak.2 != 0 then (
   some false)
  else (
   bif am.2 != 0 then (
    some false)
   else (
    bif cd.2 != 1 then (
     some false)
    else (
     bif ez.2 != 0 then (
      some false)
     else (
      (kP al.1 aj).bind fun iq =>
      bif !iq then (
       some false)
      else (
       (kP ak.1 ai).bind fun gz =>
       bif !gz then (
        some false)
       else (
        (kP am.1 aj).bind fun ia =>
        bif !ia then (
         some false)
        else (
         (Wi ez.1 (z7.mk ([true, true, false]) ([[true, true], [false, false], [false, false]]))).bind fun ir =>
         bif !ir then (
          some false)
         else (
          (yf r_ aj).bind fun ib =>
          (qg ([[0, 0]])).bind fun gn =>
          (yf r_ gn).bind fun ic =>
          (zR r_ ai).bind fun ie =>
          (qg ([[0], [1]])).bind fun gp =>
          (zR r_ gp).bind fun ig =>
          bif ib.2 == 0 then (
           bif ic.2 == 0 then (
            bif ie.2 == 0 then (
             bif ig.2 == 0 then (
              bif ib.1 then (
               bif !ic.1 then (
                bif ie.1 then (
                 some (!ig.1))
                else (
                 some false))
               else (
                some false))
              else (
               some false))
             else (
              some false))
            else (
             some false))
           else (
            some false))
          else (
           some false))))))))))
def xI (ah : List (List z8)) : Option Bool :=
 (xk (z6.mk 16 1 ah)).bind fun r_ =>
 (xA (z6.mk 16 1 ah)).bind fun ai =>
 (zZ (z6.mk 16 1 ah) 2).bind fun aj =>
 (zZ (z6.mk 16 1 ah) 257).bind fun al =>
 (zR (z6.mk 16 1 ah) ai.1).bind fun ak =>
 bif ((r_.1.length : Nat) : Int) != 64 then (
  some false)
 else (
  gd ((0 : Int) ≤ 1 ∧ (1 : Int) ≤ ((r_.1.length : Nat) : Int) ∧ (((r_.1.length : Nat) : Int) : Int) ≤ ((r_.1.length : Nat) : Int)) <|
  (yf (z6.mk 16 1 ah) (r_.1.drop (1 : Int).toNat)).bind fun am =>
  bif r_.2 != 0 then (
   some false)
  else (
   bif ai.2 != 0 then (
    some false)
   else (
    bif aj.2 != 3 then (
     some false)
    else (
     bif al.2 != 3 then (
      some false)
     else (
      bif ak.2 != 0 then (
       some false)
      else (
       bif am.2 != 0 then (
        some false)
       else (
        bif ((ai.1.length : Nat) : Int) != 1025 then (
         some false)
        else (
         bif !ak.1 then (
          some false)
         else (
          bif am.1 then (
           some false)
          else (
           (idx ah 10).bind fun bk =>
           (idx bk 3).bind fun gg =>
           (xk (z6.mk 16 1 (ah.set (10 : Int).toNat (bk.set (3 : Int).toNat (z8.mk (-1) (-1)))))).bind fun cd =>
           (wz (z6.mk 16 1 (ah.set (10 : Int).toNat (bk.set (3 : Int).toNat (z8.mk (-1) (-1))))) ai.1).bind fun d8 =>
           bif cd.2 == 11 then (
            bif d8.2 == 0 then (
             (idx d8.1.States 10).bind fun cn =>
             bif cn then (
              (idx d8.1.States 11).bind fun dv =>
              bif !dv then (
               (idx d8.1.Edges 10).bind fun bm =>
               (idx bm 3).bind fun ca =>
               bif !ca then (
                (idx d8.1.Edges 10).bind fun dt =>
                (idx dt 4).bind fun dj =>
                bif dj then (
                 (Zv).bind fun ez =>
                 some ez)
                else (
                 some false))
               else (
                some false))
              else (
               some false))
             else (
              some false))
            else (
             some false))
           else (
            some false)))))))))))
abbrev zbp : Type := Option (LR (List (List z8) × Int) (List (List z8)))
def wH (s_ : Int) (da : List (List z8)) : zbp :=
 some (.next (da, w64 (s_ + 1)))
def wG (ay : List (List z8)) (s_ : Int) (row : List z8) : zbp :=
 gd ((64 : Int) ≠ 0) <|
 (idx row 3).bind fun iw =>
 gd (ay.length + ([(row.set (3 : Int).toNat (z8.mk (Int.tmod (w64 (s_ + 1)) 64) 0))] : List (List z8)).length ≤ 4294967296) <|
 wH s_ (ay ++ ([(row.set (3 : Int).toNat (z8.mk (Int.tmod (w64 (s_ + 1)) 64) 0))] : List (List z8)))
def wF (s_ : Int) (d9 : List z8) (i_ : Int) : Option (LR (List z8 × Int) (List z8)) :=
 bif decide (i_ < 16) then (
  (idx d9 i_).bind fun iu =>
  some (.next ((d9.set i_.toNat (z8.mk s_ 0)), w64 (i_ + 1))))
 else (
  some (.done d9))
def zW (ay : List (List z8)) (s_ : Int) : zbp :=
 bif decide (s_ < 64) then (
  gd ((0 : Int) ≤ 16 ∧ (16 : Int) ≤ 4294967296) <|
  (loop (fun s => wF s_ s.1 s.2) ((List.replicate (16 : Int).toNat (z8.mk 0 0)), 0)).bind fun t5 =>
  wG ay s_ t5)
 else (
  some (.done ay))
def vT : Option Bool :=
 (loop (fun s => zW s.1 s.2) (([] : List (List z8)), 0)).bind fun t2 =>
 xI t2
abbrev F0_ := eSl 1 true (eI .i64)
abbrev F1_ := eOs 1 true (eI .i64)
abbrev F2_ := eSl 1 false (eI .i64)
abbrev F3_ := eOs 1 true (eOs 1 true eB)
abbrev F4_ := eSl 1 true (eSl 1 true eB)
abbrev F5_ := eSl 1 false (eSl 1 false eB)
abbrev F6_ := vp (eI .i64) (eI .i64)
abbrev F7_ := eSl 1 true F0_
abbrev F8_ := eOs 1 true F1_
abbrev F9_ := eSl 1 false F2_
abbrev z8J := eOs 1 false F2_
abbrev z4J := eSl 2 true F6_
abbrev WK := eOs 2 true F6_
abbrev qR := eSl 2 false F6_
abbrev uo := jJ (eI .i64) (eI .i64) (eI .i64)
abbrev zcI := eSl 1 true z4J
abbrev zcH := eSl 1 false z4J
abbrev zcG := eSl 1 false qR
abbrev zam := xO (eOs 1 true eB) F3_
abbrev z8V := xO (eSl 1 true eB) F4_
abbrev K4 := xO (eSl 1 false eB) F5_
abbrev z4I := yV (eI .i64) (eI .i64) zcI
abbrev z2g := yV (eI .i64) (eI .i64) zcH
abbrev vu := yV (eI .i64) (eI .i64) zcG
abbrev z6r := eSp vu
def rpN {α : Type _} (n : Nat) (a : α) (l : List α) : List α := Nat.rec l (fun _ r => a :: r) n
end Go.Own

namespace Go.Proofs
open Go.Shelf
def Try.so62_ren : Go.Shelf.Ren := ⟨fun | 6 => 62 | 15 => 87 | 14 => 86 | 28 => 110 | 29 => 111 | 20 => 102 | 21 => 103 | 22 => 104 | 23 => 105 | 24 => 106 | 25 => 107 | 26 => 108 | 27 => 109 | 46 => 116 | 47 => 117 | 48 => 118 | 49 => 119 | 50 => 120 | 57 => 121 | n => n, fun | 22 => 22 | 24 => 29 | 25 => 95 | 3 => 3 | 39 => 117 | 0 => 0 | 53 => 144 | 55 => 146 | 4 => 4 | 46 => 137 | 45 => 136 | 50 => 141 | 5 => 5 | 9 => 9 | 66 => 151 | 70 => 155 | 76 => 157 | 77 => 158 | n => n, fun | n => n⟩
theorem Try.so62 : Go.Proofs.SlLaysF0.n6 Try.prog Try.so62_ren := {
 mixed := by kernel_rfl
 f6 := ⟨Try.f62.name, by decide, Try.func62.trans (congrArg some (by kernel_rfl))⟩
 f14 := ⟨Try.f86.name, by decide, Try.func86.trans (congrArg some (by kernel_rfl))⟩
 f15 := Try.func87.trans (congrArg some (by kernel_rfl))
 f20 := ⟨Try.f102.name, by decide, Try.func102.trans (congrArg some (by kernel_rfl))⟩
 f21 := ⟨Try.f103.name, by decide, Try.func103.trans (congrArg some (by kernel_rfl))⟩
 f22 := ⟨Try.f104.name, by decide, Try.func104.trans (congrArg some (by kernel_rfl))⟩
 f23 := ⟨Try.f105.name, by decide, Try.func105.trans (congrArg some (by kernel_rfl))⟩
 f24 := ⟨Try.f106.name, by decide, Try.func106.trans (congrArg some (by kernel_rfl))⟩
 f25 := ⟨Try.f107.name, by decide, Try.func107.trans (congrArg some (by kernel_rfl))⟩
 f26 := ⟨Try.f108.name, by decide, Try.func108.trans (congrArg some (by kernel_rfl))⟩
 f27 := ⟨Try.f109.name, by decide, Try.func109.trans (congrArg some (by kernel_rfl))⟩
 f28 := Try.func110.trans (congrArg some (by kernel_rfl))
 f29 := Try.func111.trans (congrArg some (by kernel_rfl))
 f46 := ⟨Try.f116.name, by decide, Try.func116.trans (congrArg some (by kernel_rfl))⟩
 f47 := Try.func117.trans (congrArg some (by kernel_rfl))
 f48 := Try.func118.trans (congrArg some (by kernel_rfl))
 f49 := ⟨Try.f119.name, by decide, Try.func119.trans (congrArg some (by kernel_rfl))⟩
 f50 := ⟨Try.f120.name, by decide, Try.func120.trans (congrArg some (by kernel_rfl))⟩
 f57 := ⟨Try.f121.name, by decide, Try.func121.trans (congrArg some (by kernel_rfl))⟩
 t0 := Try.underlying0
 a0 := Try.isAgg0
 z0 := Try.sizeOf0
 v0 := Try.zeroValue0
 t3 := Try.underlying3
 a3 := Try.isAgg3
 z3 := Try.sizeOf3
 v3 := Try.zeroValue3
 t4 := Try.underlying4
 a4 := Try.isAgg4
 z4 := Try.sizeOf4
 v4 := Try.zeroValue4
 t5 := Try.underlying5
 a5 := Try.isAgg5
 z5 := Try.sizeOf5
 v5 := Try.zeroValue5
 t9 := Try.underlying9
 a9 := Try.isAgg9
 z9 := Try.sizeOf9
 v9 := Try.zeroValue9
 t22 := Try.underlying22
 a22 := Try.isAgg22
 z22 := Try.sizeOf22
 v22 := Try.zeroValue22
 t25 := Try.underlying95
 a25 := Try.isAgg95
 z25 := Try.sizeOf95
 v25 := Try.zeroValue95
 t39 := Try.underlying117
 a39 := Try.isAgg117
 z39 := Try.sizeOf117
 v39 := Try.zeroValue117
 t45 := Try.underlying136
 a45 := Try.isAgg136
 z45 := Try.sizeOf136
 v45 := Try.zeroValue136
 t46 := Try.underlying137
 a46 := Try.isAgg137
 z46 := Try.sizeOf137
 v46 := Try.zeroValue137
 t50 := Try.underlying141
 a50 := Try.isAgg141
 z50 := Try.sizeOf141
 v50 := Try.zeroValue141
 t53 := Try.underlying144
 a53 := Try.isAgg144
 z53 := Try.sizeOf144
 v53 := Try.zeroValue144
 t55 := Try.underlying146
 a55 := Try.isAgg146
 z55 := Try.sizeOf146
 v55 := Try.zeroValue146
 t66 := Try.underlying151
 a66 := Try.isAgg151
 z66 := Try.sizeOf151
 v66 := Try.zeroValue151
 t70 := Try.underlying155
 a70 := Try.isAgg155
 z70 := Try.sizeOf155
 v70 := Try.zeroValue155
 t76 := Try.underlying157
 a76 := Try.isAgg157
 z76 := Try.sizeOf157
 v76 := Try.zeroValue157
 t77 := Try.underlying158
 a77 := Try.isAgg158
 z77 := Try.sizeOf158
 v77 := Try.zeroValue158 }
end Go.Proofs
