/- -/
import Derived.Test.YtmedkleidpbgpaaPartB
import Derived.Test.YtmedkleidpbgpaaProg
import Derived.Test.YtmedkleidpbgpaaPartD
import Derived.Test.YtmedkleidpbgpaaPartC
import Derived.Shelf.SlSortCmp.NoneTotal
import Derived.Ground.SlsfProg
set_option linter.unusedVariables false
set_option linter.unusedSimpArgs false
namespace Go.Ex
open Go.Proofs
theorem q3 : EqP Try.prog 3 [.int .i64 0] false 1 := z5t (k := .int .i64) Try.underlying3 ⟨_, (by kernel_rfl : Try.prog.info? 3 = some Try.t3), rfl⟩ rfl
theorem q45 : EqP Try.prog 45 (ZZ [([.int .i64 0], false), ([.int .i64 0], false)]) true 2 := YA Try.underlying45 (by kernel_rfl) ⟨_, (by kernel_rfl : Try.prog.info? 45 = some Try.t45), rfl⟩ (by decide) (ye.cons (by decide) rfl (q3.mono (by decide)) (ye.cons (by decide) rfl (q3.mono (by decide)) (ye.nil)))
theorem q46 : EqP Try.prog 46 (ZZ [([.int .i64 0], false), ([.int .i64 0], false)]) true 2 := YA Try.underlying46 (by kernel_rfl) ⟨_, (by kernel_rfl : Try.prog.info? 46 = some Try.t46), rfl⟩ (by decide) (ye.cons (by decide) rfl (q3.mono (by decide)) (ye.cons (by decide) rfl (q3.mono (by decide)) (ye.nil)))
def i64 : EI := ⟨.func, 1, 8, some [.nilFunc], false⟩
theorem zbg : EqP Try.prog 131 (ZZ [([.int .i64 0], false), ([.int .i64 0], false), ([.int .i64 0], false)]) true 2 := YA Try.underlying131 (by kernel_rfl) ⟨_, (by kernel_rfl : Try.prog.info? 131 = some Try.t131), rfl⟩ (by decide) (ye.cons (by decide) rfl (q3.mono (by decide)) (ye.cons (by decide) rfl (q3.mono (by decide)) (ye.cons (by decide) rfl (q3.mono (by decide)) (ye.nil))))
theorem zbf : EqP Try.prog 132 (ZZ [([.int .i64 0], false), ([.int .i64 0], false), ([.int .i64 0], false)]) true 2 := YA Try.underlying132 (by kernel_rfl) ⟨_, (by kernel_rfl : Try.prog.info? 132 = some Try.t132), rfl⟩ (by decide) (ye.cons (by decide) rfl (q3.mono (by decide)) (ye.cons (by decide) rfl (q3.mono (by decide)) (ye.cons (by decide) rfl (q3.mono (by decide)) (ye.nil))))
end Go.Ex

namespace Go.Own
open Go.Proofs
def z9l : Value → Bool
 | .int _ _ => true
 | _ => false
theorem KW : ∀ {z vs us : List Value} {r : Bool}, z.all z9l = true → z.length = vs.length → yQ vs us = some r → Go.Ex.KX z vs = true ∧ Go.Ex.yQ vs us = some r
 | [], [], us, r, _, _, h => by
  cases us with
  | nil => simp only [yQ, Option.some.injEq] at h; subst h; exact ⟨rfl, rfl⟩
  | cons u us => simp [yQ] at h
 | a :: z, v :: vs, us, r, hz, hl, h => by
  have q : ∃ k x u' k' y, v = .int k x ∧ us = .int k' y :: u' ∧ k = k' := by
   cases us with
   | nil => cases v <;> simp [yQ] at h
   | cons u us =>
    cases v <;> cases u <;> simp [yQ] at h
    exact ⟨_, _, _, _, _, rfl, rfl, h.1⟩
  obtain ⟨k, x, u', k', y, rfl, rfl, hk⟩ := q
  simp only [yQ, hk, if_true, Option.map_eq_some_iff] at h
  obtain ⟨r', e1, rfl⟩ := h
  simp only [List.all_cons, Bool.and_eq_true] at hz
  obtain ⟨q1, q2⟩ := KW hz.2 (by simpa using hl) e1
  refine ⟨?_, by simp [Go.Ex.yQ, hk, q2]⟩
  cases a <;> first | (simp [z9l] at hz; done) | simpa [Go.Ex.KX] using q1
 | [], _ :: _, _, _, _, hl, _ => by simp at hl
 | _ :: _, [], _, _, _, hl, _ => by simp at hl
variable {P : Program}{z : List Value}
theorem z7D {t n : Nat} {i : Go.Ex.EI} (h : Go.Ex.z6s P t i)  (hz : i.zero = some z) (hi : z.all z9l = true) (hs : i.size = n) (hn : z.length = n) : z6s P t n := {
 guard := h.guard
 run := fun vs us r w hv hu he => by
  obtain ⟨q1, q2⟩ := KW hi (by rw [hn, hv]) he
  exact h.run vs us r w (by rw [hs]; exact hv) (by rw [hs]; exact hu) (by simpa only [Go.Ex.z9V, hz] using q1) q2 }
theorem exq {t dep : Nat}  (q : Go.Ex.EqP P t z true dep) (h1 : Nat.ble dep P.depth = true := by kernel_rfl) (h2 : dep ≤ 10000 := by decide) : Go.Ex.z6s P t ⟨.func, z.length, 0, some z, true⟩ := Go.Ex.z7C q rfl rfl (Nat.le_of_ble_eq_true h1) h2
theorem zaG {t n dep : Nat}  (q : Go.Ex.EqP P t z true dep) (hi : z.all z9l = true) (hn : z.length = n) (h1 : Nat.ble dep P.depth = true := by kernel_rfl) (h2 : dep ≤ 10000 := by decide) : z6s P t n := z7D (exq q h1 h2) rfl hi hn hn
variable {h : Array Obj}{S : zi}
theorem z3L {v : Value} (hv : v.oneCell' = true) : zy S h (.atom v) [v] [] := by simp only [zy, Rep]; exact ⟨⟨trivial, hv⟩, trivial⟩
theorem z5y (sz : Nat) : zy S h (.osl sz true []) [.slice none 0 0] [] := by
 simp only [zy]
 exact ⟨none, 0, rfl, (fun _ => rfl), Nat.le_refl _, Nat.zero_le _, by simp, .inl ⟨trivial, rfl, rfl, trivial⟩⟩
variable {fs : List A}
theorem z5z {cs : List Value} (q : zx S h fs cs []) : zy S h (.agg fs) cs [] := by simpa only [zy] using q
theorem z3J : zx S h [] [] [] := by simp [zx]
theorem z3K {a : A}  {c1 c2 : List Value} (q1 : zy S h a c1 []) (q2 : zx S h fs c2 []) : zx S h (a :: fs) (c1 ++ c2) [] := by simp only [zx]; exact ⟨c1, c2, [], [], rfl, rfl, q1, q2⟩
def zc : A → Option (List Value)
 | .atom v => if v.oneCell' = true then some [v] else none
 | .osl _ true [] => some [.slice none 0 0]
 | .agg fs => zcs fs
 | _ => none
where zcs : List A → Option (List Value)
 | [] => some []
 | a :: l => match zc a, zcs l with | some c, some d => some (c ++ d) | _, _ => none
mutual
theorem z8d : ∀ {a : A} {c : List Value}, zc a = some c → zy S h a c []
 | .atom v, c, e => by
  simp only [zc] at e
  split at e
  ·rename_i q; cases e; exact z3L q
  ·cases e
 | .osl sz true [], c, e => by simp only [zc] at e; cases e; exact z5y sz
 | .agg fs, c, e => z5z (z5V (by simpa only [zc] using e))
theorem z5V : ∀ {l : List A} {c : List Value}, zc.zcs l = some c → zx S h l c []
 | [], c, e => by simp only [zc.zcs] at e; cases e; exact z3J
 | a :: l, c, e => by
  simp only [zc.zcs] at e
  split at e
  ·rename_i c d e1 e2; cases e; exact z3K (z8d e1) (z5V e2)
  ·cases e
end
def zq (z : Option A) (v : Option Value) (n : Nat) : Prop := match z, v with | some z, some v => z.size = n ∧ zc z = some v.cells.toList | none, _ => True | _, _ => False
theorem tiq {t : Nat} {i : TI} (f : TypeInfo) (k : UN P t i.kind) (e : i.eqn = true → z6s P t i.size := by intro h; cases h) (h : P.info? t = some f := by kernel_rfl) (h2 : f.size = i.size := by rfl) (h3 : f.bytes = i.bytes := by rfl) (h4 : zq i.zero f.zero i.size := by exact And.intro rfl rfl) : Xf P t i :=
 ⟨⟨f, h, h2, h3, fun z hz => by
  rw [hz] at h4
  cases hv : f.zero with
  | none => rw [hv] at h4; exact h4.elim
  | some v => rw [hv] at h4; exact ⟨v, rfl, h4.1, fun S h => z8d h4.2⟩⟩, k, e⟩
def ti1 : TI := ⟨.other, 1, 8, some (.atom .nilFunc), false⟩
theorem z8o : Xf Try.prog 1 ti1 := tiq Try.t1 ⟨_, Try.underlying1, rfl⟩
def ti2 : TI := ⟨.int .i64, 1, 8, some (.atom (.int .i64 0)), false⟩
theorem z8n : Xf Try.prog 2 ti2 := tiq Try.t2 Try.underlying2
def ti3 : TI := ⟨.int .i64, 1, 8, some (.atom (.int .i64 0)), false⟩
theorem z8m : Xf Try.prog 3 ti3 := tiq Try.t3 Try.underlying3
def ti4 : TI := ⟨.bool, 1, 1, some (.atom (.bool false)), false⟩
theorem z8l : Xf Try.prog 4 ti4 := tiq Try.t4 Try.underlying4
def ti5 : TI := ⟨.int .u8, 1, 1, some (.atom (.int .u8 0)), false⟩
theorem z8k : Xf Try.prog 5 ti5 := tiq Try.t5 Try.underlying5
def ti9 : TI := ⟨.str, 1, 16, some (.atom (.string ⟨#[]⟩)), false⟩
theorem z8j : Xf Try.prog 9 ti9 := tiq Try.t9 Try.underlying9
def zan : TI := ⟨.slice 29, 1, 24, some (.osl 1 true []), false⟩
theorem z6M : Xf Try.prog 22 zan := tiq Try.t22 Try.underlying22
def zam : TI := ⟨.int .i64, 1, 8, some (.atom (.int .i64 0)), false⟩
theorem z6L : Xf Try.prog 23 zam := tiq Try.t23 Try.underlying23
def zal : TI := ⟨.slice 3, 1, 24, some (.osl 1 true []), false⟩
theorem z6K : Xf Try.prog 29 zal := tiq Try.t29 Try.underlying29
def zak : TI := ⟨.slice 72, 1, 24, some (.osl 2 true []), false⟩
theorem z6J : Xf Try.prog 33 zak := tiq Try.t33 Try.underlying33
def zaj : TI := ⟨.struct [(0, 1), (1, 1)], 2, 32, some (.agg [.atom (.int .i64 0), .osl 2 true []]), false⟩
theorem z6I : Xf Try.prog 35 zaj := tiq Try.t35 ⟨_, Try.underlying35, by kernel_rfl, by
  intro f hf
  simp only [List.mem_cons, List.not_mem_nil, or_false] at hf
  rcases hf with rfl | rfl
  ·exact ⟨Try.t3, by kernel_rfl⟩
  ·exact ⟨Try.t33, by kernel_rfl⟩⟩
def zai : TI := ⟨.slice 4, 1, 24, some (.osl 1 true []), false⟩
theorem z6H : Xf Try.prog 51 zai := tiq Try.t51 Try.underlying51
def zah : TI := ⟨.other, 1, 8, some (.atom (.map none)), false⟩
theorem z6G : Xf Try.prog 63 zah := tiq Try.t63 ⟨_, Try.underlying63, rfl⟩
def zag : TI := ⟨.ptr 69, 1, 8, some (.atom (.pointer none)), false⟩
theorem z6F : Xf Try.prog 66 zag := tiq Try.t66 Try.underlying66
def zaf : TI := ⟨.struct [(0, 1), (1, 1)], 2, 32, some (.agg [.atom (.int .i64 0), .osl 2 true []]), false⟩
theorem z6E : Xf Try.prog 69 zaf := tiq Try.t69 ⟨_, Try.underlying69, by kernel_rfl, by
  intro f hf
  simp only [List.mem_cons, List.not_mem_nil, or_false] at hf
  rcases hf with rfl | rfl
  ·exact ⟨Try.t3, by kernel_rfl⟩
  ·exact ⟨Try.t33, by kernel_rfl⟩⟩
def zae : TI := ⟨.struct [(0, 1), (1, 1)], 2, 32, some (.agg [.osl 1 true [], .atom (.bool false)]), false⟩
theorem z6D : Xf Try.prog 72 zae := tiq Try.t72 ⟨_, Try.underlying72, by kernel_rfl, by
  intro f hf
  simp only [List.mem_cons, List.not_mem_nil, or_false] at hf
  rcases hf with rfl | rfl
  ·exact ⟨Try.t29, by kernel_rfl⟩
  ·exact ⟨Try.t4, by kernel_rfl⟩⟩
def zad : TI := ⟨.other, 1, 8, some (.atom .nilFunc), false⟩
theorem z6C : Xf Try.prog 73 zad := tiq Try.t73 ⟨_, Try.underlying73, rfl⟩
def zac : TI := ⟨.other, 1, 8, some (.atom .nilFunc), false⟩
theorem z6B : Xf Try.prog 91 zac := tiq Try.t91 ⟨_, Try.underlying91, rfl⟩
def zab : TI := ⟨.slice 22, 1, 24, some (.osl 1 true []), false⟩
theorem z6A : Xf Try.prog 93 zab := tiq Try.t93 Try.underlying93
def zaa : TI := ⟨.other, 1, 8, some (.atom .nilFunc), false⟩
theorem z6z : Xf Try.prog 97 zaa := tiq Try.t97 ⟨_, Try.underlying97, rfl⟩
def za9 : TI := ⟨.slice 5, 1, 24, some (.osl 1 true []), false⟩
theorem z6y : Xf Try.prog 99 za9 := tiq Try.t99 Try.underlying99
def z8u : TI := ⟨.other, 1, 8, some (.atom .nilFunc), false⟩
theorem z4x : Xf Try.prog 101 z8u := tiq Try.t101 ⟨_, Try.underlying101, rfl⟩
def z8t : TI := ⟨.other, 1, 8, some (.atom .nilFunc), false⟩
theorem z4w : Xf Try.prog 102 z8t := tiq Try.t102 ⟨_, Try.underlying102, rfl⟩
def z8s : TI := ⟨.struct [(0, 1), (1, 1)], 2, 32, some (.agg [.atom (.int .i64 0), .osl 1 true []]), false⟩
theorem z4v : Xf Try.prog 105 z8s := tiq Try.t105 ⟨_, Try.underlying105, by kernel_rfl, by
  intro f hf
  simp only [List.mem_cons, List.not_mem_nil, or_false] at hf
  rcases hf with rfl | rfl
  ·exact ⟨Try.t3, by kernel_rfl⟩
  ·exact ⟨Try.t29, by kernel_rfl⟩⟩
def z8r : TI := ⟨.other, 1, 8, some (.atom .nilFunc), false⟩
theorem z4u : Xf Try.prog 109 z8r := tiq Try.t109 ⟨_, Try.underlying109, rfl⟩
def z8q : TI := ⟨.other, 1, 8, some (.atom .nilFunc), false⟩
theorem z4t : Xf Try.prog 121 z8q := tiq Try.t121 ⟨_, Try.underlying121, rfl⟩
def z8p : TI := ⟨.slice 105, 1, 24, some (.osl 2 true []), false⟩
theorem z4s : Xf Try.prog 122 z8p := tiq Try.t122 Try.underlying122
def tiL : List (Nat × TI) := [(1, ti1), (2, ti2), (3, ti3), (4, ti4), (5, ti5), (9, ti9), (22, zan), (23, zam), (29, zal), (33, zak), (35, zaj), (51, zai), (63, zah), (66, zag), (69, zaf), (72, zae), (73, zad), (91, zac), (93, zab), (97, zaa), (99, za9), (101, z8u), (102, z8t), (105, z8s), (109, z8r), (121, z8q), (122, z8p)]
def xp : TT := fun t => (tiL.find? fun p => p.1 == t).map (·.2)
def z4d (P : Program) : List (Nat × TI) → Prop
 | [] => True
 | p :: l => Xf P p.1 p.2 ∧ z4d P l
theorem z4d.mem : ∀ {l : List (Nat × TI)}, z4d P l → ∀ p ∈ l, Xf P p.1 p.2
 | p :: _, h, q, hq => by
  rcases List.mem_cons.1 hq with rfl | hq
  ·exact h.1
  ·exact z4d.mem h.2 q hq
 | [], _, _, hq => by cases hq
theorem z8i : z4d Try.prog tiL := ⟨z8o, z8n, z8m, z8l, z8k, z8j, z6M, z6L, z6K, z6J, z6I, z6H, z6G, z6F, z6E, z6D, z6C, z6B, z6A, z6z, z6y, z4x, z4w, z4v, z4u, z4t, z4s, trivial⟩
theorem zp : wl Try.prog xp := by
 intro t i h
 unfold xp at h
 rw [Option.map_eq_some_iff] at h
 obtain ⟨p, h1, rfl⟩ := h
 have h2 := List.find?_some h1
 have h3 := z8i.mem p (List.mem_of_find?_eq_some h1)
 rw [beq_iff_eq.1 h2] at h3
 exact h3
structure z6 where
 Next : List Int
 End : Bool
def yh (f0 : List Int → A) (f1 : Bool → A) (x : z6) : A := .agg [f0 x.Next, f1 x.End]
instance (f0 : List Int → A) (f1 : Bool → A) [h : z9i f0] : z9i (yh f0 f1) := ⟨fun x => by simp [yh, A.isD, A.areD, h.no]⟩
instance (f0 : List Int → A) (f1 : Bool → A) (g0 : List Int → A) (g1 : Bool → A) [h0 : UO f0 g0] [h1 : UO f1 g1] : UO (yh f0 f1) (yh g0 g1) := ⟨fun x => by simp [yh, A.loose, A.looses, h0.lo, h1.lo]⟩
instance (f0 : List Int → A) (f1 : Bool → A) (g0 : List Int → A) (g1 : Bool → A) [h0 : z07 f0 g0] [h1 : z07 f1 g1] : z07 (yh f0 f1) (yh g0 g1) := ⟨fun x => by simp [yh, A.live, A.lives, h0.live, h1.live], fun x => by simp [yh, A.shut, A.shuts, h0.sh, h1.sh]⟩
instance (f0 : List Int → A) (f1 : Bool → A) [h0 : kP f0] [h1 : kP f1] : kP (yh f0 f1) := ⟨fun x y h => by
 simp only [yh, A.agg.injEq, List.cons.injEq, and_true] at h
 cases x; cases y
 simp only [z6.mk.injEq]
 exact ⟨h0.inj _ _ h.1, h1.inj _ _ h.2⟩⟩
structure ze where
 inputs_ : Int
 nodes_ : List z6
def yb (f0 : Int → A) (f1 : List z6 → A) (x : ze) : A := .agg [f0 x.inputs_, f1 x.nodes_]
instance (f0 : Int → A) (f1 : List z6 → A) (g0 : Int → A) (g1 : List z6 → A) [h0 : UO f0 g0] [h1 : UO f1 g1] : UO (yb f0 f1) (yb g0 g1) := ⟨fun x => by simp [yb, A.loose, A.looses, h0.lo, h1.lo]⟩
instance (f0 : Int → A) (f1 : List z6 → A) (g0 : Int → A) (g1 : List z6 → A) [h0 : z07 f0 g0] [h1 : z07 f1 g1] : z07 (yb f0 f1) (yb g0 g1) := ⟨fun x => by simp [yb, A.live, A.lives, h0.live, h1.live], fun x => by simp [yb, A.shut, A.shuts, h0.sh, h1.sh]⟩
instance (f0 : Int → A) (f1 : List z6 → A) [h0 : kP f0] [h1 : kP f1] : kP (yb f0 f1) := ⟨fun x y h => by
 simp only [yb, A.agg.injEq, List.cons.injEq, and_true] at h
 cases x; cases y
 simp only [ze.mk.injEq]
 exact ⟨h0.inj _ _ h.1, h1.inj _ _ h.2⟩⟩
structure z7 where
 at_ : Int
 w_ : List Int
def xe (f0 : Int → A) (f1 : List Int → A) (x : z7) : A := .agg [f0 x.at_, f1 x.w_]
instance (f0 : Int → A) (f1 : List Int → A) [h0 : z4m f0] [h1 : z4m f1] : z4m (xe f0 f1) := ⟨fun x => by simp [xe, A.isD, A.areD, h0.isD, h1.isD]⟩
instance (f0 : Int → A) (f1 : List Int → A) (g0 : Int → A) (g1 : List Int → A) (x : z7) [∀ y, LeA (f0 y) (g0 y)] [∀ y, LeA (f1 y) (g1 y)] [∀ y, SzA (f0 y) (g0 y)] [∀ y, SzA (f1 y) (g1 y)] : LeA (xe f0 f1 x) (xe g0 g1 x) := by unfold xe; infer_instance
instance (f0 : Int → A) (f1 : List Int → A) (g0 : Int → A) (g1 : List Int → A) (x y : z7) [∀ y z, SzA (f0 y) (g0 z)] [∀ y z, SzA (f1 y) (g1 z)] : SzA (xe f0 f1 x) (xe g0 g1 y) := by unfold xe; infer_instance
structure zh where
 Inputs : Int
 Nodes : List z6
def wK (f0 : Int → A) (f1 : List z6 → A) (x : zh) : A := .agg [f0 x.Inputs, f1 x.Nodes]
instance (f0 : Int → A) (f1 : List z6 → A) (g0 : Int → A) (g1 : List z6 → A) [h0 : UO f0 g0] [h1 : UO f1 g1] : UO (wK f0 f1) (wK g0 g1) := ⟨fun x => by simp [wK, A.loose, A.looses, h0.lo, h1.lo]⟩
instance (f0 : Int → A) (f1 : List z6 → A) [h0 : kP f0] [h1 : kP f1] : kP (wK f0 f1) := ⟨fun x y h => by
 simp only [wK, A.agg.injEq, List.cons.injEq, and_true] at h
 cases x; cases y
 simp only [zh.mk.injEq]
 exact ⟨h0.inj _ _ h.1, h1.inj _ _ h.2⟩⟩
def qP (c_ : Int) (x1 : Int) : Option Bool :=
 bif decide (c_ < 0) then (
  some true)
 else (
  some (decide (c_ ≥ x1)))
def xQ : Option Int :=
 some (-1)
abbrev R0_ : Type := Option (LR Int (Unit ⊕ Int))
def y5 (s_ : List Int) (f_ : Int) (x8 : Int) : R0_ :=
 bif decide (x8 < ((s_.length : Nat) : Int)) then (
  (idx s_ x8).bind fun d0 =>
  (qP d0 f_).bind fun r_ =>
  bif r_ then (
   some (.done (.inr x8)))
  else (
   some (.next (w64 (x8 + 1)))))
 else (
  some (.done (.inl ())))
def xy (s_ : List Int) (f_ : Int) : Option Int :=
 (loop (fun s => y5 s_ f_ s) 0).bind fun t2 =>
 match t2 with
 | .inl p => xQ
 | .inr p => some p
def yN (s_ : List Int) (f_ : Int) : Option Bool :=
 (xy s_ f_).bind fun r_ =>
 some (decide (r_ ≥ 0))
def uR (w_ : List Int) (inputs : Int) : Option Int :=
 bif decide (inputs > 16) then (
  some 3)
 else (
  bif decide (((w_.length : Nat) : Int) > 256) then (
   some 3)
  else (
   bif decide (inputs < 1) then (
    some 1)
   else (
    (yN w_ inputs).bind fun r_ =>
    bif r_ then (
     some 1)
    else (
     some 0))))
def kr : Option Int :=
 some 0
def vb (l_ : List (List Int)) (inputs : Int) (da : Int) : R0_ :=
 bif decide (da < ((l_.length : Nat) : Int)) then (
  (idx l_ da).bind fun cd =>
  (uR cd inputs).bind fun r_ =>
  bif r_ != 0 then (
   some (.done (.inr r_)))
  else (
   some (.next (w64 (da + 1)))))
 else (
  some (.done (.inl ())))
def uS (l_ : List (List Int)) (inputs : Int) : Option Int :=
 bif decide (inputs > 16) then (
  some 3)
 else (
  bif decide (((l_.length : Nat) : Int) > 4096) then (
   some 3)
  else (
   bif decide (inputs < 1) then (
    some 1)
   else (
    (loop (fun s => vb l_ inputs s) 0).bind fun t2 =>
    match t2 with
    | .inl p => kr
    | .inr p => some p)))
def uz (x_ : Int) : Option Bool :=
 some (x_ != x_)
def wB (x_ : Int) (y_ : Int) : Option Int :=
 (uz x_).bind fun r_ =>
 (uz y_).bind fun ah =>
 bif r_ then (
  bif ah then (
   some 0)
  else (
   some (-1)))
 else (
  bif ah then (
   some 1)
  else (
   bif decide (x_ < y_) then (
    some (-1))
   else (
    bif decide (x_ > y_) then (
     some 1)
    else (
     some 0))))
def x9 (s1 : List Int) (s2 : List Int) : Option Int :=
 bif decide (((s1.length : Nat) : Int) < ((s2.length : Nat) : Int)) then (
  some (-1))
 else (
  some 0)
def yd (s1 : List Int) (s2 : List Int) (dx : Int) : R0_ :=
 bif decide (dx < ((s1.length : Nat) : Int)) then (
  (idx s1 dx).bind fun jg =>
  bif decide (dx ≥ ((s2.length : Nat) : Int)) then (
   some (.done (.inr 1)))
  else (
   (idx s2 dx).bind fun iu =>
   (wB jg iu).bind fun r_ =>
   bif r_ != 0 then (
    some (.done (.inr r_)))
   else (
    some (.next (w64 (dx + 1))))))
 else (
  some (.done (.inl ())))
def yX (s1 : List Int) (s2 : List Int) : Option Int :=
 (loop (fun s => yd s1 s2 s) 0).bind fun t2 =>
 match t2 with
 | .inl p => x9 s1 s2
 | .inr p => some p
def j0 : Option Int :=
 some 0
def vT (vals : List Int) (x8 : Int) : R0_ :=
 bif decide (x8 < ((vals.length : Nat) : Int)) then (
  (idx vals x8).bind fun iv =>
  bif iv != 0 then (
   some (.done (.inr iv)))
  else (
   some (.next (w64 (x8 + 1)))))
 else (
  some (.done (.inl ())))
def Za (vals : List Int) : Option Int :=
 (loop (fun s => vT vals s) 0).bind fun t2 =>
 match t2 with
 | .inl p => j0
 | .inr p => some p
def yo (a_ : List Int) (b_ : List Int) : Option Int :=
 (wB ((a_.length : Nat) : Int) ((b_.length : Nat) : Int)).bind fun r_ =>
 (yX a_ b_).bind fun ah =>
 (Za ([r_, ah])).bind fun aq =>
 some aq
def qb : Option Bool :=
 some true
abbrev R1_ : Type := Option (LR Int (Unit ⊕ Bool))
def vd (l_ : List (List Int)) (i_ : Int) : R1_ :=
 bif decide (i_ < ((l_.length : Nat) : Int)) then (
  (idx l_ (w64 (i_ - 1))).bind fun cd =>
  (idx l_ i_).bind fun gx =>
  (yo cd gx).bind fun r_ =>
  bif decide (r_ ≥ 0) then (
   some (.done (.inr false)))
  else (
   some (.next (w64 (i_ + 1)))))
 else (
  some (.done (.inl ())))
def jF (l_ : List (List Int)) : Option Bool :=
 (loop (fun s => vd l_ s) 1).bind fun t2 =>
 match t2 with
 | .inl p => qb
 | .inr p => some p
def kq (n_ : Int) : Option Int :=
 some n_
abbrev R2_ : Type := Option (LR (Int × Int) Int)
def v8 (l_ : List (List Int)) (bn : Int) (x7 : Int) : R2_ :=
 bif decide (x7 < ((l_.length : Nat) : Int)) then (
  (idx l_ x7).bind fun cd =>
  some (.next (w64 (bn + ((cd.length : Nat) : Int)), w64 (x7 + 1))))
 else (
  some (.done bn))
def vz (l_ : List (List Int)) : Option Int :=
 (loop (fun s => v8 l_ s.1 s.2) (0, 0)).bind fun t2 =>
 kq t2
def y4 (l_ : List (List Int)) (inputs : Int) : Option Int :=
 (uS l_ inputs).bind fun r_ =>
 bif r_ != 0 then (
  some r_)
 else (
  (jF l_).bind fun ah =>
  bif !ah then (
   some 1)
  else (
   (vz l_).bind fun aq =>
   bif decide (aq > 65536) then (
    some 3)
   else (
    some 0)))
def w4 (b_ : ze) (bp : List Int) : Option (Int × ze) :=
 gd (b_.nodes_.length + [(z6.mk bp false)].length ≤ 4294967296) <|
 some (w64 ((((b_.nodes_ ++ [(z6.mk bp false)]).length : Nat) : Int) - 1), (ze.mk b_.inputs_ (b_.nodes_ ++ [(z6.mk bp false)])))
abbrev R3_ : Type := Option (LR (List Int × Int) (List Int))
def y6 (b_ : ze) (bg : List Int) (gh : Int) : R3_ :=
 bif decide (gh < (((List.replicate b_.inputs_.toNat (0 : Int)).length : Nat) : Int)) then (
  (idx bg gh).bind fun fj =>
  some (.next ((bg.set gh.toNat (-1)), w64 (gh + 1))))
 else (
  some (.done bg))
def xw (b_ : ze) : Option (Int × ze) :=
 gd ((0 : Int) ≤ b_.inputs_ ∧ (b_.inputs_ : Int) ≤ 4294967296) <|
 (loop (fun s => y6 b_ s.1 s.2) ((List.replicate b_.inputs_.toNat (0 : Int)), 0)).bind fun t2 =>
 w4 b_ t2
def xF (bq : Int) (bf : List z6) (at_ : Int) : Option ze :=
 (idx bf at_).bind fun am =>
 some (ze.mk bq (bf.set at_.toNat (z6.mk am.Next true)))
abbrev R4_ : Type := Option (LR (Int × List z6 × Int × Int) ((Int × List z6 × Int)))
def yR (dn : Int) (fk : Int) (cm : Int) (ew : Int) (eu : List z6) : R4_ :=
 (idx eu dn).bind fun gv =>
 (idx gv.Next cm).bind fun bl =>
 some (.next (ew, eu, bl, w64 (fk + 1)))
def xE (w_ : List Int) (ck : Int) (cn : List z6) (dn : Int) (fk : Int) : R4_ :=
 bif decide (fk < ((w_.length : Nat) : Int)) then (
  (idx w_ fk).bind fun cm =>
  (idx cn dn).bind fun gw =>
  (idx gw.Next cm).bind fun im =>
  bif im == (-1) then (
   (xw (ze.mk ck cn)).bind fun r_ =>
   (idx r_.2.nodes_ dn).bind fun dp =>
   (idx dp.Next cm).bind fun jj =>
   yR dn fk cm r_.2.inputs_ (r_.2.nodes_.set dn.toNat (z6.mk (dp.Next.set cm.toNat r_.1) dp.End)))
  else (
   yR dn fk cm ck cn))
 else (
  some (.done (ck, cn, dn)))
def yS (w_ : List Int) (co : Int) (av : List z6) : Option ze :=
 (loop (fun s => xE w_ s.1 s.2.1 s.2.2.1 s.2.2.2) (co, av, 0, 0)).bind fun t3 =>
 xF t3.1 t3.2.1 t3.2.2
def wt (w_ : List Int) (b_ : ze) : Option ze :=
 bif ((b_.nodes_.length : Nat) : Int) == 0 then (
  (xw b_).bind fun ah =>
  yS w_ ah.2.inputs_ ah.2.nodes_)
 else (
  yS w_ b_.inputs_ b_.nodes_)
def jE (co : Int) (av : List z6) : Option ze :=
 some (ze.mk co av)
def jD (l_ : List (List Int)) (bq : Int) (bf : List z6) (ic : Int) : Option (LR (Int × List z6 × Int) ((Int × List z6))) :=
 bif decide (ic < ((l_.length : Nat) : Int)) then (
  (idx l_ ic).bind fun cd =>
  (wt cd (ze.mk bq bf)).bind fun r_ =>
  some (.next (r_.inputs_, r_.nodes_, w64 (ic + 1))))
 else (
  some (.done (bq, bf)))
def qQ (l_ : List (List Int)) (inputs : Int) : Option ze :=
 (loop (fun s => jD l_ s.1 s.2.1 s.2.2) (inputs, ([] : List z6), 0)).bind fun t2 =>
 jE t2.1 t2.2
abbrev R5_ : Type := Option (List z6)
def vI (a8 : List z6) : R5_ :=
 some a8
def zN (s_ : List Int) : Option (List Int) :=
 gd ((0 : Int) ≤ 0 ∧ (0 : Int) ≤ ((s_.length : Nat) : Int) ∧ (((s_.length : Nat) : Int) : Int) ≤ ((s_.length : Nat) : Int) ∧ (((s_.length : Nat) : Int) : Int) ≤ ((s_.length : Nat) : Int)) <|
 some ((s_.drop 0).take (((s_.length : Nat) : Int).toNat - 0))
variable {σ : Type}
def um (iy : σ) (next : List z7) : Option (LR (σ × List z7) σ) :=
 some (.next (iy, next))
def ul (da : Int) (iz : σ) (db : List z7) : Option (LR (σ × List z7 × Int) ((σ × List z7) ⊕ σ)) :=
 some (.next (iz, db, w64 (da + 1)))
def wp (dg : Int) (gm : List z7) : Option (LR (List z7 × Int) ((σ × List z7))) :=
 some (.next (gm, w64 (dg + 1)))
def yK {σ : Type} (aw : z7) (yr : σ × Bool) (ez : z6) (bh : List z7) (dg : Int) : Option (LR (List z7 × Int) ((σ × List z7))) :=
 bif decide (dg < ((ez.Next.length : Nat) : Int)) then (
  (idx ez.Next dg).bind fun bl =>
  bif bl != (-1) then (
   (zN aw.w_).bind fun r_ =>
   gd (r_.length + [dg].length ≤ 4294967296) <|
   gd (bh.length + [(z7.mk bl (r_ ++ [dg]))].length ≤ 4294967296) <|
   wp dg (bh ++ [(z7.mk bl (r_ ++ [dg]))]))
  else (
   wp dg bh))
 else (
  some (.done (yr.1, bh)))
def wn (x0 : List z6) (yy : σ → z7 → Option (σ × Bool)) (au : List z7) (gi : σ) (bm : List z7) (da : Int) : Option (LR (σ × List z7 × Int) ((σ × List z7) ⊕ σ)) :=
 bif decide (da < ((au.length : Nat) : Int)) then (
  (idx au da).bind fun aw =>
  (yy gi aw).bind fun yr =>
  bif !yr.2 then (
   some (.done (.inr yr.1)))
  else (
   (idx x0 aw.at_).bind fun ez =>
   (loop (fun s => yK aw yr ez s.1 s.2) (bm, 0)).bind fun t6 =>
   ul da t6.1 t6.2))
 else (
  some (.done (.inl (gi, bm))))
def wo (x0 : List z6) (yy : σ → z7 → Option (σ × Bool)) (gn : σ) (au : List z7) : Option (LR (σ × List z7) σ) :=
 bif decide (((au.length : Nat) : Int) > 0) then (
  (loop (fun s => wn x0 yy au s.1 s.2.1 s.2.2) (gn, ([] : List z7), 0)).bind fun t4 =>
  match t4 with
  | .inl p => um p.1 p.2
  | .inr p => some (.done p))
 else (
  some (.done gn))
def wq (x0 : List z6) (yy : σ → z7 → Option (σ × Bool)) (sg : σ) (al : List z7) : Option σ :=
 (loop (fun s => wo x0 yy s.1 s.2) (sg, al)).bind fun t2 =>
 some t2
def yT (x0 : List z6) {σ : Type} (yy : σ → z7 → Option (σ × Bool)) (sg : σ) : Option σ :=
 bif decide (((x0.length : Nat) : Int) > 0) then (
  wq x0 yy sg ([(z7.mk 0 [])] : List z7))
 else (
  wq x0 yy sg ([] : List z7))
def kg (k_ : Int) : Option Bool :=
 some (k_ != (-1))
def xk : Option Int :=
 some (-1)
def zO (s_ : List Int) (x8 : Int) : R0_ :=
 bif decide (x8 < ((s_.length : Nat) : Int)) then (
  (idx s_ x8).bind fun d0 =>
  (kg d0).bind fun r_ =>
  bif r_ then (
   some (.done (.inr x8)))
  else (
   some (.next (w64 (x8 + 1)))))
 else (
  some (.done (.inl ())))
def yM (s_ : List Int) (f_ : Unit) : Option Int :=
 (loop (fun s => zO s_ s) 0).bind fun t2 =>
 match t2 with
 | .inl p => xk
 | .inr p => some p
def yj (s_ : List Int) (f_ : Unit) : Option Bool :=
 (yM s_ ()).bind fun r_ =>
 some (decide (r_ ≥ 0))
def uT (n_ : z6) : Option Bool :=
 (yj n_.Next ()).bind fun r_ =>
 some (!r_)
def zZ (s_ : List Int) : Option (List Int) :=
 gd (([] : List Int).length + s_.length ≤ 4294967296) <|
 some s_
abbrev R6_ : Type := Option (List (List Int))
def zT (s_ : List (List Int)) : R6_ :=
 gd ((0 : Int) ≤ 0 ∧ (0 : Int) ≤ ((s_.length : Nat) : Int) ∧ (((s_.length : Nat) : Int) : Int) ≤ ((s_.length : Nat) : Int) ∧ (((s_.length : Nat) : Int) : Int) ≤ ((s_.length : Nat) : Int)) <|
 some ((s_.drop 0).take (((s_.length : Nat) : Int).toNat - 0))
def qG (out : List (List Int)) : R6_ :=
 (zT out).bind fun r_ =>
 some r_
def u6 (a8 : List z6) (ak : List (List Int)) (x8 : z7) : Option (LR (List (List Int)) Empty) :=
 (idx a8 x8.at_).bind fun d8 =>
 (uT d8).bind fun aq =>
 bif aq then (
  (zZ x8.w_).bind fun ar =>
  (zN ar).bind fun br =>
  gd (ak.length + [br].length ≤ 4294967296) <|
  some (.next (ak ++ [br])))
 else (
  some (.next ak))
def Zk (a8 : List z6) (is : Unit) : R6_ :=
 (vI a8).bind fun ah =>
 (yT ah (yOf (fun s x => u6 a8 s x)) (.next ([] : List (List Int)))).bind fun t2 =>
 match t2 with
 | .next ak => (
  qG ak)
 | .done z => nomatch z
abbrev R7_ : Type := Option (List (List Int) × Int)
def Yb (l_ : List (List Int)) (inputs : Int) : R7_ :=
 (y4 l_ inputs).bind fun r_ =>
 bif r_ != 0 then (
  some (([] : List (List Int)), r_))
 else (
  (qQ l_ inputs).bind fun ah =>
  (Zk ah.nodes_ ()).bind fun aq =>
  some (aq, 0))
def yD (s_ : List (List Int)) : R6_ :=
 gd (([] : List (List Int)).length + s_.length ≤ 4294967296) <|
 some s_
def va (a_ : List Int) (b_ : List Int) : Option Bool :=
 (yo a_ b_).bind fun r_ =>
 some (r_ == 0)
def xl (s_ : List (List Int)) : R6_ :=
 some s_
abbrev R8_ : Type := Option (LR Int (Unit ⊕ List (List Int)))
def yk (k_ : Int) : R8_ :=
 some (.next (w64 (k_ + 1)))
def zR (dh : List (List Int)) (de : Int) : R8_ :=
 gd ((0 : Int) ≤ de ∧ (de : Int) ≤ ((dh.length : Nat) : Int)) <|
 gd ((0 : Int) ≤ de ∧ (de : Int) ≤ ((dh.length : Nat) : Int)) <|
 gd ((0 : Int) ≤ de ∧ (de : Int) ≤ (((dh.take de.toNat ++ List.replicate (dh.length - de.toNat) []).length : Nat) : Int)) <|
 some (.done (.inr ((dh.take de.toNat ++ List.replicate (dh.length - de.toNat) []).take de.toNat)))
abbrev R9_ : Type := Option (LR (List (List Int) × Int × Int) ((List (List Int) × Int)))
def zQ (k2 : Int) (i6 : List (List Int)) (i7 : Int) : R9_ :=
 some (.next (i6, i7, w64 (k2 + 1)))
def zP (k_ : Int) (dy : List (List Int)) (fq : Int) (k2 : Int) : R9_ :=
 bif decide (k2 < ((dy.length - k_.toNat : Nat) : Int)) then (
  gd ((0 : Int) ≤ k_ ∧ (0 : Int) ≤ k2) <|
  (idx dy (k_ + k2)).bind fun gy =>
  gd ((0 : Int) ≤ k_ ∧ (0 : Int) ≤ w64 (k2 - 1)) <|
  (idx dy (k_ + (w64 (k2 - 1)))).bind fun gz =>
  (va gy gz).bind fun ah =>
  bif !ah then (
   gd ((0 : Int) ≤ k_ ∧ (0 : Int) ≤ k2) <|
   (idx dy (k_ + k2)).bind fun ia =>
   (idx dy fq).bind fun jx =>
   zQ k2 (dy.set fq.toNat ia) (w64 (fq + 1)))
  else (
   zQ k2 dy fq))
 else (
  some (.done (dy, fq)))
def y7 (s_ : List (List Int)) (k_ : Int) : R8_ :=
 bif decide (k_ < ((s_.length : Nat) : Int)) then (
  (idx s_ k_).bind fun d0 =>
  (idx s_ (w64 (k_ - 1))).bind fun ib =>
  (va d0 ib).bind fun r_ =>
  bif r_ then (
   gd ((0 : Int) ≤ k_ ∧ (k_ : Int) ≤ ((s_.length : Nat) : Int)) <|
   (loop (fun s => zP k_ s.1 s.2.1 s.2.2) (s_, k_, 1)).bind fun t5 =>
   zR t5.1 t5.2)
  else (
   yk k_))
 else (
  some (.done (.inl ())))
def yf (s_ : List (List Int)) (eq : Unit) : R6_ :=
 bif decide (((s_.length : Nat) : Int) < 2) then (
  some s_)
 else (
  (loop (fun s => y7 s_ s) 1).bind fun t2 =>
  match t2 with
  | .inl p => xl s_
  | .inr p => some p)
def yP (s_ : List (List Int)) : R6_ :=
 some s_
def up (out : List (List Int × Bool)) : R7_ :=
 gd (∀ q ∈ out, q.2 = true) <|
 some ((out.map (·.1)), 0)
def xg (aq : List (List Int)) (ap : List (List Int × Bool)) (ft : Int) : Option (LR ((List (List Int × Bool)) × Int) ((List (List Int × Bool)))) :=
 bif decide (ft < ((aq.length - (0 : Int).toNat : Nat) : Int)) then (
  gd ((0 : Int) ≤ 0 ∧ (0 : Int) ≤ ft) <|
  (idx ap (0 + ft)).bind fun cu =>
  (zZ cu.1).bind fun br =>
  (zN br).bind fun bj =>
  (idx ap ft).bind fun jl =>
  some (.next ((ap.set ft.toNat (bj, true)), w64 (ft + 1))))
 else (
  some (.done ap))
def yx (l_ : List (List Int)) : R7_ :=
 (yD l_).bind fun r_ =>
 (z2H (fun x y => yo x y) r_).bind fun sorted =>
 (yf sorted ()).bind fun ah =>
 (yP ah).bind fun aq =>
 bif decide (((aq.length : Nat) : Int) > 4096) then (
  some (([] : List (List Int)), 3))
 else (
  (vz aq).bind fun ar =>
  bif decide (ar > 65536) then (
   some (([] : List (List Int)), 3))
  else (
   (loop (fun s => xg aq s.1 s.2) ((aq.map fun q => (q, false)), 0)).bind fun t2 =>
   up t2))
abbrev z9f : Type := Option (LR (List (List Int) × List (List Int) × Int × Int) ((List (List Int) × Int)))
def kj (k_ : Int) (ak : List (List Int)) (au : List (List Int)) (bn : Int) (jn : Int) (jo : Bool) (jp : Bool) : z9f :=
 some (.next (ak, au, bn, w64 (k_ + 1)))
def ki (k_ : Int) (ap : List (List Int)) (ay : Int) (cp : Bool) (next : List (List Int)) : z9f :=
 kj k_ ap next ay ay (decide (ay > 65536)) cp
abbrev z2i : Type := Option (LR (List (List Int) × Int) (List (List Int)))
def kh (fc : Int) (db : List (List Int)) : z2i :=
 some (.next (db, w64 (fc + 1)))
def w5 (inputs : Int) (aw : List Int) (bh : List (List Int)) (fe : Int) : z2i :=
 bif decide (fe < inputs) then (
  (zN aw).bind fun ah =>
  gd (ah.length + [fe].length ≤ 4294967296) <|
  gd (bh.length + [(ah ++ [fe])].length ≤ 4294967296) <|
  some (.next ((bh ++ [(ah ++ [fe])]), w64 (fe + 1))))
 else (
  some (.done bh))
def w6 (inputs : Int) (al : List (List Int)) (bm : List (List Int)) (fc : Int) : z2i :=
 bif decide (fc < ((al.length : Nat) : Int)) then (
  (idx al fc).bind fun aw =>
  (loop (fun s => w5 inputs aw s.1 s.2) (bm, 0)).bind fun t8 =>
  kh fc t8)
 else (
  some (.done bm))
def uj (inputs : Int) (to : Int) (al : List (List Int)) (k_ : Int) (ap : List (List Int)) (ay : Int) (cp : Bool) : z9f :=
 bif k_ == to then (
  (yx ap).bind fun r_ =>
  some (.done (r_.1, r_.2)))
 else (
  (loop (fun s => w6 inputs al s.1 s.2) (([] : List (List Int)), 0)).bind fun t6 =>
  ki k_ ap ay cp t6)
def uk (inputs : Int) (to : Int) (al : List (List Int)) (k_ : Int) (ap : List (List Int)) (ay : Int) : z9f :=
 bif decide (((ap.length : Nat) : Int) > 4096) then (
  some (.done (([] : List (List Int)), 3)))
 else (
  bif decide (ay > 65536) then (
   some (.done (([] : List (List Int)), 3)))
  else (
   bif decide (k_ < to) then (
    bif decide ((w64 (((al.length : Nat) : Int) * inputs)) > 4096) then (
     some (.done (([] : List (List Int)), 3)))
    else (
     uj inputs to al k_ ap ay (decide ((w64 (((al.length : Nat) : Int) * inputs)) > 4096))))
   else (
    uj inputs to al k_ ap ay false)))
def wG (inputs : Int) (ba : Int) (to : Int) (out : List (List Int)) (al : List (List Int)) (n_ : Int) (k_ : Int) : z9f :=
 bif decide (k_ ≥ ba) then (
  gd (out.length + al.length ≤ 4294967296) <|
  uk inputs to al k_ (out ++ al) (w64 (n_ + (w64 (k_ * ((al.length : Nat) : Int))))))
 else (
  uk inputs to al k_ out n_)
def wu (inputs : Int) (ba : Int) (to : Int) : R7_ :=
 bif decide (inputs > 16) then (
  some (([] : List (List Int)), 3))
 else (
  bif decide (inputs < 1) then (
   some (([] : List (List Int)), 1))
  else (
   bif decide (to < 0) then (
    some (([] : List (List Int)), 1))
   else (
    bif decide (to > 256) then (
     some (([] : List (List Int)), 3))
    else (
     (loop (fun s => wG inputs ba to s.1 s.2.1 s.2.2.1 s.2.2.2) (([] : List (List Int)), ([[]] : List (List Int)), 0, 0)).bind fun t1 =>
     some t1))))
def yi (inputs : Int) (k_ : Int) : R7_ :=
 (wu inputs k_ k_).bind fun r_ =>
 some (r_.1, r_.2)
def y8 (l_ : List (List Int)) : R6_ :=
 some l_
def qR : Option Int :=
 some 0
def vM (inputs : Int) (l_ : List (List (List Int))) (ie : Int) : R0_ :=
 bif decide (ie < ((l_.length : Nat) : Int)) then (
  (idx l_ ie).bind fun cd =>
  (y4 cd inputs).bind fun r_ =>
  bif r_ != 0 then (
   some (.done (.inr r_)))
  else (
   some (.next (w64 (ie + 1)))))
 else (
  some (.done (.inl ())))
def jA (inputs : Int) (l_ : List (List (List Int))) : Option Int :=
 (loop (fun s => vM inputs l_ s) 0).bind fun t2 =>
 match t2 with
 | .inl p => qR
 | .inr p => some p
def wi (a_ : List (List Int)) (b_ : List (List Int)) (inputs : Int) : R7_ :=
 (jA inputs ([a_, b_])).bind fun r_ =>
 bif r_ != 0 then (
  some (([] : List (List Int)), r_))
 else (
  (yD a_).bind fun ah =>
  gd (ah.length + b_.length ≤ 4294967296) <|
  (yx (ah ++ b_)).bind fun aq =>
  some (aq.1, aq.2))
def yl (inputs : Int) (k_ : Int) : R7_ :=
 (wu inputs 0 k_).bind fun r_ =>
 some (r_.1, r_.2)
def uU (l_ : List (List Int)) (inputs : Int) : Option (Int × Int) :=
 (y4 l_ inputs).bind fun r_ =>
 bif r_ != 0 then (
  some (0, r_))
 else (
  (vz l_).bind fun ah =>
  some (ah, 0))
def Y9 (b_ : List Int) : Option (List UInt8) :=
 some (u8s b_)
def wF (w_ : List Int) (gp : List Int) (dx : Int) : R3_ :=
 bif decide (dx < ((w_.length : Nat) : Int)) then (
  (idx w_ dx).bind fun cm =>
  (idx gp dx).bind fun bz =>
  some (.next ((gp.set dx.toNat (IntKind.u8.wrap (cm))), w64 (dx + 1))))
 else (
  some (.done gp))
def Ya (w_ : List Int) : Option (List UInt8) :=
 gd ((0 : Int) ≤ ((w_.length : Nat) : Int) ∧ (((w_.length : Nat) : Int) : Int) ≤ 4294967296) <|
 (loop (fun s => wF w_ s.1 s.2) ((List.replicate ((w_.length : Nat) : Int).toNat (0 : Int)), 0)).bind fun t2 =>
 Y9 t2
def vD (out : List (List Int)) : R7_ :=
 (yx out).bind fun ah =>
 some (ah.1, ah.2)
abbrev zaK : Type := Option (LR ((List ((List UInt8) × Bool)) × Int × List (List Int) × Int) (List (List Int) ⊕ (List (List Int) × Int)))
def vC (dz : Int) (d9 : List ((List UInt8) × Bool)) (bn : Int) (ap : List (List Int)) : zaK :=
 some (.next (d9, bn, ap, w64 (dz + 1)))
abbrev zaJ : Type := Option (LR ((List ((List UInt8) × Bool)) × Int × List (List Int) × Int) (((List ((List UInt8) × Bool)) × Int × List (List Int)) ⊕ (List (List Int) × Int)))
def ww (eb : Int) (ee : List ((List UInt8) × Bool)) (io : Int) (gj : List (List Int)) : zaJ :=
 bif decide (((gj.length : Nat) : Int) > 4096) then (
  some (.done (.inr (([] : List (List Int)), 3))))
 else (
  bif decide (io > 65536) then (
   some (.done (.inr (([] : List (List Int)), 3))))
  else (
   some (.next (ee, io, gj, w64 (eb + 1)))))
def wv (b_ : List (List Int)) (ce : List Int) (az : List ((List UInt8) × Bool)) (ay : Int) (ff : List (List Int)) (eb : Int) : zaJ :=
 bif decide (eb < ((b_.length : Nat) : Int)) then (
  (idx b_ eb).bind fun bz =>
  (zN ce).bind fun aq =>
  gd (aq.length + bz.length ≤ 4294967296) <|
  bif decide ((((aq ++ bz).length : Nat) : Int) > 256) then (
   some (.done (.inr (([] : List (List Int)), 3))))
  else (
   (Ya (aq ++ bz)).bind fun ar =>
   (some ((Qq az ar).getD false)).bind fun val =>
   bif !val then (
    gd (ff.length + [(aq ++ bz)].length ≤ 4294967296) <|
    ww eb (z1o az ar true) (w64 (ay + (((aq ++ bz).length : Nat) : Int))) (ff ++ [(aq ++ bz)]))
   else (
    ww eb az ay ff)))
 else (
  some (.done (.inl (az, ay, ff))))
def vB (a_ : List (List Int)) (b_ : List (List Int)) (cx : List ((List UInt8) × Bool)) (n_ : Int) (ak : List (List Int)) (dz : Int) : zaK :=
 bif decide (dz < ((a_.length : Nat) : Int)) then (
  (idx a_ dz).bind fun ce =>
  (loop (fun s => wv b_ ce s.1 s.2.1 s.2.2.1 s.2.2.2) (cx, n_, ak, 0)).bind fun t4 =>
  match t4 with
  | .inl p => vC dz p.1 p.2.1 p.2.2
  | .inr p => some (.done (.inr p)))
 else (
  some (.done (.inl ak)))
def wH (a_ : List (List Int)) (b_ : List (List Int)) (inputs : Int) : R7_ :=
 (jA inputs ([a_, b_])).bind fun r_ =>
 bif r_ != 0 then (
  some (([] : List (List Int)), r_))
 else (
  (loop (fun s => vB a_ b_ s.1 s.2.1 s.2.2.1 s.2.2.2) (([] : List ((List UInt8) × Bool)), 0, ([] : List (List Int)), 0)).bind fun t2 =>
  match t2 with
  | .inl p => vD p
  | .inr p => some p)
def u7 (x0 : z6) : Option Bool :=
 some true
def wM (out : List (List Int)) : R6_ :=
 (zT out).bind fun r_ =>
 some r_
def xO (a8 : List z6) (ak : List (List Int)) (x8 : z7) : Option (LR (List (List Int)) Empty) :=
 (idx a8 x8.at_).bind fun d8 =>
 (u7 d8).bind fun aq =>
 bif aq then (
  (zZ x8.w_).bind fun ar =>
  (zN ar).bind fun br =>
  gd (ak.length + [br].length ≤ 4294967296) <|
  some (.next (ak ++ [br])))
 else (
  some (.next ak))
def wV (a8 : List z6) (is : Unit) : R6_ :=
 (vI a8).bind fun ah =>
 (yT ah (yOf (fun s x => xO a8 s x)) (.next ([] : List (List Int)))).bind fun t2 =>
 match t2 with
 | .next ak => (
  wM ak)
 | .done z => nomatch z
def Zi (l_ : List (List Int)) : R7_ :=
 bif decide (((l_.length : Nat) : Int) > 4096) then (
  some (([] : List (List Int)), 3))
 else (
  (vz l_).bind fun r_ =>
  bif decide (r_ > 65536) then (
   some (([] : List (List Int)), 3))
  else (
   some (l_, 0)))
def ym (l_ : List (List Int)) (inputs : Int) : R7_ :=
 (y4 l_ inputs).bind fun r_ =>
 bif r_ != 0 then (
  some (([] : List (List Int)), r_))
 else (
  (qQ l_ inputs).bind fun ah =>
  bif decide (((ah.nodes_.length : Nat) : Int) > 4096) then (
   some (([] : List (List Int)), 3))
  else (
   (wV ah.nodes_ ()).bind fun aq =>
   (Zi aq).bind fun ar =>
   some (ar.1, ar.2)))
def zS (s_ : List z6) : R5_ :=
 gd ((0 : Int) ≤ 0 ∧ (0 : Int) ≤ ((s_.length : Nat) : Int) ∧ (((s_.length : Nat) : Int) : Int) ≤ ((s_.length : Nat) : Int) ∧ (((s_.length : Nat) : Int) : Int) ≤ ((s_.length : Nat) : Int)) <|
 some ((s_.drop 0).take (((s_.length : Nat) : Int).toNat - 0))
def y3 (number : List Int) (order : List Int) (fw : z7) : Option (LR (List Int × List Int) Empty) :=
 (idx number fw.at_).bind fun jd =>
 gd (order.length + [fw.at_].length ≤ 4294967296) <|
 some (.next ((number.set fw.at_.toNat ((order.length : Nat) : Int)), (order ++ [fw.at_])))
def xq (b_ : ze) : Option (List Int × List Int) :=
 (vI b_.nodes_).bind fun r_ =>
 (yT r_ (yOf (fun s x => y3 s.1 s.2 x)) (.next ((List.replicate ((b_.nodes_.length : Nat) : Int).toNat (0 : Int)), ([] : List Int)))).bind fun t1 =>
 match t1 with
 | .next (number, order) => (
  some (number, order))
 | .done z => nomatch z
def xv (out : List z6) : R5_ :=
 (zS out).bind fun ah =>
 some ah
abbrev za4 : Type := Option (LR (List (Option z6) × List z6 × Int) (List z6))
def xu (dc : Int) (bf : List (Option z6)) (ap : List z6) : za4 :=
 some (.next (bf, ap, w64 (dc + 1)))
def xr (av : List (Option z6)) (ak : List z6) (dc : Int) (u_ : Int) (am : z6) (bp : List Int) : za4 :=
 gd (ak.length + [(z6.mk bp am.End)].length ≤ 4294967296) <|
 xu dc (av.set u_.toNat none) (ak ++ [(z6.mk bp am.End)])
def yC (eg : Int) (fx : List Int) : R3_ :=
 some (.next (fx, w64 (eg + 1)))
def zK (bo : List Int × List Int) (am : z6) (bg : List Int) (eg : Int) : R3_ :=
 bif decide (eg < ((am.Next.length : Nat) : Int)) then (
  (idx bg eg).bind fun fj =>
  bif fj != (-1) then (
   (idx bo.1 fj).bind fun jh =>
   (idx bg eg).bind fun i8 =>
   yC eg (bg.set eg.toNat jh))
  else (
   yC eg bg))
 else (
  some (.done bg))
def yz (bo : List Int × List Int) (av : List (Option z6)) (ak : List z6) (dc : Int) : za4 :=
 bif decide (dc < ((bo.2.length : Nat) : Int)) then (
  (idx bo.2 dc).bind fun u_ =>
  (idx av u_).bind fun there =>
  (there).bind fun am =>
  (loop (fun s => zK bo am s.1 s.2) (am.Next, 0)).bind fun t6 =>
  xr av ak dc u_ am t6)
 else (
  some (.done ak))
def xh (b_ : ze) : R5_ :=
 gd ((0 : Int) ≤ ((b_.nodes_.length : Nat) : Int) ∧ (((b_.nodes_.length : Nat) : Int) : Int) ≤ 4294967296) <|
 (xq b_).bind fun bo =>
 (loop (fun s => yz bo s.1 s.2.1 s.2.2) ((b_.nodes_.map some), ([] : List z6), 0)).bind fun t3 =>
 xv t3
def kl (l_ : List (List Int)) (inputs : Int) : Option (zh × Int) :=
 (y4 l_ inputs).bind fun r_ =>
 bif r_ != 0 then (
  some ((zh.mk 0 []), r_))
 else (
  (qQ l_ inputs).bind fun ah =>
  (xh ah).bind fun aq =>
  some ((zh.mk inputs aq), 0))
def Zj : Option Bool :=
 some true
abbrev za3 : Type := Option (LR (List Bool × Int) (Unit ⊕ Bool))
def uo (bt : Int) (d9 : List Bool) (bw : List Int) (jq : Int) (eb : Bool) : za3 :=
 some (.next (d9, w64 (bt + 1)))
abbrev zaI : Type := Option (LR (List Bool × Int) ((List Bool × List Int × Int × Bool) ⊕ Bool))
def vK (fl : Int) (ee : List Bool) : zaI :=
 some (.next (ee, w64 (fl + 1)))
def vJ (t_ : zh) (bt : Int) (aj : z6) (az : List Bool) (fl : Int) : zaI :=
 bif decide (fl < ((aj.Next.length : Nat) : Int)) then (
  (idx aj.Next fl).bind fun bl =>
  bif bl == (-1) then (
   vK fl az)
  else (
   bif decide (bl ≤ bt) then (
    some (.done (.inr false)))
   else (
    bif decide (bl ≥ ((t_.Nodes.length : Nat) : Int)) then (
     some (.done (.inr false)))
    else (
     (idx az bl).bind fun ja =>
     bif ja then (
      some (.done (.inr false)))
     else (
      (idx az bl).bind fun jk =>
      vK fl (az.set bl.toNat true))))))
 else (
  some (.done (.inl (az, aj.Next, ((aj.Next.length : Nat) : Int), ((aj.Next.length : Nat) : Int) != t_.Inputs))))
def vL (t_ : zh) (cx : List Bool) (bt : Int) (aj : z6) : za3 :=
 (loop (fun s => vJ t_ bt aj s.1 s.2) (cx, 0)).bind fun t5 =>
 match t5 with
 | .inl p => uo bt p.1 p.2.1 p.2.2.1 p.2.2.2
 | .inr p => some (.done (.inr p))
def un (t_ : zh) (cx : List Bool) (bt : Int) : za3 :=
 bif decide (bt < ((t_.Nodes.length : Nat) : Int)) then (
  (idx t_.Nodes bt).bind fun aj =>
  bif decide (bt > 0) then (
   (idx cx bt).bind fun ip =>
   bif !ip then (
    some (.done (.inr false)))
   else (
    bif ((aj.Next.length : Nat) : Int) != t_.Inputs then (
     some (.done (.inr false)))
    else (
     vL t_ cx bt aj)))
  else (
   bif ((aj.Next.length : Nat) : Int) != t_.Inputs then (
    some (.done (.inr false)))
   else (
    vL t_ cx bt aj)))
 else (
  some (.done (.inl ())))
def kS (t_ : zh) : Option Bool :=
 gd ((0 : Int) ≤ ((t_.Nodes.length : Nat) : Int) ∧ (((t_.Nodes.length : Nat) : Int) : Int) ≤ 4294967296) <|
 (loop (fun s => un t_ s.1 s.2) ((List.replicate ((t_.Nodes.length : Nat) : Int).toNat false), 0)).bind fun t2 =>
 match t2 with
 | .inl p => Zj
 | .inr p => some p
def vW (t_ : zh) (x3 : Int) (l_ : List (List Int)) : R7_ :=
 (y4 l_ t_.Inputs).bind fun ah =>
 bif ah != 0 then (
  some (([] : List (List Int)), 4))
 else (
  (zT l_).bind fun aq =>
  some (aq, 0))
abbrev za2 : Type := Option (LR (Int × List (List Int) × Int) ((Int × List (List Int) × Int)))
def vV (bw : Int) (at_ : Int) (jb : List (List Int)) : za2 :=
 some (.next (bw, jb, w64 (at_ + 1)))
def ve (bw : Int) (cj : List (List Int)) (at_ : Int) (cw : z7) (aj : z6) (ig : Bool) (ii : Bool) (ij : Bool) : za2 :=
 bif aj.End then (
  (zZ cw.w_).bind fun br =>
  (zN br).bind fun bj =>
  gd (cj.length + [bj].length ≤ 4294967296) <|
  vV bw at_ (cj ++ [bj]))
 else (
  vV bw at_ cj)
def wh (t_ : zh) (bw : Int) (cj : List (List Int)) (at_ : Int) (cw : z7) : za2 :=
 (idx t_.Nodes cw.at_).bind fun aj =>
 bif cw.at_ != at_ then (
  some (.done (4, cj, at_)))
 else (
  bif decide (((cw.w_.length : Nat) : Int) > 256) then (
   some (.done (4, cj, at_)))
  else (
   (uT aj).bind fun dr =>
   bif dr then (
    bif !aj.End then (
     some (.done (4, cj, at_)))
    else (
     ve bw cj at_ cw aj dr dr (!aj.End)))
   else (
    ve bw cj at_ cw aj dr dr false)))
def jG (t_ : zh) : R7_ :=
 bif decide (t_.Inputs < 1) then (
  some (([] : List (List Int)), 4))
 else (
  bif decide (t_.Inputs > 16) then (
   some (([] : List (List Int)), 4))
  else (
   bif decide (((t_.Nodes.length : Nat) : Int) > 65537) then (
    some (([] : List (List Int)), 4))
   else (
    (kS t_).bind fun r_ =>
    bif !r_ then (
     some (([] : List (List Int)), 4))
    else (
     (vI t_.Nodes).bind fun ar =>
     (yT ar (yOf (fun s x => wh t_ s.1 s.2.1 s.2.2 x)) (.next (0, ([] : List (List Int)), 0))).bind fun t2 =>
     match t2 with
     | .next (bw, cj, at_) => (
      vW t_ bw cj)
     | .done (bw, cj, at_) => (
      some (([] : List (List Int)), bw))))))
def ku (n_ : Int) : Option (Int × Int) :=
 some (n_, 0)
def vX (fm : Int) (ay : Int) : R2_ :=
 some (.next (ay, w64 (fm + 1)))
def xI (t_ : zh) (bn : Int) (fm : Int) : R2_ :=
 bif decide (fm < ((t_.Nodes.length : Nat) : Int)) then (
  (idx t_.Nodes fm).bind fun aj =>
  (uT aj).bind fun ah =>
  bif ah then (
   vX fm (w64 (bn + 1)))
  else (
   vX fm bn))
 else (
  some (.done bn))
def vA (t_ : zh) : Option (Int × Int) :=
 (jG t_).bind fun r_ =>
 bif r_.2 != 0 then (
  some (0, r_.2))
 else (
  (loop (fun s => xI t_ s.1 s.2) (0, 0)).bind fun t2 =>
  ku t2)
def W3 (l_ : List (List Int)) (inputs : Int) : R7_ :=
 (uS l_ inputs).bind fun r_ =>
 bif r_ != 0 then (
  some (([] : List (List Int)), r_))
 else (
  (yx l_).bind fun ah =>
  some (ah.1, ah.2))
def qK : Option Int :=
 some 0
def wZ (a_ : List Int) (b_ : List Int) (i_ : Int) : R0_ :=
 bif decide (i_ < ((a_.length : Nat) : Int)) then (
  (idx a_ i_).bind fun ce =>
  (idx b_ i_).bind fun bz =>
  bif decide (ce < bz) then (
   some (.done (.inr (-1))))
  else (
   (idx a_ i_).bind fun gc =>
   (idx b_ i_).bind fun ji =>
   bif decide (gc > ji) then (
    some (.done (.inr 1)))
   else (
    some (.next (w64 (i_ + 1))))))
 else (
  some (.done (.inl ())))
def vO (a_ : List Int) (b_ : List Int) : Option Int :=
 bif ((a_.length : Nat) : Int) != ((b_.length : Nat) : Int) then (
  bif decide (((a_.length : Nat) : Int) < ((b_.length : Nat) : Int)) then (
   some (-1))
  else (
   some 1))
 else (
  (loop (fun s => wZ a_ b_ s) 0).bind fun t2 =>
  match t2 with
  | .inl p => qK
  | .inr p => some p)
def qX : Option Bool :=
 some true
def vP (a_ : List (List Int)) (b_ : List (List Int)) (i_ : Int) : R1_ :=
 bif decide (i_ < ((a_.length : Nat) : Int)) then (
  (idx a_ i_).bind fun ce =>
  (idx b_ i_).bind fun bz =>
  (vO ce bz).bind fun r_ =>
  bif r_ != 0 then (
   some (.done (.inr false)))
  else (
   some (.next (w64 (i_ + 1)))))
 else (
  some (.done (.inl ())))
def kU (a_ : List (List Int)) (b_ : List (List Int)) : Option Bool :=
 bif ((a_.length : Nat) : Int) != ((b_.length : Nat) : Int) then (
  some false)
 else (
  (loop (fun s => vP a_ b_ s) 0).bind fun t2 =>
  match t2 with
  | .inl p => qX
  | .inr p => some p)
def ZA : Option Bool :=
 some true
def vS (a_ : List (List Int)) (i_ : Int) : R1_ :=
 bif decide (i_ < ((a_.length : Nat) : Int)) then (
  (idx a_ i_).bind fun ce =>
  (idx a_ i_).bind fun gc =>
  bif ((ce.length : Nat) : Int) != ((gc.length : Nat) : Int) then (
   some (.done (.inr false)))
  else (
   some (.next (w64 (i_ + 1)))))
 else (
  some (.done (.inl ())))
def xW (a_ : List (List Int)) (b_ : List (List Int)) : Option Bool :=
 (kU a_ b_).bind fun r_ =>
 bif !r_ then (
  some false)
 else (
  bif ((a_.length : Nat) : Int) != ((a_.length : Nat) : Int) then (
   some false)
  else (
   (loop (fun s => vS a_ s) 0).bind fun t2 =>
   match t2 with
   | .inl p => ZA
   | .inr p => some p))
def kF : Option Bool :=
 some true
def kE (a_ : zh) (b_ : zh) (i_ : Int) : R1_ :=
 bif decide (i_ < ((a_.Nodes.length : Nat) : Int)) then (
  (idx a_.Nodes i_).bind fun aj =>
  (idx b_.Nodes i_).bind fun iq =>
  bif !(aj.End == iq.End) then (
   some (.done (.inr false)))
  else (
   (idx a_.Nodes i_).bind fun ge =>
   (idx b_.Nodes i_).bind fun gf =>
   (vO ge.Next gf.Next).bind fun r_ =>
   bif r_ != 0 then (
    some (.done (.inr false)))
   else (
    some (.next (w64 (i_ + 1))))))
 else (
  some (.done (.inl ())))
def YZ (a_ : zh) (b_ : zh) : Option Bool :=
 bif a_.Inputs != b_.Inputs then (
  some false)
 else (
  bif ((a_.Nodes.length : Nat) : Int) != ((b_.Nodes.length : Nat) : Int) then (
   some false)
  else (
   (loop (fun s => kE a_ b_ s) 0).bind fun t2 =>
   match t2 with
   | .inl p => kF
   | .inr p => some p))
def wQ : Option Bool :=
 (y8 ([[1, 0], [1], [0], [1]])).bind fun r_ =>
 (W3 r_ 2).bind fun ah =>
 (y8 ([[], [0], [1], [1, 0]])).bind fun aq =>
 (Yb aq 2).bind fun ar =>
 (y8 ([[1, 0]])).bind fun br =>
 (ym br 2).bind fun bj =>
 (y8 ([[], [0]])).bind fun dr =>
 (y8 ([[0], [1]])).bind fun em =>
 (wH dr em 2).bind fun cq =>
 bif ah.2 != 0 then (
  some false)
 else (
  bif ar.2 != 0 then (
   some false)
  else (
   bif bj.2 != 0 then (
    some false)
   else (
    bif cq.2 != 0 then (
     some false)
    else (
     (y8 ([[0], [1], [1, 0]])).bind fun cr =>
     (xW ah.1 cr).bind fun gk =>
     bif !gk then (
      some false)
     else (
      (y8 ([[0], [1, 0]])).bind fun cb =>
      (xW ar.1 cb).bind fun fu =>
      bif !fu then (
       some false)
      else (
       (y8 ([[], [1], [1, 0]])).bind fun ca =>
       (xW bj.1 ca).bind fun ga =>
       bif !ga then (
        some false)
       else (
        (y8 ([[0], [1], [0, 0], [0, 1]])).bind fun ct =>
        (xW cq.1 ct).bind fun gb =>
        bif !gb then (
         some false)
        else (
         (yl 2 1).bind fun dv =>
         (yi 2 2).bind fun dt =>
         (yl 2 12).bind fun ik =>
         (y8 ([[0], [1, 0]])).bind fun gl =>
         (kl gl 2).bind fun fp =>
         (vA fp.1).bind fun gu =>
         bif dv.2 != 0 then (
          some false)
         else (
          bif dt.2 != 0 then (
           some false)
          else (
           bif ik.2 != 3 then (
            some false)
           else (
            bif fp.2 != 0 then (
             some false)
            else (
             bif gu.2 != 0 then (
              some false)
             else (
              bif gu.1 != 2 then (
               some false)
              else (
               (y8 ([[], [0], [1]])).bind fun dw =>
               (xW dv.1 dw).bind fun je =>
               bif !je then (
                some false)
               else (
                (y8 ([[0, 0], [0, 1], [1, 0], [1, 1]])).bind fun fg =>
                (xW dt.1 fg).bind fun jf =>
                bif !jf then (
                 some false)
                else (
                 (YZ fp.1 (zh.mk 2 ([(z6.mk ([1, 2]) false), (z6.mk ([(-1), (-1)]) true), (z6.mk ([3, (-1)]) false), (z6.mk ([(-1), (-1)]) true)]))).bind fun jr =>
                 bif !jr then (
                  some false)
                 else (
                  (y8 ([[1], [0]])).bind fun iw =>
                  (y4 iw 2).bind fun js =>
                  bif js == 1 then (
                   (y8 ([[0], [2]])).bind fun ix =>
                   (y4 ix 2).bind fun jt =>
                   bif jt == 1 then (
                    (y4 [] 0).bind fun ju =>
                    bif ju == 1 then (
                     (y4 [] 17).bind fun jv =>
                     some (jv == 3))
                    else (
                     some false))
                   else (
                    some false))
                  else (
                   some false))))))))))))))))))
def kD (out : List (List Int)) : R6_ :=
 some out
def qo (n_ : Int) (ap : List (List Int)) : z2i :=
 some (.next (ap, w64 (n_ + 1)))
def qn (n_ : Int) (next : List (List Int)) : z2i :=
 qo n_ next
def qm (i_ : Int) (db : List (List Int)) : z2i :=
 some (.next (db, w64 (i_ + 1)))
def xa (inputs : Int) (ak : List (List Int)) (i_ : Int) (bh : List (List Int)) (s_ : Int) : z2i :=
 bif decide (s_ < inputs) then (
  (idx ak i_).bind fun cu =>
  gd (([] : List Int).length + cu.length ≤ 4294967296) <|
  gd (cu.length + [s_].length ≤ 4294967296) <|
  gd (bh.length + [(cu ++ [s_])].length ≤ 4294967296) <|
  some (.next ((bh ++ [(cu ++ [s_])]), w64 (s_ + 1))))
 else (
  some (.done bh))
def xc (inputs : Int) (ak : List (List Int)) (bm : List (List Int)) (i_ : Int) : z2i :=
 bif decide (i_ < ((ak.length : Nat) : Int)) then (
  (loop (fun s => xa inputs ak i_ s.1 s.2) (bm, 0)).bind fun t7 =>
  qm i_ t7)
 else (
  some (.done bm))
def xJ (inputs : Int) (k_ : Int) (ak : List (List Int)) (n_ : Int) : z2i :=
 bif decide (n_ < k_) then (
  (loop (fun s => xc inputs ak s.1 s.2) (([] : List (List Int)), 0)).bind fun t5 =>
  qn n_ t5)
 else (
  some (.done ak))
def ug (inputs : Int) (k_ : Int) : R6_ :=
 (loop (fun s => xJ inputs k_ s.1 s.2) (([[]] : List (List Int)), 0)).bind fun t2 =>
 kD t2
def Zt (out : List (List Int)) : R6_ :=
 some out
def w9 (inputs : Int) (k_ : Int) (ak : List (List Int)) (n_ : Int) : z2i :=
 bif decide (n_ ≤ k_) then (
  (ug inputs n_).bind fun r_ =>
  gd (ak.length + r_.length ≤ 4294967296) <|
  some (.next ((ak ++ r_), w64 (n_ + 1))))
 else (
  some (.done ak))
def jB (inputs : Int) (k_ : Int) : R6_ :=
 (loop (fun s => w9 inputs k_ s.1 s.2) (([] : List (List Int)), 0)).bind fun t2 =>
 Zt t2
def zo (inputs : Int) (k_ : Int) (r_ : List (List Int) × Int) (ah : List (List Int) × Int) : Option Bool :=
 bif r_.2 != 0 then (
  bif ((r_.1.length : Nat) : Int) == 0 then (
   bif ah.2 == 0 then (
    (wQ).bind fun ar =>
    some ar)
   else (
    bif ((ah.1.length : Nat) : Int) == 0 then (
     (wQ).bind fun br =>
     some br)
    else (
     some false)))
  else (
   some false))
 else (
  (jB inputs k_).bind fun bj =>
  (xW r_.1 bj).bind fun dr =>
  bif dr then (
   (ug inputs k_).bind fun em =>
   (xW ah.1 em).bind fun cq =>
   bif cq then (
    (wQ).bind fun cr =>
    some cr)
   else (
    some false))
  else (
   some false))
def wc (inputs : Int) (k_ : Int) (r_ : List (List Int) × Int) (ah : List (List Int) × Int) (n_ : Int) (m_ : Int) (s_ : Int) : Option Bool :=
 bif decide (m_ > 4096) then (
  bif !((r_.2 != 0) == true) then (
   some false)
  else (
   bif decide (n_ > 4096) then (
    bif !((ah.2 != 0) == true) then (
     some false)
    else (
     bif r_.2 != 0 then (
      bif r_.2 != 3 then (
       some false)
      else (
       bif ah.2 != 0 then (
        bif ah.2 != 3 then (
         some false)
        else (
         zo inputs k_ r_ ah))
       else (
        zo inputs k_ r_ ah)))
     else (
      bif ah.2 != 0 then (
       bif ah.2 != 3 then (
        some false)
       else (
        zo inputs k_ r_ ah))
      else (
       zo inputs k_ r_ ah))))
   else (
    bif !((ah.2 != 0) == (decide ((w64 (k_ * n_)) > 65536))) then (
     some false)
    else (
     bif r_.2 != 0 then (
      bif r_.2 != 3 then (
       some false)
      else (
       bif ah.2 != 0 then (
        bif ah.2 != 3 then (
         some false)
        else (
         zo inputs k_ r_ ah))
       else (
        zo inputs k_ r_ ah)))
     else (
      bif ah.2 != 0 then (
       bif ah.2 != 3 then (
        some false)
       else (
        zo inputs k_ r_ ah))
      else (
       zo inputs k_ r_ ah))))))
 else (
  bif !((r_.2 != 0) == (decide (s_ > 65536))) then (
   some false)
  else (
   bif decide (n_ > 4096) then (
    bif !((ah.2 != 0) == true) then (
     some false)
    else (
     bif r_.2 != 0 then (
      bif r_.2 != 3 then (
       some false)
      else (
       bif ah.2 != 0 then (
        bif ah.2 != 3 then (
         some false)
        else (
         zo inputs k_ r_ ah))
       else (
        zo inputs k_ r_ ah)))
     else (
      bif ah.2 != 0 then (
       bif ah.2 != 3 then (
        some false)
       else (
        zo inputs k_ r_ ah))
      else (
       zo inputs k_ r_ ah))))
   else (
    bif !((ah.2 != 0) == (decide ((w64 (k_ * n_)) > 65536))) then (
     some false)
    else (
     bif r_.2 != 0 then (
      bif r_.2 != 3 then (
       some false)
      else (
       bif ah.2 != 0 then (
        bif ah.2 != 3 then (
         some false)
        else (
         zo inputs k_ r_ ah))
       else (
        zo inputs k_ r_ ah)))
     else (
      bif ah.2 != 0 then (
       bif ah.2 != 3 then (
        some false)
       else (
        zo inputs k_ r_ ah))
      else (
       zo inputs k_ r_ ah))))))
def vt (inputs : Int) (k_ : Int) (bn : Int) (il : Int) (dh : Int) (i_ : Int) : Option (LR (Int × Int × Int × Int) ((Int × Int × Int))) :=
 bif decide (i_ ≤ k_) then (
  some (.next ((mn (w64 (bn * inputs)) 100000), (mn (w64 (il + (mn (w64 (bn * inputs)) 100000))) 100000), (mn (w64 (dh + (w64 (i_ * (mn (w64 (bn * inputs)) 100000))))) 10000000), w64 (i_ + 1))))
 else (
  some (.done (bn, il, dh)))
def zV (inputs : Int) (k_ : Int) (r_ : List (List Int) × Int) (ah : List (List Int) × Int) (gg : Int) : Option Bool :=
 bif gg != 0 then (
  bif r_.2 == gg then (
   bif ah.2 == gg then (
    bif (w64 (((r_.1.length : Nat) : Int) + ((ah.1.length : Nat) : Int))) == 0 then (
     (wQ).bind fun aq =>
     some aq)
    else (
     some false))
   else (
    some false))
  else (
   some false))
 else (
  (loop (fun s => vt inputs k_ s.1 s.2.1 s.2.2.1 s.2.2.2) (1, 1, 0, 1)).bind fun t5 =>
  wc inputs k_ r_ ah t5.1 t5.2.1 t5.2.2)
def zG (inputs : Int) (k_ : Int) : Option Bool :=
 (yl inputs k_).bind fun r_ =>
 (yi inputs k_).bind fun ah =>
 bif decide (inputs > 16) then (
  zV inputs k_ r_ ah 3)
 else (
  bif decide (inputs < 1) then (
   zV inputs k_ r_ ah 1)
  else (
   bif decide (k_ < 0) then (
    zV inputs k_ r_ ah 1)
   else (
    bif decide (k_ > 256) then (
     zV inputs k_ r_ ah 3)
    else (
     zV inputs k_ r_ ah 0))))
def xR (inputs : Int) (k_ : Int) : Option Bool :=
 bif decide (inputs ≥ 1) then (
  bif decide (inputs ≤ 16) then (
   bif decide (k_ > 8) then (
    bif decide (inputs > 1) then (
     some true)
    else (
     bif decide (k_ ≤ 300) then (
      bif decide (k_ > 40) then (
       some true)
      else (
       zG inputs k_))
     else (
      zG inputs k_)))
   else (
    zG inputs k_))
  else (
   zG inputs k_))
 else (
  zG inputs k_)
def x4 (long : List (List Int)) : Option Bool :=
 (uU long 2).bind fun dr =>
 (y8 ([[1]])).bind fun em =>
 (wi long em 2).bind fun cq =>
 (y8 ([[1]])).bind fun cr =>
 (wH long cr 2).bind fun gk =>
 (idx long 0).bind fun fy =>
 (y8 ([fy])).bind fun cb =>
 (ym cb 2).bind fun fu =>
 (kl long 2).bind fun ca =>
 (vA ca.1).bind fun ga =>
 bif dr.1 != 65536 then (
  some false)
 else (
  bif dr.2 != 0 then (
   some false)
  else (
   bif cq.2 != 3 then (
    some false)
   else (
    bif gk.2 != 3 then (
     some false)
    else (
     bif fu.2 != 0 then (
      some false)
     else (
      bif ((fu.1.length : Nat) : Int) != 257 then (
       some false)
      else (
       bif ca.2 != 0 then (
        some false)
       else (
        bif ga.2 != 0 then (
         some false)
        else (
         bif ga.1 != 256 then (
          some false)
         else (
          (ym long 2).bind fun ct =>
          (yl 1 256).bind fun gb =>
          (yl 1 257).bind fun dv =>
          (yi 2 12).bind fun dt =>
          (yi 2 13).bind fun ik =>
          bif ct.2 == 3 then (
           bif gb.2 == 0 then (
            bif ((gb.1.length : Nat) : Int) == 257 then (
             bif dv.2 == 3 then (
              bif dt.2 == 0 then (
               bif ((dt.1.length : Nat) : Int) == 4096 then (
                bif ik.2 == 3 then (
                 (xR 16 1).bind fun gl =>
                 bif gl then (
                  (xR 17 (-1)).bind fun fp =>
                  bif fp then (
                   (xR 0 300).bind fun gu =>
                   bif gu then (
                    (wQ).bind fun dw =>
                    some dw)
                   else (
                    some false))
                  else (
                   some false))
                 else (
                  some false))
                else (
                 some false))
               else (
                some false))
              else (
               some false))
             else (
              some false))
            else (
             some false))
           else (
            some false))
          else (
           some false))))))))))
def wS (i_ : Int) (gq : List (List Int)) : z2i :=
 some (.next (gq, w64 (i_ + 1)))
def wR (cg : List (List Int)) (i_ : Int) (w_ : List Int) : z2i :=
 gd (cg.length + [w_].length ≤ 4294967296) <|
 wS i_ (cg ++ [w_])
def yu (i_ : Int) (gr : List Int) (k_ : Int) : R3_ :=
 bif decide (k_ < 8) then (
  gd ((0 : Int) ≤ w64 (7 - k_)) <|
  gd ((2 : Int) ≠ 0) <|
  (idx gr k_).bind fun cm =>
  some (.next ((gr.set k_.toNat (Int.tmod (Int.fdiv i_ (2 ^ (min (w64 (7 - k_)).toNat 64))) 2)), w64 (k_ + 1))))
 else (
  some (.done gr))
def yg (cg : List (List Int)) (i_ : Int) : z2i :=
 bif decide (i_ < 256) then (
  gd ((0 : Int) ≤ 256 ∧ (256 : Int) ≤ 4294967296) <|
  (loop (fun s => yu i_ s.1 s.2) ((List.replicate (256 : Int).toNat (0 : Int)), 0)).bind fun t5 =>
  wR cg i_ t5)
 else (
  some (.done cg))
def v7 : Option Bool :=
 (yi 16 3).bind fun r_ =>
 (y8 ([[]])).bind fun ah =>
 (wi r_.1 ah 16).bind fun aq =>
 (yl 16 3).bind fun ar =>
 bif r_.2 != 0 then (
  some false)
 else (
  bif ((r_.1.length : Nat) : Int) != 4096 then (
   some false)
  else (
   bif aq.2 != 3 then (
    some false)
   else (
    bif ((aq.1.length : Nat) : Int) != 0 then (
     some false)
    else (
     bif ar.2 != 3 then (
      some false)
     else (
      (y4 r_.1 16).bind fun br =>
      bif br != 0 then (
       some false)
      else (
       gd (([] : List (List Int)).length + r_.1.length ≤ 4294967296) <|
       gd (r_.1.length + ([[0, 0, 0, 0]] : List (List Int)).length ≤ 4294967296) <|
       (y4 (r_.1 ++ ([[0, 0, 0, 0]] : List (List Int))) 16).bind fun bj =>
       bif bj != 3 then (
        some false)
       else (
        (loop (fun s => yg s.1 s.2) (([] : List (List Int)), 0)).bind fun t2 =>
        x4 t2)))))))
abbrev F0_ := eSl 1 true (eI .i64)
abbrev F1_ := eOs 1 true (eI .i64)
abbrev F2_ := eSl 1 false (eI .i64)
abbrev F3_ := eOs 1 false (eI .i64)
abbrev F4_ := eSl 1 true F0_
abbrev F5_ := eSl 1 false F0_
abbrev F6_ := eSl 1 false F2_
abbrev F7_ := eOs 1 false F2_
abbrev F8_ := yh F1_ eB
abbrev F9_ := yh F0_ eB
abbrev xD := yh F2_ eB
abbrev Yu := yh F3_ eB
abbrev z9s := xe (eI .i64) F0_
abbrev jZ := xe (eI .i64) F2_
abbrev zbe := eOs 2 false F8_
abbrev za8 := eSl 2 true xD
abbrev z1O := eSl 2 false xD
abbrev zbd := eOs 2 false Yu
abbrev z9r := wK (eI .i64) za8
abbrev Xj := wK (eI .i64) z1O
abbrev z8b := yb (eI .i64) zbe
abbrev z8a := yb (eI .i64) zbd
abbrev z89 := yb (eI .i64) z1O
def rpN {α : Type _} (n : Nat) (a : α) (l : List α) : List α := Nat.rec l (fun _ r => a :: r) n
end Go.Own

namespace Go.Proofs
open Go.Shelf
def Try.so62_ren : Go.Shelf.Ren := ⟨fun | 6 => 62 | 15 => 87 | 14 => 86 | 28 => 110 | 29 => 111 | 20 => 102 | 21 => 103 | 22 => 104 | 23 => 105 | 24 => 106 | 25 => 107 | 26 => 108 | 27 => 109 | 46 => 116 | 47 => 117 | 48 => 118 | 49 => 119 | 50 => 120 | 57 => 121 | n => n, fun | 22 => 22 | 24 => 29 | 25 => 95 | 3 => 3 | 39 => 117 | 0 => 0 | 53 => 144 | 55 => 146 | 4 => 4 | 46 => 137 | 45 => 136 | 50 => 141 | 5 => 5 | 9 => 9 | 66 => 151 | 70 => 155 | 76 => 157 | 77 => 158 | n => n, fun | n => n⟩
theorem Try.so62 : Go.Proofs.SlLaysF0.n6 Try.prog Try.so62_ren := {
 mixed := by kernel_rfl
 f6 := ⟨Try.f62.name, by decide, Try.func62.trans (congrArg some (by kernel_rfl))⟩
 f14 := ⟨Try.f86.name, by decide, Try.func86.trans (congrArg some (by kernel_rfl))⟩
 f15 := Try.func87.trans (congrArg some (by kernel_rfl))
 f20 := ⟨Try.f102.name, by decide, Try.func102.trans (congrArg some (by kernel_rfl))⟩
 f21 := ⟨Try.f103.name, by decide, Try.func103.trans (congrArg some (by kernel_rfl))⟩
 f22 := ⟨Try.f104.name, by decide, Try.func104.trans (congrArg some (by kernel_rfl))⟩
 f23 := ⟨Try.f105.name, by decide, Try.func105.trans (congrArg some (by kernel_rfl))⟩
 f24 := ⟨Try.f106.name, by decide, Try.func106.trans (congrArg some (by kernel_rfl))⟩
 f25 := ⟨Try.f107.name, by decide, Try.func107.trans (congrArg some (by kernel_rfl))⟩
 f26 := ⟨Try.f108.name, by decide, Try.func108.trans (congrArg some (by kernel_rfl))⟩
 f27 := ⟨Try.f109.name, by decide, Try.func109.trans (congrArg some (by kernel_rfl))⟩
 f28 := Try.func110.trans (congrArg some (by kernel_rfl))
 f29 := Try.func111.trans (congrArg some (by kernel_rfl))
 f46 := ⟨Try.f116.name, by decide, Try.func116.trans (congrArg some (by kernel_rfl))⟩
 f47 := Try.func117.trans (congrArg some (by kernel_rfl))
 f48 := Try.func118.trans (congrArg some (by kernel_rfl))
 f49 := ⟨Try.f119.name, by decide, Try.func119.trans (congrArg some (by kernel_rfl))⟩
 f50 := ⟨Try.f120.name, by decide, Try.func120.trans (congrArg some (by kernel_rfl))⟩
 f57 := ⟨Try.f121.name, by decide, Try.func121.trans (congrArg some (by kernel_rfl))⟩
 t0 := Try.underlying0
 a0 := Try.isAgg0
 z0 := Try.sizeOf0
 v0 := Try.zeroValue0
 t3 := Try.underlying3
 a3 := Try.isAgg3
 z3 := Try.sizeOf3
 v3 := Try.zeroValue3
 t4 := Try.underlying4
 a4 := Try.isAgg4
 z4 := Try.sizeOf4
 v4 := Try.zeroValue4
 t5 := Try.underlying5
 a5 := Try.isAgg5
 z5 := Try.sizeOf5
 v5 := Try.zeroValue5
 t9 := Try.underlying9
 a9 := Try.isAgg9
 z9 := Try.sizeOf9
 v9 := Try.zeroValue9
 t22 := Try.underlying22
 a22 := Try.isAgg22
 z22 := Try.sizeOf22
 v22 := Try.zeroValue22
 t25 := Try.underlying95
 a25 := Try.isAgg95
 z25 := Try.sizeOf95
 v25 := Try.zeroValue95
 t39 := Try.underlying117
 a39 := Try.isAgg117
 z39 := Try.sizeOf117
 v39 := Try.zeroValue117
 t45 := Try.underlying136
 a45 := Try.isAgg136
 z45 := Try.sizeOf136
 v45 := Try.zeroValue136
 t46 := Try.underlying137
 a46 := Try.isAgg137
 z46 := Try.sizeOf137
 v46 := Try.zeroValue137
 t50 := Try.underlying141
 a50 := Try.isAgg141
 z50 := Try.sizeOf141
 v50 := Try.zeroValue141
 t53 := Try.underlying144
 a53 := Try.isAgg144
 z53 := Try.sizeOf144
 v53 := Try.zeroValue144
 t55 := Try.underlying146
 a55 := Try.isAgg146
 z55 := Try.sizeOf146
 v55 := Try.zeroValue146
 t66 := Try.underlying151
 a66 := Try.isAgg151
 z66 := Try.sizeOf151
 v66 := Try.zeroValue151
 t70 := Try.underlying155
 a70 := Try.isAgg155
 z70 := Try.sizeOf155
 v70 := Try.zeroValue155
 t76 := Try.underlying157
 a76 := Try.isAgg157
 z76 := Try.sizeOf157
 v76 := Try.zeroValue157
 t77 := Try.underlying158
 a77 := Try.isAgg158
 z77 := Try.sizeOf158
 v77 := Try.zeroValue158 }
end Go.Proofs
