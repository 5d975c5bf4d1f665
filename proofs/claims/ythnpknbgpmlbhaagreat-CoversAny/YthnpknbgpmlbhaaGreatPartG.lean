/- -/
import Derived.Test.YthnpknbgpmlbhaaGreatPartF
import Derived.Test.YthnpknbgpmlbhaaGreatPartC
import Derived.Test.YthnpknbgpmlbhaaGreatPartE
import Derived.Test.YthnpknbgpmlbhaaGreatPartB
import Derived.OpenShut
import Derived.ChangeShapes
set_option linter.unusedVariables false
set_option linter.unusedSimpArgs false
namespace Go.Own
open Go.Proofs
theorem yc {l : List zU} {s : zU} (h : ((l.map zU.k).contains s.k) = false) : ∀ t ∈ l, t.k ≠ s.k := by
 intro t ht e
 have : (l.map zU.k).contains s.k = true := by
  rw [List.contains_iff_mem, ← e]
  exact List.mem_map_of_mem ht
 rw [h] at this
 cases this
theorem zt {l : List zU} {c : Ctr} (H : ∀ t ∈ l, c.Has t) (i : Nat) {s : zU} (h : l[i]? = some s) : c.Has s := H _ (List.mem_of_getElem? h)
noncomputable def L0 : List zU := ZO :: []
noncomputable def L1 : List zU := ju :: L0
noncomputable def L2 : List zU := Xp :: L1
noncomputable def L3 : List zU := ZN :: L2
noncomputable def L4 : List zU := jO :: L3
noncomputable def L5 : List zU := jP :: L4
noncomputable def L6 : List zU := uQ :: L5
noncomputable def L7 : List zU := yu :: L6
noncomputable def L8 : List zU := yi :: L7
noncomputable def L9 : List zU := vh :: L8
noncomputable def L10 : List zU := wR :: L9
noncomputable def L11 : List zU := w4 :: L10
noncomputable def L12 : List zU := ub :: L11
noncomputable def L13 : List zU := j6 :: L12
noncomputable def L14 : List zU := w5 :: L13
noncomputable def L15 : List zU := yM :: L14
noncomputable def L16 : List zU := ZJ :: L15
noncomputable def L17 : List zU := kP :: L16
noncomputable def L18 : List zU := jK :: L17
noncomputable def L19 : List zU := wk :: L18
noncomputable def L20 : List zU := xD :: L19
noncomputable def L21 : List zU := ZI :: L20
noncomputable def L22 : List zU := js :: L21
noncomputable def L23 : List zU := vg :: L22
noncomputable def L24 : List zU := jR :: L23
noncomputable def L25 : List zU := vX :: L24
noncomputable def L26 : List zU := wS :: L25
noncomputable def L27 : List zU := YE :: L26
noncomputable def L28 : List zU := vF :: L27
noncomputable def L29 : List zU := j7 :: L28
noncomputable def L30 : List zU := xE :: L29
noncomputable def L31 : List zU := jr :: L30
noncomputable def L32 : List zU := u9 :: L31
noncomputable def L33 : List zU := Yz :: L32
noncomputable def L34 : List zU := vG :: L33
noncomputable def L35 : List zU := Xo :: L34
noncomputable def L36 : List zU := Yy :: L35
noncomputable def L37 : List zU := ZK :: L36
noncomputable def L38 : List zU := jt :: L37
noncomputable def L39 : List zU := Yx :: L38
noncomputable def L40 : List zU := Xn :: L39
noncomputable def L41 : List zU := kQ :: L40
noncomputable def L42 : List zU := wI :: L41
noncomputable def L43 : List zU := wH :: L42
noncomputable def L44 : List zU := YA :: L43
noncomputable def L45 : List zU := jM :: L44
noncomputable def L46 : List zU := ZL :: L45
noncomputable def L47 : List zU := uK :: L46
noncomputable def L48 : List zU := ZM :: L47
noncomputable def L49 : List zU := uc :: L48
noncomputable def L50 : List zU := qo :: L49
noncomputable def L51 : List zU := ul :: L50
noncomputable def L52 : List zU := jv :: L51
noncomputable def L53 : List zU := vj :: L52
noncomputable def L54 : List zU := vW :: L53
noncomputable def L55 : List zU := xP :: L54
noncomputable def L56 : List zU := xj :: L55
noncomputable def L57 : List zU := uB :: L56
noncomputable def L58 : List zU := wu :: L57
noncomputable def L59 : List zU := zD :: L58
noncomputable def L60 : List zU := xQ :: L59
noncomputable def L61 : List zU := vB :: L60
noncomputable def L62 : List zU := xC :: L61
noncomputable def L63 : List zU := x3 :: L62
noncomputable def L64 : List zU := ud :: L63
noncomputable def L65 : List zU := x4 :: L64
noncomputable def L66 : List zU := jQ :: L65
noncomputable def L67 : List zU := YD :: L66
noncomputable def L68 : List zU := YB :: L67
noncomputable def L69 : List zU := YC :: L68
noncomputable def L70 : List zU := kr :: L69
noncomputable def L71 : List zU := ZP :: L70
noncomputable def L72 : List zU := ku :: L71
noncomputable def L73 : List zU := uE :: L72
noncomputable def L74 : List zU := jL :: L73
noncomputable def L75 : List zU := ua :: L74
noncomputable def L76 : List zU := wx :: L75
noncomputable def L77 : List zU := qm :: L76
theorem zeL : zr Tryz.prog L0 := ⟨fun _ hC H => KW hC, yc (by kernel_rfl), trivial⟩
theorem zeK : zr Tryz.prog L1 := ⟨fun _ hC H => KR hC, yc (by kernel_rfl), zeL⟩
theorem zeJ : zr Tryz.prog L2 := ⟨fun _ hC H => z2b hC (zt H 0 rfl), yc (by kernel_rfl), zeK⟩
theorem zeI : zr Tryz.prog L3 := ⟨fun _ hC H => KU hC, yc (by kernel_rfl), zeJ⟩
theorem zeH : zr Tryz.prog L4 := ⟨fun _ hC H => Qx hC, yc (by kernel_rfl), zeI⟩
theorem zeG : zr Tryz.prog L5 := ⟨fun _ hC H => Qy hC (zt H 0 rfl), yc (by kernel_rfl), zeH⟩
theorem zeF : zr Tryz.prog L6 := ⟨fun _ hC H => WQ hC (zt H 0 rfl), yc (by kernel_rfl), zeG⟩
theorem zeE : zr Tryz.prog L7 := ⟨fun _ hC H => uD hC (zt H 0 rfl), yc (by kernel_rfl), zeF⟩
theorem zeD : zr Tryz.prog L8 := ⟨fun _ hC H => u3 hC (zt H 0 rfl), yc (by kernel_rfl), zeE⟩
theorem zeC : zr Tryz.prog L9 := ⟨fun _ hC H => UL hC (zt H 0 rfl), yc (by kernel_rfl), zeD⟩
theorem zdd : zr Tryz.prog L10 := ⟨fun _ hC H => Ya hC, yc (by kernel_rfl), zeC⟩
theorem zdc : zr Tryz.prog L11 := ⟨fun _ hC H => kN hC (zt H 0 rfl), yc (by kernel_rfl), zdd⟩
theorem zdb : zr Tryz.prog L12 := ⟨fun _ hC H => XZ hC (zt H 2 rfl) (zt H 0 rfl), yc (by kernel_rfl), zdc⟩
theorem zda : zr Tryz.prog L13 := ⟨fun _ hC H => UJ hC, yc (by kernel_rfl), zdb⟩
theorem zd9 : zr Tryz.prog L14 := ⟨fun _ hC H => X6 hC, yc (by kernel_rfl), zda⟩
theorem zd8 : zr Tryz.prog L15 := ⟨fun _ hC H => Xi hC, yc (by kernel_rfl), zd9⟩
theorem zd7 : zr Tryz.prog L16 := ⟨fun _ hC H => KM hC (zt H 2 rfl) (zt H 1 rfl) (zt H 0 rfl), yc (by kernel_rfl), zd8⟩
theorem zd6 : zr Tryz.prog L17 := ⟨fun _ hC H => JV hC (zt H 7 rfl) (zt H 0 rfl), yc (by kernel_rfl), zd7⟩
theorem zd5 : zr Tryz.prog L18 := ⟨fun _ hC H => Qs hC, yc (by kernel_rfl), zd6⟩
theorem zd4 : zr Tryz.prog L19 := ⟨fun _ hC H => Zl hC (zt H 0 rfl), yc (by kernel_rfl), zd5⟩
theorem zd3 : zr Tryz.prog L20 := ⟨fun _ hC H => jI hC (zt H 0 rfl), yc (by kernel_rfl), zd4⟩
theorem zd2 : zr Tryz.prog L21 := ⟨fun _ hC H => KL hC (zt H 0 rfl), yc (by kernel_rfl), zd3⟩
theorem zd1 : zr Tryz.prog L22 := ⟨fun _ hC H => KO hC (zt H 0 rfl), yc (by kernel_rfl), zd2⟩
theorem zd0 : zr Tryz.prog L23 := ⟨fun _ hC H => Yu hC, yc (by kernel_rfl), zd1⟩
theorem zcZ : zr Tryz.prog L24 := ⟨fun _ hC H => QC hC, yc (by kernel_rfl), zd0⟩
theorem zcY : zr Tryz.prog L25 := ⟨fun _ hC H => Vs hC (zt H 0 rfl), yc (by kernel_rfl), zcZ⟩
theorem zcX : zr Tryz.prog L26 := ⟨fun _ hC H => Yb hC (zt H 0 rfl), yc (by kernel_rfl), zcY⟩
theorem zcW : zr Tryz.prog L27 := ⟨fun _ hC H => z10 hC, yc (by kernel_rfl), zcX⟩
theorem zcV : zr Tryz.prog L28 := ⟨fun _ hC H => Qr hC (zt H 2 rfl) (zt H 1 rfl) (zt H 0 rfl), yc (by kernel_rfl), zcW⟩
theorem zcU : zr Tryz.prog L29 := ⟨fun _ hC H => UK hC (zt H 0 rfl), yc (by kernel_rfl), zcV⟩
theorem zcT : zr Tryz.prog L30 := ⟨fun _ hC H => jJ hC (zt H 0 rfl), yc (by kernel_rfl), zcU⟩
theorem zcS : zr Tryz.prog L31 := ⟨fun _ hC H => KN hC, yc (by kernel_rfl), zcT⟩
theorem zcR : zr Tryz.prog L32 := ⟨fun _ hC H => JW hC (zt H 8 rfl) (zt H 3 rfl) (zt H 1 rfl) (zt H 0 rfl) (zt H 17 rfl) (zt H 16 rfl), yc (by kernel_rfl), zcS⟩
theorem zcQ : zr Tryz.prog L33 := ⟨fun _ hC H => z0T hC (zt H 10 rfl) (zt H 0 rfl), yc (by kernel_rfl), zcR⟩
theorem zcP : zr Tryz.prog L34 := ⟨fun _ hC H => QB hC (zt H 21 rfl) (zt H 16 rfl) (zt H 0 rfl), yc (by kernel_rfl), zcQ⟩
theorem zcO : zr Tryz.prog L35 := ⟨fun _ hC H => z2a hC (zt H 2 rfl) (zt H 19 rfl), yc (by kernel_rfl), zcP⟩
theorem zcN : zr Tryz.prog L36 := ⟨fun _ hC H => z0S hC (zt H 0 rfl), yc (by kernel_rfl), zcO⟩
theorem zcM : zr Tryz.prog L37 := ⟨fun _ hC H => KP hC (zt H 8 rfl), yc (by kernel_rfl), zcN⟩
theorem zcL : zr Tryz.prog L38 := ⟨fun _ hC H => KQ hC (zt H 15 rfl) (zt H 0 rfl) (zt H 6 rfl), yc (by kernel_rfl), zcM⟩
theorem zcK : zr Tryz.prog L39 := ⟨fun _ hC H => z0R hC (zt H 0 rfl), yc (by kernel_rfl), zcL⟩
theorem zcJ : zr Tryz.prog L40 := ⟨fun _ hC H => z29 hC, yc (by kernel_rfl), zcK⟩
theorem zcI : zr Tryz.prog L41 := ⟨fun _ hC H => JX hC (zt H 1 rfl) (zt H 25 rfl) (zt H 0 rfl) (zt H 8 rfl), yc (by kernel_rfl), zcJ⟩
theorem zcH : zr Tryz.prog L42 := ⟨fun _ hC H => Vr hC (zt H 7 rfl) (zt H 5 rfl) (zt H 0 rfl), yc (by kernel_rfl), zcI⟩
theorem zcG : zr Tryz.prog L43 := ⟨fun _ hC H => W1 hC (zt H 0 rfl), yc (by kernel_rfl), zcH⟩
theorem zcF : zr Tryz.prog L44 := ⟨fun _ hC H => z0V hC, yc (by kernel_rfl), zcG⟩
theorem zcE : zr Tryz.prog L45 := ⟨fun _ hC H => Qu hC, yc (by kernel_rfl), zcF⟩
theorem zcD : zr Tryz.prog L46 := ⟨fun _ hC H => KS hC (zt H 1 rfl) (zt H 0 rfl), yc (by kernel_rfl), zcE⟩
theorem zcC : zr Tryz.prog L47 := ⟨fun _ hC H => Qv hC, yc (by kernel_rfl), zcD⟩
theorem zcB : zr Tryz.prog L48 := ⟨fun _ hC H => KT hC (zt H 1 rfl) (zt H 0 rfl) (zt H 46 rfl), yc (by kernel_rfl), zcC⟩
theorem zcA : zr Tryz.prog L49 := ⟨fun _ hC H => JY hC (zt H 39 rfl) (zt H 10 rfl), yc (by kernel_rfl), zcB⟩
theorem zcz : zr Tryz.prog L50 := ⟨fun _ hC H => JZ hC, yc (by kernel_rfl), zcA⟩
theorem zcy : zr Tryz.prog L51 := ⟨fun _ hC H => UM hC (zt H 1 rfl) (zt H 0 rfl), yc (by kernel_rfl), zcz⟩
theorem zcx : zr Tryz.prog L52 := ⟨fun _ hC H => KY hC (zt H 1 rfl), yc (by kernel_rfl), zcy⟩
theorem zcw : zr Tryz.prog L53 := ⟨fun _ hC H => Yv hC, yc (by kernel_rfl), zcx⟩
theorem zcv : zr Tryz.prog L54 := ⟨fun _ hC H => Xj hC (zt H 0 rfl), yc (by kernel_rfl), zcw⟩
theorem zcu : zr Tryz.prog L55 := ⟨fun _ hC H => ko hC (zt H 0 rfl), yc (by kernel_rfl), zcv⟩
theorem zct : zr Tryz.prog L56 := ⟨fun _ hC H => qY hC (zt H 0 rfl), yc (by kernel_rfl), zcu⟩
theorem zcs : zr Tryz.prog L57 := ⟨fun _ hC H => Wk hC (zt H 0 rfl), yc (by kernel_rfl), zct⟩
theorem zcr : zr Tryz.prog L58 := ⟨fun _ hC H => Xk hC (zt H 8 rfl) (zt H 5 rfl) (zt H 0 rfl), yc (by kernel_rfl), zcs⟩
theorem zcq : zr Tryz.prog L59 := ⟨fun _ hC H => jz hC, yc (by kernel_rfl), zcr⟩
theorem zcp : zr Tryz.prog L60 := ⟨fun _ hC H => kp hC (zt H 0 rfl), yc (by kernel_rfl), zcq⟩
theorem zco : zr Tryz.prog L61 := ⟨fun _ hC H => X9 hC (zt H 0 rfl), yc (by kernel_rfl), zcp⟩
theorem zcn : zr Tryz.prog L62 := ⟨fun _ hC H => jH hC (zt H 0 rfl), yc (by kernel_rfl), zco⟩
theorem zcm : zr Tryz.prog L63 := ⟨fun _ hC H => qO hC (zt H 0 rfl), yc (by kernel_rfl), zcn⟩
theorem zcl : zr Tryz.prog L64 := ⟨fun _ hC H => W0 hC (zt H 0 rfl), yc (by kernel_rfl), zcm⟩
theorem zck : zr Tryz.prog L65 := ⟨fun _ hC H => Zm hC (zt H 15 rfl) (zt H 12 rfl) (zt H 0 rfl), yc (by kernel_rfl), zcl⟩
theorem zcj : zr Tryz.prog L66 := ⟨fun _ hC H => Qz hC, yc (by kernel_rfl), zck⟩
theorem zci : zr Tryz.prog L67 := ⟨fun _ hC H => z0Z hC, yc (by kernel_rfl), zcj⟩
theorem zch : zr Tryz.prog L68 := ⟨fun _ hC H => z0W hC (zt H 20 rfl), yc (by kernel_rfl), zci⟩
theorem zcg : zr Tryz.prog L69 := ⟨fun _ hC H => z0Y hC (zt H 0 rfl), yc (by kernel_rfl), zch⟩
theorem zcf : zr Tryz.prog L70 := ⟨fun _ hC H => z0U hC, yc (by kernel_rfl), zcg⟩
theorem zce : zr Tryz.prog L71 := ⟨fun _ hC H => KX hC (zt H 4 rfl) (zt H 3 rfl) (zt H 36 rfl) (zt H 27 rfl) (zt H 28 rfl) (zt H 19 rfl) (zt H 1 rfl) (zt H 0 rfl) (zt H 12 rfl) (zt H 5 rfl), yc (by kernel_rfl), zcf⟩
theorem zcd : zr Tryz.prog L72 := ⟨fun _ hC H => z0X hC, yc (by kernel_rfl), zce⟩
theorem zcc : zr Tryz.prog L73 := ⟨fun _ hC H => KV hC (zt H 0 rfl), yc (by kernel_rfl), zcd⟩
theorem zcb : zr Tryz.prog L74 := ⟨fun _ hC H => Qt hC (zt H 0 rfl), yc (by kernel_rfl), zcc⟩
theorem zca : zr Tryz.prog L75 := ⟨fun _ hC H => XY hC (zt H 1 rfl), yc (by kernel_rfl), zcb⟩
theorem zc9 : zr Tryz.prog L76 := ⟨fun _ hC H => ZD hC (zt H 2 rfl), yc (by kernel_rfl), zca⟩
theorem zc8 : zr Tryz.prog L77 := ⟨fun _ hC H => Vq hC (zt H 76 rfl) (zt H 74 rfl) (zt H 73 rfl) (zt H 42 rfl) (zt H 33 rfl) (zt H 34 rfl) (zt H 28 rfl) (zt H 25 rfl) (zt H 18 rfl) (zt H 11 rfl) (zt H 5 rfl) (zt H 2 rfl) (zt H 6 rfl) (zt H 1 rfl) (zt H 0 rfl), yc (by kernel_rfl), zc9⟩
end Go.Own

namespace Go.Own
theorem vu {x : Int} (h1 : -9223372036854775808 ≤ x) (h2 : x ≤ 9223372036854775807) : w64 x = x := by
 simp only [w64, IntKind.wrap, IntKind.bits, IntKind.signed]
 simp
 omega
section
variable {α β σ τ ρ : Type}
def Ret (x : Option α) (Q : α → Prop) : Prop := ∃ a, x = some a ∧ Q a
theorem Ret.mono {x : Option α} {Q R : α → Prop} (h : Ret x Q) (q : ∀ a, Q a → R a) : Ret x R := by
 obtain ⟨a, e, h⟩ := h
 exact ⟨a, e, q a h⟩
theorem Ret.eq {x : Option α} {a : α} (h : Ret x fun b => b = a) : x = some a := by
 obtain ⟨b, e, rfl⟩ := h
 exact e
theorem zF {a : α} {Q : α → Prop} : Ret (some a) Q ↔ Q a := ⟨fun ⟨b, e, q⟩ => by cases e; exact q, fun q => ⟨a, rfl, q⟩⟩
theorem qp {x : Option α} {f : α → Option β} {Q : β → Prop} : Ret (Option.bind x f) Q ↔ Ret x fun a => Ret (f a) Q := by
 cases x with
 | none => exact ⟨fun ⟨b, e, _⟩ => (by cases e), fun ⟨b, e, _⟩ => (by cases e)⟩
 | some a => exact ⟨fun h => ⟨a, rfl, h⟩, fun ⟨b, e, h⟩ => by cases e; exact h⟩
theorem uR {c : Bool} {x y : Option α} {Q : α → Prop} : Ret (bif c then x else y) Q ↔ (c = true → Ret x Q) ∧ (c = false → Ret y Q) := by
 cases c <;> simp
theorem jW (l : List α) (i : Nat) : idx l (i : Int) = l[i]? := rfl
theorem gdT {p : Prop} [Decidable p] {x : Option α} (h : p) : gd p x = x := by unfold gd; rw [if_pos h]
theorem bdT {x : Option α} {u : α} {f : α → Option ρ} (h : x = some u) : Option.bind x f = f u := by rw [h]; rfl
theorem kL (step : σ → Option (LR σ τ)) (n : Nat) (s : σ) : W3 step (n + 1) s = (match step s with | none => none | some (.next s') => W3 step n s' | some (.done t) => some t) := rfl
def LRP (N : σ → Prop) (D : τ → Prop) : LR σ τ → Prop
 | .next s => N s
 | .done t => D t
theorem kw {step : σ → Option (LR σ τ)} (I : σ → Prop) (m : σ → Nat) {R : τ → Prop} {s : σ} (hs : I s) (hm : m s < 18446744073709551616)
  (h : ∀ s, I s → Ret (step s) (LRP (fun s' => I s' ∧ m s' < m s) R)) : Ret (loop step s) R := by
 have gen : ∀ (n : Nat) (s : σ), I s → m s < n → Ret (W3 step n s) R := by
  intro n
  induction n with
  | zero => intro s _ h; omega
  | succ n ih =>
   intro s hs hm
   obtain ⟨a, e, q⟩ := h s hs
   rw [kL, e]
   cases a with
   | next s' => exact ih s' q.1 (by have := q.2; omega)
   | done t => exact ⟨t, rfl, q⟩
 exact gen YO s hs hm
theorem V7 {step : σ → Option (LR σ τ)} (st : Nat → σ) (n : Nat) {t : τ} (hn : n < 9223372036854775808) (h : ∀ i, i < n → step (st i) = some (.next (st (i + 1)))) (hd : step (st n) = some (.done t)) : loop step (st 0) = some t := by
 have gen : ∀ (k : Nat) (i : Nat), i ≤ n → n - i < k → W3 step k (st i) = some t := by
  intro k
  induction k with
  | zero => intro i _ h; omega
  | succ k ih =>
   intro i hi hk
   rw [kL]
   rcases Nat.lt_or_ge i n with q | q
   ·rw [h i q]
    exact ih (i + 1) q (by omega)
   ·have : i = n := by omega
    subst this
    rw [hd]
 exact gen YO 0 (Nat.zero_le _) (by show n - 0 < 18446744073709551616; omega)
def y7 (f : Nat → α → Option ρ) : List α → Nat → Option ρ
 | [], _ => none
 | x :: l, i => match f i x with | some r => some r | none => y7 f l (i + 1)
theorem uU {f : Nat → α → Option ρ} : ∀ {l : List α} {k : Nat}, (∀ i x, l[i]? = some x → f (k + i) x = none) → y7 f l k = none
 | [], _, _ => rfl
 | x :: l, k, h => by
  have h0 := h 0 x rfl
  simp only [Nat.add_zero] at h0
  simp only [y7, h0]
  exact uU fun i y hy => by have := h (i + 1) y (by simpa using hy); rwa [show k + 1 + i = k + (i + 1) by omega]
theorem ui {f : Nat → α → Option ρ} {r : ρ} : ∀ {l : List α} {k : Nat}, y7 f l k = some r → ∃ i x, l[i]? = some x ∧ f (k + i) x = some r
 | [], _, h => by cases h
 | x :: l, k, h => by
  simp only [y7] at h
  cases hf : f k x with
  | some r' => rw [hf] at h; exact ⟨0, x, rfl, by rw [Nat.add_zero, hf]; exact h⟩
  | none =>
   rw [hf] at h
   obtain ⟨i, y, h1, h2⟩ := ui h
   exact ⟨i + 1, y, by simpa using h1, by rw [← h2]; congr 1; omega⟩
theorem qA {f : Nat → α → Option ρ} {l : List α} {k : Nat} (h : y7 f l k = none) : ∀ i x, l[i]? = some x → f (k + i) x = none := by
 induction l generalizing k with
 | nil => intro i x h; simp at h
 | cons y l ih =>
  intro i x hx
  simp only [y7] at h
  cases hf : f k y with
  | some r' => rw [hf] at h; cases h
  | none =>
   rw [hf] at h
   cases i with
   | zero => simp at hx; subst hx; simpa using hf
   | succ i => have := ih h i x (by simpa using hx); rwa [show k + (i + 1) = k + 1 + i by omega]
def oS : Option ρ → Unit ⊕ ρ
 | some r => .inr r
 | none => .inl ()
def nS (i : Nat) : Option ρ → LR Int (Unit ⊕ ρ)
 | some r => .done (.inr r)
 | none => .next (w64 ((i : Int) + 1))
theorem yn (l : List α) (hl : l.length < 4611686018427387904) {step : Int → Option (LR Int (Unit ⊕ ρ))} (f : Nat → α → Option ρ)
  (h : ∀ (i : Nat) (x : α), l[i]? = some x → step (i : Int) = some (nS i (f i x))) (h2 : step (l.length : Int) = some (.done (.inl ()))) :
  loop step 0 = some (oS (y7 f l 0)) := by
 have gen : ∀ (n : Nat) (k : Nat), k ≤ l.length → l.length - k < n → W3 step n (k : Int) = some (oS (y7 f (l.drop k) k)) := by
  intro n
  induction n with
  | zero => intro k _ h; omega
  | succ n ih =>
   intro k hk hn
   rw [kL]
   rcases Nat.lt_or_ge k l.length with hlt | hge
   ·have hx : l[k]? = some l[k] := List.getElem?_eq_getElem hlt
    rw [h k _ hx, List.drop_eq_getElem_cons hlt]
    simp only [y7]
    cases hf : f k l[k] with
    | some r => rfl
    | none =>
     simp only [nS]
     rw [vu (by omega) (by omega)]
     exact ih (k + 1) hlt (by omega)
   ·have : k = l.length := by omega
    subst this
    rw [h2, List.drop_length]
    rfl
 exact gen YO 0 (Nat.zero_le _) (by show l.length - 0 < 18446744073709551616; omega)
end
end Go.Own

namespace Go.Own
def Qk (m : z6) (x : zh) : Bool := (x.To == -1 && x.Out == -1) || (decide (0 ≤ x.To) && decide (x.To < (m.Rows.length : Int)) && decide (0 ≤ x.Out) && decide (x.Out < m.Outputs))
def K2 (m : z6) (r : List zh) : Bool := decide ((r.length : Int) = m.Inputs) && r.all (Qk m)
def chk (m : z6) : Int :=
 if m.Inputs > 16 ∨ m.Outputs > 16 ∨ (m.Rows.length : Int) > 64 then 3 else if m.Inputs < 1 ∨ m.Outputs < 1 ∨ m.Rows.length = 0 then 1 else if m.Rows.all (K2 m) = true then 0 else 1
theorem z9R (m : z6) (x : zh) : qw m x = some (Qk m x) := by
 unfold qw kz
 simp only [Option.bind_some, Bool.and_true]
 rcases Bool.eq_false_or_eq_true (x.To == (-1) && x.Out == (-1)) with h | h
 ·simp [Qk, h]
 ·rw [h]
  simp only [Qk, h, Bool.false_or, cond_false]
  by_cases h1 : (0 : Int) ≤ x.To
  ·by_cases h2 : x.To < (m.Rows.length : Int)
   ·by_cases h3 : (0 : Int) ≤ x.Out
    ·simp [Bool.cond_eq_ite, h1, h2, h3]
    ·simp [Bool.cond_eq_ite, h1, h2, h3]
   ·simp [Bool.cond_eq_ite, h1, h2]
  ·simp [h1]
theorem z2J (m : z6) (r : List zh) (hl : r.length < 4611686018427387904) : zM r m = some (!r.all (Qk m)) := by
 have hloop : loop (fun s => zB r m s) 0 = some (oS (y7 (fun i x => if Qk m x = true then none else some (i : Int)) r 0)) := by
  refine yn r hl _ ?_ ?_
  ·intro i x hx
   have hi := (List.getElem?_eq_some_iff.1 hx).1
   unfold zB
   have hd : decide ((i : Int) < ((r.length : Nat) : Int)) = true := by simpa using hi
   rw [hd, cond_true, jW, bdT hx]
   unfold uN
   simp only [z9R, Option.bind_some]
   cases Qk m x <;> rfl
  ·unfold zB
   simp
 unfold zM yd
 rw [hloop]
 simp only [Option.bind_some]
 cases hf : y7 (fun i x => if Qk m x = true then none else some (i : Int)) r 0 with
 | some q =>
  obtain ⟨i, x, h1, h2⟩ := ui hf
  have hx : Qk m x ≠ true := by
   intro h; rw [if_pos h] at h2; cases h2
  rw [if_neg hx] at h2
  simp only [Option.some.injEq] at h2
  have : r.all (Qk m) = false := by
   rw [List.all_eq_false]
   exact ⟨x, List.mem_of_getElem? h1, hx⟩
  rw [this]
  have : (q : Int) ≥ 0 := by rw [← h2]; omega
  show some (decide (q ≥ 0)) = _
  simp [this]
 | none =>
  have : r.all (Qk m) = true := by
   rw [List.all_eq_true]
   intro x hx
   obtain ⟨i, hi⟩ := List.getElem?_of_mem hx
   have := qA hf i x hi
   by_cases h : Qk m x = true
   ·exact h
   ·rw [if_neg h] at this; cases this
  rw [this]
  rfl
theorem z4k {m : z6} (h0 : (m.Rows.length : Int) ≤ 64) (h1 : m.Inputs ≤ 16) : loop (fun s => we m s) 0 = some (oS (y7 (fun _ r => if K2 m r = true then none else some (1 : Int)) m.Rows 0)) := by
 refine yn m.Rows (by omega) _ ?_ ?_
 ·intro i r hr
  have hi := (List.getElem?_eq_some_iff.1 hr).1
  unfold we
  have hd : decide ((i : Int) < ((m.Rows.length : Nat) : Int)) = true := by simpa using hi
  rw [hd, cond_true, jW, bdT hr]
  by_cases hlen : (r.length : Int) = m.Inputs
  ·have hne : (((r.length : Nat) : Int) != m.Inputs) = false := by simpa using hlen
   rw [hne, cond_false, bdT (z2J m r (by omega))]
   have : K2 m r = r.all (Qk m) := by simp [K2, hlen]
   rw [this]
   cases r.all (Qk m) <;> rfl
  ·have hne : (((r.length : Nat) : Int) != m.Inputs) = true := by simpa using hlen
   rw [hne, cond_true]
   have : K2 m r = false := by simp [K2, hlen]
   rw [this]; rfl
 ·unfold we
  simp
theorem Kh (m : z6) : y7 (fun _ r => if K2 m r = true then none else some (1 : Int)) m.Rows 0 = if m.Rows.all (K2 m) = true then none else some 1 := by
 by_cases h : m.Rows.all (K2 m) = true
 ·rw [if_pos h]
  refine uU fun i r hr => ?_
  rw [if_pos (List.all_eq_true.1 h r (List.mem_of_getElem? hr))]
 ·rw [if_neg h]
  cases hf : y7 (fun _ r => if K2 m r = true then none else some (1 : Int)) m.Rows 0 with
  | some q =>
   obtain ⟨i, x, h1, h2⟩ := ui hf
   split at h2
   ·cases h2
   ·exact h2.symm ▸ rfl
  | none =>
   exfalso
   apply h
   rw [List.all_eq_true]
   intro x hx
   obtain ⟨i, hi⟩ := List.getElem?_of_mem hx
   have := qA hf i x hi
   by_cases h : K2 m x = true
   ·exact h
   ·rw [if_neg h] at this; cases this
theorem Qo (m : z6) : wV m = some (chk m) := by
 unfold wV chk
 by_cases h1 : m.Inputs > 16
 ·simp [h1]
 by_cases h2 : m.Outputs > 16
 ·simp [Bool.cond_eq_ite, h1, h2]
 by_cases h3 : (m.Rows.length : Int) > 64
 ·simp [Bool.cond_eq_ite, h1, h2, h3]
 rw [if_neg (by simp [Bool.cond_eq_ite, h1, h2, h3])]
 by_cases h4 : m.Inputs < 1
 ·simp [Bool.cond_eq_ite, h1, h2, h3, h4]
 by_cases h5 : m.Outputs < 1
 ·simp [Bool.cond_eq_ite, h1, h2, h3, h4, h5]
 by_cases h6 : m.Rows.length = 0
 ·simp [Bool.cond_eq_ite, h1, h2, h4, h5, h6]
 rw [if_neg (by simp [h4, h5, h6])]
 have h6' : decide (((m.Rows.length : Nat) : Int) < 1) = false := by simp; omega
 have e1 : decide (m.Inputs > 16) = false := by simpa using h1
 have e2 : decide (m.Outputs > 16) = false := by simpa using h2
 have e3 : decide (((m.Rows.length : Nat) : Int) > 64) = false := by simpa using h3
 have e4 : decide (m.Inputs < 1) = false := by simpa using h4
 have e5 : decide (m.Outputs < 1) = false := by simpa using h5
 simp only [e1, e2, e3, e4, e5, h6', cond_false]
 rw [bdT (z4k (by omega) (by omega)), Kh]
 by_cases h : m.Rows.all (K2 m) = true
 ·rw [if_pos h, if_pos h]; rfl
 ·rw [if_neg h, if_neg h]; rfl
theorem z51 {m : z6} {s : Nat} {r : List zh} (hr : m.Rows[s]? = some r) (hlen : (r.length : Int) = m.Inputs) (h1 : m.Inputs ≤ 16) : loop (fun q => wU m (s : Int) q) 0 = some (if r.all (Qk m) = true then .inl () else .inr 1) := by
 have hl : loop (fun q => wU m (s : Int) q) 0 = some (oS (y7 (fun _ x => if Qk m x = true then none else some (1 : Int)) r 0)) := by
  refine yn r (by omega) _ ?_ ?_
  ·intro i x hx
   have hi := (List.getElem?_eq_some_iff.1 hx).1
   unfold wU
   have hd : decide ((i : Int) < m.Inputs) = true := by rw [← hlen]; simpa using hi
   rw [hd, cond_true, jW, bdT hr, jW, bdT hx]
   unfold uG uH Qk
   by_cases a1 : x.To = -1
   ·by_cases a2 : x.Out = -1
    ·simp [nS, Bool.cond_eq_ite, a1, a2]
    ·simp [nS, Bool.cond_eq_ite, a1, a2]
   ·by_cases a2 : x.To < 0
    ·have : ¬ 0 ≤ x.To := by omega
     simp [nS, Bool.cond_eq_ite, a1, a2, this]
    ·by_cases a3 : (m.Rows.length : Int) ≤ x.To
     ·have : ¬ x.To < (m.Rows.length : Int) := by omega
      simp [nS, Bool.cond_eq_ite, a1, a2, a3, this]
     ·by_cases a4 : x.Out < 0
      ·have : ¬ 0 ≤ x.Out := by omega
       simp [nS, Bool.cond_eq_ite, a1, a2, a3, a4, this]
      ·by_cases a5 : m.Outputs ≤ x.Out
       ·have : ¬ x.Out < m.Outputs := by omega
        simp [nS, Bool.cond_eq_ite, a1, a2, a3, a4, a5, this]
       ·have b1 : 0 ≤ x.To := by omega
        have b2 : x.To < (m.Rows.length : Int) := by omega
        have b3 : 0 ≤ x.Out := by omega
        have b4 : x.Out < m.Outputs := by omega
        simp [nS, Bool.cond_eq_ite, a1, a2, a3, a4, a5, b1, b2, b3, b4]
  ·unfold wU
   simp [hlen]
 rw [hl]
 by_cases h : r.all (Qk m) = true
 ·rw [if_pos h]
  rw [uU fun i x hx => by rw [if_pos (List.all_eq_true.1 h x (List.mem_of_getElem? hx))]]
  rfl
 ·rw [if_neg h]
  cases hf : y7 (fun _ x => if Qk m x = true then none else some (1 : Int)) r 0 with
  | some q =>
   obtain ⟨i, x, h1, h2⟩ := ui hf
   split at h2
   ·cases h2
   ·simp only [Option.some.injEq] at h2; rw [← h2]; rfl
  | none =>
   exfalso
   apply h
   rw [List.all_eq_true]
   intro x hx
   obtain ⟨i, hi⟩ := List.getElem?_of_mem hx
   have := qA hf i x hi
   by_cases h : Qk m x = true
   ·exact h
   ·rw [if_neg h] at this; cases this
theorem z52 (m : z6) : kV m = some (chk m) := by
 unfold kV chk
 by_cases h1 : m.Inputs > 16
 ·simp [h1]
 by_cases h2 : m.Outputs > 16
 ·simp [Bool.cond_eq_ite, h1, h2]
 by_cases h3 : (m.Rows.length : Int) > 64
 ·simp [Bool.cond_eq_ite, h1, h2, h3]
 rw [if_neg (by simp [Bool.cond_eq_ite, h1, h2, h3])]
 by_cases h4 : m.Inputs < 1
 ·simp [Bool.cond_eq_ite, h1, h2, h3, h4]
 by_cases h5 : m.Outputs < 1
 ·simp [Bool.cond_eq_ite, h1, h2, h3, h4, h5]
 by_cases h6 : m.Rows.length = 0
 ·simp [Bool.cond_eq_ite, h1, h2, h4, h5, h6]
 rw [if_neg (by simp [h4, h5, h6])]
 have e1 : decide (m.Inputs > 16) = false := by simpa using h1
 have e2 : decide (m.Outputs > 16) = false := by simpa using h2
 have e3 : decide (((m.Rows.length : Nat) : Int) > 64) = false := by simpa using h3
 have e4 : decide (m.Inputs < 1) = false := by simpa using h4
 have e5 : decide (m.Outputs < 1) = false := by simpa using h5
 have e6 : (((m.Rows.length : Nat) : Int) == 0) = false := by simp; intro h; rw [h] at h6; exact h6 rfl
 simp only [e1, e2, e3, e4, e5, e6, cond_false]
 have hl : loop (fun s => vR m s) 0 = some (oS (y7 (fun _ r => if K2 m r = true then none else some (1 : Int)) m.Rows 0)) := by
  refine yn m.Rows (by omega) _ ?_ ?_
  ·intro i r hr
   have hi := (List.getElem?_eq_some_iff.1 hr).1
   unfold vR
   have hd : decide ((i : Int) < ((m.Rows.length : Nat) : Int)) = true := by simpa using hi
   rw [hd, cond_true, jW, bdT hr]
   by_cases hlen : (r.length : Int) = m.Inputs
   ·have hne : (((r.length : Nat) : Int) != m.Inputs) = false := by simpa using hlen
    rw [hne, cond_false, bdT (z51 hr hlen (by omega))]
    have : K2 m r = r.all (Qk m) := by simp [K2, hlen]
    rw [this]
    cases r.all (Qk m) <;> rfl
   ·have hne : (((r.length : Nat) : Int) != m.Inputs) = true := by simpa using hlen
    rw [hne, cond_true]
    have : K2 m r = false := by simp [K2, hlen]
    rw [this]; rfl
  ·unfold vR
   simp
 rw [bdT hl, Kh]
 by_cases h : m.Rows.all (K2 m) = true
 ·rw [if_pos h, if_pos h]; rfl
 ·rw [if_neg h, if_neg h]; rfl
end Go.Own

namespace Go.Own
structure VM (m : z6) : Prop where
 in1 : 1 ≤ m.Inputs
 in16 : m.Inputs ≤ 16
 out1 : 1 ≤ m.Outputs
 out16 : m.Outputs ≤ 16
 len1 : 1 ≤ m.Rows.length
 len64 : m.Rows.length ≤ 64
 row : ∀ r ∈ m.Rows, (r.length : Int) = m.Inputs
 edge : ∀ r ∈ m.Rows, ∀ x ∈ r, (x.To = -1 ∧ x.Out = -1) ∨ (0 ≤ x.To ∧ x.To < (m.Rows.length : Int) ∧ 0 ≤ x.Out ∧ x.Out < m.Outputs)
theorem zdB {m : z6} (h : chk m = 0) : VM m := by
 unfold chk at h
 split at h
 ·cases h
 split at h
 ·cases h
 split at h
 ·rename_i h1 h2 h3
  rw [List.all_eq_true] at h3
  refine ⟨by omega, by omega, by omega, by omega, by omega, by omega, fun r hr => ?_, fun r hr x hx => ?_⟩
  ·have := h3 r hr
   simp only [K2, Bool.and_eq_true, decide_eq_true_eq] at this
   exact this.1
  ·have := h3 r hr
   simp only [K2, Bool.and_eq_true, decide_eq_true_eq, List.all_eq_true] at this
   have := this.2 x hx
   simp only [Qk, Bool.or_eq_true, Bool.and_eq_true, beq_iff_eq, decide_eq_true_eq] at this
   rcases this with ⟨a, b⟩ | ⟨⟨⟨a, b⟩, c⟩, d⟩
   ·exact .inl ⟨a, b⟩
   ·exact .inr ⟨a, b, c, d⟩
 ·cases h
theorem z69 {m : z6} (h : VM m) : chk m = 0 := by
 unfold chk
 have := h.in1; have := h.in16; have := h.out1; have := h.out16; have := h.len1; have := h.len64
 rw [if_neg (by omega), if_neg (by omega), if_pos]
 rw [List.all_eq_true]
 intro r hr
 simp only [K2, Bool.and_eq_true, decide_eq_true_eq, List.all_eq_true]
 refine ⟨h.row r hr, fun x hx => ?_⟩
 simp only [Qk, Bool.or_eq_true, Bool.and_eq_true, beq_iff_eq, decide_eq_true_eq]
 rcases h.edge r hr x hx with ⟨a, b⟩ | ⟨a, b, c, d⟩
 ·exact .inl ⟨a, b⟩
 ·exact .inr ⟨⟨⟨a, b⟩, c⟩, d⟩
def kk (m : z6) : Nat := m.Inputs.toNat
def E (m : z6) (s i : Nat) : zh := ((m.Rows[s]?.getD [])[i]?).getD ⟨-1, -1⟩
section
variable {m : z6} (h : VM m)
include h
theorem VM.kk_eq : ((kk m : Nat) : Int) = m.Inputs := by have := h.in1; unfold kk; omega
theorem VM.kk_pos : 1 ≤ kk m := by have := h.in1; unfold kk; omega
theorem VM.kk_le : kk m ≤ 16 := by have := h.in16; unfold kk; omega
theorem VM.rowAt {s : Nat} (hs : s < m.Rows.length) : ∃ r, m.Rows[s]? = some r ∧ r.length = kk m ∧ ∀ i, i < kk m → r[i]? = some (E m s i) := by
 have hr := List.getElem?_eq_getElem hs
 have hl := h.row _ (List.getElem_mem hs)
 have hl' : m.Rows[s].length = kk m := by unfold kk; omega
 refine ⟨_, hr, hl', fun i hi => ?_⟩
 have hi' : i < m.Rows[s].length := by omega
 unfold E
 rw [hr]
 simp only [Option.getD_some]
 rw [List.getElem?_eq_getElem hi']
 rfl
theorem VM.edgeAt {s i : Nat} (hs : s < m.Rows.length) (hi : i < kk m) : ((E m s i).To = -1 ∧ (E m s i).Out = -1) ∨ (0 ≤ (E m s i).To ∧ (E m s i).To < (m.Rows.length : Int) ∧ 0 ≤ (E m s i).Out ∧ (E m s i).Out < m.Outputs) := by
 obtain ⟨r, h1, _, h2⟩ := h.rowAt hs
 exact h.edge r (List.mem_of_getElem? h1) _ (List.mem_of_getElem? (h2 i hi))
theorem VM.edge_eq {s i : Nat} (hs : s < m.Rows.length) (hi : i < kk m) {β : Type} {f : zh → Option β} :
  (Option.bind (idx m.Rows (s : Int)) fun r => Option.bind (idx r (i : Int)) f) = f (E m s i) := by
 obtain ⟨r, h1, _, h2⟩ := h.rowAt hs
 rw [jW, h1, Option.bind_some, jW, h2 i hi, Option.bind_some]
end
end Go.Own

namespace Go.Own
section
variable {S : Type}
def rv (k : Nat) : List Nat → Nat
 | [] => 0
 | i :: u => rv k u * k + i + 1
def z6A (k : Nat) (bad : S → Nat → Bool) (nx : S → Nat → Option S) (p0 : S) : List Nat → S → Prop
 | [], q => q = p0
 | i :: u, q => ∃ p, z6A k bad nx p0 u p ∧ i < k ∧ bad p i = false ∧ nx p i = some q
structure Bfs (k : Nat) (bad : S → Nat → Bool) (nx : S → Nat → Option S) (p0 : S) (L : List (S × List Nat)) (at_ i : Nat) : Prop where
 first : L[0]? = some (p0, [])
 mono : ∀ (j j' : Nat) (a b : S × List Nat), j < j' → L[j]? = some a → L[j']? = some b → rv k a.2 < rv k b.2
 path : ∀ a ∈ L, z6A k bad nx p0 a.2 a.1
 ahead : ∀ a c, L[at_]? = some c → a ∈ L → rv k a.2 < rv k c.2 * k + i + 1
 pos : i ≤ k
 lies : at_ ≤ L.length
 fin : at_ = L.length → i = 0
 short : ∀ (j : Nat) (a : S × List Nat), L[j]? = some a → a.2.length ≤ j
 seen : ∀ (j x : Nat) (a : S × List Nat), L[j]? = some a → x < k → (j < at_ ∨ j = at_ ∧ x < i) → bad a.1 x = false ∧ ∀ q, nx a.1 x = some q → ∃ b ∈ L, b.1 = q ∧ rv k b.2 ≤ rv k a.2 * k + x + 1
variable {k : Nat} {bad : S → Nat → Bool} {nx : S → Nat → Option S} {p0 : S}
theorem Bfs.start : Bfs k bad nx p0 [(p0, [])] 0 0 := {
 first := rfl
 mono := by
  intro j j' a b h h1 h2
  have := (List.getElem?_eq_some_iff.1 h2).1
  simp at this
  omega
 path := by intro a ha; simp at ha; subst ha; rfl
 ahead := by intro a c _ ha; simp at ha; subst ha; simp [rv]
 pos := Nat.zero_le _
 lies := by simp
 fin := by intro; rfl
 short := by
  intro j a h
  have := (List.getElem?_eq_some_iff.1 h).1
  simp at this
  subst this
  simp at h
  subst h
  simp
 seen := by rintro j x a h _ (q | ⟨_, q⟩) <;> omega }
theorem Bfs.old {L : List (S × List Nat)} {a i : Nat} (h : Bfs k bad nx p0 L a i) {c : S × List Nat} (hc : L[a]? = some c) (hi : i < k) (hb : bad c.1 i = false)
  (hn : ∀ q, nx c.1 i = some q → ∃ b ∈ L, b.1 = q) : Bfs k bad nx p0 L a (i + 1) := {
 first := h.first
 mono := h.mono
 path := h.path
 ahead := fun x y hy hx => by have := h.ahead x y hy hx; omega
 pos := hi
 lies := h.lies
 fin := fun e => by have := (List.getElem?_eq_some_iff.1 hc).1; omega
 short := h.short
 seen := by
  intro j x y hy hx q
  by_cases e : j = a ∧ x = i
  ·obtain ⟨rfl, rfl⟩ := e
   rw [hc] at hy
   cases hy
   refine ⟨hb, fun q hq => ?_⟩
   obtain ⟨b, h1, h2⟩ := hn q hq
   exact ⟨b, h1, h2, by have := h.ahead b c hc h1; omega⟩
  ·exact h.seen j x y hy hx (by omega) }
theorem Bfs.new {L : List (S × List Nat)} {a i : Nat} (h : Bfs k bad nx p0 L a i) {c : S × List Nat} (hc : L[a]? = some c) (hi : i < k) (hb : bad c.1 i = false) {q : S}
  (hn : nx c.1 i = some q) : Bfs k bad nx p0 (L ++ [(q, i :: c.2)]) a (i + 1) := by
 have hlt := (List.getElem?_eq_some_iff.1 hc).1
 refine ⟨?_, ?_, ?_, ?_, hi, by simp; omega, fun e => by simp at e; omega, ?_, ?_⟩
 ·rw [List.getElem?_append_left (by omega)]; exact h.first
 ·intro j j' x y hj h1 h2
  have hl := (List.getElem?_eq_some_iff.1 h2).1
  simp at hl
  rw [List.getElem?_append_left (by omega)] at h1
  rcases Nat.lt_or_ge j' L.length with g | g
  ·rw [List.getElem?_append_left g] at h2
   exact h.mono j j' x y hj h1 h2
  ·have : j' = L.length := by omega
   subst this
   simp at h2
   subst h2
   exact h.ahead x c hc (List.mem_of_getElem? h1)
 ·intro x hx
  rcases List.mem_append.1 hx with g | g
  ·exact h.path x g
  ·simp at g
   subst g
   exact ⟨c.1, h.path c (List.mem_of_getElem? hc), hi, hb, hn⟩
 ·intro x y hy hx
  rw [List.getElem?_append_left hlt] at hy
  rcases List.mem_append.1 hx with g | g
  ·have := h.ahead x y hy g; omega
  ·simp at g
   subst g
   rw [hc] at hy
   cases hy
   simp [rv]
 ·intro j y hy
  rcases Nat.lt_or_ge j L.length with g | g
  ·rw [List.getElem?_append_left g] at hy
   exact h.short j y hy
  ·have hl := (List.getElem?_eq_some_iff.1 hy).1
   simp at hl
   have : j = L.length := by omega
   subst this
   simp at hy
   subst hy
   have := h.short a c hc
   simp
   omega
 ·intro j x y hy hx g
  rw [List.getElem?_append_left (by omega)] at hy
  by_cases e : j = a ∧ x = i
  ·obtain ⟨rfl, rfl⟩ := e
   rw [hc] at hy
   cases hy
   refine ⟨hb, fun q' hq => ?_⟩
   rw [hn] at hq
   cases hq
   exact ⟨(q, x :: c.2), by simp, rfl, Nat.le_refl _⟩
  ·obtain ⟨h1, h2⟩ := h.seen j x y hy hx (by omega)
   refine ⟨h1, fun q' hq => ?_⟩
   obtain ⟨b, g1, g2⟩ := h2 q' hq
   exact ⟨b, List.mem_append_left _ g1, g2⟩
theorem Bfs.step {L : List (S × List Nat)} {a : Nat} (h : Bfs k bad nx p0 L a k) (ha : a < L.length) : Bfs k bad nx p0 L (a + 1) 0 := {
 first := h.first
 mono := h.mono
 path := h.path
 ahead := by
  intro x c hc hx
  have h1 := h.ahead x _ (List.getElem?_eq_getElem ha) hx
  have h2 := h.mono a (a + 1) _ _ (by omega) (List.getElem?_eq_getElem ha) hc
  have h3 : (rv k L[a].2 + 1) * k ≤ rv k c.2 * k := Nat.mul_le_mul_right _ h2
  rw [Nat.succ_mul] at h3
  omega
 pos := Nat.zero_le _
 lies := ha
 fin := fun _ => rfl
 short := h.short
 seen := fun j x b hb hx g => h.seen j x b hb hx (by rcases g with g | ⟨_, g⟩ <;> omega) }
theorem Bfs.reach {L : List (S × List Nat)} {a i : Nat} (h : Bfs k bad nx p0 L a i) : ∀ (u : List Nat) (q : S), z6A k bad nx p0 u q → (∀ c, L[a]? = some c → rv k u < rv k c.2 * k + i + 1) → ∃ (j : Nat) (b : S × List Nat), L[j]? = some b ∧ b.1 = q ∧ rv k b.2 ≤ rv k u
 | [], q, hp, _ => ⟨0, _, h.first, hp.symm, Nat.zero_le _⟩
 | x :: u, q, ⟨p, hp, hx, hb, hn⟩, hlt => by
  have hk : rv k u ≤ rv k u * k := Nat.le_mul_of_pos_right _ (by omega)
  obtain ⟨j, b, hj, rfl, hr⟩ := h.reach u p hp fun c hc => by have := hlt c hc; simp only [rv] at this; omega
  have hmul : rv k b.2 * k ≤ rv k u * k := Nat.mul_le_mul_right _ hr
  have hjl := (List.getElem?_eq_some_iff.1 hj).1
  have hpos : j < a ∨ j = a ∧ x < i := by
   rcases Nat.lt_trichotomy j a with g | g | g
   ·exact .inl g
   ·subst g
    refine .inr ⟨rfl, ?_⟩
    have := hlt b hj
    simp only [rv] at this
    omega
   ·exfalso
    have hal : a < L.length := by omega
    have h1 := hlt _ (List.getElem?_eq_getElem hal)
    have h2 := h.mono a j _ _ g (List.getElem?_eq_getElem hal) hj
    have h3 : (rv k L[a].2 + 1) * k ≤ rv k b.2 * k := Nat.mul_le_mul_right _ h2
    rw [Nat.succ_mul] at h3
    have := h.pos
    simp only [rv] at h1
    omega
  obtain ⟨_, h2⟩ := h.seen j x b hj hx hpos
  obtain ⟨c, g1, g2, g3⟩ := h2 q hn
  obtain ⟨j', g4⟩ := List.getElem?_of_mem g1
  exact ⟨j', c, g4, g2, by simp only [rv]; omega⟩
def Mk (k : Nat) (bad : S → Nat → Bool) (nx : S → Nat → Option S) : Nat → S → Prop
 | 0, _ => False
 | n + 1, p => Mk k bad nx n p ∨ ∃ i, i < k ∧ (bad p i = true ∨ ∃ q, nx p i = some q ∧ Mk k bad nx n q)
theorem Mk.mono {n m : Nat} {p : S} (h : Mk k bad nx n p) (hm : n ≤ m) : Mk k bad nx m p := by
 induction hm with
 | refl => exact h
 | step _ ih => exact .inl ih
end
end Go.Own

namespace Go.Own
theorem Wp : ∀ (n : Nat) (l : List Nat), l.Nodup → (∀ x ∈ l, x < n) → l.length ≤ n
 | 0, l, _, h => by
  cases l with
  | nil => simp
  | cons x l => have := h x (by simp); omega
 | n + 1, l, hd, h => by
  by_cases hm : n ∈ l
  ·have h1 := List.length_erase_of_mem hm
   have h2 := Wp n (l.erase n) (hd.erase n) fun x hx => by
    have h3 := (hd.mem_erase_iff).1 hx
    have := h x h3.2
    have := h3.1
    omega
   have : 0 < l.length := List.length_pos_of_mem hm
   omega
  ·have := Wp n l hd fun x hx => by
    have := h x hx
    have : x ≠ n := fun e => hm (e ▸ hx)
    omega
   omega
abbrev LL := List ((Nat × Nat) × List Nat)
def zc5 (a b : z6) (L : LL) : Prop := (L.map (·.1)).Nodup ∧ ∀ x ∈ L, x.1.1 < a.Rows.length ∧ x.1.2 < b.Rows.length
theorem zc5.length {a b : z6} {L : LL} (h : zc5 a b L) (ha : a.Rows.length ≤ 64) (hb : b.Rows.length ≤ 64) : L.length ≤ 4096 := by
 have := Wp 4096 (L.map fun x => x.1.1 * 64 + x.1.2) ?_ ?_
 ·simpa using this
 ·have : (L.map fun x => x.1.1 * 64 + x.1.2) = (L.map (·.1)).map fun q => q.1 * 64 + q.2 := by rw [List.map_map]; rfl
  rw [this]
  refine List.Pairwise.map _ ?_ (List.Pairwise.and_mem.1 h.1)
  rintro p q ⟨hp, hq, hne⟩ e
  apply hne
  obtain ⟨x, hx, rfl⟩ := List.mem_map.1 hp
  obtain ⟨y, hy, rfl⟩ := List.mem_map.1 hq
  have := h.2 x hx
  have := h.2 y hy
  obtain ⟨⟨p1, p2⟩, _⟩ := x
  obtain ⟨⟨q1, q2⟩, _⟩ := y
  simp only at *
  simp only [Prod.mk.injEq]
  omega
 ·intro x hx
  obtain ⟨y, hy, rfl⟩ := List.mem_map.1 hx
  have := h.2 y hy
  omega
end Go.Own

namespace Go.Own
def z6z (n k o : Int) (rows : List (List zh)) : Prop := (rows.length : Int) = n ∧ ∀ r ∈ rows, (r.length : Int) = k ∧ ∀ e ∈ r, (e.To = -1 ∧ e.Out = -1) ∨ (0 ≤ e.To ∧ e.To < n ∧ 0 ≤ e.Out ∧ e.Out < o)
theorem z6z.set {n k o : Int} {rows : List (List zh)} (h : z6z n k o rows) {s i : Nat} {r : List zh} (hr : rows[s]? = some r) {e : zh} (he : (e.To = -1 ∧ e.Out = -1) ∨ (0 ≤ e.To ∧ e.To < n ∧ 0 ≤ e.Out ∧ e.Out < o)) : z6z n k o (rows.set s (r.set i e)) := by
 refine ⟨by simpa using h.1, fun r' hr' => ?_⟩
 rcases List.mem_or_eq_of_mem_set hr' with g | g
 ·exact h.2 r' g
 ·subst g
  have := h.2 r (List.mem_of_getElem? hr)
  refine ⟨by simpa using this.1, fun e' he' => ?_⟩
  rcases List.mem_or_eq_of_mem_set he' with g | g
  ·exact this.2 e' g
  ·subst g; exact he
end Go.Own

namespace Go.Own
structure WM (m : z6) : Prop where
 in1 : 1 ≤ m.Inputs
 in16 : m.Inputs ≤ 16
 len1 : 1 ≤ m.Rows.length
 len : m.Rows.length ≤ 128
 row : ∀ r ∈ m.Rows, (r.length : Int) = m.Inputs
 edge : ∀ r ∈ m.Rows, ∀ x ∈ r, (x.To = -1 ∧ x.Out = -1) ∨ (0 ≤ x.To ∧ x.To < (m.Rows.length : Int) ∧ 0 ≤ x.Out)
section
variable {m : z6} (h : WM m)
include h
theorem WM.kk_eq : ((kk m : Nat) : Int) = m.Inputs := by have := h.in1; unfold kk; omega
theorem WM.kk_pos : 1 ≤ kk m := by have := h.in1; unfold kk; omega
theorem WM.kk_le : kk m ≤ 16 := by have := h.in16; unfold kk; omega
theorem WM.rowAt {s : Nat} (hs : s < m.Rows.length) : ∃ r, m.Rows[s]? = some r ∧ r.length = kk m ∧ ∀ i, i < kk m → r[i]? = some (E m s i) := by
 have hr := List.getElem?_eq_getElem hs
 have hl := h.row _ (List.getElem_mem hs)
 have hl' : m.Rows[s].length = kk m := by unfold kk; omega
 refine ⟨_, hr, hl', fun i hi => ?_⟩
 have hi' : i < m.Rows[s].length := by omega
 unfold E
 rw [hr]
 simp only [Option.getD_some]
 rw [List.getElem?_eq_getElem hi']
 rfl
theorem WM.edgeAt {s i : Nat} (hs : s < m.Rows.length) (hi : i < kk m) : ((E m s i).To = -1 ∧ (E m s i).Out = -1) ∨ (0 ≤ (E m s i).To ∧ (E m s i).To < (m.Rows.length : Int) ∧ 0 ≤ (E m s i).Out) := by
 obtain ⟨r, h1, _, h2⟩ := h.rowAt hs
 exact h.edge r (List.mem_of_getElem? h1) _ (List.mem_of_getElem? (h2 i hi))
theorem WM.edge_eq {s i : Nat} (hs : s < m.Rows.length) (hi : i < kk m) {β : Type} {f : zh → Option β} :
  (Option.bind (idx m.Rows (s : Int)) fun r => Option.bind (idx r (i : Int)) f) = f (E m s i) := by
 obtain ⟨r, h1, _, h2⟩ := h.rowAt hs
 rw [jW, h1, Option.bind_some, jW, h2 i hi, Option.bind_some]
end
end Go.Own

namespace Go.Own
def nxE (m : z6) (s : Int) (i : Nat) : zh := if s < 0 then ⟨-1, -1⟩ else E m s.toNat i
def rsp (m : z6) : Int → List Nat → List Int
 | _, [] => []
 | s, i :: w => (nxE m s i).Out :: rsp m (nxE m s i).To w
def aft (m : z6) : Int → List Nat → Int
 | s, [] => s
 | s, i :: w => aft m (nxE m s i).To w
theorem XN (m : z6) : ∀ (w : List Nat) (s : Int) (i : Nat), rsp m s (w ++ [i]) = rsp m s w ++ [(nxE m (aft m s w) i).Out] ∧ aft m s (w ++ [i]) = (nxE m (aft m s w) i).To
 | [], s, i => ⟨rfl, rfl⟩
 | j :: w, s, i => by
  have := XN m w (nxE m s j).To i
  simp only [List.cons_append, rsp, aft, this.1, this.2, and_self]
def z6x (m : z6) (s : Int) : Prop := -1 ≤ s ∧ s < (m.Rows.length : Int)
theorem z5p {m : z6} (h : VM m) {s : Int} (hs : z6x m s) {i : Nat} (hi : i < kk m) : Yf m s (i : Int) = some (nxE m s i) ∧ z6x m (nxE m s i).To := by
 unfold Yf nxE
 have := h.len1
 by_cases h0 : s < 0
 ·rw [decide_eq_true h0, cond_true, if_pos h0]
  exact ⟨rfl, by unfold z6x; simp only; omega⟩
 ·rw [decide_eq_false h0, cond_false, if_neg h0]
  have hl : s.toNat < m.Rows.length := by have := hs.2; omega
  have he := h.edge_eq hl hi (f := fun e => some e)
  have hc : ((s.toNat : Nat) : Int) = s := by omega
  rw [hc] at he
  refine ⟨he, ?_⟩
  have := h.edgeAt hl hi
  unfold z6x
  omega
end Go.Own

namespace Go.Own
def SEq (m : z6) (s t : Nat) : Prop := ∀ w : List Nat, (∀ i ∈ w, i < kk m) → rsp m (s : Int) w = rsp m (t : Int) w
theorem VG (m : z6) (s i : Nat) : nxE m (s : Int) i = E m s i := by
 unfold nxE
 rw [if_neg (by omega), Int.toNat_natCast]
end Go.Own

namespace Go.Own
theorem z3X {m : z6} (h : VM m) : ∀ (w : List Nat) (n : Nat) (s : Int), z6x m s → (∀ i ∈ w, i < kk m) → w.length < n → qt n m s (w.map Int.ofNat) = some (aft m s w)
 | w, 0, _, _, _, hn => by omega
 | [], n + 1, s, hs, _, _ => by
  show ut (qt n) m s [] = _
  rfl
 | i :: w, n + 1, s, hs, hw, hn => by
  show ut (qt n) m s ((i : Int) :: w.map Int.ofNat) = _
  have hi := hw i (by simp)
  have hx := z5p h hs hi
  unfold ut
  have hz : (((((i : Int) :: w.map Int.ofNat).length : Nat) : Int) == 0) = false := by
   rw [beq_eq_false_iff_ne]
   simp only [List.length_cons]
   omega
  rw [hz, cond_false]
  have e0 : idx ((i : Int) :: w.map Int.ofNat) 0 = some (i : Int) := rfl
  rw [bdT e0, bdT hx.1, gdT (by simp; omega)]
  have e1 : ((i : Int) :: w.map Int.ofNat).drop (1 : Int).toNat = w.map Int.ofNat := rfl
  rw [e1, bdT (z3X h w n _ hx.2 (fun j hj => hw j (by simp [hj])) (by simp at hn; omega))]
  rfl
theorem z41 {m : z6} (h : VM m) {s : Int} (hs : z6x m s) (w : List Nat) (hw : ∀ i ∈ w, i < kk m) : uS m s (w.map Int.ofNat) = some (aft m s w) := by
 unfold uS
 exact z3X h w _ s hs hw (by simp)
def zax (k : Nat) : List Nat → Nat
 | [] => 0
 | d :: r => d + k * zax k r
end Go.Own

namespace Go.Own
def GG (k : Nat) : Nat → Nat
 | 0 => 0
 | n + 1 => GG k n + k ^ n
def rk (k : Nat) (w : List Nat) : Nat := GG k w.length + zax k w.reverse
def Wd (k : Nat) (w : List Nat) : Prop := ∀ i ∈ w, i < k
section
variable {m : z6}
theorem KE (h : VM m) : ∀ (w : List Nat) (s : Int), z6x m s → Wd (kk m) w → z6x m (aft m s w)
 | [], s, hs, _ => hs
 | i :: w, s, hs, hw => KE h w _ (z5p h hs (hw i (by simp))).2 fun j hj => hw j (by simp [hj])
end
end Go.Own

namespace Go.Own
theorem z2Q (m : z6) : ∀ (u w : List Nat) (s : Int), aft m s (u ++ w) = aft m (aft m s u) w
 | [], _, _ => rfl
 | i :: u, w, s => by simp only [List.cons_append, aft, z2Q m u w]
theorem z2P (m : z6) : ∀ (w : List Nat) (s : Int), s < 0 → aft m s w < 0
 | [], s, h => h
 | i :: w, s, h => by
  simp only [aft, nxE, if_pos h]
  exact z2P m w (-1) (by omega)
structure Acc (m : z6) (t : Nat) (v : List Nat) : Prop where
 wd : Wd (kk m) v
 len : v.length < m.Rows.length
 aft : aft m 0 v = (t : Int)
 least : ∀ u, Wd (kk m) u → Go.Own.aft m 0 u = (t : Int) → rk (kk m) v ≤ rk (kk m) u
section
variable {m : z6} (h : VM m) (hG : GG (kk m) m.Rows.length ≤ 1000000000)
include h hG
def z2R (m : z6) (r : List (List Int) × List Bool) : Prop :=
 r.1.length = m.Rows.length ∧ r.2.length = m.Rows.length ∧ ∀ t, t < m.Rows.length →
  (r.2[t]? = some true ∧ ∃ v : List Nat, r.1[t]? = some (v.map Int.ofNat) ∧ Acc m t v) ∨ (r.2[t]? = some false ∧ ∀ u, Wd (kk m) u → aft m 0 u ≠ (t : Int))
end
end Go.Own

namespace Go.Own
theorem SEq.refl {m : z6} (s : Nat) : SEq m s s := fun _ _ => rfl
theorem SEq.symm {m : z6} {s t : Nat} (h : SEq m s t) : SEq m t s := fun w hw => (h w hw).symm
theorem SEq.trans {m : z6} {s t u : Nat} (h : SEq m s t) (k : SEq m t u) : SEq m s u := fun w hw => (h w hw).trans (k w hw)
end Go.Own

namespace Go.Own
def Rch (m : z6) (t : Nat) : Prop := ∃ u, Wd (kk m) u ∧ aft m 0 u = (t : Int)
theorem WU {out : List Bool} {j t : Nat} (hj : j < out.length) : (out.set j true)[t]? = some true ↔ t = j ∨ out[t]? = some true := by
 by_cases e : t = j
 ·subst e; simp [hj]
 ·rw [List.getElem?_set_ne (Ne.symm e)]
  exact ⟨.inr, fun q => q.resolve_left e⟩
section
variable {m : z6} (h : VM m)
include h
omit h in theorem rch_step {s i : Nat} (hs : Rch m s) (hi : i < kk m) (h0 : 0 ≤ (E m s i).To) : Rch m (E m s i).To.toNat := by
 obtain ⟨u, hu, e⟩ := hs
 refine ⟨u ++ [i], fun j hj => ?_, ?_⟩
 ·rcases List.mem_append.1 hj with q | q
  ·exact hu j q
  ·have : j = i := by simpa using q
   omega
 ·have := (XN m u 0 i).2
  rw [e, VG] at this
  rw [this]
  omega
end
end Go.Own

namespace Go.Own
def w9 : List Int → List Int → Int
 | [], [] => 0
 | [], _ :: _ => -1
 | _ :: _, [] => 1
 | x :: a, y :: b => if x < y then -1 else if y < x then 1 else w9 a b
def jX (a b : List Int) : Int := if a.length < b.length then -1 else if b.length < a.length then 1 else w9 a b
theorem z5v : ∀ {a b : List Int}, w9 a b = 0 → a = b
 | [], [], _ => rfl
 | [], _ :: _, h => by simp [w9] at h
 | _ :: _, [], h => by simp [w9] at h
 | x :: a, y :: b, h => by
  simp only [w9] at h
  split at h
  ·simp at h
  ·split at h
   ·simp at h
   ·rw [show x = y by omega, z5v h]
theorem z1B : ∀ a : List Int, w9 a a = 0
 | [] => rfl
 | x :: a => by simp [w9, z1B a]
theorem z3q : ∀ a b : List Int, w9 b a = - w9 a b
 | [], [] => rfl
 | [], _ :: _ => rfl
 | _ :: _, [] => rfl
 | x :: a, y :: b => by
  simp only [w9]
  split
  ·rw [if_neg (by omega)]
  ·split
   ·rfl
   ·exact z3q a b
theorem Kq : ∀ {a b c : List Int}, w9 a b < 0 → w9 b c < 0 → w9 a c < 0
 | [], [], _, h, _ => by simp [w9] at h
 | [], _ :: _, [], _, h => by simp [w9] at h
 | [], _ :: _, _ :: _, _, _ => by simp [w9]
 | _ :: _, [], _, h, _ => by simp [w9] at h
 | _ :: _, _ :: _, [], _, h => by simp [w9] at h
 | x :: a, y :: b, z :: c, h1, h2 => by
  simp only [w9] at h1 h2 ⊢
  by_cases e1 : x < y
  ·by_cases e2 : y < z
   ·rw [if_pos (by omega)]; omega
   ·rw [if_neg e2] at h2
    by_cases e3 : z < y
    ·rw [if_pos e3] at h2; omega
    ·rw [if_pos (by omega)]; omega
  ·rw [if_neg e1] at h1
   by_cases e3 : y < x
   ·rw [if_pos e3] at h1; omega
   ·rw [if_neg e3] at h1
    have : x = y := by omega
    subst this
    by_cases e2 : x < z
    ·rw [if_pos e2]; omega
    ·rw [if_neg e2] at h2 ⊢
     by_cases e4 : z < x
     ·rw [if_pos e4] at h2; omega
     ·rw [if_neg e4] at h2 ⊢
      exact Kq h1 h2
theorem z2M {a b : List Int} (h : jX a b = 0) : a = b := by
 unfold jX at h
 split at h
 ·simp at h
 ·split at h
  ·simp at h
  ·exact z5v h
theorem Jx (a : List Int) : jX a a = 0 := by simp [jX, z1B]
theorem z3Q {a b : List Int} : jX a b = 0 ↔ a = b := ⟨z2M, fun h => h ▸ Jx a⟩
theorem z3P (a b : List Int) : jX b a = - jX a b := by
 unfold jX
 by_cases h1 : a.length < b.length
 ·rw [if_pos h1, if_neg (by omega), if_pos h1]; rfl
 ·by_cases h2 : b.length < a.length
  ·rw [if_pos h2, if_neg h1, if_pos h2]
  ·rw [if_neg h1, if_neg h2, if_neg h2, if_neg h1, z3q]
theorem Yl {a b c : List Int} (h1 : jX a b < 0) (h2 : jX b c < 0) : jX a c < 0 := by
 unfold jX at *
 by_cases e1 : a.length < b.length
 ·by_cases e2 : b.length < c.length
  ·rw [if_pos (by omega)]; omega
  ·rw [if_neg e2] at h2
   by_cases e3 : c.length < b.length
   ·rw [if_pos e3] at h2; omega
   ·rw [if_pos (by omega)]; omega
 ·rw [if_neg e1] at h1
  by_cases e3 : b.length < a.length
  ·rw [if_pos e3] at h1; omega
  ·rw [if_neg e3] at h1
   have e : a.length = b.length := by omega
   rw [e]
   by_cases e2 : b.length < c.length
   ·rw [if_pos e2]; omega
   ·rw [if_neg e2] at h2 ⊢
    by_cases e4 : c.length < b.length
    ·rw [if_pos e4] at h2; omega
    ·rw [if_neg e4] at h2 ⊢
     exact Kq h1 h2
theorem Qn (a : List Int) : ¬ jX a a < 0 := by rw [Jx]; omega
theorem z68 {a b : List Int} (h : jX a b < 0) : ¬ jX b a < 0 := by rw [z3P a b]; omega
theorem z2L {a b : List Int} : ¬ jX a b < 0 ↔ jX b a < 0 ∨ a = b := by
 rw [← z3Q, z3P a b]; omega
def SW (l : List (List Int)) : Prop := l.Pairwise fun a b => jX a b < 0
theorem SW.nil : SW [] := List.Pairwise.nil
theorem SW.tail {x : List Int} {l : List (List Int)} (h : SW (x :: l)) : SW l := (List.pairwise_cons.1 h).2
theorem SW.head {x : List Int} {l : List (List Int)} (h : SW (x :: l)) : ∀ y ∈ l, jX x y < 0 := (List.pairwise_cons.1 h).1
theorem SW.unique : ∀ {l m : List (List Int)}, SW l → SW m → (∀ x, x ∈ l ↔ x ∈ m) → l = m
 | [], [], _, _, _ => rfl
 | [], y :: m, _, _, h => by have := (h y).2 (by simp); simp at this
 | x :: l, [], _, _, h => by have := (h x).1 (by simp); simp at this
 | x :: l, y :: m, h1, h2, h => by
  have hxy : x = y := by
   rcases List.mem_cons.1 ((h x).1 (by simp)) with e | e
   ·exact e
   ·rcases List.mem_cons.1 ((h y).2 (by simp)) with e' | e'
    ·exact e'.symm
    ·exact absurd (h2.head x e) (z68 (h1.head y e'))
  subst hxy
  rw [SW.unique h1.tail h2.tail fun z => ?_]
  constructor
  ·intro hz
   rcases List.mem_cons.1 ((h z).1 (by simp [hz])) with e | e
   ·subst e; exact absurd (h1.head _ hz) (Qn _)
   ·exact e
  ·intro hz
   rcases List.mem_cons.1 ((h z).2 (by simp [hz])) with e | e
   ·subst e; exact absurd (h2.head _ hz) (Qn _)
   ·exact e
theorem SW.sub {l m : List (List Int)} (h : SW l) (hs : List.Sublist m l) : SW m := List.Pairwise.sublist hs h
theorem SW.nodup {l : List (List Int)} (h : SW l) : l.Nodup := List.Pairwise.imp (fun {a b} q e => by subst e; exact Qn _ q) h
def z23 (w : List Int) : List (List Int) → List (List Int)
 | [] => [w]
 | x :: l => if jX x w < 0 then x :: z23 w l else if jX x w = 0 then x :: l else w :: x :: l
theorem z0l {w x : List Int} : ∀ {l : List (List Int)}, x ∈ z23 w l ↔ x = w ∨ x ∈ l
 | [] => by simp [z23]
 | y :: l => by
  simp only [z23]
  split
  ·simp only [List.mem_cons, z0l]
   constructor
   ·rintro (h | h | h) <;> simp [h]
   ·rintro (h | h | h) <;> simp [h]
  ·split
   ·rename_i h1 h2
    have := z2M h2
    subst this
    simp
   ·simp
theorem SW.put {w : List Int} : ∀ {l : List (List Int)}, SW l → SW (z23 w l)
 | [], _ => by simp [z23, SW]
 | y :: l, h => by
  simp only [z23]
  split
  ·rename_i h1
   refine List.pairwise_cons.2 ⟨fun z hz => ?_, SW.put h.tail⟩
   rcases z0l.1 hz with rfl | hz
   ·exact h1
   ·exact h.head z hz
  ·split
   ·exact h
   ·rename_i h1 h2
    have hw : jX w y < 0 := by
     rcases z2L.1 h1 with q | q
     ·exact q
     ·exact absurd (z3Q.2 q) h2
    refine List.pairwise_cons.2 ⟨fun z hz => ?_, h⟩
    rcases List.mem_cons.1 hz with rfl | hz
    ·exact hw
    ·exact Yl hw (h.head z hz)
theorem z3f (w : List Int) : ∀ l, (z23 w l).length ≤ l.length + 1
 | [] => by simp [z23]
 | y :: l => by
  simp only [z23]
  split
  ·have := z3f w l; simp; omega
  ·split <;> simp
def srt (l : List (List Int)) : List (List Int) := l.foldl (fun m w => z23 w m) []
theorem z2i : ∀ (l m : List (List Int)), SW m → SW (l.foldl (fun m w => z23 w m) m) ∧ ∀ x, x ∈ l.foldl (fun m w => z23 w m) m ↔ x ∈ m ∨ x ∈ l
 | [], m, h => ⟨h, by simp⟩
 | w :: l, m, h => by
  obtain ⟨h1, h2⟩ := z2i l (z23 w m) h.put
  refine ⟨h1, fun x => ?_⟩
  rw [List.foldl_cons, h2, z0l]
  simp only [List.mem_cons]
  constructor
  ·rintro ((h | h) | h) <;> simp [h]
  ·rintro (h | h | h) <;> simp [h]
theorem z17 (l : List (List Int)) : SW (srt l) := (z2i l [] .nil).1
theorem Xw {l : List (List Int)} {x : List Int} : x ∈ srt l ↔ x ∈ l := by rw [srt, (z2i l [] .nil).2]; simp
theorem z4H {l m : List (List Int)} (h : SW m) (hm : ∀ x, x ∈ m ↔ x ∈ l) : m = srt l := h.unique (z17 l) fun x => by rw [hm, Xw]
theorem QK {l : List (List Int)} (h : SW l) : srt l = l := (z4H h fun _ => .rfl).symm
theorem z18 {l m : List (List Int)} (h : ∀ x, x ∈ l ↔ x ∈ m) : srt l = srt m := z4H (z17 l) fun x => by rw [Xw, h]
theorem z2h (l : List (List Int)) : (srt l).length ≤ l.length := by
 have : ∀ (l m : List (List Int)), (l.foldl (fun m w => z23 w m) m).length ≤ m.length + l.length := by
  intro l
  induction l with
  | nil => intro m; simp
  | cons w l ih => intro m; have := ih (z23 w m); have := z3f w m; simp only [List.foldl_cons, List.length_cons]; omega
 have q := this l []
 simp only [List.length_nil, Nat.zero_add] at q
 exact q
end Go.Own

namespace Go.Own
theorem zo {α : Type} {l : List α} {i : Nat} {x : α} (h : l[i]? = some x) : idx l (i : Int) = some x := h
theorem z5O (b : List Int) (g : Nat → Int → Option Int) (hg : ∀ i x y, b[i]? = some y → g i x = if x < y then some (-1) else if y < x then some 1 else none) :
  ∀ (a : List Int) (k : Nat), k + a.length = b.length → (y7 g a k).getD 0 = w9 a (b.drop k)
 | [], k, h => by
  have : b.drop k = [] := List.drop_eq_nil_of_le (by simp at h; omega)
  rw [this]; rfl
 | x :: a, k, h => by
  simp only [List.length_cons] at h
  have hk : k < b.length := by omega
  rw [List.drop_eq_getElem_cons hk]
  simp only [y7, w9, hg k x b[k] (List.getElem?_eq_getElem hk)]
  by_cases h1 : x < b[k]
  ·simp [h1]
  ·by_cases h2 : b[k] < x
   ·simp [h1, h2]
   ·simp only [h1, h2, if_false]
    exact z5O b g hg a (k + 1) (by omega)
theorem z65 (a b : List Int) (h : a.length = b.length → a.length < 4611686018427387904) : ur a b = some (jX a b) := by
 unfold ur
 by_cases hl : a.length = b.length
 ·have h' := h hl
  simp only [hl, bne_self_eq_false, cond_false]
  rw [bdT (yn a h' (fun i x => match b[i]? with | some y => if x < y then some (-1 : Int) else if y < x then some 1 else none | none => none) ?_ ?_)]
  ·have q := z5O b (fun i x => match b[i]? with | some y => if x < y then some (-1 : Int) else if y < x then some 1 else none | none => none) (fun i x y hy => by simp only [hy]) a 0 (by omega)
   rw [List.drop_zero] at q
   have hc : jX a b = w9 a b := by unfold jX; rw [if_neg (by omega), if_neg (by omega)]
   rw [hc, ← q]
   cases y7 (fun i x => match b[i]? with | some y => if x < y then some (-1 : Int) else if y < x then some 1 else none | none => none) a 0 <;> rfl
  ·intro i x hx
   have hi : i < a.length := (List.getElem?_eq_some_iff.1 hx).1
   have hy : b[i]? = some b[i] := List.getElem?_eq_getElem (by omega)
   unfold vJ
   have hc : decide ((i : Int) < (a.length : Int)) = true := by simpa using hi
   simp only [hc, cond_true, zo hx, zo hy, hy, Option.bind_some]
   by_cases h1 : x < b[i]
   ·simp [h1, nS]
   ·by_cases h2 : b[i] < x
    ·simp [h1, h2, nS]
    ·simp [h1, h2, nS]
  ·unfold vJ
   simp
 ·have h1 : (((a.length : Nat) : Int) != ((b.length : Nat) : Int)) = true := by simp; omega
  simp only [h1, cond_true]
  unfold jX
  by_cases h2 : a.length < b.length
  ·simp [h2]
  ·have h3 : b.length < a.length := by omega
   simp [h2, h3]
def cI (x y : Int) : Int := if x < y then -1 else if y < x then 1 else 0
theorem z67 (x y : Int) : vo x y = some (cI x y) := by
 unfold vo qB cI
 simp only [bne_self_eq_false, Option.bind_some, cond_false]
 by_cases h1 : x < y
 ·simp [h1]
 ·by_cases h2 : y < x
  ·simp [h1, h2]
  ·simp [h1, h2]
theorem z9n (a b : List Int) (h : a.length < 4611686018427387904) : ∃ c, xu a b = some c ∧ (a.length = b.length → c = w9 a b) := by
 unfold xu
 have hloop := yn a h (step := fun s => yg a b s) (fun i x => match b[i]? with | some y => if x < y then some (-1 : Int) else if y < x then some 1 else none | none => some 1) (by
  intro i x hx
  have hi : i < a.length := (List.getElem?_eq_some_iff.1 hx).1
  unfold yg
  have hc : decide ((i : Int) < (a.length : Int)) = true := by simpa using hi
  simp only [hc, cond_true, zo hx, Option.bind_some]
  by_cases hb : i < b.length
  ·have hy : b[i]? = some b[i] := List.getElem?_eq_getElem hb
   have hd : decide ((i : Int) ≥ (b.length : Int)) = false := by simp; omega
   simp only [hd, cond_false, zo hy, hy, Option.bind_some, z67]
   unfold cI
   by_cases h1 : x < b[i]
   ·simp [h1, nS]
   ·by_cases h2 : b[i] < x
    ·simp [h1, h2, nS]
    ·simp [h1, h2, nS]
  ·have hy : b[i]? = none := List.getElem?_eq_none (by omega)
   have hd : decide ((i : Int) ≥ (b.length : Int)) = true := by simp; omega
   simp only [hd, cond_true, hy, nS]) (by unfold yg; simp)
 rw [bdT hloop]
 have q := fun hl => z5O b (fun i x => match b[i]? with | some y => if x < y then some (-1 : Int) else if y < x then some 1 else none | none => some 1) (fun i x y hy => by simp only [hy]) a 0 hl
 cases hf : y7 (fun i x => match b[i]? with | some y => if x < y then some (-1 : Int) else if y < x then some 1 else none | none => some 1) a 0 with
 | some r =>
  refine ⟨r, rfl, fun hl => ?_⟩
  have := q (by omega)
  rw [hf] at this
  simpa using this
 | none =>
  unfold xz
  by_cases hl : a.length < b.length
  ·refine ⟨-1, by simp [oS, hl], fun hl2 => by omega⟩
  ·refine ⟨0, by simp [oS, hl], fun hl2 => ?_⟩
   have := q (by omega)
   rw [hf] at this
   simpa using this
theorem zfX (x y : Int) : Yk [x, y] = some (if x = 0 then y else x) := by
 unfold Yk
 rw [bdT (yn [x, y] (by simp) (step := fun s => ux [x, y] s) (fun i v => if v ≠ 0 then some v else none) ?_ ?_)]
 ·by_cases h1 : x = 0
  ·by_cases h2 : y = 0
   ·simp [y7, h1, h2, oS, kA]
   ·simp [y7, h1, h2, oS]
  ·simp [y7, h1, oS]
 ·intro i v hv
  have hi : i < [x, y].length := (List.getElem?_eq_some_iff.1 hv).1
  unfold ux
  have hc : decide ((i : Int) < (([x, y] : List Int).length : Int)) = true := by simp only [decide_eq_true_eq]; omega
  simp only [hc, cond_true, zo hv, Option.bind_some]
  by_cases h : v = 0
  ·simp [h, nS]
  ·have hb : (v != 0) = true := by simpa using h
   simp [h, hb, nS]
 ·unfold ux; simp
theorem Uo (a b : List Int) (h : a.length < 4611686018427387904) : yR a b = some (jX a b) := by
 unfold yR
 obtain ⟨c, hc, hl⟩ := z9n a b h
 rw [z67, hc]
 simp only [Option.bind_some, zfX]
 unfold cI jX
 by_cases h1 : a.length < b.length
 ·simp [h1]
 ·by_cases h2 : b.length < a.length
  ·simp [h1, h2]
  ·simp [h1, h2, hl (by omega)]
def wE (n : Int) (w : List Int) : Int := if 256 < w.length then 3 else if w.any (fun c => decide (c < 0) || decide (n ≤ c)) then 1 else 0
theorem z4w {n : Int} {w : List Int} : wE n w = 0 ↔ w.length ≤ 256 ∧ ∀ c ∈ w, 0 ≤ c ∧ c < n := by
 unfold wE
 by_cases h : 256 < w.length
 ·rw [if_pos h]
  exact ⟨fun q => by simp at q, fun q => by omega⟩
 ·rw [if_neg h]
  by_cases h2 : w.any (fun c => decide (c < 0) || decide (n ≤ c)) = true
  ·rw [if_pos h2]
   simp only [List.any_eq_true, Bool.or_eq_true, decide_eq_true_eq] at h2
   obtain ⟨c, h3, h4⟩ := h2
   refine ⟨fun q => by simp at q, fun q => ?_⟩
   have := q.2 c h3
   omega
  ·rw [if_neg h2]
   simp only [List.any_eq_true, Bool.or_eq_true, decide_eq_true_eq, not_exists, not_and, not_or] at h2
   refine ⟨fun _ => ⟨by omega, fun c hc => ?_⟩, fun _ => rfl⟩
   have := h2 c hc
   omega
theorem z5P {ρ : Type} (p : Int → Bool) (g : Nat → Int → Option ρ) (hg : ∀ i x, (g i x).isSome = p x) : ∀ (w : List Int) (k : Nat), (y7 g w k).isSome = w.any p
 | [], k => rfl
 | x :: w, k => by
  simp only [y7, List.any_cons]
  have := hg k x
  cases hx : g k x with
  | some r => rw [hx] at this; simp at this; simp [← this]
  | none => rw [hx] at this; simp at this; rw [this, Bool.false_or]; exact z5P p g hg w (k + 1)
theorem z8G (n : Int) (w : List Int) : (Option.bind (kJ w) fun r => bif r != 0 then some r else qr w n) = some (wE n w) := by
 unfold kJ wE
 by_cases h : 256 < w.length
 ·have h' : (256 : Int) < (w.length : Int) := by omega
  simp [h, h']
 ·have hd : decide (((w.length : Nat) : Int) > 256) = false := by simp; omega
  simp only [hd, cond_false, Option.bind_some, bne_self_eq_false, if_neg h]
  unfold qr
  have hl := yn w (by omega) (step := fun s => wD w n s) (fun i c => if c < 0 ∨ n ≤ c then some (1 : Int) else none) (by
   intro i c hc
   have hi : i < w.length := (List.getElem?_eq_some_iff.1 hc).1
   unfold wD
   have hq : decide ((i : Int) < (w.length : Int)) = true := by simpa using hi
   simp only [hq, cond_true, zo hc, Option.bind_some]
   by_cases h1 : c < 0
   ·simp [h1, nS]
   ·by_cases h2 : n ≤ c
    ·simp [h1, h2, nS]
    ·simp [h1, h2, nS]) (by unfold wD; simp)
  rw [bdT hl]
  have q := z5P (fun c => decide (c < 0) || decide (n ≤ c)) (fun i c => if c < 0 ∨ n ≤ c then some (1 : Int) else none) (fun i c => by by_cases h : c < 0 ∨ n ≤ c <;> simp [h] <;> simpa using h) w 0
  cases hf : y7 (fun i c => if c < 0 ∨ n ≤ c then some (1 : Int) else none) w 0 with
  | none => rw [hf] at q; rw [← q]; rfl
  | some r =>
   rw [hf] at q
   obtain ⟨i, x, h1, h2⟩ := ui hf
   rw [← q]
   split at h2
   ·cases h2; rfl
   ·cases h2
theorem z4x (n : Int) (w : List Int) : qW w n = some (if 16 < n then 3 else if 256 < w.length then 3 else if n < 1 then 1 else wE n w) := by
 unfold qW
 by_cases h0 : 16 < n
 ·simp [h0]
 by_cases h : 256 < w.length
 ·have h' : (256 : Int) < (w.length : Int) := by omega
  simp [h0, h, h']
 by_cases h1 : n < 1
 ·have h' : ¬ (256 : Int) < (w.length : Int) := by omega
  simp [h0, h, h', h1]
 ·have hd : decide (((w.length : Nat) : Int) > 256) = false := by simp; omega
  have hd0 : decide (n > 16) = false := by simp; omega
  have hd1 : decide (n < 1) = false := by simp; omega
  simp only [hd, hd0, hd1, cond_false, if_neg h, if_neg h0, if_neg h1]
  unfold x6 xL wE
  have hl := yn w (by omega) (step := fun s => y4 w n s) (fun i c => if c < 0 ∨ n ≤ c then some (i : Int) else none) (by
   intro i c hc
   have hi : i < w.length := (List.getElem?_eq_some_iff.1 hc).1
   unfold y4 kn
   have hq : decide ((i : Int) < (w.length : Int)) = true := by simpa using hi
   simp only [hq, cond_true, zo hc, Option.bind_some]
   by_cases h1 : c < 0
   ·simp [h1, nS]
   ·by_cases h2 : n ≤ c
    ·simp [h1, h2, nS]
    ·simp [h1, h2, nS]) (by unfold y4; simp)
  rw [bdT hl, if_neg h]
  have q := z5P (fun c => decide (c < 0) || decide (n ≤ c)) (fun i c => if c < 0 ∨ n ≤ c then some (i : Int) else none) (fun i c => by by_cases h : c < 0 ∨ n ≤ c <;> simp [h] <;> simpa using h) w 0
  cases hf : y7 (fun i c => if c < 0 ∨ n ≤ c then some (i : Int) else none) w 0 with
  | none => rw [hf] at q; rw [← q]; rfl
  | some r =>
   rw [hf] at q
   obtain ⟨i, x, h1, h2⟩ := ui hf
   rw [← q]
   split at h2
   ·cases h2
    simp [oS]
   ·cases h2
def eS (e : Int) : Option Int := if e = 0 then none else some e
def loE (n : Int) (l : List (List Int)) : Int := if 16 < n then 3 else if 4096 < l.length then 3 else if n < 1 then 1 else (y7 (fun _ w => eS (wE n w)) l 0).getD 0
theorem z3G {n : Int} : ∀ {l : List (List Int)} {k : Nat}, (y7 (fun _ w => eS (wE n w)) l k).getD 0 = 0 ↔ ∀ w ∈ l, wE n w = 0
 | [], _ => by simp [y7]
 | w :: l, k => by
  by_cases h : wE n w = 0
  ·have : eS (wE n w) = none := by simp [eS, h]
   simp only [y7, this]
   rw [z3G]
   simp [h]
  ·have : eS (wE n w) = some (wE n w) := by simp [eS, h]
   simp [y7, this, h]
theorem Qi {n : Int} {l : List (List Int)} : loE n l = 0 ↔ (1 ≤ n ∧ n ≤ 16) ∧ l.length ≤ 4096 ∧ ∀ w ∈ l, w.length ≤ 256 ∧ ∀ c ∈ w, 0 ≤ c ∧ c < n := by
 unfold loE
 by_cases h0 : 16 < n
 ·rw [if_pos h0]; exact ⟨fun q => by simp at q, fun q => by omega⟩
 by_cases h1 : 4096 < l.length
 ·rw [if_neg h0, if_pos h1]; exact ⟨fun q => by simp at q, fun q => by omega⟩
 by_cases h2 : n < 1
 ·rw [if_neg h0, if_neg h1, if_pos h2]; exact ⟨fun q => by simp at q, fun q => by omega⟩
 rw [if_neg h0, if_neg h1, if_neg h2, z3G]
 constructor
 ·intro q; exact ⟨by omega, by omega, fun w hw => z4w.1 (q w hw)⟩
 ·intro q w hw; exact z4w.2 (q.2.2 w hw)
theorem z8d (l : List (List Int)) (n : Int) : kT l n = some (loE n l) := by
 unfold kT loE
 by_cases h0 : 16 < n
 ·simp [h0]
 by_cases h1 : 4096 < l.length
 ·have h' : (4096 : Int) < (l.length : Int) := by omega
  simp [h0, h1, h']
 by_cases h2 : n < 1
 ·have h' : ¬ (4096 : Int) < (l.length : Int) := by omega
  simp [h0, h1, h2, h']
 have d0 : decide (n > 16) = false := by simp; omega
 have d1 : decide (((l.length : Nat) : Int) > 4096) = false := by simp; omega
 have d2 : decide (n < 1) = false := by simp; omega
 simp only [d0, d1, d2, cond_false, if_neg h0, if_neg h1, if_neg h2]
 rw [bdT (yn l (by omega) (step := fun s => vP l n s) (fun _ w => eS (wE n w)) ?_ ?_)]
 ·cases y7 (fun _ w => eS (wE n w)) l 0 <;> rfl
 ·intro i w hw
  have hi : i < l.length := (List.getElem?_eq_some_iff.1 hw).1
  have hq : decide ((i : Int) < (l.length : Int)) = true := by simpa using hi
  have he := z8G n w
  unfold vP
  simp only [hq, cond_true, zo hw, Option.bind_some]
  unfold kJ at he ⊢
  by_cases h : 256 < w.length
  ·have h' : (256 : Int) < (w.length : Int) := by omega
   have : wE n w = 3 := by unfold wE; rw [if_pos h]
   simp [h', this, eS, nS]
  ·have hd : decide (((w.length : Nat) : Int) > 256) = false := by simp; omega
   simp only [hd, cond_false, Option.bind_some, bne_self_eq_false] at he ⊢
   rw [he]
   simp only [Option.bind_some]
   by_cases hz : wE n w = 0
   ·simp [hz, eS, nS]
   ·have hb : (wE n w != 0) = true := by simpa using hz
    simp [hz, hb, eS, nS]
 ·unfold vP; simp
theorem z3n (l : List (List Int)) (n : Int) : j4 l n = some (loE n l) := by
 unfold j4 loE
 by_cases h0 : 16 < n
 ·simp [h0]
 by_cases h1 : 4096 < l.length
 ·have h' : (4096 : Int) < (l.length : Int) := by omega
  simp [h0, h1, h']
 by_cases h2 : n < 1
 ·have h' : ¬ (4096 : Int) < (l.length : Int) := by omega
  simp [h0, h1, h2, h']
 have d0 : decide (n > 16) = false := by simp; omega
 have d1 : decide (((l.length : Nat) : Int) > 4096) = false := by simp; omega
 have d2 : decide (n < 1) = false := by simp; omega
 simp only [d0, d1, d2, cond_false, if_neg h0, if_neg h1, if_neg h2]
 rw [bdT (yn l (by omega) (step := fun s => vM l n s) (fun _ w => eS (wE n w)) ?_ ?_)]
 ·cases y7 (fun _ w => eS (wE n w)) l 0 <;> rfl
 ·intro i w hw
  have hi : i < l.length := (List.getElem?_eq_some_iff.1 hw).1
  have hq : decide ((i : Int) < (l.length : Int)) = true := by simpa using hi
  have he : qW w n = some (wE n w) := by
   rw [z4x, if_neg h0, if_neg h2]
   by_cases h : 256 < w.length
   ·rw [if_pos h]; unfold wE; rw [if_pos h]
   ·rw [if_neg h]
  unfold vM
  simp only [hq, cond_true, zo hw, Option.bind_some, he]
  by_cases hz : wE n w = 0
  ·simp [hz, eS, nS]
  ·have hb : (wE n w != 0) = true := by simpa using hz
   simp [hz, hb, eS, nS]
 ·unfold vM; simp
theorem z3o (l : List (List Int)) (hl : l.length < 4611686018427387904) {step : Int × Int → Option (LR (Int × Int) Int)}
  (h : ∀ (n : Int) (i : Nat) (x : List Int), l[i]? = some x → step (n, (i : Int)) = some (.next (w64 (n + ((x.length : Nat) : Int)), w64 ((i : Int) + 1)))) (h2 : ∀ n, step (n, (l.length : Int)) = some (.done n)) :
  loop step (0, 0) = some (l.foldl (fun n x => w64 (n + ((x.length : Nat) : Int))) 0) := by
 have gen : ∀ (m k : Nat) (n : Int), k ≤ l.length → l.length - k < m → W3 step m (n, (k : Int)) = some ((l.drop k).foldl (fun n x => w64 (n + ((x.length : Nat) : Int))) n) := by
  intro m
  induction m with
  | zero => intro k n _ h; omega
  | succ m ih =>
   intro k n hk hn
   rw [kL]
   rcases Nat.lt_or_ge k l.length with hlt | hge
   ·have hx : l[k]? = some l[k] := List.getElem?_eq_getElem hlt
    rw [h n k _ hx, List.drop_eq_getElem_cons hlt]
    simp only [List.foldl_cons]
    rw [vu (x := (k : Int) + 1) (by omega) (by omega)]
    exact ih (k + 1) _ hlt (by omega)
   ·have : k = l.length := by omega
    subst this
    rw [h2, List.drop_length]
    rfl
 exact gen YO 0 0 (Nat.zero_le _) (by show l.length - 0 < 18446744073709551616; omega)
def stW (l : List (List Int)) : Int := l.foldl (fun n x => w64 (n + ((x.length : Nat) : Int))) 0
theorem z40 (l : List (List Int)) (hl : l.length < 4611686018427387904) : ja l = some (stW l) := by
 unfold ja
 rw [bdT (z3o l hl (step := fun s => vO l s.1 s.2) ?_ ?_)]
 ·rfl
 ·intro n i x hx
  have hi : i < l.length := (List.getElem?_eq_some_iff.1 hx).1
  have hq : decide ((i : Int) < (l.length : Int)) = true := by simpa using hi
  unfold vO
  simp only [hq, cond_true, zo hx, Option.bind_some]
 ·intro n; unfold vO; simp
theorem z2X (l : List (List Int)) (hl : l.length < 4611686018427387904) : qZ l = some (stW l) := by
 unfold qZ
 rw [bdT (z3o l hl (step := fun s => vK l s.1 s.2) ?_ ?_)]
 ·rfl
 ·intro n i x hx
  have hi : i < l.length := (List.getElem?_eq_some_iff.1 hx).1
  have hq : decide ((i : Int) < (l.length : Int)) = true := by simpa using hi
  unfold vK
  simp only [hq, cond_true, zo hx, Option.bind_some]
 ·intro n; unfold vK; simp
def qg (l : List (List Int)) : Nat := (l.map List.length).sum
theorem z4F {l : List (List Int)} (h : qg l < 4611686018427387904) : stW l = (qg l : Int) := by
 have gen : ∀ (l : List (List Int)) (n : Nat), n + qg l < 4611686018427387904 → l.foldl (fun n x => w64 (n + ((x.length : Nat) : Int))) (n : Int) = ((n + qg l : Nat) : Int) := by
  intro l
  induction l with
  | nil => intro n _; simp [qg]
  | cons x l ih =>
   intro n hn
   have hs : qg (x :: l) = x.length + qg l := by simp [qg]
   rw [hs] at hn ⊢
   rw [List.foldl_cons, vu (by omega) (by omega), ← Int.natCast_add, ih (n + x.length) (by omega)]
   congr 1; omega
 have := gen l 0 (by omega)
 simpa [stW] using this
theorem z2f {l : List (List Int)} {m : Nat} (h : ∀ w ∈ l, w.length ≤ m) : qg l ≤ l.length * m := by
 induction l with
 | nil => simp [qg]
 | cons x l ih =>
  have hs : qg (x :: l) = x.length + qg l := by simp [qg]
  have h1 := h x (by simp)
  have h2 := ih fun w hw => h w (by simp [hw])
  rw [hs, List.length_cons, Nat.add_mul]
  omega
theorem z2V : ∀ {l : List (List Int)}, SW l ↔ ∀ i x y, l[i]? = some x → l[i + 1]? = some y → jX x y < 0
 | [] => by simp [SW]
 | [x] => ⟨fun _ i a b _ h2 => by simp at h2, fun _ => by simp [SW]⟩
 | x :: y :: l => by
  constructor
  ·intro h i a b h1 h2
   cases i with
   | zero =>
    simp at h1 h2
    subst h1; subst h2
    exact h.head y (by simp)
   | succ i => exact z2V.1 h.tail i a b (by simpa using h1) (by simpa using h2)
  ·intro h
   have ht : SW (y :: l) := z2V.2 fun i a b h1 h2 => h (i + 1) a b (by simpa using h1) (by simpa using h2)
   have h0 := h 0 x y rfl rfl
   refine List.pairwise_cons.2 ⟨fun z hz => ?_, ht⟩
   rcases List.mem_cons.1 hz with rfl | hz
   ·exact h0
   ·exact Yl h0 (ht.head z hz)
theorem Ko {α ρ : Type} (l : List α) (hl : l.length < 4611686018427387904) {step : Int → Option (LR Int (Unit ⊕ ρ))} (f : Nat → α → Option ρ)
  (h : ∀ (i : Nat) (x : α), 1 ≤ i → l[i]? = some x → step (i : Int) = some (nS i (f i x))) (h2 : ∀ k : Nat, l.length ≤ k → step (k : Int) = some (.done (.inl ()))) :
  loop step 1 = some (oS (y7 f (l.drop 1) 1)) := by
 have gen : ∀ (n : Nat) (k : Nat), 1 ≤ k → l.length - k < n → W3 step n (k : Int) = some (oS (y7 f (l.drop k) k)) := by
  intro n
  induction n with
  | zero => intro k _ h; omega
  | succ n ih =>
   intro k hk hn
   rw [kL]
   rcases Nat.lt_or_ge k l.length with hlt | hge
   ·have hx : l[k]? = some l[k] := List.getElem?_eq_getElem hlt
    rw [h k _ hk hx, List.drop_eq_getElem_cons hlt]
    simp only [y7]
    cases hf : f k l[k] with
    | some r => rfl
    | none =>
     simp only [nS]
     rw [vu (by omega) (by omega)]
     exact ih (k + 1) (by omega) (by omega)
   ·rw [h2 k hge, List.drop_eq_nil_of_le hge]
    rfl
 exact gen YO 1 (Nat.le_refl _) (by show l.length - 1 < 18446744073709551616; omega)
instance (l : List (List Int)) : Decidable (SW l) := by unfold SW; infer_instance
theorem z3E {ρ : Type} (l : List (List Int)) (r : ρ) : y7 (fun i x => match l[i - 1]? with | some y => if 0 ≤ jX y x then some r else none | none => none) (l.drop 1) 1 = if SW l then none else some r := by
 by_cases hs : SW l
 ·rw [if_pos hs]
  refine uU fun i x hx => ?_
  rw [List.getElem?_drop] at hx
  have hi : 1 + i < l.length := (List.getElem?_eq_some_iff.1 hx).1
  have hy : l[1 + i - 1]? = some l[i] := by rw [show 1 + i - 1 = i by omega]; exact List.getElem?_eq_getElem (by omega)
  rw [hy]
  have := z2V.1 hs i l[i] x (List.getElem?_eq_getElem (by omega)) (by rw [Nat.add_comm]; exact hx)
  simp only
  rw [if_neg (by omega)]
 ·rw [if_neg hs]
  cases hf : y7 (fun i x => match l[i - 1]? with | some y => if 0 ≤ jX y x then some r else none | none => none) (l.drop 1) 1 with
  | some r' =>
   obtain ⟨i, x, h1, h2⟩ := ui hf
   split at h2
   ·split at h2
    ·exact h2.symm
    ·cases h2
   ·cases h2
  | none =>
   exfalso
   refine hs (z2V.2 fun i x y hx hy => ?_)
   have := qA hf i y (by rw [List.getElem?_drop, Nat.add_comm]; exact hy)
   rw [show 1 + i - 1 = i by omega, hx] at this
   simp only at this
   split at this
   ·cases this
   ·omega
theorem z8c (l : List (List Int)) (h : l.length ≤ 4096) (hw : ∀ w ∈ l, w.length < 4611686018427387904) : kO l = some (decide (SW l)) := by
 unfold kO
 rw [bdT (Ko l (by omega) (step := fun s => vN l s) (fun i x => match l[i - 1]? with | some y => if 0 ≤ jX y x then some false else none | none => none) ?_ ?_), z3E]
 ·by_cases hs : SW l
  ·simp [hs, oS, jq]
  ·simp [hs, oS]
 ·intro i x hi hx
  have hil : i < l.length := (List.getElem?_eq_some_iff.1 hx).1
  have hy : l[i - 1]? = some l[i - 1] := List.getElem?_eq_getElem (by omega)
  have hq : decide ((i : Int) < (l.length : Int)) = true := by simpa using hil
  unfold vN
  rw [vu (x := (i : Int) - 1) (by omega) (by omega), show ((i : Int) - 1) = ((i - 1 : Nat) : Int) by omega]
  have hE := Uo l[i - 1] x (hw _ (List.getElem_mem (by omega)))
  simp only [hq, cond_true, zo hx, zo hy, Option.bind_some, hy, hE]
  by_cases hc : 0 ≤ jX l[i - 1] x
  ·simp [hc, nS]
  ·simp [hc, nS]
 ·intro k hk; unfold vN; have : decide ((k : Int) < (l.length : Int)) = false := by simp; omega
  simp only [this, cond_false]
def chE (n : Int) (l : List (List Int)) : Int := if loE n l ≠ 0 then loE n l else if SW l then (if 65536 < qg l then 3 else 0) else 1
theorem z3S {n : Int} {l : List (List Int)} : chE n l = 0 ↔ loE n l = 0 ∧ SW l ∧ qg l ≤ 65536 := by
 unfold chE
 by_cases h : loE n l = 0
 ·rw [if_neg (by simp [h])]
  by_cases h2 : SW l
  ·rw [if_pos h2]
   by_cases h3 : 65536 < qg l
   ·rw [if_pos h3]; exact ⟨fun q => by simp at q, fun q => by omega⟩
   ·rw [if_neg h3]; exact ⟨fun _ => ⟨h, h2, by omega⟩, fun _ => rfl⟩
  ·rw [if_neg h2]; exact ⟨fun q => by simp at q, fun q => absurd q.2.1 h2⟩
 ·rw [if_pos h]; exact ⟨fun q => absurd q h, fun q => absurd q.1 h⟩
theorem Jh {n : Int} {l : List (List Int)} (h : loE n l = 0) : l.length ≤ 4096 ∧ (∀ w ∈ l, w.length ≤ 256) ∧ qg l ≤ 1048576 := by
 obtain ⟨_, h1, h2⟩ := Qi.1 h
 refine ⟨h1, fun w hw => (h2 w hw).1, ?_⟩
 have := z2f (m := 256) fun w hw => (h2 w hw).1
 omega
theorem z14 (l : List (List Int)) (n : Int) : j5 l n = some (chE n l) := by
 unfold j5 chE
 rw [z3n]
 simp only [Option.bind_some]
 by_cases h : loE n l = 0
 ·obtain ⟨h1, h2, h3⟩ := Jh h
  rw [z8c l h1 fun w hw => by have := h2 w hw; omega, z2X l (by omega), z4F (by omega)]
  simp only [h, bne_self_eq_false, cond_false, Option.bind_some, ne_eq, not_true, if_false]
  by_cases hs : SW l
  ·by_cases hq : 65536 < qg l
   ·have : (65536 : Int) < (qg l : Int) := by omega
    simp [hs, hq, this]
   ·have : ¬ (65536 : Int) < (qg l : Int) := by omega
    simp [hs, hq, this]
  ·simp [hs]
 ·have hb : (loE n l != 0) = true := by simpa using h
  simp [h, hb]
theorem z57 (l : List (List Int)) (n : Int) : kU l n = some (chE n l) := by
 unfold kU chE
 rw [z8d]
 simp only [Option.bind_some]
 by_cases h : loE n l = 0
 ·obtain ⟨h1, h2, h3⟩ := Jh h
  simp only [h, bne_self_eq_false, cond_false, ne_eq, not_true, if_false]
  rw [bdT (Ko l (by omega) (step := fun s => vQ l s) (fun i x => match l[i - 1]? with | some y => if 0 ≤ jX y x then some (1 : Int) else none | none => none) ?_ ?_), z3E]
  ·by_cases hs : SW l
   ·simp only [hs, if_true, oS]
    unfold jw
    rw [z40 l (by omega), z4F (by omega)]
    simp only [Option.bind_some]
    by_cases hq : 65536 < qg l
    ·have : (65536 : Int) < (qg l : Int) := by omega
     simp [hq, this]
    ·have : ¬ (65536 : Int) < (qg l : Int) := by omega
     simp [hq, this]
   ·simp [hs, oS]
  ·intro i x hi hx
   have hil : i < l.length := (List.getElem?_eq_some_iff.1 hx).1
   have hy : l[i - 1]? = some l[i - 1] := List.getElem?_eq_getElem (by omega)
   have hq : decide ((i : Int) < (l.length : Int)) = true := by simpa using hil
   unfold vQ
   rw [vu (x := (i : Int) - 1) (by omega) (by omega), show ((i : Int) - 1) = ((i - 1 : Nat) : Int) by omega]
   have hE := z65 l[i - 1] x (fun _ => by have := h2 _ (List.getElem_mem (show i - 1 < l.length by omega)); omega)
   simp only [hq, cond_true, zo hx, zo hy, Option.bind_some, hy, hE]
   by_cases hc : 0 ≤ jX l[i - 1] x
   ·simp [hc, nS]
   ·simp [hc, nS]
  ·intro k hk; unfold vQ; have : decide ((k : Int) < (l.length : Int)) = false := by simp; omega
   simp only [this, cond_false]
 ·have hb : (loE n l != 0) = true := by simpa using h
  simp [h, hb]
end Go.Own

namespace Go.Own
theorem z0v (w : List Int) : ym w = some w := by
 unfold ym
 rw [gdT (by omega)]
 simp
theorem z3R (w : List Int) (h : w.length ≤ 4294967296) : yx w = some w := by
 unfold yx
 rw [gdT (by simpa using h)]
theorem z38 (a b : List Int) (h : a.length < 4611686018427387904) : vL a b = some (decide (a = b)) := by
 unfold vL
 rw [Uo a b h]
 simp only [Option.bind_some]
 by_cases e : a = b
 ·subst e; simp [Jx]
 ·have : jX a b ≠ 0 := fun q => e (z2M q)
  simp [e, this]
def QW (l : List (List Int)) : Prop := l.Pairwise fun a b => ¬ jX b a < 0
theorem Zz {α : Type} {l : List α} {n : Nat} {x : α} : x ∈ l.take n ↔ ∃ i, i < n ∧ l[i]? = some x := by
 rw [List.mem_iff_getElem?]
 constructor
 ·rintro ⟨i, h⟩
  rw [List.getElem?_take] at h
  split at h
  ·exact ⟨i, by omega, h⟩
  ·cases h
 ·rintro ⟨i, h1, h2⟩
  exact ⟨i, by rw [List.getElem?_take, if_pos h1]; exact h2⟩
theorem z4B {l : List (List Int)} {x : List Int} (h : SW l) (hx : ∀ y ∈ l, jX y x < 0) : SW (l ++ [x]) := by
 unfold SW
 rw [List.pairwise_append]
 exact ⟨h, by simp, fun a ha b hb => by simp at hb; subst hb; exact hx a ha⟩
section
variable {s : List (List Int)} (hq : QW s) (hl : s.length ≤ 4294967296) (hw : ∀ w ∈ s, w.length < 4611686018427387904)
include hq hl hw
omit hl hw in
theorem z7r {i j : Nat} {x y : List Int} (hi : s[i]? = some x) (hj : s[j]? = some y) (h : i ≤ j) : jX x y < 0 ∨ x = y := by
 rcases Nat.lt_or_ge i j with h | h
 ·have := (List.pairwise_iff_getElem.1 hq) i j (List.getElem?_eq_some_iff.1 hi).1 (List.getElem?_eq_some_iff.1 hj).1 h
  rw [(List.getElem?_eq_some_iff.1 hi).2, (List.getElem?_eq_some_iff.1 hj).2] at this
  rcases z2L.1 this with q | q
  ·exact .inl q
  ·exact .inr q.symm
 ·have : i = j := by omega
  subst this
  rw [hi] at hj
  exact .inr (by simpa using hj)
theorem z1U {k : Nat} (h1 : 1 ≤ k) (hk : k < s.length) (hd : s[k - 1]? = s[k]?) (hs : SW (s.take k)) :
  Ret (Option.bind (loop (fun q => zQ (k : Int) q.1 q.2.1 q.2.2) (s, (k : Int), 1)) fun t => zS t.1 t.2) fun r => r = .done (.inr (srt s)) := by
 rw [qp]
 refine Ret.mono (kw (fun q => ∃ kk k2 : Nat, q.2.1 = (kk : Int) ∧ q.2.2 = (k2 : Int) ∧ 1 ≤ k2 ∧ k + k2 ≤ s.length ∧ kk < k + k2 ∧ q.1.length = s.length ∧ (∀ i, kk ≤ i → q.1[i]? = s[i]?) ∧ SW (q.1.take kk) ∧ ∀ x, x ∈ q.1.take kk ↔ x ∈ s.take (k + k2)) (fun q => s.length - q.2.2.toNat) (R := fun t => ∃ kk : Nat, t.2 = (kk : Int) ∧ kk ≤ s.length ∧ t.1.length = s.length ∧ t.1.take kk = srt s) ?_ ?_ ?_) ?_
 ·refine ⟨k, 1, rfl, rfl, Nat.le_refl _, hk, by omega, rfl, fun _ _ => rfl, hs, fun x => ?_⟩
  rw [Zz, Zz]
  constructor
  ·rintro ⟨i, h2, h3⟩; exact ⟨i, by omega, h3⟩
  ·rintro ⟨i, h2, h3⟩
   rcases Nat.lt_or_ge i k with h | h
   ·exact ⟨i, h, h3⟩
   ·have : i = k := by omega
    subst this
    exact ⟨i - 1, by omega, by rw [hd]; exact h3⟩
 ·show s.length - _ < _
  omega
 ·rintro ⟨S, a, b⟩ ⟨kk, k2, rfl, rfl, g1, g2, g3, g4, g5, g6, g7⟩
  simp only at g4 g5 g6 g7
  show Ret (zQ (k : Int) S (kk : Int) (k2 : Int)) _
  unfold zQ
  rw [uR]
  refine ⟨fun hc => ?_, fun hc => ?_⟩
  ·have hlt : k2 < s.length - k := by rw [g4] at hc; simpa using hc
   have e1 : s[k + k2]? = some s[k + k2] := List.getElem?_eq_getElem (by omega)
   have e2 : s[k + k2 - 1]? = some s[k + k2 - 1] := List.getElem?_eq_getElem (by omega)
   have f1 : idx S ((k : Int) + (k2 : Int)) = some s[k + k2] := by
    rw [← Int.natCast_add, jW, g5 _ (by omega), e1]
   have f2 : idx S ((k : Int) + w64 ((k2 : Int) - 1)) = some s[k + k2 - 1] := by
    rw [vu (by omega) (by omega), show (k : Int) + ((k2 : Int) - 1) = ((k + k2 - 1 : Nat) : Int) by omega, jW, g5 _ (by omega), e2]
   rw [gdT (by omega), f1]
   simp only [Option.bind_some]
   rw [gdT (by rw [vu (by omega) (by omega)]; omega), f2]
   simp only [Option.bind_some]
   rw [z38 _ _ (hw _ (List.getElem_mem (by omega)))]
   simp only [Option.bind_some]
   have hk2 : w64 ((k2 : Int) + 1) = ((k2 + 1 : Nat) : Int) := by rw [vu (by omega) (by omega)]; omega
   by_cases he : s[k + k2] = s[k + k2 - 1]
   ·simp only [he, decide_true, Bool.not_true, cond_false]
    unfold zR
    rw [hk2, zF]
    refine ⟨⟨kk, k2 + 1, rfl, rfl, by omega, by omega, by omega, g4, g5, g6, fun x => ?_⟩, by simp only [Int.toNat_natCast]; omega⟩
    rw [g7, Zz, Zz]
    constructor
    ·rintro ⟨i, h2, h3⟩; exact ⟨i, by omega, h3⟩
    ·rintro ⟨i, h2, h3⟩
     rcases Nat.lt_or_ge i (k + k2) with h | h
     ·exact ⟨i, h, h3⟩
     ·have : i = k + k2 := by omega
      subst this
      exact ⟨k + k2 - 1, by omega, by rw [e2, ← he, ← e1]; exact h3⟩
   ·simp only [he, decide_false, Bool.not_false, cond_true]
    rw [gdT (by omega)]
    have e3 : idx S (kk : Int) = some s[kk] := by rw [jW, g5 _ (Nat.le_refl _), List.getElem?_eq_getElem (by omega)]
    rw [e3]
    simp only [Option.bind_some]
    unfold zR
    rw [hk2, vu (x := (kk : Int) + 1) (by omega) (by omega), zF]
    have hset : (S.set ((kk : Int).toNat) s[k + k2]).take (kk + 1) = S.take kk ++ [s[k + k2]] := by
     rw [Int.toNat_natCast, List.take_add_one, List.take_set_of_le (Nat.le_refl _), List.getElem?_set_self (by omega)]
     rfl
    refine ⟨⟨kk + 1, k2 + 1, rfl, rfl, by omega, by omega, by omega, by simp [g4], fun i hi => ?_, ?_, fun x => ?_⟩, by simp only [Int.toNat_natCast]; omega⟩
    ·simp only
     rw [List.getElem?_set_ne (by omega), g5 _ (by omega)]
    ·simp only
     rw [hset]
     refine z4B g6 fun y hy => ?_
     obtain ⟨i, h2, h3⟩ := Zz.1 ((g7 y).1 hy)
     have hlast : jX s[k + k2 - 1] s[k + k2] < 0 := by
      rcases z7r hq e2 e1 (by omega) with q | q
      ·exact q
      ·exact absurd q.symm he
     rcases z7r hq h3 e2 (by omega) with q | q
     ·exact Yl q hlast
     ·rw [q]; exact hlast
    ·simp only
     rw [hset, List.mem_append, g7, Zz, Zz]
     constructor
     ·rintro (⟨i, h2, h3⟩ | h)
      ·exact ⟨i, by omega, h3⟩
      ·simp at h; subst h; exact ⟨k + k2, by omega, e1⟩
     ·rintro ⟨i, h2, h3⟩
      rcases Nat.lt_or_ge i (k + k2) with h | h
      ·exact .inl ⟨i, h, h3⟩
      ·have : i = k + k2 := by omega
       subst this
       rw [e1] at h3
       exact .inr (by simpa using h3.symm)
  ·have hge : s.length - k ≤ k2 := by rw [g4] at hc; simpa using hc
   have hkk : k + k2 = s.length := by omega
   rw [zF]
   refine ⟨kk, rfl, by omega, g4, z4H g6 fun x => ?_⟩
   rw [g7, hkk, List.take_length]
 ·rintro ⟨S, a⟩ ⟨kk, rfl, h1, h2, h3⟩
  simp only at h2 h3
  show Ret (zS S (kk : Int)) _
  unfold zS
  have hlen : (S.take (kk : Int).toNat ++ List.replicate (S.length - (kk : Int).toNat) ([] : List Int)).length = S.length := by simp [List.length_take]; omega
  rw [gdT (by omega), gdT (by omega), gdT (by rw [hlen]; omega), zF]
  simp only [Int.toNat_natCast]
  rw [List.take_left' (by rw [List.length_take]; omega), h3]
theorem z4j : yl s () = some (srt s) := by
 unfold yl
 by_cases h2 : s.length < 2
 ·have hd : decide (((s.length : Nat) : Int) < 2) = true := by simp; omega
  simp only [hd, cond_true]
  rw [QK]
  match s, h2 with
  | [], _ => exact SW.nil
  | [x], _ => simp [SW]
 ·have hd : decide (((s.length : Nat) : Int) < 2) = false := by simp; omega
  simp only [hd, cond_false]
  apply Ret.eq
  rw [qp]
  refine Ret.mono (kw (fun q : Int => ∃ j : Nat, q = (j : Int) ∧ 1 ≤ j ∧ j ≤ s.length ∧ SW (s.take j)) (fun q => s.length - q.toNat) (R := fun t : Unit ⊕ List (List Int) => match t with | .inl _ => srt s = s | .inr p => p = srt s) ?_ ?_ ?_) ?_
  ·refine ⟨1, rfl, Nat.le_refl _, by omega, ?_⟩
   match s, h2 with
   | [], h2 => simp at h2
   | x :: l, _ => simp [SW]
  ·show s.length - _ < _
   omega
  ·rintro _ ⟨j, rfl, g1, g2, g3⟩
   show Ret (y8 s (j : Int)) _
   unfold y8
   rw [uR]
   refine ⟨fun hc => ?_, fun hc => ?_⟩
   ·have hj : j < s.length := by simpa using hc
    have e1 : s[j]? = some s[j] := List.getElem?_eq_getElem hj
    have e2 : s[j - 1]? = some s[j - 1] := List.getElem?_eq_getElem (by omega)
    rw [vu (x := (j : Int) - 1) (by omega) (by omega), show (j : Int) - 1 = ((j - 1 : Nat) : Int) by omega, zo e1, zo e2]
    simp only [Option.bind_some]
    rw [z38 _ _ (hw _ (List.getElem_mem hj))]
    simp only [Option.bind_some]
    by_cases he : s[j] = s[j - 1]
    ·simp only [he, decide_true, cond_true]
     rw [gdT (by omega)]
     refine (z1U hq hl hw g1 hj (by rw [e1, e2, he]) g3).mono ?_
     rintro _ rfl
     rfl
    ·simp only [he, decide_false, cond_false]
     unfold yD
     rw [vu (by omega) (by omega), zF]
     refine ⟨⟨j + 1, rfl, by omega, hj, ?_⟩, by simp only [Int.toNat_natCast]; omega⟩
     have : s.take (j + 1) = s.take j ++ [s[j]] := by rw [List.take_add_one, e1]; rfl
     rw [this]
     refine z4B g3 fun y hy => ?_
     obtain ⟨i, h3, h4⟩ := Zz.1 hy
     have hlast : jX s[j - 1] s[j] < 0 := by
      rcases z7r hq e2 e1 (by omega) with q | q
      ·exact q
      ·exact absurd q.symm he
     rcases z7r hq h4 e2 (by omega) with q | q
     ·exact Yl q hlast
     ·rw [q]; exact hlast
   ·have hj : j = s.length := by
     have : ¬ j < s.length := by simpa using hc
     omega
    rw [zF]
    show srt s = s
    rw [hj, List.take_length] at g3
    exact QK g3
  ·rintro (u | p) h
   ·show Ret (some s) _
    rw [zF]
    exact h.symm
   ·show Ret (some p) _
    rw [zF]
    exact h
end
theorem z19 (l : List (List Int)) : SOk jX l :=
 ⟨fun x _ => Qn x, fun x _ y _ z _ h1 h2 => Yl h1 h2, fun x _ y _ h1 h2 => by
  rcases z2L.1 h1 with q | q
  ·exact absurd q h2
  ·exact q⟩
theorem z78 {l m : List (List Int)} (h : l.Perm m) : srt l = srt m := z18 fun x => h.mem_iff
theorem Jk {c d : List Int → List Int → Int} : ∀ {l : List (List Int)}, (∀ x ∈ l, ∀ y ∈ l, c x y = d x y) → Wv c l = Wv d l
 | [], _ => rfl
 | x :: l, h => by
  have ih := Jk (c := c) (d := d) (l := l) fun a ha b hb => h a (by simp [ha]) b (by simp [hb])
  show z4r c x (Wv c l) = z4r d x (Wv d l)
  rw [ih]
  have gen : ∀ m : List (List Int), (∀ y ∈ m, y ∈ l) → z4r c x m = z4r d x m := by
   intro m
   induction m with
   | nil => intro _; rfl
   | cons y m ih2 =>
    intro hm
    simp only [z4r]
    rw [h y (by simp [hm y (by simp)]) x (by simp), ih2 fun z hz => hm z (by simp [hz])]
  exact gen _ fun y hy => (je d l).mem_iff.1 hy
def soR (l : List (List Int)) : List (List Int) × Int := if 4096 < (srt l).length ∨ 65536 < qg (srt l) then ([], 3) else (srt l, 0)
theorem z02 {l : List (List Int)} (hl : l.length ≤ 100000) (hw : ∀ w ∈ l, w.length ≤ 4294967296) : xg l = some (soR l) := by
 unfold xg wJ
 rw [gdT (by simp; omega)]
 simp only [Option.bind_some]
 have hc : ∀ x ∈ l, ∀ y, yR x y = some (jX x y) := fun x hx y => Uo x y (by have := hw x hx; omega)
 have hso : z4K (fun x y => yR x y) l = some (Wv jX l) := by
  unfold z4K
  rw [gdT ⟨by omega, fun x hx y hy => by simp only [hc x hx y]; rfl⟩]
  have hcc : ∀ x ∈ l, ∀ y ∈ l, (yR x y).getD 0 = jX x y := fun x hx y _ => by rw [hc x hx y]; rfl
  rw [gdT, Jk (c := fun x y => (yR x y).getD 0) (d := jX) hcc]
  have q := z19 l
  refine ⟨fun x hx => by show ¬ (yR x x).getD 0 < 0; rw [hcc x hx x hx]; exact q.1 x hx, fun x hx y hy z hz h1 h2 => ?_, fun x hx y hy h1 h2 => ?_⟩
  ·simp only [hcc x hx y hy, hcc y hy z hz, hcc x hx z hz] at h1 h2 ⊢
   exact q.2.1 x hx y hy z hz h1 h2
  ·simp only [hcc x hx y hy, hcc y hy x hx] at h1 h2
   exact q.2.2 x hx y hy h1 h2
 rw [hso]
 simp only [Option.bind_some]
 have hp := je jX l
 have hq : QW (Wv jX l) := XB (z19 l) (fun y hy => hy)
 rw [z4j hq (by rw [hp.length_eq]; omega) (fun w h => by have := hw w (hp.mem_iff.1 h); omega)]
 simp only [Option.bind_some]
 unfold x9
 simp only [Option.bind_some]
 rw [z78 hp]
 have hlen : (srt l).length ≤ 100000 := Nat.le_trans (z2h l) hl
 have hws : ∀ w ∈ srt l, w.length ≤ 4294967296 := fun w h => hw w (Xw.1 h)
 unfold soR
 generalize srt l = r at hlen hws
 have hsy : qg r ≤ 100000 * 4294967296 := Nat.le_trans (z2f hws) (Nat.mul_le_mul_right _ hlen)
 by_cases h1 : 4096 < r.length
 ·have : (4096 : Int) < (r.length : Int) := by omega
  simp [h1, this]
 ·have d1 : decide (((r.length : Nat) : Int) > 4096) = false := by simp; omega
  simp only [d1, cond_false]
  rw [z2X r (by omega), z4F (by omega)]
  simp only [Option.bind_some]
  by_cases h2 : 65536 < qg r
  ·have : (65536 : Int) < (qg r : Int) := by omega
   simp [h2, this]
  ·have d2 : decide (((qg r : Nat) : Int) > 65536) = false := by simp; omega
   simp only [d2, cond_false]
   rw [if_neg (by omega)]
   have hloop := V7 (step := fun s => xA r s.1 s.2) (fun i => ((r.take i).map (fun q => (q, true)) ++ (r.drop i).map (fun q => (q, false)), (i : Int))) r.length (t := r.map fun q => (q, true)) (by omega) (by
    intro i hi
    have hA : ((r.take i).map (fun q : List Int => (q, true))).length = i := by rw [List.length_map, List.length_take]; omega
    have hd : r.drop i = r[i] :: r.drop (i + 1) := List.drop_eq_getElem_cons hi
    have hx : ((r.take i).map (fun q => (q, true)) ++ (r.drop i).map (fun q => (q, false)))[i]? = some (r[i], false) := by
     rw [List.getElem?_append_right (by omega), hA, hd]; simp
    show xA r _ (i : Int) = _
    unfold xA
    have hq : decide ((i : Int) < ((r.length - (0 : Int).toNat : Nat) : Int)) = true := by simpa using hi
    simp only [hq, cond_true]
    rw [gdT (by omega), Int.zero_add, zo hx]
    simp only [Option.bind_some]
    rw [z3R _ (hws _ (List.getElem_mem hi))]
    simp only [Option.bind_some, z0v, Int.toNat_natCast]
    rw [vu (by omega) (by omega)]
    congr 3
    rw [List.set_append_right _ _ (by omega), hA, hd, List.take_add_one, List.getElem?_eq_getElem hi]
    simp only [Nat.sub_self, List.map_cons, List.set_cons_zero, List.map_append, Option.toList_some, List.map_nil, List.append_assoc, List.cons_append, List.nil_append]) (by
    show xA r _ (r.length : Int) = _
    unfold xA
    simp)
   have h0 : ((r.take 0).map (fun q => (q, true)) ++ (r.drop 0).map (fun q => (q, false)), ((0 : Nat) : Int)) = (r.map (fun q => (q, false)), (0 : Int)) := by simp
   rw [h0] at hloop
   rw [hloop]
   simp only [Option.bind_some]
   unfold qj
   rw [gdT (by intro q hq; obtain ⟨_, _, rfl⟩ := List.mem_map.1 hq; rfl)]
   simp [List.map_map, Function.comp_def]
end Go.Own

namespace Go.Own
def z0O (a : Nat) (w : List Int) : List (List Int) := (List.range a).map fun s : Nat => w ++ [(s : Int)]
def exW (a : Nat) : Nat → List (List Int)
 | 0 => [[]]
 | k + 1 => (exW a k).flatMap (z0O a)
theorem z7N (a : Nat) (w : List Int) : (z0O a w).length = a := by simp [z0O]
theorem z3H (a : Nat) (l : List (List Int)) : (l.flatMap (z0O a)).length = l.length * a := by
 induction l with
 | nil => simp
 | cons w l ih => rw [List.flatMap_cons, List.length_append, ih, z7N, List.length_cons, Nat.succ_mul]; omega
theorem Ww (a : Nat) : ∀ k, (exW a k).length = a ^ k
 | 0 => rfl
 | k + 1 => by rw [exW, z3H, Ww, Nat.pow_succ]
theorem ZA (a : Nat) : ∀ k, ∀ w ∈ exW a k, w.length = k
 | 0, w, h => by simp [exW] at h; subst h; rfl
 | k + 1, w, h => by
  rw [exW, List.mem_flatMap] at h
  obtain ⟨v, h1, h2⟩ := h
  simp only [z0O, List.mem_map] at h2
  obtain ⟨s, _, rfl⟩ := h2
  simp [ZA a k v h1]
theorem zbB {a : Nat} (ha : a ≤ 16) {w : List Int} (hw : w.length ≤ 1000) {nx : List (List Int)} (hn : nx.length ≤ 10000000) :
  loop (fun s => wF (a : Int) w s.1 s.2) (nx, 0) = some (nx ++ z0O a w) := by
 have h := V7 (step := fun s => wF (a : Int) w s.1 s.2) (fun i => (nx ++ (List.range i).map (fun s : Nat => w ++ [(s : Int)]), (i : Int))) a (t := nx ++ z0O a w) (by omega) (by
  intro i hi
  show wF (a : Int) w _ (i : Int) = _
  unfold wF
  have hq : decide ((i : Int) < (a : Int)) = true := by simpa using hi
  simp only [hq, cond_true, z0v, Option.bind_some]
  rw [gdT (by simp; omega), gdT (by simp; omega), vu (by omega) (by omega), List.range_succ, List.map_append, List.append_assoc]
  rfl) (by
  show wF (a : Int) w _ (a : Int) = _
  unfold wF
  simp [z0O])
 have h0 : ((nx ++ (List.range 0).map (fun s : Nat => w ++ [(s : Int)])), ((0 : Nat) : Int)) = (nx, (0 : Int)) := by simp
 rw [h0] at h
 exact h
theorem zbn {a : Nat} (ha : a ≤ 16) {l : List (List Int)} (hw : ∀ w ∈ l, w.length ≤ 1000) (hl : l.length ≤ 100000) :
  loop (fun s => wG (a : Int) l s.1 s.2) (([] : List (List Int)), 0) = some (l.flatMap (z0O a)) := by
 have h := V7 (step := fun s => wG (a : Int) l s.1 s.2) (fun i => ((l.take i).flatMap (z0O a), (i : Int))) l.length (t := l.flatMap (z0O a)) (by omega) (by
  intro i hi
  show wG (a : Int) l _ (i : Int) = _
  unfold wG
  have hq : decide ((i : Int) < (l.length : Int)) = true := by simpa using hi
  have hx : l[i]? = some l[i] := List.getElem?_eq_getElem hi
  have hlen : ((l.take i).flatMap (z0O a)).length ≤ 10000000 := by
   rw [z3H, List.length_take]
   have : min i l.length * a ≤ 100000 * 16 := Nat.mul_le_mul (by omega) ha
   omega
  simp only [hq, cond_true, zo hx, Option.bind_some]
  rw [bdT (zbB ha (hw _ (List.getElem_mem hi)) hlen)]
  unfold Zw
  rw [vu (by omega) (by omega), List.take_add_one, hx, List.flatMap_append]
  simp) (by
  show wG (a : Int) l _ (l.length : Int) = _
  unfold wG
  simp)
 simpa using h
def Zk (a f : Nat) : Nat → List (List Int)
 | 0 => []
 | k + 1 => if f ≤ k then Zk a f k ++ exW a k else Zk a f k
def syW (a f : Nat) : Nat → Nat
 | 0 => 0
 | k + 1 => if f ≤ k then syW a f k + k * a ^ k else syW a f k
def Zn (a f t k : Nat) : Prop := 4096 < (Zk a f (k + 1)).length ∨ 65536 < syW a f (k + 1) ∨ k < t ∧ 4096 < a ^ k * a
instance (a f t k : Nat) : Decidable (Zn a f t k) := by unfold Zn; infer_instance
theorem z6v {a f t k : Nat} (ha : 1 ≤ a ∧ a ≤ 16) (hf : f ≤ 256) (ht : t ≤ 256) (hk : k ≤ t) (ho : (Zk a f k).length ≤ 4096) (hs : syW a f k ≤ 65536) (hl : a ^ k ≤ 4096) :
  vz (a : Int) (f : Int) (t : Int) (Zk a f k) (exW a k) (syW a f k : Int) (k : Int) = if Zn a f t k then some (.done ([], 3)) else if k = t then Option.bind (xg (Zk a f (k + 1))) (fun r => some (.done (r.1, r.2))) else some (.next (Zk a f (k + 1), exW a (k + 1), (syW a f (k + 1) : Int), ((k + 1 : Nat) : Int))) := by
 have hmul : k * a ^ k ≤ 256 * 4096 := Nat.mul_le_mul (by omega) hl
 have hma : a ^ k * a ≤ 4096 * 16 := Nat.mul_le_mul hl ha.2
 have e : vz (a : Int) (f : Int) (t : Int) (Zk a f k) (exW a k) (syW a f k : Int) (k : Int) = q9 (a : Int) (t : Int) (exW a k) (k : Int) (Zk a f (k + 1)) (syW a f (k + 1) : Int) := by
  unfold vz
  by_cases h : f ≤ k
  ·have hd : decide ((k : Int) ≥ (f : Int)) = true := by simpa using h
   simp only [hd, cond_true]
   have hm : w64 ((k : Int) * ((exW a k).length : Int)) = ((k * a ^ k : Nat) : Int) := by
    rw [Ww, ← Int.natCast_mul, vu (by omega) (by omega)]
   rw [gdT (by rw [Ww]; omega), hm, vu (by omega) (by omega)]
   simp only [Zk, syW, if_pos h]
   congr 1
  ·have hd : decide ((k : Int) ≥ (f : Int)) = false := by simp; omega
   simp only [hd, cond_false, Zk, syW, if_neg h]
 rw [e]
 unfold q9
 by_cases h1 : 4096 < (Zk a f (k + 1)).length
 ·have : decide (((Zk a f (k + 1)).length : Int) > 4096) = true := by simp only [decide_eq_true_eq]; omega
  simp only [this, cond_true]
  rw [if_pos (show Zn a f t k from .inl h1)]
 have d1 : decide (((Zk a f (k + 1)).length : Int) > 4096) = false := by simp; omega
 simp only [d1, cond_false]
 by_cases h2 : 65536 < syW a f (k + 1)
 ·have : decide ((syW a f (k + 1) : Int) > 65536) = true := by simp only [decide_eq_true_eq]; omega
  simp only [this, cond_true]
  rw [if_pos (show Zn a f t k from .inr (.inl h2))]
 have d2 : decide ((syW a f (k + 1) : Int) > 65536) = false := by simp; omega
 simp only [d2, cond_false]
 have hm : w64 (((exW a k).length : Int) * (a : Int)) = ((a ^ k * a : Nat) : Int) := by
  rw [Ww, ← Int.natCast_mul, vu (by omega) (by omega)]
 rw [hm]
 have J4 : ∀ (hns : ¬ (k < t ∧ 4096 < a ^ k * a)) (b : Bool), uZ (a : Int) (t : Int) (exW a k) (k : Int) (Zk a f (k + 1)) (syW a f (k + 1) : Int) b = if k = t then Option.bind (xg (Zk a f (k + 1))) (fun r => some (.done (r.1, r.2))) else some (.next (Zk a f (k + 1), exW a (k + 1), (syW a f (k + 1) : Int), ((k + 1 : Nat) : Int))) := by
  intro hns b
  unfold uZ
  by_cases hkt : k = t
  ·subst hkt
   simp
  ·have hd : ((k : Int) == (t : Int)) = false := by simp; omega
   simp only [hd, cond_false, if_neg hkt]
   rw [bdT (zbn ha.2 (fun w hw => by rw [ZA a k w hw]; omega) (by rw [Ww]; omega))]
   unfold Zx Zy
   rw [vu (by omega) (by omega)]
   rfl
 by_cases hkt : k < t
 ·have hd : decide ((k : Int) < (t : Int)) = true := by simpa using hkt
  simp only [hd, cond_true]
  by_cases h3 : 4096 < a ^ k * a
  ·have : decide (((a ^ k * a : Nat) : Int) > 4096) = true := by simp only [decide_eq_true_eq]; omega
   simp only [this, cond_true]
   rw [if_pos (show Zn a f t k from .inr (.inr ⟨hkt, h3⟩))]
  ·have : decide (((a ^ k * a : Nat) : Int) > 4096) = false := by simp only [decide_eq_false_iff_not]; omega
   simp only [this, cond_false]
   rw [J4 (by omega), if_neg (show ¬ Zn a f t k by unfold Zn; omega)]
 ·have hd : decide ((k : Int) < (t : Int)) = false := by simp; omega
  simp only [hd, cond_false]
  rw [J4 (by omega), if_neg (show ¬ Zn a f t k by unfold Zn; omega)]
theorem z0j {a f t k : Nat} (ha : 1 ≤ a) (hs : ¬ Zn a f t k) (hk : k < t) : (Zk a f (k + 1)).length ≤ 4096 ∧ syW a f (k + 1) ≤ 65536 ∧ a ^ (k + 1) ≤ 4096 := by
 unfold Zn at hs
 rw [Nat.pow_succ]
 omega
theorem z6w {a f t : Nat} (ha : 1 ≤ a ∧ a ≤ 16) (hf : f ≤ 256) (ht : t ≤ 256) {r : Option (List (List Int) × Int)}
  (hr : (∃ j, j ≤ t ∧ Zn a f t j) → r = some ([], 3)) (hr2 : (∀ j, j ≤ t → ¬ Zn a f t j) → r = Option.bind (xg (Zk a f (t + 1))) fun r => some (r.1, r.2)) :
  ∀ (m k : Nat), k ≤ t → t - k < m → (∀ j, j < k → ¬ Zn a f t j) → (Zk a f k).length ≤ 4096 → syW a f k ≤ 65536 → a ^ k ≤ 4096 → W3 (fun s => vz (a : Int) (f : Int) (t : Int) s.1 s.2.1 s.2.2.1 s.2.2.2) m (Zk a f k, exW a k, (syW a f k : Int), (k : Int)) = r
 | 0, k, _, h, _, _, _, _ => by omega
 | m + 1, k, hk, hm, hns, h1, h2, h3 => by
  rw [kL]
  dsimp only
  rw [z6v ha hf ht hk h1 h2 h3]
  by_cases hst : Zn a f t k
  ·rw [if_pos hst, hr ⟨k, hk, hst⟩]
  ·rw [if_neg hst]
   by_cases hkt : k = t
   ·subst hkt
    rw [if_pos rfl, hr2 fun j hj => by
     rcases Nat.lt_or_ge j k with q | q
     ·exact hns j q
     ·rw [show j = k by omega]; exact hst]
    cases xg (Zk a f (k + 1)) <;> rfl
   ·rw [if_neg hkt]
    obtain ⟨q1, q2, q3⟩ := z0j ha.1 hst (by omega)
    exact z6w ha hf ht hr hr2 m (k + 1) (by omega) (by omega) (fun j hj => by
     rcases Nat.lt_or_ge j k with q | q
     ·exact hns j q
     ·rw [show j = k by omega]; exact hst) q1 q2 q3
theorem zbO {a f t : Nat} (ha : 1 ≤ a ∧ a ≤ 16) (hf : f ≤ 256) (ht : t ≤ 256) {r : Option (List (List Int) × Int)}
  (hr : (∃ j, j ≤ t ∧ Zn a f t j) → r = some ([], 3)) (hr2 : (∀ j, j ≤ t → ¬ Zn a f t j) → r = Option.bind (xg (Zk a f (t + 1))) fun r => some (r.1, r.2)) :
  Yd (a : Int) (f : Int) (t : Int) = r := by
 unfold Yd
 have d1 : decide ((a : Int) > 16) = false := by simp; omega
 have d2 : decide ((a : Int) < 1) = false := by simp; omega
 have d3 : decide ((t : Int) < 0) = false := by simp
 have d4 : decide ((t : Int) > 256) = false := by simp; omega
 simp only [d1, d2, d3, d4, cond_false]
 have h := z6w ha hf ht hr hr2 YO 0 (Nat.zero_le _) (by show t - 0 < 18446744073709551616; omega) (fun j hj => by omega) (by simp [Zk]) (by simp [syW]) (by simp)
 have h' : loop (fun s => vz (a : Int) (f : Int) (t : Int) s.1 s.2.1 s.2.2.1 s.2.2.2) (([] : List (List Int)), ([[]] : List (List Int)), 0, 0) = r := h
 rw [h']
 cases r <;> rfl
end Go.Own

namespace Go.Own
theorem QI {l : List (List Int)} {m : Nat} {L : Nat} (hl : l.length ≤ L) (h : ∀ w ∈ l, w.length ≤ m) : qg l ≤ L * m := Nat.le_trans (z2f h) (Nat.mul_le_mul_right _ hl)
end Go.Own

namespace Go.Own
theorem YS {n : Int} {l : List (List Int)} (h : chE n l = 0) : l.length ≤ 4096 ∧ (∀ w ∈ l, w.length ≤ 256) ∧ qg l ≤ 65536 ∧ SW l ∧ (1 ≤ n ∧ n ≤ 16) ∧ ∀ w ∈ l, ∀ c ∈ w, 0 ≤ c ∧ c < n := by
 obtain ⟨h1, h2, h3⟩ := z3S.1 h
 obtain ⟨q1, q2, _⟩ := Jh h1
 obtain ⟨r1, _, r3⟩ := Qi.1 h1
 exact ⟨q1, q2, h3, h2, r1, fun w hw => (r3 w hw).2⟩
theorem QJ (l m : List (List Int)) : qg (l ++ m) = qg l + qg m := by simp [qg]
def Wq (n : Int) (L k : Nat) (l : List (List Int)) : Prop := SW l ∧ l.length ≤ L ∧ ∀ w ∈ l, w.length ≤ k ∧ ∀ c ∈ w, 0 ≤ c ∧ c < n
theorem Wq.ch {n : Int} {L k : Nat} {l : List (List Int)} (h : Wq n L k l) (hn : 1 ≤ n ∧ n ≤ 16) (hL : L ≤ 4096) (hk : k ≤ 256) (hLk : L * k ≤ 65536) : chE n l = 0 := by
 obtain ⟨h1, h2, h3⟩ := h
 refine z3S.2 ⟨Qi.2 ⟨hn, by omega, fun w hw => ⟨by have := (h3 w hw).1; omega, (h3 w hw).2⟩⟩, h1, ?_⟩
 exact Nat.le_trans (QI h2 fun w hw => (h3 w hw).1) hLk
theorem Wq.take {n : Int} {L k : Nat} {l : List (List Int)} (h : Wq n L k l) (m : Nat) : Wq n m k (l.take m) :=
 ⟨h.1.sub (List.take_sublist _ _), by rw [List.length_take]; omega, fun w hw => h.2.2 w (List.mem_of_mem_take hw)⟩
end Go.Own

namespace Go.Own
theorem xH {σ : Type} (f : Nat → σ → σ) (s : σ) (n : Nat) : (List.range (n + 1)).foldl (fun s i => f i s) s = f n ((List.range n).foldl (fun s i => f i s) s) := by
 rw [List.range_succ, List.foldl_append]; rfl
theorem vS {σ : Type} {f : Nat → σ → σ} {I : Nat → σ → Prop} {s : σ} (h0 : I 0 s) : ∀ (n : Nat), (∀ i s, i < n → I i s → I (i + 1) (f i s)) → I n ((List.range n).foldl (fun s i => f i s) s)
 | 0, _ => h0
 | n + 1, h => by
  rw [xH]
  exact h n _ (Nat.lt_succ_self n) (vS h0 n fun i s hi => h i s (by omega))
theorem uh {σ α : Type} (g : α → σ → σ) (d : α) (l : List α) (s : σ) : (List.range l.length).foldl (fun s i => g ((l[i]?).getD d) s) s = l.foldl (fun s x => g x s) s := by
 have e : l = (List.range l.length).map fun i => (l[i]?).getD d := by
  apply List.ext_getElem (by simp)
  intro i h1 h2
  simp [List.getElem?_eq_getElem h1]
 have q : ((List.range l.length).map fun i => (l[i]?).getD d).foldl (fun s x => g x s) s = (List.range l.length).foldl (fun s i => g ((l[i]?).getD d) s) s := by rw [List.foldl_map]
 rw [← q, ← e]
theorem jA {σ S τ : Type} {step : S → Option (LR S τ)} (st : σ → Nat → S) (f : Nat → σ → σ) (I : Nat → σ → Prop) (n : Nat) (hn : n < 9223372036854775808) {s0 : σ} {t : τ} (h0 : I 0 s0)
  (h : ∀ i s, i < n → I i s → step (st s i) = some (.next (st (f i s) (i + 1))) ∧ I (i + 1) (f i s))
  (hd : I n ((List.range n).foldl (fun s i => f i s) s0) → step (st ((List.range n).foldl (fun s i => f i s) s0) n) = some (.done t)) : loop step (st s0 0) = some t := by
 have inv : ∀ m, m ≤ n → I m ((List.range m).foldl (fun s i => f i s) s0) := fun m hm => vS h0 m fun i s hi hI => (h i s (by omega) hI).2
 refine V7 (fun m => st ((List.range m).foldl (fun s i => f i s) s0) m) n hn (fun i hi => ?_) (hd (inv n (Nat.le_refl _)))
 show step (st ((List.range i).foldl (fun s i => f i s) s0) i) = _
 rw [(h i _ hi (inv i (by omega))).1, xH]
theorem vA {i : Nat} (h : i < 9223372036854775807) : w64 ((i : Int) + 1) = ((i + 1 : Nat) : Int) := by rw [vu (by omega) (by omega)]; rfl
end Go.Own

namespace Go.Own
structure COk (m : z6) (c : z8) : Prop where
 st : c.States.length = m.Rows.length
 ed : c.Edges.length = m.Rows.length
 row : ∀ (s : Nat) (e : List Bool), c.Edges[s]? = some e → e.length = kk m
def setS (c : z8) (s : Nat) : z8 := ⟨c.States.set s true, c.Edges⟩
def setE (c : z8) (s i : Nat) : z8 := ⟨c.States, c.Edges.set s (((c.Edges[s]?).getD []).set i true)⟩
section
variable {m : z6} {c : z8}
theorem COk.setS (h : COk m c) (s : Nat) : COk m (setS c s) := ⟨by simp [Own.setS, h.st], h.ed, h.row⟩
theorem COk.rowAt (h : COk m c) {s : Nat} (hs : s < m.Rows.length) : ∃ e, c.Edges[s]? = some e ∧ e.length = kk m := by
 have hs' : s < c.Edges.length := by rw [h.ed]; exact hs
 exact ⟨_, List.getElem?_eq_getElem hs', h.row s _ (List.getElem?_eq_getElem hs')⟩
theorem COk.setE (h : COk m c) {s i : Nat} (hs : s < m.Rows.length) : COk m (setE c s i) := by
 refine ⟨h.st, by simp [Own.setE, h.ed], fun t e he => ?_⟩
 obtain ⟨r, h1, h2⟩ := h.rowAt hs
 simp only [Own.setE, h1, Option.getD_some] at he
 rw [List.getElem?_set] at he
 split at he
 ·split at he
  ·cases he; simpa using h2
  ·cases he
 ·exact h.row t e he
theorem COk.stAt (h : COk m c) {s : Nat} (hs : s < m.Rows.length) : ∃ b, c.States[s]? = some b := ⟨_, List.getElem?_eq_getElem (by rw [h.st]; exact hs)⟩
end
def z1y (m : z6) (w : List Nat) (s : Int) (k : Nat) (c : z8) : z8 :=
 match w[k]? with
 | some i => if (E m s.toNat i).To ≠ -1 then setE (setS c s.toNat) s.toNat i else setS c s.toNat
 | none => setS c s.toNat
def Ws (m : z6) (w : List Nat) (k : Nat) (c : z8) : z8 :=
 if aft m 0 (w.take k) = -1 then c else z1y m w (aft m 0 (w.take k)) k c
def z4s (m : z6) (w : List Nat) (c : z8) : z8 := (List.range (w.length + 1)).foldl (fun c k => Ws m w k c) c
def z9Z (m : z6) (l : List (List Nat)) (c : z8) : z8 := l.foldl (fun c w => z4s m w c) c
def Wg (m : z6) : z8 := ⟨List.replicate m.Rows.length false, List.replicate m.Rows.length (List.replicate (kk m) false)⟩
section
variable {m : z6} (h : VM m)
include h
omit h in
theorem VN : COk m (Wg m) := ⟨by simp [Wg], by simp [Wg], fun s e he => by
 simp only [Wg, List.getElem?_replicate] at he
 split at he
 ·cases he; simp
 ·cases he⟩
theorem UH {w : List Nat} (hw : Wd (kk m) w) (k : Nat) : z6x m (aft m 0 (w.take k)) := KE h _ _ ⟨by omega, by have := h.len1; omega⟩ fun i hi => hw i (List.mem_of_mem_take hi)
omit h in
theorem z7v {w : List Nat} (hw : Wd (kk m) w) {s : Int} (h0 : 0 ≤ s) (h1 : s < m.Rows.length) {k : Nat} {c : z8} (hc : COk m c) : COk m (z1y m w s k c) := by
 unfold z1y
 split
 ·split
  ·exact (hc.setS _).setE (by omega)
  ·exact hc.setS _
 ·exact hc.setS _
theorem z0m {w : List Nat} (hw : Wd (kk m) w) (k : Nat) {c : z8} (hc : COk m c) : COk m (Ws m w k c) := by
 unfold Ws
 split
 ·exact hc
 ·have := UH h hw k
  exact z7v hw (by have := this.1; omega) this.2 hc
theorem z2I {w : List Nat} (hw : Wd (kk m) w) {c : z8} (hc : COk m c) : COk m (z4s m w c) := by
 unfold z4s
 exact vS (I := fun _ c => COk m c) hc _ fun i s _ hs => z0m h hw i hs
theorem z64 : ∀ {l : List (List Nat)} {c : z8}, (∀ w ∈ l, Wd (kk m) w) → COk m c → COk m (z9Z m l c)
 | [], _, _, hc => hc
 | w :: l, c, hw, hc => z64 (l := l) (fun v hv => hw v (by simp [hv])) (z2I h (hw w (by simp)) hc)
omit h in
theorem z3Z {w : List Nat} {k : Nat} {i : Nat} (hi : w[k]? = some i) : aft m 0 (w.take (k + 1)) = (nxE m (aft m 0 (w.take k)) i).To := by
 have e : w.take (k + 1) = w.take k ++ [i] := by
  rw [List.take_add_one, hi]; rfl
 rw [e, (XN m (w.take k) 0 i).2]
theorem Kx {w : List Nat} (hw : Wd (kk m) w) {s : Int} (h0 : 0 ≤ s) (h1 : s < m.Rows.length) {k : Nat} {c : z8} (hc : COk m c) : xV (w.map Int.ofNat) m s (k : Int) c = some (z1y m w s k c) := by
 obtain ⟨n, rfl⟩ : ∃ n : Nat, s = n := ⟨s.toNat, by omega⟩
 have hn : n < m.Rows.length := by omega
 obtain ⟨b, hb⟩ := hc.stAt hn
 unfold xV z1y
 rw [zo hb, Option.bind_some, List.length_map]
 cases hi : w[k]? with
 | none =>
  have hk : ¬ (k : Int) < (w.length : Int) := by have := List.getElem?_eq_none_iff.1 hi; omega
  rw [decide_eq_false hk]
  rfl
 | some i =>
  have hk : (k : Int) < (w.length : Int) := by have := (List.getElem?_eq_some_iff.1 hi).1; omega
  have hik : i < kk m := hw i (List.mem_of_getElem? hi)
  have hm : (w.map Int.ofNat)[k]? = some (i : Int) := by rw [List.getElem?_map, hi]; rfl
  obtain ⟨r, hr, hrl, hre⟩ := h.rowAt hn
  obtain ⟨e, he, hel⟩ := hc.rowAt hn
  rw [decide_eq_true hk, cond_true, zo hr, Option.bind_some, zo hm, Option.bind_some, zo (hre i hik), Option.bind_some]
  simp only [Int.toNat_natCast]
  by_cases ht : (E m n i).To = -1
  ·rw [if_neg (by simpa using ht), ht]
   rfl
  ·have hb2 : ((E m n i).To != -1) = true := by simpa using ht
   have hie : e[i]? = some e[i] := List.getElem?_eq_getElem (by omega)
   rw [if_pos ht, hb2, cond_true, zo he, Option.bind_some, Option.bind_some, zo hie, Option.bind_some]
   simp [setE, setS, he]
theorem z6M {w : List Nat} (hw : Wd (kk m) w) (hl : w.length ≤ 100000) {c : z8} (hc : COk m c) : wX m (w.map Int.ofNat) (fun s x => xV (w.map Int.ofNat) m x.1 x.2 s) c = some (z4s m w c) := by
 unfold wX
 have a0 : aft m 0 (w.take 0) = 0 := rfl
 have hm0 : Ws m w 0 c = z1y m w 0 0 c := by unfold Ws; rw [a0]; rfl
 have c0 := Kx h hw (s := 0) (k := 0) (by omega) (by have := h.len1; omega) hc
 refine Eq.trans (bdT c0) ?_
 have run : Ret (loop (fun s => wW (fun s x => xV (w.map Int.ofNat) m x.1 x.2 s) m (w.map Int.ofNat) s.1 s.2.1 s.2.2) (z1y m w 0 0 c, 0, 0)) fun r => r = z4s m w c := by
  refine kw (fun q => ∃ k : Nat, q.2.2 = (k : Int) ∧ k ≤ w.length ∧ q.2.1 = aft m 0 (w.take k) ∧ q.2.1 ≠ -1 ∧ q.1 = (List.range (k + 1)).foldl (fun c k => Ws m w k c) c) (fun q => 200000 - q.2.2.toNat) ⟨0, rfl, Nat.zero_le _, rfl, by simp, by show _ = Ws m w 0 c; rw [hm0]⟩ (by show 200000 - _ < _; omega) ?_
  rintro ⟨q, s, _⟩ ⟨k, rfl, hk, hs, hne, hq⟩
  simp only at hs hne hq
  unfold wW
  simp only [List.length_map]
  have hin := UH h hw k
  rw [← hs] at hin
  have hqok : COk m q := by rw [hq]; exact vS (I := fun _ c => COk m c) hc _ fun i s _ hs => z0m h hw i hs
  obtain ⟨n, rfl⟩ : ∃ n : Nat, s = n := ⟨s.toNat, by have := hin.1; omega⟩
  have hn : n < m.Rows.length := by have := hin.2; omega
  rw [uR]
  refine ⟨fun hc1 => ?_, fun hc1 => ?_⟩
  ·have hlt : k < w.length := by simpa using hc1
   have hi : w[k]? = some w[k] := List.getElem?_eq_getElem hlt
   have hik : w[k] < kk m := hw _ (List.getElem_mem hlt)
   have hm : (w.map Int.ofNat)[k]? = some (w[k] : Int) := by rw [List.getElem?_map, hi]; rfl
   obtain ⟨r, hr, hrl, hre⟩ := h.rowAt hn
   have hto : aft m 0 (w.take (k + 1)) = (E m n w[k]).To := by rw [z3Z hi, ← hs, VG]
   rw [zo hm, Option.bind_some, zo hr, Option.bind_some, zo (hre _ hik), Option.bind_some, uR]
   have hw1 : w64 ((k : Int) + 1) = ((k + 1 : Nat) : Int) := vA (by omega)
   refine ⟨fun hc2 => ?_, fun hc2 => ?_⟩
   ·have hto1 : (E m n w[k]).To = -1 := by simpa using hc2
    rw [zF]
    show q = _
    rw [hq]
    unfold z4s
    have : ∀ d, (List.range (k + 1 + d)).foldl (fun c k => Ws m w k c) c = (List.range (k + 1)).foldl (fun c k => Ws m w k c) c := by
     intro d
     induction d with
     | zero => rfl
     | succ d ih =>
      rw [show k + 1 + (d + 1) = (k + 1 + d) + 1 by omega, xH (fun k c => Ws m w k c), ih]
      unfold Ws
      rw [if_pos]
      have h1 : w.take (k + 1 + d) = w.take (k + 1) ++ (w.drop (k + 1)).take d := by rw [List.take_add]
      rw [h1, z2Q, hto, hto1]
      have h2 := z2P m ((w.drop (k + 1)).take d) (-1) (by omega)
      have h3 := (KE h ((w.drop (k + 1)).take d) (-1) ⟨by omega, by have := h.len1; omega⟩ fun i hi => hw i (List.mem_of_mem_drop (List.mem_of_mem_take hi))).1
      omega
    have e := this (w.length - k)
    rw [show k + 1 + (w.length - k) = w.length + 1 by omega] at e
    exact e.symm
   ·have hto1 : (E m n w[k]).To ≠ -1 := by simpa using hc2
    rcases h.edgeAt hn hik with ⟨g, _⟩ | ⟨g1, g2, _⟩
    ·exact absurd g hto1
    ·rw [hw1, Kx h hw g1 g2 hqok, Option.bind_some, zF]
     refine ⟨⟨k + 1, rfl, hlt, hto.symm, hto1, ?_⟩, by simp only; omega⟩
     rw [xH (fun k c => Ws m w k c), ← hq]
     unfold Ws
     rw [hto, if_neg hto1]
  ·have hge : k = w.length := by simp at hc1; omega
   subst hge
   rw [zF]
   exact hq
 exact bdT run.eq
theorem z9x {l : List (List Nat)} (hw : ∀ w ∈ l, Wd (kk m) w) {i : Nat} {w : List Nat} (hi : l[i]? = some w) (hl : w.length ≤ 100000) {c : z8} (hc : COk m c) :
  loop (fun s => wB m (l.map (List.map Int.ofNat)) (i : Int) s.1 s.2.1 s.2.2) (c.States, c.Edges, 0) = some ((z4s m w c).States, (z4s m w c).Edges) := by
 have hW : Wd (kk m) w := hw w (List.mem_of_getElem? hi)
 have hm : (l.map (List.map Int.ofNat))[i]? = some (w.map Int.ofNat) := by rw [List.getElem?_map, hi]; rfl
 refine jA (σ := z8) (fun c k => (c.States, c.Edges, (k : Int))) (fun k c => Ws m w k c) (fun _ c => COk m c) (w.length + 1) (by omega) hc (fun k c hk hc => ?_) (fun _ => ?_)
 ·refine ⟨?_, z0m h hW k hc⟩
  simp only
  unfold wB
  have hk1 : (k : Int) ≤ (w.length : Int) := by omega
  have hwk : w64 ((k : Int) + 1) = ((k + 1 : Nat) : Int) := vA (by omega)
  have hin := UH h hW k
  have hcut : ((w.map Int.ofNat).drop 0).take ((k : Int).toNat - 0) = (w.take k).map Int.ofNat := by simp
  rw [zo hm, Option.bind_some, List.length_map, decide_eq_true hk1, cond_true, Option.bind_some, gdT (by rw [List.length_map]; omega), hcut,
   z41 h (s := 0) ⟨by omega, by have := h.len1; omega⟩ _ (fun i hi => hW i (List.mem_of_mem_take hi)), Option.bind_some]
  unfold xU
  unfold Ws
  by_cases hs : aft m 0 (w.take k) = -1
  ·have : (aft m 0 (w.take k) == -1) = true := by simpa using hs
   rw [this, cond_true, if_pos hs, hwk]
  ·have : (aft m 0 (w.take k) == -1) = false := by simpa using hs
   rw [this, cond_false, if_neg hs]
   obtain ⟨n, hn⟩ : ∃ n : Nat, aft m 0 (w.take k) = n := ⟨(aft m 0 (w.take k)).toNat, by have := hin.1; omega⟩
   rw [hn] at hin ⊢
   have hn1 : n < m.Rows.length := by have := hin.2; omega
   obtain ⟨b, hb⟩ := hc.stAt hn1
   rw [zo hb, Option.bind_some, Option.bind_some]
   unfold z1y
   rw [List.length_map]
   cases hik : w[k]? with
   | none =>
    have hk2 : ¬ (k : Int) < (w.length : Int) := by have := List.getElem?_eq_none_iff.1 hik; omega
    rw [decide_eq_false hk2, cond_false, hwk]
    simp only [Int.toNat_natCast]
    rfl
   | some j =>
    have hk2 : (k : Int) < (w.length : Int) := by have := (List.getElem?_eq_some_iff.1 hik).1; omega
    have hj : j < kk m := hW j (List.mem_of_getElem? hik)
    have hm2 : (w.map Int.ofNat)[k]? = some (j : Int) := by rw [List.getElem?_map, hik]; rfl
    obtain ⟨r, hr, hrl, hre⟩ := h.rowAt hn1
    obtain ⟨e, he, hel⟩ := hc.rowAt hn1
    rw [decide_eq_true hk2, cond_true, zo hr, Option.bind_some, Option.bind_some, zo hm2, Option.bind_some, zo (hre j hj), Option.bind_some]
    simp only [Int.toNat_natCast]
    by_cases ht : (E m n j).To = -1
    ·rw [if_neg (by simpa using ht), ht, hwk]
     rfl
    ·have hb2 : ((E m n j).To != -1) = true := by simpa using ht
     have hie : e[j]? = some e[j] := List.getElem?_eq_getElem (by omega)
     rw [if_pos ht, hb2, cond_true, zo he, Option.bind_some, Option.bind_some, zo hm2, Option.bind_some, zo hie, Option.bind_some, hwk]
     simp [setE, setS, he]
 ·simp only
  unfold wB
  rw [zo hm, Option.bind_some, List.length_map, decide_eq_false (by omega), cond_false]
  rfl
theorem z9y {l : List (List Nat)} (hw : ∀ w ∈ l, Wd (kk m) w) (hl : l.length ≤ 100000) (hl2 : ∀ w ∈ l, w.length ≤ 100000) : qq m (l.map (List.map Int.ofNat)) = some (z9Z m l (Wg m)) := by
 have hlen := h.len64
 have hk := h.kk_eq
 have hk16 := h.kk_le
 unfold qq
 rw [gdT (by omega)]
 have e1 : loop (fun s => xT m s.1 s.2) (([] : List (List Bool)), 0) = some (List.replicate m.Rows.length (List.replicate (kk m) false)) := by
  have q := jA (step := fun s => xT m s.1 s.2) (σ := List (List Bool)) (τ := List (List Bool)) (fun c k => (c, (k : Int))) (fun k c => c ++ [List.replicate (kk m) false]) (fun k c => c = List.replicate k (List.replicate (kk m) false)) m.Rows.length (by omega) (s0 := []) (t := List.replicate m.Rows.length (List.replicate (kk m) false)) rfl ?_ ?_
  ·exact q
  ·rintro k _ hk1 rfl
   refine ⟨?_, by rw [List.replicate_succ']⟩
   simp only
   unfold xT
   rw [decide_eq_true (by omega), cond_true, gdT (by omega), gdT (by simp; omega), vA (by omega), ← hk]
   simp
  ·intro hq
   simp only [hq]
   unfold xT
   rw [decide_eq_false (by omega), cond_false]
 rw [e1, Option.bind_some]
 unfold uM
 have e2 : loop (fun s => wC m (l.map (List.map Int.ofNat)) s.1 s.2.1 s.2.2) ((Wg m).States, (Wg m).Edges, 0) = some ((z9Z m l (Wg m)).States, (z9Z m l (Wg m)).Edges) := by
  have hfl := uh (fun w c => z4s m w c) ([] : List Nat) l (Wg m)
  refine jA (σ := z8) (fun c k => (c.States, c.Edges, (k : Int))) (fun i c => z4s m ((l[i]?).getD []) c) (fun _ c => COk m c) l.length (by omega) VN (fun i c hi hc => ?_) (fun _ => ?_)
  ·have hx : l[i]? = some l[i] := List.getElem?_eq_getElem hi
   simp only [hx, Option.getD_some]
   refine ⟨?_, z2I h (hw _ (List.getElem_mem hi)) hc⟩
   unfold wC
   rw [List.length_map, decide_eq_true (by omega), cond_true, z9x h hw hx (hl2 _ (List.getElem_mem hi)) hc, Option.bind_some]
   unfold uL
   rw [vA (by omega)]
  ·rw [hfl]
   simp only
   unfold wC
   rw [List.length_map, decide_eq_false (by omega), cond_false]
   rfl
 have e3 : ((m.Rows.length : Nat) : Int).toNat = m.Rows.length := by simp
 rw [e3]
 refine Eq.trans (bdT e2) ?_
 rfl
theorem z3L : qd m = some (Wg m) := by
 have hlen := h.len64
 have hk := h.kk_eq
 have hk16 := h.kk_le
 unfold qd
 have e3 : ((m.Rows.length : Nat) : Int).toNat = m.Rows.length := by simp
 rw [gdT (by omega), gdT (by omega), e3]
 have e1 : loop (fun s => wo m s.1 s.2) (List.replicate m.Rows.length ([] : List Bool), 0) = some (List.replicate m.Rows.length (List.replicate (kk m) false)) := by
  refine jA (step := fun s => wo m s.1 s.2) (σ := List (List Bool)) (fun c k => (c, (k : Int))) (fun k c => c.set k (List.replicate (kk m) false)) (fun k c => k ≤ m.Rows.length ∧ c = List.replicate k (List.replicate (kk m) false) ++ List.replicate (m.Rows.length - k) []) m.Rows.length (by omega) ⟨Nat.zero_le _, by simp⟩ ?_ ?_
  ·rintro k _ hk1 ⟨_, rfl⟩
   have hd : m.Rows.length - k = (m.Rows.length - (k + 1)) + 1 := by omega
   refine ⟨?_, hk1, ?_⟩
   ·simp only
    unfold wo
    have hx : (List.replicate k (List.replicate (kk m) false) ++ List.replicate (m.Rows.length - k) [])[k]? = some [] := by
     rw [List.getElem?_append_right (by simp), hd]; simp
    rw [decide_eq_true (by omega), cond_true, gdT (by omega), zo hx, Option.bind_some, vA (by omega), ← hk]
    simp
   ·rw [List.set_append_right _ _ (by simp), hd, List.replicate_succ, List.length_replicate, Nat.sub_self, List.set_cons_zero, List.replicate_succ', List.append_assoc]
    rfl
  ·rintro ⟨_, hq⟩
   rw [hq]
   simp only
   unfold wo
   rw [decide_eq_false (by omega), cond_false]
   simp
 rw [e1]
 rfl
theorem z9B {l : List (List Nat)} (hw : ∀ w ∈ l, Wd (kk m) w) (hl : l.length ≤ 100000) (hl2 : ∀ w ∈ l, w.length ≤ 100000) (hr : xh m (l.map (List.map Int.ofNat)) = some 0) : wc m (l.map (List.map Int.ofNat)) = some (z9Z m l (Wg m), 0) := by
 unfold wc
 rw [hr, Option.bind_some]
 have b0 : ((0 : Int) != 0) = false := rfl
 rw [b0, cond_false, z3L h, Option.bind_some]
 have e2 : loop (fun s => wg m (l.map (List.map Int.ofNat)) s.1 s.2.1 s.2.2) ((Wg m).States, (Wg m).Edges, 0) = some ((z9Z m l (Wg m)).States, (z9Z m l (Wg m)).Edges) := by
  have hfl := uh (fun w c => z4s m w c) ([] : List Nat) l (Wg m)
  refine jA (σ := z8) (fun c k => (c.States, c.Edges, (k : Int))) (fun i c => z4s m ((l[i]?).getD []) c) (fun _ c => COk m c) l.length (by omega) VN (fun i c hi hc => ?_) (fun _ => ?_)
  ·have hx : l[i]? = some l[i] := List.getElem?_eq_getElem hi
   have hm : (l.map (List.map Int.ofNat))[i]? = some (l[i].map Int.ofNat) := by rw [List.getElem?_map, hx]; rfl
   simp only [hx, Option.getD_some]
   refine ⟨?_, z2I h (hw _ (List.getElem_mem hi)) hc⟩
   unfold wg
   rw [List.length_map, decide_eq_true (by omega), cond_true, zo hm, Option.bind_some]
   refine Eq.trans (bdT (z6M h (hw _ (List.getElem_mem hi)) (hl2 _ (List.getElem_mem hi)) (c := c) hc)) ?_
   rw [vA (by omega)]
  ·rw [hfl]
   simp only
   unfold wg
   rw [List.length_map, decide_eq_false (by omega), cond_false]
   rfl
 refine Eq.trans (bdT e2) ?_
 rfl
end
end Go.Own

namespace Go.Own
theorem z3F {α : Type} (p : α → Bool) : ∀ (l : List α) (k : Nat), (y7 (fun i x => if p x = true then none else some ((i : Nat) : Int)) l k = none ∧ l.all p = true) ∨ ∃ i : Nat, y7 (fun i x => if p x = true then none else some ((i : Nat) : Int)) l k = some (i : Int) ∧ l.all p = false
 | [], _ => .inl ⟨rfl, rfl⟩
 | x :: l, k => by
  simp only [y7, List.all_cons]
  cases hp : p x with
  | true => simpa using z3F p l (k + 1)
  | false => exact .inr ⟨k, by simp, by simp⟩
theorem z3D {ρ α : Type} (q : Nat → Bool) (r : ρ) : ∀ (L : List α) (k : Nat), y7 (fun i _ => if q i = true then none else some r) L k = if (∀ i, i < L.length → q (k + i) = true) then none else some r
 | [], k => by simp [y7]
 | x :: L, k => by
  simp only [y7]
  cases hq : q k with
  | true =>
   simp only [if_true, z3D q r L (k + 1)]
   congr 1
   apply propext
   constructor
   ·intro h i hi
    cases i with
    | zero => exact hq
    | succ i => have := h i (by simpa using hi); rwa [show k + 1 + i = k + (i + 1) by omega] at this
   ·intro h i hi
    have := h (i + 1) (by simpa using hi)
    rwa [show k + (i + 1) = k + 1 + i by omega] at this
  | false =>
   have hn : ¬ ∀ i, i < (x :: L).length → q (k + i) = true := fun h => by
    have := h 0 (by simp)
    rw [Nat.add_zero, hq] at this
    cases this
   rw [if_neg hn]
   rfl
theorem z7P (l : List Bool) (hl : l.length < 4611686018427387904) : vn l () = some (l.all id) := by
 unfold vn yT xm
 rw [bdT (yn l hl (step := fun s => zV l s) (fun i x => if x = true then none else some ((i : Nat) : Int)) ?_ ?_)]
 ·rcases z3F (fun x : Bool => x) l 0 with ⟨h1, h2⟩ | ⟨i, h1, h2⟩
  ·rw [h1, show l.all id = true from h2]; rfl
  ·rw [h1, show l.all id = false from h2]; simp [oS]
 ·intro i x hx
  have hi := (List.getElem?_eq_some_iff.1 hx).1
  unfold zV vC wO
  rw [decide_eq_true (by omega), cond_true, zo hx]
  simp only [Option.bind_some]
  cases x <;> rfl
 ·unfold zV
  rw [decide_eq_false (by omega), cond_false]
theorem z5V (l : List Bool) (hl : l.length < 4611686018427387904) : xY l () = some (l.all id) := by
 unfold xY yj yS
 rw [bdT (yn l hl (step := fun s => zN l s) (fun i x => if x = true then none else some ((i : Nat) : Int)) ?_ ?_)]
 ·rcases z3F (fun x : Bool => x) l 0 with ⟨h1, h2⟩ | ⟨i, h1, h2⟩
  ·rw [h1, show l.all id = true from h2]; rfl
  ·rw [h1, show l.all id = false from h2]; simp [oS]
 ·intro i x hx
  have hi := (List.getElem?_eq_some_iff.1 hx).1
  unfold zN ww yY
  rw [decide_eq_true (by omega), cond_true, zo hx]
  simp only [Option.bind_some]
  cases x <;> rfl
 ·unfold zN
  rw [decide_eq_false (by omega), cond_false]
theorem z5U (l : List (List Bool)) (hl : l.length < 4611686018427387904) (hw : ∀ r ∈ l, r.length < 4611686018427387904) : wN l () = some (l.all fun r => r.all id) := by
 unfold wN yC x5
 rw [bdT (yn l hl (step := fun s => zP l s) (fun i x => if (x.all id) = true then none else some ((i : Nat) : Int)) ?_ ?_)]
 ·rcases z3F (fun x : List Bool => x.all id) l 0 with ⟨h1, h2⟩ | ⟨i, h1, h2⟩
  ·rw [h1, h2]; rfl
  ·rw [h1, h2]; simp [oS]
 ·intro i x hx
  have hi := (List.getElem?_eq_some_iff.1 hx).1
  unfold zP vb xr
  rw [decide_eq_true (by omega), cond_true, zo hx]
  simp only [Option.bind_some]
  rw [z5V x (hw x (List.mem_of_getElem? hx))]
  simp only [Option.bind_some]
  cases x.all id <;> rfl
 ·unfold zP
  rw [decide_eq_false (by omega), cond_false]
def z1K (c : z8) (s : Nat) : Prop := c.States[s]? = some true
def z3C (c : z8) (s i : Nat) : Prop := ∃ e, c.Edges[s]? = some e ∧ e[i]? = some true
def Xx (m : z6) (w : List Nat) (k : Nat) (c : z8) : z8 :=
 if aft m 0 (w.take k) = -1 then c else if k = w.length then setS c (aft m 0 (w.take k)).toNat else if k + 1 = w.length then setE c (aft m 0 (w.take k)).toNat ((w[k]?).getD 0) else c
def z60 (m : z6) (w : List Nat) (c : z8) : z8 := (List.range (w.length + 1)).foldl (fun c k => Xx m w k c) c
def z3K (m : z6) (l : List (List Nat)) (c : z8) : z8 := l.foldl (fun c w => z60 m w c) c
section
variable {m : z6} {c : z8}
theorem z5I (h : COk m c) {t s : Nat} (ht : t < m.Rows.length) : z1K (setS c t) s ↔ s = t ∨ z1K c s := by
 unfold z1K setS
 exact WU (by rw [h.st]; exact ht)
theorem z5J {t s j : Nat} : z1K (setE c t j) s ↔ z1K c s := Iff.rfl
theorem z5K {t s i : Nat} : z3C (setS c t) s i ↔ z3C c s i := Iff.rfl
theorem z5L (h : COk m c) {t s j i : Nat} (ht : t < m.Rows.length) (hj : j < kk m) : z3C (setE c t j) s i ↔ (s = t ∧ i = j) ∨ z3C c s i := by
 obtain ⟨e, he, hel⟩ := h.rowAt ht
 have htl := (List.getElem?_eq_some_iff.1 he).1
 unfold z3C setE
 simp only [he, Option.getD_some]
 by_cases hs : s = t
 ·subst hs
  rw [List.getElem?_set_self htl]
  constructor
  ·rintro ⟨e2, h1, h2⟩
   cases h1
   rcases (WU (out := e) (by omega)).1 h2 with q | q
   ·exact .inl ⟨rfl, q⟩
   ·exact .inr ⟨e, he, q⟩
  ·rintro (⟨_, rfl⟩ | ⟨e2, h1, h2⟩)
   ·exact ⟨_, rfl, (WU (by omega)).2 (.inl rfl)⟩
   ·rw [he] at h1; cases h1
    exact ⟨_, rfl, (WU (by omega)).2 (.inr h2)⟩
 ·rw [List.getElem?_set_ne (fun q => hs q.symm)]
  constructor
  ·rintro ⟨e2, h1, h2⟩; exact .inr ⟨e2, h1, h2⟩
  ·rintro (⟨q, _⟩ | q)
   ·exact absurd q hs
   ·exact q
end
section
variable {m : z6} (h : VM m)
include h
theorem Qe {w : List Nat} (hw : Wd (kk m) w) (k : Nat) {c : z8} (hc : COk m c) : COk m (Xx m w k c) := by
 have hin := UH h hw k
 unfold Xx
 split
 ·exact hc
 split
 ·exact hc.setS _
 split
 ·exact hc.setE (by have := hin.1; have := hin.2; omega)
 ·exact hc
theorem z5Z {w : List Nat} (hw : Wd (kk m) w) {c : z8} (hc : COk m c) : COk m (z60 m w c) := vS (I := fun _ c => COk m c) hc _ fun i s _ hs => Qe h hw i hs
theorem zbD {w : List Nat} (hw : Wd (kk m) w) {c : z8} (hc : COk m c) {s : Nat} : z1K (z60 m w c) s ↔ aft m 0 w = s ∨ z1K c s := by
 have gen : ∀ n, COk m ((List.range n).foldl (fun c k => Xx m w k c) c) ∧ (z1K ((List.range n).foldl (fun c k => Xx m w k c) c) s ↔ (w.length < n ∧ aft m 0 w = s) ∨ z1K c s) := by
  intro n
  induction n with
  | zero => exact ⟨hc, by simp⟩
  | succ n ih =>
   obtain ⟨i1, i2⟩ := ih
   rw [xH (fun k c => Xx m w k c)]
   refine ⟨Qe h hw n i1, ?_⟩
   have hin := UH h hw n
   generalize (List.range n).foldl (fun c k => Xx m w k c) c = d at i1 i2 ⊢
   unfold Xx
   split
   ·rename_i q
    rw [i2]
    by_cases hn : n = w.length
    ·have e : aft m 0 w = -1 := by rw [← q, hn, List.take_length]
     rw [e]
     constructor
     ·rintro (⟨a, b⟩ | b)
      ·omega
      ·exact .inr b
     ·rintro (⟨a, b⟩ | b)
      ·omega
      ·exact .inr b
    ·constructor
     ·rintro (⟨a, b⟩ | b)
      ·exact .inl ⟨by omega, b⟩
      ·exact .inr b
     ·rintro (⟨a, b⟩ | b)
      ·exact .inl ⟨by omega, b⟩
      ·exact .inr b
   ·rename_i q
    split
    ·rename_i hn
     subst hn
     rw [List.take_length] at q hin ⊢
     rw [z5I i1 (by have := hin.1; have := hin.2; omega), i2]
     constructor
     ·rintro (rfl | ⟨a, b⟩ | b)
      ·exact .inl ⟨by omega, by have := hin.1; omega⟩
      ·omega
      ·exact .inr b
     ·rintro (⟨a, b⟩ | b)
      ·exact .inl (by omega)
      ·exact .inr (.inr b)
    ·rename_i hn
     have e2 : ∀ c', z1K c' s ↔ z1K c' s := fun _ => Iff.rfl
     split
     ·rw [z5J, i2]
      constructor
      ·rintro (⟨a, b⟩ | b)
       ·exact .inl ⟨by omega, b⟩
       ·exact .inr b
      ·rintro (⟨a, b⟩ | b)
       ·exact .inl ⟨by omega, b⟩
       ·exact .inr b
     ·rw [i2]
      constructor
      ·rintro (⟨a, b⟩ | b)
       ·exact .inl ⟨by omega, b⟩
       ·exact .inr b
      ·rintro (⟨a, b⟩ | b)
       ·exact .inl ⟨by omega, b⟩
       ·exact .inr b
 unfold z60
 rw [(gen (w.length + 1)).2]
 constructor
 ·rintro (⟨_, b⟩ | b)
  ·exact .inl b
  ·exact .inr b
 ·rintro (b | b)
  ·exact .inl ⟨by omega, b⟩
  ·exact .inr b
def z0M (m : z6) (w : List Nat) (s i : Nat) : Prop := w[w.length - 1]? = some i ∧ aft m 0 (w.take (w.length - 1)) = s
theorem zbE {w : List Nat} (hw : Wd (kk m) w) {c : z8} (hc : COk m c) {s i : Nat} : z3C (z60 m w c) s i ↔ z0M m w s i ∨ z3C c s i := by
 have gen : ∀ n, COk m ((List.range n).foldl (fun c k => Xx m w k c) c) ∧ (z3C ((List.range n).foldl (fun c k => Xx m w k c) c) s i ↔ (w.length ≤ n ∧ z0M m w s i) ∨ z3C c s i) := by
  intro n
  induction n with
  | zero =>
   refine ⟨hc, ?_⟩
   constructor
   ·exact .inr
   ·rintro (⟨a, b⟩ | b)
    ·have := (List.getElem?_eq_some_iff.1 b.1).1; omega
    ·exact b
  | succ n ih =>
   obtain ⟨i1, i2⟩ := ih
   rw [xH (fun k c => Xx m w k c)]
   refine ⟨Qe h hw n i1, ?_⟩
   have hin := UH h hw n
   have same : n + 1 ≠ w.length → ((w.length ≤ n + 1 ∧ z0M m w s i) ↔ (w.length ≤ n ∧ z0M m w s i)) := by
    intro q
    constructor
    ·rintro ⟨a, b⟩; exact ⟨by omega, b⟩
    ·rintro ⟨a, b⟩; exact ⟨by omega, b⟩
   generalize (List.range n).foldl (fun c k => Xx m w k c) c = d at i1 i2 ⊢
   unfold Xx
   by_cases hn1 : n + 1 = w.length
   ·have hn0 : ¬ n = w.length := by omega
    have hlast : w.length - 1 = n := by omega
    have hx : w[n]? = some w[n] := List.getElem?_eq_getElem (by omega)
    split
    ·rename_i q
     rw [i2]
     unfold z0M
     rw [hlast, q]
     constructor
     ·rintro (⟨a, b⟩ | b)
      ·omega
      ·exact .inr b
     ·rintro (⟨a, b, d⟩ | b)
      ·omega
      ·exact .inr b
    ·rename_i q
     rw [hx, Option.getD_some, z5L i1 (by have := hin.1; have := hin.2; omega) (hw _ (List.getElem_mem (by omega))), i2]
     unfold z0M
     rw [hlast, hx]
     constructor
     ·rintro (⟨rfl, rfl⟩ | ⟨a, b⟩ | b)
      ·exact .inl ⟨by omega, rfl, by have := hin.1; omega⟩
      ·omega
      ·exact .inr b
     ·rintro (⟨a, b, d⟩ | b)
      ·exact .inl ⟨by omega, by simpa using b.symm⟩
      ·exact .inr (.inr b)
   ·rw [same hn1]
    split
    ·exact i2
    split
    ·rw [z5K]; exact i2
    ·exact i2
 unfold z60
 rw [(gen (w.length + 1)).2]
 constructor
 ·rintro (⟨_, b⟩ | b)
  ·exact .inl b
  ·exact .inr b
 ·rintro (b | b)
  ·exact .inl ⟨by omega, b⟩
  ·exact .inr b
theorem z2F : ∀ {l : List (List Nat)} {c : z8}, (∀ w ∈ l, Wd (kk m) w) → COk m c → COk m (z3K m l c) ∧ (∀ s, z1K (z3K m l c) s ↔ (∃ w ∈ l, aft m 0 w = s) ∨ z1K c s) ∧ ∀ s i, z3C (z3K m l c) s i ↔ (∃ w ∈ l, z0M m w s i) ∨ z3C c s i
 | [], c, _, hc => ⟨hc, by simp [z3K], by simp [z3K]⟩
 | w :: l, c, hw, hc => by
  have h1 := z5Z h (hw w (by simp)) hc
  obtain ⟨g1, g2, g3⟩ := z2F (l := l) (c := z60 m w c) (fun v hv => hw v (by simp [hv])) h1
  refine ⟨g1, fun s => ?_, fun s i => ?_⟩
  ·show z1K (z3K m l (z60 m w c)) s ↔ _
   rw [g2, zbD h (hw w (by simp)) hc]
   simp only [List.mem_cons, exists_eq_or_imp]
   constructor
   ·rintro (q | q | q)
    ·exact .inl (.inr q)
    ·exact .inl (.inl q)
    ·exact .inr q
   ·rintro ((q | q) | q)
    ·exact .inr (.inl q)
    ·exact .inl q
    ·exact .inr (.inr q)
  ·show z3C (z3K m l (z60 m w c)) s i ↔ _
   rw [g3, zbE h (hw w (by simp)) hc]
   simp only [List.mem_cons, exists_eq_or_imp]
   constructor
   ·rintro (q | q | q)
    ·exact .inl (.inr q)
    ·exact .inl (.inl q)
    ·exact .inr q
   ·rintro ((q | q) | q)
    ·exact .inr (.inl q)
    ·exact .inl q
    ·exact .inr (.inr q)
theorem z2G {w : List Nat} (hw : Wd (kk m) w) (hl : w.length ≤ 100000) {k : Nat} (hk : k ≤ w.length) {c : z8} (hc : COk m c) (hne : aft m 0 (w.take k) ≠ -1) : uw (w.map Int.ofNat) (aft m 0 (w.take k)) (k : Int) c = some (Xx m w k c) := by
 have hin := UH h hw k
 unfold Xx
 rw [if_neg hne]
 obtain ⟨n, hn⟩ : ∃ n : Nat, aft m 0 (w.take k) = n := ⟨(aft m 0 (w.take k)).toNat, by have := hin.1; omega⟩
 rw [hn] at hin ⊢
 have hn1 : n < m.Rows.length := by have := hin.2; omega
 obtain ⟨b, hb⟩ := hc.stAt hn1
 obtain ⟨e, he, hel⟩ := hc.rowAt hn1
 unfold uw
 rw [List.length_map]
 simp only [Int.toNat_natCast]
 by_cases h1 : k = w.length
 ·have : ((k : Int) == (w.length : Int)) = true := by simp [h1]
  rw [this, cond_true, if_pos h1, zo hb, Option.bind_some]
  rfl
 ·have q1 : ((k : Int) == (w.length : Int)) = false := by simp; omega
  rw [q1, cond_false, if_neg h1]
  have hw1 : w64 ((w.length : Int) - 1) = (w.length : Int) - 1 := vu (by omega) (by omega)
  rw [hw1]
  by_cases h2 : k + 1 = w.length
  ·have q2 : ((k : Int) == (w.length : Int) - 1) = true := by simp; omega
   have hx : w[k]? = some w[k] := List.getElem?_eq_getElem (by omega)
   have hm : (w.map Int.ofNat)[k]? = some (w[k] : Int) := by rw [List.getElem?_map, hx]; rfl
   have hik : w[k] < kk m := hw _ (List.getElem_mem (by omega))
   have hie : e[w[k]]? = some e[w[k]] := List.getElem?_eq_getElem (by omega)
   rw [q2, cond_true, if_pos h2, zo he, Option.bind_some, zo hm, Option.bind_some, zo hie, Option.bind_some, hx, Option.getD_some]
   simp [setE, he]
  ·have q2 : ((k : Int) == (w.length : Int) - 1) = false := by simp; omega
   rw [q2, cond_false, if_neg h2]
theorem z6L {w : List Nat} (hw : Wd (kk m) w) (hl : w.length ≤ 100000) {yy : z8 → Int × Int → Option z8} {g : Nat → z8 → z8} (hg : ∀ k c, aft m 0 (w.take k) = -1 → g k c = c) (hok : ∀ k c, COk m c → COk m (g k c))
  (hy : ∀ k c, k ≤ w.length → COk m c → aft m 0 (w.take k) ≠ -1 → yy c (aft m 0 (w.take k), (k : Int)) = some (g k c)) {c : z8} (hc : COk m c) :
  wX m (w.map Int.ofNat) yy c = some ((List.range (w.length + 1)).foldl (fun c k => g k c) c) := by
 unfold wX
 have c0 := hy 0 c (Nat.zero_le _) hc (by show (0 : Int) ≠ -1; omega)
 refine Eq.trans (bdT c0) ?_
 have run : Ret (loop (fun s => wW yy m (w.map Int.ofNat) s.1 s.2.1 s.2.2) (g 0 c, 0, 0)) fun r => r = (List.range (w.length + 1)).foldl (fun c k => g k c) c := by
  refine kw (fun q => ∃ k : Nat, q.2.2 = (k : Int) ∧ k ≤ w.length ∧ q.2.1 = aft m 0 (w.take k) ∧ q.2.1 ≠ -1 ∧ q.1 = (List.range (k + 1)).foldl (fun c k => g k c) c) (fun q => 200000 - q.2.2.toNat) ⟨0, rfl, Nat.zero_le _, rfl, by simp, rfl⟩ (by show 200000 - _ < _; omega) ?_
  rintro ⟨q, s, _⟩ ⟨k, rfl, hk, hs, hne, hq⟩
  simp only at hs hne hq
  unfold wW
  simp only [List.length_map]
  have hin := UH h hw k
  rw [← hs] at hin
  have hqok : COk m q := by rw [hq]; exact vS (I := fun _ c => COk m c) hc _ fun i s _ hs => hok i s hs
  obtain ⟨n, rfl⟩ : ∃ n : Nat, s = n := ⟨s.toNat, by have := hin.1; omega⟩
  have hn : n < m.Rows.length := by have := hin.2; omega
  rw [uR]
  refine ⟨fun hc1 => ?_, fun hc1 => ?_⟩
  ·have hlt : k < w.length := by simpa using hc1
   have hi : w[k]? = some w[k] := List.getElem?_eq_getElem hlt
   have hik : w[k] < kk m := hw _ (List.getElem_mem hlt)
   have hm : (w.map Int.ofNat)[k]? = some (w[k] : Int) := by rw [List.getElem?_map, hi]; rfl
   obtain ⟨r, hr, hrl, hre⟩ := h.rowAt hn
   have hto : aft m 0 (w.take (k + 1)) = (E m n w[k]).To := by rw [z3Z hi, ← hs, VG]
   rw [zo hm, Option.bind_some, zo hr, Option.bind_some, zo (hre _ hik), Option.bind_some, uR]
   have hw1 : w64 ((k : Int) + 1) = ((k + 1 : Nat) : Int) := vA (by omega)
   refine ⟨fun hc2 => ?_, fun hc2 => ?_⟩
   ·have hto1 : (E m n w[k]).To = -1 := by simpa using hc2
    rw [zF]
    show q = _
    rw [hq]
    have : ∀ d, (List.range (k + 1 + d)).foldl (fun c k => g k c) c = (List.range (k + 1)).foldl (fun c k => g k c) c := by
     intro d
     induction d with
     | zero => rfl
     | succ d ih =>
      rw [show k + 1 + (d + 1) = (k + 1 + d) + 1 by omega, xH g, ih]
      refine hg _ _ ?_
      have h1 : w.take (k + 1 + d) = w.take (k + 1) ++ (w.drop (k + 1)).take d := by rw [List.take_add]
      rw [h1, z2Q, hto, hto1]
      have h2 := z2P m ((w.drop (k + 1)).take d) (-1) (by omega)
      have h3 := (KE h ((w.drop (k + 1)).take d) (-1) ⟨by omega, by have := h.len1; omega⟩ fun i hi => hw i (List.mem_of_mem_drop (List.mem_of_mem_take hi))).1
      omega
    have e := this (w.length - k)
    rw [show k + 1 + (w.length - k) = w.length + 1 by omega] at e
    exact e.symm
   ·have hto1 : (E m n w[k]).To ≠ -1 := by simpa using hc2
    rcases h.edgeAt hn hik with ⟨gg, _⟩ | ⟨g1, g2, _⟩
    ·exact absurd gg hto1
    ·have q2 := hy (k + 1) q hlt hqok (by rw [hto]; exact hto1)
     rw [hto] at q2
     rw [hw1, q2, Option.bind_some, zF]
     refine ⟨⟨k + 1, rfl, hlt, hto.symm, hto1, ?_⟩, by simp only; omega⟩
     rw [xH g, ← hq]
  ·have hge : k = w.length := by simp at hc1; omega
   subst hge
   rw [zF]
   exact hq
 exact bdT run.eq
theorem z5Y {l : List (List Nat)} (hw : ∀ w ∈ l, Wd (kk m) w) (hl : l.length ≤ 100000) (hl2 : ∀ w ∈ l, w.length ≤ 100000) : jg m (l.map (List.map Int.ofNat)) = some (z3K m l (Wg m)) := by
 unfold jg
 rw [z3L h, Option.bind_some]
 have e2 : loop (fun s => vU m (l.map (List.map Int.ofNat)) s.1 s.2.1 s.2.2) ((Wg m).States, (Wg m).Edges, 0) = some ((z3K m l (Wg m)).States, (z3K m l (Wg m)).Edges) := by
  have hfl := uh (fun w c => z60 m w c) ([] : List Nat) l (Wg m)
  refine jA (σ := z8) (fun c k => (c.States, c.Edges, (k : Int))) (fun i c => z60 m ((l[i]?).getD []) c) (fun _ c => COk m c) l.length (by omega) VN (fun i c hi hc => ?_) (fun _ => ?_)
  ·have hx : l[i]? = some l[i] := List.getElem?_eq_getElem hi
   have hm : (l.map (List.map Int.ofNat))[i]? = some (l[i].map Int.ofNat) := by rw [List.getElem?_map, hx]; rfl
   have hW := hw _ (List.getElem_mem hi)
   have hL := hl2 _ (List.getElem_mem hi)
   simp only [hx, Option.getD_some]
   refine ⟨?_, z5Z h hW hc⟩
   unfold vU
   rw [List.length_map, decide_eq_true (by omega), cond_true, zo hm, Option.bind_some]
   refine Eq.trans (bdT (z6L h hW hL (yy := fun s x => uw (l[i].map Int.ofNat) x.1 x.2 s) (g := fun k c => Xx m l[i] k c) (fun k c q => by unfold Xx; rw [if_pos q]) (fun k c hc => Qe h hW k hc) (fun k c hk hc hne => z2G h hW hL hk hc hne) (c := c) hc)) ?_
   rw [vA (by omega)]
   rfl
  ·rw [hfl]
   simp only
   unfold vU
   rw [List.length_map, decide_eq_false (by omega), cond_false]
   rfl
 refine Eq.trans (bdT e2) ?_
 rfl
end
end Go.Own

namespace Go.Own
def XA (m : z6) (w : List Nat) (s i : Nat) : Bool := decide (w[w.length - 1]? = some i) && decide (aft m 0 (w.take (w.length - 1)) = (s : Int))
def scB (m : z6) (l : List (List Nat)) : Bool := (List.range m.Rows.length).all fun s => l.any fun w => aft m 0 w == (s : Int)
def tcB (m : z6) (l : List (List Nat)) : Bool := (List.range m.Rows.length).all fun s => (List.range (kk m)).all fun i => l.any fun w => XA m w s i
theorem z5y {m : z6} {w : List Nat} {s i : Nat} : XA m w s i = true ↔ z0M m w s i := by
 unfold XA z0M
 rw [Bool.and_eq_true, decide_eq_true_iff, decide_eq_true_iff]
section
variable {m : z6} (h : VM m) {l : List (List Nat)} (hw : ∀ w ∈ l, Wd (kk m) w) (hl : l.length ≤ 100000) (hl2 : ∀ w ∈ l, w.length ≤ 100000)
include h hw hl hl2
omit h hw hl hl2 in
theorem z1T {s i : Nat} : ¬ z1K (Wg m) s ∧ ¬ z3C (Wg m) s i := by
 unfold z1K z3C Wg
 simp only [List.getElem?_replicate]
 constructor
 ·intro q; split at q <;> cases q
 ·rintro ⟨e, q1, q2⟩
  split at q1
  ·cases q1
   rw [List.getElem?_replicate] at q2
   split at q2 <;> cases q2
  ·cases q1
theorem z5h (hr : xh m (l.map (List.map Int.ofNat)) = some 0) : yb m (l.map (List.map Int.ofNat)) = some (scB m l, 0) := by
 obtain ⟨g1, g2, _⟩ := z2F h (c := Wg m) hw VN
 unfold yb
 have b0 : ((0 : Int) != 0) = false := rfl
 rw [hr, Option.bind_some, b0, cond_false, z5Y h hw hl hl2, Option.bind_some, z7P _ (by rw [g1.st]; have := h.len64; omega), Option.bind_some]
 congr 2
 rw [Bool.eq_iff_iff]
 unfold scB
 simp only [List.all_eq_true, List.any_eq_true, List.mem_range, beq_iff_eq, id]
 constructor
 ·intro q s hs
  have hlt : s < (z3K m l (Wg m)).States.length := by rw [g1.st]; exact hs
  have hx : (z3K m l (Wg m)).States[s]? = some (z3K m l (Wg m)).States[s] := List.getElem?_eq_getElem hlt
  have := q _ (List.mem_of_getElem? hx)
  rw [this] at hx
  rcases (g2 s).1 hx with q | q
  ·exact q
  ·exact absurd q (z1T (i := 0)).1
 ·intro q b hb
  obtain ⟨s, hs⟩ := List.mem_iff_getElem?.1 hb
  have hs' : s < m.Rows.length := by have := (List.getElem?_eq_some_iff.1 hs).1; rw [g1.st] at this; exact this
  have := (g2 s).2 (.inl (q s hs'))
  unfold z1K at this
  rw [hs] at this
  cases this; rfl
theorem z5g (hr : xh m (l.map (List.map Int.ofNat)) = some 0) : zK m (l.map (List.map Int.ofNat)) = some (tcB m l, 0) := by
 obtain ⟨g1, _, g3⟩ := z2F h (c := Wg m) hw VN
 have hrow : ∀ e ∈ (z3K m l (Wg m)).Edges, e.length = kk m := fun e he => by
  obtain ⟨s, hs⟩ := List.mem_iff_getElem?.1 he
  exact g1.row s e hs
 unfold zK
 have b0 : ((0 : Int) != 0) = false := rfl
 have hk := h.kk_le
 rw [hr, Option.bind_some, b0, cond_false, z5Y h hw hl hl2, Option.bind_some, z5U _ (by rw [g1.ed]; have := h.len64; omega) (fun e he => by rw [hrow e he]; omega), Option.bind_some]
 congr 2
 rw [Bool.eq_iff_iff]
 unfold tcB
 simp only [List.all_eq_true, List.any_eq_true, List.mem_range, id, z5y]
 constructor
 ·intro q s hs i hi
  obtain ⟨e, he, hel⟩ := g1.rowAt hs
  have hx : e[i]? = some e[i] := List.getElem?_eq_getElem (by omega)
  have := q e (List.mem_of_getElem? he) _ (List.mem_of_getElem? hx)
  rw [this] at hx
  rcases (g3 s i).1 ⟨e, he, hx⟩ with q | q
  ·exact q
  ·exact absurd q z1T.2
 ·intro q e he b hb
  obtain ⟨s, hs⟩ := List.mem_iff_getElem?.1 he
  have hs' : s < m.Rows.length := by have := (List.getElem?_eq_some_iff.1 hs).1; rw [g1.ed] at this; exact this
  obtain ⟨i, hi⟩ := List.mem_iff_getElem?.1 hb
  have hi' : i < kk m := by have := (List.getElem?_eq_some_iff.1 hi).1; rw [hrow e he] at this; exact this
  obtain ⟨e2, k1, k2⟩ := (g3 s i).2 (.inl (q s hs' i hi'))
  rw [hs] at k1
  cases k1
  rw [hi] at k2
  cases k2; rfl
omit h hw hl hl2 in
theorem z0o {α : Type} (p : α → Bool) : ∀ (l : List α) (b : Bool), l.foldl (fun b x => b || p x) b = (b || l.any p)
 | [], b => by simp
 | x :: l, b => by rw [List.foldl_cons, z0o p l, List.any_cons, Bool.or_assoc]
omit hl hl2 in
theorem z3Y {i : Nat} {w : List Nat} (hi : l[i]? = some w) (k : Nat) : uS m 0 ((w.take k).map Int.ofNat) = some (aft m 0 (w.take k)) :=
 z41 h (s := 0) ⟨by omega, by have := h.len1; omega⟩ _ (fun j hj => hw w (List.mem_of_getElem? hi) j (List.mem_of_mem_take hj))
omit hl2 in
theorem zdW (s : Nat) : loop (fun q => yV m (l.map (List.map Int.ofNat)) (s : Int) q.1 q.2) (false, 0) = some (l.any fun w => aft m 0 w == (s : Int)) := by
 have hfl := (uh (fun (w : List Nat) b => b || (aft m 0 w == (s : Int))) ([] : List Nat) l false).trans ((z0o (fun w => aft m 0 w == (s : Int)) l false).trans (Bool.false_or _))
 refine jA (σ := Bool) (fun b k => (b, (k : Int))) (fun i b => b || (aft m 0 ((l[i]?).getD []) == (s : Int))) (fun _ _ => True) l.length (by omega) trivial (fun i b hi _ => ?_) (fun _ => ?_)
 ·have hx : l[i]? = some l[i] := List.getElem?_eq_getElem hi
  have hm : (l.map (List.map Int.ofNat))[i]? = some (l[i].map Int.ofNat) := by rw [List.getElem?_map, hx]; rfl
  refine ⟨?_, trivial⟩
  simp only [hx, Option.getD_some]
  unfold yV
  rw [List.length_map, decide_eq_true (by omega), cond_true]
  cases b with
  | true => rw [cond_true, vA (by omega)]; rfl
  | false =>
   have ha := z3Y h hw hx (l[i].length)
   rw [List.take_length] at ha
   rw [cond_false, zo hm, Option.bind_some, ha, Option.bind_some, vA (by omega)]
   rfl
 ·rw [hfl]
  simp only
  unfold yV
  rw [List.length_map, decide_eq_false (by omega), cond_false]
omit hl2 in
theorem z56 : wM m (l.map (List.map Int.ofNat)) = some (scB m l) := by
 have hN := h.len64
 unfold wM
 rw [bdT (yn m.Rows (by omega) (step := fun s => yW m (l.map (List.map Int.ofNat)) s) (fun i _ => if (l.any fun w => aft m 0 w == (i : Int)) = true then none else some false) ?_ ?_)]
 ·rw [z3D (fun i => l.any fun w => aft m 0 w == (i : Int)) false m.Rows 0]
  unfold scB
  by_cases q : ∀ i, i < m.Rows.length → (l.any fun w => aft m 0 w == ((0 + i : Nat) : Int)) = true
  ·rw [if_pos q]
   have : ((List.range m.Rows.length).all fun s => l.any fun w => aft m 0 w == (s : Int)) = true := by
    rw [List.all_eq_true]
    intro s hs
    have := q s (List.mem_range.1 hs)
    rwa [Nat.zero_add] at this
   rw [this]; rfl
  ·rw [if_neg q]
   have : ((List.range m.Rows.length).all fun s => l.any fun w => aft m 0 w == (s : Int)) = false := by
    rw [Bool.eq_false_iff]
    intro e
    rw [List.all_eq_true] at e
    exact q fun i hi => by rw [Nat.zero_add]; exact e i (List.mem_range.2 hi)
   rw [this]; rfl
 ·intro i x hx
  have hi := (List.getElem?_eq_some_iff.1 hx).1
  unfold yW
  rw [decide_eq_true (by omega), cond_true, zdW h hw hl, Option.bind_some]
  unfold wK wL
  cases (l.any fun w => aft m 0 w == (i : Int)) <;> rfl
 ·unfold yW
  rw [decide_eq_false (by omega), cond_false]
theorem zdV (s a : Nat) : loop (fun q => y9 m (l.map (List.map Int.ofNat)) (s : Int) (a : Int) q.1 q.2) (false, 0) = some (l.any fun w => XA m w s a) := by
 have hfl := (uh (fun (w : List Nat) b => b || XA m w s a) ([] : List Nat) l false).trans ((z0o (fun w => XA m w s a) l false).trans (Bool.false_or _))
 refine jA (σ := Bool) (fun b k => (b, (k : Int))) (fun i b => b || XA m ((l[i]?).getD []) s a) (fun _ _ => True) l.length (by omega) trivial (fun i b hi _ => ?_) (fun _ => ?_)
 ·have hx : l[i]? = some l[i] := List.getElem?_eq_getElem hi
  have hm : (l.map (List.map Int.ofNat))[i]? = some (l[i].map Int.ofNat) := by rw [List.getElem?_map, hx]; rfl
  have hL := hl2 _ (List.getElem_mem hi)
  refine ⟨?_, trivial⟩
  simp only [hx, Option.getD_some]
  unfold y9
  rw [List.length_map, decide_eq_true (by omega), cond_true, zo hm, Option.bind_some]
  cases b with
  | true => rw [cond_true, vA (by omega)]; rfl
  | false =>
   rw [cond_false, List.length_map, vu (x := (l[i].length : Int) - 1) (by omega) (by omega), vA (by omega), Bool.false_or]
   by_cases h0 : l[i].length = 0
   ·have e : XA m l[i] s a = false := by
     unfold XA
     rw [List.length_eq_zero_iff.1 h0]; rfl
    rw [decide_eq_false (by omega), cond_false, e]
   ·obtain ⟨n, hn⟩ : ∃ n, l[i].length = n + 1 := ⟨l[i].length - 1, by omega⟩
    have hn1 : (l[i].length : Int) - 1 = (n : Int) := by omega
    have hy : l[i][n]? = some l[i][n] := List.getElem?_eq_getElem (by omega)
    have hy2 : (l[i].map Int.ofNat)[n]? = some ((l[i][n] : Nat) : Int) := by rw [List.getElem?_map, hy]; rfl
    rw [hn1, decide_eq_true (by omega), cond_true, Option.bind_some, zo hy2, Option.bind_some]
    unfold XA
    rw [show l[i].length - 1 = n by omega, hy]
    by_cases ha : l[i][n] = a
    ·have q1 : (((l[i][n] : Nat) : Int) == (a : Int)) = true := by simp [ha]
     have hcut : ((l[i].map Int.ofNat).drop 0).take ((n : Int).toNat - 0) = (l[i].take n).map Int.ofNat := by simp
     rw [q1, cond_true, Option.bind_some, gdT (by rw [List.length_map]; omega), hcut, z3Y h hw hx n, Option.bind_some, ha]
     simp only [decide_true, Bool.true_and]
     rfl
    ·have q1 : (((l[i][n] : Nat) : Int) == (a : Int)) = false := by simp; omega
     have q2 : decide (some l[i][n] = some a) = false := decide_eq_false (by simpa using ha)
     rw [q1, cond_false, q2, Bool.false_and]
 ·rw [hfl]
  simp only
  unfold y9
  rw [List.length_map, decide_eq_false (by omega), cond_false]
theorem z54 : xa m (l.map (List.map Int.ofNat)) = some (tcB m l) := by
 have hN := h.len64
 have hk := h.kk_eq
 have hk16 := h.kk_le
 have inner : ∀ s : Nat, loop (fun q => zT m (l.map (List.map Int.ofNat)) (s : Int) q) 0 = some (oS (if ((List.range (kk m)).all fun i => l.any fun w => XA m w s i) = true then none else some false)) := by
  intro s
  have q := yn (List.replicate (kk m) ()) (by rw [List.length_replicate]; omega) (step := fun q => zT m (l.map (List.map Int.ofNat)) (s : Int) q) (fun i _ => if (l.any fun w => XA m w s i) = true then none else some false) ?_ ?_
  ·rw [q, z3D (fun i => l.any fun w => XA m w s i) false _ 0, List.length_replicate]
   congr 3
   rw [List.all_eq_true]
   apply propext
   simp only [List.mem_range, Nat.zero_add]
  ·intro i x hx
   have hi := (List.getElem?_eq_some_iff.1 hx).1
   rw [List.length_replicate] at hi
   unfold zT
   rw [decide_eq_true (by omega), cond_true, zdV h hw hl hl2, Option.bind_some]
   unfold xo xp
   cases (l.any fun w => XA m w s i) <;> rfl
  ·unfold zT
   rw [List.length_replicate, decide_eq_false (by omega), cond_false]
 unfold xa
 rw [bdT (yn m.Rows (by omega) (step := fun s => ya m (l.map (List.map Int.ofNat)) s) (fun i _ => if ((List.range (kk m)).all fun a => l.any fun w => XA m w i a) = true then none else some false) ?_ ?_)]
 ·rw [z3D (fun i => (List.range (kk m)).all fun a => l.any fun w => XA m w i a) false m.Rows 0]
  have e : (∀ i, i < m.Rows.length → ((List.range (kk m)).all fun a => l.any fun w => XA m w (0 + i) a) = true) ↔ tcB m l = true := by
   unfold tcB
   rw [List.all_eq_true]
   simp only [List.mem_range, Nat.zero_add]
  by_cases q : tcB m l = true
  ·rw [if_pos (e.2 q), q]; rfl
  ·rw [if_neg (fun x => q (e.1 x)), Bool.eq_false_iff.2 q]; rfl
 ·intro i x hx
  have hi := (List.getElem?_eq_some_iff.1 hx).1
  unfold ya
  rw [decide_eq_true (by omega), cond_true, inner i, Option.bind_some]
  unfold xq
  split
  ·rename_i p hp
   split at hp
   ·rename_i q; rw [if_pos q]; rfl
   ·cases hp
  ·rename_i p hp
   split at hp
   ·cases hp
   ·rename_i q; rw [if_neg q]; cases hp; rfl
 ·unfold ya
  rw [decide_eq_false (by omega), cond_false]
end
end Go.Own

namespace Go.Own
theorem z2u {l : List Int} (h : ∀ c ∈ l, 0 ≤ c) : (l.map Int.toNat).map Int.ofNat = l := by
 rw [List.map_map]
 conv => rhs; rw [← List.map_id l]
 exact List.map_congr_left fun c hc => by have := h c hc; show ((c.toNat : Nat) : Int) = c; omega
def z8u (l : List (List Int)) : List (List Nat) := l.map (List.map Int.toNat)
theorem z9F {n : Int} {L k : Nat} {l : List (List Int)} (h : Wq n L k l) : (z8u l).map (List.map Int.ofNat) = l := by
 unfold z8u
 rw [List.map_map]
 conv => rhs; rw [← List.map_id l]
 exact List.map_congr_left fun w hw => z2u fun c hc => ((h.2.2 w hw).2 c hc).1
theorem z9E {m : z6} (v : VM m) {L k : Nat} {l : List (List Int)} (h : Wq m.Inputs L k l) : (∀ w ∈ z8u l, Wd (kk m) w) ∧ (z8u l).length = l.length ∧ ∀ w ∈ z8u l, w.length ≤ k := by
 refine ⟨fun w hw i hi => ?_, by simp [z8u], fun w hw => ?_⟩
 ·obtain ⟨u, hu, rfl⟩ := List.mem_map.1 hw
  obtain ⟨c, hc, rfl⟩ := List.mem_map.1 hi
  have := (h.2.2 u hu).2 c hc
  have := v.kk_eq
  omega
 ·obtain ⟨u, hu, rfl⟩ := List.mem_map.1 hw
  rw [List.length_map]
  exact (h.2.2 u hu).1
theorem z08 (m : z6) (l : List (List Int)) : xh m l = some (if chk m ≠ 0 then chk m else chE m.Inputs l) := by
 unfold xh
 rw [Qo, Option.bind_some]
 by_cases h : chk m = 0
 ·rw [h, bne_self_eq_false, cond_false, z14, Option.bind_some, if_neg (by omega)]
 ·have : (chk m != 0) = true := by simpa using h
  rw [this, cond_true, if_pos h]
theorem zb9 {m : z6} (v : VM m) {c : z8} (h : COk m c) : kI c c = some true := by
 have hN := v.len64
 have hk := v.kk_le
 have hs := h.st
 have he := h.ed
 unfold kI
 rw [bne_self_eq_false, cond_false, bne_self_eq_false, cond_false]
 rw [bdT (yn c.States (by omega) (step := fun s => uo c c s) (fun _ _ => none) ?_ ?_), uU (fun _ _ _ => rfl)]
 ·unfold oS kx
  simp only
  rw [bdT (yn c.Edges (by omega) (step := fun s => uq c c s) (fun _ _ => none) ?_ ?_), uU (fun _ _ _ => rfl)]
  ·rfl
  ·intro i x hx
   have hi := (List.getElem?_eq_some_iff.1 hx).1
   have hxl := h.row i x hx
   unfold uq
   rw [decide_eq_true (by omega), cond_true, zo hx, Option.bind_some, Option.bind_some, bne_self_eq_false, cond_false,
    bdT (yn x (by omega) (step := fun s => up c c (i : Int) s) (fun _ _ => none) ?_ ?_), uU (fun _ _ _ => rfl)]
   ·rfl
   ·intro j y hy
    have hj := (List.getElem?_eq_some_iff.1 hy).1
    unfold up
    rw [zo hx, Option.bind_some, decide_eq_true (by omega), cond_true, Option.bind_some, zo hy, Option.bind_some, Option.bind_some, zo hy, Option.bind_some]
    simp [nS]
   ·unfold up
    rw [zo hx, Option.bind_some, decide_eq_false (by omega), cond_false]
  ·unfold uq
   rw [decide_eq_false (by omega), cond_false]
 ·intro i x hx
  have hi := (List.getElem?_eq_some_iff.1 hx).1
  unfold uo
  rw [decide_eq_true (by omega), cond_true, zo hx, Option.bind_some, Option.bind_some]
  simp [nS]
 ·unfold uo
  rw [decide_eq_false (by omega), cond_false]
end Go.Own

namespace Go.Own
theorem Uz : Za = some true := by kernel_rfl
end Go.Own

namespace Go.Own
theorem z3r : ∀ {u v : List Int} (x y : List Int), u.length = v.length → w9 u v < 0 → w9 (u ++ x) (v ++ y) < 0
 | [], [], _, _, _, h => by simp [w9] at h
 | [], _ :: _, _, _, h, _ => by simp at h
 | _ :: _, [], _, _, h, _ => by simp at h
 | a :: u, b :: v, x, y, hl, h => by
  simp only [List.cons_append, w9] at h ⊢
  by_cases h1 : a < b
  ·simp [h1]
  ·by_cases h2 : b < a
   ·simp [h1, h2] at h
   ·simp only [h1, h2, if_false] at h ⊢
    exact z3r x y (by simpa using hl) h
theorem z1A : ∀ (u : List Int) {s t : Int}, s < t → w9 (u ++ [s]) (u ++ [t]) < 0
 | [], s, t, h => by simp [w9, h]
 | a :: u, s, t, h => by
  simp only [List.cons_append, w9, Int.lt_irrefl, if_false]
  exact z1A u h
theorem z0u {a b : List Int} (h : a.length = b.length) : jX a b = w9 a b := by unfold jX; rw [if_neg (by omega), if_neg (by omega)]
theorem z9V (a : Nat) (w : List Int) : SW (z0O a w) := by
 unfold z0O SW
 rw [List.pairwise_map]
 refine List.Pairwise.imp (fun {s t} h => ?_) List.pairwise_lt_range
 rw [z0u (by simp)]
 exact z1A w (by omega)
theorem z5R (a k : Nat) : ∀ {l : List (List Int)}, SW l → (∀ w ∈ l, w.length = k) → SW (l.flatMap (z0O a))
 | [], _, _ => by simp [SW]
 | w :: l, h, hk => by
  rw [List.flatMap_cons]
  unfold SW
  rw [List.pairwise_append]
  refine ⟨z9V a w, z5R a k h.tail fun x hx => hk x (by simp [hx]), fun x hx y hy => ?_⟩
  simp only [z0O, List.mem_map] at hx
  obtain ⟨s, _, rfl⟩ := hx
  rw [List.mem_flatMap] at hy
  obtain ⟨v, hv, hy⟩ := hy
  simp only [z0O, List.mem_map] at hy
  obtain ⟨t, _, rfl⟩ := hy
  have e1 := hk w (by simp)
  have e2 := hk v (by simp [hv])
  rw [z0u (by simp [e1, e2])]
  have := h.head v hv
  rw [z0u (by omega)] at this
  exact z3r _ _ (by omega) this
theorem z8B (a : Nat) : ∀ k, SW (exW a k)
 | 0 => by simp [exW, SW]
 | k + 1 => z5R a k (z8B a k) (ZA a k)
end Go.Own

namespace Go.Own
def boE (n : Int) (a b : List (List Int)) : Int := if chE n a ≠ 0 then chE n a else chE n b
theorem z82 {n : Int} {a b : List (List Int)} : boE n a b = 0 ↔ chE n a = 0 ∧ chE n b = 0 := by
 unfold boE
 by_cases h : chE n a = 0
 ·rw [if_neg (by simp [h])]; simp [h]
 ·rw [if_pos h]; simp [h]
theorem zbJ (n : Int) (a b : List (List Int)) : Yc n [a, b] = some (boE n a b) := by
 unfold Yc
 rw [bdT (yn [a, b] (by simp) (step := fun s => uk n [a, b] s) (fun i v => eS (chE n v)) ?_ ?_)]
 ·unfold boE eS
  by_cases h1 : chE n a = 0
  ·by_cases h2 : chE n b = 0
   ·simp [y7, h1, h2, oS, kq]
   ·simp [y7, h1, h2, oS]
  ·simp [y7, h1, oS]
 ·intro i v hv
  have hi : i < [a, b].length := (List.getElem?_eq_some_iff.1 hv).1
  unfold uk
  have hc : decide ((i : Int) < (([a, b] : List (List (List Int))).length : Int)) = true := by simp only [decide_eq_true_eq]; omega
  simp only [hc, cond_true, zo hv, Option.bind_some, z14]
  by_cases h : chE n v = 0
  ·simp [h, nS, eS]
  ·have hb : (chE n v != 0) = true := by simpa using h
   simp [h, hb, nS, eS]
 ·unfold uk; simp
def uT (a b : List (List Int)) : List (List Int) := a.flatMap fun u => b.map fun v => u ++ v
theorem Yh {a b : List (List Int)} {x : List Int} : x ∈ uT a b ↔ ∃ u ∈ a, ∃ v ∈ b, u ++ v = x := by simp [uT]
theorem z5c (a b : List (List Int)) : (uT a b).length = a.length * b.length := by
 induction a with
 | nil => simp [uT]
 | cons u a ih =>
  have e : uT (u :: a) b = b.map (fun v => u ++ v) ++ uT a b := rfl
  rw [e, List.length_append, ih, List.length_map, List.length_cons, Nat.succ_mul]; omega
theorem z4d {a b : List (List Int)} {i : Nat} (hi : i < a.length) : uT (a.take (i + 1)) b = uT (a.take i) b ++ b.map fun v => a[i] ++ v := by
 unfold uT
 rw [List.take_add_one, List.getElem?_eq_getElem hi, List.flatMap_append]
 simp
end Go.Own

namespace Go.Own
theorem z5t (l : List (List UInt8 × Bool)) (x y : List UInt8) (v : Bool) : Km (z3m l x v) y = if x = y then some v else Km l y := by
 induction l with
 | nil =>
  by_cases h : x = y
  ·simp [z3m, Km, h]
  ·simp [z3m, Km, h]
 | cons p l ih =>
  by_cases h : p.1 = x
  ·by_cases h2 : x = y
   ·simp [z3m, Km, h, h2]
   ·simp [z3m, Km, h, h2]
  ·by_cases h2 : p.1 = y
   ·have : ¬ x = y := fun e => h (h2.trans e.symm)
    have t2 : ¬ y = x := fun e => this e.symm
    simp [z3m, Km, h2, this, t2]
   ·have hb : (p.1 == x) = false := beq_eq_false_iff_ne.2 h
    simp [z3m, Km, hb, h2, ih]
def z5A (w : List Int) : List UInt8 := u8s (w.map fun c => IntKind.u8.wrap c)
theorem zbt {w : List Int} (h : w.length ≤ 1000) : Xm w = some (z5A w) := by
 unfold Xm
 rw [gdT (by omega)]
 have hl := V7 (step := fun s => vw w s.1 s.2) (fun i => ((w.take i).map (fun c => IntKind.u8.wrap c) ++ List.replicate (w.length - i) (0 : Int), (i : Int))) w.length (t := w.map fun c => IntKind.u8.wrap c) (by omega) (by
  intro i hi
  show vw w _ (i : Int) = _
  unfold vw
  have hq : decide ((i : Int) < (w.length : Int)) = true := by simpa using hi
  have hx : w[i]? = some w[i] := List.getElem?_eq_getElem hi
  have hA : ((w.take i).map (fun c => IntKind.u8.wrap c)).length = i := by rw [List.length_map, List.length_take]; omega
  have hr : List.replicate (w.length - i) (0 : Int) = 0 :: List.replicate (w.length - (i + 1)) 0 := by
   rw [show w.length - i = (w.length - (i + 1)) + 1 by omega]; rfl
  have hy : ((w.take i).map (fun c => IntKind.u8.wrap c) ++ List.replicate (w.length - i) (0 : Int))[i]? = some 0 := by
   rw [List.getElem?_append_right (by omega), hA, hr]; simp
  simp only [hq, cond_true, zo hx, zo hy, Option.bind_some, Int.toNat_natCast]
  rw [vu (by omega) (by omega), List.set_append_right _ _ (by omega), hA, Nat.sub_self, hr, List.set_cons_zero, List.take_add_one, hx, List.map_append, List.append_assoc]
  rfl) (by
  show vw w _ (w.length : Int) = _
  unfold vw
  simp)
 have h0 : ((w.take 0).map (fun c => IntKind.u8.wrap c) ++ List.replicate (w.length - 0) (0 : Int), ((0 : Nat) : Int)) = (List.replicate ((w.length : Nat) : Int).toNat (0 : Int), (0 : Int)) := by simp
 rw [h0] at hl
 rw [bdT hl]
 rfl
theorem z3u : ∀ {v w : List Int}, (∀ c ∈ v, 0 ≤ c ∧ c < 16) → (∀ c ∈ w, 0 ≤ c ∧ c < 16) → z5A v = z5A w → v = w
 | [], [], _, _, _ => rfl
 | [], _ :: _, _, _, h => by simp [z5A, u8s] at h
 | _ :: _, [], _, _, h => by simp [z5A, u8s] at h
 | x :: v, y :: w, hv, hw, h => by
  simp only [z5A, u8s, List.map_cons, List.cons.injEq] at h
  have hx := hv x (by simp)
  have hy := hw y (by simp)
  have wr : ∀ z : Int, 0 ≤ z ∧ z < 16 → IntKind.u8.wrap z = z := by
   intro z hz
   simp only [IntKind.wrap, IntKind.bits, IntKind.signed]
   simp
   omega
  have e := h.1
  rw [wr x hx, wr y hy] at e
  have e2 := congrArg UInt8.toNat e
  rw [UInt8.toNat_ofNat', UInt8.toNat_ofNat', Nat.mod_eq_of_lt (by omega), Nat.mod_eq_of_lt (by omega)] at e2
  rw [show x = y by omega, z3u (fun c hc => hv c (by simp [hc])) (fun c hc => hw c (by simp [hc])) h.2]
theorem z15 {l m : List (List Int)} (h : l.Perm m) : qg l = qg m := (h.map _).sum_nat
theorem z2W : ∀ {o L : List (List Int)}, o.Nodup → (∀ x ∈ o, x ∈ L) → ∃ r, L.Perm (o ++ r)
 | [], L, _, _ => ⟨L, .refl _⟩
 | x :: o, L, h, hs => by
  have hx := hs x (by simp)
  obtain ⟨r, hr⟩ := z2W (o := o) (L := L.erase x) (List.nodup_cons.1 h).2 fun y hy => (List.mem_erase_of_ne (fun e => (List.nodup_cons.1 h).1 (by rw [← e]; exact hy))).2 (hs y (by simp [hy]))
  exact ⟨r, (List.perm_cons_erase hx).trans (hr.cons x)⟩
theorem zaW {o L : List (List Int)} (h : o.Nodup) (hs : ∀ x ∈ o, x ∈ L) : o.length ≤ L.length ∧ qg o ≤ qg L := by
 obtain ⟨r, hr⟩ := z2W h hs
 have h1 := hr.length_eq
 have h2 := z15 hr
 rw [List.length_append] at h1
 rw [QJ] at h2
 omega
def zds (a b : List (List Int)) : Prop := (∃ w ∈ uT a b, 256 < w.length) ∨ 4096 < (srt (uT a b)).length ∨ 65536 < qg (srt (uT a b))
def CI (P : List (List Int)) (seen : List (List UInt8 × Bool)) (n : Int) (out : List (List Int)) : Prop :=
 out.Nodup ∧ (∀ x, x ∈ out ↔ x ∈ P) ∧ (∀ x ∈ out, x.length ≤ 256) ∧ out.length ≤ 4096 ∧ qg out ≤ 65536 ∧ n = (qg out : Int) ∧ ∀ k, ((Km seen k).getD false = true ↔ ∃ x ∈ out, z5A x = k)
section
variable {n : Int} {a b : List (List Int)} (ha : chE n a = 0) (hb : chE n b = 0)
include ha hb
theorem z3g {w : List Int} (hw : w ∈ uT a b) : ∀ c ∈ w, 0 ≤ c ∧ c < 16 := by
 obtain ⟨_, _, _, _, a5, a6⟩ := YS ha
 obtain ⟨_, _, _, _, _, b6⟩ := YS hb
 obtain ⟨u, h1, v, h2, rfl⟩ := Yh.1 hw
 intro c hc
 rcases List.mem_append.1 hc with q | q
 ·have := a6 u h1 c q; omega
 ·have := b6 v h2 c q; omega
theorem za1 {i : Nat} (hi : i < a.length) {seen : List (List UInt8 × Bool)} {m : Int} {out : List (List Int)} (h : CI (uT (a.take i) b) seen m out) :
  Ret (loop (fun s => vd b a[i] s.1 s.2.1 s.2.2.1 s.2.2.2) (seen, m, out, 0)) fun t => match t with | .inl p => CI (uT (a.take (i + 1)) b) p.1 p.2.1 p.2.2 | .inr p => p = ([], 3) ∧ zds a b := by
 obtain ⟨a1, a2, _⟩ := YS ha
 obtain ⟨b1, b2, _⟩ := YS hb
 refine kw (fun q => ∃ j : Nat, q.2.2.2 = (j : Int) ∧ j ≤ b.length ∧ CI (uT (a.take i) b ++ (b.take j).map fun v => a[i] ++ v) q.1 q.2.1 q.2.2.1) (fun q => b.length - q.2.2.2.toNat) ⟨0, rfl, Nat.zero_le _, by simpa using h⟩ (by show b.length - _ < _; omega) ?_
 rintro ⟨seen, m, out, _⟩ ⟨j, rfl, g1, g2⟩
 show Ret (vd b a[i] seen m out (j : Int)) _
 unfold vd
 rw [uR]
 refine ⟨fun hc => ?_, fun hc => ?_⟩
 ·have hj : j < b.length := by simpa using hc
  have hy : b[j]? = some b[j] := List.getElem?_eq_getElem hj
  have wa := a2 _ (List.getElem_mem hi)
  have wb := b2 _ (List.getElem_mem hj)
  have hj2 : w64 ((j : Int) + 1) = ((j + 1 : Nat) : Int) := by rw [vu (by omega) (by omega)]; omega
  have hmem : a[i] ++ b[j] ∈ uT a b := Yh.2 ⟨_, List.getElem_mem hi, _, List.getElem_mem hj, rfl⟩
  rw [zo hy]
  simp only [Option.bind_some, z0v]
  rw [gdT (by omega), uR]
  refine ⟨fun hc2 => ?_, fun hc2 => ?_⟩
  ·have hl : 256 < (a[i] ++ b[j]).length := by simp only [decide_eq_true_eq] at hc2; omega
   rw [zF]
   exact ⟨rfl, .inl ⟨_, hmem, hl⟩⟩
  ·have hl : (a[i] ++ b[j]).length ≤ 256 := by simp only [decide_eq_false_iff_not] at hc2; omega
   rw [zbt (by omega)]
   simp only [Option.bind_some]
   simp only at g2
   obtain ⟨c1, c2, c3, c4, c5, c6, c7⟩ := g2
   have hP : ∀ x, x ∈ uT (a.take i) b ++ (b.take (j + 1)).map (fun v => a[i] ++ v) ↔ x ∈ out ∨ x = a[i] ++ b[j] := by
    intro x
    rw [c2, List.take_add_one, hy, List.map_append, ← List.append_assoc, List.mem_append]
    simp
   have hsub : ∀ x ∈ out, x ∈ uT a b := by
    intro x hx
    rcases List.mem_append.1 ((c2 x).1 hx) with q | q
    ·obtain ⟨u, q1, v, q2, rfl⟩ := Yh.1 q
     exact Yh.2 ⟨u, List.mem_of_mem_take q1, v, q2, rfl⟩
    ·obtain ⟨v, q2, rfl⟩ := List.mem_map.1 q
     exact Yh.2 ⟨_, List.getElem_mem hi, v, List.mem_of_mem_take q2, rfl⟩
   have hkey : (Km seen (z5A (a[i] ++ b[j]))).getD false = true ↔ a[i] ++ b[j] ∈ out := by
    rw [c7]
    constructor
    ·rintro ⟨x, q1, q2⟩
     rw [z3u (z3g ha hb (hsub x q1)) (z3g ha hb hmem) q2] at q1
     exact q1
    ·intro q; exact ⟨_, q, rfl⟩
   by_cases hin : a[i] ++ b[j] ∈ out
   ·rw [hkey.2 hin]
    simp only [Bool.not_true, cond_false]
    unfold ve
    have d1 : decide (((out.length : Nat) : Int) > 4096) = false := by simp; omega
    have d2 : decide (m > 65536) = false := by rw [c6]; simp; omega
    simp only [d1, d2, cond_false]
    rw [hj2, zF]
    refine ⟨⟨j + 1, rfl, hj, c1, fun x => ?_, c3, c4, c5, c6, c7⟩, by simp only [Int.toNat_natCast]; omega⟩
    rw [hP]
    constructor
    ·intro q; exact .inl q
    ·rintro (q | rfl)
     ·exact q
     ·exact hin
   ·have hf : (Km seen (z5A (a[i] ++ b[j]))).getD false = false := by
     cases hq : (Km seen (z5A (a[i] ++ b[j]))).getD false
     ·rfl
     ·exact absurd (hkey.1 hq) hin
    rw [hf]
    simp only [Bool.not_false, cond_true]
    rw [gdT (by simp only [List.length_singleton]; omega)]
    have hnd : (out ++ [a[i] ++ b[j]]).Nodup := by
     rw [List.nodup_append]
     exact ⟨c1, by simp, fun x hx y hy => by simp at hy; subst hy; exact fun e => hin (e ▸ hx)⟩
    have hss : ∀ x ∈ out ++ [a[i] ++ b[j]], x ∈ srt (uT a b) := fun x hx => Xw.2 (by
     rcases List.mem_append.1 hx with q | q
     ·exact hsub x q
     ·simp at q; subst q; exact hmem)
    obtain ⟨s1, s2⟩ := zaW hnd hss
    have hsy : qg (out ++ [a[i] ++ b[j]]) = qg out + (a[i] ++ b[j]).length := by rw [QJ]; simp [qg]
    have hm : w64 (m + (((a[i] ++ b[j]).length : Nat) : Int)) = ((qg (out ++ [a[i] ++ b[j]]) : Nat) : Int) := by
     rw [c6, hsy, vu (by omega) (by omega)]; omega
    rw [hm]
    unfold ve
    rw [uR]
    refine ⟨fun hc3 => ?_, fun hc3 => ?_⟩
    ·rw [zF]
     refine ⟨rfl, .inr (.inl ?_)⟩
     simp only [decide_eq_true_eq] at hc3
     omega
    ·rw [uR]
     refine ⟨fun hc4 => ?_, fun hc4 => ?_⟩
     ·rw [zF]
      refine ⟨rfl, .inr (.inr ?_)⟩
      simp only [decide_eq_true_eq] at hc4
      omega
     ·rw [hj2, zF]
      simp only [decide_eq_false_iff_not] at hc3 hc4
      refine ⟨⟨j + 1, rfl, hj, hnd, fun x => ?_, fun x hx => ?_, by simp only; omega, by simp only; omega, rfl, fun k => ?_⟩, by simp only [Int.toNat_natCast]; omega⟩
      ·rw [hP]; simp
      ·rcases List.mem_append.1 hx with q | q
       ·exact c3 x q
       ·simp at q; subst q; exact hl
      ·rw [z5t]
       by_cases hk : z5A (a[i] ++ b[j]) = k
       ·rw [if_pos hk]
        simp only [Option.getD_some, true_iff]
        exact ⟨_, by simp, hk⟩
       ·rw [if_neg hk, c7]
        constructor
        ·rintro ⟨x, q1, q2⟩; exact ⟨x, by simp [q1], q2⟩
        ·rintro ⟨x, q1, q2⟩
         rcases List.mem_append.1 q1 with q | q
         ·exact ⟨x, q, q2⟩
         ·simp at q; subst q; exact absurd q2 hk
 ·have hj : j = b.length := by
   have : ¬ j < b.length := by simpa using hc
   omega
  rw [zF]
  show CI (uT (a.take (i + 1)) b) seen m out
  rw [z4d hi]
  simp only [hj, List.take_length] at g2
  exact g2
theorem z2e : Ret (qa a b n) fun r => zds a b ∧ r = ([], 3) ∨ ¬ zds a b ∧ r = (srt (uT a b), 0) := by
 obtain ⟨a1, a2, _⟩ := YS ha
 obtain ⟨b1, b2, _⟩ := YS hb
 unfold qa
 rw [zbJ, z82.2 ⟨ha, hb⟩]
 simp only [Option.bind_some, bne_self_eq_false, cond_false]
 rw [qp]
 refine Ret.mono (kw (fun q => ∃ i : Nat, q.2.2.2 = (i : Int) ∧ i ≤ a.length ∧ CI (uT (a.take i) b) q.1 q.2.1 q.2.2.1) (fun q => a.length - q.2.2.2.toNat) (R := fun t : List (List Int) ⊕ (List (List Int) × Int) => match t with | .inl out => ∃ seen m, CI (uT a b) seen m out | .inr p => p = ([], 3) ∧ zds a b) ?_ ?_ ?_) ?_
 ·refine ⟨0, rfl, Nat.zero_le _, List.nodup_nil, fun x => by simp [uT], by simp, by simp, by simp [qg], by simp [qg], fun k => ?_⟩
  simp [Km]
 ·show a.length - _ < _
  omega
 ·rintro ⟨seen, m, out, _⟩ ⟨i, rfl, g1, g2⟩
  show Ret (u4 a b seen m out (i : Int)) _
  unfold u4
  rw [uR]
  refine ⟨fun hc => ?_, fun hc => ?_⟩
  ·have hi : i < a.length := by simpa using hc
   have hx : a[i]? = some a[i] := List.getElem?_eq_getElem hi
   rw [zo hx]
   simp only [Option.bind_some]
   rw [qp]
   refine (za1 ha hb hi g2).mono ?_
   rintro (p | p) hp
   ·show Ret (u6 (i : Int) p.1 p.2.1 p.2.2) _
    unfold u6
    rw [vu (by omega) (by omega), zF]
    exact ⟨⟨i + 1, rfl, hi, hp⟩, by simp only; omega⟩
   ·show Ret (some (LR.done (Sum.inr p))) _
    rw [zF]
    exact hp
  ·have hi : i = a.length := by
    have : ¬ i < a.length := by simpa using hc
    omega
   rw [zF]
   refine ⟨seen, m, ?_⟩
   simp only [hi, List.take_length] at g2
   exact g2
 ·rintro (out | p) hp
  ·obtain ⟨seen, m, c1, c2, c3, c4, c5, _⟩ := hp
   show Ret (u7 out) _
   unfold u7
   rw [z02 (by omega) (fun w hw => by have := c3 w hw; omega)]
   simp only [Option.bind_some]
   have hs : srt out = srt (uT a b) := z18 c2
   have hp2 : out.Perm (srt (uT a b)) := (List.perm_ext_iff_of_nodup c1 (z17 _).nodup).2 fun x => by rw [c2, Xw]
   have h1 := hp2.length_eq
   have h2 := z15 hp2
   unfold soR
   rw [hs, if_neg (by omega), zF]
   refine .inr ⟨?_, rfl⟩
   rintro (⟨w, q1, q2⟩ | q | q)
   ·have := c3 w ((c2 w).2 q1); omega
   ·omega
   ·omega
  ·show Ret (some p) _
   rw [zF]
   exact .inl ⟨hp.2, hp.1⟩
end
end Go.Own

namespace Go.Own
theorem Wq.prod {n : Int} {L M k j : Nat} {l m : List (List Int)} (h : Wq n L k l) (g : Wq n M j m) : Wq n (L * M) (k + j) (srt (uT l m)) := by
 refine ⟨z17 _, ?_, fun w hw => ?_⟩
 ·refine Nat.le_trans (z2h _) ?_
  rw [z5c]
  exact Nat.mul_le_mul h.2.1 g.2.1
 ·obtain ⟨u, h1, v, h2, rfl⟩ := Yh.1 (Xw.1 hw)
  have q1 := h.2.2 u h1
  have q2 := g.2.2 v h2
  refine ⟨by rw [List.length_append]; omega, fun c hc => ?_⟩
  rcases List.mem_append.1 hc with q | q
  ·exact q1.2 c q
  ·exact q2.2 c q
theorem z4v {n : Int} {L M k j : Nat} {l m : List (List Int)} (h : Wq n L k l) (g : Wq n M j m) (hn : 1 ≤ n ∧ n ≤ 16) (h1 : chE n l = 0) (h2 : chE n m = 0) (hL : L * M ≤ 4096) (hk : k + j ≤ 256) (hLk : (L * M) * (k + j) ≤ 65536) : qa l m n = some (srt (uT l m), 0) := by
 obtain ⟨r, hr, hc⟩ := z2e h1 h2
 have hu := h.prod g
 have hs : qg (srt (uT l m)) ≤ 65536 := Nat.le_trans (QI hu.2.1 fun w hw => (hu.2.2 w hw).1) hLk
 rcases hc with ⟨q, _⟩ | ⟨_, rfl⟩
 ·rcases q with ⟨w, q1, q2⟩ | q | q
  ·have := (hu.2.2 w (Xw.2 q1)).1; omega
  ·have := hu.2.1; omega
  ·omega
 ·exact hr
end Go.Own

namespace Go.Own
theorem z0g (a f : Nat) : ∀ k, ∀ w ∈ Zk a f k, w.length < k
 | 0, w, h => by simp [Zk] at h
 | k + 1, w, h => by
  unfold Zk at h
  split at h
  ·rcases List.mem_append.1 h with h | h
   ·have := z0g a f k w h; omega
   ·have := ZA a k w h; omega
  ·have := z0g a f k w h; omega
theorem z0f (a f : Nat) : ∀ k, SW (Zk a f k)
 | 0 => by simp [Zk, SW]
 | k + 1 => by
  unfold Zk
  split
  ·unfold SW
   rw [List.pairwise_append]
   refine ⟨z0f a f k, z8B a k, fun x hx y hy => ?_⟩
   have h1 := z0g a f k x hx
   have h2 := ZA a k y hy
   unfold jX
   rw [if_pos (by omega)]
   omega
  ·exact z0f a f k
def lnW (a f : Nat) : Nat → Nat
 | 0 => 0
 | k + 1 => if f ≤ k then lnW a f k + a ^ k else lnW a f k
theorem Qd (a f : Nat) : ∀ k, (Zk a f k).length = lnW a f k
 | 0 => rfl
 | k + 1 => by
  unfold Zk lnW
  split
  ·rw [List.length_append, Qd a f k, Ww]
  ·exact Qd a f k
theorem z47 {l : List (List Int)} {k : Nat} (h : ∀ w ∈ l, w.length = k) : qg l = k * l.length := by
 induction l with
 | nil => simp [qg]
 | cons x l ih =>
  have hs : qg (x :: l) = x.length + qg l := by simp [qg]
  rw [hs, ih fun w hw => h w (by simp [hw]), h x (by simp), List.length_cons, Nat.mul_succ]; omega
theorem z73 (l m : List (List Int)) : qg (l ++ m) = qg l + qg m := by simp [qg]
theorem z2r (a f : Nat) : ∀ k, qg (Zk a f k) = syW a f k
 | 0 => rfl
 | k + 1 => by
  unfold Zk syW
  split
  ·rw [z73, z2r a f k, z47 (ZA a k), Ww]
  ·exact z2r a f k
def z9a (a f t k : Nat) : Bool := decide (4096 < lnW a f (k + 1)) || decide (65536 < syW a f (k + 1)) || (decide (k < t) && decide (4096 < a ^ k * a))
theorem z4E (a f t k : Nat) : z9a a f t k = true ↔ Zn a f t k := by
 unfold z9a Zn
 simp only [Bool.or_eq_true, Bool.and_eq_true, decide_eq_true_eq, Qd, or_assoc]
def zbN (a f t : Nat) : Bool := (List.range (t + 1)).any (z9a a f t)
theorem z3U (a f t : Nat) : zbN a f t = true ↔ ∃ j, j ≤ t ∧ Zn a f t j := by
 unfold zbN
 simp only [List.any_eq_true, List.mem_range, z4E]
 constructor
 ·rintro ⟨j, h1, h2⟩; exact ⟨j, by omega, h2⟩
 ·rintro ⟨j, h1, h2⟩; exact ⟨j, by omega, h2⟩
theorem zaf {a f t : Nat} (ha : 1 ≤ a ∧ a ≤ 16) (hf : f ≤ 256) (ht : t ≤ 256) : Yd (a : Int) (f : Int) (t : Int) = some (if zbN a f t then ([], 3) else (Zk a f (t + 1), 0)) := by
 refine zbO ha hf ht (fun h => by rw [if_pos ((z3U a f t).2 h)]) fun h => ?_
 have hn : ¬ zbN a f t = true := fun q => by
  obtain ⟨j, h1, h2⟩ := (z3U a f t).1 q
  exact h j h1 h2
 rw [if_neg hn]
 have hs := h t (Nat.le_refl _)
 unfold Zn at hs
 have hlen : (Zk a f (t + 1)).length ≤ 4096 := by omega
 have hsy : qg (Zk a f (t + 1)) ≤ 65536 := by rw [z2r]; omega
 rw [z02 (by omega) (fun w hw => by have := z0g a f (t + 1) w hw; omega)]
 unfold soR
 rw [QK (z0f a f (t + 1)), if_neg (by omega)]
 rfl
end Go.Own

namespace Go.Own
def un (x : List Bool) : Nat := x.countP fun b => !b
theorem zay {x : List Bool} {s : Nat} (h : x[s]? = some false) : un (x.set s true) < un x := by
 induction x generalizing s with
 | nil => simp at h
 | cons b x ih =>
  cases s with
  | zero => simp at h; subst h; simp [un]
  | succ s =>
   have := ih (s := s) (by simpa using h)
   unfold un at *
   rw [List.set_cons_succ, List.countP_cons, List.countP_cons]
   omega
theorem zaz : ∀ {x y : List Bool}, y.length = x.length → (∀ t : Nat, x[t]? = some true → y[t]? = some true) → un y ≤ un x
 | [], [], _, _ => Nat.le_refl _
 | a :: x, b :: y, hl, h => by
  have ih := zaz (x := x) (y := y) (by simpa using hl) fun t ht => by simpa using h (t + 1) (by simpa using ht)
  have h0 := h 0
  unfold un at *
  rw [List.countP_cons, List.countP_cons]
  cases a <;> cases b <;> simp at h0 ⊢ <;> omega
 | [], _ :: _, hl, _ => by simp at hl
 | _ :: _, [], hl, _ => by simp at hl
structure Dfs (m : z6) (P : Nat → Prop) (x y : List Bool) : Prop where
 len : y.length = x.length
 mono : ∀ t : Nat, x[t]? = some true → y[t]? = some true
 new : ∀ t : Nat, y[t]? = some true → x[t]? = some true ∨ P t ∧ ∀ i, i < kk m → 0 ≤ (E m t i).To → y[(E m t i).To.toNat]? = some true
theorem Dfs.refl {m : z6} {P : Nat → Prop} (x : List Bool) : Dfs m P x x := ⟨rfl, fun _ h => h, fun _ h => .inl h⟩
theorem Dfs.trans {m : z6} {P : Nat → Prop} {x y z : List Bool} (h : Dfs m P x y) (k : Dfs m P y z) : Dfs m P x z := {
 len := k.len.trans h.len
 mono := fun t q => k.mono t (h.mono t q)
 new := fun t q => by
  rcases k.new t q with g | g
  ·rcases h.new t g with r | ⟨r1, r2⟩
   ·exact .inl r
   ·exact .inr ⟨r1, fun i hi h0 => k.mono _ (r2 i hi h0)⟩
  ·exact .inr g }
section
variable {m : z6} (h : VM m)
include h
theorem z62 {P : Nat → Prop} (hP : ∀ t i, P t → t < m.Rows.length → i < kk m → 0 ≤ (E m t i).To → P (E m t i).To.toNat) : ∀ (fu : Nat) (x : List Bool), x.length = m.Rows.length → un x < fu → ∀ s : Int, z6x m s → (0 ≤ s → P s.toNat) →
  ∃ y, zY fu s x m = some (y, m) ∧ Dfs m P x y ∧ (0 ≤ s → y[s.toNat]? = some true)
 | 0, x, _, hu, _, _, _ => by omega
 | fu + 1, x, hx, hu, s, hs, hPs => by
  have hk := h.kk_le
  show ∃ y, xv (zY fu) s x m = some (y, m) ∧ _
  unfold xv
  by_cases h1 : s = -1
  ·have : (s == -1) = true := by simpa using h1
   rw [this, cond_true]
   exact ⟨x, rfl, Dfs.refl x, fun q => by omega⟩
  ·have e1 : (s == -1) = false := by simpa using h1
   obtain ⟨n, rfl⟩ : ∃ n : Nat, s = n := ⟨s.toNat, by have := hs.1; omega⟩
   have hn : n < m.Rows.length := by have := hs.2; omega
   have hxn : x[n]? = some x[n] := List.getElem?_eq_getElem (by omega)
   rw [e1, cond_false, zo hxn, Option.bind_some]
   by_cases hb : x[n] = true
   ·rw [hb, cond_true]
    exact ⟨x, rfl, Dfs.refl x, fun _ => by simp only [Int.toNat_natCast]; rw [hxn, hb]⟩
   ·have hb : x[n] = false := by simpa using hb
    obtain ⟨r, hr, hrl, hre⟩ := h.rowAt hn
    rw [hb, cond_false, Option.bind_some, zo hr, Option.bind_some]
    simp only [Int.toNat_natCast]
    rw [hb] at hxn
    have hu1 := zay hxn
    have hxl : (x.set n true).length = m.Rows.length := by simpa using hx
    have run : Ret (loop (fun s => yo (zY fu) r s.1 s.2.1 s.2.2.1 s.2.2.2.1 s.2.2.2.2) (x.set n true, m.Inputs, m.Outputs, m.Rows, 0)) fun q => q.2 = m ∧ Dfs m P (x.set n true) q.1 ∧ ∀ j, j < kk m → 0 ≤ (E m n j).To → q.1[(E m n j).To.toNat]? = some true := by
     refine kw (fun q => ∃ i : Nat, q.2 = (m.Inputs, m.Outputs, m.Rows, (i : Int)) ∧ i ≤ kk m ∧ Dfs m P (x.set n true) q.1 ∧ ∀ j, j < i → 0 ≤ (E m n j).To → q.1[(E m n j).To.toNat]? = some true) (fun q => 100 - q.2.2.2.2.toNat) ⟨0, rfl, Nat.zero_le _, Dfs.refl _, fun j hj => by omega⟩ (by show 100 - _ < _; omega) ?_
     rintro ⟨q, _⟩ ⟨i, rfl, hi, hd, hall⟩
     simp only at hd hall
     show Ret (yo (zY fu) r q m.Inputs m.Outputs m.Rows (i : Int)) _
     unfold yo
     rw [uR]
     refine ⟨fun hc => ?_, fun hc => ?_⟩
     ·have hlt : i < kk m := by simp at hc; omega
      rw [zo (hre i hlt), Option.bind_some]
      have hst : z6x m (E m n i).To := by
       rcases h.edgeAt hn hlt with ⟨g, _⟩ | ⟨g1, g2, _⟩
       ·exact ⟨by omega, by have := h.len1; omega⟩
       ·exact ⟨by omega, g2⟩
      have hPn : P n := by simpa using hPs (by omega)
      obtain ⟨y, y1, y2, y3⟩ := z62 hP fu q (by rw [hd.len]; exact hxl) (by have := zaz hd.len hd.mono; omega) (E m n i).To hst (fun h0 => hP n i hPn hn hlt h0)
      have y1' : zY fu (E m n i).To q (z6.mk m.Inputs m.Outputs m.Rows) = some (y, m) := y1
      rw [y1', Option.bind_some, zF, vA (by omega)]
      refine ⟨⟨i + 1, rfl, hlt, hd.trans y2, fun j hj h0 => ?_⟩, by simp only; omega⟩
      by_cases e : j = i
      ·subst e; exact y3 h0
      ·exact y2.mono _ (hall j (by omega) h0)
     ·have : i = kk m := by simp at hc; omega
      subst this
      rw [zF]
      exact ⟨rfl, hd, hall⟩
    obtain ⟨⟨y, m'⟩, e, hm, hd, hall⟩ := run
    simp only at hm hd hall
    subst hm
    rw [e]
    refine ⟨y, rfl, ?_, fun _ => hd.mono _ ((WU (by omega)).2 (.inl rfl))⟩
    refine ⟨by rw [hd.len]; simp, fun t ht => hd.mono t ((WU (by omega)).2 (.inr ht)), fun t ht => ?_⟩
    rcases hd.new t ht with g | g
    ·rcases (WU (by omega)).1 g with rfl | g
     ·exact .inr ⟨by simpa using hPs (by omega), hall⟩
     ·exact .inl g
    ·exact .inr g
omit h in
theorem K3 (l : List Bool) (hl : l.length < 4611686018427387904) : yP l false = some (!(l.all id)) := by
 unfold yP wv
 have hfs : ∀ (l : List Bool) (k : Nat), (y7 (fun i x => if x = true then none else some ((i : Nat) : Int)) l k = none ∧ l.all id = true) ∨ ∃ i : Nat, y7 (fun i x => if x = true then none else some ((i : Nat) : Int)) l k = some (i : Int) ∧ l.all id = false := by
  intro l
  induction l with
  | nil => intro k; exact .inl ⟨rfl, rfl⟩
  | cons x l ih =>
   intro k
   simp only [y7, List.all_cons]
   cases x with
   | true => simpa using ih (k + 1)
   | false => exact .inr ⟨k, by simp, by simp⟩
 rw [bdT (yn l hl (step := fun s => yf l false s) (fun i x => if x = true then none else some ((i : Nat) : Int)) ?_ ?_)]
 ·rcases hfs l 0 with ⟨h1, h2⟩ | ⟨i, h1, h2⟩
  ·rw [h1, h2]; rfl
  ·rw [h1, h2]; simp [oS]
 ·intro i x hx
  have hi := (List.getElem?_eq_some_iff.1 hx).1
  unfold yf
  rw [decide_eq_true (by omega), cond_true, zo hx, Option.bind_some]
  cases x <;> rfl
 ·unfold yf
  rw [decide_eq_false (by omega), cond_false]
theorem z0t : Ret (xN m) fun r => r.2 = 0 ∧ (r.1 = true ↔ ∀ t, t < m.Rows.length → Rch m t) := by
 have l1 := h.len1
 have l64 := h.len64
 unfold xN
 rw [Qo, z69 h, Option.bind_some, bne_self_eq_false, cond_false, gdT (by omega)]
 have e0 : ((m.Rows.length : Nat) : Int).toNat = m.Rows.length := by simp
 rw [e0]
 have hun : un (List.replicate m.Rows.length false) < YO := by
  have : un (List.replicate m.Rows.length false) ≤ (List.replicate m.Rows.length false).length := List.countP_le_length
  rw [List.length_replicate] at this
  show _ < 18446744073709551616
  omega
 have hP : ∀ t i, Rch m t → t < m.Rows.length → i < kk m → 0 ≤ (E m t i).To → Rch m (E m t i).To.toNat := fun t i ht _ hi h0 => rch_step ht hi h0
 obtain ⟨y, y1, y2, y3⟩ := z62 h hP YO (List.replicate m.Rows.length false) (by simp) hun 0 ⟨by omega, by omega⟩ (fun _ => ⟨[], by simp [Wd], rfl⟩)
 have hyl : y.length = m.Rows.length := by rw [y2.len]; simp
 have no : ∀ t : Nat, (List.replicate m.Rows.length false)[t]? ≠ some true := fun t q => by
  rw [List.getElem?_replicate] at q
  split at q <;> cases q
 rw [y1, Option.bind_some, K3 y (by omega), Option.bind_some, zF]
 refine ⟨rfl, ?_⟩
 rw [Bool.not_not, List.all_eq_true]
 have clo : ∀ (u : List Nat) (t : Nat), Wd (kk m) u → aft m 0 u = (t : Int) → y[t]? = some true := by
  intro u
  generalize hlen : u.length = n
  induction n generalizing u with
  | zero =>
   intro t _ e
   rw [List.length_eq_zero_iff.1 hlen] at e
   have : t = 0 := by have : (0 : Int) = t := e; omega
   subst this
   exact y3 (by omega)
  | succ n ih =>
   intro t hu e
   have hne : u ≠ [] := by intro q; rw [q] at hlen; simp at hlen
   have hsplit := List.dropLast_concat_getLast hne
   have hu' : Wd (kk m) u.dropLast := fun i hi => hu i (List.dropLast_subset _ hi)
   have hi : u.getLast hne < kk m := hu _ (List.getLast_mem hne)
   have h2 := (XN m u.dropLast 0 (u.getLast hne)).2
   rw [hsplit, e] at h2
   have hin := KE h u.dropLast 0 ⟨by omega, by omega⟩ hu'
   by_cases hneg : aft m 0 u.dropLast < 0
   ·exfalso
    unfold nxE at h2
    rw [if_pos hneg] at h2
    simp at h2
   ·obtain ⟨s, hs⟩ : ∃ s : Nat, aft m 0 u.dropLast = s := ⟨(aft m 0 u.dropLast).toNat, by omega⟩
    have hy := ih u.dropLast (by simp [hlen]) s hu' hs
    rw [hs, VG] at h2
    rcases y2.new s hy with g | ⟨_, g⟩
    ·exact absurd g (no s)
    ·have := g _ hi (by omega)
     rw [← h2] at this
     simpa using this
 constructor
 ·intro q t ht
  have hx : y[t]? = some y[t] := List.getElem?_eq_getElem (by omega)
  have := q _ (List.mem_of_getElem? hx)
  rw [show y[t] = true from this] at hx
  rcases y2.new t hx with g | ⟨g, _⟩
  ·exact absurd g (no t)
  ·exact g
 ·intro q b hb
  obtain ⟨t, ht⟩ := List.mem_iff_getElem?.1 hb
  have htl := (List.getElem?_eq_some_iff.1 ht).1
  obtain ⟨u, hu, e⟩ := q t (by omega)
  have := clo u t hu e
  rw [ht] at this
  cases this
  rfl
end
end Go.Own

namespace Go.Own
theorem z6B (k : Nat) : ∀ n, GG k (n + 1) = k * GG k n + 1
 | 0 => by simp [GG]
 | n + 1 => by
  have ih := z6B k n
  show GG k (n + 1) + k ^ (n + 1) = k * (GG k n + k ^ n) + 1
  rw [ih, Nat.mul_add, Nat.pow_succ, Nat.mul_comm (k ^ n) k]
  omega
theorem z9p (k : Nat) : ∀ u : List Nat, rv k u = rk k u.reverse
 | [] => by simp [rv, rk, GG, zax]
 | i :: u => by
  have ih := z9p k u
  unfold rk at ih ⊢
  rw [List.reverse_reverse, List.length_reverse] at ih ⊢
  simp only [rv, List.length_cons, zax, ih, z6B, Nat.add_mul]
  rw [Nat.mul_comm (GG k u.length) k, Nat.mul_comm (zax k u) k]
  omega
def nx1 (m : z6) (s i : Nat) : Option Nat := if 0 ≤ (E m s i).To then some (E m s i).To.toNat else none
abbrev nob : Nat → Nat → Bool := fun _ _ => false
theorem z3k : ∀ (N : Nat) (l : List Nat), l.Nodup → (∀ t ∈ l, t < N) → l.length ≤ N
 | 0, l, _, h => by
  cases l with
  | nil => exact Nat.le_refl _
  | cons x l => have := h x (by simp); omega
 | N + 1, l, hn, h => by
  have ih := z3k N (l.erase N) (hn.erase N) fun t ht => by
   have h1 := h t (List.mem_of_mem_erase ht)
   have h2 : t ≠ N := fun e => by subst e; exact absurd ht (hn.not_mem_erase)
   omega
  by_cases hm : N ∈ l
  ·rw [List.length_erase_of_mem hm] at ih; omega
  ·rw [List.erase_of_not_mem hm] at ih; omega
section
variable {m : z6} (h : VM m)
include h
theorem XQ : ∀ (u : List Nat) (q : Nat), z6A (kk m) nob (nx1 m) 0 u q → Wd (kk m) u.reverse ∧ aft m 0 u.reverse = (q : Int) ∧ q < m.Rows.length
 | [], q, e => by
  have e : q = 0 := e
  subst e
  exact ⟨by simp [Wd], rfl, h.len1⟩
 | i :: u, q, ⟨p, hp, hi, _, hn⟩ => by
  obtain ⟨g1, g2, g3⟩ := XQ u p hp
  unfold nx1 at hn
  split at hn
  ·rename_i h0
   cases hn
   have q2 := (XN m u.reverse 0 i).2
   rw [g2, VG] at q2
   rw [List.reverse_cons]
   refine ⟨fun j hj => ?_, by rw [q2]; omega, ?_⟩
   ·rcases List.mem_append.1 hj with g | g
    ·exact g1 j g
    ·rw [List.mem_singleton.1 g]; exact hi
   ·rcases h.edgeAt g3 hi with ⟨g, _⟩ | ⟨_, g, _⟩ <;> omega
  ·cases hn
theorem z0K : ∀ (u : List Nat) (q : Nat), Wd (kk m) u.reverse → aft m 0 u.reverse = (q : Int) → z6A (kk m) nob (nx1 m) 0 u q
 | [], q, _, e => by have : (0 : Int) = q := e; show q = 0; omega
 | i :: u, q, hu, e => by
  rw [List.reverse_cons] at hu e
  have hu' : Wd (kk m) u.reverse := fun j hj => hu j (by simp [List.mem_reverse.1 hj])
  have hi : i < kk m := hu i (by simp)
  have q2 := (XN m u.reverse 0 i).2
  rw [e] at q2
  have hin := KE h u.reverse 0 ⟨by omega, by have := h.len1; omega⟩ hu'
  by_cases hneg : aft m 0 u.reverse < 0
  ·exfalso
   unfold nxE at q2
   rw [if_pos hneg] at q2
   simp at q2
  ·obtain ⟨s, hs⟩ : ∃ s : Nat, aft m 0 u.reverse = s := ⟨(aft m 0 u.reverse).toNat, by omega⟩
   rw [hs, VG] at q2
   refine ⟨s, z0K u s hu' hs, hi, rfl, ?_⟩
   unfold nx1
   rw [if_pos (by omega), ← q2]
   simp
def zdf (L : List (Nat × List Nat)) (a : Nat) (x : ze) (c : Nat × List Nat) : Prop :=
 x.state_ = (c.1 : Int) ∧ ((c.2 = [] ∧ x.from_ = -1) ∨ ∃ (i : Nat) (u : List Nat) (p j : Nat), c.2 = i :: u ∧ x.input_ = (i : Int) ∧ x.from_ = (p : Int) ∧ j < a ∧ L[j]? = some (p, u))
structure Que (m : z6) (L : List (Nat × List Nat)) (a : Nat) (seen : List Bool) (Q : List ze) : Prop where
 len : seen.length = m.Rows.length
 seen : ∀ t : Nat, seen[t]? = some true ↔ ∃ u, (t, u) ∈ L
 nodup : (L.map (·.1)).Nodup
 qlen : Q.length + a = L.length
 arr : ∀ (j : Nat) (x : ze), Q[j]? = some x → ∃ c, L[a + j]? = some c ∧ zdf L (a + j) x c
theorem z2q {L : List (Nat × List Nat)} {a : Nat} {i : Nat} (hb : Bfs (kk m) nob (nx1 m) 0 L a i) (hn : (L.map (·.1)).Nodup) : L.length ≤ m.Rows.length := by
 have := z3k m.Rows.length (L.map (·.1)) hn fun t ht => by
  obtain ⟨c, hc, rfl⟩ := List.mem_map.1 ht
  exact (XQ h c.2 c.1 (hb.path c hc)).2.2
 simpa using this
theorem z9q {L : List (Nat × List Nat)} {a : Nat} {c : Nat × List Nat} {seen : List Bool} {Q : List ze} {σ : Type} (yr : σ × Bool) (x : ze) (hc : L[a]? = some c) (hx : x.state_ = (c.1 : Int))
  (hb : Bfs (kk m) nob (nx1 m) 0 L a 0) (hq : Que m L (a + 1) seen Q) {r : List zh} (hr : r.length = kk m) (hre : ∀ i, i < kk m → r[i]? = some (E m c.1 i)) :
  Ret (loop (fun s => xw x yr r s.1 s.2.1 s.2.2) (seen, Q, 0)) fun t => t.1 = yr.1 ∧ ∃ L', L.length ≤ L'.length ∧ L'.take L.length = L ∧ Bfs (kk m) nob (nx1 m) 0 L' a (kk m) ∧ Que m L' (a + 1) t.2.1 t.2.2 := by
 have hk := h.kk_le
 have hal := (List.getElem?_eq_some_iff.1 hc).1
 have hcN := (XQ h c.2 c.1 (hb.path c (List.mem_of_getElem? hc))).2.2
 refine kw (fun s => ∃ (i : Nat) (L' : List (Nat × List Nat)), s.2.2 = (i : Int) ∧ i ≤ kk m ∧ L.length ≤ L'.length ∧ L'.take L.length = L ∧ Bfs (kk m) nob (nx1 m) 0 L' a i ∧ Que m L' (a + 1) s.1 s.2.1) (fun s => 100 - s.2.2.toNat) ⟨0, L, rfl, Nat.zero_le _, Nat.le_refl _, List.take_length, hb, hq⟩ (by show 100 - _ < _; omega) ?_
 rintro ⟨seen', Q', _⟩ ⟨i, L', rfl, hi, hll, htk, hb', hq'⟩
 simp only at hq'
 show Ret (xw x yr r seen' Q' (i : Int)) _
 unfold xw
 rw [uR]
 refine ⟨fun h1 => ?_, fun h1 => ?_⟩
 ·have hlt : i < kk m := by simp at h1; omega
  have hc' : L'[a]? = some c := by
   have : (L'.take L.length)[a]? = some c := by rw [htk]; exact hc
   rwa [List.getElem?_take, if_pos hal] at this
  rw [zo (hre i hlt), Option.bind_some]
  have old : (∀ q, nx1 m c.1 i = some q → ∃ b ∈ L', b.1 = q) → Ret (yk (σ := σ) (i : Int) seen' Q') (LRP (fun s' => (∃ (i : Nat) (L' : List (Nat × List Nat)), s'.2.2 = (i : Int) ∧ i ≤ kk m ∧ L.length ≤ L'.length ∧ L'.take L.length = L ∧ Bfs (kk m) nob (nx1 m) 0 L' a i ∧ Que m L' (a + 1) s'.1 s'.2.1) ∧ 100 - s'.2.2.toNat < 100 - ((i : Int)).toNat) (fun t => t.1 = yr.1 ∧ ∃ L', L.length ≤ L'.length ∧ L'.take L.length = L ∧ Bfs (kk m) nob (nx1 m) 0 L' a (kk m) ∧ Que m L' (a + 1) t.2.1 t.2.2)) := by
   intro hn
   unfold yk
   rw [zF, vA (by omega)]
   exact ⟨⟨i + 1, L', rfl, hlt, hll, htk, hb'.old hc' hlt rfl hn, hq'⟩, by simp only; omega⟩
  rcases h.edgeAt hcN hlt with ⟨g1, _⟩ | ⟨g1, g2, _⟩
  ·have : ((E m c.1 i).To != -1) = false := by rw [g1]; rfl
   rw [this, cond_false]
   exact old fun q hq => by unfold nx1 at hq; rw [if_neg (by omega)] at hq; cases hq
  ·have e1 : ((E m c.1 i).To != -1) = true := by simp; omega
   obtain ⟨q, hq0⟩ : ∃ q : Nat, (E m c.1 i).To = q := ⟨(E m c.1 i).To.toNat, by omega⟩
   have hqN : q < m.Rows.length := by omega
   have hnx : nx1 m c.1 i = some q := by unfold nx1; rw [if_pos g1, hq0]; simp
   have hsq : seen'[q]? = some seen'[q]! := by
    have : q < seen'.length := by rw [hq'.len]; exact hqN
    rw [List.getElem?_eq_getElem this]; simp [this]
   rw [e1, cond_true, hq0, zo hsq, Option.bind_some]
   by_cases hs : seen'[q]! = true
   ·rw [hs]
    simp only [Bool.not_true, cond_false]
    refine old fun q' hq2 => ?_
    rw [hnx] at hq2
    cases hq2
    rw [hs] at hsq
    obtain ⟨u, hu⟩ := (hq'.seen q).1 hsq
    exact ⟨_, hu, rfl⟩
   ·have hs : seen'[q]! = false := by simpa using hs
    have hnot : ∀ u, (q, u) ∉ L' := fun u hu => by
     have := (hq'.seen q).2 ⟨u, hu⟩
     rw [hsq, hs] at this
     cases this
    have hL' := z2q h hb' hq'.nodup
    have hN := h.len64
    have hql := hq'.qlen
    rw [hs]
    simp only [Bool.not_false, cond_true]
    rw [Option.bind_some, gdT (by simp; omega)]
    unfold yk
    rw [zF, vA (by omega)]
    refine ⟨⟨i + 1, L' ++ [(q, i :: c.2)], rfl, hlt, by simp; omega, by rw [List.take_append_of_le_length hll, htk], hb'.new hc' hlt rfl hnx, ?_⟩, by simp only; omega⟩
    refine ⟨by simp [hq'.len], fun t => ?_, ?_, by simp; omega, fun j y hy => ?_⟩
    ·simp only [Int.toNat_natCast]
     rw [WU (by rw [hq'.len]; exact hqN), hq'.seen]
     constructor
     ·rintro (rfl | ⟨u, hu⟩)
      ·exact ⟨_, List.mem_append_right _ (List.mem_singleton.2 rfl)⟩
      ·exact ⟨u, List.mem_append_left _ hu⟩
     ·rintro ⟨u, hu⟩
      rcases List.mem_append.1 hu with g | g
      ·exact .inr ⟨u, g⟩
      ·have := List.mem_singleton.1 g
       cases this
       exact .inl rfl
    ·rw [List.map_append, List.nodup_append]
     refine ⟨hq'.nodup, by simp, fun t ht s hs' e => ?_⟩
     obtain ⟨b, hb1, rfl⟩ := List.mem_map.1 ht
     have hs2 : s = q := by simpa using hs'
     exact hnot b.2 (by rw [← hs2, ← e]; exact hb1)
    ·rcases Nat.lt_or_ge j Q'.length with g | g
     ·rw [List.getElem?_append_left g] at hy
      obtain ⟨d, d1, d2, d3⟩ := hq'.arr j y hy
      have dl := (List.getElem?_eq_some_iff.1 d1).1
      refine ⟨d, by rw [List.getElem?_append_left dl]; exact d1, d2, ?_⟩
      rcases d3 with d3 | ⟨i', u', p, j', e1, e2, e3, e4, e5⟩
      ·exact .inl d3
      ·exact .inr ⟨i', u', p, j', e1, e2, e3, e4, by rw [List.getElem?_append_left (List.getElem?_eq_some_iff.1 e5).1]; exact e5⟩
     ·have hjl := (List.getElem?_eq_some_iff.1 hy).1
      simp at hjl
      have hj : j = Q'.length := by omega
      subst hj
      simp at hy
      subst hy
      refine ⟨(q, i :: c.2), by rw [List.getElem?_append_right (by omega), show a + 1 + Q'.length - L'.length = 0 by omega]; rfl, rfl, .inr ⟨i, c.2, c.1, a, rfl, rfl, hx, by omega, ?_⟩⟩
      rw [List.getElem?_append_left (by omega), hc']
 ·have : i = kk m := by simp at h1; omega
  subst this
  rw [zF]
  exact ⟨rfl, L', hll, htk, hb', hq'⟩
structure zc4 (m : z6) (L : List (Nat × List Nat)) (a : Nat) (l : List (List Int)) (is : List Bool) : Prop where
 l1 : l.length = m.Rows.length
 l2 : is.length = m.Rows.length
 got : ∀ (j : Nat) (c : Nat × List Nat), j < a → L[j]? = some c → is[c.1]? = some true ∧ l[c.1]? = some (c.2.reverse.map Int.ofNat)
 rest : ∀ t : Nat, t < m.Rows.length → (∀ (j : Nat) (c : Nat × List Nat), j < a → L[j]? = some c → c.1 ≠ t) → is[t]? = some false ∧ l[t]? = some []
omit h in
theorem zbG (w : List Int) (hw : w.length ≤ 4294967296) : yx w = some w := z3R w hw
theorem z7t {L : List (Nat × List Nat)} {a : Nat} {l : List (List Int)} {is : List Bool} (hp : zc4 m L a l is) {c : Nat × List Nat} (hc : L[a]? = some c) {x : ze} (hx : zdf L a x c) (hn : (L.map (·.1)).Nodup) (hb : Bfs (kk m) nob (nx1 m) 0 L a 0) :
  ∃ l' is', xy l is x = some (.next (l', is')) ∧ zc4 m L (a + 1) l' is' := by
 have hal := (List.getElem?_eq_some_iff.1 hc).1
 have hcN := (XQ h c.2 c.1 (hb.path c (List.mem_of_getElem? hc))).2.2
 obtain ⟨q1, q2⟩ := hx
 have hne : ∀ (j : Nat) (d : Nat × List Nat), j < a → L[j]? = some d → d.1 ≠ c.1 := fun j d hj hd e => by
  have h1 : (L.map (·.1))[j]? = some d.1 := by rw [List.getElem?_map, hd]; rfl
  have h2 : (L.map (·.1))[a]? = some c.1 := by rw [List.getElem?_map, hc]; rfl
  rw [← e] at h2
  have := ((List.getElem?_inj (List.getElem?_eq_some_iff.1 h1).1 hn).1 (h1.trans h2.symm))
  omega
 obtain ⟨r1, r2⟩ := hp.rest c.1 hcN hne
 have main : ∀ w : List Int, w = c.2.reverse.map Int.ofNat → zc4 m L (a + 1) (l.set c.1 w) (is.set c.1 true) := by
  intro w hw
  refine ⟨by simp [hp.l1], by simp [hp.l2], fun j d hj hd => ?_, fun t ht hall => ?_⟩
  ·by_cases e : j = a
   ·subst e
    rw [hc] at hd
    cases hd
    rw [List.getElem?_set_self (by rw [hp.l2]; exact hcN), List.getElem?_set_self (by rw [hp.l1]; exact hcN), hw]
    exact ⟨rfl, rfl⟩
   ·have hne' := hne j d (by omega) hd
    rw [List.getElem?_set_ne (Ne.symm hne'), List.getElem?_set_ne (Ne.symm hne')]
    exact hp.got j d (by omega) hd
  ·have hne' : c.1 ≠ t := hall a c (by omega) hc
   rw [List.getElem?_set_ne hne', List.getElem?_set_ne hne']
   exact hp.rest t ht fun j d hj hd => hall j d (by omega) hd
 unfold xy
 rw [q1, zo r1, Option.bind_some]
 simp only [Int.toNat_natCast]
 rcases q2 with ⟨q2, q3⟩ | ⟨i, u, p, j, q2, q3, q4, q5, q6⟩
 ·have : (x.from_ != -1) = false := by rw [q3]; rfl
  rw [this, cond_false]
  refine ⟨l, is.set c.1 true, rfl, ?_⟩
  have := main [] (by rw [q2]; rfl)
  have e : l.set c.1 [] = l := by
   apply List.ext_getElem?
   intro t
   by_cases e : t = c.1
   ·subst e; rw [List.getElem?_set_self (by rw [hp.l1]; exact hcN), r2]
   ·rw [List.getElem?_set_ne (Ne.symm e)]
  rwa [e] at this
 ·have : (x.from_ != -1) = true := by rw [q4]; simp <;> omega
  obtain ⟨g1, g2⟩ := hp.got j (p, u) q5 q6
  have hul : u.length ≤ j := hb.short j (p, u) q6
  have hjL := (List.getElem?_eq_some_iff.1 q6).1
  have hLN := z2q h hb hn
  have hN := h.len64
  rw [this, cond_true, q4, zo g2, Option.bind_some, zbG _ (by simp; omega), Option.bind_some, gdT (by simp; omega), z0v, Option.bind_some, zo r2, Option.bind_some]
  refine ⟨_, _, rfl, main _ ?_⟩
  rw [q2, q3]
  simp
theorem KK : Ret (kM m 0) (z2R m) := by
 have l1 := h.len1
 have hN := h.len64
 have e0 : ((m.Rows.length : Nat) : Int).toNat = m.Rows.length := by simp
 unfold kM jp
 rw [gdT (by omega), gdT (by omega), Option.bind_some, e0, qp]
 refine Ret.mono (Q := fun t => ∃ l is, t = .next (l, is) ∧ z2R m (l, is)) ?_ ?_
 ·dsimp only
  unfold vE
  have hrep : (List.replicate m.Rows.length false)[(0 : Nat)]? = some false := by rw [List.getElem?_replicate, if_pos (by omega)]
  rw [gdT (by omega), e0, qp, show idx (List.replicate m.Rows.length false) 0 = some false from hrep, zF, qp]
  refine Ret.mono (Q := fun t => ∃ l is, t = .next (l, is) ∧ z2R m (l, is)) ?_ fun t ht => zF.2 ht
  have hst0 : Que m [(0, [])] 0 ((List.replicate m.Rows.length false).set (0 : Int).toNat true) [ze.mk 0 (-1) (-1)] := by
   refine ⟨by simp, fun t => ?_, by simp, by simp, fun j x hx => ?_⟩
   ·show ((List.replicate m.Rows.length false).set 0 true)[t]? = some true ↔ _
    rw [WU (by simp; omega)]
    constructor
    ·rintro (rfl | q)
     ·exact ⟨[], by simp⟩
     ·rw [List.getElem?_replicate] at q; split at q <;> cases q
    ·rintro ⟨u, hu⟩
     simp at hu
     exact .inl hu.1
   ·have hj := (List.getElem?_eq_some_iff.1 hx).1
    simp at hj
    subst hj
    simp at hx
    subst hx
    exact ⟨(0, []), rfl, rfl, .inl ⟨rfl, rfl⟩⟩
  have hp0 : zc4 m [(0, [])] 0 (List.replicate m.Rows.length ([] : List Int)) (List.replicate m.Rows.length false) := by
   refine ⟨by simp, by simp, fun j c hj => by omega, fun t ht _ => ?_⟩
   rw [List.getElem?_replicate, List.getElem?_replicate, if_pos ht, if_pos ht]
   exact ⟨rfl, rfl⟩
  refine kw (fun s => ∃ (a : Nat) (L : List (Nat × List Nat)) (l : List (List Int)) (is : List Bool), s.1 = .next (l, is) ∧ a ≤ L.length ∧ Bfs (kk m) nob (nx1 m) 0 L a 0 ∧ Que m L a s.2.1 s.2.2 ∧ zc4 m L a l is) (fun s => match s.1 with | .next (l, is) => 200 - (is.countP id) | .done _ => 0) ⟨0, _, _, _, rfl, by simp, Bfs.start, hst0, hp0⟩ (by show 200 - _ < _; omega) ?_
  rintro ⟨sg, seen, Q⟩ ⟨a, L, l, is, hsg, haL, hb, hq, hp⟩
  simp only at hsg hq
  subst hsg
  have hLN := z2q h hb hq.nodup
  have hql := hq.qlen
  show Ret (wj m (yOf (fun s x => xy s.1 s.2 x)) (.next (l, is)) seen Q) _
  unfold wj
  rw [uR]
  refine ⟨fun h1 => ?_, fun h1 => ?_⟩
  ·have hQ : 0 < Q.length := by simp at h1; omega
   have hx0 : Q[0]? = some Q[0] := List.getElem?_eq_getElem hQ
   obtain ⟨c, c1, c2⟩ := hq.arr 0 _ hx0
   rw [Nat.add_zero] at c1 c2
   have hal := (List.getElem?_eq_some_iff.1 c1).1
   have hcN := (XQ h c.2 c.1 (hb.path c (List.mem_of_getElem? c1))).2.2
   obtain ⟨l', is', y1, y2⟩ := z7t h hp c1 c2 hq.nodup hb
   have yv : yOf (fun (s : List (List Int) × List Bool) x => xy s.1 s.2 x) (.next (l, is)) Q[0] = some (.next (l', is'), true) := by
    unfold yOf
    simp only
    rw [y1]
   obtain ⟨r, hr, hrl, hre⟩ := h.rowAt hcN
   have hs0 := c2.1
   rw [show idx Q 0 = some Q[0] from hx0, Option.bind_some, gdT (by omega), yv, Option.bind_some]
   simp only [Bool.not_true, cond_false]
   rw [hs0, zo hr, Option.bind_some, qp]
   have hq' : Que m L (a + 1) seen (Q.drop 1) := by
    refine ⟨hq.len, hq.seen, hq.nodup, by rw [List.length_drop]; omega, fun j x hx => ?_⟩
    rw [List.getElem?_drop] at hx
    have := hq.arr (1 + j) x hx
    rwa [show a + (1 + j) = a + 1 + j by omega] at this
   refine (z9q h (σ := LR (List (List Int) × List Bool) Empty) (LR.next (l', is'), true) Q[0] c1 hs0 hb hq' hrl hre).mono ?_
   rintro ⟨sg', seen', Q'⟩ ⟨e1, L', g1, g2, g3, g4⟩
   simp only at e1 g4
   rw [zF]
   have same : ∀ j, j < L.length → L'[j]? = L[j]? := fun j hj => by
    have : (L'.take L.length)[j]? = L[j]? := by rw [g2]
    rwa [List.getElem?_take, if_pos hj] at this
   have hal' : a < L'.length := by omega
   refine ⟨⟨a + 1, L', l', is', e1, hal', g3.step hal', g4, ?_⟩, ?_⟩
   ·refine ⟨y2.l1, y2.l2, fun j d hj hd => y2.got j d hj (by rw [← same j (by omega)]; exact hd), fun t ht hall => y2.rest t ht fun j d hj hd => hall j d hj (by rw [same j (by omega)]; exact hd)⟩
   ·subst e1
    have hfalse : is[c.1]? = some false := (hp.rest c.1 hcN fun j d hj hd e => by
     have h1 : (L.map (·.1))[j]? = some d.1 := by rw [List.getElem?_map, hd]; rfl
     have h2 : (L.map (·.1))[a]? = some c.1 := by rw [List.getElem?_map, c1]; rfl
     rw [← e] at h2
     have := ((List.getElem?_inj (List.getElem?_eq_some_iff.1 h1).1 hq.nodup).1 (h1.trans h2.symm))
     omega).1
    have hset : is' = is.set c.1 true := by
     unfold xy at y1
     rw [hs0, zo hfalse, Option.bind_some] at y1
     simp only [Int.toNat_natCast] at y1
     rcases zG y1 with ⟨_, y1⟩ | ⟨_, y1⟩
     ·obtain ⟨_, _, y1⟩ := zf y1
      obtain ⟨_, _, y1⟩ := zf y1
      obtain ⟨_, y1⟩ := gdE y1
      obtain ⟨_, _, y1⟩ := zf y1
      obtain ⟨_, _, y1⟩ := zf y1
      cases y1; rfl
     ·cases y1; rfl
    subst hset
    have hcl : c.1 < is.length := by rw [hp.l2]; exact hcN
    have cnt : (is.set c.1 true).countP id = is.countP id + 1 := by
     rw [List.countP_set hcl]
     have : is[c.1] = false := by rw [List.getElem?_eq_getElem hcl] at hfalse; exact Option.some.inj hfalse
     simp [this]
    have cle : (is.set c.1 true).countP id ≤ (is.set c.1 true).length := List.countP_le_length
    rw [List.length_set, hp.l2] at cle
    show 200 - (is.set c.1 true).countP id < 200 - is.countP id
    omega
  ·have hQ : Q.length = 0 := by simp at h1; simp [h1]
   have ha : a = L.length := by omega
   rw [zF]
   refine ⟨l, is, rfl, hp.l1, hp.l2, fun t ht => ?_⟩
   have atEnd : ∀ c, L[a]? = some c → False := fun c hc => by have := (List.getElem?_eq_some_iff.1 hc).1; omega
   by_cases hex : ∃ u, (t, u) ∈ L
   ·obtain ⟨u, hu⟩ := hex
    obtain ⟨j, hj⟩ := List.getElem?_of_mem hu
    have hjl := (List.getElem?_eq_some_iff.1 hj).1
    obtain ⟨g1, g2⟩ := hp.got j (t, u) (by omega) hj
    obtain ⟨p1, p2, p3⟩ := XQ h u t (hb.path _ hu)
    refine .inl ⟨g1, u.reverse, g2, p1, ?_, p2, fun v hv e => ?_⟩
    ·rw [List.length_reverse]
     have : u.length ≤ j := hb.short j (t, u) hj
     omega
    ·obtain ⟨j2, b, b1, b2, b3⟩ := hb.reach v.reverse t (z0K h v.reverse t (by rw [List.reverse_reverse]; exact hv) (by rw [List.reverse_reverse]; exact e)) fun c hc => (atEnd c hc).elim
     have hb2 : b.2 = u := by
      have h1 : (L.map (·.1))[j]? = some t := by rw [List.getElem?_map, hj]; rfl
      have h2 : (L.map (·.1))[j2]? = some t := by rw [List.getElem?_map, b1]; exact congrArg some b2
      have := ((List.getElem?_inj (List.getElem?_eq_some_iff.1 h1).1 hq.nodup).1 (h1.trans h2.symm))
      subst this
      rw [hj] at b1
      cases b1; rfl
     rw [hb2, z9p, z9p, List.reverse_reverse] at b3
     exact b3
   ·refine .inr ⟨(hp.rest t ht fun j c hj hc e => hex ⟨c.2, by rw [← e]; exact List.mem_of_getElem? hc⟩).1, fun v hv e => ?_⟩
    obtain ⟨j2, b, b1, b2, _⟩ := hb.reach v.reverse t (z0K h v.reverse t (by rw [List.reverse_reverse]; exact hv) (by rw [List.reverse_reverse]; exact e)) fun c hc => (atEnd c hc).elim
    exact hex ⟨b.2, by rw [← b2]; exact List.mem_of_getElem? b1⟩
 ·rintro t ⟨l, is, rfl, ha⟩
  simp only
  unfold jo
  exact zF.2 ha
theorem z28 : Ret (jy m) fun r => r.2.2 = 0 ∧ z2R m (r.1, r.2.1) := by
 unfold jy
 rw [Qo, z69 h, Option.bind_some, bne_self_eq_false, cond_false, qp]
 exact (KK h).mono fun r hr => zF.2 ⟨rfl, hr⟩
end
end Go.Own

namespace Go.Own
theorem z5T (a : Nat) : ∀ k, ∀ w ∈ exW a k, ∀ c ∈ w, 0 ≤ c ∧ c < (a : Int)
 | 0, w, hw, c, hc => by
  have : w = [] := by simpa [exW] using hw
  subst this; simp at hc
 | k + 1, w, hw, c, hc => by
  simp only [exW, List.mem_flatMap] at hw
  obtain ⟨u, hu, hw⟩ := hw
  simp only [z0O, List.mem_map, List.mem_range] at hw
  obtain ⟨s, hs, rfl⟩ := hw
  rcases List.mem_append.1 hc with q | q
  ·exact z5T a k u hu c q
  ·rw [List.mem_singleton.1 q]; omega
theorem z0e (a f : Nat) : ∀ k, ∀ w ∈ Zk a f k, ∀ c ∈ w, 0 ≤ c ∧ c < (a : Int)
 | 0, w, hw, c, hc => by simp [Zk] at hw
 | k + 1, w, hw, c, hc => by
  simp only [Zk] at hw
  split at hw
  ·rcases List.mem_append.1 hw with q | q
   ·exact z0e a f k w q c hc
   ·exact z5T a k w q c hc
  ·exact z0e a f k w hw c hc
theorem Jd (a f : Nat) : ∀ k, ∀ w ∈ Zk a f (k + 1), w.length ≤ k
 | 0, w, hw => by
  simp only [Zk] at hw
  split at hw
  ·have : w ∈ exW a 0 := by simpa using hw
   rw [ZA a 0 w this]
   exact Nat.le_refl _
  ·simp at hw
 | k + 1, w, hw => by
  rw [Zk] at hw
  split at hw
  ·rcases List.mem_append.1 hw with q | q
   ·exact Nat.le_succ_of_le (Jd a f k w q)
   ·rw [ZA a (k + 1) w q]
    exact Nat.le_refl _
  ·exact Nat.le_succ_of_le (Jd a f k w hw)
theorem z7A : ∀ a, a ≤ 6 → ∀ k, k ≤ 3 → lnW a 0 (k + 1) ≤ 259 := by decide
theorem z6p : ∀ a, a ≤ 6 → ∀ k, k ≤ 3 → zbN a 0 k = false := by decide
section
variable {a k : Nat} (ha : 1 ≤ a) (ha6 : a ≤ 6) (hk : k ≤ 3)
include ha ha6 hk
omit ha in
theorem zdG : Wq (a : Int) 259 3 (Zk a 0 (k + 1)) := ⟨z0f a 0 _, by rw [Qd]; exact z7A a ha6 k hk, fun w hw => ⟨Nat.le_trans (Jd a 0 k w hw) hk, z0e a 0 _ w hw⟩⟩
theorem zaV : Ye (a : Int) (k : Int) = some (Zk a 0 (k + 1), 0) := by
 unfold Ye
 have := zaf (a := a) (f := 0) (t := k) ⟨ha, by omega⟩ (by omega) (by omega)
 rw [z6p a ha6 k hk] at this
 rw [show ((0 : Nat) : Int) = 0 from rfl] at this
 rw [this]
 rfl
end
section
variable {m : z6} (h : VM m)
include h
theorem z8E {L : Nat} (hN : m.Rows.length ≤ L) {l : List (List Int)} {is : List Bool} (ha : z2R m (l, is)) (hall : ∀ t, t < m.Rows.length → Rch m t) : Wq m.Inputs L (L - 1) (srt l) ∧ ∀ w ∈ l, w.length ≤ L - 1 ∧ ∀ c ∈ w, 0 ≤ c ∧ c < m.Inputs := by
 have hw : ∀ w ∈ l, w.length ≤ L - 1 ∧ ∀ c ∈ w, 0 ≤ c ∧ c < m.Inputs := by
  intro w hw
  obtain ⟨t, ht⟩ := List.mem_iff_getElem?.1 hw
  have htl : t < m.Rows.length := by have := (List.getElem?_eq_some_iff.1 ht).1; rw [ha.1] at this; exact this
  rcases ha.2.2 t htl with ⟨_, v, v1, v2⟩ | ⟨_, v⟩
  ·have v1 : l[t]? = some (v.map Int.ofNat) := v1
   rw [ht] at v1
   cases v1
   refine ⟨by rw [List.length_map]; have := v2.len; omega, fun c hc => ?_⟩
   obtain ⟨i, hi, rfl⟩ := List.mem_map.1 hc
   have := v2.wd i hi
   have := h.kk_eq
   exact ⟨Int.natCast_nonneg _, by show (i : Int) < _; omega⟩
  ·obtain ⟨u, u1, u2⟩ := hall t htl
   exact absurd u2 (v u u1)
 exact ⟨⟨z17 l, Nat.le_trans (z2h l) (by have : l.length = m.Rows.length := ha.1; omega), fun w hm => hw w (Xw.1 hm)⟩, hw⟩
theorem Ka : Ret (w8 m) fun r => (∀ t, t < m.Rows.length → Rch m t) ∧ (∃ l is, z2R m (l, is) ∧ r = (srt l, 0)) ∨ (¬ ∀ t, t < m.Rows.length → Rch m t) ∧ r = ([], 11) := by
 obtain ⟨⟨b, e⟩, hc, he, hb⟩ := z0t h
 simp only at he hb
 subst he
 unfold w8
 rw [hc, Option.bind_some]
 simp only [bne_self_eq_false, cond_false]
 by_cases hr : b = true
 ·subst hr
  have hall := hb.1 rfl
  simp only [Bool.not_true, cond_false]
  obtain ⟨⟨l, is, e⟩, ha, he, hacc⟩ := z28 h
  simp only at he hacc
  subst he
  obtain ⟨hwq, hws⟩ := z8E h h.len64 hacc hall
  rw [ha, Option.bind_some]
  simp only [bne_self_eq_false, cond_false]
  have hl64 : l.length ≤ 64 := by have : l.length = m.Rows.length := hacc.1; have := h.len64; omega
  have hlo : loE m.Inputs l = 0 := Qi.2 ⟨⟨h.in1, h.in16⟩, by omega, fun w hw => ⟨by have := (hws w hw).1; omega, (hws w hw).2⟩⟩
  have hsy : qg (srt l) ≤ 65536 := Nat.le_trans (QI hwq.2.1 fun w hw => (hwq.2.2 w hw).1) (by omega)
  have hso : soR l = (srt l, 0) := by
   unfold soR
   rw [if_neg (by have := hwq.2.1; omega)]
  unfold XM
  rw [z3n, hlo, Option.bind_some, bne_self_eq_false, cond_false, z02 (by omega) (fun w hw => by have := (hws w hw).1; omega), hso, Option.bind_some, Option.bind_some, zF]
  exact .inl ⟨hall, l, is, hacc, rfl⟩
 ·have hr : b = false := by simpa using hr
  subst hr
  simp only [Bool.not_false, cond_true]
  rw [zF]
  exact .inr ⟨fun q => (by have := hb.2 q; cases this), rfl⟩
def zfr (m : z6) (k : Int) (r : List (List Int) × Int) : Prop :=
 ((¬ ∀ t, t < m.Rows.length → Rch m t) ∧ r = ([], 11)) ∨ (∀ t, t < m.Rows.length → Rch m t) ∧ (k < 0 ∧ r = ([], 1) ∨ 0 ≤ k ∧ ∃ l is, z2R m (l, is) ∧ r = (srt (uT (srt l) (Zk (kk m) 0 (k.toNat + 1))), 0))
theorem Uq (hN : m.Rows.length ≤ 8) (hk : kk m ≤ 6) {k : Int} (h3 : k ≤ 3) : Ret (yQ m k) (zfr m k) := by
 have hkk := h.kk_eq
 have hk1 := h.kk_pos
 unfold yQ
 rw [qp]
 refine (Ka h).mono fun r hr => ?_
 rcases hr with ⟨hall, l, is, hacc, rfl⟩ | ⟨hn, rfl⟩
 ·simp only [bne_self_eq_false, cond_false]
  rw [uR]
  refine ⟨fun hc => ?_, fun hc => ?_⟩
  ·rw [zF]
   exact .inr ⟨hall, .inl ⟨of_decide_eq_true hc, rfl⟩⟩
  ·have h0 : 0 ≤ k := by have := of_decide_eq_false hc; omega
   obtain ⟨n, rfl⟩ : ∃ n : Nat, k = n := ⟨k.toNat, by omega⟩
   have hn3 : n ≤ 3 := by omega
   have hup := zaV hk1 hk hn3
   have hwu := zdG hk hn3
   rw [hkk] at hup hwu
   obtain ⟨hwq, _⟩ := z8E h hN hacc hall
   have hc1 := hwq.ch ⟨h.in1, h.in16⟩ (by omega) (by omega) (by omega)
   have hc2 := hwu.ch ⟨h.in1, h.in16⟩ (by omega) (by omega) (by omega)
   have hcc := z4v hwq hwu ⟨h.in1, h.in16⟩ hc1 hc2 (by omega) (by omega) (by omega)
   rw [hup, Option.bind_some]
   simp only [bne_self_eq_false, cond_false]
   rw [hcc, Option.bind_some, zF]
   exact .inr ⟨hall, .inr ⟨h0, l, is, hacc, rfl⟩⟩
 ·have : ((11 : Int) != 0) = true := rfl
  simp only [this, cond_true]
  rw [zF]
  exact .inl ⟨hn, rfl⟩
theorem QG (hN : m.Rows.length ≤ 8) (hk : kk m ≤ 6) : Ret (yH m) (zfr m 1) := by
 unfold yH
 rw [qp]
 exact (Uq h hN hk (k := 1) (by omega)).mono fun r hr => zF.2 hr
end
theorem KB {m : z6} (h : chk m ≠ 0) : w8 m = some ([], chk m) := by
 have hb : (chk m != 0) = true := by simpa using h
 unfold w8 xN
 rw [Qo, Option.bind_some, hb, cond_true, Option.bind_some]
 simp only [hb, cond_true]
theorem UF {m : z6} (h : chk m ≠ 0) (k : Int) : yQ m k = some ([], chk m) := by
 have hb : (chk m != 0) = true := by simpa using h
 unfold yQ
 rw [KB h, Option.bind_some]
 simp only [hb, cond_true]
theorem JD {m : z6} (h : chk m ≠ 0) : yH m = some ([], chk m) := by
 unfold yH
 rw [UF h, Option.bind_some]
end Go.Own

namespace Go.Own
def Ok3 (a : Int) : Prop := (-9223372036854775808) ≤ a ∧ a ≤ 9223372036854775807
def zeA (a : zh) : Prop := Ok3 a.To ∧ Ok3 a.Out
def zeB (l : List zh) : Prop := ∀ a ∈ l, zeA a
def zfu (l : List (List zh)) : Prop := ∀ a ∈ l, zeB a
def zft (a : z6) : Prop := Ok3 a.Inputs ∧ Ok3 a.Outputs ∧ zfu a.Rows
def zez (l : List Int) : Prop := ∀ a ∈ l, Ok3 a
def zfs (l : List (List Int)) : Prop := ∀ a ∈ l, zez a
end Go.Own

namespace Go.Own
theorem z7b (m : z6) : ∃ e : Int, kZ m = some e ∧ (e = 0 → m.Rows.length ≤ 8 ∧ ∀ r ∈ m.Rows, r.length ≤ 6) := by
 unfold kZ
 by_cases h : ((m.Rows.length : Nat) : Int) > 8
 ·rw [decide_eq_true h, cond_true]
  exact ⟨1, rfl, fun q => by cases q⟩
 ·rw [decide_eq_false h, cond_false, bdT (yn m.Rows (by omega) (step := fun s => vT m s) (fun _ r => if r.length ≤ 6 then none else some 1) ?_ ?_)]
  ·cases hf : y7 (fun (_ : Nat) (r : List zh) => if r.length ≤ 6 then (none : Option Int) else some 1) m.Rows 0 with
   | none =>
    refine ⟨0, rfl, fun _ => ⟨by omega, fun r hr => ?_⟩⟩
    obtain ⟨i, hi⟩ := List.mem_iff_getElem?.1 hr
    have := qA hf i r hi
    split at this
    ·assumption
    ·cases this
   | some e =>
    obtain ⟨i, r, _, h2⟩ := ui hf
    split at h2
    ·cases h2
    ·cases h2
     exact ⟨1, rfl, fun q => by cases q⟩
  ·intro i r hr
   have hi := (List.getElem?_eq_some_iff.1 hr).1
   unfold vT
   rw [decide_eq_true (by omega), cond_true, zo hr, Option.bind_some]
   by_cases q : r.length ≤ 6
   ·rw [decide_eq_false (by omega), cond_false, if_pos q]; rfl
   ·rw [decide_eq_true (by omega), cond_true, if_neg q]; rfl
  ·unfold vT
   rw [decide_eq_false (by omega), cond_false]
theorem ze8 (l : List (List Int)) : ∃ e : Int, Xz l = some e := by
 unfold Xz
 by_cases h : ((l.length : Nat) : Int) > 60
 ·rw [decide_eq_true h, cond_true]; exact ⟨_, rfl⟩
 ·rw [decide_eq_false h, cond_false, z40 l (by omega), Option.bind_some]
  cases decide (stW l > 600) <;> exact ⟨_, rfl⟩
theorem z6q {m : z6} {l : List (List Int)} {f : Int} (hf : f ≠ 0) (hr : xh m l = some f) : yG m l f = some true := by
 have hb : (f != 0) = true := by simpa using hf
 have e1 : wc m l = some (⟨[], []⟩, f) := by unfold wc; rw [hr, Option.bind_some, hb, cond_true]
 have e2 : yb m l = some (false, f) := by unfold yb; rw [hr, Option.bind_some, hb, cond_true]
 have e3 : zK m l = some (false, f) := by unfold zK; rw [hr, Option.bind_some, hb, cond_true]
 unfold yG
 rw [Uz, e1, Option.bind_some, e2, Option.bind_some, e3, Option.bind_some]
 simp only [bne_self_eq_false, cond_false, hb, cond_true]
 rfl
theorem z8a {m : z6} (v : VM m) {l : List (List Int)} (hch : chE m.Inputs l = 0) : yG m l 0 = some true := by
 obtain ⟨c1, c2, _, c4, _, c6⟩ := YS hch
 have wl : Wq m.Inputs 4096 256 l := ⟨c4, c1, fun w hw => ⟨c2 w hw, c6 w hw⟩⟩
 have hready : xh m l = some 0 := by rw [z08, z69 v, if_neg (by omega), hch]
 have hnat := z9F wl
 obtain ⟨q1, q2, q3⟩ := z9E v wl
 have hl1 : (z8u l).length ≤ 100000 := by omega
 have hl2 : ∀ w ∈ z8u l, w.length ≤ 100000 := fun w hw => by have := q3 w hw; omega
 have e1 := z9B v q1 hl1 hl2 (by rw [hnat]; exact hready)
 have e2 := z5h v q1 hl1 hl2 (by rw [hnat]; exact hready)
 have e3 := z5g v q1 hl1 hl2 (by rw [hnat]; exact hready)
 have e4 := z9y v q1 hl1 hl2
 have e5 := z56 v q1 hl1
 have e6 := z54 v q1 hl1 hl2
 rw [hnat] at e1 e2 e3 e4 e5 e6
 have e7 := zb9 v (z64 v q1 VN)
 unfold yG
 rw [Uz, e1, Option.bind_some, e2, Option.bind_some, e3, Option.bind_some]
 simp only [bne_self_eq_false, cond_false]
 rw [e4, Option.bind_some, e7, Option.bind_some, cond_true, e5, Option.bind_some, beq_self_eq_true, cond_true, e6, Option.bind_some, beq_self_eq_true, cond_true, Option.bind_some]
theorem z7G {m : z6} {l : List (List Int)} {k : Int} (_ : zft m) (_ : zfs l) (_ : Ok3 k) : qz m l k = some true := by
 obtain ⟨e, he, hs⟩ := z7b m
 obtain ⟨e2, he2⟩ := ze8 l
 unfold qz
 rw [he, Option.bind_some]
 by_cases q : e = 0
 ·subst q
  rw [bne_self_eq_false, cond_false, he2, Option.bind_some]
  by_cases q2 : e2 = 0
  ·subst q2
   rw [bne_self_eq_false, cond_false, z52, Option.bind_some]
   by_cases hc : chk m = 0
   ·have v := zdB hc
    obtain ⟨h8, h6⟩ := hs rfl
    have hk6 : kk m ≤ 6 := by
     obtain ⟨r, hr, hl, _⟩ := v.rowAt (s := 0) (by have := v.len1; omega)
     rw [← hl]; exact h6 r (List.mem_of_getElem? hr)
    have hk3 : mn k 3 ≤ 3 := by unfold mn; split <;> omega
    obtain ⟨r1, g1, _⟩ := Ka v
    obtain ⟨r2, g2, _⟩ := QG v h8 hk6
    obtain ⟨r3, g3, _⟩ := Uq v h8 hk6 hk3
    rw [g1, Option.bind_some, g2, Option.bind_some, g3, Option.bind_some, hc, bne_self_eq_false, cond_false]
    unfold xO
    rw [beq_self_eq_true, cond_true, z57, Option.bind_some]
    by_cases hl : chE m.Inputs l = 0
    ·rw [hl]; exact z8a v hl
    ·exact z6q hl (by rw [z08, hc, if_neg (by omega)])
   ·have hb : (chk m != 0) = true := by simpa using hc
    have hb2 : (chk m == 0) = false := by simpa using hc
    rw [KB hc, Option.bind_some, JD hc, Option.bind_some, UF hc, Option.bind_some, hb, cond_true]
    simp only [bne_self_eq_false, cond_false]
    unfold xO
    rw [hb2, cond_false]
    exact z6q hc (by rw [z08, if_pos hc])
  ·have : (e2 != 0) = true := by simpa using q2
   rw [this, cond_true]
 ·have : (e != 0) = true := by simpa using q
  rw [this, cond_true]
end Go.Own

namespace Go.Own
def z0J (w : World) : zg := fun b o => zX w.heap b o
theorem z6d {w : World} {a : Addr} {v : Value} (h : w.cell? a = some v) : a.spot = none ∧ zX w.heap a.block a.off = some v := by
 unfold World.cell? at h
 unfold zX
 split at h
 ·rename_i c ty fr he
  rw [he]
  split at h
  ·cases h
  ·rename_i hs
   exact ⟨by simpa using hs, h⟩
 ·cases h
section
variable {H : Type} {enc : TypeId × Value → H} {P : Program} {w : World} {base : Nat} {spare : Nat → Bool} {held : Bool}
theorem z6a {a : Addr} {n : Nat} {cs : List Value} (h : w.cells? base a n = some cs) (hn : 0 < n) : a.spot = none ∧ cs.length = n ∧ KG (z0J w) a.block a.off cs := by
 obtain ⟨_, h2, h3⟩ := World.cells?_some h
 have h0 : a.spot = none := by
  have h4 := h3 0 hn
  cases hc : cs[0]? with
  | none => rw [List.getElem?_eq_none_iff] at hc; omega
  | some v =>
   rw [hc] at h4
   have := (z6d h4).1
   simpa [Addr.add] using this
 refine ⟨h0, h2, fun j v hj => ?_⟩
 have hlt := (List.getElem?_eq_some_iff.1 hj).1
 have h4 := h3 j (by omega)
 rw [hj] at h4
 have q := (z6d h4).2
 unfold Addr.add at q
 split at q
 ·rename_i e; subst e; exact q
 ·exact q
theorem z1l {S : zg} : ∀ {bs : List A} {cs : List Value} {a : A} {c : List Value}, zZ S bs cs → Rep S a c → zZ S (bs ++ [a]) (cs ++ c)
 | [], cs, a, c, h1, h2 => by
  simp only [zZ] at h1
  subst h1
  simp only [List.nil_append, zZ]
  exact ⟨c, [], by simp, h2, rfl⟩
 | x :: bs, cs, a, c, h1, h2 => by
  simp only [zZ] at h1
  obtain ⟨c1, c2, rfl, r1, r2⟩ := h1
  simp only [List.cons_append, zZ]
  exact ⟨c1, c2 ++ c, by simp, r1, z1l r2 h2⟩
theorem z7B {S : zg} {b o : Nat} {c1 c2 : List Value} (h1 : KG S b o c1) (h2 : KG S b (o + c1.length) c2) : KG S b o (c1 ++ c2) := by
 intro j v hj
 rcases Nat.lt_or_ge j c1.length with q | q
 ·rw [List.getElem?_append_left q] at hj
  exact h1 j v hj
 ·rw [List.getElem?_append_right q] at hj
  have := h2 _ _ hj
  rwa [show o + c1.length + (j - c1.length) = o + j by omega] at this
theorem WZ {α : Type} {t e sz : Nat} (f : α → A) (ok : α → Prop) (ht : P.underlying t = some (.slice e)) (hsz : P.cellsOf e = sz) (h0 : 0 < sz) (hf : ∀ a, (f a).size = sz)
    (hel : ∀ n cs x, DataW.trod enc P w base spare held n e cs = some x → ∃ a, ok a ∧ Rep (z0J w) (f a) cs)
    {YO : Nat} {cs : List Value} {x : DataW H × List MemPlace} (h : DataW.trod enc P w base spare held YO t cs = some x) : ∃ l : List α, (∀ a ∈ l, ok a) ∧ Rep (z0J w) (.sl sz false (l.map f)) cs := by
  rcases DataW.trod_slice ht h with ⟨rfl, _⟩ | ⟨a, len, cap, elems, rest, n, _, rfl, _, _, hlc, _, hlen, hall, _, _⟩
  · refine ⟨[], by simp, ?_⟩
    simp only [Rep, List.map_nil, List.length_nil]
    exact ⟨none, 0, rfl, by simp, Nat.le_refl _, by simp, .inl trivial⟩
  · have key : ∀ k, k ≤ len → ∃ (l : List α) (cells : List Value), l.length = k ∧ (∀ a ∈ l, ok a) ∧ zZ (z0J w) (l.map f) cells ∧ cells.length = k * sz ∧ (0 < k → a.spot = none) ∧ KG (z0J w) a.block a.off cells := by
      intro k
      induction k with
      | zero => intro _; exact ⟨[], [], rfl, by simp, by simp [zZ], by simp, by simp, fun j v h => by simp at h⟩
      | succ k ih =>
        intro hk
        obtain ⟨l, cells, q1, q2, q3, q4, q5, q6⟩ := ih (by omega)
        have hk' := hall k (by omega)
        have hsome : elems[k]? = some elems[k] := List.getElem?_eq_getElem (by omega)
        rw [hsome, Option.bind_eq_some_iff, hsz] at hk'
        obtain ⟨c, hc, htr⟩ := hk'
        obtain ⟨y, hy, hr⟩ := hel _ _ _ htr
        obtain ⟨g1, g2, g3⟩ := z6a hc h0
        refine ⟨l ++ [y], cells ++ c, by simp [q1], ?_, ?_, ?_, ?_, ?_⟩
        · intro z hz
          rcases List.mem_append.1 hz with q | q
          · exact q2 z q
          · simp only [List.mem_cons, List.not_mem_nil, or_false] at q; subst q; exact hy
        · rw [List.map_append]; exact z1l q3 hr
        · rw [List.length_append, q4, g2, Nat.succ_mul]
        · intro _
          rcases Nat.eq_zero_or_pos k with rfl | hk0
          · simpa [Addr.add] using g1
          · exact q5 hk0
        · refine z7B q6 ?_
          rw [q4]
          unfold Addr.add at g3
          split at g3
          · rename_i e0
            rw [e0, Nat.add_zero]
            exact g3
          · exact g3
    obtain ⟨l, cells, q1, q2, q3, q4, q5, q6⟩ := key len (Nat.le_refl _)
    refine ⟨l, q2, ?_⟩
    simp only [Rep, List.length_map]
    refine ⟨some a, cap, by rw [q1], by simp, by omega, ?_, ?_⟩
    · intro y hy
      obtain ⟨z, _, rfl⟩ := List.mem_map.1 hy
      exact hf z
    · rcases Nat.eq_zero_or_pos len with rfl | hl
      · left; rw [List.length_eq_zero_iff.1 q1]; rfl
      · right
        refine ⟨a.block, a.off, cells, ?_, q3, q6⟩
        have := q5 hl
        obtain ⟨b, o, s⟩ := a
        simp only at this
        subst this
        rfl
theorem z9N {t : Nat} {k : IntKind} {lo hi : Int} (ht : P.underlying t = some (.int k)) (hlo : k.min = lo) (hhi : k.max = hi) {YO : Nat} {cs : List Value} {x : DataW H × List MemPlace} (h : DataW.trod enc P w base spare held YO t cs = some x) :
  ∃ n : Int, (lo ≤ n ∧ n ≤ hi) ∧ cs = [.int k n] ∧ Rep (z0J w) (.atom (.int k n)) cs := by
 obtain ⟨n, rfl, _, hw⟩ := DataW.trod_int ht h
 simp only [Lit.wf, Bool.and_eq_true, decide_eq_true_eq, hlo, hhi] at hw
 exact ⟨n, hw, rfl, by simp only [Rep]; exact ⟨trivial, rfl⟩⟩
theorem WW {t : Nat} {fs : List Field} (ht : P.underlying t = some (.struct ⟨fs⟩)) {YO : Nat} {cs : List Value} {x : DataW H × List MemPlace} (h : DataW.trod enc P w base spare held YO t cs = some x) :
  cs.length = P.cellsOf t ∧ ∀ (i : Nat) (f : Field), fs[i]? = some f → ∃ n y, DataW.trod enc P w base spare held n f.type ((cs.drop f.offset).take (P.cellsOf f.type)) = some y := by
 obtain ⟨xs, n, _, _, hl, hxl, hall⟩ := DataW.trod_struct ht h
 refine ⟨hl, fun i f hf => ?_⟩
 have hlt := (List.getElem?_eq_some_iff.1 hf).1
 have := hall i f (by simpa using hf)
 rw [List.getElem?_eq_getElem (by rw [hxl]; simpa using hlt)] at this
 exact ⟨n, _, this⟩
end
theorem Xt {S : zg} {a : A} {bs : List A} {cs : List Value} {n : Nat} (h1 : Rep S a (cs.take n)) (h2 : zZ S bs (cs.drop n)) : zZ S (a :: bs) cs := by
 simp only [zZ]
 exact ⟨cs.take n, cs.drop n, (List.take_append_drop n cs).symm, h1, h2⟩
end Go.Own
