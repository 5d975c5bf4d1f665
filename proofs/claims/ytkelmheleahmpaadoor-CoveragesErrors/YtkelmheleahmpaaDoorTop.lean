/- -/
import Derived.Test.YtkelmheleahmpaaDoorPartF
import Derived.Test.YtkelmheleahmpaaDoorPartC
import Derived.Test.YtkelmheleahmpaaDoorPartE
import Derived.Test.YtkelmheleahmpaaDoorPartB
import Derived.OpenShut
import Derived.ChangeShapes
import Derived.WalkKit
import Derived.ProofKit
import Derived.Carry
import Derived.Test.YtkelmheleahmpaaDoorRows
import Derived.Test.YtkelmheleahmpaaDoorChecked
import Derived.LaidMore
import Derived.Stop.Joined
import Derived.SevenTiedAt
import Derived.Test.YtkelmheleahmpaaDoorCards
import Derived.Test.YtkelmheleahmpaaDoorTie
noncomputable section
set_option linter.unusedVariables false
set_option linter.unusedSimpArgs false
namespace Go.Own
theorem oB {α : Type _} {β : Type _} (a : α) (f : α → Option β) : Option.bind (some a) f = f a := rfl
open Go.Proofs
theorem xu {l : List yD} {s : yD} (h : ((l.map yD.k).contains s.k) = false) : ∀ t ∈ l, t.k ≠ s.k := by
 intro t ht e
 have : (l.map yD.k).contains s.k = true := by
  rw [List.contains_iff_mem, ← e]
  exact List.mem_map_of_mem ht
 rw [h] at this
 cases this
theorem zJ {l : List yD} {c : Ctr} (H : ∀ t ∈ l, c.Has t) (i : Nat) {s : yD} (h : l[i]? = some s) : c.Has s := H _ (List.mem_of_getElem? h)
def L0 : List yD := Zk :: []
def L1 : List yD := Y2 :: L0
def L2 : List yD := jG :: L1
def L3 : List yD := Zi :: L2
def L4 : List yD := uR :: L3
def L5 : List yD := Zh :: L4
def L6 : List yD := Zj :: L5
def L7 : List yD := jH :: L6
def L8 : List yD := jI :: L7
def L9 : List yD := uX :: L8
def L10 : List yD := yN :: L9
def L11 : List yD := yw :: L10
def L12 : List yD := uB :: L11
def L13 : List yD := jF :: L12
def L14 : List yD := wH :: L13
def L15 : List yD := w8 :: L14
def L16 : List yD := Zd :: L15
def L17 : List yD := jk :: L16
def L18 : List yD := jJ :: L17
def L19 : List yD := un :: L18
def L20 : List yD := vj :: L19
def L21 : List yD := Y4 :: L20
def L22 : List yD := u3 :: L21
def L23 : List yD := Zf :: L22
def L24 : List yD := jj :: L23
def L25 : List yD := Zg :: L24
def L26 : List yD := wi :: L25
def L27 : List yD := uC :: L26
def L28 : List yD := xI :: L27
def L29 : List yD := qX :: L28
def L30 : List yD := yn :: L29
def L31 : List yD := yu :: L30
def L32 : List yD := Ze :: L31
def L33 : List yD := km :: L32
def L34 : List yD := wT :: L33
def L35 : List yD := qo :: L34
def L36 : List yD := yk :: L35
def L37 : List yD := ww :: L36
def L38 : List yD := uY :: L37
def L39 : List yD := um :: L38
def L40 : List yD := qn :: L39
def L41 : List yD := vB :: L40
def L42 : List yD := qY :: L41
def L43 : List yD := w9 :: L42
def L44 : List yD := kn :: L43
def L45 : List yD := Y1 :: L44
def L46 : List yD := vN :: L45
def L47 : List yD := yZ :: L46
def L48 : List yD := x3 :: L47
def L49 : List yD := wI :: L48
def L50 : List yD := vM :: L49
def L51 : List yD := kp :: L50
def L52 : List yD := vm :: L51
def L53 : List yD := wp :: L52
def L54 : List yD := vD :: L53
def L55 : List yD := ko :: L54
def L56 : List yD := j4 :: L55
def L57 : List yD := Y3 :: L56
def L58 : List yD := Zl :: L57
def L59 : List yD := vC :: L58
theorem ze1 : zK Tryd.prog L0 := ⟨fun _ hC H => JH hC, xu (by kernel_rfl), trivial⟩
theorem ze0 : zK Tryd.prog L1 := ⟨fun _ hC H => KB hC, xu (by kernel_rfl), ze1⟩
theorem zdZ : zK Tryd.prog L2 := ⟨fun _ hC H => Uv hC, xu (by kernel_rfl), ze0⟩
theorem zdY : zK Tryd.prog L3 := ⟨fun _ hC H => JF hC (zJ H 1 rfl) (zJ H 0 rfl), xu (by kernel_rfl), zdZ⟩
theorem zdX : zK Tryd.prog L4 := ⟨fun _ hC H => Uw hC, xu (by kernel_rfl), zdY⟩
theorem zdW : zK Tryd.prog L5 := ⟨fun _ hC H => JE hC, xu (by kernel_rfl), zdX⟩
theorem zdV : zK Tryd.prog L6 := ⟨fun _ hC H => JG hC (zJ H 2 rfl) (zJ H 1 rfl) (zJ H 0 rfl), xu (by kernel_rfl), zdW⟩
theorem zdU : zK Tryd.prog L7 := ⟨fun _ hC H => Ux hC, xu (by kernel_rfl), zdV⟩
theorem zdT : zK Tryd.prog L8 := ⟨fun _ hC H => Uy hC (zJ H 0 rfl), xu (by kernel_rfl), zdU⟩
theorem zdS : zK Tryd.prog L9 := ⟨fun _ hC H => Wf hC (zJ H 0 rfl), xu (by kernel_rfl), zdT⟩
theorem zch : zK Tryd.prog L10 := ⟨fun _ hC H => uL hC (zJ H 0 rfl), xu (by kernel_rfl), zdS⟩
theorem zcg : zK Tryd.prog L11 := ⟨fun _ hC H => uu hC (zJ H 0 rfl), xu (by kernel_rfl), zch⟩
theorem zcf : zK Tryd.prog L12 := ⟨fun _ hC H => VK hC (zJ H 0 rfl), xu (by kernel_rfl), zcg⟩
theorem zce : zK Tryd.prog L13 := ⟨fun _ hC H => Uu hC, xu (by kernel_rfl), zcf⟩
theorem zcd : zK Tryd.prog L14 := ⟨fun _ hC H => kR hC (zJ H 0 rfl), xu (by kernel_rfl), zce⟩
theorem zcc : zK Tryd.prog L15 := ⟨fun _ hC H => jC hC (zJ H 0 rfl), xu (by kernel_rfl), zcd⟩
theorem zcb : zK Tryd.prog L16 := ⟨fun _ hC H => Jy hC (zJ H 0 rfl), xu (by kernel_rfl), zcc⟩
theorem zca : zK Tryd.prog L17 := ⟨fun _ hC H => JB hC (zJ H 0 rfl), xu (by kernel_rfl), zcb⟩
theorem zc9 : zK Tryd.prog L18 := ⟨fun _ hC H => UA hC, xu (by kernel_rfl), zca⟩
theorem zc8 : zK Tryd.prog L19 := ⟨fun _ hC H => WR hC (zJ H 0 rfl), xu (by kernel_rfl), zc9⟩
theorem zc7 : zK Tryd.prog L20 := ⟨fun _ hC H => ZF hC (zJ H 0 rfl), xu (by kernel_rfl), zc8⟩
theorem zc6 : zK Tryd.prog L21 := ⟨fun _ hC H => KD hC, xu (by kernel_rfl), zc7⟩
theorem zc5 : zK Tryd.prog L22 := ⟨fun _ hC H => Ut hC (zJ H 2 rfl) (zJ H 1 rfl) (zJ H 0 rfl), xu (by kernel_rfl), zc6⟩
theorem zc4 : zK Tryd.prog L23 := ⟨fun _ hC H => JC hC (zJ H 0 rfl), xu (by kernel_rfl), zc5⟩
theorem zc3 : zK Tryd.prog L24 := ⟨fun _ hC H => JA hC, xu (by kernel_rfl), zc4⟩
theorem zc2 : zK Tryd.prog L25 := ⟨fun _ hC H => JD hC (zJ H 7 rfl) (zJ H 1 rfl) (zJ H 0 rfl), xu (by kernel_rfl), zc3⟩
theorem zc1 : zK Tryd.prog L26 := ⟨fun _ hC H => WJ hC (zJ H 13 rfl) (zJ H 0 rfl), xu (by kernel_rfl), zc2⟩
theorem zc0 : zK Tryd.prog L27 := ⟨fun _ hC H => VL hC, xu (by kernel_rfl), zc1⟩
theorem zbZ : zK Tryd.prog L28 := ⟨fun _ hC H => XJ hC (zJ H 0 rfl), xu (by kernel_rfl), zc0⟩
theorem zbY : zK Tryd.prog L29 := ⟨fun _ hC H => VI hC, xu (by kernel_rfl), zbZ⟩
theorem zbX : zK Tryd.prog L30 := ⟨fun _ hC H => Yt hC, xu (by kernel_rfl), zbY⟩
theorem zbW : zK Tryd.prog L31 := ⟨fun _ hC H => YN hC, xu (by kernel_rfl), zbX⟩
theorem zbV : zK Tryd.prog L32 := ⟨fun _ hC H => Jz hC (zJ H 2 rfl) (zJ H 1 rfl) (zJ H 0 rfl), xu (by kernel_rfl), zbW⟩
theorem zbU : zK Tryd.prog L33 := ⟨fun _ hC H => QA hC (zJ H 20 rfl) (zJ H 0 rfl), xu (by kernel_rfl), zbV⟩
theorem zbT : zK Tryd.prog L34 := ⟨fun _ hC H => Uz hC (zJ H 0 rfl) (zJ H 3 rfl) (zJ H 2 rfl), xu (by kernel_rfl), zbU⟩
theorem zbS : zK Tryd.prog L35 := ⟨fun _ hC H => QE hC (zJ H 8 rfl) (zJ H 6 rfl) (zJ H 0 rfl), xu (by kernel_rfl), zbT⟩
theorem zbR : zK Tryd.prog L36 := ⟨fun _ hC H => vL hC, xu (by kernel_rfl), zbS⟩
theorem zbQ : zK Tryd.prog L37 := ⟨fun _ hC H => XI hC (zJ H 10 rfl) (zJ H 8 rfl) (zJ H 2 rfl) (zJ H 0 rfl), xu (by kernel_rfl), zbR⟩
theorem zbP : zK Tryd.prog L38 := ⟨fun _ hC H => Wg hC (zJ H 0 rfl), xu (by kernel_rfl), zbQ⟩
theorem zbO : zK Tryd.prog L39 := ⟨fun _ hC H => WQ hC (zJ H 1 rfl), xu (by kernel_rfl), zbP⟩
theorem zbN : zK Tryd.prog L40 := ⟨fun _ hC H => WP hC (zJ H 2 rfl), xu (by kernel_rfl), zbO⟩
theorem zbM : zK Tryd.prog L41 := ⟨fun _ hC H => ZV hC, xu (by kernel_rfl), zbN⟩
theorem zbL : zK Tryd.prog L42 := ⟨fun _ hC H => VJ hC (zJ H 19 rfl), xu (by kernel_rfl), zbM⟩
theorem zbK : zK Tryd.prog L43 := ⟨fun _ hC H => jD hC (zJ H 0 rfl), xu (by kernel_rfl), zbL⟩
theorem zbJ : zK Tryd.prog L44 := ⟨fun _ hC H => QB hC (zJ H 2 rfl) (zJ H 21 rfl) (zJ H 0 rfl) (zJ H 19 rfl) (zJ H 13 rfl) (zJ H 12 rfl), xu (by kernel_rfl), zbK⟩
theorem zbI : zK Tryd.prog L45 := ⟨fun _ hC H => KA hC (zJ H 27 rfl) (zJ H 0 rfl), xu (by kernel_rfl), zbJ⟩
theorem zbH : zK Tryd.prog L46 := ⟨fun _ hC H => Wi hC (zJ H 19 rfl) (zJ H 17 rfl) (zJ H 15 rfl) (zJ H 14 rfl) (zJ H 11 rfl) (zJ H 0 rfl), xu (by kernel_rfl), zbI⟩
theorem zbG : zK Tryd.prog L47 := ⟨fun _ hC H => jV hC, xu (by kernel_rfl), zbH⟩
theorem zbF : zK Tryd.prog L48 := ⟨fun _ hC H => jW hC, xu (by kernel_rfl), zbG⟩
theorem zbE : zK Tryd.prog L49 := ⟨fun _ hC H => kS hC (zJ H 1 rfl) (zJ H 0 rfl), xu (by kernel_rfl), zbF⟩
theorem zbD : zK Tryd.prog L50 := ⟨fun _ hC H => Wh hC (zJ H 23 rfl) (zJ H 15 rfl) (zJ H 21 rfl) (zJ H 22 rfl) (zJ H 0 rfl) (zJ H 19 rfl) (zJ H 18 rfl), xu (by kernel_rfl), zbE⟩
theorem zbC : zK Tryd.prog L51 := ⟨fun _ hC H => QD hC, xu (by kernel_rfl), zbD⟩
theorem zbB : zK Tryd.prog L52 := ⟨fun _ hC H => ZG hC, xu (by kernel_rfl), zbC⟩
theorem zbA : zK Tryd.prog L53 := ⟨fun _ hC H => jX hC (zJ H 0 rfl), xu (by kernel_rfl), zbB⟩
theorem zbz : zK Tryd.prog L54 := ⟨fun _ hC H => ZX hC (zJ H 0 rfl), xu (by kernel_rfl), zbA⟩
theorem zby : zK Tryd.prog L55 := ⟨fun _ hC H => QC hC (zJ H 0 rfl), xu (by kernel_rfl), zbz⟩
theorem zbx : zK Tryd.prog L56 := ⟨fun _ hC H => VN hC (zJ H 0 rfl), xu (by kernel_rfl), zby⟩
theorem zbw : zK Tryd.prog L57 := ⟨fun _ hC H => KC hC (zJ H 52 rfl), xu (by kernel_rfl), zbx⟩
theorem zbv : zK Tryd.prog L58 := ⟨fun _ hC H => JI hC (zJ H 6 rfl) (zJ H 22 rfl) (zJ H 18 rfl) (zJ H 11 rfl) (zJ H 7 rfl) (zJ H 1 rfl) (zJ H 0 rfl), xu (by kernel_rfl), zbw⟩
theorem zbu : zK Tryd.prog L59 := ⟨fun _ hC H => ZW hC (zJ H 58 rfl) (zJ H 52 rfl) (zJ H 23 rfl) (zJ H 20 rfl) (zJ H 19 rfl) (zJ H 18 rfl) (zJ H 12 rfl) (zJ H 8 rfl) (zJ H 0 rfl), xu (by kernel_rfl), zbv⟩
theorem qQ {x : Int} (h1 : -9223372036854775808 ≤ x) (h2 : x ≤ 9223372036854775807) : w64 x = x := by
 simp only [w64, IntKind.wrap, IntKind.bits, IntKind.signed]
 simp
 omega
variable {k : Nat}
section
variable {α β σ τ ρ : Type}
def Ret (x : Option α) (Q : α → Prop) : Prop := ∃ a, x = some a ∧ Q a
theorem Ret.mono {x : Option α} {Q R : α → Prop} (h : Ret x Q) (q : ∀ a, Q a → R a) : Ret x R := by
 obtain ⟨a, e, h⟩ := h
 exact ⟨a, e, q a h⟩
theorem Ret.eq {x : Option α} {a : α} (h : Ret x fun b => b = a) : x = some a := by
 obtain ⟨b, e, rfl⟩ := h
 exact e
theorem zF {a : α} {Q : α → Prop} : Ret (some a) Q ↔ Q a := ⟨fun ⟨b, e, q⟩ => by cases e; exact q, fun q => ⟨a, rfl, q⟩⟩
theorem wm {x : Option α} {f : α → Option β} {Q : β → Prop} : Ret (Option.bind x f) Q ↔ Ret x fun a => Ret (f a) Q := by
 cases x with
 | none => exact ⟨fun ⟨b, e, _⟩ => (by cases e), fun ⟨b, e, _⟩ => (by cases e)⟩
 | some a => exact ⟨fun h => ⟨a, rfl, h⟩, fun ⟨b, e, h⟩ => by cases e; exact h⟩
theorem wr {c : Bool} {x y : Option α} {Q : α → Prop} : Ret (bif c then x else y) Q ↔ (c = true → Ret x Q) ∧ (c = false → Ret y Q) := by
 cases c <;> simp
theorem yQ (l : List α) (i : Nat) : idx l (i : Int) = l[i]? := rfl
theorem gdT {p : Prop} [Decidable p] {x : Option α} (h : p) : gd p x = x := by unfold gd; rw [if_pos h]
theorem bdT {x : Option α} {u : α} {f : α → Option ρ} (h : x = some u) : Option.bind x f = f u := by rw [h]; rfl
theorem ZK (step : σ → Option (LR σ τ)) (n : Nat) (s : σ) : XO step (n + 1) s = (match step s with | none => none | some (.next s') => XO step n s' | some (.done t) => some t) := rfl
def LRP (N : σ → Prop) (D : τ → Prop) : LR σ τ → Prop
 | .next s => N s
 | .done t => D t
theorem vt {step : σ → Option (LR σ τ)} (I : σ → Prop) (m : σ → Nat) {R : τ → Prop} {s : σ} (hs : I s) (hm : m s < 18446744073709551616)
  (h : ∀ s, I s → Ret (step s) (LRP (fun s' => I s' ∧ m s' < m s) R)) : Ret (loop step s) R := by
 have gen : ∀ (n : Nat) (s : σ), I s → m s < n → Ret (XO step n s) R := by
  intro n
  induction n with
  | zero => intro s _ h; omega
  | succ n ih =>
   intro s hs hm
   obtain ⟨a, e, q⟩ := h s hs
   rw [ZK, e]
   cases a with
   | next s' => exact ih s' q.1 (by have := q.2; omega)
   | done t => exact ⟨t, rfl, q⟩
 exact gen fuel s hs hm
theorem Uf {step : σ → Option (LR σ τ)} (st : Nat → σ) (n : Nat) {t : τ} (hn : n < 9223372036854775808) (h : ∀ i, i < n → step (st i) = some (.next (st (i + 1)))) (hd : step (st n) = some (.done t)) : loop step (st 0) = some t := by
 have gen : ∀ (k : Nat) (i : Nat), i ≤ n → n - i < k → XO step k (st i) = some t := by
  intro k
  induction k with
  | zero => intro i _ h; omega
  | succ k ih =>
   intro i hi hk
   rw [ZK]
   rcases Nat.lt_or_ge i n with q | q
   ·rw [h i q]
    exact ih (i + 1) q (by omega)
   ·have : i = n := by omega
    subst this
    rw [hd]
 exact gen fuel 0 (Nat.zero_le _) (by show n - 0 < 18446744073709551616; omega)
def xo (f : Nat → α → Option ρ) : List α → Nat → Option ρ
 | [], _ => none
 | x :: l, i => match f i x with | some r => some r | none => xo f l (i + 1)
theorem Ya {f : Nat → α → Option ρ} : ∀ {l : List α} {k : Nat}, (∀ i x, l[i]? = some x → f (k + i) x = none) → xo f l k = none
 | [], _, _ => rfl
 | x :: l, k, h => by
  have h0 := h 0 x rfl
  simp only [Nat.add_zero] at h0
  simp only [xo, h0]
  exact Ya fun i y hy => by have := h (i + 1) y (by simpa using hy); rwa [show k + 1 + i = k + (i + 1) by omega]
theorem q9 {f : Nat → α → Option ρ} {r : ρ} : ∀ {l : List α} {k : Nat}, xo f l k = some r → ∃ i x, l[i]? = some x ∧ f (k + i) x = some r
 | [], _, h => by cases h
 | x :: l, k, h => by
  simp only [xo] at h
  cases hf : f k x with
  | some r' => rw [hf] at h; exact ⟨0, x, rfl, by rw [Nat.add_zero, hf]; exact h⟩
  | none =>
   rw [hf] at h
   obtain ⟨i, y, h1, h2⟩ := q9 h
   exact ⟨i + 1, y, by simpa using h1, by rw [← h2]; congr 1; omega⟩
theorem k8 {f : Nat → α → Option ρ} {l : List α}  (h : xo f l k = none) : ∀ i x, l[i]? = some x → f (k + i) x = none := by
 induction l generalizing k with
 | nil => intro i x h; simp at h
 | cons y l ih =>
  intro i x hx
  simp only [xo] at h
  cases hf : f k y with
  | some r' => rw [hf] at h; cases h
  | none =>
   rw [hf] at h
   cases i with
   | zero => simp at hx; subst hx; simpa using hf
   | succ i => have := ih h i x (by simpa using hx); rwa [show k + (i + 1) = k + 1 + i by omega]
def oS : Option ρ → Unit ⊕ ρ
 | some r => .inr r
 | none => .inl ()
def nS (i : Nat) : Option ρ → LR Int (Unit ⊕ ρ)
 | some r => .done (.inr r)
 | none => .next (w64 ((i : Int) + 1))
theorem uw (l : List α) (hl : l.length < 4611686018427387904) {step : Int → Option (LR Int (Unit ⊕ ρ))} (f : Nat → α → Option ρ)
  (h : ∀ (i : Nat) (x : α), l[i]? = some x → step (i : Int) = some (nS i (f i x))) (h2 : step (l.length : Int) = some (.done (.inl ()))) :
  loop step 0 = some (oS (xo f l 0)) := by
 have gen : ∀ (n : Nat) (k : Nat), k ≤ l.length → l.length - k < n → XO step n (k : Int) = some (oS (xo f (l.drop k) k)) := by
  intro n
  induction n with
  | zero => intro k _ h; omega
  | succ n ih =>
   intro k hk hn
   rw [ZK]
   rcases Nat.lt_or_ge k l.length with hlt | hge
   ·have hx : l[k]? = some l[k] := List.getElem?_eq_getElem hlt
    rw [h k _ hx, List.drop_eq_getElem_cons hlt]
    simp only [xo]
    cases hf : f k l[k] with
    | some r => rfl
    | none =>
     simp only [nS]
     rw [qQ (by omega) (by omega)]
     exact ih (k + 1) hlt (by omega)
   ·have : k = l.length := by omega
    subst this
    rw [h2, List.drop_length]
    rfl
 exact gen fuel 0 (Nat.zero_le _) (by show l.length - 0 < 18446744073709551616; omega)
end
section
variable {S : Type}
def rv (k : Nat) : List Nat → Nat
 | [] => 0
 | i :: u => rv k u * k + i + 1
def z51 (k : Nat) (bad : S → Nat → Bool) (nx : S → Nat → Option S) (p0 : S) : List Nat → S → Prop
 | [], q => q = p0
 | i :: u, q => ∃ p, z51 k bad nx p0 u p ∧ i < k ∧ bad p i = false ∧ nx p i = some q
structure Bfs (k : Nat) (bad : S → Nat → Bool) (nx : S → Nat → Option S) (p0 : S) (L : List (S × List Nat)) (at_ i : Nat) : Prop where
 first : L[0]? = some (p0, [])
 mono : ∀ (j j' : Nat) (a b : S × List Nat), j < j' → L[j]? = some a → L[j']? = some b → rv k a.2 < rv k b.2
 path : ∀ a ∈ L, z51 k bad nx p0 a.2 a.1
 ahead : ∀ a c, L[at_]? = some c → a ∈ L → rv k a.2 < rv k c.2 * k + i + 1
 pos : i ≤ k
 lies : at_ ≤ L.length
 fin : at_ = L.length → i = 0
 short : ∀ (j : Nat) (a : S × List Nat), L[j]? = some a → a.2.length ≤ j
 seen : ∀ (j x : Nat) (a : S × List Nat), L[j]? = some a → x < k → (j < at_ ∨ j = at_ ∧ x < i) → bad a.1 x = false ∧ ∀ q, nx a.1 x = some q → ∃ b ∈ L, b.1 = q ∧ rv k b.2 ≤ rv k a.2 * k + x + 1
variable {k : Nat} {bad : S → Nat → Bool} {nx : S → Nat → Option S} {p0 : S}
theorem Bfs.start : Bfs k bad nx p0 [(p0, [])] 0 0 := {
 first := rfl
 mono := by
  intro j j' a b h h1 h2
  have := (List.getElem?_eq_some_iff.1 h2).1
  simp at this
  omega
 path := by intro a ha; simp at ha; subst ha; rfl
 ahead := by intro a c _ ha; simp at ha; subst ha; simp [rv]
 pos := Nat.zero_le _
 lies := by simp
 fin := by intro; rfl
 short := by
  intro j a h
  have := (List.getElem?_eq_some_iff.1 h).1
  simp at this
  subst this
  simp at h
  subst h
  simp
 seen := by rintro j x a h _ (q | ⟨_, q⟩) <;> omega }
theorem Bfs.old {L : List (S × List Nat)} {a i : Nat} (h : Bfs k bad nx p0 L a i) {c : S × List Nat} (hc : L[a]? = some c) (hi : i < k) (hb : bad c.1 i = false)
  (hn : ∀ q, nx c.1 i = some q → ∃ b ∈ L, b.1 = q) : Bfs k bad nx p0 L a (i + 1) := {
 first := h.first
 mono := h.mono
 path := h.path
 ahead := fun x y hy hx => by have := h.ahead x y hy hx; omega
 pos := hi
 lies := h.lies
 fin := fun e => by have := (List.getElem?_eq_some_iff.1 hc).1; omega
 short := h.short
 seen := by
  intro j x y hy hx q
  by_cases e : j = a ∧ x = i
  ·obtain ⟨rfl, rfl⟩ := e
   rw [hc] at hy
   cases hy
   refine ⟨hb, fun q hq => ?_⟩
   obtain ⟨b, h1, h2⟩ := hn q hq
   exact ⟨b, h1, h2, by have := h.ahead b c hc h1; omega⟩
  ·exact h.seen j x y hy hx (by omega) }
theorem Bfs.new {L : List (S × List Nat)} {a i : Nat} (h : Bfs k bad nx p0 L a i) {c : S × List Nat} (hc : L[a]? = some c) (hi : i < k) (hb : bad c.1 i = false) {q : S}
  (hn : nx c.1 i = some q) : Bfs k bad nx p0 (L ++ [(q, i :: c.2)]) a (i + 1) := by
 have hlt := (List.getElem?_eq_some_iff.1 hc).1
 refine ⟨?_, ?_, ?_, ?_, hi, by simp; omega, fun e => by simp at e; omega, ?_, ?_⟩
 ·rw [List.getElem?_append_left (by omega)]; exact h.first
 ·intro j j' x y hj h1 h2
  have hl := (List.getElem?_eq_some_iff.1 h2).1
  simp at hl
  rw [List.getElem?_append_left (by omega)] at h1
  rcases Nat.lt_or_ge j' L.length with g | g
  ·rw [List.getElem?_append_left g] at h2
   exact h.mono j j' x y hj h1 h2
  ·have : j' = L.length := by omega
   subst this
   simp at h2
   subst h2
   exact h.ahead x c hc (List.mem_of_getElem? h1)
 ·intro x hx
  rcases List.mem_append.1 hx with g | g
  ·exact h.path x g
  ·simp at g
   subst g
   exact ⟨c.1, h.path c (List.mem_of_getElem? hc), hi, hb, hn⟩
 ·intro x y hy hx
  rw [List.getElem?_append_left hlt] at hy
  rcases List.mem_append.1 hx with g | g
  ·have := h.ahead x y hy g; omega
  ·simp at g
   subst g
   rw [hc] at hy
   cases hy
   simp [rv]
 ·intro j y hy
  rcases Nat.lt_or_ge j L.length with g | g
  ·rw [List.getElem?_append_left g] at hy
   exact h.short j y hy
  ·have hl := (List.getElem?_eq_some_iff.1 hy).1
   simp at hl
   have : j = L.length := by omega
   subst this
   simp at hy
   subst hy
   have := h.short a c hc
   simp
   omega
 ·intro j x y hy hx g
  rw [List.getElem?_append_left (by omega)] at hy
  by_cases e : j = a ∧ x = i
  ·obtain ⟨rfl, rfl⟩ := e
   rw [hc] at hy
   cases hy
   refine ⟨hb, fun q' hq => ?_⟩
   rw [hn] at hq
   cases hq
   exact ⟨(q, x :: c.2), by simp, rfl, Nat.le_refl _⟩
  ·obtain ⟨h1, h2⟩ := h.seen j x y hy hx (by omega)
   refine ⟨h1, fun q' hq => ?_⟩
   obtain ⟨b, g1, g2⟩ := h2 q' hq
   exact ⟨b, List.mem_append_left _ g1, g2⟩
theorem Bfs.step {L : List (S × List Nat)} {a : Nat} (h : Bfs k bad nx p0 L a k) (ha : a < L.length) : Bfs k bad nx p0 L (a + 1) 0 := {
 first := h.first
 mono := h.mono
 path := h.path
 ahead := by
  intro x c hc hx
  have h1 := h.ahead x _ (List.getElem?_eq_getElem ha) hx
  have h2 := h.mono a (a + 1) _ _ (by omega) (List.getElem?_eq_getElem ha) hc
  have h3 : (rv k L[a].2 + 1) * k ≤ rv k c.2 * k := Nat.mul_le_mul_right _ h2
  rw [Nat.succ_mul] at h3
  omega
 pos := Nat.zero_le _
 lies := ha
 fin := fun _ => rfl
 short := h.short
 seen := fun j x b hb hx g => h.seen j x b hb hx (by rcases g with g | ⟨_, g⟩ <;> omega) }
theorem Bfs.reach {L : List (S × List Nat)} {a i : Nat} (h : Bfs k bad nx p0 L a i) : ∀ (u : List Nat) (q : S), z51 k bad nx p0 u q → (∀ c, L[a]? = some c → rv k u < rv k c.2 * k + i + 1) → ∃ (j : Nat) (b : S × List Nat), L[j]? = some b ∧ b.1 = q ∧ rv k b.2 ≤ rv k u
 | [], q, hp, _ => ⟨0, _, h.first, hp.symm, Nat.zero_le _⟩
 | x :: u, q, ⟨p, hp, hx, hb, hn⟩, hlt => by
  have hk : rv k u ≤ rv k u * k := Nat.le_mul_of_pos_right _ (by omega)
  obtain ⟨j, b, hj, rfl, hr⟩ := h.reach u p hp fun c hc => by have := hlt c hc; simp only [rv] at this; omega
  have hmul : rv k b.2 * k ≤ rv k u * k := Nat.mul_le_mul_right _ hr
  have hjl := (List.getElem?_eq_some_iff.1 hj).1
  have hpos : j < a ∨ j = a ∧ x < i := by
   rcases Nat.lt_trichotomy j a with g | g | g
   ·exact .inl g
   ·subst g
    refine .inr ⟨rfl, ?_⟩
    have := hlt b hj
    simp only [rv] at this
    omega
   ·exfalso
    have hal : a < L.length := by omega
    have h1 := hlt _ (List.getElem?_eq_getElem hal)
    have h2 := h.mono a j _ _ g (List.getElem?_eq_getElem hal) hj
    have h3 : (rv k L[a].2 + 1) * k ≤ rv k b.2 * k := Nat.mul_le_mul_right _ h2
    rw [Nat.succ_mul] at h3
    have := h.pos
    simp only [rv] at h1
    omega
  obtain ⟨_, h2⟩ := h.seen j x b hj hx hpos
  obtain ⟨c, g1, g2, g3⟩ := h2 q hn
  obtain ⟨j', g4⟩ := List.getElem?_of_mem g1
  exact ⟨j', c, g4, g2, by simp only [rv]; omega⟩
end
def Uj (m : z7) (x : zy) : Bool := (x.To == -1 && x.Out == -1) || (decide (0 ≤ x.To) && decide (x.To < (m.Rows.length : Int)) && decide (0 ≤ x.Out) && decide (x.Out < m.Outputs))
def QG (m : z7) (r : List zy) : Bool := decide ((r.length : Int) = m.Inputs) && r.all (Uj m)
def chk (m : z7) : Int :=
 if m.Inputs > 16 ∨ m.Outputs > 16 ∨ (m.Rows.length : Int) > 64 then 3 else if m.Inputs < 1 ∨ m.Outputs < 1 ∨ m.Rows.length = 0 then 1 else if m.Rows.all (QG m) = true then 0 else 1
theorem z90 (m : z7) (x : zy) : qq m x = some (Uj m x) := by
 unfold qq k7
 simp only [oB, Bool.and_true]
 rcases Bool.eq_false_or_eq_true (x.To == (-1) && x.Out == (-1)) with h | h
 ·simp [Uj, h]
 ·rw [h]
  simp only [Uj, h, Bool.false_or, cond_false]
  by_cases h1 : (0 : Int) ≤ x.To
  ·by_cases h2 : x.To < (m.Rows.length : Int)
   ·by_cases h3 : (0 : Int) ≤ x.Out
    ·simp [Bool.cond_eq_ite, h1, h2, h3]
    ·simp [Bool.cond_eq_ite, h1, h2, h3]
   ·simp [Bool.cond_eq_ite, h1, h2]
  ·simp [h1]
theorem z1c (m : z7) (r : List zy) (hl : r.length < 4611686018427387904) : zW r m = some (!r.all (Uj m)) := by
 have hloop : loop (fun s => zO r m s) 0 = some (oS (xo (fun i x => if Uj m x = true then none else some (i : Int)) r 0)) := by
  refine uw r hl _ ?_ ?_
  ·intro i x hx
   have hi := (List.getElem?_eq_some_iff.1 hx).1
   unfold zO
   have hd : decide ((i : Int) < ((r.length : Nat) : Int)) = true := by simpa using hi
   rw [hd, cond_true, yQ, bdT hx]
   unfold uU
   simp only [z90, oB]
   cases Uj m x <;> rfl
  ·unfold zO
   simp
 unfold zW yp
 rw [hloop]
 simp only [oB]
 cases hf : xo (fun i x => if Uj m x = true then none else some (i : Int)) r 0 with
 | some q =>
  obtain ⟨i, x, h1, h2⟩ := q9 hf
  have hx : Uj m x ≠ true := by
   intro h; rw [if_pos h] at h2; cases h2
  rw [if_neg hx] at h2
  simp only [Option.some.injEq] at h2
  have : r.all (Uj m) = false := by
   rw [List.all_eq_false]
   exact ⟨x, List.mem_of_getElem? h1, hx⟩
  rw [this]
  have : (q : Int) ≥ 0 := by rw [← h2]; omega
  show some (decide (q ≥ 0)) = _
  simp [this]
 | none =>
  have : r.all (Uj m) = true := by
   rw [List.all_eq_true]
   intro x hx
   obtain ⟨i, hi⟩ := List.getElem?_of_mem hx
   have := k8 hf i x hi
   by_cases h : Uj m x = true
   ·exact h
   ·rw [if_neg h] at this; cases this
  rw [this]
  rfl
variable {m : z7}
theorem z2I (h0 : (m.Rows.length : Int) ≤ 64) (h1 : m.Inputs ≤ 16) : loop (fun s => wD m s) 0 = some (oS (xo (fun _ r => if QG m r = true then none else some (1 : Int)) m.Rows 0)) := by
 refine uw m.Rows (by omega) _ ?_ ?_
 ·intro i r hr
  have hi := (List.getElem?_eq_some_iff.1 hr).1
  unfold wD
  have hd : decide ((i : Int) < ((m.Rows.length : Nat) : Int)) = true := by simpa using hi
  rw [hd, cond_true, yQ, bdT hr]
  by_cases hlen : (r.length : Int) = m.Inputs
  ·have hne : (((r.length : Nat) : Int) != m.Inputs) = false := by simpa using hlen
   rw [hne, cond_false, bdT (z1c m r (by omega))]
   have : QG m r = r.all (Uj m) := by simp [QG, hlen]
   rw [this]
   cases r.all (Uj m) <;> rfl
  ·have hne : (((r.length : Nat) : Int) != m.Inputs) = true := by simpa using hlen
   rw [hne, cond_true]
   have : QG m r = false := by simp [QG, hlen]
   rw [this]; rfl
 ·unfold wD
  simp
theorem QY (m : z7) : xo (fun _ r => if QG m r = true then none else some (1 : Int)) m.Rows 0 = if m.Rows.all (QG m) = true then none else some 1 := by
 by_cases h : m.Rows.all (QG m) = true
 ·rw [if_pos h]
  refine Ya fun i r hr => ?_
  rw [if_pos (List.all_eq_true.1 h r (List.mem_of_getElem? hr))]
 ·rw [if_neg h]
  cases hf : xo (fun _ r => if QG m r = true then none else some (1 : Int)) m.Rows 0 with
  | some q =>
   obtain ⟨i, x, h1, h2⟩ := q9 hf
   split at h2
   ·cases h2
   ·exact h2.symm ▸ rfl
  | none =>
   exfalso
   apply h
   rw [List.all_eq_true]
   intro x hx
   obtain ⟨i, hi⟩ := List.getElem?_of_mem hx
   have := k8 hf i x hi
   by_cases h : QG m x = true
   ·exact h
   ·rw [if_neg h] at this; cases this
theorem Uo (m : z7) : uh m = some (chk m) := by
 unfold uh chk
 by_cases h1 : m.Inputs > 16
 ·simp [h1]
 by_cases h2 : m.Outputs > 16
 ·simp [Bool.cond_eq_ite, h1, h2]
 by_cases h3 : (m.Rows.length : Int) > 64
 ·simp [Bool.cond_eq_ite, h1, h2, h3]
 rw [if_neg (by simp [Bool.cond_eq_ite, h1, h2, h3])]
 by_cases h4 : m.Inputs < 1
 ·simp [Bool.cond_eq_ite, h1, h2, h3, h4]
 by_cases h5 : m.Outputs < 1
 ·simp [Bool.cond_eq_ite, h1, h2, h3, h4, h5]
 by_cases h6 : m.Rows.length = 0
 ·simp [Bool.cond_eq_ite, h1, h2, h4, h5, h6]
 rw [if_neg (by simp [h4, h5, h6])]
 have h6' : decide (((m.Rows.length : Nat) : Int) < 1) = false := by simp; omega
 have e1 : decide (m.Inputs > 16) = false := by simpa using h1
 have e2 : decide (m.Outputs > 16) = false := by simpa using h2
 have e3 : decide (((m.Rows.length : Nat) : Int) > 64) = false := by simpa using h3
 have e4 : decide (m.Inputs < 1) = false := by simpa using h4
 have e5 : decide (m.Outputs < 1) = false := by simpa using h5
 simp only [e1, e2, e3, e4, e5, h6', cond_false]
 rw [bdT (z2I (by omega) (by omega)), QY]
 by_cases h : m.Rows.all (QG m) = true
 ·rw [if_pos h, if_pos h]; rfl
 ·rw [if_neg h, if_neg h]; rfl
variable {s : Nat}
theorem z3A {r : List zy} (hr : m.Rows[s]? = some r) (hlen : (r.length : Int) = m.Inputs) (h1 : m.Inputs ≤ 16) : loop (fun q => vn m (s : Int) q) 0 = some (if r.all (Uj m) = true then .inl () else .inr 1) := by
 have hl : loop (fun q => vn m (s : Int) q) 0 = some (oS (xo (fun _ x => if Uj m x = true then none else some (1 : Int)) r 0)) := by
  refine uw r (by omega) _ ?_ ?_
  ·intro i x hx
   have hi := (List.getElem?_eq_some_iff.1 hx).1
   unfold vn
   have hd : decide ((i : Int) < m.Inputs) = true := by rw [← hlen]; simpa using hi
   rw [hd, cond_true, yQ, bdT hr, yQ, bdT hx]
   unfold uM uN Uj
   by_cases a1 : x.To = -1
   ·by_cases a2 : x.Out = -1
    ·simp [nS, Bool.cond_eq_ite, a1, a2]
    ·simp [nS, Bool.cond_eq_ite, a1, a2]
   ·by_cases a2 : x.To < 0
    ·have : ¬ 0 ≤ x.To := by omega
     simp [nS, Bool.cond_eq_ite, a1, a2, this]
    ·by_cases a3 : (m.Rows.length : Int) ≤ x.To
     ·have : ¬ x.To < (m.Rows.length : Int) := by omega
      simp [nS, Bool.cond_eq_ite, a1, a2, a3, this]
     ·by_cases a4 : x.Out < 0
      ·have : ¬ 0 ≤ x.Out := by omega
       simp [nS, Bool.cond_eq_ite, a1, a2, a3, a4, this]
      ·by_cases a5 : m.Outputs ≤ x.Out
       ·have : ¬ x.Out < m.Outputs := by omega
        simp [nS, Bool.cond_eq_ite, a1, a2, a3, a4, a5, this]
       ·have b1 : 0 ≤ x.To := by omega
        have b2 : x.To < (m.Rows.length : Int) := by omega
        have b3 : 0 ≤ x.Out := by omega
        have b4 : x.Out < m.Outputs := by omega
        simp [nS, Bool.cond_eq_ite, a1, a2, a3, a4, a5, b1, b2, b3, b4]
  ·unfold vn
   simp [hlen]
 rw [hl]
 by_cases h : r.all (Uj m) = true
 ·rw [if_pos h]
  rw [Ya fun i x hx => by rw [if_pos (List.all_eq_true.1 h x (List.mem_of_getElem? hx))]]
  rfl
 ·rw [if_neg h]
  cases hf : xo (fun _ x => if Uj m x = true then none else some (1 : Int)) r 0 with
  | some q =>
   obtain ⟨i, x, h1, h2⟩ := q9 hf
   split at h2
   ·cases h2
   ·simp only [Option.some.injEq] at h2; rw [← h2]; rfl
  | none =>
   exfalso
   apply h
   rw [List.all_eq_true]
   intro x hx
   obtain ⟨i, hi⟩ := List.getElem?_of_mem hx
   have := k8 hf i x hi
   by_cases h : Uj m x = true
   ·exact h
   ·rw [if_neg h] at this; cases this
theorem z3B (m : z7) : ky m = some (chk m) := by
 unfold ky chk
 by_cases h1 : m.Inputs > 16
 ·simp [h1]
 by_cases h2 : m.Outputs > 16
 ·simp [Bool.cond_eq_ite, h1, h2]
 by_cases h3 : (m.Rows.length : Int) > 64
 ·simp [Bool.cond_eq_ite, h1, h2, h3]
 rw [if_neg (by simp [Bool.cond_eq_ite, h1, h2, h3])]
 by_cases h4 : m.Inputs < 1
 ·simp [Bool.cond_eq_ite, h1, h2, h3, h4]
 by_cases h5 : m.Outputs < 1
 ·simp [Bool.cond_eq_ite, h1, h2, h3, h4, h5]
 by_cases h6 : m.Rows.length = 0
 ·simp [Bool.cond_eq_ite, h1, h2, h4, h5, h6]
 rw [if_neg (by simp [h4, h5, h6])]
 have e1 : decide (m.Inputs > 16) = false := by simpa using h1
 have e2 : decide (m.Outputs > 16) = false := by simpa using h2
 have e3 : decide (((m.Rows.length : Nat) : Int) > 64) = false := by simpa using h3
 have e4 : decide (m.Inputs < 1) = false := by simpa using h4
 have e5 : decide (m.Outputs < 1) = false := by simpa using h5
 have e6 : (((m.Rows.length : Nat) : Int) == 0) = false := by simp; intro h; rw [h] at h6; exact h6 rfl
 simp only [e1, e2, e3, e4, e5, e6, cond_false]
 have hl : loop (fun s => ug m s) 0 = some (oS (xo (fun _ r => if QG m r = true then none else some (1 : Int)) m.Rows 0)) := by
  refine uw m.Rows (by omega) _ ?_ ?_
  ·intro i r hr
   have hi := (List.getElem?_eq_some_iff.1 hr).1
   unfold ug
   have hd : decide ((i : Int) < ((m.Rows.length : Nat) : Int)) = true := by simpa using hi
   rw [hd, cond_true, yQ, bdT hr]
   by_cases hlen : (r.length : Int) = m.Inputs
   ·have hne : (((r.length : Nat) : Int) != m.Inputs) = false := by simpa using hlen
    rw [hne, cond_false, bdT (z3A hr hlen (by omega))]
    have : QG m r = r.all (Uj m) := by simp [QG, hlen]
    rw [this]
    cases r.all (Uj m) <;> rfl
   ·have hne : (((r.length : Nat) : Int) != m.Inputs) = true := by simpa using hlen
    rw [hne, cond_true]
    have : QG m r = false := by simp [QG, hlen]
    rw [this]; rfl
  ·unfold ug
   simp
 rw [bdT hl, QY]
 by_cases h : m.Rows.all (QG m) = true
 ·rw [if_pos h, if_pos h]; rfl
 ·rw [if_neg h, if_neg h]; rfl
structure VM (m : z7) : Prop where
 in1 : 1 ≤ m.Inputs
 in16 : m.Inputs ≤ 16
 out1 : 1 ≤ m.Outputs
 out16 : m.Outputs ≤ 16
 len1 : 1 ≤ m.Rows.length
 len64 : m.Rows.length ≤ 64
 row : ∀ r ∈ m.Rows, (r.length : Int) = m.Inputs
 edge : ∀ r ∈ m.Rows, ∀ x ∈ r, (x.To = -1 ∧ x.Out = -1) ∨ (0 ≤ x.To ∧ x.To < (m.Rows.length : Int) ∧ 0 ≤ x.Out ∧ x.Out < m.Outputs)
theorem zcB (h : chk m = 0) : VM m := by
 unfold chk at h
 split at h
 ·cases h
 split at h
 ·cases h
 split at h
 ·rename_i h1 h2 h3
  rw [List.all_eq_true] at h3
  refine ⟨by omega, by omega, by omega, by omega, by omega, by omega, fun r hr => ?_, fun r hr x hx => ?_⟩
  ·have := h3 r hr
   simp only [QG, Bool.and_eq_true, decide_eq_true_eq] at this
   exact this.1
  ·have := h3 r hr
   simp only [QG, Bool.and_eq_true, decide_eq_true_eq, List.all_eq_true] at this
   have := this.2 x hx
   simp only [Uj, Bool.or_eq_true, Bool.and_eq_true, beq_iff_eq, decide_eq_true_eq] at this
   rcases this with ⟨a, b⟩ | ⟨⟨⟨a, b⟩, c⟩, d⟩
   ·exact .inl ⟨a, b⟩
   ·exact .inr ⟨a, b, c, d⟩
 ·cases h
theorem z7o (h : VM m) : chk m = 0 := by
 unfold chk
 have := h.in1; have := h.in16; have := h.out1; have := h.out16; have := h.len1; have := h.len64
 rw [if_neg (by omega), if_neg (by omega), if_pos]
 rw [List.all_eq_true]
 intro r hr
 simp only [QG, Bool.and_eq_true, decide_eq_true_eq, List.all_eq_true]
 refine ⟨h.row r hr, fun x hx => ?_⟩
 simp only [Uj, Bool.or_eq_true, Bool.and_eq_true, beq_iff_eq, decide_eq_true_eq]
 rcases h.edge r hr x hx with ⟨a, b⟩ | ⟨a, b, c, d⟩
 ·exact .inl ⟨a, b⟩
 ·exact .inr ⟨⟨⟨a, b⟩, c⟩, d⟩
def kk (m : z7) : Nat := m.Inputs.toNat
def E (m : z7) (s i : Nat) : zy := ((m.Rows[s]?.getD [])[i]?).getD ⟨-1, -1⟩
section
variable {m : z7} (h : VM m)
include h
theorem VM.kk_eq : ((kk m : Nat) : Int) = m.Inputs := by have := h.in1; unfold kk; omega
theorem VM.kk_le : kk m ≤ 16 := by have := h.in16; unfold kk; omega
theorem VM.rowAt (hs : s < m.Rows.length) : ∃ r, m.Rows[s]? = some r ∧ r.length = kk m ∧ ∀ i, i < kk m → r[i]? = some (E m s i) := by
 have hr := List.getElem?_eq_getElem hs
 have hl := h.row _ (List.getElem_mem hs)
 have hl' : m.Rows[s].length = kk m := by unfold kk; omega
 refine ⟨_, hr, hl', fun i hi => ?_⟩
 have hi' : i < m.Rows[s].length := by omega
 unfold E
 rw [hr]
 simp only [Option.getD_some]
 rw [List.getElem?_eq_getElem hi']
 rfl
theorem VM.edgeAt {s i : Nat} (hs : s < m.Rows.length) (hi : i < kk m) : ((E m s i).To = -1 ∧ (E m s i).Out = -1) ∨ (0 ≤ (E m s i).To ∧ (E m s i).To < (m.Rows.length : Int) ∧ 0 ≤ (E m s i).Out ∧ (E m s i).Out < m.Outputs) := by
 obtain ⟨r, h1, _, h2⟩ := h.rowAt hs
 exact h.edge r (List.mem_of_getElem? h1) _ (List.mem_of_getElem? (h2 i hi))
theorem VM.edge_eq {s i : Nat} (hs : s < m.Rows.length) (hi : i < kk m) {β : Type} {f : zy → Option β} :
  (Option.bind (idx m.Rows (s : Int)) fun r => Option.bind (idx r (i : Int)) f) = f (E m s i) := by
 obtain ⟨r, h1, _, h2⟩ := h.rowAt hs
 rw [yQ, h1, oB, yQ, h2 i hi, oB]
end
structure WM (m : z7) : Prop where
 in1 : 1 ≤ m.Inputs
 in16 : m.Inputs ≤ 16
 len1 : 1 ≤ m.Rows.length
 len : m.Rows.length ≤ 128
 row : ∀ r ∈ m.Rows, (r.length : Int) = m.Inputs
 edge : ∀ r ∈ m.Rows, ∀ x ∈ r, (x.To = -1 ∧ x.Out = -1) ∨ (0 ≤ x.To ∧ x.To < (m.Rows.length : Int) ∧ 0 ≤ x.Out)
def nxE (m : z7) (s : Int) (i : Nat) : zy := if s < 0 then ⟨-1, -1⟩ else E m s.toNat i
def rsp (m : z7) : Int → List Nat → List Int
 | _, [] => []
 | s, i :: w => (nxE m s i).Out :: rsp m (nxE m s i).To w
def aft (m : z7) : Int → List Nat → Int
 | s, [] => s
 | s, i :: w => aft m (nxE m s i).To w
theorem U0 (m : z7) : ∀ (w : List Nat) (s : Int) (i : Nat), rsp m s (w ++ [i]) = rsp m s w ++ [(nxE m (aft m s w) i).Out] ∧ aft m s (w ++ [i]) = (nxE m (aft m s w) i).To
 | [], s, i => ⟨rfl, rfl⟩
 | j :: w, s, i => by
  have := U0 m w (nxE m s j).To i
  simp only [List.cons_append, rsp, aft, this.1, this.2, and_self]
def z9C (m : z7) (s : Int) : Prop := -1 ≤ s ∧ s < (m.Rows.length : Int)
variable {i : Nat}
theorem zcY (h : VM m) {s : Int} (hs : z9C m s)  (hi : i < kk m) : z9C m (nxE m s i).To := by
 unfold nxE
 have := h.len1
 by_cases h0 : s < 0
 ·rw [if_pos h0]
  unfold z9C
  simp only
  omega
 ·rw [if_neg h0]
  have hl : s.toNat < m.Rows.length := by have := hs.2; omega
  have := h.edgeAt hl hi
  unfold z9C
  omega
theorem K3 (m : z7) (s i : Nat) : nxE m (s : Int) i = E m s i := by
 unfold nxE
 rw [if_neg (by omega), Int.toNat_natCast]
def JJ (k : Nat) : List Nat → Nat
 | [] => 0
 | d :: r => d + k * JJ k r
theorem z2Z {k : Nat} : ∀ {r : List Nat}, (∀ d ∈ r, d < k) → JJ k r < k ^ r.length
 | [], _ => by simp [JJ]
 | d :: r, h => by
  have ih := z2Z (k := k) (r := r) fun x hx => h x (by simp [hx])
  have hd := h d (by simp)
  simp only [JJ, List.length_cons, Nat.pow_succ]
  have : k * (JJ k r + 1) ≤ k * k ^ r.length := Nat.mul_le_mul_left k ih
  rw [Nat.mul_add, Nat.mul_one] at this
  rw [Nat.mul_comm (k ^ r.length) k]
  omega
theorem z1l : ∀ {r s : List Nat}, r.length = s.length → (∀ d ∈ r, d < k) → (∀ d ∈ s, d < k) → JJ k r = JJ k s → r = s
 | [], [], _, _, _, _ => rfl
 | [], _ :: _, h, _, _, _ => by simp at h
 | _ :: _, [], h, _, _, _ => by simp at h
 | d :: r, e :: s, h, h1, h2, hv => by
  have hd := h1 d (by simp)
  have he := h2 e (by simp)
  simp only [JJ] at hv
  have a1 : (d + k * JJ k r) % k = d := by rw [Nat.add_mul_mod_self_left, Nat.mod_eq_of_lt hd]
  have a2 : (e + k * JJ k s) % k = e := by rw [Nat.add_mul_mod_self_left, Nat.mod_eq_of_lt he]
  have hde : d = e := by rw [← a1, ← a2, hv]
  subst hde
  have hk : 0 < k := by omega
  have : k * JJ k r = k * JJ k s := by omega
  have := Nat.eq_of_mul_eq_mul_left hk this
  rw [z1l (by simpa using h) (fun x hx => h1 x (by simp [hx])) (fun x hx => h2 x (by simp [hx])) this]
def GG (k : Nat) : Nat → Nat
 | 0 => 0
 | n + 1 => GG k n + k ^ n
theorem z9p {k n m : Nat} (h : n ≤ m) : GG k n ≤ GG k m := by
 induction h with
 | refl => exact Nat.le_refl _
 | step _ ih => exact Nat.le_trans ih (Nat.le_add_right _ _)
def rk (k : Nat) (w : List Nat) : Nat := GG k w.length + JJ k w.reverse
def Wd (k : Nat) (w : List Nat) : Prop := ∀ i ∈ w, i < k
variable {w : List Nat}
theorem Wd.rev (h : Wd k w) : ∀ d ∈ w.reverse, d < k := fun d hd => h d (by simpa using hd)
theorem zcW (h : Wd k w) : rk k w < GG k (w.length + 1) := by
 have := z2Z h.rev
 rw [List.length_reverse] at this
 show GG k w.length + JJ k w.reverse < GG k w.length + k ^ w.length
 omega
theorem z78 {k : Nat} {w u : List Nat} (hw : Wd k w) (h : w.length < u.length) : rk k w < rk k u := by
 have h1 := zcW hw
 have h2 := z9p (k := k) (show w.length + 1 ≤ u.length from h)
 unfold rk at *
 omega
theorem zal {w u : List Nat} (hw : Wd k w) (hu : Wd k u) (h : rk k w = rk k u) : w = u := by
 have hl : w.length = u.length := by
  rcases Nat.lt_trichotomy w.length u.length with q | q | q
  ·have := z78 hw q; omega
  ·exact q
  ·have := z78 hu q; omega
 have hv : JJ k w.reverse = JJ k u.reverse := by unfold rk at h; rw [hl] at h; omega
 have := z1l (by simpa using hl) hw.rev hu.rev hv
 simpa using congrArg List.reverse this
section
variable {m : z7}
theorem z7u (h : VM m) : ∀ (w : List Nat) (s : Int), z9C m s → Wd (kk m) w → z9C m (aft m s w)
 | [], s, hs, _ => hs
 | i :: w, s, hs, hw => z7u h w _ (zcY h hs (hw i (by simp))) fun j hj => hw j (by simp [hj])
end
theorem z4Y (m : z7) : ∀ (w : List Nat) (s : Int), s < 0 → aft m s w < 0
 | [], s, h => h
 | i :: w, s, h => by
  simp only [aft, nxE, if_pos h]
  exact z4Y m w (-1) (by omega)
structure Acc (m : z7) (t : Nat) (v : List Nat) : Prop where
 wd : Wd (kk m) v
 len : v.length < m.Rows.length
 aft : aft m 0 v = (t : Int)
 least : ∀ u, Wd (kk m) u → Go.Own.aft m 0 u = (t : Int) → rk (kk m) v ≤ rk (kk m) u
section
variable {m : z7} (h : VM m) (hG : GG (kk m) m.Rows.length ≤ 1000000000)
include h hG
def z57 (m : z7) (r : List (List Int) × List Bool) : Prop :=
 r.1.length = m.Rows.length ∧ r.2.length = m.Rows.length ∧ ∀ t, t < m.Rows.length →
  (r.2[t]? = some true ∧ ∃ v : List Nat, r.1[t]? = some (v.map Int.ofNat) ∧ Acc m t v) ∨ (r.2[t]? = some false ∧ ∀ u, Wd (kk m) u → aft m 0 u ≠ (t : Int))
end
theorem z6N {v w : List Nat} (hv : Acc m s v) (hw : Acc m s w) : v = w :=
 zal hv.wd hw.wd (Nat.le_antisymm (hv.least w hw.wd hw.aft) (hw.least v hv.wd hv.aft))
def Rch (m : z7) (t : Nat) : Prop := ∃ u, Wd (kk m) u ∧ aft m 0 u = (t : Int)
theorem z6U {out : List Bool} {j t : Nat} (hj : j < out.length) : (out.set j true)[t]? = some true ↔ t = j ∨ out[t]? = some true := by
 by_cases e : t = j
 ·subst e; simp [hj]
 ·rw [List.getElem?_set_ne (Ne.symm e)]
  exact ⟨.inr, fun q => q.resolve_left e⟩
section
variable {m : z7} (h : VM m)
include h
omit h in theorem rch_step {s i : Nat} (hs : Rch m s) (hi : i < kk m) (h0 : 0 ≤ (E m s i).To) : Rch m (E m s i).To.toNat := by
 obtain ⟨u, hu, e⟩ := hs
 refine ⟨u ++ [i], fun j hj => ?_, ?_⟩
 ·rcases List.mem_append.1 hj with q | q
  ·exact hu j q
  ·have : j = i := by simpa using q
   omega
 ·have := (U0 m u 0 i).2
  rw [e, K3] at this
  rw [this]
  omega
end
def up : List Int → List Int → Int
 | [], [] => 0
 | [], _ :: _ => -1
 | _ :: _, [] => 1
 | x :: a, y :: b => if x < y then -1 else if y < x then 1 else up a b
def kh (a b : List Int) : Int := if a.length < b.length then -1 else if b.length < a.length then 1 else up a b
theorem z42 : ∀ {a b : List Int}, up a b = 0 → a = b
 | [], [], _ => rfl
 | [], _ :: _, h => by simp [up] at h
 | _ :: _, [], h => by simp [up] at h
 | x :: a, y :: b, h => by
  simp only [up] at h
  split at h
  ·simp at h
  ·split at h
   ·simp at h
   ·rw [show x = y by omega, z42 h]
theorem z0e : ∀ a : List Int, up a a = 0
 | [] => rfl
 | x :: a => by simp [up, z0e a]
theorem z1T : ∀ a b : List Int, up b a = - up a b
 | [], [] => rfl
 | [], _ :: _ => rfl
 | _ :: _, [] => rfl
 | x :: a, y :: b => by
  simp only [up]
  split
  ·rw [if_neg (by omega)]
  ·split
   ·rfl
   ·exact z1T a b
theorem Je : ∀ {a b c : List Int}, up a b < 0 → up b c < 0 → up a c < 0
 | [], [], _, h, _ => by simp [up] at h
 | [], _ :: _, [], _, h => by simp [up] at h
 | [], _ :: _, _ :: _, _, _ => by simp [up]
 | _ :: _, [], _, h, _ => by simp [up] at h
 | _ :: _, _ :: _, [], _, h => by simp [up] at h
 | x :: a, y :: b, z :: c, h1, h2 => by
  simp only [up] at h1 h2 ⊢
  by_cases e1 : x < y
  ·by_cases e2 : y < z
   ·rw [if_pos (by omega)]; omega
   ·rw [if_neg e2] at h2
    by_cases e3 : z < y
    ·rw [if_pos e3] at h2; omega
    ·rw [if_pos (by omega)]; omega
  ·rw [if_neg e1] at h1
   by_cases e3 : y < x
   ·rw [if_pos e3] at h1; omega
   ·rw [if_neg e3] at h1
    have : x = y := by omega
    subst this
    by_cases e2 : x < z
    ·rw [if_pos e2]; omega
    ·rw [if_neg e2] at h2 ⊢
     by_cases e4 : z < x
     ·rw [if_pos e4] at h2; omega
     ·rw [if_neg e4] at h2 ⊢
      exact Je h1 h2
variable {a b : List Int}
theorem z1f (h : kh a b = 0) : a = b := by
 unfold kh at h
 split at h
 ·simp at h
 ·split at h
  ·simp at h
  ·exact z42 h
theorem Qm (a : List Int) : kh a a = 0 := by simp [kh, z0e]
theorem z2j : kh a b = 0 ↔ a = b := ⟨z1f, fun h => h ▸ Qm a⟩
theorem z2i (a b : List Int) : kh b a = - kh a b := by
 unfold kh
 by_cases h1 : a.length < b.length
 ·rw [if_pos h1, if_neg (by omega), if_pos h1]; rfl
 ·by_cases h2 : b.length < a.length
  ·rw [if_pos h2, if_neg h1, if_pos h2]
  ·rw [if_neg h1, if_neg h2, if_neg h2, if_neg h1, z1T]
theorem ZP {a b c : List Int} (h1 : kh a b < 0) (h2 : kh b c < 0) : kh a c < 0 := by
 unfold kh at *
 by_cases e1 : a.length < b.length
 ·by_cases e2 : b.length < c.length
  ·rw [if_pos (by omega)]; omega
  ·rw [if_neg e2] at h2
   by_cases e3 : c.length < b.length
   ·rw [if_pos e3] at h2; omega
   ·rw [if_pos (by omega)]; omega
 ·rw [if_neg e1] at h1
  by_cases e3 : b.length < a.length
  ·rw [if_pos e3] at h1; omega
  ·rw [if_neg e3] at h1
   have e : a.length = b.length := by omega
   rw [e]
   by_cases e2 : b.length < c.length
   ·rw [if_pos e2]; omega
   ·rw [if_neg e2] at h2 ⊢
    by_cases e4 : c.length < b.length
    ·rw [if_pos e4] at h2; omega
    ·rw [if_neg e4] at h2 ⊢
     exact Je h1 h2
theorem Un (a : List Int) : ¬ kh a a < 0 := by rw [Qm]; omega
theorem z4A (h : kh a b < 0) : ¬ kh b a < 0 := by rw [z2i a b]; omega
theorem z1e : ¬ kh a b < 0 ↔ kh b a < 0 ∨ a = b := by
 rw [← z2j, z2i a b]; omega
def SW (l : List (List Int)) : Prop := l.Pairwise fun a b => kh a b < 0
theorem SW.nil : SW [] := List.Pairwise.nil
variable {l : List (List Int)}{x : List Int}
theorem SW.tail (h : SW (x :: l)) : SW l := (List.pairwise_cons.1 h).2
theorem SW.head (h : SW (x :: l)) : ∀ y ∈ l, kh x y < 0 := (List.pairwise_cons.1 h).1
theorem SW.unique : ∀ {l m : List (List Int)}, SW l → SW m → (∀ x, x ∈ l ↔ x ∈ m) → l = m
 | [], [], _, _, _ => rfl
 | [], y :: m, _, _, h => by have := (h y).2 (by simp); simp at this
 | x :: l, [], _, _, h => by have := (h x).1 (by simp); simp at this
 | x :: l, y :: m, h1, h2, h => by
  have hxy : x = y := by
   rcases List.mem_cons.1 ((h x).1 (by simp)) with e | e
   ·exact e
   ·rcases List.mem_cons.1 ((h y).2 (by simp)) with e' | e'
    ·exact e'.symm
    ·exact absurd (h2.head x e) (z4A (h1.head y e'))
  subst hxy
  rw [SW.unique h1.tail h2.tail fun z => ?_]
  constructor
  ·intro hz
   rcases List.mem_cons.1 ((h z).1 (by simp [hz])) with e | e
   ·subst e; exact absurd (h1.head _ hz) (Un _)
   ·exact e
  ·intro hz
   rcases List.mem_cons.1 ((h z).2 (by simp [hz])) with e | e
   ·subst e; exact absurd (h2.head _ hz) (Un _)
   ·exact e
theorem SW.nodup (h : SW l) : l.Nodup := List.Pairwise.imp (fun {a b} q e => by subst e; exact Un _ q) h
def z0D (w : List Int) : List (List Int) → List (List Int)
 | [] => [w]
 | x :: l => if kh x w < 0 then x :: z0D w l else if kh x w = 0 then x :: l else w :: x :: l
theorem K7 {w x : List Int} : ∀ {l : List (List Int)}, x ∈ z0D w l ↔ x = w ∨ x ∈ l
 | [] => by simp [z0D]
 | y :: l => by
  simp only [z0D]
  split
  ·simp only [List.mem_cons, K7]
   constructor
   ·rintro (h | h | h) <;> simp [h]
   ·rintro (h | h | h) <;> simp [h]
  ·split
   ·rename_i h1 h2
    have := z1f h2
    subst this
    simp
   ·simp
theorem SW.put {w : List Int} : ∀ {l : List (List Int)}, SW l → SW (z0D w l)
 | [], _ => by simp [z0D, SW]
 | y :: l, h => by
  simp only [z0D]
  split
  ·rename_i h1
   refine List.pairwise_cons.2 ⟨fun z hz => ?_, SW.put h.tail⟩
   rcases K7.1 hz with rfl | hz
   ·exact h1
   ·exact h.head z hz
  ·split
   ·exact h
   ·rename_i h1 h2
    have hw : kh w y < 0 := by
     rcases z1e.1 h1 with q | q
     ·exact q
     ·exact absurd (z2j.2 q) h2
    refine List.pairwise_cons.2 ⟨fun z hz => ?_, h⟩
    rcases List.mem_cons.1 hz with rfl | hz
    ·exact hw
    ·exact ZP hw (h.head z hz)
theorem z1F (w : List Int) : ∀ l, (z0D w l).length ≤ l.length + 1
 | [] => by simp [z0D]
 | y :: l => by
  simp only [z0D]
  split
  ·have := z1F w l; simp; omega
  ·split <;> simp
def srt (l : List (List Int)) : List (List Int) := l.foldl (fun m w => z0D w m) []
theorem z0L : ∀ (l m : List (List Int)), SW m → SW (l.foldl (fun m w => z0D w m) m) ∧ ∀ x, x ∈ l.foldl (fun m w => z0D w m) m ↔ x ∈ m ∨ x ∈ l
 | [], m, h => ⟨h, by simp⟩
 | w :: l, m, h => by
  obtain ⟨h1, h2⟩ := z0L l (z0D w m) h.put
  refine ⟨h1, fun x => ?_⟩
  rw [List.foldl_cons, h2, K7]
  simp only [List.mem_cons]
  constructor
  ·rintro ((h | h) | h) <;> simp [h]
  ·rintro (h | h | h) <;> simp [h]
theorem z3b (l : List (List Int)) : SW (srt l) := (z0L l [] .nil).1
theorem K6 : x ∈ srt l ↔ x ∈ l := by rw [srt, (z0L l [] .nil).2]; simp
theorem z3d {l m : List (List Int)} (h : SW m) (hm : ∀ x, x ∈ m ↔ x ∈ l) : m = srt l := h.unique (z3b l) fun x => by rw [hm, K6]
theorem KK (h : SW l) : srt l = l := (z3d h fun _ => .rfl).symm
theorem z3e {l m : List (List Int)} (h : ∀ x, x ∈ l ↔ x ∈ m) : srt l = srt m := z3d (z3b l) fun x => by rw [K6, h]
theorem z3c (l : List (List Int)) : (srt l).length ≤ l.length := by
 have : ∀ (l m : List (List Int)), (l.foldl (fun m w => z0D w m) m).length ≤ m.length + l.length := by
  intro l
  induction l with
  | nil => intro m; simp
  | cons w l ih => intro m; have := ih (z0D w m); have := z1F w m; simp only [List.foldl_cons, List.length_cons]; omega
 have q := this l []
 simp only [List.length_nil, Nat.zero_add] at q
 exact q
variable {α : Type}
theorem xa {l : List α}  {x : α} (h : l[i]? = some x) : idx l (i : Int) = some x := h
theorem z4h (b : List Int) (g : Nat → Int → Option Int) (hg : ∀ i x y, b[i]? = some y → g i x = if x < y then some (-1) else if y < x then some 1 else none) :
  ∀ (a : List Int) (k : Nat), k + a.length = b.length → (xo g a k).getD 0 = up a (b.drop k)
 | [], k, h => by
  have : b.drop k = [] := List.drop_eq_nil_of_le (by simp at h; omega)
  rw [this]; rfl
 | x :: a, k, h => by
  simp only [List.length_cons] at h
  have hk : k < b.length := by omega
  rw [List.drop_eq_getElem_cons hk]
  simp only [xo, up, hg k x b[k] (List.getElem?_eq_getElem hk)]
  by_cases h1 : x < b[k]
  ·simp [h1]
  ·by_cases h2 : b[k] < x
   ·simp [h1, h2]
   ·simp only [h1, h2, if_false]
    exact z4h b g hg a (k + 1) (by omega)
theorem z4y (a b : List Int) (h : a.length = b.length → a.length < 4611686018427387904) : uE a b = some (kh a b) := by
 unfold uE
 by_cases hl : a.length = b.length
 ·have h' := h hl
  simp only [hl, bne_self_eq_false, cond_false]
  rw [bdT (uw a h' (fun i x => match b[i]? with | some y => if x < y then some (-1 : Int) else if y < x then some 1 else none | none => none) ?_ ?_)]
  ·have q := z4h b (fun i x => match b[i]? with | some y => if x < y then some (-1 : Int) else if y < x then some 1 else none | none => none) (fun i x y hy => by simp only [hy]) a 0 (by omega)
   rw [List.drop_zero] at q
   have hc : kh a b = up a b := by unfold kh; rw [if_neg (by omega), if_neg (by omega)]
   rw [hc, ← q]
   cases xo (fun i x => match b[i]? with | some y => if x < y then some (-1 : Int) else if y < x then some 1 else none | none => none) a 0 <;> rfl
  ·intro i x hx
   have hi : i < a.length := (List.getElem?_eq_some_iff.1 hx).1
   have hy : b[i]? = some b[i] := List.getElem?_eq_getElem (by omega)
   unfold u7
   have hc : decide ((i : Int) < (a.length : Int)) = true := by simpa using hi
   simp only [hc, cond_true, xa hx, xa hy, hy, oB]
   by_cases h1 : x < b[i]
   ·simp [h1, nS]
   ·by_cases h2 : b[i] < x
    ·simp [h1, h2, nS]
    ·simp [h1, h2, nS]
  ·unfold u7
   simp
 ·have h1 : (((a.length : Nat) : Int) != ((b.length : Nat) : Int)) = true := by simp; omega
  simp only [h1, cond_true]
  unfold kh
  by_cases h2 : a.length < b.length
  ·simp [h2]
  ·have h3 : b.length < a.length := by omega
   simp [h2, h3]
def cI (x y : Int) : Int := if x < y then -1 else if y < x then 1 else 0
theorem z4z (x y : Int) : vH x y = some (cI x y) := by
 unfold vH qA cI
 simp only [bne_self_eq_false, oB, cond_false]
 by_cases h1 : x < y
 ·simp [h1]
 ·by_cases h2 : y < x
  ·simp [h1, h2]
  ·simp [h1, h2]
theorem z8v (a b : List Int) (h : a.length < 4611686018427387904) : ∃ c, xR a b = some c ∧ (a.length = b.length → c = up a b) := by
 unfold xR
 have hloop := uw a h (step := fun s => yq a b s) (fun i x => match b[i]? with | some y => if x < y then some (-1 : Int) else if y < x then some 1 else none | none => some 1) (by
  intro i x hx
  have hi : i < a.length := (List.getElem?_eq_some_iff.1 hx).1
  unfold yq
  have hc : decide ((i : Int) < (a.length : Int)) = true := by simpa using hi
  simp only [hc, cond_true, xa hx, oB]
  by_cases hb : i < b.length
  ·have hy : b[i]? = some b[i] := List.getElem?_eq_getElem hb
   have hd : decide ((i : Int) ≥ (b.length : Int)) = false := by simp; omega
   simp only [hd, cond_false, xa hy, hy, oB, z4z]
   unfold cI
   by_cases h1 : x < b[i]
   ·simp [h1, nS]
   ·by_cases h2 : b[i] < x
    ·simp [h1, h2, nS]
    ·simp [h1, h2, nS]
  ·have hy : b[i]? = none := List.getElem?_eq_none (by omega)
   have hd : decide ((i : Int) ≥ (b.length : Int)) = true := by simp; omega
   simp only [hd, cond_true, hy, nS]) (by unfold yq; simp)
 rw [bdT hloop]
 have q := fun hl => z4h b (fun i x => match b[i]? with | some y => if x < y then some (-1 : Int) else if y < x then some 1 else none | none => some 1) (fun i x y hy => by simp only [hy]) a 0 hl
 cases hf : xo (fun i x => match b[i]? with | some y => if x < y then some (-1 : Int) else if y < x then some 1 else none | none => some 1) a 0 with
 | some r =>
  refine ⟨r, rfl, fun hl => ?_⟩
  have := q (by omega)
  rw [hf] at this
  simpa using this
 | none =>
  unfold w5
  by_cases hl : a.length < b.length
  ·refine ⟨-1, by simp [oS, hl], fun hl2 => by omega⟩
  ·refine ⟨0, by simp [oS, hl], fun hl2 => ?_⟩
   have := q (by omega)
   rw [hf] at this
   simpa using this
theorem zfD (x y : Int) : ZO [x, y] = some (if x = 0 then y else x) := by
 unfold ZO
 rw [bdT (uw [x, y] (by simp) (step := fun s => uH [x, y] s) (fun i v => if v ≠ 0 then some v else none) ?_ ?_)]
 ·by_cases h1 : x = 0
  ·by_cases h2 : y = 0
   ·simp [xo, h1, h2, oS, k9]
   ·simp [xo, h1, h2, oS]
  ·simp [xo, h1, oS]
 ·intro i v hv
  have hi : i < [x, y].length := (List.getElem?_eq_some_iff.1 hv).1
  unfold uH
  have hc : decide ((i : Int) < (([x, y] : List Int).length : Int)) = true := by simp only [decide_eq_true_eq]; omega
  simp only [hc, cond_true, xa hv, oB]
  by_cases h : v = 0
  ·simp [h, nS]
  ·have hb : (v != 0) = true := by simpa using h
   simp [h, hb, nS]
 ·unfold uH; simp
theorem Vv (a b : List Int) (h : a.length < 4611686018427387904) : yX a b = some (kh a b) := by
 unfold yX
 obtain ⟨c, hc, hl⟩ := z8v a b h
 rw [z4z, hc]
 simp only [oB, zfD]
 unfold cI kh
 by_cases h1 : a.length < b.length
 ·simp [h1]
 ·by_cases h2 : b.length < a.length
  ·simp [h1, h2]
  ·simp [h1, h2, hl (by omega)]
def wE (n : Int) (w : List Int) : Int := if 256 < w.length then 3 else if w.any (fun c => decide (c < 0) || decide (n ≤ c)) then 1 else 0
variable {n : Int}
theorem z2W {w : List Int} : wE n w = 0 ↔ w.length ≤ 256 ∧ ∀ c ∈ w, 0 ≤ c ∧ c < n := by
 unfold wE
 by_cases h : 256 < w.length
 ·rw [if_pos h]
  exact ⟨fun q => by simp at q, fun q => by omega⟩
 ·rw [if_neg h]
  by_cases h2 : w.any (fun c => decide (c < 0) || decide (n ≤ c)) = true
  ·rw [if_pos h2]
   simp only [List.any_eq_true, Bool.or_eq_true, decide_eq_true_eq] at h2
   obtain ⟨c, h3, h4⟩ := h2
   refine ⟨fun q => by simp at q, fun q => ?_⟩
   have := q.2 c h3
   omega
  ·rw [if_neg h2]
   simp only [List.any_eq_true, Bool.or_eq_true, decide_eq_true_eq, not_exists, not_and, not_or] at h2
   refine ⟨fun _ => ⟨by omega, fun c hc => ?_⟩, fun _ => rfl⟩
   have := h2 c hc
   omega
variable {ρ : Type}
theorem z4i (p : Int → Bool) (g : Nat → Int → Option ρ) (hg : ∀ i x, (g i x).isSome = p x) : ∀ (w : List Int) (k : Nat), (xo g w k).isSome = w.any p
 | [], k => rfl
 | x :: w, k => by
  simp only [xo, List.any_cons]
  have := hg k x
  cases hx : g k x with
  | some r => rw [hx] at this; simp at this; simp [← this]
  | none => rw [hx] at this; simp at this; rw [this, Bool.false_or]; exact z4i p g hg w (k + 1)
theorem z7E (n : Int) (w : List Int) : (Option.bind (ke w) fun r => bif r != 0 then some r else qp w n) = some (wE n w) := by
 unfold ke wE
 by_cases h : 256 < w.length
 ·have h' : (256 : Int) < (w.length : Int) := by omega
  simp [h, h']
 ·have hd : decide (((w.length : Nat) : Int) > 256) = false := by simp; omega
  simp only [hd, cond_false, oB, bne_self_eq_false, if_neg h]
  unfold qp
  have hl := uw w (by omega) (step := fun s => wU w n s) (fun i c => if c < 0 ∨ n ≤ c then some (1 : Int) else none) (by
   intro i c hc
   have hi : i < w.length := (List.getElem?_eq_some_iff.1 hc).1
   unfold wU
   have hq : decide ((i : Int) < (w.length : Int)) = true := by simpa using hi
   simp only [hq, cond_true, xa hc, oB]
   by_cases h1 : c < 0
   ·simp [h1, nS]
   ·by_cases h2 : n ≤ c
    ·simp [h1, h2, nS]
    ·simp [h1, h2, nS]) (by unfold wU; simp)
  rw [bdT hl]
  have q := z4i (fun c => decide (c < 0) || decide (n ≤ c)) (fun i c => if c < 0 ∨ n ≤ c then some (1 : Int) else none) (fun i c => by by_cases h : c < 0 ∨ n ≤ c <;> simp [h] <;> simpa using h) w 0
  cases hf : xo (fun i c => if c < 0 ∨ n ≤ c then some (1 : Int) else none) w 0 with
  | none => rw [hf] at q; rw [← q]; rfl
  | some r =>
   rw [hf] at q
   obtain ⟨i, x, h1, h2⟩ := q9 hf
   rw [← q]
   split at h2
   ·cases h2; rfl
   ·cases h2
theorem z2X (n : Int) (w : List Int) : qS w n = some (if 16 < n then 3 else if 256 < w.length then 3 else if n < 1 then 1 else wE n w) := by
 unfold qS
 by_cases h0 : 16 < n
 ·simp [h0]
 by_cases h : 256 < w.length
 ·have h' : (256 : Int) < (w.length : Int) := by omega
  simp [h0, h, h']
 by_cases h1 : n < 1
 ·have h' : ¬ (256 : Int) < (w.length : Int) := by omega
  simp [h0, h, h', h1]
 ·have hd : decide (((w.length : Nat) : Int) > 256) = false := by simp; omega
  have hd0 : decide (n > 16) = false := by simp; omega
  have hd1 : decide (n < 1) = false := by simp; omega
  simp only [hd, hd0, hd1, cond_false, if_neg h, if_neg h0, if_neg h1]
  unfold xw wj wE
  have hl := uw w (by omega) (step := fun s => yi w n s) (fun i c => if c < 0 ∨ n ≤ c then some (i : Int) else none) (by
   intro i c hc
   have hi : i < w.length := (List.getElem?_eq_some_iff.1 hc).1
   unfold yi jU
   have hq : decide ((i : Int) < (w.length : Int)) = true := by simpa using hi
   simp only [hq, cond_true, xa hc, oB]
   by_cases h1 : c < 0
   ·simp [h1, nS]
   ·by_cases h2 : n ≤ c
    ·simp [h1, h2, nS]
    ·simp [h1, h2, nS]) (by unfold yi; simp)
  rw [bdT hl, if_neg h]
  have q := z4i (fun c => decide (c < 0) || decide (n ≤ c)) (fun i c => if c < 0 ∨ n ≤ c then some (i : Int) else none) (fun i c => by by_cases h : c < 0 ∨ n ≤ c <;> simp [h] <;> simpa using h) w 0
  cases hf : xo (fun i c => if c < 0 ∨ n ≤ c then some (i : Int) else none) w 0 with
  | none => rw [hf] at q; rw [← q]; rfl
  | some r =>
   rw [hf] at q
   obtain ⟨i, x, h1, h2⟩ := q9 hf
   rw [← q]
   split at h2
   ·cases h2
    simp [oS]
   ·cases h2
def eS (e : Int) : Option Int := if e = 0 then none else some e
def loE (n : Int) (l : List (List Int)) : Int := if 16 < n then 3 else if 4096 < l.length then 3 else if n < 1 then 1 else (xo (fun _ w => eS (wE n w)) l 0).getD 0
theorem z27 : ∀ {l : List (List Int)} {k : Nat}, (xo (fun _ w => eS (wE n w)) l k).getD 0 = 0 ↔ ∀ w ∈ l, wE n w = 0
 | [], _ => by simp [xo]
 | w :: l, k => by
  by_cases h : wE n w = 0
  ·have : eS (wE n w) = none := by simp [eS, h]
   simp only [xo, this]
   rw [z27]
   simp [h]
  ·have : eS (wE n w) = some (wE n w) := by simp [eS, h]
   simp [xo, this, h]
theorem Ka : loE n l = 0 ↔ (1 ≤ n ∧ n ≤ 16) ∧ l.length ≤ 4096 ∧ ∀ w ∈ l, w.length ≤ 256 ∧ ∀ c ∈ w, 0 ≤ c ∧ c < n := by
 unfold loE
 by_cases h0 : 16 < n
 ·rw [if_pos h0]; exact ⟨fun q => by simp at q, fun q => by omega⟩
 by_cases h1 : 4096 < l.length
 ·rw [if_neg h0, if_pos h1]; exact ⟨fun q => by simp at q, fun q => by omega⟩
 by_cases h2 : n < 1
 ·rw [if_neg h0, if_neg h1, if_pos h2]; exact ⟨fun q => by simp at q, fun q => by omega⟩
 rw [if_neg h0, if_neg h1, if_neg h2, z27]
 constructor
 ·intro q; exact ⟨by omega, by omega, fun w hw => z2W.1 (q w hw)⟩
 ·intro q w hw; exact z2W.2 (q.2.2 w hw)
theorem z6P (l : List (List Int)) (n : Int) : kw l n = some (loE n l) := by
 unfold kw loE
 by_cases h0 : 16 < n
 ·simp [h0]
 by_cases h1 : 4096 < l.length
 ·have h' : (4096 : Int) < (l.length : Int) := by omega
  simp [h0, h1, h']
 by_cases h2 : n < 1
 ·have h' : ¬ (4096 : Int) < (l.length : Int) := by omega
  simp [h0, h1, h2, h']
 have d0 : decide (n > 16) = false := by simp; omega
 have d1 : decide (((l.length : Nat) : Int) > 4096) = false := by simp; omega
 have d2 : decide (n < 1) = false := by simp; omega
 simp only [d0, d1, d2, cond_false, if_neg h0, if_neg h1, if_neg h2]
 rw [bdT (uw l (by omega) (step := fun s => ue l n s) (fun _ w => eS (wE n w)) ?_ ?_)]
 ·cases xo (fun _ w => eS (wE n w)) l 0 <;> rfl
 ·intro i w hw
  have hi : i < l.length := (List.getElem?_eq_some_iff.1 hw).1
  have hq : decide ((i : Int) < (l.length : Int)) = true := by simpa using hi
  have he := z7E n w
  unfold ue
  simp only [hq, cond_true, xa hw, oB]
  unfold ke at he ⊢
  by_cases h : 256 < w.length
  ·have h' : (256 : Int) < (w.length : Int) := by omega
   have : wE n w = 3 := by unfold wE; rw [if_pos h]
   simp [h', this, eS, nS]
  ·have hd : decide (((w.length : Nat) : Int) > 256) = false := by simp; omega
   simp only [hd, cond_false, oB, bne_self_eq_false] at he ⊢
   rw [he]
   simp only [oB]
   by_cases hz : wE n w = 0
   ·simp [hz, eS, nS]
   ·have hb : (wE n w != 0) = true := by simpa using hz
    simp [hz, hb, eS, nS]
 ·unfold ue; simp
theorem z1Q (l : List (List Int)) (n : Int) : qW l n = some (loE n l) := by
 unfold qW loE
 by_cases h0 : 16 < n
 ·simp [h0]
 by_cases h1 : 4096 < l.length
 ·have h' : (4096 : Int) < (l.length : Int) := by omega
  simp [h0, h1, h']
 by_cases h2 : n < 1
 ·have h' : ¬ (4096 : Int) < (l.length : Int) := by omega
  simp [h0, h1, h2, h']
 have d0 : decide (n > 16) = false := by simp; omega
 have d1 : decide (((l.length : Nat) : Int) > 4096) = false := by simp; omega
 have d2 : decide (n < 1) = false := by simp; omega
 simp only [d0, d1, d2, cond_false, if_neg h0, if_neg h1, if_neg h2]
 rw [bdT (uw l (by omega) (step := fun s => ub l n s) (fun _ w => eS (wE n w)) ?_ ?_)]
 ·cases xo (fun _ w => eS (wE n w)) l 0 <;> rfl
 ·intro i w hw
  have hi : i < l.length := (List.getElem?_eq_some_iff.1 hw).1
  have hq : decide ((i : Int) < (l.length : Int)) = true := by simpa using hi
  have he : qS w n = some (wE n w) := by
   rw [z2X, if_neg h0, if_neg h2]
   by_cases h : 256 < w.length
   ·rw [if_pos h]; unfold wE; rw [if_pos h]
   ·rw [if_neg h]
  unfold ub
  simp only [hq, cond_true, xa hw, oB, he]
  by_cases hz : wE n w = 0
  ·simp [hz, eS, nS]
  ·have hb : (wE n w != 0) = true := by simpa using hz
   simp [hz, hb, eS, nS]
 ·unfold ub; simp
theorem z1R (l : List (List Int)) (hl : l.length < 4611686018427387904) {step : Int × Int → Option (LR (Int × Int) Int)}
  (h : ∀ (n : Int) (i : Nat) (x : List Int), l[i]? = some x → step (n, (i : Int)) = some (.next (w64 (n + ((x.length : Nat) : Int)), w64 ((i : Int) + 1)))) (h2 : ∀ n, step (n, (l.length : Int)) = some (.done n)) :
  loop step (0, 0) = some (l.foldl (fun n x => w64 (n + ((x.length : Nat) : Int))) 0) := by
 have gen : ∀ (m k : Nat) (n : Int), k ≤ l.length → l.length - k < m → XO step m (n, (k : Int)) = some ((l.drop k).foldl (fun n x => w64 (n + ((x.length : Nat) : Int))) n) := by
  intro m
  induction m with
  | zero => intro k n _ h; omega
  | succ m ih =>
   intro k n hk hn
   rw [ZK]
   rcases Nat.lt_or_ge k l.length with hlt | hge
   ·have hx : l[k]? = some l[k] := List.getElem?_eq_getElem hlt
    rw [h n k _ hx, List.drop_eq_getElem_cons hlt]
    simp only [List.foldl_cons]
    rw [qQ (x := (k : Int) + 1) (by omega) (by omega)]
    exact ih (k + 1) _ hlt (by omega)
   ·have : k = l.length := by omega
    subst this
    rw [h2, List.drop_length]
    rfl
 exact gen fuel 0 0 (Nat.zero_le _) (by show l.length - 0 < 18446744073709551616; omega)
def stW (l : List (List Int)) : Int := l.foldl (fun n x => w64 (n + ((x.length : Nat) : Int))) 0
theorem z6O (l : List (List Int)) (hl : l.length < 4611686018427387904) : ku l = some (stW l) := by
 unfold ku
 rw [bdT (z1R l hl (step := fun s => ud l s.1 s.2) ?_ ?_)]
 ·rfl
 ·intro n i x hx
  have hi : i < l.length := (List.getElem?_eq_some_iff.1 hx).1
  have hq : decide ((i : Int) < (l.length : Int)) = true := by simpa using hi
  unfold ud
  simp only [hq, cond_true, xa hx, oB]
 ·intro n; unfold ud; simp
theorem z1q (l : List (List Int)) (hl : l.length < 4611686018427387904) : qV l = some (stW l) := by
 unfold qV
 rw [bdT (z1R l hl (step := fun s => u9 l s.1 s.2) ?_ ?_)]
 ·rfl
 ·intro n i x hx
  have hi : i < l.length := (List.getElem?_eq_some_iff.1 hx).1
  have hq : decide ((i : Int) < (l.length : Int)) = true := by simpa using hi
  unfold u9
  simp only [hq, cond_true, xa hx, oB]
 ·intro n; unfold u9; simp
def jE (l : List (List Int)) : Nat := (l.map List.length).sum
theorem z38 (h : jE l < 4611686018427387904) : stW l = (jE l : Int) := by
 have gen : ∀ (l : List (List Int)) (n : Nat), n + jE l < 4611686018427387904 → l.foldl (fun n x => w64 (n + ((x.length : Nat) : Int))) (n : Int) = ((n + jE l : Nat) : Int) := by
  intro l
  induction l with
  | nil => intro n _; simp [jE]
  | cons x l ih =>
   intro n hn
   have hs : jE (x :: l) = x.length + jE l := by simp [jE]
   rw [hs] at hn ⊢
   rw [List.foldl_cons, qQ (by omega) (by omega), ← Int.natCast_add, ih (n + x.length) (by omega)]
   congr 1; omega
 have := gen l 0 (by omega)
 simpa [stW] using this
theorem JM {m : Nat} (h : ∀ w ∈ l, w.length ≤ m) : jE l ≤ l.length * m := by
 induction l with
 | nil => simp [jE]
 | cons x l ih =>
  have hs : jE (x :: l) = x.length + jE l := by simp [jE]
  have h1 := h x (by simp)
  have h2 := ih fun w hw => h w (by simp [hw])
  rw [hs, List.length_cons, Nat.add_mul]
  omega
theorem z1p : ∀ {l : List (List Int)}, SW l ↔ ∀ i x y, l[i]? = some x → l[i + 1]? = some y → kh x y < 0
 | [] => by simp [SW]
 | [x] => ⟨fun _ i a b _ h2 => by simp at h2, fun _ => by simp [SW]⟩
 | x :: y :: l => by
  constructor
  ·intro h i a b h1 h2
   cases i with
   | zero =>
    simp at h1 h2
    subst h1; subst h2
    exact h.head y (by simp)
   | succ i => exact z1p.1 h.tail i a b (by simpa using h1) (by simpa using h2)
  ·intro h
   have ht : SW (y :: l) := z1p.2 fun i a b h1 h2 => h (i + 1) a b (by simpa using h1) (by simpa using h2)
   have h0 := h 0 x y rfl rfl
   refine List.pairwise_cons.2 ⟨fun z hz => ?_, ht⟩
   rcases List.mem_cons.1 hz with rfl | hz
   ·exact h0
   ·exact ZP h0 (ht.head z hz)
theorem Jc {α ρ : Type} (l : List α) (hl : l.length < 4611686018427387904) {step : Int → Option (LR Int (Unit ⊕ ρ))} (f : Nat → α → Option ρ)
  (h : ∀ (i : Nat) (x : α), 1 ≤ i → l[i]? = some x → step (i : Int) = some (nS i (f i x))) (h2 : ∀ k : Nat, l.length ≤ k → step (k : Int) = some (.done (.inl ()))) :
  loop step 1 = some (oS (xo f (l.drop 1) 1)) := by
 have gen : ∀ (n : Nat) (k : Nat), 1 ≤ k → l.length - k < n → XO step n (k : Int) = some (oS (xo f (l.drop k) k)) := by
  intro n
  induction n with
  | zero => intro k _ h; omega
  | succ n ih =>
   intro k hk hn
   rw [ZK]
   rcases Nat.lt_or_ge k l.length with hlt | hge
   ·have hx : l[k]? = some l[k] := List.getElem?_eq_getElem hlt
    rw [h k _ hk hx, List.drop_eq_getElem_cons hlt]
    simp only [xo]
    cases hf : f k l[k] with
    | some r => rfl
    | none =>
     simp only [nS]
     rw [qQ (by omega) (by omega)]
     exact ih (k + 1) (by omega) (by omega)
   ·rw [h2 k hge, List.drop_eq_nil_of_le hge]
    rfl
 exact gen fuel 1 (Nat.le_refl _) (by show l.length - 1 < 18446744073709551616; omega)
instance (l : List (List Int)) : Decidable (SW l) := by unfold SW; infer_instance
theorem z26 (l : List (List Int)) (r : ρ) : xo (fun i x => match l[i - 1]? with | some y => if 0 ≤ kh y x then some r else none | none => none) (l.drop 1) 1 = if SW l then none else some r := by
 by_cases hs : SW l
 ·rw [if_pos hs]
  refine Ya fun i x hx => ?_
  rw [List.getElem?_drop] at hx
  have hi : 1 + i < l.length := (List.getElem?_eq_some_iff.1 hx).1
  have hy : l[1 + i - 1]? = some l[i] := by rw [show 1 + i - 1 = i by omega]; exact List.getElem?_eq_getElem (by omega)
  rw [hy]
  have := z1p.1 hs i l[i] x (List.getElem?_eq_getElem (by omega)) (by rw [Nat.add_comm]; exact hx)
  simp only
  rw [if_neg (by omega)]
 ·rw [if_neg hs]
  cases hf : xo (fun i x => match l[i - 1]? with | some y => if 0 ≤ kh y x then some r else none | none => none) (l.drop 1) 1 with
  | some r' =>
   obtain ⟨i, x, h1, h2⟩ := q9 hf
   split at h2
   ·split at h2
    ·exact h2.symm
    ·cases h2
   ·cases h2
  | none =>
   exfalso
   refine hs (z1p.2 fun i x y hx hy => ?_)
   have := k8 hf i y (by rw [List.getElem?_drop, Nat.add_comm]; exact hy)
   rw [show 1 + i - 1 = i by omega, hx] at this
   simp only at this
   split at this
   ·cases this
   ·omega
theorem z6M (l : List (List Int)) (h : l.length ≤ 4096) (hw : ∀ w ∈ l, w.length < 4611686018427387904) : kj l = some (decide (SW l)) := by
 unfold kj
 rw [bdT (Jc l (by omega) (step := fun s => uc l s) (fun i x => match l[i - 1]? with | some y => if 0 ≤ kh y x then some false else none | none => none) ?_ ?_), z26]
 ·by_cases hs : SW l
  ·simp [hs, oS, ji]
  ·simp [hs, oS]
 ·intro i x hi hx
  have hil : i < l.length := (List.getElem?_eq_some_iff.1 hx).1
  have hy : l[i - 1]? = some l[i - 1] := List.getElem?_eq_getElem (by omega)
  have hq : decide ((i : Int) < (l.length : Int)) = true := by simpa using hil
  unfold uc
  rw [qQ (x := (i : Int) - 1) (by omega) (by omega), show ((i : Int) - 1) = ((i - 1 : Nat) : Int) by omega]
  have hE := Vv l[i - 1] x (hw _ (List.getElem_mem (by omega)))
  simp only [hq, cond_true, xa hx, xa hy, oB, hy, hE]
  by_cases hc : 0 ≤ kh l[i - 1] x
  ·simp [hc, nS]
  ·simp [hc, nS]
 ·intro k hk; unfold uc; have : decide ((k : Int) < (l.length : Int)) = false := by simp; omega
  simp only [this, cond_false]
def chE (n : Int) (l : List (List Int)) : Int := if loE n l ≠ 0 then loE n l else if SW l then (if 65536 < jE l then 3 else 0) else 1
theorem z6w : chE n l = 0 ↔ loE n l = 0 ∧ SW l ∧ jE l ≤ 65536 := by
 unfold chE
 by_cases h : loE n l = 0
 ·rw [if_neg (by simp [h])]
  by_cases h2 : SW l
  ·rw [if_pos h2]
   by_cases h3 : 65536 < jE l
   ·rw [if_pos h3]; exact ⟨fun q => by simp at q, fun q => by omega⟩
   ·rw [if_neg h3]; exact ⟨fun _ => ⟨h, h2, by omega⟩, fun _ => rfl⟩
  ·rw [if_neg h2]; exact ⟨fun q => by simp at q, fun q => absurd q.2.1 h2⟩
 ·rw [if_pos h]; exact ⟨fun q => absurd q h, fun q => absurd q.1 h⟩
theorem z0d (h : loE n l = 0) : l.length ≤ 4096 ∧ (∀ w ∈ l, w.length ≤ 256) ∧ jE l ≤ 1048576 := by
 obtain ⟨_, h1, h2⟩ := Ka.1 h
 refine ⟨h1, fun w hw => (h2 w hw).1, ?_⟩
 have := JM (m := 256) fun w hw => (h2 w hw).1
 omega
theorem KI (l : List (List Int)) (n : Int) : kl l n = some (chE n l) := by
 unfold kl chE
 rw [z1Q]
 simp only [oB]
 by_cases h : loE n l = 0
 ·obtain ⟨h1, h2, h3⟩ := z0d h
  rw [z6M l h1 fun w hw => by have := h2 w hw; omega, z1q l (by omega), z38 (by omega)]
  simp only [h, bne_self_eq_false, cond_false, oB, ne_eq, not_true, if_false]
  by_cases hs : SW l
  ·by_cases hq : 65536 < jE l
   ·have : (65536 : Int) < (jE l : Int) := by omega
    simp [hs, hq, this]
   ·have : ¬ (65536 : Int) < (jE l : Int) := by omega
    simp [hs, hq, this]
  ·simp [hs]
 ·have hb : (loE n l != 0) = true := by simpa using h
  simp [h, hb]
theorem z3C (l : List (List Int)) (n : Int) : kx l n = some (chE n l) := by
 unfold kx chE
 rw [z6P]
 simp only [oB]
 by_cases h : loE n l = 0
 ·obtain ⟨h1, h2, h3⟩ := z0d h
  simp only [h, bne_self_eq_false, cond_false, ne_eq, not_true, if_false]
  rw [bdT (Jc l (by omega) (step := fun s => uf l s) (fun i x => match l[i - 1]? with | some y => if 0 ≤ kh y x then some (1 : Int) else none | none => none) ?_ ?_), z26]
  ·by_cases hs : SW l
   ·simp only [hs, if_true, oS]
    unfold jl
    rw [z6O l (by omega), z38 (by omega)]
    simp only [oB]
    by_cases hq : 65536 < jE l
    ·have : (65536 : Int) < (jE l : Int) := by omega
     simp [hq, this]
    ·have : ¬ (65536 : Int) < (jE l : Int) := by omega
     simp [hq, this]
   ·simp [hs, oS]
  ·intro i x hi hx
   have hil : i < l.length := (List.getElem?_eq_some_iff.1 hx).1
   have hy : l[i - 1]? = some l[i - 1] := List.getElem?_eq_getElem (by omega)
   have hq : decide ((i : Int) < (l.length : Int)) = true := by simpa using hil
   unfold uf
   rw [qQ (x := (i : Int) - 1) (by omega) (by omega), show ((i : Int) - 1) = ((i - 1 : Nat) : Int) by omega]
   have hE := z4y l[i - 1] x (fun _ => by have := h2 _ (List.getElem_mem (show i - 1 < l.length by omega)); omega)
   simp only [hq, cond_true, xa hx, xa hy, oB, hy, hE]
   by_cases hc : 0 ≤ kh l[i - 1] x
   ·simp [hc, nS]
   ·simp [hc, nS]
  ·intro k hk; unfold uf; have : decide ((k : Int) < (l.length : Int)) = false := by simp; omega
   simp only [this, cond_false]
 ·have hb : (loE n l != 0) = true := by simpa using h
  simp [h, hb]
theorem XU (w : List Int) : y3 w = some w := by
 unfold y3
 rw [gdT (by omega)]
 simp
theorem Yd (w : List Int) (h : w.length ≤ 4294967296) : zT w = some w := by
 unfold zT
 rw [gdT (by simpa using h)]
theorem z1A (a b : List Int) (h : a.length < 4611686018427387904) : ua a b = some (decide (a = b)) := by
 unfold ua
 rw [Vv a b h]
 simp only [oB]
 by_cases e : a = b
 ·subst e; simp [Qm]
 ·have : kh a b ≠ 0 := fun q => e (z1f q)
  simp [e, this]
def QW (l : List (List Int)) : Prop := l.Pairwise fun a b => ¬ kh b a < 0
theorem kZ {l : List α} {n : Nat} {x : α} : x ∈ l.take n ↔ ∃ i, i < n ∧ l[i]? = some x := by
 rw [List.mem_iff_getElem?]
 constructor
 ·rintro ⟨i, h⟩
  rw [List.getElem?_take] at h
  split at h
  ·exact ⟨i, by omega, h⟩
  ·cases h
 ·rintro ⟨i, h1, h2⟩
  exact ⟨i, by rw [List.getElem?_take, if_pos h1]; exact h2⟩
theorem z35 (h : SW l) (hx : ∀ y ∈ l, kh y x < 0) : SW (l ++ [x]) := by
 unfold SW
 rw [List.pairwise_append]
 exact ⟨h, by simp, fun a ha b hb => by simp at hb; subst hb; exact hx a ha⟩
section
variable {s : List (List Int)} (hq : QW s) (hl : s.length ≤ 4294967296) (hw : ∀ w ∈ s, w.length < 4611686018427387904)
include hq hl hw
omit hl hw in
theorem z5W {i j : Nat} {x y : List Int} (hi : s[i]? = some x) (hj : s[j]? = some y) (h : i ≤ j) : kh x y < 0 ∨ x = y := by
 rcases Nat.lt_or_ge i j with h | h
 ·have := (List.pairwise_iff_getElem.1 hq) i j (List.getElem?_eq_some_iff.1 hi).1 (List.getElem?_eq_some_iff.1 hj).1 h
  rw [(List.getElem?_eq_some_iff.1 hi).2, (List.getElem?_eq_some_iff.1 hj).2] at this
  rcases z1e.1 this with q | q
  ·exact .inl q
  ·exact .inr q.symm
 ·have : i = j := by omega
  subst this
  rw [hi] at hj
  exact .inr (by simpa using hj)
theorem z0v (h1 : 1 ≤ k) (hk : k < s.length) (hd : s[k - 1]? = s[k]?) (hs : SW (s.take k)) :
  Ret (Option.bind (loop (fun q => y7 (k : Int) q.1 q.2.1 q.2.2) (s, (k : Int), 1)) fun t => y9 t.1 t.2) fun r => r = .done (.inr (srt s)) := by
 rw [wm]
 refine Ret.mono (vt (fun q => ∃ kk k2 : Nat, q.2.1 = (kk : Int) ∧ q.2.2 = (k2 : Int) ∧ 1 ≤ k2 ∧ k + k2 ≤ s.length ∧ kk < k + k2 ∧ q.1.length = s.length ∧ (∀ i, kk ≤ i → q.1[i]? = s[i]?) ∧ SW (q.1.take kk) ∧ ∀ x, x ∈ q.1.take kk ↔ x ∈ s.take (k + k2)) (fun q => s.length - q.2.2.toNat) (R := fun t => ∃ kk : Nat, t.2 = (kk : Int) ∧ kk ≤ s.length ∧ t.1.length = s.length ∧ t.1.take kk = srt s) ?_ ?_ ?_) ?_
 ·refine ⟨k, 1, rfl, rfl, Nat.le_refl _, hk, by omega, rfl, fun _ _ => rfl, hs, fun x => ?_⟩
  rw [kZ, kZ]
  constructor
  ·rintro ⟨i, h2, h3⟩; exact ⟨i, by omega, h3⟩
  ·rintro ⟨i, h2, h3⟩
   rcases Nat.lt_or_ge i k with h | h
   ·exact ⟨i, h, h3⟩
   ·have : i = k := by omega
    subst this
    exact ⟨i - 1, by omega, by rw [hd]; exact h3⟩
 ·show s.length - _ < _
  omega
 ·rintro ⟨S, a, b⟩ ⟨kk, k2, rfl, rfl, g1, g2, g3, g4, g5, g6, g7⟩
  simp only at g4 g5 g6 g7
  show Ret (y7 (k : Int) S (kk : Int) (k2 : Int)) _
  unfold y7
  rw [wr]
  refine ⟨fun hc => ?_, fun hc => ?_⟩
  ·have hlt : k2 < s.length - k := by rw [g4] at hc; simpa using hc
   have e1 : s[k + k2]? = some s[k + k2] := List.getElem?_eq_getElem (by omega)
   have e2 : s[k + k2 - 1]? = some s[k + k2 - 1] := List.getElem?_eq_getElem (by omega)
   have f1 : idx S ((k : Int) + (k2 : Int)) = some s[k + k2] := by
    rw [← Int.natCast_add, yQ, g5 _ (by omega), e1]
   have f2 : idx S ((k : Int) + w64 ((k2 : Int) - 1)) = some s[k + k2 - 1] := by
    rw [qQ (by omega) (by omega), show (k : Int) + ((k2 : Int) - 1) = ((k + k2 - 1 : Nat) : Int) by omega, yQ, g5 _ (by omega), e2]
   rw [gdT (by omega), f1]
   simp only [oB]
   rw [gdT (by rw [qQ (by omega) (by omega)]; omega), f2]
   simp only [oB]
   rw [z1A _ _ (hw _ (List.getElem_mem (by omega)))]
   simp only [oB]
   have hk2 : w64 ((k2 : Int) + 1) = ((k2 + 1 : Nat) : Int) := by rw [qQ (by omega) (by omega)]; omega
   by_cases he : s[k + k2] = s[k + k2 - 1]
   ·simp only [he, decide_true, Bool.not_true, cond_false]
    unfold y8
    rw [hk2, zF]
    refine ⟨⟨kk, k2 + 1, rfl, rfl, by omega, by omega, by omega, g4, g5, g6, fun x => ?_⟩, by simp only [Int.toNat_natCast]; omega⟩
    rw [g7, kZ, kZ]
    constructor
    ·rintro ⟨i, h2, h3⟩; exact ⟨i, by omega, h3⟩
    ·rintro ⟨i, h2, h3⟩
     rcases Nat.lt_or_ge i (k + k2) with h | h
     ·exact ⟨i, h, h3⟩
     ·have : i = k + k2 := by omega
      subst this
      exact ⟨k + k2 - 1, by omega, by rw [e2, ← he, ← e1]; exact h3⟩
   ·simp only [he, decide_false, Bool.not_false, cond_true]
    rw [gdT (by omega)]
    have e3 : idx S (kk : Int) = some s[kk] := by rw [yQ, g5 _ (Nat.le_refl _), List.getElem?_eq_getElem (by omega)]
    rw [e3]
    simp only [oB]
    unfold y8
    rw [hk2, qQ (x := (kk : Int) + 1) (by omega) (by omega), zF]
    have hset : (S.set ((kk : Int).toNat) s[k + k2]).take (kk + 1) = S.take kk ++ [s[k + k2]] := by
     rw [Int.toNat_natCast, List.take_add_one, List.take_set_of_le (Nat.le_refl _), List.getElem?_set_self (by omega)]
     rfl
    refine ⟨⟨kk + 1, k2 + 1, rfl, rfl, by omega, by omega, by omega, by simp [g4], fun i hi => ?_, ?_, fun x => ?_⟩, by simp only [Int.toNat_natCast]; omega⟩
    ·simp only
     rw [List.getElem?_set_ne (by omega), g5 _ (by omega)]
    ·simp only
     rw [hset]
     refine z35 g6 fun y hy => ?_
     obtain ⟨i, h2, h3⟩ := kZ.1 ((g7 y).1 hy)
     have hlast : kh s[k + k2 - 1] s[k + k2] < 0 := by
      rcases z5W hq e2 e1 (by omega) with q | q
      ·exact q
      ·exact absurd q.symm he
     rcases z5W hq h3 e2 (by omega) with q | q
     ·exact ZP q hlast
     ·rw [q]; exact hlast
    ·simp only
     rw [hset, List.mem_append, g7, kZ, kZ]
     constructor
     ·rintro (⟨i, h2, h3⟩ | h)
      ·exact ⟨i, by omega, h3⟩
      ·simp at h; subst h; exact ⟨k + k2, by omega, e1⟩
     ·rintro ⟨i, h2, h3⟩
      rcases Nat.lt_or_ge i (k + k2) with h | h
      ·exact .inl ⟨i, h, h3⟩
      ·have : i = k + k2 := by omega
       subst this
       rw [e1] at h3
       exact .inr (by simpa using h3.symm)
  ·have hge : s.length - k ≤ k2 := by rw [g4] at hc; simpa using hc
   have hkk : k + k2 = s.length := by omega
   rw [zF]
   refine ⟨kk, rfl, by omega, g4, z3d g6 fun x => ?_⟩
   rw [g7, hkk, List.take_length]
 ·rintro ⟨S, a⟩ ⟨kk, rfl, h1, h2, h3⟩
  simp only at h2 h3
  show Ret (y9 S (kk : Int)) _
  unfold y9
  have hlen : (S.take (kk : Int).toNat ++ List.replicate (S.length - (kk : Int).toNat) ([] : List Int)).length = S.length := by simp [List.length_take]; omega
  rw [gdT (by omega), gdT (by omega), gdT (by rw [hlen]; omega), zF]
  simp only [Int.toNat_natCast]
  rw [List.take_left' (by rw [List.length_take]; omega), h3]
theorem z2H : yC s () = some (srt s) := by
 unfold yC
 by_cases h2 : s.length < 2
 ·have hd : decide (((s.length : Nat) : Int) < 2) = true := by simp; omega
  simp only [hd, cond_true]
  rw [KK]
  match s, h2 with
  | [], _ => exact SW.nil
  | [x], _ => simp [SW]
 ·have hd : decide (((s.length : Nat) : Int) < 2) = false := by simp; omega
  simp only [hd, cond_false]
  apply Ret.eq
  rw [wm]
  refine Ret.mono (vt (fun q : Int => ∃ j : Nat, q = (j : Int) ∧ 1 ≤ j ∧ j ≤ s.length ∧ SW (s.take j)) (fun q => s.length - q.toNat) (R := fun t : Unit ⊕ List (List Int) => match t with | .inl _ => srt s = s | .inr p => p = srt s) ?_ ?_ ?_) ?_
  ·refine ⟨1, rfl, Nat.le_refl _, by omega, ?_⟩
   match s, h2 with
   | [], h2 => simp at h2
   | x :: l, _ => simp [SW]
  ·show s.length - _ < _
   omega
  ·rintro _ ⟨j, rfl, g1, g2, g3⟩
   show Ret (yl s (j : Int)) _
   unfold yl
   rw [wr]
   refine ⟨fun hc => ?_, fun hc => ?_⟩
   ·have hj : j < s.length := by simpa using hc
    have e1 : s[j]? = some s[j] := List.getElem?_eq_getElem hj
    have e2 : s[j - 1]? = some s[j - 1] := List.getElem?_eq_getElem (by omega)
    rw [qQ (x := (j : Int) - 1) (by omega) (by omega), show (j : Int) - 1 = ((j - 1 : Nat) : Int) by omega, xa e1, xa e2]
    simp only [oB]
    rw [z1A _ _ (hw _ (List.getElem_mem hj))]
    simp only [oB]
    by_cases he : s[j] = s[j - 1]
    ·simp only [he, decide_true, cond_true]
     rw [gdT (by omega)]
     refine (z0v hq hl hw g1 hj (by rw [e1, e2, he]) g3).mono ?_
     rintro _ rfl
     rfl
    ·simp only [he, decide_false, cond_false]
     unfold yS
     rw [qQ (by omega) (by omega), zF]
     refine ⟨⟨j + 1, rfl, by omega, hj, ?_⟩, by simp only [Int.toNat_natCast]; omega⟩
     have : s.take (j + 1) = s.take j ++ [s[j]] := by rw [List.take_add_one, e1]; rfl
     rw [this]
     refine z35 g3 fun y hy => ?_
     obtain ⟨i, h3, h4⟩ := kZ.1 hy
     have hlast : kh s[j - 1] s[j] < 0 := by
      rcases z5W hq e2 e1 (by omega) with q | q
      ·exact q
      ·exact absurd q.symm he
     rcases z5W hq h4 e2 (by omega) with q | q
     ·exact ZP q hlast
     ·rw [q]; exact hlast
   ·have hj : j = s.length := by
     have : ¬ j < s.length := by simpa using hc
     omega
    rw [zF]
    show srt s = s
    rw [hj, List.take_length] at g3
    exact KK g3
  ·rintro (u | p) h
   ·show Ret (some s) _
    rw [zF]
    exact h.symm
   ·show Ret (some p) _
    rw [zF]
    exact h
end
theorem KL (l : List (List Int)) : SOk kh l :=
 ⟨fun x _ => Un x, fun x _ y _ z _ h1 h2 => ZP h1 h2, fun x _ y _ h1 h2 => by
  rcases z1e.1 h1 with q | q
  ·exact absurd q h2
  ·exact q⟩
theorem z5A {l m : List (List Int)} (h : l.Perm m) : srt l = srt m := z3e fun x => h.mem_iff
theorem Q9 {c d : List Int → List Int → Int} : ∀ {l : List (List Int)}, (∀ x ∈ l, ∀ y ∈ l, c x y = d x y) → XQ c l = XQ d l
 | [], _ => rfl
 | x :: l, h => by
  have ih := Q9 (c := c) (d := d) (l := l) fun a ha b hb => h a (by simp [ha]) b (by simp [hb])
  show z2Q c x (XQ c l) = z2Q d x (XQ d l)
  rw [ih]
  have gen : ∀ m : List (List Int), (∀ y ∈ m, y ∈ l) → z2Q c x m = z2Q d x m := by
   intro m
   induction m with
   | nil => intro _; rfl
   | cons y m ih2 =>
    intro hm
    simp only [z2Q]
    rw [h y (by simp [hm y (by simp)]) x (by simp), ih2 fun z hz => hm z (by simp [hz])]
  exact gen _ fun y hy => (j8 d l).mem_iff.1 hy
def soR (l : List (List Int)) : List (List Int) × Int := if 4096 < (srt l).length ∨ 65536 < jE (srt l) then ([], 3) else (srt l, 0)
theorem z5C (hl : l.length ≤ 100000) (hw : ∀ w ∈ l, w.length ≤ 4294967296) : jo l = some (soR l) := by
 unfold jo wZ
 rw [gdT (by simp; omega)]
 simp only [oB]
 have hc : ∀ x ∈ l, ∀ y, yX x y = some (kh x y) := fun x hx y => Vv x y (by have := hw x hx; omega)
 have hso : z3h (fun x y => yX x y) l = some (XQ kh l) := by
  unfold z3h
  rw [gdT ⟨by omega, fun x hx y hy => by simp only [hc x hx y]; rfl⟩]
  have hcc : ∀ x ∈ l, ∀ y ∈ l, (yX x y).getD 0 = kh x y := fun x hx y _ => by rw [hc x hx y]; rfl
  rw [gdT, Q9 (c := fun x y => (yX x y).getD 0) (d := kh) hcc]
  have q := KL l
  refine ⟨fun x hx => by show ¬ (yX x x).getD 0 < 0; rw [hcc x hx x hx]; exact q.1 x hx, fun x hx y hy z hz h1 h2 => ?_, fun x hx y hy h1 h2 => ?_⟩
  ·simp only [hcc x hx y hy, hcc y hy z hz, hcc x hx z hz] at h1 h2 ⊢
   exact q.2.1 x hx y hy z hz h1 h2
  ·simp only [hcc x hx y hy, hcc y hy x hx] at h1 h2
   exact q.2.2 x hx y hy h1 h2
 rw [hso]
 simp only [oB]
 have hp := j8 kh l
 have hq : QW (XQ kh l) := X4 (KL l) (fun y hy => hy)
 rw [z2H hq (by rw [hp.length_eq]; omega) (fun w h => by have := hw w (hp.mem_iff.1 h); omega)]
 simp only [oB]
 unfold xx
 simp only [oB]
 rw [z5A hp]
 have hlen : (srt l).length ≤ 100000 := Nat.le_trans (z3c l) hl
 have hws : ∀ w ∈ srt l, w.length ≤ 4294967296 := fun w h => hw w (K6.1 h)
 unfold soR
 generalize srt l = r at hlen hws
 have hsy : jE r ≤ 100000 * 4294967296 := Nat.le_trans (JM hws) (Nat.mul_le_mul_right _ hlen)
 by_cases h1 : 4096 < r.length
 ·have : (4096 : Int) < (r.length : Int) := by omega
  simp [h1, this]
 ·have d1 : decide (((r.length : Nat) : Int) > 4096) = false := by simp; omega
  simp only [d1, cond_false]
  rw [z1q r (by omega), z38 (by omega)]
  simp only [oB]
  by_cases h2 : 65536 < jE r
  ·have : (65536 : Int) < (jE r : Int) := by omega
   simp [h2, this]
  ·have d2 : decide (((jE r : Nat) : Int) > 65536) = false := by simp; omega
   simp only [d2, cond_false]
   rw [if_neg (by omega)]
   have hloop := Uf (step := fun s => w7 r s.1 s.2) (fun i => ((r.take i).map (fun q => (q, true)) ++ (r.drop i).map (fun q => (q, false)), (i : Int))) r.length (t := r.map fun q => (q, true)) (by omega) (by
    intro i hi
    have hA : ((r.take i).map (fun q : List Int => (q, true))).length = i := by rw [List.length_map, List.length_take]; omega
    have hd : r.drop i = r[i] :: r.drop (i + 1) := List.drop_eq_getElem_cons hi
    have hx : ((r.take i).map (fun q => (q, true)) ++ (r.drop i).map (fun q => (q, false)))[i]? = some (r[i], false) := by
     rw [List.getElem?_append_right (by omega), hA, hd]; simp
    show w7 r _ (i : Int) = _
    unfold w7
    have hq : decide ((i : Int) < ((r.length - (0 : Int).toNat : Nat) : Int)) = true := by simpa using hi
    simp only [hq, cond_true]
    rw [gdT (by omega), Int.zero_add, xa hx]
    simp only [oB]
    rw [Yd _ (hws _ (List.getElem_mem hi))]
    simp only [oB, XU, Int.toNat_natCast]
    rw [qQ (by omega) (by omega)]
    congr 3
    rw [List.set_append_right _ _ (by omega), hA, hd, List.take_add_one, List.getElem?_eq_getElem hi]
    simp only [Nat.sub_self, List.map_cons, List.set_cons_zero, List.map_append, Option.toList_some, List.map_nil, List.append_assoc, List.cons_append, List.nil_append]) (by
    show w7 r _ (r.length : Int) = _
    unfold w7
    simp)
   have h0 : ((r.take 0).map (fun q => (q, true)) ++ (r.drop 0).map (fun q => (q, false)), ((0 : Nat) : Int)) = (r.map (fun q => (q, false)), (0 : Int)) := by simp
   rw [h0] at hloop
   rw [hloop]
   simp only [oB]
   unfold qm
   rw [gdT (by intro q hq; obtain ⟨_, _, rfl⟩ := List.mem_map.1 hq; rfl)]
   simp [List.map_map, Function.comp_def]
variable {σ : Type}
theorem YV (f : Nat → σ → σ) (s : σ) (n : Nat) : (List.range (n + 1)).foldl (fun s i => f i s) s = f n ((List.range n).foldl (fun s i => f i s) s) := by
 rw [List.range_succ, List.foldl_append]; rfl
theorem XE {f : Nat → σ → σ} {I : Nat → σ → Prop} {s : σ} (h0 : I 0 s) : ∀ (n : Nat), (∀ i s, i < n → I i s → I (i + 1) (f i s)) → I n ((List.range n).foldl (fun s i => f i s) s)
 | 0, _ => h0
 | n + 1, h => by
  rw [YV]
  exact h n _ (Nat.lt_succ_self n) (XE h0 n fun i s hi => h i s (by omega))
theorem UT {σ α : Type} (g : α → σ → σ) (d : α) (l : List α) (s : σ) : (List.range l.length).foldl (fun s i => g ((l[i]?).getD d) s) s = l.foldl (fun s x => g x s) s := by
 have e : l = (List.range l.length).map fun i => (l[i]?).getD d := by
  apply List.ext_getElem (by simp)
  intro i h1 h2
  simp [List.getElem?_eq_getElem h1]
 have q : ((List.range l.length).map fun i => (l[i]?).getD d).foldl (fun s x => g x s) s = (List.range l.length).foldl (fun s i => g ((l[i]?).getD d) s) s := by rw [List.foldl_map]
 rw [← q, ← e]
theorem z0b {σ S τ : Type} {step : S → Option (LR S τ)} (st : σ → Nat → S) (f : Nat → σ → σ) (I : Nat → σ → Prop) (n : Nat) (hn : n < 9223372036854775808) {s0 : σ} {t : τ} (h0 : I 0 s0)
  (h : ∀ i s, i < n → I i s → step (st s i) = some (.next (st (f i s) (i + 1))) ∧ I (i + 1) (f i s))
  (hd : I n ((List.range n).foldl (fun s i => f i s) s0) → step (st ((List.range n).foldl (fun s i => f i s) s0) n) = some (.done t)) : loop step (st s0 0) = some t := by
 have inv : ∀ m, m ≤ n → I m ((List.range m).foldl (fun s i => f i s) s0) := fun m hm => XE h0 m fun i s hi hI => (h i s (by omega) hI).2
 refine Uf (fun m => st ((List.range m).foldl (fun s i => f i s) s0) m) n hn (fun i hi => ?_) (hd (inv n (Nat.le_refl _)))
 show step (st ((List.range i).foldl (fun s i => f i s) s0) i) = _
 rw [(h i _ hi (inv i (by omega))).1, YV]
theorem yY (h : i < 9223372036854775807) : w64 ((i : Int) + 1) = ((i + 1 : Nat) : Int) := by rw [qQ (by omega) (by omega)]; rfl
theorem z52 (k : Nat) : ∀ n, GG k (n + 1) = k * GG k n + 1
 | 0 => by simp [GG]
 | n + 1 => by
  have ih := z52 k n
  show GG k (n + 1) + k ^ (n + 1) = k * (GG k n + k ^ n) + 1
  rw [ih, Nat.mul_add, Nat.pow_succ, Nat.mul_comm (k ^ n) k]
  omega
theorem z8w (k : Nat) : ∀ u : List Nat, rv k u = rk k u.reverse
 | [] => by simp [rv, rk, GG, JJ]
 | i :: u => by
  have ih := z8w k u
  unfold rk at ih ⊢
  rw [List.reverse_reverse, List.length_reverse] at ih ⊢
  simp only [rv, List.length_cons, JJ, ih, z52, Nat.add_mul]
  rw [Nat.mul_comm (GG k u.length) k, Nat.mul_comm (JJ k u) k]
  omega
def nx1 (m : z7) (s i : Nat) : Option Nat := if 0 ≤ (E m s i).To then some (E m s i).To.toNat else none
abbrev nob : Nat → Nat → Bool := fun _ _ => false
theorem z1K : ∀ (N : Nat) (l : List Nat), l.Nodup → (∀ t ∈ l, t < N) → l.length ≤ N
 | 0, l, _, h => by
  cases l with
  | nil => exact Nat.le_refl _
  | cons x l => have := h x (by simp); omega
 | N + 1, l, hn, h => by
  have ih := z1K N (l.erase N) (hn.erase N) fun t ht => by
   have h1 := h t (List.mem_of_mem_erase ht)
   have h2 : t ≠ N := fun e => by subst e; exact absurd ht (hn.not_mem_erase)
   omega
  by_cases hm : N ∈ l
  ·rw [List.length_erase_of_mem hm] at ih; omega
  ·rw [List.erase_of_not_mem hm] at ih; omega
variable {L : List (Nat × List Nat)}{c : Nat × List Nat}
section
variable {m : z7} (h : VM m)
include h
theorem Xk : ∀ (u : List Nat) (q : Nat), z51 (kk m) nob (nx1 m) 0 u q → Wd (kk m) u.reverse ∧ aft m 0 u.reverse = (q : Int) ∧ q < m.Rows.length
 | [], q, e => by
  have e : q = 0 := e
  subst e
  exact ⟨by simp [Wd], rfl, h.len1⟩
 | i :: u, q, ⟨p, hp, hi, _, hn⟩ => by
  obtain ⟨g1, g2, g3⟩ := Xk u p hp
  unfold nx1 at hn
  split at hn
  ·rename_i h0
   cases hn
   have q2 := (U0 m u.reverse 0 i).2
   rw [g2, K3] at q2
   rw [List.reverse_cons]
   refine ⟨fun j hj => ?_, by rw [q2]; omega, ?_⟩
   ·rcases List.mem_append.1 hj with g | g
    ·exact g1 j g
    ·rw [List.mem_singleton.1 g]; exact hi
   ·rcases h.edgeAt g3 hi with ⟨g, _⟩ | ⟨_, g, _⟩ <;> omega
  ·cases hn
theorem Kv : ∀ (u : List Nat) (q : Nat), Wd (kk m) u.reverse → aft m 0 u.reverse = (q : Int) → z51 (kk m) nob (nx1 m) 0 u q
 | [], q, _, e => by have : (0 : Int) = q := e; show q = 0; omega
 | i :: u, q, hu, e => by
  rw [List.reverse_cons] at hu e
  have hu' : Wd (kk m) u.reverse := fun j hj => hu j (by simp [List.mem_reverse.1 hj])
  have hi : i < kk m := hu i (by simp)
  have q2 := (U0 m u.reverse 0 i).2
  rw [e] at q2
  have hin := z7u h u.reverse 0 ⟨by omega, by have := h.len1; omega⟩ hu'
  by_cases hneg : aft m 0 u.reverse < 0
  ·exfalso
   unfold nxE at q2
   rw [if_pos hneg] at q2
   simp at q2
  ·obtain ⟨s, hs⟩ : ∃ s : Nat, aft m 0 u.reverse = s := ⟨(aft m 0 u.reverse).toNat, by omega⟩
   rw [hs, K3] at q2
   refine ⟨s, Kv u s hu' hs, hi, rfl, ?_⟩
   unfold nx1
   rw [if_pos (by omega), ← q2]
   simp
def zcj (L : List (Nat × List Nat)) (a : Nat) (x : zh) (c : Nat × List Nat) : Prop :=
 x.state_ = (c.1 : Int) ∧ ((c.2 = [] ∧ x.from_ = -1) ∨ ∃ (i : Nat) (u : List Nat) (p j : Nat), c.2 = i :: u ∧ x.input_ = (i : Int) ∧ x.from_ = (p : Int) ∧ j < a ∧ L[j]? = some (p, u))
structure Que (m : z7) (L : List (Nat × List Nat)) (a : Nat) (seen : List Bool) (Q : List zh) : Prop where
 len : seen.length = m.Rows.length
 seen : ∀ t : Nat, seen[t]? = some true ↔ ∃ u, (t, u) ∈ L
 nodup : (L.map (·.1)).Nodup
 qlen : Q.length + a = L.length
 arr : ∀ (j : Nat) (x : zh), Q[j]? = some x → ∃ c, L[a + j]? = some c ∧ zcj L (a + j) x c
theorem z0S {a : Nat}  (hb : Bfs (kk m) nob (nx1 m) 0 L a i) (hn : (L.map (·.1)).Nodup) : L.length ≤ m.Rows.length := by
 have := z1K m.Rows.length (L.map (·.1)) hn fun t ht => by
  obtain ⟨c, hc, rfl⟩ := List.mem_map.1 ht
  exact (Xk h c.2 c.1 (hb.path c hc)).2.2
 simpa using this
theorem z8x {a : Nat}  {seen : List Bool} {Q : List zh} {σ : Type} (yr : σ × Bool) (x : zh) (hc : L[a]? = some c) (hx : x.state_ = (c.1 : Int))
  (hb : Bfs (kk m) nob (nx1 m) 0 L a 0) (hq : Que m L (a + 1) seen Q) {r : List zy} (hr : r.length = kk m) (hre : ∀ i, i < kk m → r[i]? = some (E m c.1 i)) :
  Ret (loop (fun s => xU x yr r s.1 s.2.1 s.2.2) (seen, Q, 0)) fun t => t.1 = yr.1 ∧ ∃ L', L.length ≤ L'.length ∧ L'.take L.length = L ∧ Bfs (kk m) nob (nx1 m) 0 L' a (kk m) ∧ Que m L' (a + 1) t.2.1 t.2.2 := by
 have hk := h.kk_le
 have hal := (List.getElem?_eq_some_iff.1 hc).1
 have hcN := (Xk h c.2 c.1 (hb.path c (List.mem_of_getElem? hc))).2.2
 refine vt (fun s => ∃ (i : Nat) (L' : List (Nat × List Nat)), s.2.2 = (i : Int) ∧ i ≤ kk m ∧ L.length ≤ L'.length ∧ L'.take L.length = L ∧ Bfs (kk m) nob (nx1 m) 0 L' a i ∧ Que m L' (a + 1) s.1 s.2.1) (fun s => 100 - s.2.2.toNat) ⟨0, L, rfl, Nat.zero_le _, Nat.le_refl _, List.take_length, hb, hq⟩ (by show 100 - _ < _; omega) ?_
 rintro ⟨seen', Q', _⟩ ⟨i, L', rfl, hi, hll, htk, hb', hq'⟩
 simp only at hq'
 show Ret (xU x yr r seen' Q' (i : Int)) _
 unfold xU
 rw [wr]
 refine ⟨fun h1 => ?_, fun h1 => ?_⟩
 ·have hlt : i < kk m := by simp at h1; omega
  have hc' : L'[a]? = some c := by
   have : (L'.take L.length)[a]? = some c := by rw [htk]; exact hc
   rwa [List.getElem?_take, if_pos hal] at this
  rw [xa (hre i hlt), oB]
  have old : (∀ q, nx1 m c.1 i = some q → ∃ b ∈ L', b.1 = q) → Ret (yz (σ := σ) (i : Int) seen' Q') (LRP (fun s' => (∃ (i : Nat) (L' : List (Nat × List Nat)), s'.2.2 = (i : Int) ∧ i ≤ kk m ∧ L.length ≤ L'.length ∧ L'.take L.length = L ∧ Bfs (kk m) nob (nx1 m) 0 L' a i ∧ Que m L' (a + 1) s'.1 s'.2.1) ∧ 100 - s'.2.2.toNat < 100 - ((i : Int)).toNat) (fun t => t.1 = yr.1 ∧ ∃ L', L.length ≤ L'.length ∧ L'.take L.length = L ∧ Bfs (kk m) nob (nx1 m) 0 L' a (kk m) ∧ Que m L' (a + 1) t.2.1 t.2.2)) := by
   intro hn
   unfold yz
   rw [zF, yY (by omega)]
   exact ⟨⟨i + 1, L', rfl, hlt, hll, htk, hb'.old hc' hlt rfl hn, hq'⟩, by simp only; omega⟩
  rcases h.edgeAt hcN hlt with ⟨g1, _⟩ | ⟨g1, g2, _⟩
  ·have : ((E m c.1 i).To != -1) = false := by rw [g1]; rfl
   rw [this, cond_false]
   exact old fun q hq => by unfold nx1 at hq; rw [if_neg (by omega)] at hq; cases hq
  ·have e1 : ((E m c.1 i).To != -1) = true := by simp; omega
   obtain ⟨q, hq0⟩ : ∃ q : Nat, (E m c.1 i).To = q := ⟨(E m c.1 i).To.toNat, by omega⟩
   have hqN : q < m.Rows.length := by omega
   have hnx : nx1 m c.1 i = some q := by unfold nx1; rw [if_pos g1, hq0]; simp
   have hsq : seen'[q]? = some seen'[q]! := by
    have : q < seen'.length := by rw [hq'.len]; exact hqN
    rw [List.getElem?_eq_getElem this]; simp [this]
   rw [e1, cond_true, hq0, xa hsq, oB]
   by_cases hs : seen'[q]! = true
   ·rw [hs]
    simp only [Bool.not_true, cond_false]
    refine old fun q' hq2 => ?_
    rw [hnx] at hq2
    cases hq2
    rw [hs] at hsq
    obtain ⟨u, hu⟩ := (hq'.seen q).1 hsq
    exact ⟨_, hu, rfl⟩
   ·have hs : seen'[q]! = false := by simpa using hs
    have hnot : ∀ u, (q, u) ∉ L' := fun u hu => by
     have := (hq'.seen q).2 ⟨u, hu⟩
     rw [hsq, hs] at this
     cases this
    have hL' := z0S h hb' hq'.nodup
    have hN := h.len64
    have hql := hq'.qlen
    rw [hs]
    simp only [Bool.not_false, cond_true]
    rw [oB, gdT (by simp; omega)]
    unfold yz
    rw [zF, yY (by omega)]
    refine ⟨⟨i + 1, L' ++ [(q, i :: c.2)], rfl, hlt, by simp; omega, by rw [List.take_append_of_le_length hll, htk], hb'.new hc' hlt rfl hnx, ?_⟩, by simp only; omega⟩
    refine ⟨by simp [hq'.len], fun t => ?_, ?_, by simp; omega, fun j y hy => ?_⟩
    ·simp only [Int.toNat_natCast]
     rw [z6U (by rw [hq'.len]; exact hqN), hq'.seen]
     constructor
     ·rintro (rfl | ⟨u, hu⟩)
      ·exact ⟨_, List.mem_append_right _ (List.mem_singleton.2 rfl)⟩
      ·exact ⟨u, List.mem_append_left _ hu⟩
     ·rintro ⟨u, hu⟩
      rcases List.mem_append.1 hu with g | g
      ·exact .inr ⟨u, g⟩
      ·have := List.mem_singleton.1 g
       cases this
       exact .inl rfl
    ·rw [List.map_append, List.nodup_append]
     refine ⟨hq'.nodup, by simp, fun t ht s hs' e => ?_⟩
     obtain ⟨b, hb1, rfl⟩ := List.mem_map.1 ht
     have hs2 : s = q := by simpa using hs'
     exact hnot b.2 (by rw [← hs2, ← e]; exact hb1)
    ·rcases Nat.lt_or_ge j Q'.length with g | g
     ·rw [List.getElem?_append_left g] at hy
      obtain ⟨d, d1, d2, d3⟩ := hq'.arr j y hy
      have dl := (List.getElem?_eq_some_iff.1 d1).1
      refine ⟨d, by rw [List.getElem?_append_left dl]; exact d1, d2, ?_⟩
      rcases d3 with d3 | ⟨i', u', p, j', e1, e2, e3, e4, e5⟩
      ·exact .inl d3
      ·exact .inr ⟨i', u', p, j', e1, e2, e3, e4, by rw [List.getElem?_append_left (List.getElem?_eq_some_iff.1 e5).1]; exact e5⟩
     ·have hjl := (List.getElem?_eq_some_iff.1 hy).1
      simp at hjl
      have hj : j = Q'.length := by omega
      subst hj
      simp at hy
      subst hy
      refine ⟨(q, i :: c.2), by rw [List.getElem?_append_right (by omega), show a + 1 + Q'.length - L'.length = 0 by omega]; rfl, rfl, .inr ⟨i, c.2, c.1, a, rfl, rfl, hx, by omega, ?_⟩⟩
      rw [List.getElem?_append_left (by omega), hc']
 ·have : i = kk m := by simp at h1; omega
  subst this
  rw [zF]
  exact ⟨rfl, L', hll, htk, hb', hq'⟩
structure zbs (m : z7) (L : List (Nat × List Nat)) (a : Nat) (l : List (List Int)) (is : List Bool) : Prop where
 l1 : l.length = m.Rows.length
 l2 : is.length = m.Rows.length
 got : ∀ (j : Nat) (c : Nat × List Nat), j < a → L[j]? = some c → is[c.1]? = some true ∧ l[c.1]? = some (c.2.reverse.map Int.ofNat)
 rest : ∀ t : Nat, t < m.Rows.length → (∀ (j : Nat) (c : Nat × List Nat), j < a → L[j]? = some c → c.1 ≠ t) → is[t]? = some false ∧ l[t]? = some []
omit h in
theorem zb2 (w : List Int) (hw : w.length ≤ 4294967296) : zT w = some w := Yd w hw
theorem z5Y {a : Nat}  {is : List Bool} (hp : zbs m L a l is)  (hc : L[a]? = some c) {x : zh} (hx : zcj L a x c) (hn : (L.map (·.1)).Nodup) (hb : Bfs (kk m) nob (nx1 m) 0 L a 0) :
  ∃ l' is', w4 l is x = some (.next (l', is')) ∧ zbs m L (a + 1) l' is' := by
 have hal := (List.getElem?_eq_some_iff.1 hc).1
 have hcN := (Xk h c.2 c.1 (hb.path c (List.mem_of_getElem? hc))).2.2
 obtain ⟨q1, q2⟩ := hx
 have hne : ∀ (j : Nat) (d : Nat × List Nat), j < a → L[j]? = some d → d.1 ≠ c.1 := fun j d hj hd e => by
  have h1 : (L.map (·.1))[j]? = some d.1 := by rw [List.getElem?_map, hd]; rfl
  have h2 : (L.map (·.1))[a]? = some c.1 := by rw [List.getElem?_map, hc]; rfl
  rw [← e] at h2
  have := ((List.getElem?_inj (List.getElem?_eq_some_iff.1 h1).1 hn).1 (h1.trans h2.symm))
  omega
 obtain ⟨r1, r2⟩ := hp.rest c.1 hcN hne
 have main : ∀ w : List Int, w = c.2.reverse.map Int.ofNat → zbs m L (a + 1) (l.set c.1 w) (is.set c.1 true) := by
  intro w hw
  refine ⟨by simp [hp.l1], by simp [hp.l2], fun j d hj hd => ?_, fun t ht hall => ?_⟩
  ·by_cases e : j = a
   ·subst e
    rw [hc] at hd
    cases hd
    rw [List.getElem?_set_self (by rw [hp.l2]; exact hcN), List.getElem?_set_self (by rw [hp.l1]; exact hcN), hw]
    exact ⟨rfl, rfl⟩
   ·have hne' := hne j d (by omega) hd
    rw [List.getElem?_set_ne (Ne.symm hne'), List.getElem?_set_ne (Ne.symm hne')]
    exact hp.got j d (by omega) hd
  ·have hne' : c.1 ≠ t := hall a c (by omega) hc
   rw [List.getElem?_set_ne hne', List.getElem?_set_ne hne']
   exact hp.rest t ht fun j d hj hd => hall j d (by omega) hd
 unfold w4
 rw [q1, xa r1, oB]
 simp only [Int.toNat_natCast]
 rcases q2 with ⟨q2, q3⟩ | ⟨i, u, p, j, q2, q3, q4, q5, q6⟩
 ·have : (x.from_ != -1) = false := by rw [q3]; rfl
  rw [this, cond_false]
  refine ⟨l, is.set c.1 true, rfl, ?_⟩
  have := main [] (by rw [q2]; rfl)
  have e : l.set c.1 [] = l := by
   apply List.ext_getElem?
   intro t
   by_cases e : t = c.1
   ·subst e; rw [List.getElem?_set_self (by rw [hp.l1]; exact hcN), r2]
   ·rw [List.getElem?_set_ne (Ne.symm e)]
  rwa [e] at this
 ·have : (x.from_ != -1) = true := by rw [q4]; simp <;> omega
  obtain ⟨g1, g2⟩ := hp.got j (p, u) q5 q6
  have hul : u.length ≤ j := hb.short j (p, u) q6
  have hjL := (List.getElem?_eq_some_iff.1 q6).1
  have hLN := z0S h hb hn
  have hN := h.len64
  rw [this, cond_true, q4, xa g2, oB, zb2 _ (by simp; omega), oB, gdT (by simp; omega), XU, oB, xa r2, oB]
  refine ⟨_, _, rfl, main _ ?_⟩
  rw [q2, q3]
  simp
theorem Jx : Ret (ki m 0) (z57 m) := by
 have l1 := h.len1
 have hN := h.len64
 have e0 : ((m.Rows.length : Nat) : Int).toNat = m.Rows.length := by simp
 unfold ki jh
 rw [gdT (by omega), gdT (by omega), oB, e0, wm]
 refine Ret.mono (Q := fun t => ∃ l is, t = .next (l, is) ∧ z57 m (l, is)) ?_ ?_
 ·dsimp only
  unfold vZ
  have hrep : (List.replicate m.Rows.length false)[(0 : Nat)]? = some false := by rw [List.getElem?_replicate, if_pos (by omega)]
  rw [gdT (by omega), e0, wm, show idx (List.replicate m.Rows.length false) 0 = some false from hrep, zF, wm]
  refine Ret.mono (Q := fun t => ∃ l is, t = .next (l, is) ∧ z57 m (l, is)) ?_ fun t ht => zF.2 ht
  have hst0 : Que m [(0, [])] 0 ((List.replicate m.Rows.length false).set (0 : Int).toNat true) [zh.mk 0 (-1) (-1)] := by
   refine ⟨by simp, fun t => ?_, by simp, by simp, fun j x hx => ?_⟩
   ·show ((List.replicate m.Rows.length false).set 0 true)[t]? = some true ↔ _
    rw [z6U (by simp; omega)]
    constructor
    ·rintro (rfl | q)
     ·exact ⟨[], by simp⟩
     ·rw [List.getElem?_replicate] at q; split at q <;> cases q
    ·rintro ⟨u, hu⟩
     simp at hu
     exact .inl hu.1
   ·have hj := (List.getElem?_eq_some_iff.1 hx).1
    simp at hj
    subst hj
    simp at hx
    subst hx
    exact ⟨(0, []), rfl, rfl, .inl ⟨rfl, rfl⟩⟩
  have hp0 : zbs m [(0, [])] 0 (List.replicate m.Rows.length ([] : List Int)) (List.replicate m.Rows.length false) := by
   refine ⟨by simp, by simp, fun j c hj => by omega, fun t ht _ => ?_⟩
   rw [List.getElem?_replicate, List.getElem?_replicate, if_pos ht, if_pos ht]
   exact ⟨rfl, rfl⟩
  refine vt (fun s => ∃ (a : Nat) (L : List (Nat × List Nat)) (l : List (List Int)) (is : List Bool), s.1 = .next (l, is) ∧ a ≤ L.length ∧ Bfs (kk m) nob (nx1 m) 0 L a 0 ∧ Que m L a s.2.1 s.2.2 ∧ zbs m L a l is) (fun s => match s.1 with | .next (l, is) => 200 - (is.countP id) | .done _ => 0) ⟨0, _, _, _, rfl, by simp, Bfs.start, hst0, hp0⟩ (by show 200 - _ < _; omega) ?_
  rintro ⟨sg, seen, Q⟩ ⟨a, L, l, is, hsg, haL, hb, hq, hp⟩
  simp only at hsg hq
  subst hsg
  have hLN := z0S h hb hq.nodup
  have hql := hq.qlen
  show Ret (wG m (yOf (fun s x => w4 s.1 s.2 x)) (.next (l, is)) seen Q) _
  unfold wG
  rw [wr]
  refine ⟨fun h1 => ?_, fun h1 => ?_⟩
  ·have hQ : 0 < Q.length := by simp at h1; omega
   have hx0 : Q[0]? = some Q[0] := List.getElem?_eq_getElem hQ
   obtain ⟨c, c1, c2⟩ := hq.arr 0 _ hx0
   rw [Nat.add_zero] at c1 c2
   have hal := (List.getElem?_eq_some_iff.1 c1).1
   have hcN := (Xk h c.2 c.1 (hb.path c (List.mem_of_getElem? c1))).2.2
   obtain ⟨l', is', y1, y2⟩ := z5Y h hp c1 c2 hq.nodup hb
   have yv : yOf (fun (s : List (List Int) × List Bool) x => w4 s.1 s.2 x) (.next (l, is)) Q[0] = some (.next (l', is'), true) := by
    unfold yOf
    simp only
    rw [y1]
   obtain ⟨r, hr, hrl, hre⟩ := h.rowAt hcN
   have hs0 := c2.1
   rw [show idx Q 0 = some Q[0] from hx0, oB, gdT (by omega), yv, oB]
   simp only [Bool.not_true, cond_false]
   rw [hs0, xa hr, oB, wm]
   have hq' : Que m L (a + 1) seen (Q.drop 1) := by
    refine ⟨hq.len, hq.seen, hq.nodup, by rw [List.length_drop]; omega, fun j x hx => ?_⟩
    rw [List.getElem?_drop] at hx
    have := hq.arr (1 + j) x hx
    rwa [show a + (1 + j) = a + 1 + j by omega] at this
   refine (z8x h (σ := LR (List (List Int) × List Bool) Empty) (LR.next (l', is'), true) Q[0] c1 hs0 hb hq' hrl hre).mono ?_
   rintro ⟨sg', seen', Q'⟩ ⟨e1, L', g1, g2, g3, g4⟩
   simp only at e1 g4
   rw [zF]
   have same : ∀ j, j < L.length → L'[j]? = L[j]? := fun j hj => by
    have : (L'.take L.length)[j]? = L[j]? := by rw [g2]
    rwa [List.getElem?_take, if_pos hj] at this
   have hal' : a < L'.length := by omega
   refine ⟨⟨a + 1, L', l', is', e1, hal', g3.step hal', g4, ?_⟩, ?_⟩
   ·refine ⟨y2.l1, y2.l2, fun j d hj hd => y2.got j d hj (by rw [← same j (by omega)]; exact hd), fun t ht hall => y2.rest t ht fun j d hj hd => hall j d hj (by rw [same j (by omega)]; exact hd)⟩
   ·subst e1
    have hfalse : is[c.1]? = some false := (hp.rest c.1 hcN fun j d hj hd e => by
     have h1 : (L.map (·.1))[j]? = some d.1 := by rw [List.getElem?_map, hd]; rfl
     have h2 : (L.map (·.1))[a]? = some c.1 := by rw [List.getElem?_map, c1]; rfl
     rw [← e] at h2
     have := ((List.getElem?_inj (List.getElem?_eq_some_iff.1 h1).1 hq.nodup).1 (h1.trans h2.symm))
     omega).1
    have hset : is' = is.set c.1 true := by
     unfold w4 at y1
     rw [hs0, xa hfalse, oB] at y1
     simp only [Int.toNat_natCast] at y1
     rcases y5 y1 with ⟨_, y1⟩ | ⟨_, y1⟩
     ·obtain ⟨_, _, y1⟩ := zl y1
      obtain ⟨_, _, y1⟩ := zl y1
      obtain ⟨_, y1⟩ := gdE y1
      obtain ⟨_, _, y1⟩ := zl y1
      obtain ⟨_, _, y1⟩ := zl y1
      cases y1; rfl
     ·cases y1; rfl
    subst hset
    have hcl : c.1 < is.length := by rw [hp.l2]; exact hcN
    have cnt : (is.set c.1 true).countP id = is.countP id + 1 := by
     rw [List.countP_set hcl]
     have : is[c.1] = false := by rw [List.getElem?_eq_getElem hcl] at hfalse; exact Option.some.inj hfalse
     simp [this]
    have cle : (is.set c.1 true).countP id ≤ (is.set c.1 true).length := List.countP_le_length
    rw [List.length_set, hp.l2] at cle
    show 200 - (is.set c.1 true).countP id < 200 - is.countP id
    omega
  ·have hQ : Q.length = 0 := by simp at h1; simp [h1]
   have ha : a = L.length := by omega
   rw [zF]
   refine ⟨l, is, rfl, hp.l1, hp.l2, fun t ht => ?_⟩
   have atEnd : ∀ c, L[a]? = some c → False := fun c hc => by have := (List.getElem?_eq_some_iff.1 hc).1; omega
   by_cases hex : ∃ u, (t, u) ∈ L
   ·obtain ⟨u, hu⟩ := hex
    obtain ⟨j, hj⟩ := List.getElem?_of_mem hu
    have hjl := (List.getElem?_eq_some_iff.1 hj).1
    obtain ⟨g1, g2⟩ := hp.got j (t, u) (by omega) hj
    obtain ⟨p1, p2, p3⟩ := Xk h u t (hb.path _ hu)
    refine .inl ⟨g1, u.reverse, g2, p1, ?_, p2, fun v hv e => ?_⟩
    ·rw [List.length_reverse]
     have : u.length ≤ j := hb.short j (t, u) hj
     omega
    ·obtain ⟨j2, b, b1, b2, b3⟩ := hb.reach v.reverse t (Kv h v.reverse t (by rw [List.reverse_reverse]; exact hv) (by rw [List.reverse_reverse]; exact e)) fun c hc => (atEnd c hc).elim
     have hb2 : b.2 = u := by
      have h1 : (L.map (·.1))[j]? = some t := by rw [List.getElem?_map, hj]; rfl
      have h2 : (L.map (·.1))[j2]? = some t := by rw [List.getElem?_map, b1]; exact congrArg some b2
      have := ((List.getElem?_inj (List.getElem?_eq_some_iff.1 h1).1 hq.nodup).1 (h1.trans h2.symm))
      subst this
      rw [hj] at b1
      cases b1; rfl
     rw [hb2, z8w, z8w, List.reverse_reverse] at b3
     exact b3
   ·refine .inr ⟨(hp.rest t ht fun j c hj hc e => hex ⟨c.2, by rw [← e]; exact List.mem_of_getElem? hc⟩).1, fun v hv e => ?_⟩
    obtain ⟨j2, b, b1, b2, _⟩ := hb.reach v.reverse t (Kv h v.reverse t (by rw [List.reverse_reverse]; exact hv) (by rw [List.reverse_reverse]; exact e)) fun c hc => (atEnd c hc).elim
    exact hex ⟨b.2, by rw [← b2]; exact List.mem_of_getElem? b1⟩
 ·rintro t ⟨l, is, rfl, ha⟩
  simp only
  unfold jg
  exact zF.2 ha
theorem Us : Ret (jm m) fun r => r.2.2 = 0 ∧ z57 m (r.1, r.2.1) := by
 unfold jm
 rw [Uo, z7o h, oB, bne_self_eq_false, cond_false, wm]
 exact (Jx h).mono fun r hr => zF.2 ⟨rfl, hr⟩
end
open Classical
section
variable {K : Type} [BEq K] [LawfulBEq K]
def z5a (S : List K) (x : K) : List K := if x ∈ S then S else S ++ [x]
def mks (S : List K) : List (K × Bool) := S.map fun x => (x, true)
theorem Ue {S : List K} {x y : K} : y ∈ z5a S x ↔ y ∈ S ∨ y = x := by
 unfold z5a
 split
 ·rename_i h
  exact ⟨.inl, fun q => q.elim id (fun e => e ▸ h)⟩
 ·simp
theorem z3S : ∀ {S : List K} {x : K}, x ∈ S → Uc (mks S) x true = mks S
 | [], x, h => by simp at h
 | y :: S, x, h => by
  show (if (y == x) = true then (x, true) :: mks S else (y, true) :: Uc (mks S) x true) = (y, true) :: mks S
  by_cases e : (y == x) = true
  ·rw [if_pos e, eq_of_beq e]
  ·rw [if_neg e]
   have : x ∈ S := by
    rcases List.mem_cons.1 h with q | q
    ·subst q; exact (e (beq_self_eq_true x)).elim
    ·exact q
   rw [z3S this]
theorem z1M : ∀ {S : List K} {x : K}, x ∉ S → Uc (mks S) x true = mks (S ++ [x])
 | [], x, _ => rfl
 | y :: S, x, h => by
  show (if (y == x) = true then (x, true) :: mks S else (y, true) :: Uc (mks S) x true) = (y, true) :: mks (S ++ [x])
  have e : ¬ (y == x) = true := fun e => h (by rw [eq_of_beq e]; simp)
  rw [if_neg e, z1M (fun q => h (by simp [q]))]
theorem K5 (S : List K) (x : K) : Uc (mks S) x true = mks (z5a S x) := by
 unfold z5a
 split
 ·rename_i h; exact z3S h
 ·rename_i h; exact z1M h
theorem Ud : ∀ (S : List K) (x : K), (z2O (mks S) x).getD false = decide (x ∈ S)
 | [], x => by simp [mks, z2O]
 | y :: S, x => by
  show ((if (y == x) = true then some true else z2O (mks S) x) : Option Bool).getD false = _
  by_cases e : (y == x) = true
  ·rw [if_pos e, eq_of_beq e]; simp
  ·rw [if_neg e, Ud S x]
   have : x ≠ y := fun q => e (by rw [q]; exact beq_self_eq_true y)
   simp [this]
end
instance : LawfulBEq z8 := {
 eq_of_beq := by
  rintro ⟨a, b, c⟩ ⟨d, e, f⟩ h
  simp only [BEq.beq, Bool.and_eq_true, decide_eq_true_eq] at h
  simp_all
 rfl := by
  rintro ⟨a, b, c⟩
  simp [BEq.beq] }
instance : LawfulBEq (xv Int) := {
 eq_of_beq := by
  rintro ⟨a, b⟩ ⟨d, e⟩ h
  simp only [BEq.beq, Bool.and_eq_true, decide_eq_true_eq] at h
  simp_all
 rfl := by
  rintro ⟨a, b⟩
  simp [BEq.beq] }
abbrev Mk3 := List Int × List (xv Int) × List z8
def mk3 (x : Mk3) : zf := ⟨mks x.1, mks x.2.1, mks x.2.2⟩
def zaP (Z : List z8) (bf : Option (Nat × Nat)) (i : Nat) : List z8 := match bf with | some p => z5a Z ⟨p.1, p.2, i⟩ | none => Z
def VQ (m : z7) : Nat → Option (Nat × Nat) → List Nat → Mk3 → Mk3
 | _, _, [], x => x
 | s, bf, i :: w, x => if (E m s i).To = -1 then x else VQ m (E m s i).To.toNat (some (s, i)) w (z5a x.1 (E m s i).To, z5a x.2.1 ⟨s, i⟩, zaP x.2.2 bf i)
def z4t (m : z7) (s : Nat) : Nat → List Nat → Prop
 | t, [] => s = t
 | t, i :: w => s = t ∨ ((E m t i).To ≠ -1 ∧ z4t m s (E m t i).To.toNat w)
def z6r (m : z7) (s j : Nat) : Nat → List Nat → Prop
 | _, [] => False
 | t, i :: w => (E m t i).To ≠ -1 ∧ ((s = t ∧ j = i) ∨ z6r m s j (E m t i).To.toNat w)
def nxt (m : z7) (k t : Nat) : List Nat → Prop
 | [] => False
 | i :: _ => i = k ∧ (E m t k).To ≠ -1
def z6q (m : z7) (s j k : Nat) : Nat → List Nat → Prop
 | _, [] => False
 | t, i :: w => (E m t i).To ≠ -1 ∧ ((s = t ∧ j = i ∧ nxt m k (E m t i).To.toNat w) ∨ z6q m s j k (E m t i).To.toNat w)
section
variable {m : z7} (h : VM m)
include h
theorem z4s (s : Nat) (w : List Nat) : z4t m s s w := by have _ := h; cases w <;> simp [z4t]
theorem KG {t i : Nat} (ht : t < m.Rows.length) (hi : i < kk m) (hn : (E m t i).To ≠ -1) : (E m t i).To.toNat < m.Rows.length ∧ (((E m t i).To.toNat : Nat) : Int) = (E m t i).To := by
 rcases h.edgeAt ht hi with q | q
 ·exact (hn q.1).elim
 ·omega
theorem zah : ∀ (w : List Nat) (t : Nat) (bf : Option (Nat × Nat)) (x : Mk3) (s : Nat), t < m.Rows.length → Wd (kk m) w → (t : Int) ∈ x.1 → ((s : Int) ∈ (VQ m t bf w x).1 ↔ (s : Int) ∈ x.1 ∨ z4t m s t w)
 | [], t, bf, x, s, _, _, hx => by
  simp only [VQ, z4t]
  exact ⟨.inl, fun q => q.elim id (fun e => e ▸ hx)⟩
 | i :: w, t, bf, x, s, ht, hw, hx => by
  have hi : i < kk m := hw i (by simp)
  simp only [VQ, z4t]
  by_cases hn : (E m t i).To = -1
  ·rw [if_pos hn]
   simp only [hn, ne_eq, not_true_eq_false, false_and, or_false]
   exact ⟨.inl, fun q => q.elim id (fun e => e ▸ hx)⟩
  ·rw [if_neg hn]
   obtain ⟨q1, q2⟩ := KG h ht hi hn
   rw [zah w _ _ _ s q1 (fun j hj => hw j (by simp [hj])) (by show (((E m t i).To.toNat : Nat) : Int) ∈ z5a x.1 _; rw [Ue, q2]; exact .inr rfl)]
   show (s : Int) ∈ z5a x.1 _ ∨ _ ↔ _
   rw [Ue]
   constructor
   ·rintro ((q | q) | q)
    ·exact .inl q
    ·have : s = (E m t i).To.toNat := by omega
     exact .inr (.inr ⟨hn, this ▸ z4s h _ _⟩)
    ·exact .inr (.inr ⟨hn, q⟩)
   ·rintro (q | q | q)
    ·exact .inl (.inl q)
    ·exact .inl (.inl (q ▸ hx))
    ·exact .inr q.2
theorem zaj : ∀ (w : List Nat) (t : Nat) (bf : Option (Nat × Nat)) (x : Mk3) (s j : Nat), t < m.Rows.length → Wd (kk m) w → ((⟨s, j⟩ : xv Int) ∈ (VQ m t bf w x).2.1 ↔ (⟨s, j⟩ : xv Int) ∈ x.2.1 ∨ z6r m s j t w)
 | [], t, bf, x, s, j, _, _ => by simp only [VQ, z6r, or_false]
 | i :: w, t, bf, x, s, j, ht, hw => by
  have hi : i < kk m := hw i (by simp)
  simp only [VQ, z6r]
  by_cases hn : (E m t i).To = -1
  ·rw [if_pos hn]; simp [hn]
  ·rw [if_neg hn]
   obtain ⟨q1, q2⟩ := KG h ht hi hn
   rw [zaj w _ _ _ s j q1 (fun j hj => hw j (by simp [hj]))]
   show (⟨s, j⟩ : xv Int) ∈ z5a x.2.1 _ ∨ _ ↔ _
   rw [Ue, xv.mk.injEq]
   constructor
   ·rintro ((q | q) | q)
    ·exact .inl q
    ·exact .inr ⟨hn, .inl (by omega)⟩
    ·exact .inr ⟨hn, .inr q⟩
   ·rintro (q | ⟨_, q | q⟩)
    ·exact .inl (.inl q)
    ·exact .inl (.inr (by omega))
    ·exact .inr q
theorem zai : ∀ (w : List Nat) (t : Nat) (bf : Option (Nat × Nat)) (x : Mk3) (s j k : Nat), t < m.Rows.length → Wd (kk m) w →
  ((⟨s, j, k⟩ : z8) ∈ (VQ m t bf w x).2.2 ↔ (⟨s, j, k⟩ : z8) ∈ x.2.2 ∨ (bf = some (s, j) ∧ nxt m k t w) ∨ z6q m s j k t w)
 | [], t, bf, x, s, j, k, _, _ => by simp only [VQ, z6q, nxt, and_false, or_false]
 | i :: w, t, bf, x, s, j, k, ht, hw => by
  have hi : i < kk m := hw i (by simp)
  simp only [VQ, z6q, nxt]
  by_cases hn : (E m t i).To = -1
  ·rw [if_pos hn]
   constructor
   ·exact .inl
   ·rintro (q | ⟨_, rfl, q⟩ | ⟨q, _⟩)
    ·exact q
    ·exact (q hn).elim
    ·exact (q hn).elim
  ·rw [if_neg hn]
   obtain ⟨q1, q2⟩ := KG h ht hi hn
   rw [zai w _ _ _ s j k q1 (fun j hj => hw j (by simp [hj]))]
   have hz : ((⟨s, j, k⟩ : z8) ∈ zaP x.2.2 bf i) ↔ ((⟨s, j, k⟩ : z8) ∈ x.2.2 ∨ (bf = some (s, j) ∧ i = k)) := by
    unfold zaP
    cases bf with
    | none => simp
    | some p =>
     obtain ⟨a, b⟩ := p
     simp only [Ue, z8.mk.injEq, Option.some.injEq, Prod.mk.injEq]
     constructor
     ·rintro (q | q)
      ·exact .inl q
      ·exact .inr (by omega)
     ·rintro (q | q)
      ·exact .inl q
      ·exact .inr (by omega)
   show (⟨s, j, k⟩ : z8) ∈ zaP x.2.2 bf i ∨ _ ↔ _
   rw [hz]
   simp only [Option.some.injEq, Prod.mk.injEq]
   constructor
   ·rintro ((q | ⟨q, rfl⟩) | ⟨⟨rfl, rfl⟩, q⟩ | q)
    ·exact .inl q
    ·exact .inr (.inl ⟨q, rfl, hn⟩)
    ·exact .inr (.inr ⟨hn, .inl ⟨rfl, rfl, q⟩⟩)
    ·exact .inr (.inr ⟨hn, .inr q⟩)
   ·rintro (q | ⟨q, rfl, _⟩ | ⟨_, ⟨rfl, rfl, q⟩ | q⟩)
    ·exact .inl (.inl q)
    ·exact .inl (.inr ⟨q, rfl⟩)
    ·exact .inr (.inl ⟨⟨rfl, rfl⟩, q⟩)
    ·exact .inr (.inr q)
theorem z75 (hw : Wd (kk m) w) (hl : w.length < 4611686018427387904) (x : Mk3) : xV m (w.map Int.ofNat) (mk3 x) = some (mk3 (VQ m 0 none w x)) := by
 unfold xV
 have key : loop (fun s => xS m (w.map Int.ofNat) s.1 s.2.1 s.2.2.1 s.2.2.2.1 s.2.2.2.2.1 s.2.2.2.2.2.1 s.2.2.2.2.2.2) ((mk3 x).states_, (mk3 x).edges_, (mk3 x).pairs_, 0, (-1), (-1), 0) = some (mk3 (VQ m 0 none w x)) := by
  refine Ret.eq (vt (fun s => ∃ (u v : List Nat) (t : Nat) (bf : Option (Nat × Nat)) (y : Mk3), w = u ++ v ∧ t < m.Rows.length ∧ VQ m t bf v y = VQ m 0 none w x ∧ s = (mks y.1, mks y.2.1, mks y.2.2, (t : Int), (match bf with | some p => (p.1 : Int) | none => -1), (match bf with | some p => (p.2 : Int) | none => -1), (u.length : Int)))
   (fun s => w.length - s.2.2.2.2.2.2.toNat) ⟨[], w, 0, none, x, rfl, h.len1, rfl, rfl⟩ (by simp only; omega) ?_)
  rintro s ⟨u, v, t, bf, y, rfl, ht, hr, rfl⟩
  simp only
  unfold xS
  rw [wr]
  cases v with
  | nil =>
   constructor
   ·intro hc
    simp at hc
   ·intro _
    rw [zF, ← hr]
    rfl
  | cons i v =>
   have hi : i < kk m := hw i (by simp)
   constructor
   ·intro _
    have hix : idx ((u ++ i :: v).map Int.ofNat) (u.length : Int) = some (i : Int) := by
     rw [yQ, List.getElem?_map, List.getElem?_append_right (Nat.le_refl _)]
     simp
    rw [hix, oB, h.edge_eq ht hi, wr]
    have hr' := hr
    simp only [VQ] at hr'
    constructor
    ·intro hc
     rw [if_pos (by simpa using hc)] at hr'
     rw [zF, ← hr']
     rfl
    ·intro hc
     have hn : ¬ (E m t i).To = -1 := by simpa using hc
     rw [if_neg hn] at hr'
     obtain ⟨q1, q2⟩ := KG h ht hi hn
     have hw1 : w64 ((u.length : Int) + 1) = (((u ++ [i]).length : Nat) : Int) := by
      rw [List.length_append, List.length_singleton]
      exact yY (by simp at hl; omega)
     have fin : ∀ Z, Z = mks (zaP y.2.2 bf i) → Ret (yV (mks y.1) (mks y.2.1) (t : Int) (u.length : Int) (i : Int) (E m t i) Z)
       (LRP (fun s' => (∃ (u' v' : List Nat) (t : Nat) (bf : Option (Nat × Nat)) (y : Mk3), u ++ i :: v = u' ++ v' ∧ t < m.Rows.length ∧ VQ m t bf v' y = VQ m 0 none (u ++ i :: v) x ∧ s' = (mks y.1, mks y.2.1, mks y.2.2, (t : Int), (match bf with | some p => (p.1 : Int) | none => -1), (match bf with | some p => (p.2 : Int) | none => -1), (u'.length : Int))) ∧ (u ++ i :: v).length - s'.2.2.2.2.2.2.toNat < (u ++ i :: v).length - ((u.length : Int)).toNat) fun t => t = mk3 (VQ m 0 none (u ++ i :: v) x)) := by
      rintro Z rfl
      unfold yV
      rw [zF]
      refine ⟨⟨u ++ [i], v, (E m t i).To.toNat, some (t, i), _, by simp, q1, hr', ?_⟩, ?_⟩
      ·rw [K5, K5, hw1, q2]
      ·simp only
       rw [hw1]
       simp
       omega
     rw [wr]
     cases bf with
     | none => exact ⟨fun q => by simp at q, fun _ => fin _ rfl⟩
     | some p => exact ⟨fun _ => fin _ (K5 _ _), fun q => by simp at q⟩
   ·intro hc
    simp at hc
    omega
 rw [key]
 rfl
end
structure qd where
 State : Int
 Input : Int
 Next : Int
open Classical
def wN (w : List Nat) : List Int := w.map Int.ofNat
def lN (l : List (List Nat)) : List (List Int) := l.map wN
theorem QQ (w : List Nat) : (wN w).length = w.length := by simp [wN]
theorem qr (l : List (List Nat)) : (lN l).length = l.length := by simp [lN]
theorem z20 {l : List (List Nat)}   (h : l[i]? = some w) : idx (lN l) (i : Int) = some (wN w) := by
 rw [yQ, lN, List.getElem?_map, h]; rfl
def cvA (m : z7) (l : List (List Nat)) (x : Mk3) : Mk3 := l.foldl (fun x w => VQ m 0 none w x) x
def cv0 (m : z7) (l : List (List Nat)) : Mk3 := cvA m l ([0], [], [])
def WL (m : z7) (l : List (List Nat)) : Prop := l.length ≤ 4096 ∧ ∀ w ∈ l, Wd (kk m) w ∧ w.length ≤ 256
def z2R (m : z7) (x : qd) : Nat → List Nat → Prop
 | t, [] => x.Input = -1 ∧ x.State = (t : Int)
 | t, i :: w => (x.Input = -1 ∧ x.State = (t : Int)) ∨ ((E m t i).To ≠ -1 ∧ ((x.State = (t : Int) ∧ x.Input = (i : Int) ∧ (x.Next = -1 ∨ ∃ k : Nat, x.Next = (k : Int) ∧ nxt m k (E m t i).To.toNat w)) ∨ z2R m x (E m t i).To.toNat w))
section
variable {m : z7} (h : VM m)
include h
theorem ZN {l : List (List Nat)} (hl : WL m l) : yH m (lN l) = some (mk3 (cv0 m l)) := by
 unfold yH ui
 rw [oB]
 have key : loop (fun s => xM m (lN l) s.1 s.2.1 s.2.2.1 s.2.2.2) (Uc ([] : List (Int × Bool)) 0 true, ([] : List ((xv Int) × Bool)), ([] : List (z8 × Bool)), (0 : Int)) = some ((mk3 (cv0 m l)).states_, (mk3 (cv0 m l)).edges_, (mk3 (cv0 m l)).pairs_) := by
  have e0 : (List.range l.length).foldl (fun s i => VQ m 0 none ((l[i]?).getD []) s) ([0], [], []) = cv0 m l := UT (fun w s => VQ m 0 none w s) [] l _
  rw [← e0]
  refine z0b (σ := Mk3) (fun y i => ((mk3 y).states_, (mk3 y).edges_, (mk3 y).pairs_, (i : Int))) (fun i y => VQ m 0 none ((l[i]?).getD []) y) (fun _ _ => True) l.length (by have := hl.1; omega) (s0 := ([0], [], [])) trivial ?_ ?_
  ·intro i y hi _
   refine ⟨?_, trivial⟩
   have hw := List.getElem?_eq_getElem hi
   have hm := hl.2 _ (List.getElem_mem hi)
   unfold xM
   rw [qr]
   simp only
   rw [show decide ((i : Int) < (l.length : Int)) = true by simp [hi], cond_true, z20 hw, oB]
   have hr := z75 h hm.1 (by omega) y
   rw [show (zf.mk (mk3 y).states_ (mk3 y).edges_ (mk3 y).pairs_) = mk3 y from rfl, show wN l[i] = l[i].map Int.ofNat from rfl, hr, oB, yY (by have := hl.1; omega), hw]
   rfl
  ·intro _
   unfold xM
   rw [qr]
   simp
 rw [key]
 rfl
theorem z94 {l : List (List Nat)} : ∀ {x : Mk3}, (∀ w ∈ l, Wd (kk m) w) → (0 : Int) ∈ x.1 →
  (∀ s : Nat, (s : Int) ∈ (cvA m l x).1 ↔ (s : Int) ∈ x.1 ∨ ∃ w ∈ l, z4t m s 0 w) ∧ (∀ s j : Nat, (⟨s, j⟩ : xv Int) ∈ (cvA m l x).2.1 ↔ (⟨s, j⟩ : xv Int) ∈ x.2.1 ∨ ∃ w ∈ l, z6r m s j 0 w) ∧
  (∀ s j k : Nat, (⟨s, j, k⟩ : z8) ∈ (cvA m l x).2.2 ↔ (⟨s, j, k⟩ : z8) ∈ x.2.2 ∨ ∃ w ∈ l, z6q m s j k 0 w) := by
 induction l with
 | nil => intro x _ _; simp [cvA]
 | cons w l ih =>
  intro x hw hx
  have hw1 := hw w (by simp)
  have h1 := fun s => zah h w 0 none x s h.len1 hw1 hx
  have h2 := fun s j => zaj h w 0 none x s j h.len1 hw1
  have h3 := fun s j k => zai h w 0 none x s j k h.len1 hw1
  obtain ⟨a1, a2, a3⟩ := ih (x := VQ m 0 none w x) (fun u hu => hw u (by simp [hu])) (by have := (h1 0).2 (.inl hx); simpa using this)
  have e : cvA m (w :: l) x = cvA m l (VQ m 0 none w x) := rfl
  rw [e]
  refine ⟨fun s => ?_, fun s j => ?_, fun s j k => ?_⟩
  ·rw [a1, h1]; simp only [List.mem_cons, exists_eq_or_imp]
   exact or_assoc
  ·rw [a2, h2]; simp only [List.mem_cons, exists_eq_or_imp]
   exact or_assoc
  ·rw [a3, h3]; simp only [List.mem_cons, exists_eq_or_imp, reduceCtorEq, false_and, false_or]
   exact or_assoc
def z2p (m : z7) (l : List (List Nat)) (x : qd) : Prop := (∃ w ∈ l, z2R m x 0 w) ∨ x = ⟨0, -1, -1⟩
omit h in
theorem z4u (s : Nat) : ∀ (w : List Nat) (t : Nat), z2R m ⟨s, -1, -1⟩ t w ↔ z4t m s t w
 | [], t => by simp only [z2R, z4t, true_and]; omega
 | i :: w, t => by
  simp only [z2R, z4t, z4u s w, true_and]
  constructor
  ·rintro (q | ⟨q, ⟨_, q2, _⟩ | q2⟩)
   ·exact .inl (by omega)
   ·omega
   ·exact .inr ⟨q, q2⟩
  ·rintro (q | ⟨q, q2⟩)
   ·exact .inl (by omega)
   ·exact .inr ⟨q, .inr q2⟩
omit h in
theorem z4w (s j : Nat) : ∀ (w : List Nat) (t : Nat), z2R m ⟨s, j, -1⟩ t w ↔ z6r m s j t w
 | [], t => by simp only [z2R, z6r, iff_false]; omega
 | i :: w, t => by
  simp only [z2R, z6r, z4w s j w]
  constructor
  ·rintro (q | ⟨q, ⟨q2, q3, _⟩ | q2⟩)
   ·omega
   ·exact ⟨q, .inl (by omega)⟩
   ·exact ⟨q, .inr q2⟩
  ·rintro ⟨q, q2 | q2⟩
   ·exact .inr ⟨q, .inl ⟨by omega, by omega, .inl trivial⟩⟩
   ·exact .inr ⟨q, .inr q2⟩
omit h in
theorem z4v (s j k : Nat) : ∀ (w : List Nat) (t : Nat), z2R m ⟨s, j, k⟩ t w ↔ z6q m s j k t w
 | [], t => by simp only [z2R, z6q, iff_false]; omega
 | i :: w, t => by
  simp only [z2R, z6q, z4v s j k w]
  constructor
  ·rintro (q | ⟨q, ⟨q2, q3, q4 | ⟨k', q4, q5⟩⟩ | q2⟩)
   ·omega
   ·omega
   ·have : k' = k := by omega
    exact ⟨q, .inl ⟨by omega, by omega, this ▸ q5⟩⟩
   ·exact ⟨q, .inr q2⟩
  ·rintro ⟨q, ⟨q2, q3, q4⟩ | q2⟩
   ·exact .inr ⟨q, .inl ⟨by omega, by omega, .inr ⟨k, rfl, q4⟩⟩⟩
   ·exact .inr ⟨q, .inr q2⟩
end
open Classical
theorem z28 (g : Nat → List α) (out : List α) : ∀ n, (List.range n).foldl (fun s i => s ++ g i) out = out ++ (List.range n).flatMap g
 | 0 => by simp
 | n + 1 => by rw [List.range_succ, List.foldl_append, z28 g out n, List.flatMap_append]; simp
theorem z29 {g : Nat → List α} {C : Nat} : ∀ n, (∀ i, i < n → (g i).length ≤ C) → ((List.range n).flatMap g).length ≤ C * n
 | 0, _ => by simp
 | n + 1, h => by
  rw [List.range_succ, List.flatMap_append, List.length_append, List.flatMap_cons, List.flatMap_nil, List.append_nil, Nat.mul_succ]
  have := z29 n fun i hi => h i (by omega)
  have := h n (by omega)
  omega
theorem jq {step : List α × Int → Option (LR (List α × Int) (List α))} (g : Nat → List α) (n : Nat) (hn : n < 9223372036854775808) (C L0 : Nat) {out0 : List α} (h0 : out0.length ≤ L0) (hg : ∀ i, i < n → (g i).length ≤ C)
  (h : ∀ i out, i < n → out.length ≤ L0 + C * n → step (out, (i : Int)) = some (.next (out ++ g i, ((i + 1 : Nat) : Int)))) (hd : ∀ out, step (out, (n : Int)) = some (.done out)) : loop step (out0, 0) = some (out0 ++ (List.range n).flatMap g) := by
 rw [← z28]
 refine z0b (σ := List α) (fun o i => (o, (i : Int))) (fun i o => o ++ g i) (fun i o => o.length ≤ L0 + C * i) n hn (by simpa using h0) ?_ fun _ => hd _
 intro i o hi ho
 have h1 : C * i ≤ C * n := Nat.mul_le_mul_left _ (by omega)
 refine ⟨h i o hi (by omega), ?_⟩
 have := hg i hi
 rw [List.length_append, Nat.mul_add]
 omega
theorem z1S {σ τ : Type} {step : σ → Option (LR σ τ)} {s : σ} {t : τ} (h : step s = some (.done t)) : loop step s = some t := by
 refine Ret.eq (vt (fun x => x = s) (fun _ => 0) rfl (by decide) ?_)
 rintro x rfl
 rw [h, zF]
 rfl
abbrev T3 := Nat × Nat × Nat
def Rc (m : z7) (t : Nat) : Prop := ∃ u, Wd (kk m) u ∧ aft m 0 u = (t : Int)
def z2L (m : z7) (t : Nat) : List Nat := if h : ∃ v, Acc m t v then h.choose else []
def z9i (m : z7) (s i : Nat) : List T3 := (List.range (kk m)).flatMap fun j => if (E m (E m s i).To.toNat j).To = -1 then [] else [(s, i, j)]
def z2S (m : z7) (g s i : Nat) : List T3 := if (E m s i).To = -1 then [] else if g = 1 then [(s, i, 0)] else z9i m s i
def z5d (m : z7) (g s : Nat) : List T3 := if g = 0 then [(s, 0, 0)] else (List.range (kk m)).flatMap (z2S m g s)
def GL (m : z7) (g : Nat) : List T3 := (List.range m.Rows.length).flatMap fun s => if Rc m s then z5d m g s else []
def toI (g : Nat) (t : T3) : qd := if g = 0 then ⟨t.1, -1, -1⟩ else if g = 1 then ⟨t.1, t.2.1, -1⟩ else ⟨t.1, t.2.1, t.2.2⟩
def toC (m : z7) (g : Nat) (t : T3) : za :=
 if g = 0 then ⟨wN (z2L m t.1), ⟨t.1, 0, 0⟩, .inl t.1⟩ else if g = 1 then ⟨wN (z2L m t.1) ++ [(t.2.1 : Int)], ⟨t.1, t.2.1, 0⟩, .inr (.inl (t.1, t.2.1))⟩
 else ⟨wN (z2L m t.1) ++ [(t.2.1 : Int)] ++ [(t.2.2 : Int)], ⟨t.1, t.2.1, t.2.2⟩, .inr (.inr ⟨t.1, t.2.1, t.2.2⟩)⟩
theorem K8 {α β : Type} (f : α → β) (g : Nat → List α) (l : List Nat) : (l.flatMap g).map f = l.flatMap fun i => (g i).map f := by
 rw [List.map_flatMap]
variable {g : Nat}
section
variable {m : z7} (h : VM m)
include h
theorem z6D (s i : Nat) : (z9i m s i).length ≤ 16 := by
 have := z29 (g := fun j => if (E m (E m s i).To.toNat j).To = -1 then [] else [(s, i, j)]) (C := 1) (kk m) (fun j _ => by split <;> simp)
 have := h.kk_le
 unfold z9i
 omega
theorem z2m (g s i : Nat) : (z2S m g s i).length ≤ 16 := by
 unfold z2S
 split
 ·simp
 split
 ·simp
 ·exact z6D h s i
theorem z2l (g s : Nat) : (z5d m g s).length ≤ 256 := by
 unfold z5d
 split
 ·simp
 ·have := z29 (g := z2S m g s) (C := 16) (kk m) (fun i _ => z2m h g s i)
  have := h.kk_le
  omega
theorem z7w {r : List (List Int) × List Bool} (hr : z57 m r) {t : Nat} (ht : t < m.Rows.length) : r.2[t]? = some (decide (Rc m t)) ∧ (Rc m t → r.1[t]? = some (wN (z2L m t)) ∧ Acc m t (z2L m t)) := by
 have _ := h
 rcases hr.2.2 t ht with ⟨q1, v, q2, q3⟩ | ⟨q1, q2⟩
 ·have hc : Rc m t := ⟨v, q3.wd, q3.aft⟩
  refine ⟨by rw [q1, decide_eq_true hc], fun _ => ?_⟩
  have he : ∃ v, Acc m t v := ⟨v, q3⟩
  have : z2L m t = v := by
   unfold z2L
   rw [dif_pos he]
   exact z6N he.choose_spec q3
  rw [this]
  exact ⟨q2, q3⟩
 ·have hc : ¬ Rc m t := fun ⟨u, k1, k2⟩ => q2 u k1 k2
  exact ⟨by rw [q1, decide_eq_false hc], fun k => (hc k).elim⟩
theorem Uq (hg : g < 3) : va m (g : Int) = some ((GL m g).map (toC m g)) := by
 obtain ⟨r, e, _, hr⟩ := Us h
 unfold va
 rw [e, oB]
 have hn := h.len64
 have hk := h.kk_le
 have key : loop (fun s => wX m (g : Int) r s.1 s.2) (([] : List za), (0 : Int)) = some ([] ++ (List.range m.Rows.length).flatMap fun s => ((if Rc m s then z5d m g s else []).map (toC m g))) := by
  refine jq (fun s => (if Rc m s then z5d m g s else []).map (toC m g)) m.Rows.length (by omega) 256 0 (Nat.le_refl _) ?_ ?_ ?_
  ·intro s hs
   rw [List.length_map]
   split
   ·exact z2l h g s
   ·simp
  ·intro s out hs ho
   obtain ⟨a1, a2⟩ := z7w h hr hs
   obtain ⟨R, b1, b2, b3⟩ := h.rowAt hs
   unfold wX
   simp only
   rw [show decide ((s : Int) < (m.Rows.length : Int)) = true by simp [hs], cond_true, yQ, b1, oB, yQ, a1, oB]
   have hw : w64 ((s : Int) + 1) = ((s + 1 : Nat) : Int) := yY (by omega)
   by_cases hc : Rc m s
   ·obtain ⟨c1, c2⟩ := a2 hc
    have hal : (wN (z2L m s)).length ≤ 64 := by rw [QQ]; have := c2.len; omega
    rw [decide_eq_true hc, Bool.not_true, cond_false, if_pos hc]
    by_cases h0 : g = 0
    ·subst h0
     rw [show ((((0 : Nat) : Int)) == 0) = true from rfl, cond_true, yQ, c1, oB, gdT (by simp; omega)]
     unfold xO
     rw [hw]
     rfl
    ·rw [show (((g : Int)) == 0) = false by simp; omega, cond_false]
     have e4 : loop (fun s_1 => wW m (g : Int) r (s : Int) R s_1.1 s_1.2) (out, (0 : Int)) = some (out ++ (List.range (kk m)).flatMap fun i => (z2S m g s i).map (toC m g)) := by
      refine jq (fun i => (z2S m g s i).map (toC m g)) (kk m) (by omega) 16 20000 (by omega) (fun i _ => by rw [List.length_map]; exact z2m h g s i) ?_ ?_
      ·intro i out hi ho
       unfold wW
       simp only
       rw [b2, show decide ((i : Int) < (kk m : Int)) = true by simp [hi], cond_true, yQ, b3 i hi, oB]
       have hwi : w64 ((i : Int) + 1) = ((i + 1 : Nat) : Int) := yY (by omega)
       by_cases hn1 : (E m s i).To = -1
       ·rw [show ((E m s i).To == -1) = true by simp [hn1], cond_true]
        unfold xN z2S
        rw [if_pos hn1, hwi]
        simp
       ·obtain ⟨t1, t2⟩ := KG h hs hi hn1
        rw [show ((E m s i).To == -1) = false by simp [hn1], cond_false, yQ, c1, oB, Yd _ (by omega), oB, XU, oB, gdT (by simp; omega)]
        by_cases h1 : g = 1
        ·subst h1
         rw [show ((((1 : Nat) : Int)) == 1) = true from rfl, cond_true, gdT (by simp; omega)]
         unfold xN z2S
         rw [if_neg hn1, if_pos rfl, hwi]
         rfl
        ·have h2 : g = 2 := by omega
         subst h2
         rw [show ((((2 : Nat) : Int)) == 1) = false from rfl, cond_false]
         obtain ⟨R2, d1, d2, d3⟩ := h.rowAt t1
         rw [← t2, yQ, d1, oB]
         have e6 : loop (fun s_1 => wV (s : Int) (i : Int) (wN (z2L m s)) R2 s_1.1 s_1.2) (out, (0 : Int)) = some (out ++ (List.range (kk m)).flatMap fun j => (if (E m (E m s i).To.toNat j).To = -1 then [] else [(s, i, j)]).map (toC m 2)) := by
          refine jq (fun j => (if (E m (E m s i).To.toNat j).To = -1 then [] else [(s, i, j)]).map (toC m 2)) (kk m) (by omega) 1 40000 (by omega) (fun j _ => by rw [List.length_map]; split <;> simp) ?_ ?_
          ·intro j out hj ho
           unfold wV
           simp only
           rw [d2, show decide ((j : Int) < (kk m : Int)) = true by simp [hj], cond_true, yQ, d3 j hj, oB]
           have hwj : w64 ((j : Int) + 1) = ((j + 1 : Nat) : Int) := yY (by omega)
           by_cases hn2 : (E m (E m s i).To.toNat j).To = -1
           ·rw [show ((E m (E m s i).To.toNat j).To != -1) = false by simp [hn2], cond_false, if_pos hn2]
            unfold wY
            rw [hwj]
            simp
           ·rw [show ((E m (E m s i).To.toNat j).To != -1) = true by simp [hn2], cond_true, if_neg hn2, Yd _ (by simp; omega), oB, XU, oB, gdT (by simp; omega), gdT (by simp; omega)]
            unfold wY
            rw [hwj]
            rfl
          ·intro out
           unfold wV
           simp only
           rw [d2]
           simp
         rw [e6, oB]
         unfold xN z2S
         rw [if_neg hn1, if_neg (by decide), hwi]
         unfold z9i
         rw [K8]
      ·intro out
       unfold wW
       simp only
       rw [b2]
       simp
     rw [e4, oB]
     unfold xO
     rw [hw]
     unfold z5d
     rw [if_neg h0, K8]
   ·rw [decide_eq_false hc, Bool.not_false, cond_true, if_neg hc]
    unfold xO
    rw [hw]
    simp
  ·intro out
   unfold wX
   simp
 rw [key, oB]
 unfold uW GL
 rw [List.nil_append, K8]
variable (hG : GG (kk m) m.Rows.length ≤ 1000000000)
include hG
end
open Classical
variable {t : T3}
section
variable {m : z7} (h : VM m)
include h
omit h in
theorem z63 {s i : Nat}  : t ∈ z9i m s i ↔ ∃ j, j < kk m ∧ (E m (E m s i).To.toNat j).To ≠ -1 ∧ t = (s, i, j) := by
 unfold z9i
 rw [List.mem_flatMap]
 constructor
 ·rintro ⟨j, hj, q⟩
  split at q
  ·simp at q
  ·rename_i hn
   exact ⟨j, List.mem_range.1 hj, hn, by simpa using q⟩
 ·rintro ⟨j, hj, hn, rfl⟩
  exact ⟨j, List.mem_range.2 hj, by rw [if_neg hn]; simp⟩
omit h in
theorem z64 {g s i : Nat}  : t ∈ z2S m g s i ↔ (E m s i).To ≠ -1 ∧ ((g = 1 ∧ t = (s, i, 0)) ∨ (g ≠ 1 ∧ t ∈ z9i m s i)) := by
 unfold z2S
 split
 ·rename_i hn; simp [hn]
 ·rename_i hn
  split
  ·rename_i h1; simp [hn, h1]
  ·rename_i h1; simp [hn, h1]
omit h in
theorem z62 {g s : Nat}  : t ∈ z5d m g s ↔ (g = 0 ∧ t = (s, 0, 0)) ∨ (g ≠ 0 ∧ ∃ i, i < kk m ∧ t ∈ z2S m g s i) := by
 unfold z5d
 split
 ·rename_i h0; simp [h0]
 ·rename_i h0
  simp [h0, List.mem_flatMap]
omit h in
theorem zaA : t ∈ GL m g ↔ ∃ s, s < m.Rows.length ∧ Rc m s ∧ t ∈ z5d m g s := by
 unfold GL
 rw [List.mem_flatMap]
 constructor
 ·rintro ⟨s, hs, q⟩
  split at q
  ·rename_i hr; exact ⟨s, List.mem_range.1 hs, hr, q⟩
  ·simp at q
 ·rintro ⟨s, hs, hr, q⟩
  exact ⟨s, List.mem_range.2 hs, by rw [if_pos hr]; exact q⟩
def z9A (g : Nat) (x : Mk3) : Nat := if g = 0 then x.1.length else if g = 1 then x.2.1.length else x.2.2.length
theorem z0u {l : List (List Nat)} (hl : WL m l) :
  (∀ s : Nat, (s : Int) ∈ (cv0 m l).1 ↔ z2p m l ⟨s, -1, -1⟩) ∧ (∀ s j : Nat, (⟨s, j⟩ : xv Int) ∈ (cv0 m l).2.1 ↔ z2p m l ⟨s, j, -1⟩) ∧ (∀ s j k : Nat, (⟨s, j, k⟩ : z8) ∈ (cv0 m l).2.2 ↔ z2p m l ⟨s, j, k⟩) := by
 obtain ⟨a1, a2, a3⟩ := z94 h (l := l) (x := ([0], [], [])) (fun w hw => (hl.2 w hw).1) (by simp)
 refine ⟨fun s => ?_, fun s j => ?_, fun s j k => ?_⟩
 ·show (s : Int) ∈ (cvA m l _).1 ↔ _
  rw [a1]
  unfold z2p
  simp only [z4u, List.mem_singleton, qd.mk.injEq, and_true]
  exact or_comm
 ·show (⟨s, j⟩ : xv Int) ∈ (cvA m l _).2.1 ↔ _
  rw [a2]
  unfold z2p
  simp only [z4w, List.not_mem_nil, false_or, qd.mk.injEq]
  constructor
  ·exact .inl
  ·rintro (q | q)
   ·exact q
   ·omega
 ·show (⟨s, j, k⟩ : z8) ∈ (cvA m l _).2.2 ↔ _
  rw [a3]
  unfold z2p
  simp only [z4v, List.not_mem_nil, false_or, qd.mk.injEq]
  constructor
  ·exact .inl
  ·rintro (q | q)
   ·exact q
   ·omega
end
open Classical
theorem zaE : ∀ {l : List (List Int)}, (∀ w ∈ l, ∃ u : List Nat, w = wN u ∧ Wd (kk m) u ∧ u.length ≤ 256) → ∃ L : List (List Nat), l = lN L ∧ ∀ u ∈ L, Wd (kk m) u ∧ u.length ≤ 256
 | [], _ => ⟨[], rfl, fun u hu => by simp at hu⟩
 | w :: l, h => by
  obtain ⟨u, rfl, q⟩ := h w (by simp)
  obtain ⟨L, rfl, q2⟩ := zaE (l := l) (fun w hw => h w (by simp [hw]))
  refine ⟨u :: L, rfl, fun v hv => ?_⟩
  rcases List.mem_cons.1 hv with e | e
  ·rw [e]; exact q
  ·exact q2 v e
section
variable {m : z7} {l : List (List Nat)}
theorem Qn (v : VM m) (hc : chE m.Inputs (lN l) = 0) : yo m (lN l) = some 0 := by
 unfold yo
 rw [Uo, z7o v, oB, KI, hc]
 rfl
def QI (m : z7) (l : List (List Nat)) : yb := ⟨⟨z9A 0 (cv0 m l), (GL m 0).length⟩, ⟨z9A 1 (cv0 m l), (GL m 1).length⟩, ⟨z9A 2 (cv0 m l), (GL m 2).length⟩⟩
theorem z6s (x : Mk3)  (hg : g < 3) : we (g : Int) (mk3 x) = some (z9A g x : Int) := by
 have hg : g = 0 ∨ g = 1 ∨ g = 2 := by omega
 unfold we mk3 mks z9A
 rcases hg with rfl | rfl | rfl <;> simp <;> rfl
theorem zav (v : VM m) (hl : WL m l) (hc : chE m.Inputs (lN l) = 0) : vb m (lN l) = some (QI m l, 0) := by
 unfold vb
 rw [Qn v hc, oB, show ((0 : Int) != 0) = false from rfl, cond_false, ZN v hl, oB]
 have step : ∀ (n : ZU (xv Int)) (g : Nat), g < 3 → wg m (mk3 (cv0 m l)) n (g : Int) = some (.next (ZU.setI n (g : Int) ⟨(z9A g (cv0 m l) : Int), ((GL m g).length : Int)⟩, ((g + 1 : Nat) : Int))) := by
  intro n g hg
  unfold wg
  rw [show decide ((g : Int) < 3) = true by simp; omega, cond_true, z6s _ hg, oB, Uq v hg, oB, List.length_map, yY (by omega)]
  have : ∃ c, idx (ZU.toL n) (g : Int) = some c := by
   have hg : g = 0 ∨ g = 1 ∨ g = 2 := by omega
   rcases hg with rfl | rfl | rfl <;> exact ⟨_, rfl⟩
  obtain ⟨c, e⟩ := this
  rw [e]
  rfl
 have key : loop (fun s => wg m (mk3 (cv0 m l)) s.1 s.2) ((ZU.mk (xv.mk 0 0) (xv.mk 0 0) (xv.mk 0 0)), (0 : Int)) = some ⟨(QI m l).States, (QI m l).Edges, (QI m l).Pairs⟩ := by
  refine Uf (fun i => (match i with | 0 => (⟨⟨0, 0⟩, ⟨0, 0⟩, ⟨0, 0⟩⟩ : ZU (xv Int)) | 1 => ⟨(QI m l).States, ⟨0, 0⟩, ⟨0, 0⟩⟩ | 2 => ⟨(QI m l).States, (QI m l).Edges, ⟨0, 0⟩⟩ | _ => ⟨(QI m l).States, (QI m l).Edges, (QI m l).Pairs⟩, (i : Int))) 3 (by decide) ?_ ?_
  ·intro i hi
   have hg : i = 0 ∨ i = 1 ∨ i = 2 := by omega
   rcases hg with rfl | rfl | rfl <;> exact step _ _ (by decide)
  ·show wg m (mk3 (cv0 m l)) _ 3 = _
   unfold wg
   rfl
 rw [key]
 rfl
end
open Classical
def WI (m : z7) (g : Nat) (t : T3) : List Nat := if g = 0 then z2L m t.1 else if g = 1 then z2L m t.1 ++ [t.2.1] else z2L m t.1 ++ [t.2.1, t.2.2]
def exS (m : z7) (g : Nat) (out : List (List Nat)) (t : T3) : List (List Nat) := if z2p m out (toI g t) then out else out ++ [WI m g t]
def exL (m : z7) (g : Nat) (l : List (List Nat)) : List (List Nat) := (GL m g).foldl (exS m g) l
def mkd (g : Nat) (t : T3) (x : Mk3) : Prop := if g = 0 then (t.1 : Int) ∈ x.1 else if g = 1 then (⟨t.1, t.2.1⟩ : xv Int) ∈ x.2.1 else (⟨t.1, t.2.1, t.2.2⟩ : z8) ∈ x.2.2
theorem z14 (m : z7) (g : Nat) (t : T3) (x : Mk3) : X6 (toC m g t).has_ (mk3 x) = some (decide (mkd g t x)) := by
 unfold toC mkd
 by_cases h0 : g = 0
 ·simp only [if_pos h0, X6, qz, mk3, Ud]; rfl
 ·by_cases h1 : g = 1
  ·simp only [if_neg h0, if_pos h1, X6, qw, mk3, Ud]; rfl
  ·simp only [if_neg h0, if_neg h1, X6, qu, mk3, Ud]; rfl
theorem z5h (m : z7) (g : Nat) (t : T3) : (toC m g t).word_ = wN (WI m g t) := by
 unfold toC WI
 by_cases h0 : g = 0
 ·simp only [if_pos h0]
 ·by_cases h1 : g = 1
  ·simp only [if_neg h0, if_pos h1]; simp [wN]
  ·simp only [if_neg h0, if_neg h1]; simp [wN]
theorem z92 (m : z7) (g : Nat) (out : List (List Nat)) (t : T3) : ∃ k, exS m g out t = out ++ k ∧ k.length ≤ 1 ∧ ∀ w ∈ k, w = WI m g t := by
 unfold exS
 split
 ·exact ⟨[], by simp, by simp, by simp⟩
 ·exact ⟨[WI m g t], rfl, by simp, by simp⟩
theorem z17 (m : z7) (g : Nat) : ∀ (L : List T3) (out : List (List Nat)), ∃ k, L.foldl (exS m g) out = out ++ k ∧ k.length ≤ L.length ∧ ∀ w ∈ k, ∃ t ∈ L, w = WI m g t
 | [], out => ⟨[], by simp, by simp, by simp⟩
 | t :: L, out => by
  obtain ⟨k1, e1, l1, w1⟩ := z92 m g out t
  obtain ⟨k2, e2, l2, w2⟩ := z17 m g L (exS m g out t)
  refine ⟨k1 ++ k2, by rw [List.foldl_cons, e2, e1, List.append_assoc], by simp; omega, fun w hw => ?_⟩
  rcases List.mem_append.1 hw with q | q
  ·exact ⟨t, by simp, w1 w q⟩
  ·obtain ⟨t', ht, q⟩ := w2 w q
   exact ⟨t', by simp [ht], q⟩
section
variable {m : z7} (h : VM m)
include h
theorem zbe {t : Nat} (ht : t < m.Rows.length) (hr : Rc m t) : Acc m t (z2L m t) := by
 obtain ⟨r, e, _, q⟩ := Us h
 exact ((z7w h q ht).2 hr).2
omit h in
theorem Ku (t i : Nat) (w : List Nat) : aft m (t : Int) (i :: w) = aft m (E m t i).To w := by
 show aft m (nxE m (t : Int) i).To w = _
 rw [K3]
omit h in
theorem Kw (w : List Nat) : aft m (-1) w < 0 := z4Y m w (-1) (by omega)
theorem z2d : ∀ (w : List Nat) (t s : Nat), t < m.Rows.length → Wd (kk m) w → aft m (t : Int) w = (s : Int) → z4t m s t w
 | [], t, s, _, _, q => by
  have q : (t : Int) = (s : Int) := q
  show s = t
  omega
 | i :: w, t, s, ht, hw, q => by
  have hi : i < kk m := hw i (by simp)
  rw [Ku] at q
  have hn : (E m t i).To ≠ -1 := by
   intro e
   rw [e] at q
   have := Kw (m := m) w
   omega
  obtain ⟨q1, q2⟩ := KG h ht hi hn
  rw [← q2] at q
  exact .inr ⟨hn, z2d w _ s q1 (fun j hj => hw j (by simp [hj])) q⟩
theorem z2f : ∀ (u : List Nat) (t s i : Nat), t < m.Rows.length → Wd (kk m) u → aft m (t : Int) u = (s : Int) → (E m s i).To ≠ -1 → ∀ v, z6r m s i t (u ++ i :: v)
 | [], t, s, i, _, _, q, hn, v => by
  have q : (t : Int) = (s : Int) := q
  have : t = s := by omega
  subst this
  exact ⟨hn, .inl ⟨rfl, rfl⟩⟩
 | j :: u, t, s, i, ht, hw, q, hn, v => by
  have hj : j < kk m := hw j (by simp)
  rw [Ku] at q
  have hn' : (E m t j).To ≠ -1 := by
   intro e
   rw [e] at q
   have := Kw (m := m) u
   omega
  obtain ⟨q1, q2⟩ := KG h ht hj hn'
  rw [← q2] at q
  exact ⟨hn', .inr (z2f u _ s i q1 (fun j hj => hw j (by simp [hj])) q hn v)⟩
theorem z2e : ∀ (u : List Nat) (t s i k : Nat), t < m.Rows.length → Wd (kk m) u → aft m (t : Int) u = (s : Int) → (E m s i).To ≠ -1 → (E m (E m s i).To.toNat k).To ≠ -1 → z6q m s i k t (u ++ [i, k])
 | [], t, s, i, k, _, _, q, hn, hn2 => by
  have q : (t : Int) = (s : Int) := q
  have : t = s := by omega
  subst this
  exact ⟨hn, .inl ⟨rfl, rfl, rfl, hn2⟩⟩
 | j :: u, t, s, i, k, ht, hw, q, hn, hn2 => by
  have hj : j < kk m := hw j (by simp)
  rw [Ku] at q
  have hn' : (E m t j).To ≠ -1 := by
   intro e
   rw [e] at q
   have := Kw (m := m) u
   omega
  obtain ⟨q1, q2⟩ := KG h ht hj hn'
  rw [← q2] at q
  exact ⟨hn', .inr (z2e u _ s i k q1 (fun j hj => hw j (by simp [hj])) q hn hn2)⟩
theorem z6R (hg : g < 3)  (ht : t ∈ GL m g) : t.1 < m.Rows.length ∧ Rc m t.1 ∧ (g ≠ 0 → t.2.1 < kk m ∧ (E m t.1 t.2.1).To ≠ -1) ∧ (g = 2 → t.2.2 < kk m ∧ (E m (E m t.1 t.2.1).To.toNat t.2.2).To ≠ -1) := by
 have _ := h
 obtain ⟨s, hs, hr, q⟩ := zaA.1 ht
 rcases z62.1 q with ⟨rfl, rfl⟩ | ⟨h0, i, hi, q⟩
 ·exact ⟨hs, hr, fun q => (q rfl).elim, fun q => by omega⟩
 ·obtain ⟨hn, q⟩ := z64.1 q
  rcases q with ⟨rfl, rfl⟩ | ⟨h1, q⟩
  ·exact ⟨hs, hr, fun _ => ⟨hi, hn⟩, fun q => by omega⟩
  ·obtain ⟨j, hj, hn2, rfl⟩ := z63.1 q
   exact ⟨hs, hr, fun _ => ⟨hi, hn⟩, fun _ => ⟨hj, hn2⟩⟩
theorem z0H (hg : g < 3)  (ht : t ∈ GL m g) : Wd (kk m) (WI m g t) ∧ (WI m g t).length ≤ m.Rows.length + 1 ∧ z2R m (toI g t) 0 (WI m g t) := by
 obtain ⟨a1, a2, a3, a4⟩ := z6R h hg ht
 have ha := zbe h a1 a2
 have hlen := ha.len
 have hg' : g = 0 ∨ g = 1 ∨ g = 2 := by omega
 unfold WI toI
 rcases hg' with rfl | rfl | rfl
 ·simp only [if_true]
  exact ⟨ha.wd, by omega, (z4u _ _ _).2 (z2d h _ 0 _ h.len1 ha.wd ha.aft)⟩
 ·obtain ⟨b1, b2⟩ := a3 (by decide)
  simp only [Nat.one_ne_zero, if_false, if_true]
  refine ⟨fun j hj => ?_, by simp; omega, (z4w _ _ _ _).2 (z2f h _ 0 _ _ h.len1 ha.wd ha.aft b2 [])⟩
  rcases List.mem_append.1 hj with q | q
  ·exact ha.wd j q
  ·simp only [List.mem_singleton] at q; subst q; exact b1
 ·obtain ⟨b1, b2⟩ := a3 (by decide)
  obtain ⟨c1, c2⟩ := a4 rfl
  simp only [show ¬ (2 = 0) by decide, show ¬ (2 = 1) by decide, if_false]
  refine ⟨fun j hj => ?_, by simp; omega, (z4v _ _ _ _ _).2 (z2e h _ 0 _ _ _ h.len1 ha.wd ha.aft b2 c2)⟩
  rcases List.mem_append.1 hj with q | q
  ·exact ha.wd j q
  ·simp only [List.mem_cons, List.not_mem_nil, or_false] at q
   rcases q with rfl | rfl
   ·exact b1
   ·exact c1
variable {l : List (List Nat)} (hl : WL m l) (h12 : l.length ≤ 12 ∧ ∀ w ∈ l, w.length ≤ 8) (hR : m.Rows.length ≤ 6) (h3 : kk m ≤ 3)
include hl h12 hR h3
end
open Classical
def atL {α β : Type} (f : α → List β) : Option α → List β
 | some x => f x
 | none => []
theorem z4k {α β : Type} (f : α → List β) : ∀ L : List α, ((List.range L.length).flatMap fun i => atL f L[i]?) = L.flatMap f
 | [] => by simp
 | x :: L => by
  rw [List.length_cons, List.range_succ_eq_map, List.flatMap_cons, List.flatMap_map, List.flatMap_cons]
  congr 1
  exact z4k f L
theorem z7n {α β : Type} (p : α → Prop) (f : α → β) : ∀ L : List α, (L.flatMap fun x => if p x then [] else [f x]) = (L.filter fun x => !decide (p x)).map f
 | [] => rfl
 | x :: L => by
  rw [List.flatMap_cons, z7n p f L, List.filter_cons]
  by_cases hc : p x <;> simp [hc]
theorem zde (w : List z8) : zR w = some w := by
 unfold zR
 rw [gdT (by simp)]
 simp
def unc (m : z7) (l : List (List Nat)) (g : Nat) : List T3 := (GL m g).filter fun t => !decide (z2p m l (toI g t))
theorem z3X {α β : Type} {step : List β × Int → Option (LR (List β × Int) (List β))} (L : List α) (f : α → β) (hL : L.length < 4611686018427387904)
  (h : ∀ i x, L[i]? = some x → step ((L.take i).map f, (i : Int)) = some (.next ((L.take i).map f ++ [f x], ((i + 1 : Nat) : Int)))) (hd : step (L.map f, (L.length : Int)) = some (.done (L.map f))) : loop step ([], 0) = some (L.map f) := by
 refine Uf (fun i => ((L.take i).map f, (i : Int))) L.length (by omega) ?_ ?_
 ·intro i hi
  have hx := List.getElem?_eq_getElem hi
  show step ((L.take i).map f, (i : Int)) = some (.next ((L.take (i + 1)).map f, ((i + 1 : Nat) : Int)))
  rw [h i _ hx, List.take_add_one, hx, List.map_append]
  rfl
 ·simp only [List.take_length]; exact hd
open Classical
theorem z5w (l k : List (List Int)) : jE (l ++ k) = jE l + jE k := by unfold jE; rw [List.map_append, List.sum_append]
theorem QR : ∀ {s L : List (List Int)}, s.Nodup → (∀ x ∈ s, x ∈ L) → jE s ≤ jE L
 | [], _, _, _ => by simp [jE]
 | x :: s, L, hn, hs => by
  have hx : x ∈ L := hs x (by simp)
  have hp := List.perm_cons_erase hx
  have e : jE L = jE (x :: L.erase x) := by unfold jE; exact (hp.map _).sum_nat
  obtain ⟨n1, n2⟩ := List.nodup_cons.1 hn
  have ih := QR (s := s) (L := L.erase x) n2 fun y hy => by
   have hne : y ≠ x := fun q => n1 (q ▸ hy)
   exact (List.mem_erase_of_ne hne).2 (hs y (by simp [hy]))
  rw [e]
  have e1 : jE (x :: s) = x.length + jE s := by simp [jE]
  have e2 : jE (x :: L.erase x) = x.length + jE (L.erase x) := by simp [jE]
  omega
section
variable {m : z7} (h : VM m)
include h
theorem GLr (g : Nat) : (GL m g).length ≤ 256 * m.Rows.length :=
 z29 (g := fun s => if Rc m s then z5d m g s else []) (C := 256) m.Rows.length (fun s _ => by split <;> first | exact z2l h g s | simp)
theorem GLb (g : Nat) : (GL m g).length ≤ 16384 := by
 have := GLr h g
 have := h.len64
 omega
variable {l : List (List Nat)} (hl : WL m l) (hc : chE m.Inputs (lN l) = 0)
include hl hc
theorem YW (hg : g < 3) : yG m (lN l) (g : Int) = some ((unc m l g).map (fun t => (toC m g t).pair_), 0) := by
 have hgs := GLb h g
 unfold yG
 rw [Qn h hc, oB, show ((0 : Int) != 0) = false from rfl, cond_false, ZN h hl, oB, Uq h hg, oB]
 have key : ∀ L : List T3, L.length ≤ 16384 → loop (fun s => xK (mk3 (cv0 m l)) (L.map (toC m g)) s.1 s.2) (([] : List z8), (0 : Int)) = some ([] ++ (List.range L.length).flatMap fun i => atL (fun t => if z2p m l (toI g t) then [] else [(toC m g t).pair_]) L[i]?) := by
  intro L hL
  refine jq _ L.length (by omega) 1 0 (Nat.le_refl _) (fun i _ => ?_) ?_ ?_
  ·cases L[i]? with
   | none => simp [atL]
   | some t => simp only [atL]; split <;> simp
  ·intro i out hi ho
   have hx := List.getElem?_eq_getElem hi
   have hix : idx (L.map (toC m g)) (i : Int) = some (toC m g L[i]) := by rw [yQ, List.getElem?_map, hx]; rfl
   have hmk : mkd g L[i] (cv0 m l) ↔ z2p m l (toI g L[i]) := by
    obtain ⟨a1, a2, a3⟩ := z0u h hl
    have hg' : g = 0 ∨ g = 1 ∨ g = 2 := by omega
    unfold mkd toI
    rcases hg' with rfl | rfl | rfl
    ·simp only [if_true]; exact a1 _
    ·simp only [Nat.one_ne_zero, if_false, if_true]; exact a2 _ _
    ·simp only [show ¬ (2 = 0) by decide, show ¬ (2 = 1) by decide, if_false]; exact a3 _ _ _
   have hwi : w64 ((i : Int) + 1) = ((i + 1 : Nat) : Int) := yY (by omega)
   unfold xK
   rw [List.length_map]
   simp only
   rw [show decide ((i : Int) < (L.length : Int)) = true by simp [hi], cond_true, hix, oB, z14, oB]
   by_cases hcv : z2p m l (toI g L[i])
   ·rw [decide_eq_true (hmk.2 hcv), Bool.not_true, cond_false]
    unfold xL
    simp only [hx, atL, if_pos hcv, List.append_nil, hwi]
   ·rw [decide_eq_false (fun q => hcv (hmk.1 q)), Bool.not_false, cond_true, gdT (by simp; omega)]
    unfold xL
    simp only [hx, atL, if_neg hcv, hwi]
  ·intro out
   unfold xK
   rw [List.length_map]
   simp
 rw [key _ hgs, oB, List.nil_append, z4k, z7n]
 unfold vw
 rw [zde, oB]
 rfl
theorem z1m : (unc m l g).length ≤ 16384 := by have _ := hl; have _ := hc; exact Nat.le_trans (List.length_filter_le _ _) (GLb h g)
theorem z0T : ws m (lN l) = some ((unc m l 0).map (fun t => (t.1 : Int)), 0) := by
 have hu := z1m h hl hc (g := 0)
 unfold ws
 rw [show (0 : Int) = ((0 : Nat) : Int) from rfl, YW h hl hc (by decide), oB, gdT (by simp; omega)]
 generalize unc m l 0 = L at *
 have key : loop (fun s => xg (L.map (fun t => (toC m 0 t).pair_), ((0 : Nat) : Int)) s.1 s.2) (([] : List Int), (0 : Int)) = some (L.map fun t => (t.1 : Int)) := by
  refine z3X L (fun t => (t.1 : Int)) (by omega) ?_ ?_
  ·intro i t ht
   have hi := (List.getElem?_eq_some_iff.1 ht).1
   unfold xg
   simp only [List.length_map]
   rw [show decide ((i : Int) < (L.length : Int)) = true by simp [hi], cond_true, yQ, List.getElem?_map, ht, Option.map_some, oB, gdT (by simp; omega), yY (by omega)]
   rfl
  ·unfold xg
   simp
 rw [show ((0 : Nat) : Int) = 0 from rfl] at key
 rw [show ((0 : Nat) : Int) = 0 from rfl, key, oB]
 unfold wK
 rw [gdT (by simp)]
theorem z2z : wh m (lN l) = some ((unc m l 1).map (fun t => (⟨t.1, t.2.1⟩ : xv Int)), 0) := by
 have hu := z1m h hl hc (g := 1)
 unfold wh
 rw [show (1 : Int) = ((1 : Nat) : Int) from rfl, YW h hl hc (by decide), oB, gdT (by simp; omega)]
 generalize unc m l 1 = L at *
 have key : loop (fun s => xF (L.map (fun t => (toC m 1 t).pair_), 0) s.1 s.2) (([] : List (xv Int)), (0 : Int)) = some (L.map fun t => (⟨t.1, t.2.1⟩ : xv Int)) := by
  refine z3X L (fun t => (⟨t.1, t.2.1⟩ : xv Int)) (by omega) ?_ ?_
  ·intro i t ht
   have hi := (List.getElem?_eq_some_iff.1 ht).1
   unfold xF
   simp only [List.length_map]
   rw [show decide ((i : Int) < (L.length : Int)) = true by simp [hi], cond_true, yQ, List.getElem?_map, ht, Option.map_some, oB, gdT (by simp; omega), yY (by omega)]
   rfl
  ·unfold xF
   simp
 rw [key, oB]
 unfold vd
 rw [gdT (by simp)]
theorem z2y : wL m (lN l) = some ((unc m l 2).map (fun t => (⟨t.1, t.2.1, t.2.2⟩ : z8)), 0) := by
 unfold wL
 rw [show (2 : Int) = ((2 : Nat) : Int) from rfl, YW h hl hc (by decide), oB]
 rfl
theorem z7x (hg : g < 3) (L : List T3) (hL : ∀ t ∈ L, t ∈ GL m g) (hn : l.length + L.length ≤ 4096) : WL m (L.foldl (exS m g) l) := by
 have _ := hc
 have h64 := h.len64
 obtain ⟨k, e, a, b⟩ := z17 m g L l
 rw [e]
 refine ⟨by rw [List.length_append]; omega, fun w hw => ?_⟩
 rcases List.mem_append.1 hw with q | q
 ·exact hl.2 w q
 ·obtain ⟨t, ht, rfl⟩ := b w q
  have := z0H h hg (hL t ht)
  exact ⟨this.1, by omega⟩
omit hl hc in
theorem z1N (hg : g < 3) {out : List (List Nat)} (ho : WL m out) (t : T3) : mkd g t (cv0 m out) ↔ z2p m out (toI g t) := by
 obtain ⟨a1, a2, a3⟩ := z0u h ho
 have hg' : g = 0 ∨ g = 1 ∨ g = 2 := by omega
 unfold mkd toI
 rcases hg' with rfl | rfl | rfl
 ·simp only [if_true]; exact a1 t.1
 ·simp only [Nat.one_ne_zero, if_false, if_true]; exact a2 t.1 t.2.1
 ·simp only [show ¬ (2 = 0) by decide, show ¬ (2 = 1) by decide, if_false]; exact a3 t.1 t.2.1 t.2.2
omit h hl hc in
theorem z4q (out : List (List Nat)) (w : List Nat) : cv0 m (out ++ [w]) = VQ m 0 none w (cv0 m out) := by
 unfold cv0 cvA
 rw [List.foldl_append]
 rfl
theorem z0U (hg : g < 3) (hB : l.length + (GL m g).length ≤ 4096) (hS : jE (lN l) + (GL m g).length * (m.Rows.length + 1) ≤ 65536) : yh m (lN l) (g : Int) = some (srt (lN (exL m g l)), 0) := by
 have hll := hl.1
 have h64 := h.len64
 unfold yh
 rw [Qn h hc, oB, show ((0 : Int) != 0) = false from rfl, cond_false, show decide ((g : Int) < 0) = false by simp, cond_false, show decide ((g : Int) ≥ 3) = false by simp; omega, cond_false, ZN h hl, oB, gdT (by rw [qr]; omega)]
 have e5 : loop (fun s => xW (lN l) s.1 s.2) (([] : List (List Int)), (0 : Int)) = some ([] ++ (List.range l.length).flatMap fun i => match l[i]? with | some w => [wN w] | none => []) := by
  refine jq _ l.length (by omega) 1 0 (Nat.le_refl _) (fun i _ => by split <;> simp) ?_ ?_
  ·intro i out hi ho
   have hw := List.getElem?_eq_getElem hi
   have hm := hl.2 _ (List.getElem_mem hi)
   unfold xW
   rw [qr]
   simp only
   rw [show decide ((i : Int) < (l.length : Int)) = true by simp [hi], cond_true, z20 hw, oB, Yd _ (by rw [QQ]; omega), oB, XU, oB, gdT (by simp; omega), yY (by omega), hw]
  ·intro out
   unfold xW
   rw [qr]
   simp
 have gen : ∀ (L : List (List Nat)), ((List.range L.length).flatMap fun i => match L[i]? with | some w => [wN w] | none => []) = lN L := by
  intro L
  induction L with
  | nil => rfl
  | cons x L ih =>
   rw [List.length_cons, List.range_succ_eq_map, List.flatMap_cons, List.flatMap_map]
   show [wN x] ++ _ = _
   rw [show (List.range L.length).flatMap (fun a => match (x :: L)[a.succ]? with | some w => [wN w] | none => []) = lN L from ih]
   rfl
 rw [e5, List.nil_append, gen, oB]
 unfold vY
 rw [Uq h hg, oB]
 have key : ∀ L : List T3, L = GL m g → loop (fun s => wM m (L.map (toC m g)) s.1 s.2.1 s.2.2.1 s.2.2.2.1 s.2.2.2.2) ((mk3 (cv0 m l)).states_, (mk3 (cv0 m l)).edges_, (mk3 (cv0 m l)).pairs_, lN l, (0 : Int)) = some (lN (L.foldl (exS m g) l)) := by
  intro L hLG
  have hL : ∀ t ∈ L, t ∈ GL m g := by rw [hLG]; exact fun _ q => q
  have hLn : l.length + L.length ≤ 4096 := by rw [hLG]; exact hB
  refine Ret.eq (vt (fun s => ∃ i : Nat, i ≤ L.length ∧ s = ((mk3 (cv0 m ((L.take i).foldl (exS m g) l))).states_, (mk3 (cv0 m ((L.take i).foldl (exS m g) l))).edges_, (mk3 (cv0 m ((L.take i).foldl (exS m g) l))).pairs_, lN ((L.take i).foldl (exS m g) l), (i : Int)))
   (fun s => L.length - s.2.2.2.2.toNat) ⟨0, Nat.zero_le _, rfl⟩ (by show L.length - 0 < _; omega) ?_)
  rintro s ⟨i, hi, rfl⟩
  have hwl : WL m ((L.take i).foldl (exS m g) l) := z7x h hl hc hg _ (fun t ht => hL t (List.mem_of_mem_take ht)) (by rw [List.length_take]; omega)
  unfold wM
  rw [List.length_map]
  simp only
  rw [wr]
  constructor
  ·intro c
   have hi' : i < L.length := by simpa using c
   have ht := List.getElem?_eq_getElem hi'
   have hwk := z0H h hg (hL _ (List.getElem_mem hi'))
   have hx : idx (L.map (toC m g)) (i : Int) = some (toC m g L[i]) := by rw [yQ, List.getElem?_map, ht]; rfl
   have htk : (L.take (i + 1)).foldl (exS m g) l = exS m g ((L.take i).foldl (exS m g) l) L[i] := by
    rw [List.take_add_one, ht, List.foldl_append]
    rfl
   generalize hout : (L.take i).foldl (exS m g) l = out at *
   rw [hx, oB, show (zf.mk (mk3 (cv0 m out)).states_ (mk3 (cv0 m out)).edges_ (mk3 (cv0 m out)).pairs_) = mk3 (cv0 m out) from rfl, z14, oB, wr]
   have hfin : ∀ s', s' = ((mk3 (cv0 m (exS m g out L[i]))).states_, (mk3 (cv0 m (exS m g out L[i]))).edges_, (mk3 (cv0 m (exS m g out L[i]))).pairs_, lN (exS m g out L[i]), w64 ((i : Int) + 1)) →
     LRP (fun s' => (∃ i : Nat, i ≤ L.length ∧ s' = ((mk3 (cv0 m ((L.take i).foldl (exS m g) l))).states_, (mk3 (cv0 m ((L.take i).foldl (exS m g) l))).edges_, (mk3 (cv0 m ((L.take i).foldl (exS m g) l))).pairs_, lN ((L.take i).foldl (exS m g) l), (i : Int))) ∧ L.length - s'.2.2.2.2.toNat < L.length - ((i : Int)).toNat) (fun b => b = lN (L.foldl (exS m g) l)) (.next s') := by
    rintro s' rfl
    rw [yY (by omega)]
    refine ⟨⟨i + 1, hi', by rw [htk]⟩, ?_⟩
    simp only
    omega
   constructor
   ·intro c2
    have hm : ¬ z2p m out (toI g L[i]) := fun q => by
     rw [decide_eq_true ((z1N h hg hwl L[i]).2 q)] at c2
     simp at c2
    have hsn : exS m g out L[i] = out ++ [WI m g L[i]] := by unfold exS; rw [if_neg hm]
    have hrun := z75 h hwk.1 (by omega) (cv0 m out)
    rw [z5h, show wN (WI m g L[i]) = (WI m g L[i]).map Int.ofNat from rfl, hrun, oB, Yd _ (by rw [List.length_map]; omega), oB, XU, oB, gdT (by rw [qr]; have := hwl.1; simp; omega)]
    unfold xX
    rw [zF]
    refine hfin _ ?_
    rw [hsn, z4q]
    simp [lN, wN]
   ·intro c2
    have hm : z2p m out (toI g L[i]) := by
     apply Classical.byContradiction
     intro q
     rw [decide_eq_false (fun k => q ((z1N h hg hwl L[i]).1 k))] at c2
     simp at c2
    have hsn : exS m g out L[i] = out := by unfold exS; rw [if_pos hm]
    unfold xX
    rw [zF]
    refine hfin _ ?_
    rw [hsn]
  ·intro c
   have hi' : i = L.length := by simp at c; omega
   rw [zF]
   subst hi'
   rw [List.take_length]
   rfl
 rw [key _ rfl, oB]
 have hw := z7x h hl hc hg (GL m g) (fun _ q => q) hB
 obtain ⟨k, ek, lk, wk⟩ := z17 m g (GL m g) l
 have hlen : ((GL m g).foldl (exS m g) l).length ≤ 4096 := by rw [ek, List.length_append]; omega
 have hww : ∀ z ∈ lN (exL m g l), z.length ≤ 256 ∧ ∀ c ∈ z, 0 ≤ c ∧ c < m.Inputs := by
  intro z hz
  obtain ⟨u, hu, rfl⟩ := List.mem_map.1 hz
  refine ⟨by rw [QQ]; exact (hw.2 u hu).2, fun c hc => ?_⟩
  obtain ⟨i, hi, rfl⟩ := List.mem_map.1 hc
  have := (hw.2 u hu).1 i hi
  have := h.kk_eq
  simp only [Int.ofNat_eq_natCast]
  omega
 unfold vX
 rw [qr, show decide (((((GL m g).foldl (exS m g) l).length : Nat) : Int) > 4096) = false by simp; omega, cond_false]
 unfold Xf
 have h0 : loE m.Inputs (lN (exL m g l)) = 0 := Ka.2 ⟨⟨h.in1, h.in16⟩, by rw [qr]; show ((GL m g).foldl (exS m g) l).length ≤ _; omega, hww⟩
 rw [show (GL m g).foldl (exS m g) l = exL m g l from rfl, z1Q, h0, oB, show ((0 : Int) != 0) = false from rfl, cond_false, z5C (by rw [qr]; show ((GL m g).foldl (exS m g) l).length ≤ _; omega) (fun w hw => by have := (hww w hw).1; omega)]
 have hs := z3c (lN (exL m g l))
 have hy : jE (srt (lN (exL m g l))) ≤ 65536 := by
  have h1 := QR (s := srt (lN (exL m g l))) (L := lN (exL m g l)) (z3b _).nodup fun x hx => K6.1 hx
  have h2 : jE (lN (exL m g l)) = jE (lN l) + jE (lN k) := by rw [show exL m g l = l ++ k from ek]; unfold lN; rw [List.map_append, z5w]
  have h3 : jE (lN k) ≤ (lN k).length * (m.Rows.length + 1) := JM fun z hz => by
   obtain ⟨u, hu, rfl⟩ := List.mem_map.1 hz
   rw [QQ]
   obtain ⟨t, ht, rfl⟩ := wk u hu
   exact (z0H h hg ht).2.1
  rw [qr] at h3
  have h4 : k.length * (m.Rows.length + 1) ≤ (GL m g).length * (m.Rows.length + 1) := Nat.mul_le_mul_right _ lk
  omega
 have : ¬ (4096 < (srt (lN (exL m g l))).length ∨ 65536 < jE (srt (lN (exL m g l)))) := by
  rw [qr] at hs
  have : (exL m g l).length ≤ 4096 := hlen
  omega
 unfold soR
 rw [if_neg this]
 rfl
end
open Classical
theorem z97 (s : List Int) (h : s.length ≤ 4294967296) : yM s = some s := by
 unfold yM
 rw [gdT (by simpa using h)]
open Classical
theorem z18 (a b : List Int) (hl : a.length ≤ 1000000) : Ret (yK a b) fun _ => True := by
 unfold yK
 rw [wr]
 refine ⟨fun _ => by rw [zF]; trivial, fun he => ?_⟩
 have he : a.length = b.length := by
  have : ((a.length : Nat) : Int) = ((b.length : Nat) : Int) := by simpa using he
  omega
 rw [wm]
 refine Ret.mono (vt (fun s => ∃ i : Nat, s = (i : Int) ∧ i ≤ a.length) (fun s => a.length - s.toNat) (R := fun _ => True) ⟨0, rfl, Nat.zero_le _⟩ (by show a.length - 0 < _; omega) ?_) ?_
 ·rintro s ⟨i, rfl, hi⟩
  unfold x4
  rw [wr]
  refine ⟨fun c => ?_, fun _ => by rw [zF]; trivial⟩
  have hi' : i < a.length := by simpa using c
  rw [yQ, List.getElem?_eq_getElem hi', oB, yQ, List.getElem?_eq_getElem (by omega : i < b.length), oB, wr]
  refine ⟨fun _ => by rw [zF]; trivial, fun _ => ?_⟩
  rw [zF, yY (by omega)]
  exact ⟨⟨i + 1, rfl, hi'⟩, by omega⟩
 ·rintro r _
  cases r with
  | inl p => simp only; unfold x5; rw [zF]; trivial
  | inr p => simp only; rw [zF]; trivial
section
variable {m : z7} (h : VM m)
include h
theorem Kk (g : Nat) (x : Mk3) : Ret (vo ((GL m g).map (toC m g)) (mk3 x)) fun r => r.length = (GL m g).length / 64 + 1 := by
 have hgs := GLb h g
 unfold vo
 rw [gdT (by decide), List.length_map]
 have hd : Int.tdiv (((GL m g).length : Nat) : Int) 64 = (((GL m g).length / 64 : Nat) : Int) := by
  rw [Int.tdiv_eq_ediv_of_nonneg (by omega)]; rfl
 have hw : w64 (w64 (Int.tdiv (((GL m g).length : Nat) : Int) 64) + 1) = (((GL m g).length / 64 + 1 : Nat) : Int) := by
  have h1 : w64 (((GL m g).length / 64 : Nat) : Int) = (((GL m g).length / 64 : Nat) : Int) := qQ (by omega) (by omega)
  rw [hd, h1]
  exact yY (by omega)
 rw [hw, gdT (by omega), wm, Int.toNat_natCast]
 generalize hLL : GL m g = L at *
 refine Ret.mono (vt (fun s => ∃ i : Nat, s.2 = (i : Int) ∧ i ≤ L.length ∧ s.1.length = L.length / 64 + 1) (fun s => L.length - s.2.toNat) (R := fun r => r.length = L.length / 64 + 1) ⟨0, rfl, Nat.zero_le _, by simp⟩ (by show L.length - 0 < _; omega) ?_) fun r q => by unfold uG; rw [zF]; exact q
 rintro ⟨out, s⟩ ⟨i, hi1, hi, ho⟩
 simp only at hi1 ho
 subst hi1
 have hwi : w64 ((i : Int) + 1) = ((i + 1 : Nat) : Int) := yY (by omega)
 unfold uF
 rw [List.length_map]
 simp only
 rw [wr]
 constructor
 ·intro c
  have hi' : i < L.length := by simpa using c
  have hx := List.getElem?_eq_getElem hi'
  have hix : idx (L.map (toC m g)) (i : Int) = some (toC m g L[i]) := by rw [yQ, List.getElem?_map, hx]; rfl
  have hdi : w64 (Int.tdiv (i : Int) 64) = ((i / 64 : Nat) : Int) := by
   rw [Int.tdiv_eq_ediv_of_nonneg (by omega), qQ (by omega) (by omega)]; rfl
  have hmi : Int.tmod (i : Int) 64 = ((i % 64 : Nat) : Int) := by
   rw [Int.tmod_eq_emod_of_nonneg (by omega)]; rfl
  have hin : i / 64 < out.length := by rw [ho]; have := Nat.div_le_div_right (c := 64) (show i ≤ L.length by omega); omega
  rw [hix, oB, z14, oB, wr]
  have fin : ∀ out' : List Int, out'.length = L.length / 64 + 1 → Ret (wF (i : Int) out') (LRP (fun s' => (∃ i : Nat, s'.2 = (i : Int) ∧ i ≤ L.length ∧ s'.1.length = L.length / 64 + 1) ∧ L.length - s'.2.toNat < L.length - ((i : Int)).toNat) fun r => r.length = L.length / 64 + 1) := by
   intro out' hout
   unfold wF
   rw [zF, hwi]
   refine ⟨⟨i + 1, rfl, hi', hout⟩, ?_⟩
   simp only
   omega
  constructor
  ·intro _
   rw [gdT (by decide), hdi, yQ, List.getElem?_eq_getElem hin, oB, gdT (by decide), hmi, gdT (by omega), oB]
   exact fin _ (by rw [List.length_set]; exact ho)
  ·intro _
   exact fin _ ho
 ·intro _
  rw [zF]
  exact ho
omit h in
theorem Jn {S : List (List Int)} {want : List Int} {W : Nat} (hS : ∀ b ∈ S, b.length = W) (hW : W ≤ 1000) (hn : S.length ≤ 16) : ∀ (k : Nat) (hv : List Int) (fr n : Nat), k < n → hv.length = W → k ≤ 16 → fr ≤ 100 →
    Ret (ym n ⟨S, want⟩ hv (fr : Int) (k : Int)) fun r => r.1.length ≤ k ∧ ∀ i ∈ r.1, 0 ≤ i ∧ i.toNat < S.length
  | k, hv, fr, 0, hk, _, _, _ => by omega
  | 0, hv, fr, n + 1, hk, hh, _, _ => by
    show Ret (yc (ym n) _ _ _ _) _
    unfold yc
    rw [show ((((0 : Nat) : Int)) == 0) = true from rfl, cond_true, wm]
    refine Ret.mono (z18 hv want (by omega)) fun r _ => ?_
    rw [zF]
    exact ⟨by simp, by simp⟩
  | k + 1, hv, fr, n + 1, hk, hh, hk16, hfr => by
    show Ret (yc (ym n) _ _ _ _) _
    unfold yc
    rw [show ((((k + 1 : Nat) : Int)) == 0) = false by simp; omega, cond_false, wm]
    refine Ret.mono (vt (fun s => ∃ i : Nat, s = (i : Int) ∧ i ≤ 200) (fun s => 200 - s.toNat)
      (R := fun r : Unit ⊕ (List Int × Bool) => match r with | .inl _ => True | .inr r => r.1.length ≤ k + 1 ∧ ∀ i ∈ r.1, 0 ≤ i ∧ i.toNat < S.length) ⟨fr, rfl, by omega⟩ (by omega) ?_) ?_
    · rintro s ⟨i, rfl, hi⟩
      unfold xA
      simp only
      rw [wr, qQ (by omega) (by omega)]
      refine ⟨fun c => ?_, fun _ => by rw [zF]; trivial⟩
      have hi' : i < S.length := by
        have : (i : Int) + ((k + 1 : Nat) : Int) ≤ ((S.length : Nat) : Int) := by simpa using c
        omega
      have hb := hS _ (List.getElem_mem hi')
      rw [z97 _ (by omega), oB, yQ, List.getElem?_eq_getElem hi', oB, wm]
      generalize S[i] = b at hb
      refine Ret.mono (vt (fun s => ∃ j : Nat, s.2 = (j : Int) ∧ j ≤ W ∧ s.1.length = W) (fun s => W - s.2.toNat) (R := fun r => r.length = W) ⟨0, rfl, Nat.zero_le _, hh⟩ (by show W - 0 < _; omega) ?_) fun wt hwt => ?_
      · rintro ⟨o, s⟩ ⟨j, hj1, hj, ho⟩
        simp only at hj1 ho
        subst hj1
        unfold xz
        simp only
        rw [wr]
        refine ⟨fun c => ?_, fun _ => by rw [zF]; exact ho⟩
        have hj' : j < W := by have : j < b.length := by simpa using c
                               omega
        rw [yQ, List.getElem?_eq_getElem (by omega : j < b.length), oB, yQ, List.getElem?_eq_getElem (by omega : j < o.length), oB, oB, zF, yY (by omega)]
        refine ⟨⟨j + 1, rfl, hj', by rw [List.length_set]; exact ho⟩, ?_⟩
        simp only
        omega
      · unfold xC
        rw [yY (by omega), qQ (by omega) (by omega), show ((k + 1 : Nat) : Int) - 1 = (k : Int) by omega, wm]
        refine Ret.mono (Jn hS hW hn k wt (i + 1) n (by omega) hwt (by omega) (by omega)) fun r q => ?_
        rw [wr]
        constructor
        · intro _
          rw [gdT (by simp; omega), zF]
          refine ⟨by simp; omega, fun z hz => ?_⟩
          rcases List.mem_append.1 hz with q2 | q2
          · simp only [List.mem_singleton] at q2; subst q2; exact ⟨by omega, by simpa using hi'⟩
          · exact q.2 z q2
        · intro _
          unfold xD
          rw [zF, yY (by omega)]
          exact ⟨⟨i + 1, rfl, by omega⟩, by omega⟩
    · rintro r q
      cases r with
      | inl p => simp only; unfold xE; rw [zF]; exact ⟨by simp, by simp⟩
      | inr p => simp only; rw [zF]; exact q
theorem z2D {l : List (List Nat)} (hl : WL m l) (hc : chE m.Inputs (lN l) = 0)  (hg : g < 3) (hn : l.length ≤ 16) : Ret (zZ m (lN l) (g : Int)) fun r => r.2 = 0 := by
 have hgs := GLb h g
 unfold zZ
 rw [Qn h hc, oB, show ((0 : Int) != 0) = false from rfl, cond_false, show decide ((g : Int) < 0) = false by simp, cond_false, show decide ((g : Int) ≥ 3) = false by simp; omega, cond_false, qr, show decide (((l.length : Nat) : Int) > 16) = false by simp; omega, cond_false, Uq h hg, oB, ZN h hl, oB, wm]
 refine Ret.mono (Kk h g _) fun want hwant => ?_
 rw [wm]
 refine Ret.mono (vt (fun s => ∃ i : Nat, s.2 = (i : Int) ∧ i ≤ l.length ∧ s.1.length = i ∧ ∀ b ∈ s.1, b.length = (GL m g).length / 64 + 1) (fun s => l.length - s.2.toNat) (R := fun r : List (List Int) => r.length = l.length ∧ ∀ b ∈ r, b.length = (GL m g).length / 64 + 1) ⟨0, rfl, Nat.zero_le _, rfl, by simp⟩ (by show l.length - 0 < _; omega) ?_) fun S hS => ?_
 ·rintro ⟨o, s⟩ ⟨i, hi1, hi, ho, hb⟩
  simp only at hi1 ho hb
  subst hi1
  unfold vQ
  simp only
  rw [qr, wr]
  refine ⟨fun c => ?_, fun c => ?_⟩
  ·have hi' : i < l.length := by simpa using c
   have hx := List.getElem?_eq_getElem hi'
   have hwl : WL m [l[i]] := ⟨by simp, fun v hv => by simp only [List.mem_singleton] at hv; subst hv; exact hl.2 _ (List.getElem_mem hi')⟩
   have hcv := ZN h hwl
   rw [z20 hx, oB, show ([wN l[i]] : List (List Int)) = lN [l[i]] from rfl, hcv, oB, wm]
   refine Ret.mono (Kk h g _) fun r hr => ?_
   rw [gdT (by simp; omega), zF, yY (by omega)]
   refine ⟨⟨i + 1, rfl, hi', by simp [ho], ?_⟩, ?_⟩
   ·intro b hbb
    rcases List.mem_append.1 hbb with q | q
    ·exact hb b q
    ·simp only [List.mem_singleton] at q; subst q; exact hr
   ·simp only; omega
  ·have : i = l.length := by simp at c; omega
   rw [zF]
   exact ⟨by omega, hb⟩
 ·unfold vW
  rw [wm]
  have hW : (GL m g).length / 64 + 1 ≤ 1000 := by omega
  refine Ret.mono (vt (fun s => ∃ i : Nat, s = (i : Int) ∧ i ≤ l.length + 1) (fun s => l.length + 1 - s.toNat)
   (R := fun r : Unit ⊕ (List (List Int) × Int) => match r with | .inl _ => True | .inr r => r.2 = 0) ⟨0, rfl, by omega⟩ (by show l.length + 1 - 0 < _; omega) ?_) ?_
  ·rintro s ⟨j, rfl, hj⟩
   unfold vS
   rw [qr, yY (by omega), wr]
   refine ⟨fun c => ?_, fun _ => by rw [zF]; trivial⟩
   have hj' : j ≤ l.length := by
    have : (j : Int) < ((l.length + 1 : Nat) : Int) := by simpa using c
    omega
   have hnone : ui = some (mk3 (cv0 m [])) := rfl
   rw [hnone, oB, wm]
   refine Ret.mono (Kk h g _) fun hv hhv => ?_
   rw [wm]
   have hch : vG ⟨S, want⟩ hv 0 (j : Int) = ym (j + 1) ⟨S, want⟩ hv ((0 : Nat) : Int) (j : Int) := rfl
   rw [hch]
   refine Ret.mono (Jn hS.2 hW (by omega) j hv 0 (j + 1) (by omega) hhv (by omega) (by omega)) fun r hr => ?_
   rw [wr]
   constructor
   ·intro _
    unfold vU
    rw [zF, yY (by omega)]
    exact ⟨⟨j + 1, rfl, by omega⟩, by omega⟩
   ·intro _
    rw [gdT (by omega), wm]
    refine Ret.mono (vt (fun s => ∃ i : Nat, s.2 = (i : Int) ∧ i ≤ r.1.length ∧ s.1.length = i) (fun s => r.1.length - s.2.toNat) (R := fun o : List (List Int) => o.length = r.1.length) ⟨0, rfl, Nat.zero_le _, rfl⟩ (by show r.1.length - 0 < _; omega) ?_) fun o ho => ?_
    ·rintro ⟨o, s⟩ ⟨i, hi1, hi, ho⟩
     simp only at hi1 ho
     subst hi1
     unfold vR
     simp only
     rw [wr]
     refine ⟨fun c => ?_, fun c => ?_⟩
     ·have hi' : i < r.1.length := by simpa using c
      obtain ⟨z0, z1⟩ := hr.2 _ (List.getElem_mem hi')
      rw [yQ, List.getElem?_eq_getElem hi', oB]
      generalize r.1[i] = z at z0 z1
      obtain ⟨zn, rfl⟩ : ∃ zn : Nat, z = (zn : Int) := ⟨z.toNat, by omega⟩
      have hzl : zn < l.length := by rw [Int.toNat_natCast] at z1; omega
      have hx := List.getElem?_eq_getElem hzl
      have hwl := (hl.2 _ (List.getElem_mem hzl)).2
      rw [z20 hx, oB, Yd _ (by rw [QQ]; omega), oB, XU, oB, gdT (by simp; omega), zF, yY (by omega)]
      refine ⟨⟨i + 1, rfl, hi', by simp [ho]⟩, ?_⟩
      simp only
      omega
     ·have : i = r.1.length := by simp at c; omega
      rw [zF]
      show o.length = r.1.length
      omega
    ·unfold vT
     rw [gdT (by simp [ho]), zF]
     rfl
  ·rintro r q
   cases r with
   | inl p => simp only; unfold vV; rw [zF]
   | inr p => simp only; rw [zF]; exact q
end
set_option maxRecDepth 100000
theorem jr : uZ = some true := by kernel_rfl
def Ok3 (a : Int) : Prop := (-9223372036854775808) ≤ a ∧ a ≤ 9223372036854775807
def zdP (a : zy) : Prop := Ok3 a.To ∧ Ok3 a.Out
def zdQ (l : List zy) : Prop := ∀ a ∈ l, zdP a
def zf7 (l : List (List zy)) : Prop := ∀ a ∈ l, zdQ a
def zf6 (a : z7) : Prop := Ok3 a.Inputs ∧ Ok3 a.Outputs ∧ zf7 a.Rows
def zdR (l : List Int) : Prop := ∀ a ∈ l, Ok3 a
def zf5 (l : List (List Int)) : Prop := ∀ a ∈ l, zdR a
open Classical
theorem z3Y (h10 : m.Rows.length ≤ 10) : Ret (loop (fun s => xj m s) 0) fun r => r = .inl () ∨ r = .inr true := by
 refine vt (fun s => ∃ i : Nat, s = (i : Int) ∧ i ≤ m.Rows.length) (fun s => m.Rows.length - s.toNat) ⟨0, rfl, Nat.zero_le _⟩ (by show m.Rows.length - 0 < _; omega) ?_
 rintro s ⟨i, rfl, hi⟩
 unfold xj
 rw [wr]
 refine ⟨fun c => ?_, fun _ => by rw [zF]; exact Or.inl rfl⟩
 have hi' : i < m.Rows.length := by simpa using c
 rw [yQ, List.getElem?_eq_getElem hi', oB, wr]
 refine ⟨fun _ => by rw [zF]; exact Or.inr rfl, fun _ => ?_⟩
 rw [zF, yY (by omega)]
 exact ⟨⟨i + 1, rfl, hi'⟩, by omega⟩
theorem z3Z (h20 : l.length ≤ 20) : Ret (loop (fun s => xk l s) 0) fun r => r = .inl () ∨ r = .inr true := by
 refine vt (fun s => ∃ i : Nat, s = (i : Int) ∧ i ≤ l.length) (fun s => l.length - s.toNat) ⟨0, rfl, Nat.zero_le _⟩ (by show l.length - 0 < _; omega) ?_
 rintro s ⟨i, rfl, hi⟩
 unfold xk
 rw [wr]
 refine ⟨fun c => ?_, fun _ => by rw [zF]; exact Or.inl rfl⟩
 have hi' : i < l.length := by simpa using c
 rw [yQ, List.getElem?_eq_getElem hi', oB, wr]
 refine ⟨fun _ => by rw [zF]; exact Or.inr rfl, fun _ => ?_⟩
 rw [zF, yY (by omega)]
 exact ⟨⟨i + 1, rfl, hi'⟩, by omega⟩
theorem z7i {goal w : Int} (hw : w ≠ 0) (hc : yo m l = some w) : ya m l goal w = some true := by
 have hb : (w != 0) = true := by simpa using hw
 have hM : ∀ g, yG m l g = some ([], w) := fun g => by unfold yG; rw [hc, oB, hb, cond_true]
 have h1 : vb m l = some (⟨⟨0, 0⟩, ⟨0, 0⟩, ⟨0, 0⟩⟩, w) := by unfold vb; rw [hc, oB, hb, cond_true]
 have h2 : ws m l = some ([], w) := by
  unfold ws
  rw [hM, oB, gdT (by simp), z1S (t := []) (by unfold xg; simp), oB]
  unfold wK
  rw [gdT (by simp)]
 have h3 : wh m l = some ([], w) := by
  unfold wh
  rw [hM, oB, gdT (by simp), z1S (t := []) (by unfold xF; simp), oB]
  unfold vd
  rw [gdT (by simp)]
 have h4 : wL m l = some ([], w) := by
  unfold wL
  rw [hM, oB]
 have h5 : yh m l goal = some ([], w) := by unfold yh; rw [hc, oB, hb, cond_true]
 have h6 : zZ m l goal = some ([], w) := by unfold zZ; rw [hc, oB, hb, cond_true]
 unfold ya
 rw [h1, oB, h2, oB, h3, oB, h4, oB, h5, oB, h6, oB, hb, cond_true]
 simp only [beq_self_eq_true, cond_true]
 rw [jr]
 rfl
variable {goal : Int}
theorem z8Q {m : z7} {l : List (List Int)}  (v : VM m) (hc : chE m.Inputs l = 0) (h10 : m.Rows.length ≤ 10) (h20 : l.length ≤ 20) : ya m l goal 0 = some true := by
 obtain ⟨c1, c2, c3⟩ := z6w.1 hc
 obtain ⟨_, _, c6⟩ := Ka.1 c1
 have hkk := v.kk_eq
 obtain ⟨L, rfl, hL⟩ := zaE (m := m) (l := l) (fun w hw => by
  obtain ⟨q1, q2⟩ := c6 w hw
  refine ⟨w.map Int.toNat, ?_, ?_, by rw [List.length_map]; exact q1⟩
  ·unfold wN
   rw [List.map_map]
   have : ∀ c ∈ w, (Int.ofNat ∘ Int.toNat) c = id c := fun c hc => by
    have := q2 c hc
    simp only [Function.comp, Int.ofNat_eq_natCast, id]
    omega
   rw [List.map_congr_left this, List.map_id]
  ·intro i hi
   obtain ⟨c, hc, rfl⟩ := List.mem_map.1 hi
   have := q2 c hc
   omega)
 rw [qr] at h20
 have hl : WL m L := ⟨by omega, hL⟩
 have hck := Qn v hc
 have hz : ((0 : Int) != 0) = false := rfl
 unfold ya
 rw [zav v hl hc, oB, z0T v hl hc, oB, z2z v hl hc, oB, z2y v hl hc, oB]
 by_cases g1 : goal < 0
 ·have e5 : yh m (lN L) goal = some ([], 1) := by unfold yh; rw [hck, oB, hz, cond_false, decide_eq_true g1, cond_true]
  have e6 : zZ m (lN L) goal = some ([], 1) := by unfold zZ; rw [hck, oB, hz, cond_false, decide_eq_true g1, cond_true]
  rw [e5, oB, e6, oB, hz, cond_false, decide_eq_true g1, cond_true, jr]
  rfl
 ·by_cases g2 : goal > 2
  ·have g3 : goal ≥ 3 := by omega
   have e5 : yh m (lN L) goal = some ([], 1) := by unfold yh; rw [hck, oB, hz, cond_false, decide_eq_false g1, cond_false, decide_eq_true g3, cond_true]
   have e6 : zZ m (lN L) goal = some ([], 1) := by unfold zZ; rw [hck, oB, hz, cond_false, decide_eq_false g1, cond_false, decide_eq_true g3, cond_true]
   rw [e5, oB, e6, oB, hz, cond_false, decide_eq_false g1, cond_false, decide_eq_true g2, cond_true, jr]
   rfl
  ·obtain ⟨g, hg, rfl⟩ : ∃ g : Nat, g < 3 ∧ goal = (g : Int) := ⟨goal.toNat, by omega, by omega⟩
   have hGL := GLr v g
   have hmul : (GL m g).length * (m.Rows.length + 1) ≤ 2560 * 11 := Nat.mul_le_mul (by omega) (by omega)
   have hsy := JM (l := lN L) (m := 256) (fun z hz => by
    obtain ⟨u, hu, rfl⟩ := List.mem_map.1 hz
    rw [QQ]; exact (hL u hu).2)
   rw [qr] at hsy
   have e5 := z0U v hl hc hg (by omega) (by omega)
   rw [e5, oB]
   by_cases h16 : L.length ≤ 16
   ·obtain ⟨r, e6, q6⟩ := z2D v hl hc hg h16
    rw [e6, oB, hz, cond_false, decide_eq_false g1, cond_false, decide_eq_false g2, cond_false, q6, qr, show decide (((L.length : Nat) : Int) > 16) = false by simp; omega, show decide (((L.length : Nat) : Int) ≤ 16) = true by simp; omega, jr]
    rfl
   ·have e6 : zZ m (lN L) ((g : Nat) : Int) = some ([], 3) := by
     unfold zZ
     rw [hck, oB, hz, cond_false, decide_eq_false g1, cond_false, show decide ((g : Int) ≥ 3) = false by simp; omega, cond_false, qr, show decide (((L.length : Nat) : Int) > 16) = true by simp; omega, cond_true]
    rw [e6, oB, hz, cond_false, decide_eq_false g1, cond_false, decide_eq_false g2, cond_false, qr, show decide (((L.length : Nat) : Int) > 16) = true by simp; omega, show decide (((L.length : Nat) : Int) ≤ 16) = false by simp; omega, jr]
    rfl
theorem z8R (h10 : m.Rows.length ≤ 10) (h20 : l.length ≤ 20) : xm m l goal = some true := by
 unfold xm
 rw [z3B, oB]
 by_cases c : chk m = 0
 ·rw [show (chk m == 0) = true by simpa using c, cond_true, z3C, oB]
  have hcc : yo m l = some (chE m.Inputs l) := by
   unfold yo
   rw [Uo, c, oB, show ((0 : Int) != 0) = false from rfl, cond_false, KI, oB]
  by_cases c2 : chE m.Inputs l = 0
  ·rw [c2]; exact z8Q (zcB c) c2 h10 h20
  ·exact z7i c2 hcc
 ·rw [show (chk m == 0) = false by simpa using c, cond_false]
  refine z7i c ?_
  unfold yo
  rw [Uo, oB, show (chk m != 0) = true by simpa using c, cond_true]
theorem z6h (_ : zf6 m) (_ : zf5 l) (_ : Ok3 goal) : v8 m l goal = some true := by
 unfold v8
 by_cases h10 : m.Rows.length ≤ 10
 ·rw [show decide (((m.Rows.length : Nat) : Int) > 10) = false by simp; omega, cond_false]
  by_cases h20 : l.length ≤ 20
  ·rw [show decide (((l.length : Nat) : Int) > 20) = false by simp; omega, cond_false]
   obtain ⟨r, e, q⟩ := z3Y h10
   rw [e, oB]
   rcases q with rfl | rfl
   ·simp only
    unfold wn
    obtain ⟨r, e, q⟩ := z3Z h20
    rw [e, oB]
    rcases q with rfl | rfl
    ·exact z8R h10 h20
    ·rfl
   ·rfl
  ·rw [show decide (((l.length : Nat) : Int) > 20) = true by simp; omega, cond_true]
 ·rw [show decide (((m.Rows.length : Nat) : Int) > 10) = true by simp; omega, cond_true]
def Ks (w : World) : zj := fun b o => ye w.heap b o
variable {v : Value}
theorem z4E {w : World} {a : Addr}  (h : w.cell? a = some v) : a.spot = none ∧ ye w.heap a.block a.off = some v := by
 unfold World.cell? at h
 unfold ye
 split at h
 ·rename_i c ty fr he
  rw [he]
  split at h
  ·cases h
  ·rename_i hs
   exact ⟨by simpa using hs, h⟩
 ·cases h
variable {cs : List Value}{S : zj}
section
variable {H : Type} {enc : TypeId × Value → H} {P : Program} {w : World} {base : Nat} {spare : Nat → Bool} {held : Bool}
theorem z4B {a : Addr} {n : Nat}  (h : w.cells? base a n = some cs) (hn : 0 < n) : a.spot = none ∧ cs.length = n ∧ QM (Ks w) a.block a.off cs := by
 obtain ⟨_, h2, h3⟩ := World.cells?_some h
 have h0 : a.spot = none := by
  have h4 := h3 0 hn
  cases hc : cs[0]? with
  | none => rw [List.getElem?_eq_none_iff] at hc; omega
  | some v =>
   rw [hc] at h4
   have := (z4E h4).1
   simpa [Addr.add] using this
 refine ⟨h0, h2, fun j v hj => ?_⟩
 have hlt := (List.getElem?_eq_some_iff.1 hj).1
 have h4 := h3 j (by omega)
 rw [hj] at h4
 have q := (z4E h4).2
 unfold Addr.add at q
 split at q
 ·rename_i e; subst e; exact q
 ·exact q
theorem KX : ∀ {bs : List A} {cs : List Value} {a : A} {c : List Value}, yd S bs cs → Rep S a c → yd S (bs ++ [a]) (cs ++ c)
 | [], cs, a, c, h1, h2 => by
  simp only [yd] at h1
  subst h1
  simp only [List.nil_append, yd]
  exact ⟨c, [], by simp, h2, rfl⟩
 | x :: bs, cs, a, c, h1, h2 => by
  simp only [yd] at h1
  obtain ⟨c1, c2, rfl, r1, r2⟩ := h1
  simp only [List.cons_append, yd]
  exact ⟨c1, c2 ++ c, by simp, r1, KX r2 h2⟩
theorem z6b {b o : Nat} {c1 c2 : List Value} (h1 : QM S b o c1) (h2 : QM S b (o + c1.length) c2) : QM S b o (c1 ++ c2) := by
 intro j v hj
 rcases Nat.lt_or_ge j c1.length with q | q
 ·rw [List.getElem?_append_left q] at hj
  exact h1 j v hj
 ·rw [List.getElem?_append_right q] at hj
  have := h2 _ _ hj
  rwa [show o + c1.length + (j - c1.length) = o + j by omega] at this
theorem Wl {t e sz : Nat} (f : α → A) (ok : α → Prop) (ht : P.underlying t = some (.slice e)) (hsz : P.cellsOf e = sz) (h0 : 0 < sz) (hf : ∀ a, (f a).size = sz)
    (hel : ∀ n cs x, DataW.trod enc P w base spare held n e cs = some x → ∃ a, ok a ∧ Rep (Ks w) (f a) cs)
    {fuel : Nat} {cs : List Value} {x : DataW H × List MemPlace} (h : DataW.trod enc P w base spare held fuel t cs = some x) : ∃ l : List α, (∀ a ∈ l, ok a) ∧ Rep (Ks w) (.sl sz false (l.map f)) cs := by
  rcases DataW.trod_slice ht h with ⟨rfl, _⟩ | ⟨a, len, cap, elems, rest, n, _, rfl, _, _, hlc, _, hlen, hall, _, _⟩
  · refine ⟨[], by simp, ?_⟩
    simp only [Rep, List.map_nil, List.length_nil]
    exact ⟨none, 0, rfl, by simp, Nat.le_refl _, by simp, .inl trivial⟩
  · have key : ∀ k, k ≤ len → ∃ (l : List α) (cells : List Value), l.length = k ∧ (∀ a ∈ l, ok a) ∧ yd (Ks w) (l.map f) cells ∧ cells.length = k * sz ∧ (0 < k → a.spot = none) ∧ QM (Ks w) a.block a.off cells := by
      intro k
      induction k with
      | zero => intro _; exact ⟨[], [], rfl, by simp, by simp [yd], by simp, by simp, fun j v h => by simp at h⟩
      | succ k ih =>
        intro hk
        obtain ⟨l, cells, q1, q2, q3, q4, q5, q6⟩ := ih (by omega)
        have hk' := hall k (by omega)
        have hsome : elems[k]? = some elems[k] := List.getElem?_eq_getElem (by omega)
        rw [hsome, Option.bind_eq_some_iff, hsz] at hk'
        obtain ⟨c, hc, htr⟩ := hk'
        obtain ⟨y, hy, hr⟩ := hel _ _ _ htr
        obtain ⟨g1, g2, g3⟩ := z4B hc h0
        refine ⟨l ++ [y], cells ++ c, by simp [q1], ?_, ?_, ?_, ?_, ?_⟩
        · intro z hz
          rcases List.mem_append.1 hz with q | q
          · exact q2 z q
          · simp only [List.mem_cons, List.not_mem_nil, or_false] at q; subst q; exact hy
        · rw [List.map_append]; exact KX q3 hr
        · rw [List.length_append, q4, g2, Nat.succ_mul]
        · intro _
          rcases Nat.eq_zero_or_pos k with rfl | hk0
          · simpa [Addr.add] using g1
          · exact q5 hk0
        · refine z6b q6 ?_
          rw [q4]
          unfold Addr.add at g3
          split at g3
          · rename_i e0
            rw [e0, Nat.add_zero]
            exact g3
          · exact g3
    obtain ⟨l, cells, q1, q2, q3, q4, q5, q6⟩ := key len (Nat.le_refl _)
    refine ⟨l, q2, ?_⟩
    simp only [Rep, List.length_map]
    refine ⟨some a, cap, by rw [q1], by simp, by omega, ?_, ?_⟩
    · intro y hy
      obtain ⟨z, _, rfl⟩ := List.mem_map.1 hy
      exact hf z
    · rcases Nat.eq_zero_or_pos len with rfl | hl
      · left; rw [List.length_eq_zero_iff.1 q1]; rfl
      · right
        refine ⟨a.block, a.off, cells, ?_, q3, q6⟩
        have := q5 hl
        obtain ⟨b, o, s⟩ := a
        simp only at this
        subst this
        rfl
theorem z8U {t : Nat} {k : IntKind} {lo hi : Int} (ht : P.underlying t = some (.int k)) (hlo : k.min = lo) (hhi : k.max = hi) {fuel : Nat}  {x : DataW H × List MemPlace} (h : DataW.trod enc P w base spare held fuel t cs = some x) :
  ∃ n : Int, (lo ≤ n ∧ n ≤ hi) ∧ cs = [.int k n] ∧ Rep (Ks w) (.atom (.int k n)) cs := by
 obtain ⟨n, rfl, _, hw⟩ := DataW.trod_int ht h
 simp only [Lit.wf, Bool.and_eq_true, decide_eq_true_eq, hlo, hhi] at hw
 exact ⟨n, hw, rfl, by simp only [Rep]; exact ⟨trivial, rfl⟩⟩
theorem Wk {t : Nat} {fs : List Field} (ht : P.underlying t = some (.struct ⟨fs⟩)) {fuel : Nat}  {x : DataW H × List MemPlace} (h : DataW.trod enc P w base spare held fuel t cs = some x) :
  cs.length = P.cellsOf t ∧ ∀ (i : Nat) (f : Field), fs[i]? = some f → ∃ n y, DataW.trod enc P w base spare held n f.type ((cs.drop f.offset).take (P.cellsOf f.type)) = some y := by
 obtain ⟨xs, n, _, _, hl, hxl, hall⟩ := DataW.trod_struct ht h
 refine ⟨hl, fun i f hf => ?_⟩
 have hlt := (List.getElem?_eq_some_iff.1 hf).1
 have := hall i f (by simpa using hf)
 rw [List.getElem?_eq_getElem (by rw [hxl]; simpa using hlt)] at this
 exact ⟨n, _, this⟩
end
theorem YT {a : A} {bs : List A}  {n : Nat} (h1 : Rep S a (cs.take n)) (h2 : yd S bs (cs.drop n)) : yd S (a :: bs) cs := by
 simp only [yd]
 exact ⟨cs.take n, cs.drop n, (List.take_append_drop n cs).symm, h1, h2⟩
variable {P : Program}
section
open Go Go.ChangeShapes Go.WideShapes Go.ChangeAt Go.RowKit
theorem z3I {P : Program} {H : Type} {enc : TypeId × Value → H} {f : Func} {s : ChangeSpec} {apart fresh handsOn again : Bool} {W W' : World} {args : Array Value} {v : Value} {ds : List (DataW H)} {pa : List MemPlace}
  (hvar : s.vars = []) (hvars2 : (s.fn H (ds ++ [])).vars = []) (hW : DataW.Whole enc P f.params.toList s.vars apart W args.toList ds [] (pa ++ [])) (hb : Below W.heap.size W W')
  (hres : ∀ (b : Nat) (sp : Nat → Bool) (hd : Bool), DataW.TrodAll enc P W' b sp hd f.resultTypes.toList (v.resultList f.resultTypes.size) (s.fn H (ds ++ [])).results [])
  (hargs : ∀ sp : Nat → Bool, (∀ p ∈ pa ++ [], sp p.block = true) → DataW.TrodAll enc P W' 0 sp true f.params.toList args.toList (s.fn H (ds ++ [])).args pa)
  (hok : ∀ (j : Nat) (t : TypeId) (r : Value), f.resultTypes[j]? = some t → (v.resultList f.resultTypes.size)[j]? = some r → Value.okWide P W' .any 0 t r) :
  s.post enc P f apart fresh handsOn again W args v W' := by
 have hlt : ∀ p ∈ pa ++ [], p.block < W.heap.size := fun p hp => by simpa using hW.lt p hp
 have hvr : ∀ sp : Nat → Bool, DataW.TrodVars enc P W' sp s.vars (s.fn H (ds ++ [])).vars [] := fun sp => by rw [hvar, hvars2]; rfl
 refine ⟨ds, [], pa ++ [], [], pa, [], hW, hres _ _ _, hargs _ (fun p hp => by simpa using hlt p hp), hvr _, World.keptBut_mono (fun _ q => q.elim) (hb.frame fun _ => False), fun _ => ?_⟩
 obtain ⟨_, _, _, _, _, hz, hn⟩ := hW
 refine ⟨hok, _, _, ([] ++ pa) ++ [], ⟨[] ++ pa, [], trodAll_append (hargs _ (fun _ _ => rfl)) (hres _ _ _), hvr _, rfl, ?_, ?_⟩, ?_⟩
 ·intro b off hp
  have hp' : MemPlace.cell b off ∈ pa ++ [] := by simpa using hp
  rw [hb.frozen (p := ⟨b, off, none⟩) (hlt _ hp')]
  exact hz b off hp'
 ·intro ha
  simpa using hn ha
 ·intro p hp _
  simpa using hp
end
theorem z5B {α ρ : Type} {enc : α → List A} {encR : ρ → A} {F : α → Option ρ} {gives : List Bool} {inj : ∀ x y, enc x = enc y → x = y} (h : (spF k enc encR F gives inj).Ok P) {x : α} {r : ρ} (hr : F x = some r) : Ys P k (enc x) (encR r) := by
 have := h x ⟨r, hr⟩
 simpa only [spF, hr] using this
variable {fs : Array Field}{e : TypeId}
section
variable {P : Program} {w : World} {r : Reach} {base t : Nat} {v : Value}
theorem KE (h : ∀ cs, v ≠ .agg cs) : v = v.cells.toList.headD undef := by
 cases v <;> first | rfl | exact (h _ rfl).elim
theorem z7F {k : IntKind} (hu : P.underlying t = some (.int k)) (h : Value.okWide P w r base t v) : v = v.cells.toList.headD undef := by
 refine KE fun cs e => ?_
 subst e
 unfold Value.okWide at h
 rw [hu] at h
 simp only [Cell.okWide, hu, Cell.ok] at h
theorem z2Y (hu : P.underlying t = some (.slice e)) (h : Value.okWide P w r base t v) : v = v.cells.toList.headD undef := by
 refine KE fun cs e => ?_
 subst e
 unfold Value.okWide at h
 rw [hu] at h
 simp only [Cell.okWide, hu, Cell.ok] at h
theorem z2r (hu : P.underlying t = some (.struct fs)) (h : Value.okWide P w r base t v) : v = .agg v.cells.toList.toArray := by
 unfold Value.okWide at h
 rw [hu] at h
 obtain ⟨cs, rfl, _⟩ := h
 rfl
theorem z5U {k : IntKind}  {a : A} (hu : P.underlying t = some (.int k)) (hr : Rep S a v.cells.toList) (h : Value.okWide P w r base t v) (ha : a.isAgg = false) : wS S a v := ⟨_, hr, by cases a <;> first | exact z7F hu h | cases ha⟩
theorem z2w {a : A} (hu : P.underlying t = some (.slice e)) (hr : Rep S a v.cells.toList) (h : Value.okWide P w r base t v) (ha : a.isAgg = false) : wS S a v := ⟨_, hr, by cases a <;> first | exact z2Y hu h | cases ha⟩
theorem z0R {a : A} (hu : P.underlying t = some (.struct fs)) (hr : Rep S a v.cells.toList) (h : Value.okWide P w r base t v) (ha : a.isAgg = true) : wS S a v := ⟨_, hr, by cases a <;> first | exact z2r hu h | cases ha⟩
theorem z6l {h : Array Obj}  {F : List Nat} (q : Has S h (.atom (.bool true)) v F) : v = .bool true := by
 rcases q with ⟨q, _⟩ | ⟨cs, q, _, rfl⟩
 ·rw [(zo.1 q).1]
 ·simp only [zI, Rep] at q
  obtain ⟨⟨rfl, _⟩, _⟩ := q
  rfl
end
section
variable {H : Type} {enc : TypeId × Value → H} {w : World} {base : Nat} {spare : Nat → Bool} {held : Bool}
theorem z4D : Tryd.prog.cellsOf 3 = 1 := by kernel_rfl
theorem rd3 {fuel : Nat}  {x : DataW H × List MemPlace} (h : DataW.trod enc Tryd.prog w base spare held fuel 3 cs = some x) : ∃ a : Int, Ok3 a ∧ Rep (Ks w) ((eI .i64) a) cs := by
 obtain ⟨n, h1, _, h2⟩ := z8U Tryd.underlying3 (lo := -9223372036854775808) (hi := 9223372036854775807) rfl rfl h
 exact ⟨n, h1, h2⟩
theorem z4C : Tryd.prog.cellsOf 81 = 2 := by kernel_rfl
theorem zfu {fuel : Nat}  {x : DataW H × List MemPlace} (h : DataW.trod enc Tryd.prog w base spare held fuel 81 cs = some x) : ∃ a : zy, zdP a ∧ Rep (Ks w) ((yU (eI .i64) (eI .i64)) a) cs := by
 obtain ⟨hl, hf⟩ := Wk Tryd.underlying81 h
 rw [z4C] at hl
 obtain ⟨_, _, q0⟩ := hf 0 _ rfl
 obtain ⟨_, _, q1⟩ := hf 1 _ rfl
 simp only [z4D] at q0 q1
 obtain ⟨a0, k0, r0⟩ := rd3 q0
 obtain ⟨a1, k1, r1⟩ := rd3 q1
 refine ⟨⟨a0, a1⟩, ⟨k0, k1⟩, ?_⟩
 show Rep (Ks w) (.agg [(eI .i64) a0, (eI .i64) a1]) cs
 simp only [Rep]
 refine YT (n := 1) (by simpa [List.drop_drop] using r0) (YT (n := 1) (by simpa [List.drop_drop] using r1) ?_)
 simp only [List.drop_drop, yd]
 exact List.drop_eq_nil_of_le (by omega)
theorem z98 : Tryd.prog.cellsOf 51 = 1 := by kernel_rfl
theorem zfv {fuel : Nat}  {x : DataW H × List MemPlace} (h : DataW.trod enc Tryd.prog w base spare held fuel 51 cs = some x) : ∃ a : List zy, zdQ a ∧ Rep (Ks w) ((eSl 2 false (yU (eI .i64) (eI .i64))) a) cs := by
 exact Wl (yU (eI .i64) (eI .i64)) zdP Tryd.underlying51 z4C (by omega) (fun _ => rfl) (fun _ _ _ q => zfu q) h
theorem z9b : Tryd.prog.cellsOf 28 = 1 := by kernel_rfl
theorem zfz {fuel : Nat}  {x : DataW H × List MemPlace} (h : DataW.trod enc Tryd.prog w base spare held fuel 28 cs = some x) : ∃ a : List (List zy), zf7 a ∧ Rep (Ks w) ((eSl 1 false (eSl 2 false (yU (eI .i64) (eI .i64)))) a) cs := by
 exact Wl (eSl 2 false (yU (eI .i64) (eI .i64))) zdQ Tryd.underlying28 z98 (by omega) (fun _ => rfl) (fun _ _ _ q => zfv q) h
theorem z9a : Tryd.prog.cellsOf 30 = 3 := by kernel_rfl
theorem zfy {fuel : Nat}  {x : DataW H × List MemPlace} (h : DataW.trod enc Tryd.prog w base spare held fuel 30 cs = some x) : ∃ a : z7, zf6 a ∧ Rep (Ks w) ((wC (eI .i64) (eI .i64) (eSl 1 false (eSl 2 false (yU (eI .i64) (eI .i64))))) a) cs := by
 obtain ⟨hl, hf⟩ := Wk Tryd.underlying30 h
 rw [z9a] at hl
 obtain ⟨_, _, q0⟩ := hf 0 _ rfl
 obtain ⟨_, _, q1⟩ := hf 1 _ rfl
 obtain ⟨_, _, q2⟩ := hf 2 _ rfl
 simp only [z9b, z4D] at q0 q1 q2
 obtain ⟨a0, k0, r0⟩ := rd3 q0
 obtain ⟨a1, k1, r1⟩ := rd3 q1
 obtain ⟨a2, k2, r2⟩ := zfz q2
 refine ⟨⟨a0, a1, a2⟩, ⟨k0, k1, k2⟩, ?_⟩
 show Rep (Ks w) (.agg [(eI .i64) a0, (eI .i64) a1, (eSl 1 false (eSl 2 false (yU (eI .i64) (eI .i64)))) a2]) cs
 simp only [Rep]
 refine YT (n := 1) (by simpa [List.drop_drop] using r0) (YT (n := 1) (by simpa [List.drop_drop] using r1) (YT (n := 1) (by simpa [List.drop_drop] using r2) ?_))
 simp only [List.drop_drop, yd]
 exact List.drop_eq_nil_of_le (by omega)
theorem z99 : Tryd.prog.cellsOf 43 = 1 := by kernel_rfl
theorem zfw {fuel : Nat}  {x : DataW H × List MemPlace} (h : DataW.trod enc Tryd.prog w base spare held fuel 43 cs = some x) : ∃ a : List Int, zdR a ∧ Rep (Ks w) ((eSl 1 false (eI .i64)) a) cs := by
 exact Wl (eI .i64) Ok3 Tryd.underlying43 z4D (by omega) (fun _ => rfl) (fun _ _ _ q => rd3 q) h
theorem zfx {fuel : Nat}  {x : DataW H × List MemPlace} (h : DataW.trod enc Tryd.prog w base spare held fuel 31 cs = some x) : ∃ a : List (List Int), zf5 a ∧ Rep (Ks w) ((eSl 1 false (eSl 1 false (eI .i64))) a) cs := by
 exact Wl (eSl 1 false (eI .i64)) zdR Tryd.underlying31 z99 (by omega) (fun _ => rfl) (fun _ _ _ q => zfw q) h
end
end Go.Own
namespace Go.Proofs.YtkelmheleahmpaaDoor.coveragesErrors
open Go Go.ChangeShapes Go.WideShapes Go.ChangeAt Go.RowKit
theorem own : ownKnob Tryd.prog.godebug = none := by kernel_rfl
theorem z8P : laidOutB Tryd.prog = true := by kernel_rfl
section
variable {H : Type} {enc : TypeId × Value → H} {W : World}
set_option maxRecDepth 100000 in
theorem zfg {base : Nat} {v0 : Value} {d0 : DataW H} {p0 : List MemPlace} {v1 : Value} {d1 : DataW H} {p1 : List MemPlace} {v2 : Value} {d2 : DataW H} {p2 : List MemPlace} (h0 : DataW.Trod enc Tryd.prog W 0 (fun _ => true) true 30 v0 d0 p0) (h1 : DataW.Trod enc Tryd.prog W 0 (fun _ => true) true 31 v1 d1 p1) (h2 : DataW.Trod enc Tryd.prog W 0 (fun _ => true) true 3 v2 d2 p2) (k0 : Value.okWide Tryd.prog W .any base (30 : Nat) v0) (k1 : Value.okWide Tryd.prog W .any base (31 : Nat) v1) (k2 : Value.okWide Tryd.prog W .any base (3 : Nat) v2) :
  Calls Tryd.prog 5 #[v0, v1, v2] W fun e w' => e = .returned (.bool true) ∧ Go.Own.kQ (fun k => W.heap.size ≤ k) W w' := by
 obtain ⟨n0, h0⟩ := h0
 obtain ⟨x0, o0, r0⟩ := Go.Own.zfy h0
 obtain ⟨n1, h1⟩ := h1
 obtain ⟨x1, o1, r1⟩ := Go.Own.zfx h1
 obtain ⟨n2, h2⟩ := h2
 obtain ⟨x2, o2, r2⟩ := Go.Own.rd3 h2
 have q := (Go.Own.z5B (Go.Own.z2G Go.Own.zbu List.mem_cons_self : Go.Own.vC.Ok Tryd.prog) (x := (x0, x1, x2)) (r := true) (Go.Own.z6h o0 o1 o2)).2 (Go.Own.Ks W) W [v0, v1, v2] [] ⟨fun _ _ _ h => h, fun g x e => by cases e⟩ ?_ (by simp)
 ·refine Calls.mono q ?_
  rintro e w' ⟨v, S', F', rfl, hk, _, _, _, hr, _, _⟩
  refine ⟨?_, hk.mono (by rintro k (h | h) <;> simp_all)⟩
  rw [Go.Own.z6l hr]
 ·refine Go.Own.kJ ?_
  have g0 : Go.Own.wS (Go.Own.Ks W) ((Go.Own.wC (Go.Own.eI .i64) (Go.Own.eI .i64) (Go.Own.eSl 1 false (Go.Own.eSl 2 false (Go.Own.yU (Go.Own.eI .i64) (Go.Own.eI .i64))))) x0) v0 := Go.Own.z0R (t := (30 : Nat)) Tryd.underlying30 r0 k0 rfl
  have g1 : Go.Own.wS (Go.Own.Ks W) ((Go.Own.eSl 1 false (Go.Own.eSl 1 false (Go.Own.eI .i64))) x1) v1 := Go.Own.z2w (t := (31 : Nat)) Tryd.underlying31 r1 k1 rfl
  have g2 : Go.Own.wS (Go.Own.Ks W) ((Go.Own.eI .i64) x2) v2 := Go.Own.z5U (t := (3 : Nat)) Tryd.underlying3 r2 k2 rfl
  exact ⟨g0, g1, g2, trivial⟩
end
set_option maxRecDepth 100000 in
theorem z6o (os : Os) (args : Array Value) : laidMetH Tryd.prog Rows.coveragesErrorsRow.laid ((World.doorLaid Tryd.prog 400 os).forCall (fun _ _ => 0) ⟨#[], args, []⟩).memory :=
 laidMetH_of_parts3 (fuel := 8) (laidMet_of_run' 8 (by kernel_rfl) (by kernel_rfl)) (by kernel_rfl) (by kernel_rfl)
set_option maxRecDepth 100000 in
theorem zaB (os : Os) (started : os.Started) (H : Type) (enc : TypeId × Value → H) :
  ReturnsInHanded {} Tryd.checked os 5 .any (fun w args => (Rows.coveragesErrorsSpec.pre enc Tryd.prog Tryd.f5 Rows.coveragesErrorsRow.domain false w args ∧ laidMetH Tryd.prog Rows.coveragesErrorsRow.laid w) ∧ sizedMet enc Tryd.prog Tryd.f5 (OpenSpec.ofChange Rows.coveragesErrorsSpec) false w args) (Rows.coveragesErrorsSpec.post enc Tryd.prog Tryd.f5 false true false false) := by
 refine returnsInHanded_of_change_and (C := Tryd.checked) (X := fun w _ => laidMetH Tryd.prog Rows.coveragesErrorsRow.laid w) (fun _ _ _ hh h => h.of_heap hh) own started (by kernel_rfl) Tryd.func5
  (ChangeSpec.witness_shaped (enc := enc) (C := Tryd.checked) (os := os) (X := fun w _ => laidMetH Tryd.prog Rows.coveragesErrorsRow.laid w) false (World.doorLaid Tryd.prog 400 os) #[.agg #[.int .i64 0, .int .i64 0, .slice none 0 0], .slice none 0 0, .int .i64 0] 8 rfl (World.shaped_of_RefB (by kernel_rfl) (by kernel_rfl)) (by kernel_rfl) (by kernel_rfl) (by kernel_rfl) (z6o os _)) ?_
 intro W base args ds gs before hval0 hW hcnd _ hL _
 have hval : ∀ (j : Nat) t v, Tryd.f5.params[j]? = some t → args[j]? = some v → Value.okWide Tryd.prog W .any base t v := hval0
 have hW' := hW
 obtain ⟨p, q, hA0, hV, rfl, hfz, hnd⟩ := hW
 have hA : DataW.TrodAll enc Tryd.prog W 0 (fun _ => true) true Tryd.f5.params.toList args.toList ds p := hA0
 rw [Tryd.params5] at hA hval
 obtain ⟨v0, v1, v2, d0, d1, d2, p0, p1, p2, rfl, rfl, rfl, h0, h1, h2⟩ := trodAll_three hA
 obtain ⟨rfl, rfl⟩ := trodVars_none hV
 clear hA0 hval0
 refine (zfg h0 h1 h2 (hval 0 (30 : Nat) v0 rfl rfl) (hval 1 (31 : Nat) v1 rfl rfl) (hval 2 (3 : Nat) v2 rfl rfl)).mono fun e W' ⟨he, hk⟩ => ?_
 subst he
 have hb : Below W.heap.size W W' := ⟨hk.os, hk.tape, hk.output, hk.size, fun k q => hk.block k (by omega)⟩
 have hlt : ∀ x ∈ p0 ++ p1 ++ p2, x.block < W.heap.size := fun x hx => by simpa using hW'.lt x (by simpa using hx)
 refine ⟨_, rfl, Go.Own.z3I rfl rfl hW' hb (fun _ _ _ => trodAll_cons_mk (shut_bool Tryd.underlying4 _) trodAll_mk0) (fun sp hsp => ?_) (ok_one (by kernel_rfl) rfl (okWide_bool_mk Tryd.underlying4 _))⟩
 have st : ∀ {t : Nat} {v : Value} {d : DataW H} {p' : List MemPlace}, DataW.Trod enc Tryd.prog W 0 (fun _ => true) true t v d p' → Tryd.prog.readableRec t = true → t < Tryd.prog.types.size → (∀ x ∈ p', x ∈ p0 ++ p1 ++ p2) → DataW.Trod enc Tryd.prog W' 0 sp true t v d p' := by
  intro t v d p' hd h1 h2 hp
  exact WideElems.Trod_stays z8P h1 h2 hd (fun x hx => hb.same (hlt x (hp x hx))) (fun x hx => hsp x (by simpa using hp x hx))
 have := trodAll_mk3 (st h0 (by kernel_rfl) (of_decide_eq_true (by kernel_rfl)) (fun x hx => by simp [hx])) (st h1 (by kernel_rfl) (of_decide_eq_true (by kernel_rfl)) (fun x hx => by simp [hx])) (st h2 (by kernel_rfl) (of_decide_eq_true (by kernel_rfl)) (fun x hx => by simp [hx]))
 rw [← List.append_assoc] at this
 rw [Tryd.params5]
 exact this
theorem ZC : Rows.coveragesErrorsRow.holds Tryd.pinned (OpenSpec.ofChange Rows.coveragesErrorsSpec) :=
 OpenClaim.holds_of_wide 5 Tryd.f5 rfl rfl rfl rfl rfl rfl rfl ⟨rfl, rfl, rfl, rfl, rfl⟩ rfl rfl rfl rfl rfl (by kernel_rfl) Tryd.func5 (by kernel_rfl)
  (of_decide_eq_true (by kernel_rfl)) (by unfold Func.isWrapper; first | (rw [if_pos (by decide +kernel)]; kernel_rfl) | (rw [if_neg (by decide +kernel)]; exact ⟨rfl, rfl⟩))
  (fun os started H enc _ => zaB os started H enc)
theorem proved : Rows.CoveragesErrorsCardSaid :=
 Claim7.holds_tied_plain_at .later [] [.data, .data, .data] true (true, "fd240e39abc7d9650345d5363485ca95c3f953fda4858117605acc718f919ae9") false
  ZC (fun _ h => by cases h) (by kernel_rfl) (fun _ h => by cases h) coveragesErrors_row_tie rfl ⟨rfl, rfl⟩ (by kernel_rfl) rfl
  (fun f fn hf hfn => by
   obtain rfl : f = 5 := Option.some.inj ((show Tryd.prog.funcNamed "gauntlet/gauntletlaw40.CoveragesErrors" = some 5 by kernel_rfl).symm.trans hf) |>.symm
   obtain rfl : fn = Tryd.f5 := (Option.some.inj (Tryd.func5.symm.trans hfn)).symm
   exact ⟨by kernel_rfl, fun j t ht => by
    rw [Tryd.params5] at ht
    have hm : t ∈ [30, 31, 3] := by simpa using Array.mem_of_getElem? ht
    have hall : ([30, 31, 3].all fun u => !Tryd.prog.wantsStandIn u) = true := by kernel_rfl
    exact (show Tryd.prog.wantsStandIn t = false by simpa using List.all_eq_true.1 hall t hm)⟩)
  (by kernel_rfl)
#print axioms proved
end Go.Proofs.YtkelmheleahmpaaDoor.coveragesErrors
end
