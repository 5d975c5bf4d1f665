/- -/
import Derived.Test.YtlejgipmepemjaaPartC
import Derived.Laws.BytesString
set_option linter.unusedVariables false
set_option linter.unusedSimpArgs false
namespace Go.Own
def xAt (P : Program) {β : Type} (p : Oper → Option β) (e : Fr → Oper → β → SM Unit) (h : Fr → Oper → β → HM Unit)
  (ok : ∀ (C : Ctx) (S : zl) (Fp : Nat → List Nat) (st : St) (a : Act) (w : World) (o : Oper) (b : β), p o = some b → Sim C S Fp [] st a w → ∀ u R U, e C.n o b st = some (u, R, U) → uf P C o a w (zc U st))
  (loc : ∀ n o b, Loc (e n o b)) (sd : ∀ n o b, Snd (e n o b) (h n o b)) : XH P := {
 e := fun n o => (p o).map (e n o)
 h := fun n o => (p o).map (h n o)
 ok := by
  refine ⟨?_, ?_⟩
  ·intro C S Fp st a w o m u R U e0 h h2
   obtain ⟨b, hp, rfl⟩ := Option.map_eq_some_iff.1 e0
   exact ok C S Fp st a w o b hp h _ _ _ h2
  ·intro n o m e0
   obtain ⟨b, hp, rfl⟩ := Option.map_eq_some_iff.1 e0
   exact fun st st' a R U => loc n o b st st' a R U
 none := by
  intro n o e0
  rw [Option.map_eq_none_iff] at e0 ⊢
  exact e0
 some := by
  intro n o m e0
  obtain ⟨b, hp, rfl⟩ := Option.map_eq_some_iff.1 e0
  exact ⟨_, by rw [hp]; rfl, sd n o b⟩ }
theorem z3x {o : Oper} {d : Nat} {β : Type} {x : Option β} {b : β} (h : (if o.dst = some d then x else none) = some b) : x = some b := by
 split at h
 ·exact h
 ·cases h
def zas (d : Nat) (o : Oper) : Option (Nat × Operand × Operand) := match o.op with | .slice t x (some lo) none none => if o.dst = some d then some (t, x, lo) else none | _ => none
noncomputable def xVw {P : Program} {tt : TT} (hT : vw P tt) (d r : Nat) (v : Value) : XH P :=
 xAt P (zas d) (fun n o b => vwO tt n o.dst b.1 r v b.2.1 b.2.2) (fun n o b => vwH tt n o.dst b.1 r v b.2.1 b.2.2)
  (by
   intro C S Fp st a w o b hp h u R U e
   unfold zas at hp
   split at hp
   ·rename_i ho; cases z3x hp; exact z97 hT h ho e
   ·cases hp)
  (fun n o b => Loc.vwO _ _ _ _ _ _ _ _) (fun n o b => zaQ _ _ _ _ _ _ _ _)
def zat (d t : Nat) (o : Oper) : Option Operand := match o.op with | .call ⟨.builtin .len, ⟨[x]⟩, ⟨[t']⟩⟩ => if o.dst = some d then (if t' = t then some x else none) else none | _ => none
noncomputable def xVl {P : Program} {tt : TT} (hT : vw P tt) (d t sz r : Nat) (v : Value) (l : Int) (hty : qQ tt t = true) : XH P :=
 xAt P (zat d t) (fun n o x => vlO n o.dst sz r v l x) (fun n o x => vlH n o.dst sz r v l x)
  (by
   intro C S Fp st a w o x hp h u R U e
   unfold zat at hp
   split at hp
   ·rename_i ho
    replace hp := z3x hp
    split at hp
    ·rename_i ht; subst ht; cases hp; exact z98 hT h hty ho e
    ·cases hp
   ·cases hp)
  (fun n o x => Loc.vlO _ _ _ _ _ _ _) (fun n o x => zaR _ _ _ _ _ _ _)
def zau (d : Nat) (o : Oper) : Option (Nat × Operand × Operand) := match o.op with | .indexAddr t x i => if o.dst = some d then some (t, x, i) else none | _ => none
noncomputable def xVi {P : Program} {tt : TT} (hT : vw P tt) (d sz r : Nat) (v : Value) (l : Int) : XH P :=
 xAt P (zau d) (fun n o b => viO tt n o.dst b.1 sz r v l b.2.1 b.2.2) (fun n o b => viH tt n o.dst b.1 sz r v l b.2.1 b.2.2)
  (by
   intro C S Fp st a w o b hp h u R U e
   unfold zau at hp
   split at hp
   ·rename_i ho; cases z3x hp; exact z99 hT h ho e
   ·cases hp)
  (fun n o b => Loc.viO _ _ _ _ _ _ _ _ _ _) (fun n o b => zaS _ _ _ _ _ _ _ _ _ _)
def zav (s : Nat) (o : Oper) : Option Nat := match o.op with | .call ⟨.builtin .clear, ⟨[.tmp s']⟩, ⟨[t]⟩⟩ => if s' = s then some t else none | _ => none
noncomputable def xVc {P : Program} {tt : TT} (hT : vw P tt) (s sz r : Nat) (v : Value) (l : Int) : XH P :=
 xAt P (zav s) (fun n o t => vcO tt n o.dst t sz r v l (.tmp s)) (fun n o t => vcH tt n o.dst t sz r v l (.tmp s))
  (by
   intro C S Fp st a w o b hp h u R U e
   unfold zav at hp
   split at hp
   ·rename_i ho
    split at hp
    ·rename_i hs; subst hs; cases hp; exact z9a hT h ho e
    ·cases hp
   ·cases hp)
  (fun n o b => Loc.vcO _ _ _ _ _ _ _ _ _) (fun n o b => zaT _ _ _ _ _ _ _ _ _)
def clO (tt : TT) (n : Fr) (dst : Option Nat) (t : Nat) (x hi mx : Operand) : SM Unit := do
 let y ← opnd x
 let z ← take y
 match z with
 | .osl sz _ es => if xN tt t = some sz then bound es.length (some hi) >>= fun h => bound 0 (some mx) >>= fun m => if h ≤ m ∧ m ≤ es.length then wrT n dst (.own (.osl sz (m == h) (es.take h))) else zq else zq
 | _ => zq
def clH (tt : TT) (n : Fr) (dst : Option Nat) (t : Nat) (x hi mx : Operand) : HM Unit := yo (opnd x) >>= fun y => z2a y >>= fun z =>
 match z with
 | .osl sz _ es => if xN tt t = some sz then Uv es.length (some hi) >>= fun h => Uv 0 (some mx) >>= fun m => kU (h ≤ m ∧ m ≤ es.length) (eqA (.osl sz (m == h) (es.take h)) >>= fun z => yo (wrT n dst (.own z))) else zM
 | _ => zM
theorem zb0 (tt : TT) (n : Fr) (dst : Option Nat) (t : Nat) (x hi mx : Operand) : Snd (clO tt n dst t x hi mx) (clH tt n dst t x hi mx) := by
 refine zj (zm _) fun y => zj (z0U _) fun z => ?_
 cases z with
 | osl sz tg es =>
  refine vp (zj (XS _ _) fun h => zj (XS _ _) fun m => qS ?_) (zo _)
  exact Yu (y7 _ fun z => wrT n dst (.own z)).symm (zj (Kg _) fun _ => zm _)
 | _ => exact zo _
theorem Loc.clO (tt : TT) (n : Fr) (dst : Option Nat) (t : Nat) (x hi mx : Operand) : Loc (clO tt n dst t x hi mx) := by
 unfold Go.Own.clO
 refine Loc.bind (Loc.opnd _) fun _ => Loc.bind (Loc.take _) fun z => ?_
 cases z with
 | osl sz tg es => exact Loc.ite (Loc.bind (Loc.bound _ _) fun _ => Loc.bind (Loc.bound _ _) fun _ => Loc.ite (Loc.wrT _ _ _) Loc.fail) Loc.fail
 | _ => exact Loc.fail
section
variable {C : Ctx} {S : zl} {Fp : Nat → List Nat} {st : St} {a : Act} {w : World}
theorem z9w {P : Program} {tt : TT} (hT : vw P tt) (h : Sim C S Fp [] st a w) {o : Oper} {t : Nat} {x hi mx : Operand} (ho : o.op = .slice t x none (some hi) (some mx)) {u : Unit} {R : List Nat} {U : List (Nat × Ent)} (e : clO tt C.n o.dst t x hi mx st = some (u, R, U)) : uf P C o a w (zc U st) := by
 unfold clO at e
 obtain ⟨y, R1, U1, R2, U2, h1, e1, rfl, rfl⟩ := bind_some e
 obtain ⟨rfl, hx⟩ := zP h h1
 simp only [zc, List.nil_append] at e1 ⊢
 obtain ⟨z, R3, U3, R4, U4, h3, e2, rfl, rfl⟩ := bind_some e1
 obtain ⟨Fp', F, g1, g2⟩ := Jd h hx h3
 rw [zw]
 cases z with
 | osl sz tg es =>
  simp only at e2
  split at e2
  ·rename_i hel
   obtain ⟨hh, R5, U5, R6, U6, h5, e3, rfl, rfl⟩ := bind_some e2
   obtain ⟨rfl, b2⟩ := Yn g1 h5
   simp only [zc, List.nil_append] at e3 ⊢
   obtain ⟨m, R7, U7, R8, U8, h7, e4, rfl, rfl⟩ := bind_some e3
   obtain ⟨rfl, b3⟩ := Yn g1 h7
   simp only [zc, List.nil_append] at e4 ⊢
   split at e4
   ·rename_i hle
    obtain ⟨hle1, hle2⟩ := hle
    obtain ⟨el, he, hsz⟩ := vn hT hel w
    obtain ⟨cs, k1, k2, k3⟩ : ∃ cs, zO S w.heap (.osl sz tg es) cs F ∧ F.Nodup ∧ a.eval x = zZ (.osl sz tg es) cs := by
     rcases g2 with ⟨q, _⟩ | q
     ·simp only [xx, vM, Rep, false_and, exists_false] at q
     ·exact q
    simp only [zO] at k1
    obtain ⟨p, c, rfl, t1, t2, t3, t4, t5⟩ := k1
    have ev : a.eval x = .slice p es.length c := k3
    have b3' : Wy ((some mx).map a.eval) c m := by
     rcases b3 with ⟨q, _⟩ | ⟨o, k, j, q, q2, q3, q4⟩
     ·cases q
     ·cases q; exact .inr ⟨k, j, by simp [q2], q3, q4⟩
    have b2' : (Option.isSome ((some hi).map a.eval)) = true := rfl
    have hrun := jT (P := P) (w := w) he hsz (p := p) (len := es.length) (c := c) (lo := none) (.inl ⟨rfl, rfl⟩) (Yo b2) b3' (Nat.zero_le _) hle1 (by omega) (fun _ => b2')
    have hp : (if m = 0 then p else p.map (·.add (0 * sz))) = p := by
     split
     ·rfl
     ·cases p <;> simp [Addr.add]
    rw [hp] at hrun
    have hlen : (es.take hh).length = hh := by simp; omega
    have ht4 : ∀ x ∈ es.take hh, x.size = sz := fun x hx => t4 x (List.mem_of_mem_take hx)
    obtain ⟨F2, cs2, m1, m2, m3, m4⟩ : ∃ F2 cs2, zO S w.heap (.osl sz (m == hh) (es.take hh)) cs2 F2 ∧ F2.Nodup ∧ (∀ k ∈ F2, k ∈ F) ∧ zZ (.osl sz (m == hh) (es.take hh)) cs2 = .slice p hh m := by
     rcases t5 with ⟨rfl, rfl, rfl, rfl⟩ | ⟨b, arr, ty, l, F', rfl, e1, e2, e3, e4, rfl, e5⟩
     ·have hm0 : m = 0 := by simpa using hle2
      subst hm0
      have : hh = 0 := by omega
      subst this
      refine ⟨[], [.slice none 0 0], ?_, by simp, by simp, rfl⟩
      simp only [zO]
      exact ⟨none, 0, by simp, by simp, by simp, Nat.zero_le _, by simp, .inl (by simp)⟩
     ·obtain ⟨F3, q1, q2, q3⟩ := QB e4 hh
      have hn := List.nodup_cons.1 k2
      refine ⟨b :: F3, [.slice (some ⟨b, 0, none⟩) hh m], ?_, List.nodup_cons.2 ⟨fun q => hn.1 (q2 b q), q3 hn.2⟩, ?_, rfl⟩
      ·simp only [zO]
       refine ⟨some ⟨b, 0, none⟩, m, by rw [hlen], by intro q; rw [hlen]; simpa using q, by rw [hlen]; omega, by omega, ht4, .inr ⟨b, arr, ty, _, F3, rfl, e1, Nat.le_trans (Nat.mul_le_mul_right _ (by omega)) e2, ?_, q1, rfl, e5⟩⟩
       rw [← e3, List.take_take, A.sizes_const ht4, hlen]
       congr 1
       have := Nat.mul_le_mul_right sz (show hh ≤ es.length by omega)
       omega
      ·intro k hk
       rcases List.mem_cons.1 hk with rfl | hk
       ·simp
       ·simp [q2 k hk]
    have g1' : Sim C S Fp' (F2 ++ []) (zc U3 st) a w := g1.mem g1.below (fun _ _ _ h => h) g1.still g1.sbase (fun t' k hk => ⟨rfl, (g1.free t' k hk).2.1⟩) (by simpa using m2) (fun t' k hk => g1.xd t' k (by simp at hk ⊢; exact m3 k hk)) (fun k hk => g1.xb k (by simp at hk ⊢; exact m3 k hk))
    obtain ⟨Fp'', hs⟩ := ZQ g1' e4 m1 m2
    rw [m4] at hs
    refine zt ?_ hs
    simp only [Nat.sub_zero] at hrun
    simp only [Option.map_some] at hrun
    simp [execOp, ho, ev, hrun]
   ·exact (z8 e4).elim
  ·exact (z8 e2).elim
 | _ => exact (z8 e2).elim
end
def zaA (d : Nat) (o : Oper) : Option (Nat × Operand × Operand × Operand) := match o.op with | .slice t x none (some hi) (some mx) => if o.dst = some d then some (t, x, hi, mx) else none | _ => none
def xCl {P : Program} {tt : TT} (hT : vw P tt) (d : Nat) : XH P :=
 xAt P (zaA d) (fun n o b => clO tt n o.dst b.1 b.2.1 b.2.2.1 b.2.2.2) (fun n o b => clH tt n o.dst b.1 b.2.1 b.2.2.1 b.2.2.2)
  (by
   intro C S Fp st a w o b hp h u R U e
   unfold zaA at hp
   split at hp
   ·rename_i ho; cases z3x hp; exact z9w hT h ho e
   ·cases hp)
  (fun n o b => Loc.clO _ _ _ _ _ _ _) (fun n o b => zb0 _ _ _ _ _ _ _)
def zb8 (d : Nat) (o : Oper) : Option Unit := match o.op with | .call ⟨.value _, _, _⟩ => if o.dst = some d then some () else none | _ => none
noncomputable def QK {P : Program} {tt : TT} (hT : vw P tt) {s : yw} (h : s.Ok P) (d : Nat) : XH P :=
 xAt P (zb8 d) (fun n o _ => stepO tt (Xk.add s) n o) (fun n o _ => K8 tt (Xk.add s) n o)
  (fun C S Fp st a w o b hp hS u R U e => Je hT (Ctr.add_ok (z0B P) h) hS e)
  (fun n o b => Loc.stepO _ _ _ _) (fun n o b => z0e _ _ _ _)
theorem vlM {α : Type} (f : α → A) (l : List α) (k : Nat) : A.atom (.int .i64 (((l.map f).length - k : Nat) : Int)) = .atom (.int .i64 ((l.length - k : Nat) : Int)) := by rw [List.length_map]
theorem vcM {α : Type} (f : α → A) (l : List α) (k : Nat) (z : α) : (l.map f).take k ++ List.replicate ((l.map f).length - k) (f z) = (l.take k ++ List.replicate (l.length - k) z).map f := by simp
theorem clB {α : Type} (f : α → A) (l : List α) : ((l.length : Nat) : Int).toNat ≤ ((l.length : Nat) : Int).toNat ∧ ((l.length : Nat) : Int).toNat ≤ (l.map f).length := by simp
theorem clE {α : Type} (sz : Nat) (f : α → A) (l : List α) : A.osl sz (((l.length : Nat) : Int).toNat == ((l.length : Nat) : Int).toNat) ((l.map f).take ((l.length : Nat) : Int).toNat) = eOs sz true f l := by
 simp only [beq_self_eq_true, Int.toNat_natCast, eOs]
 rw [List.take_of_length_le (by simp)]
end Go.Own

namespace Go.Own
def z6i : Value → Option Bool
 | .slice none _ _ => some true
 | .slice (some _) _ _ => some false
 | _ => none
theorem z3j {P : Program} {n : Fr} {c : Code} {st : St} {Q : Exit → St → Prop} {fs : List Fm} (e : fs = []) (k : Nat) {sz : Nat} {t : Bool} {es : List A} (hk : (st k).t = .d (.sl sz t es))
  (h : ∀ v, v.oneCell' = true → (z6i v = some true ∧ es = []) ∨ z6i v = some false → AWP P ⟨n.size, (k, v) :: n.pin⟩ c st (Qf P ⟨n.size, (k, v) :: n.pin⟩ [] Q)) : AWP P n c st (Qf P n fs Q) := by
 subst e
 intro rd m df w0 S0 M S Fp a w hc hs
 have q := hs.ent k
 unfold yH at q
 simp only [hk] at q
 have q1 := q.1
 simp only [xx] at q1
 obtain ⟨cs, r1, r2⟩ := q1
 simp only [Rep] at r1
 obtain ⟨p, c', rfl, r3, r4, r5, r6⟩ := r1
 have ev : Act.tv a k = .slice p es.length c' := r2
 have hcase : (z6i (Act.tv a k) = some true ∧ es = []) ∨ z6i (Act.tv a k) = some false := by
  rw [ev]
  cases p with
  | none =>
   refine .inl ⟨rfl, ?_⟩
   rcases r6 with r6 | ⟨b, o, l, e, _⟩
   ·exact r6
   ·cases e
  | some p => exact .inr rfl
 refine wpIn_mono (h (Act.tv a k) (by rw [ev]; rfl) hcase rd m df w0 S0 M S Fp a w ⟨hc.nodup, hc.df, hc.rd⟩ (hs.pinned k)) ?_
 rintro e a' w' ⟨df', st1, S1, Fp1, h1, h2, h3⟩
 exact ⟨df', st1, S1, Fp1, h1.unpinned, h2, h3⟩
open Classical in
noncomputable def nilO (n : Fr) (dst : Option Nat) (v : Value) (b : Bool) (x y : Operand) : SM Unit := do
 let tx ← opnd x
 let ty ← opnd y
 if tx = .d (.atom v) ∧ ty = .d (.atom (.slice none 0 0)) then wrT n dst (.d (.atom (.bool b))) else zq
noncomputable def zaq (n : Fr) (dst : Option Nat) (v : Value) (b : Bool) (x y : Operand) : HM Unit := yo (opnd x) >>= fun tx => yo (opnd y) >>= fun ty => kU (tx = .d (.atom v) ∧ ty = .d (.atom (.slice none 0 0))) (yo (wrT n dst (.d (.atom (.bool b)))))
open Classical in
theorem z9h (n : Fr) (dst : Option Nat) (v : Value) (b : Bool) (x y : Operand) : Snd (nilO n dst v b x y) (zaq n dst v b x y) := zj (zm _) fun _ => zj (zm _) fun _ => qS (zm _)
open Classical in
theorem Loc.nilO (n : Fr) (dst : Option Nat) (v : Value) (b : Bool) (x y : Operand) : Loc (nilO n dst v b x y) := by
 unfold Go.Own.nilO
 exact Loc.bind (Loc.opnd _) fun _ => Loc.bind (Loc.opnd _) fun _ => Loc.ite (Loc.wrT _ _ _) Loc.fail
theorem z7A {P : Program} {tt : TT} (hT : vw P tt) {C : Ctx} {S : zl} {Fp : Nat → List Nat} {st : St} {a : Act} {w : World} (h : Sim C S Fp [] st a w) {o : Oper} {t yt : Nat} {v : Value} {b : Bool} {x y : Operand} (hty : qQ tt t = true) (hv : z6i v = some b) (ho : o.op = .binOp .eql t x y yt) {u : Unit} {R : List Nat} {U : List (Nat × Ent)} (e0 : nilO C.n o.dst v b x y st = some (u, R, U)) : uf P C o a w (zc U st) := by
 unfold nilO at e0
 obtain ⟨tx, R1, U1, R2, U2, h1, e1, rfl, rfl⟩ := bind_some e0
 obtain ⟨rfl, hx⟩ := zP h h1
 obtain ⟨ty, R3, U3, R4, U4, h3, e2, rfl, rfl⟩ := bind_some e1
 obtain ⟨rfl, hy⟩ := zP h h3
 simp only [zc, List.nil_append] at e2 ⊢
 split at e2
 ·rename_i hc
  obtain ⟨rfl, rfl⟩ := hc
  have ex := (zy.1 hx).1
  have ey := (zy.1 hy).1
  obtain ⟨el, hel⟩ := ZA hT hty
  obtain ⟨Fp', hs⟩ := wz h e2 (x := .d (.atom (.bool b))) (zy.2 ⟨rfl, rfl⟩)
  refine zt ?_ hs
  have heq : (Op.equal t v (.slice none 0 0)).run P w = .ok b w := by
   unfold Op.equal Op.maxDepth
   show (Op.equalIn (9999 + 1) t v _).run P w = _
   generalize 9999 = q
   unfold Op.equalIn
   simp only [Sem.run_bind, run_underlying hel, Result.andThen_ok]
   cases v with
   | slice p l c => cases p <;> (simp only [z6i, Option.some.injEq] at hv; subst hv; simp)
   | _ => cases hv
  cases v with
  | slice p l c => simp [execOp, ho, ex, ey, eqGuard, Go.binOp, heq]
  | _ => cases hv
 ·exact (z8 e2).elim
def z7H (d t : Nat) (o : Oper) : Option (Operand × Operand) := match o.op with | .binOp .eql t' x y _ => if o.dst = some d then (if t' = t then some (x, y) else none) else none | _ => none
noncomputable def z8W {P : Program} {tt : TT} (hT : vw P tt) (d t : Nat) {v : Value} {b : Bool} (hty : qQ tt t = true) (hv : z6i v = some b) : XH P :=
 xAt P (z7H d t) (fun n o q => nilO n o.dst v b q.1 q.2) (fun n o q => zaq n o.dst v b q.1 q.2)
  (by
   intro C S Fp st a w o q hp h u R U e
   unfold z7H at hp
   split at hp
   ·rename_i ho
    replace hp := z3x hp
    split at hp
    ·rename_i ht; subst ht; cases hp; exact z7A hT h hty hv ho e
    ·cases hp
   ·cases hp)
  (fun n o q => Loc.nilO _ _ _ _ _ _) (fun n o q => z9h _ _ _ _ _ _)
instance (k : IntKind) (x y : Int) : SzA (eI k x) (eI k y) := ⟨rfl⟩
open Classical in
noncomputable def asO (n : Fr) (dst : Option Nat) (v : Value) (x : Operand) : SM Unit := do
 let tx ← opnd x
 if tx = .d (.atom v) then wrT n dst (.d (.atom v)) else zq
noncomputable def asH (n : Fr) (dst : Option Nat) (v : Value) (x : Operand) : HM Unit := yo (opnd x) >>= fun tx => kU (tx = .d (.atom v)) (yo (wrT n dst (.d (.atom v))))
open Classical in
theorem zb1 (n : Fr) (dst : Option Nat) (v : Value) (x : Operand) : Snd (asO n dst v x) (asH n dst v x) := zj (zm _) fun _ => qS (zm _)
open Classical in
theorem Loc.asO (n : Fr) (dst : Option Nat) (v : Value) (x : Operand) : Loc (asO n dst v x) := by
 unfold Go.Own.asO
 exact Loc.bind (Loc.opnd _) fun _ => Loc.ite (Loc.wrT _ _ _) Loc.fail
theorem z9y {P : Program} {C : Ctx} {S : zl} {Fp : Nat → List Nat} {st : St} {a : Act} {w : World} (h : Sim C S Fp [] st a w) {o : Oper} {v : Value} {x : Operand} (ho : o.op = .assign x) {u : Unit} {R : List Nat} {U : List (Nat × Ent)} (e0 : asO C.n o.dst v x st = some (u, R, U)) : uf P C o a w (zc U st) := by
 unfold asO at e0
 obtain ⟨tx, R1, U1, R2, U2, h1, e1, rfl, rfl⟩ := bind_some e0
 obtain ⟨rfl, hx⟩ := zP h h1
 simp only [zc, List.nil_append] at e1 ⊢
 split at e1
 ·rename_i hc
  subst hc
  have hx' : xx S (.atom v) (a.eval x) := hx
  obtain ⟨Fp', hs⟩ := wz h e1 (x := .d (.atom v)) (v := a.eval x) hx'
  exact zt (by simp [execOp, ho]) hs
 ·exact (z8 e1).elim
def zaC (d : Nat) (o : Oper) : Option Operand := match o.op with | .assign x => if o.dst = some d then some x else none | _ => none
noncomputable def xAs (P : Program) (d : Nat) (v : Value) : XH P :=
 xAt P (zaC d) (fun n o x => asO n o.dst v x) (fun n o x => asH n o.dst v x)
  (by
   intro C S Fp st a w o x hp h u R U e
   unfold zaC at hp
   split at hp
   ·rename_i ho; cases z3x hp; exact z9y h ho e
   ·cases hp)
  (fun n o x => Loc.asO _ _ _ _) (fun n o x => zb1 _ _ _ _)
theorem z34 {sz : Nat} {p : Option Addr} {n c : Nat} : qR sz (.slice p n c) 0 = .slice p n c := by
 have : (0 : Int).toNat = 0 := rfl
 simp only [qR, this, Nat.sub_zero, Nat.zero_mul]
 congr 1
 split
 ·rfl
 ·cases p <;> simp [Addr.add]
def mwK (n : Fr) (dst : Option Nat) (r sz : Nat) (v : Value) (e : Ent) : SM Unit :=
 match e.t with
 | .own (.osl sz' _ _) => if sz' = sz then wrT n dst (.d (.atom (qR sz v 0))) else zq
 | _ => zq
open Classical in
noncomputable def mwO (n : Fr) (dst : Option Nat) (r sz : Nat) (v : Value) : SM Unit := if WD n.pin r = some v then (rdE r >>= fun e => mwK n dst r sz v e) else zq
noncomputable def mwH (n : Fr) (dst : Option Nat) (r sz : Nat) (v : Value) : HM Unit := kU (WD n.pin r = some v) (yo (rdE r >>= fun e => mwK n dst r sz v e))
open Classical in
theorem Loc.mwO (n : Fr) (dst : Option Nat) (r sz : Nat) (v : Value) : Loc (mwO n dst r sz v) := by
 unfold Go.Own.mwO
 refine Loc.ite (Loc.bind (Loc.rdE _) fun e => ?_) Loc.fail
 unfold Go.Own.mwK
 split
 ·exact Loc.ite (Loc.wrT _ _ _) Loc.fail
 ·exact Loc.fail
theorem z9r {P : Program} {C : Ctx} {S : zl} {Fp : Nat → List Nat} {st : St} {a : Act} {w : World} (h : Sim C S Fp [] st a w) {o : Oper} {r sz : Nat} {v : Value} (ho : o.op = .move (.tmp r)) {u : Unit} {R : List Nat} {U : List (Nat × Ent)} (e0 : mwO C.n o.dst r sz v st = some (u, R, U)) : uf P C o a w (zc U st) := by
 unfold mwO at e0
 split at e0
 ·rename_i hp
  have hs := h.pin r v (ua hp)
  obtain ⟨en, R7, U7, R8, U8, h7, e4, rfl, rfl⟩ := bind_some e0
  obtain ⟨rfl, rfl, rfl⟩ := ym h7
  simp only [zc, List.nil_append] at e4 ⊢
  unfold mwK at e4
  cases ht : (st r).t with
  | own y =>
   cases y with
   | osl sz' tg es =>
    simp only [ht] at e4
    split at e4
    ·rename_i hz
     subst hz
     obtain ⟨p, c, ev, _, _, _⟩ := Jp h ht
     have hvv : v = .slice p es.length c := by rw [← hs, ev]
     obtain ⟨Fp', hs'⟩ := wz h e4 (x := .d (.atom (qR sz' v 0))) (v := v) (by rw [hvv, z34]; exact zy.2 ⟨rfl, rfl⟩)
     refine zt ?_ hs'
     have ex : a.eval (.tmp r) = v := hs
     simp [execOp, ho, ex]
    ·exact (z8 e4).elim
   | _ => simp only [ht] at e4; exact (z8 e4).elim
  | _ => simp only [ht] at e4; exact (z8 e4).elim
 ·exact (z8 e0).elim
open Classical in
theorem zaY (n : Fr) (dst : Option Nat) (r sz : Nat) (v : Value) : Snd (mwO n dst r sz v) (mwH n dst r sz v) := qS (zm _)
def zaz (d r : Nat) (o : Oper) : Option Unit := match o.op with | .move (.tmp r') => if o.dst = some d then (if r' = r then some () else none) else none | _ => none
noncomputable def xMw (P : Program) (d r sz : Nat) (v : Value) : XH P :=
 xAt P (zaz d r) (fun n o _ => mwO n o.dst r sz v) (fun n o _ => mwH n o.dst r sz v)
  (by
   intro C S Fp st a w o q hp h u R U e
   unfold zaz at hp
   split at hp
   ·rename_i ho
    replace hp := z3x hp
    split at hp
    ·rename_i ht; subst ht; exact z9r h ho e
    ·cases hp
   ·cases hp)
  (fun n o q => Loc.mwO _ _ _ _ _) (fun n o q => zaY _ _ _ _ _)
theorem z6K {C : Ctx} {S : zl} {Fp : Nat → List Nat} {st : St} {a : Act} {w : World} (h : Sim C S Fp [] st a w) {r : Nat} {x : A} (hr : (st r).t = .own (.box x)) : ∃ b, Act.tv a r = .pointer (some ⟨b, 0, none⟩) := by
 have hq := h.ent r
 unfold yH at hq
 simp only [hr] at hq
 obtain ⟨cs, c1, c2, c3⟩ := hq
 simp only [zO] at c1
 obtain ⟨b, ty, l, F', rfl, _⟩ := c1
 exact ⟨b, c3⟩
theorem z7U {P : Program} {n : Fr} {c : Code} {st : St} {Q : Exit → St → Prop} (k : Nat) {v : Value} {y : A} (hk : (st k).t = .own y) (ho : z01 y = true) (hp : WD n.pin k = some v) (h : v.oneCell' = true → AWP P n c st Q) : AWP P n c st Q := by
 intro rd m df w0 S0 M S Fp a w hc hs
 have hone : (Act.tv a k).oneCell' = true := by
  have q := hs.ent k
  unfold yH at q
  simp only [hk] at q
  obtain ⟨cs, c1, _, hv⟩ := q
  have hcs := Yj ho c1
  rw [hv]
  exact c1.one1 (Yk ho) _ (by have q := List.mem_singleton_self (zZ y cs); rwa [← hcs] at q)
 have hv := hs.pin k v (ua hp)
 exact h (by rw [← hv]; exact hone) rd m df w0 S0 M S Fp a w hc hs
def ncK (n : Fr) (dst : Option Nat) (r : Nat) (e : Ent) : SM Unit :=
 match e.t with
 | .own (.box _) => wrT n dst (.als r [] e.er e.ec)
 | _ => zq
open Classical in
noncomputable def ncO (n : Fr) (dst : Option Nat) (r : Nat) (v : Value) (x : Operand) : SM Unit := do
 let tx ← opnd x
 if tx = .d (.atom v) ∧ WD n.pin r = some v then (rdE r >>= fun e => ncK n dst r e) else zq
noncomputable def ncH (n : Fr) (dst : Option Nat) (r : Nat) (v : Value) (x : Operand) : HM Unit := yo (opnd x) >>= fun tx => kU (tx = .d (.atom v) ∧ WD n.pin r = some v) (yo (rdE r >>= fun e => ncK n dst r e))
open Classical in
theorem zaW (n : Fr) (dst : Option Nat) (r : Nat) (v : Value) (x : Operand) : Snd (ncO n dst r v x) (ncH n dst r v x) := zj (zm _) fun _ => qS (zm _)
open Classical in
theorem Loc.ncO (n : Fr) (dst : Option Nat) (r : Nat) (v : Value) (x : Operand) : Loc (ncO n dst r v x) := by
 unfold Go.Own.ncO
 refine Loc.bind (Loc.opnd _) fun _ => Loc.ite (Loc.bind (Loc.rdE _) fun e => ?_) Loc.fail
 unfold Go.Own.ncK
 split
 ·exact Loc.wrT _ _ _
 ·exact Loc.fail
theorem z9p {P : Program} {C : Ctx} {S : zl} {Fp : Nat → List Nat} {st : St} {a : Act} {w : World} (h : Sim C S Fp [] st a w) {o : Oper} {r : Nat} {v : Value} {x : Operand} (ho : o.op = .nilCheck x) {u : Unit} {R : List Nat} {U : List (Nat × Ent)} (e0 : ncO C.n o.dst r v x st = some (u, R, U)) : uf P C o a w (zc U st) := by
 unfold ncO at e0
 obtain ⟨tx, R1, U1, R2, U2, h1, e1, rfl, rfl⟩ := bind_some e0
 obtain ⟨rfl, hx⟩ := zP h h1
 simp only [zc, List.nil_append] at e1 ⊢
 split at e1
 ·rename_i hc
  obtain ⟨rfl, hp⟩ := hc
  have hs := h.pin r v (ua hp)
  obtain ⟨en, R7, U7, R8, U8, h7, e4, rfl, rfl⟩ := bind_some e1
  obtain ⟨rfl, rfl, rfl⟩ := ym h7
  simp only [zc, List.nil_append] at e4 ⊢
  unfold ncK at e4
  cases ht : (st r).t with
  | own y =>
   cases y with
   | box z =>
    simp only [ht] at e4
    obtain ⟨b, ev⟩ := z6K h ht
    have hvv : v = .pointer (some ⟨b, 0, none⟩) := by rw [← hs, ev]
    have hals : qo w.heap st (Act.tv a) r [] (st r).er (st r).ec (Act.tv a r) := by
     refine ⟨Nat.le_refl _, Nat.le_refl _, ?_⟩
     simp [ht]
    have hT : TOk S w.heap st (Act.tv a) (.als r [] (st r).er (st r).ec) v := by rw [← hs]; exact hals
    obtain ⟨Fp', hs'⟩ := wz h e4 hT
    refine zt ?_ hs'
    have ex : a.eval x = v := (zy.1 hx).1
    simp [execOp, ho, ex, hvv]
   | _ => simp only [ht] at e4; exact (z8 e4).elim
  | _ => simp only [ht] at e4; exact (z8 e4).elim
 ·exact (z8 e1).elim
def zax (d : Nat) (o : Oper) : Option Operand := match o.op with | .nilCheck x => if o.dst = some d then some x else none | _ => none
noncomputable def xNc (P : Program) (d r : Nat) (v : Value) : XH P :=
 xAt P (zax d) (fun n o x => ncO n o.dst r v x) (fun n o x => ncH n o.dst r v x)
  (by
   intro C S Fp st a w o x hp h u R U e
   unfold zax at hp
   split at hp
   ·rename_i ho; cases z3x hp; exact z9p h ho e
   ·cases hp)
  (fun n o x => Loc.ncO _ _ _ _ _) (fun n o x => zaW _ _ _ _ _)
def spR (k : Nat) {α ρ : Type} (enc : α → List A) (encR : ρ → A) (F : α → Option ρ) (gives : List Bool) (inj : ∀ x y, enc x = enc y → x = y) : yw := {
 α := α
 k := k
 raw := true
 gives := gives
 enc := enc
 pre := fun x => ∃ r, F x = some r
 f := fun x => match F x with | some r => encR r | none => .dead 0
 inj := by
  intro x y h _ _
  rw [inj x y h] }
theorem z4V {P : Program} {k : Nat} {α ρ : Type} {enc : α → List A} {encR : ρ → A} {F : α → Option ρ} {gives : List Bool} {inj : ∀ x y, enc x = enc y → x = y} (h : ∀ x r, F x = some r → XK P k (enc x) (encR r)) : (spR k enc encR F gives inj).Ok P := by
 rintro x ⟨r, hr⟩
 have := h x r hr
 simpa only [spR, hr] using this
theorem zaE {k : Nat} {α ρ : Type} {enc : α → List A} {encR : ρ → A} {F : α → Option ρ} {gives : List Bool} {inj : ∀ x y, enc x = enc y → x = y} {x : α} {r : ρ} (hr : F x = some r) {as_ : List A} (ha : as_ = enc x) :
  (Xk.add (spR k enc encR F gives inj)).run k ((Xk.add (spR k enc encR F gives inj)).norm k as_) = some (encR r) := by
 have h := Ctr.add_has Xk (spR k enc encR F gives inj)
 have h1 := h.run x ⟨r, hr⟩
 have h2 : (Xk.add (spR k enc encR F gives inj)).raw k = true := h.raw
 unfold Ctr.norm
 rw [h2, ha]
 refine Eq.trans h1 ?_
 simp only [spR, hr]
theorem z7J {k : Nat} {α ρ : Type} {enc : α → List A} {encR : ρ → A} {F : α → Option ρ} {gives : List Bool} {inj : ∀ x y, enc x = enc y → x = y} : (Xk.add (spR k enc encR F gives inj)).lend k = none ∧ (Xk.add (spR k enc encR F gives inj)).gives k = gives := ⟨(Ctr.add_has Xk _).lend, (Ctr.add_has Xk _).gives⟩
section
variable {α : Type}
def eFl (sz : Nat) (f : α → A) (x : List α × Bool) : A := .sl sz x.2 (x.1.map f)
instance (sz : Nat) (f : α → A) : KY (eFl sz f) (eFl sz f) := ⟨fun _ => rfl, fun _ => rfl⟩
theorem flL (sz : Nat) (tg : Bool) (f : α → A) (l : List (List α)) : (l.map fun x => (x, tg)).map (eFl sz f) = l.map (eSl sz tg f) := by
 rw [List.map_map]; rfl
theorem flE {sz : Nat} {f : α → A} {l : List (List α × Bool)} (h : ∀ x ∈ l, x.2 = true) : l.map (eFl sz f) = (l.map (·.1)).map (eSl sz true f) := by
 rw [List.map_map]
 exact List.map_congr_left fun x hx => by simp [eFl, eSl, h x hx]
instance LeA.flO (s t : Nat) (tg : Bool) (b : Bool) (f : α → A) (l : List (List α)) : LeA (eOs s b (eSl t tg f) l) (eOs s b (eFl t f) (l.map fun x => (x, tg))) := by
 unfold eOs; rw [flL]; infer_instance
theorem flA {s t : Nat} {b : Bool} {f : α → A} {l : List (List α × Bool)} (h : ∀ x ∈ l, x.2 = true) : LeA (eSl s b (eFl t f) l) (eSl s b (eSl t true f) (l.map (·.1))) := by
 unfold eSl; rw [flE h]; exact LeA.refl _
end
theorem kS {S : zl} {h : Array Obj} {F : List Nat} (hF : ∀ k ∈ F, ∀ o, S k o = none) : ∀ b o u, S b o = some u → zQ S h F b o = some u := by
 intro b o u hs
 unfold zQ
 rw [if_neg (fun q => by rw [hF b q o] at hs; cases hs)]
 exact hs
theorem Sim.sealX {C : Ctx} {S : zl} {Fp : Nat → List Nat} {F : List Nat} {st : St} {a : Act} {w : World} (h : Sim C S Fp (F ++ []) st a w) (hF : ∀ k ∈ F, ∀ o, S k o = none) : Sim C (zQ S w.heap F) Fp [] st a w := by
 refine h.mem h.below (kS hF) ?_ ?_ ?_ (by simp) (by simp) (by simp)
 ·intro b o v q
  unfold zQ at q
  split at q
  ·exact q
  ·exact h.still b o v q
 ·intro b o hb
  unfold zQ
  rw [if_neg (fun q => hb (h.xb b (by simpa using q)))]
  exact h.sbase b o hb
 ·intro t k hk
  refine ⟨rfl, fun o => ?_⟩
  unfold zQ
  rw [if_neg (fun q => h.xd t k (by simpa using q) hk)]
  exact (h.free t k hk).2.1 o
mutual
theorem A.live_isD : ∀ {a : A}, a.isD = true → a.live = true
 | .atom _, _ => rfl
 | .fn _ _, _ => rfl
 | .agg fs, h => by simp only [A.isD] at h; simp only [A.live]; exact A.lives_areD h
 | .sl _ _ _, _ => rfl
 | .sptr _, _ => rfl
 | .tup _, h => by simp [A.isD] at h
 | .osl _ _ _, h => by simp [A.isD] at h
 | .box _, h => by simp [A.isD] at h
 | .dead _, h => by simp [A.isD] at h
 | .opq _, h => by simp [A.isD] at h
theorem A.lives_areD : ∀ {as_ : List A}, A.areD as_ = true → A.lives as_ = true
 | [], _ => rfl
 | a :: as_, h => by
  simp only [A.areD, Bool.and_eq_true] at h
  simp only [A.lives, A.live_isD h.1, A.lives_areD h.2, Bool.and_self]
end
theorem A.areD_app : ∀ {as_ bs : List A}, A.areD as_ = true → A.areD bs = true → A.areD (as_ ++ bs) = true
 | [], _, _, h => h
 | a :: as_, bs, h1, h2 => by
  simp only [A.areD, Bool.and_eq_true] at h1
  simp only [List.cons_append, A.areD, Bool.and_eq_true]
  exact ⟨h1.1, A.areD_app h1.2 h2⟩
def z9z (tt : TT) (t sz : Nat) : Bool :=
 match tt t with
 | some ⟨.slice e, _, _, _, _⟩ => match tt e with | some i => sz == i.size && decide (i.bytes ≤ 4096) && decide (0 < i.size) && i.zero.isSome | none => false
 | _ => false
def apO (tt : TT) (n : Fr) (dst : Option Nat) (t : Nat) (s x : Operand) : SM Unit := do
 let ts ← opnd s
 let tx ← opnd x
 match ts, tx with
 | .d (.sl sz tg es), .d (.sl sz2 _ ys) => if z9z tt t sz = true ∧ sz2 = sz ∧ tg = true ∧ es.length + ys.length ≤ lim ∧ A.areD es = true ∧ A.areD ys = true then wrT n dst (.d (.sl sz false (es ++ ys))) else zq
 | _, _ => zq
def apH (tt : TT) (n : Fr) (dst : Option Nat) (t : Nat) (s x : Operand) : HM Unit := yo (opnd s) >>= fun ts => yo (opnd x) >>= fun tx =>
 match ts, tx with
 | .d (.sl sz tg es), .d (.sl sz2 _ ys) => if z9z tt t sz = true ∧ sz2 = sz ∧ tg = true then kU (es.length + ys.length ≤ lim ∧ A.areD es = true ∧ A.areD ys = true) (eqL (es ++ ys) >>= fun zs => yo (wrT n dst (.d (.sl sz false zs)))) else zM
 | _, _ => zM
theorem zb2 (tt : TT) (n : Fr) (dst : Option Nat) (t : Nat) (s x : Operand) : Snd (apO tt n dst t s x) (apH tt n dst t s x) := by
 refine zj (zm _) fun ts => zj (zm _) fun tx => ?_
 split
 ·refine WQ (fun h1 h2 => ⟨h1.1, h1.2.1, h1.2.2, h2.1, h2.2.1, h2.2.2⟩) ?_
  exact Yu (y7 _ fun zs => wrT n dst (.d (.sl _ false zs))).symm (zj (z0i _) fun _ => zm _)
 ·exact zo _
theorem Loc.apO (tt : TT) (n : Fr) (dst : Option Nat) (t : Nat) (s x : Operand) : Loc (apO tt n dst t s x) := by
 unfold Go.Own.apO
 refine Loc.bind (Loc.opnd _) fun _ => Loc.bind (Loc.opnd _) fun _ => ?_
 split
 ·exact Loc.ite (Loc.wrT _ _ _) Loc.fail
 ·exact Loc.fail
theorem z9A {P : Program} {tt : TT} (hT : vw P tt) {C : Ctx} {S : zl} {Fp : Nat → List Nat} {st : St} {a : Act} {w : World} (h : Sim C S Fp [] st a w) {o : Oper} {t : Nat} {s x : Operand} (ho : o.op = .call { callee := .builtin .append, args := #[s, x], argTypes := #[t, t] }) {u : Unit} {R : List Nat} {U : List (Nat × Ent)} (e0 : apO tt C.n o.dst t s x st = some (u, R, U)) : uf P C o a w (zc U st) := by
 unfold apO at e0
 obtain ⟨ts, R1, U1, R2, U2, h1, e1, rfl, rfl⟩ := bind_some e0
 obtain ⟨rfl, hs⟩ := zP h h1
 obtain ⟨tx, R3, U3, R4, U4, h3, e2, rfl, rfl⟩ := bind_some e1
 obtain ⟨rfl, hx⟩ := zP h h3
 simp only [zc, List.nil_append] at e2 ⊢
 split at e2
 ·rename_i sz tg es sz2 tg2 ys
  split at e2
  ·rename_i hc
   obtain ⟨c1, rfl, rfl, c4, c5, c6⟩ := hc
   obtain ⟨el, i, hel, hi, hsz, c3, cz, c7⟩ : ∃ el i, P.underlying t = some (.slice el) ∧ tt el = some i ∧ sz2 = i.size ∧ i.bytes ≤ 4096 ∧ 0 < i.size ∧ i.zero.isSome = true := by
    unfold z9z at c1
    split at c1
    ·rename_i e _ _ _ _ ht
     split at c1
     ·rename_i i hi
      simp only [Bool.and_eq_true, beq_iff_eq, decide_eq_true_eq] at c1
      exact ⟨e, i, (hT _ _ ht).kind, hi, c1.1.1.1, c1.1.1.2, c1.1.2, c1.2⟩
     ·cases c1
    ·cases c1
   obtain ⟨f, f1, f2, f3, f4⟩ := (hT _ _ hi).info
   obtain ⟨z0, hz0⟩ := Option.isSome_iff_exists.1 c7
   obtain ⟨zv, v1, v2, v3⟩ := f4 z0 hz0
   have hzs : zv.cells.size = f.size := by
    have := (v3 (fun _ _ => none) #[]).len
    rw [v2, ← f2] at this
    simpa using this
   have hs' : xx S (.sl sz2 true es) (a.eval s) := hs
   have hx' : xx S (.sl sz2 tg2 ys) (a.eval x) := hx
   obtain ⟨p, d, news, ev, r1, r2, r3⟩ := VH (y := .sl sz2 tg2 ys) h (.inl ⟨tg2, rfl⟩) c6 (.inl hx')
   have fin : ∀ v w', (Builtin.append_ #[t, t] o.type #[a.eval s, a.eval x]).run P w = .ok v w' → (execOp a.eval o).run P w = .ok (.value v) w' := by
    intro v w' hrun
    simp [execOp, ho, resolve, invoke, builtin, hrun]
   simp only [xx] at hs'
   obtain ⟨cs, q1, q2⟩ := hs'
   simp only [Rep] at q1
   obtain ⟨pp, c, rfl, t1, t2, t3, t4⟩ := q1
   have hcl := t1 trivial
   subst hcl
   have es1 : a.eval s = .slice pp es.length es.length := q2
   by_cases hne : ys = []
   ·subst hne
    obtain ⟨Fp', hs2⟩ := wz h e2 (x := .d (.sl sz2 false (es ++ []))) (v := .slice pp es.length es.length) (by
     simp only [TOk, xx, List.append_nil]
     refine ⟨[.slice pp es.length es.length], ?_, rfl⟩
     simp only [Rep]
     exact ⟨pp, _, rfl, by simp, Nat.le_refl _, t3, t4⟩)
    refine zt (fin _ _ ?_) hs2
    rw [es1, ev]
    exact Y1 hel f1 pp p es.length es.length d (Nat.le_refl _) w
   ·have hpos : 0 < ys.length := List.length_pos_iff.2 hne
    rcases r3 with ⟨hy, _⟩ | ⟨ad, rfl, hnews⟩
    ·exact absurd hy hne
    subst hsz
    rw [← f2] at t3 r2 e2
    have hold : ∃ olds, yj S es olds ∧ ((pp = none ∧ es = [] ∧ es.length = 0) ∨ ∃ b, pp = some b ∧ ∀ j v, olds[j]? = some v → w.cell? (b.add j) = some v) := by
     rcases t4 with rfl | ⟨b, o', l, rfl, k1, k2⟩
     ·cases pp with
      | none => exact ⟨[], by simp [yj], .inl ⟨rfl, rfl, rfl⟩⟩
      | some b => exact ⟨[], by simp [yj], .inr ⟨b, rfl, by simp⟩⟩
     ·exact ⟨l, k1, .inr ⟨_, rfl, VP h k2⟩⟩
    obtain ⟨olds, n1, n2⟩ := hold
    have h' : Sim C S Fp ([] ++ []) st a w := by simpa using h
    obtain ⟨v, w', hrun, F', m1, m2, cs', m3, rfl⟩ := ZF (ty := o.type) hel f1 v1 hzs h' (n1.concs w.heap) (by simp) (r1.concs w.heap) t3 r2 n2 (d := d) hnews (by omega) c4 (by omega) hpos
    have hF : ∀ k ∈ F', ∀ o, S k o = none := fun k hk => (m3.own k hk).2.1
    have hs3 := m1.sealX hF
    have hD : A.areD (es ++ ys) = true := A.areD_app c5 c6
    have hrep := m3.shut (kS hF) (by simp only [A.live]; exact A.lives_areD hD) (fun k hk o => by unfold zQ; rw [if_pos hk])
    simp only [A.shut] at hrep
    rw [A.shuts_areD hD] at hrep
    obtain ⟨Fp'', hs'⟩ := wz hs3 e2 (x := .d (.sl f.size false (es ++ ys))) (v := zZ (.osl f.size false (es ++ ys)) cs') (by
     simp only [TOk, xx]
     exact ⟨cs', hrep, rfl⟩)
    exact zt (fin _ _ (by rw [es1, ev]; exact hrun)) hs'
  ·exact (z8 e2).elim
 ·exact (z8 e2).elim
def zaD (d : Nat) (o : Oper) : Option (Nat × Operand × Operand) := match o.op with | .call ⟨.builtin .append, ⟨[s, x]⟩, ⟨[t, t']⟩⟩ => if o.dst = some d then (if t' = t then some (t, s, x) else none) else none | _ => none
def xAp {P : Program} {tt : TT} (hT : vw P tt) (d : Nat) : XH P :=
 xAt P (zaD d) (fun n o q => apO tt n o.dst q.1 q.2.1 q.2.2) (fun n o q => apH tt n o.dst q.1 q.2.1 q.2.2)
  (by
   intro C S Fp st a w o q hp h u R U e
   unfold zaD at hp
   split at hp
   ·rename_i ho
    replace hp := z3x hp
    split at hp
    ·rename_i ht; subst ht; cases hp; exact z9A hT h ho e
    ·cases hp
   ·cases hp)
  (fun n o q => Loc.apO _ _ _ _ _ _) (fun n o q => zb2 _ _ _ _ _ _)
theorem apM {α : Type} (f : α → A) [z3C f] {l m : List α} (h : l.length + m.length ≤ 4294967296) : (l.map f).length + (m.map f).length ≤ lim ∧ A.areD (l.map f) = true ∧ A.areD (m.map f) = true := ⟨by simpa [lim] using h, dM f l, dM f m⟩
theorem z4j {P : Program} {tt : TT} {k : Nat} {fn : Func} {body : Code} {nt t : Nat} (is : List Nat) {args caps xs : List A} {vals : List Value} {r : A} {ys : List A} (hT : vw P tt) (hf : P.funcs[k]? = some fn) (hnm : (fn.name == "runtime.NumGoroutine") = false) (hb : fn.body = some body)
  (hn : nt = fn.ntmps) (hr : fn.results = #[.tmp t]) (ha : (args ++ caps).length ≤ fn.ntmps) (hnd : is.Nodup) (hbase : is.map (fun i => (args ++ caps)[i]?) = vals.map (fun v => some (.atom v))) (hl : xs.length = vals.length) (hrd : r.isD = true) (hrn : Z4 tt 0 r = r)
  (h : ∀ E : Exit → St → Prop, (∀ ex st, (ex = .normal ∨ ex = .ret) → (∀ p ∈ is.zip ys, (st p.1).t = .own p.2) → (st t).t = .d r → E ex st) →
   AWP P ⟨nt, is.zip vals⟩ body (ofL (z4q 0 (X9 (args ++ caps) is xs))) (Qf P ⟨nt, is.zip vals⟩ [] E)) (hy : is.length = ys.length) : qr P (.fn k caps) args (vals.zip xs) r ys := by
 subst hn
 refine Ue (tt := tt) (rs := [(t, none)]) is hT hf hnm hb hr ha hnd hbase hl ?_
 rw [z1h]
 refine h _ ?_
 intro ex st hx hc hrt
 refine ⟨hx, ?_⟩
 have h2 := VZ hy hc
 have hop : opnd (.tmp t) st = some (.d r, [t], []) := by
  simp only [opnd, hrt, bind, SM.bind, rdE, pure, SM.pure, zc, List.append_nil]
 have hsh : shutT tt 0 (.d r) st = some (r, [], []) := by
  have : shutT tt 0 (.d r) = pure r := by
   cases r <;> first | (simp [A.isD] at hrd; done) | (simp only [shutT, hrn, A.shut_isD hrd]) | skip
  rw [this]; rfl
 have h1 : shutArgs tt [(Operand.tmp t, 0)] st = some ([r], [t], []) := by
  simp only [shutArgs, bind, SM.bind, hop, zc, hsh, pure, SM.pure, List.append_nil, List.nil_append]
 refine ⟨[t] ++ (is ++ []), [], ?_⟩
 simp only [z7N, List.map_cons, List.map_nil, bind, SM.bind, h1, zc, h2, uX, Option.map_some, pure, SM.pure, z9c, List.append_nil, List.nil_append]
theorem zba {live : List Nat} {st : St} {l : List (Nat × T)} (hc : canon live st = ofL l) {k : Nat} {y : A} (hk : live.contains k = true) (hy : (ofL l k).t = .d y) : (st k).t = .d y := by
 have := congrFun hc k
 rw [jv, if_pos (List.contains_iff_mem.1 hk)] at this
 rw [← this] at hy
 unfold z3z at hy
 cases hx : (st k).t with
 | als r p er ec => simp only [hx] at hy; split at hy <;> cases hy
 | ptr r p er ec => simp only [hx] at hy; split at hy <;> cases hy
 | own a => simp only [hx] at hy; cases hy
 | d a => simpa only [hx] using hy
 | gone => simp only [hx] at hy; cases hy
end Go.Own

namespace Go.Own
def Z8 (x : List UInt8) : A := .atom (.string ⟨x.toArray⟩)
def u8s (l : List Int) : List UInt8 := l.map fun n => UInt8.ofNat n.toNat
def ZM : List A → Option (List Int)
 | [] => some []
 | .atom (.int .u8 n) :: as_ => (ZM as_).map (n :: ·)
 | _ => none
theorem QD : ∀ l : List Int, ZM (l.map (eI .u8)) = some l
 | [] => rfl
 | n :: l => by simp only [List.map_cons, eI, ZM]; rw [show l.map (eI .u8) = l.map (eI .u8) from rfl]; simp only [QD l, Option.map_some]
theorem Uu {S : zl} : ∀ {as_ : List A} {ns : List Int} {cs : List Value}, ZM as_ = some ns → yj S as_ cs → cs = ns.map (Value.int .u8) ∧ as_.length = ns.length
 | [], ns, cs, h, r => by simp only [ZM, Option.some.injEq] at h; subst h; simp only [yj] at r; subst r; exact ⟨rfl, rfl⟩
 | a :: as_, ns, cs, h, r => by
  unfold ZM at h
  split at h
  ·cases ‹_ = []›
  ·rename_i n as' e
   cases e
   obtain ⟨ms, h1, rfl⟩ := Option.map_eq_some_iff.1 h
   simp only [yj] at r
   obtain ⟨c1, c2, rfl, r1, r2⟩ := r
   simp only [Rep] at r1
   obtain ⟨q1, q2⟩ := Uu h1 r2
   obtain ⟨rfl, _⟩ := r1
   subst q1
   exact ⟨rfl, by simp [q2]⟩
  ·cases h
theorem z1A : ∀ {as_ : List A} {ns : List Int}, ZM as_ = some ns → A.areD as_ = true
 | [], _, _ => rfl
 | a :: as_, ns, h => by
  unfold ZM at h
  split at h
  ·cases ‹_ = []›
  ·rename_i n as' e
   cases e
   obtain ⟨ms, h1, rfl⟩ := Option.map_eq_some_iff.1 h
   simp only [A.areD, A.isD, z1A h1, Bool.and_self]
  ·cases h
theorem Qn : ∀ (ns : List Int) (s : List UInt8), ns.foldl (fun r n => r.push (UInt8.ofNat n.toNat)) (⟨s.toArray⟩ : ByteArray) = ⟨(s ++ u8s ns).toArray⟩
 | [], s => by simp [u8s]
 | n :: ns, s => by
  rw [List.foldl_cons]
  have : (⟨s.toArray⟩ : ByteArray).push (UInt8.ofNat n.toNat) = ⟨(s ++ [UInt8.ofNat n.toNat]).toArray⟩ := by simp [ByteArray.push]
  rw [this, Qn ns]
  simp [u8s]
def z91 (P : Program) (s d : Nat) : Prop := ∃ e, P.underlying s = some (.slice e) ∧ P.underlying e = some (.int .u8) ∧ P.underlying d = some .string
theorem z5S {P : Program} {s d e : Nat} (h1 : P.underlying s = some (.slice e)) (h2 : P.underlying e = some (.int .u8)) (h3 : P.underlying d = some .string) : z91 P s d := ⟨e, h1, h2, h3⟩
def strO (n : Fr) (dst : Option Nat) (x : Operand) : SM Unit := do
 let tx ← opnd x
 let y ← peek tx
 match y with
 | .sl _ _ ys | .osl _ _ ys => ofO ((ZM ys).map fun ns => Z8 (u8s ns)) >>= fun r => wrT n dst (.d r)
 | _ => zq
def zan (n : Fr) (dst : Option Nat) (x : Operand) : HM Unit := yo (opnd x) >>= fun tx => z0o tx >>= fun y =>
 match y with
 | .sl _ _ ys | .osl _ _ ys => z1B ((ZM ys).map fun ns => Z8 (u8s ns)) >>= fun r => yo (wrT n dst (.d r))
 | _ => zM
theorem z9g (n : Fr) (dst : Option Nat) (x : Operand) : Snd (strO n dst x) (zan n dst x) := by
 refine zj (zm _) fun tx => zj (Qi _) fun y => ?_
 cases y with
 | sl sz t ys => exact zj (Xa _) fun _ => zm _
 | osl sz t ys => exact zj (Xa _) fun _ => zm _
 | _ => exact zo _
theorem Loc.strO (n : Fr) (dst : Option Nat) (x : Operand) : Loc (strO n dst x) := by
 unfold Go.Own.strO
 refine Loc.bind (Loc.opnd _) fun _ => Loc.bind (Loc.peek _) fun _ => ?_
 split
 ·exact Loc.bind (Loc.ofO _) fun _ => Loc.wrT _ _ _
 ·exact Loc.bind (Loc.ofO _) fun _ => Loc.wrT _ _ _
 ·exact Loc.fail
theorem z7i {P : Program} {C : Ctx} {S : zl} {Fp : Nat → List Nat} {st : St} {a : Act} {w : World} (h : Sim C S Fp [] st a w) {o : Oper} {s t : Nat} {x : Operand} (hs : z91 P s t) (ho : o.op = .convert s t x) {u : Unit} {R : List Nat} {U : List (Nat × Ent)} (e0 : strO C.n o.dst x st = some (u, R, U)) : uf P C o a w (zc U st) := by
 unfold strO at e0
 obtain ⟨tx, R1, U1, R2, U2, h1, e1, rfl, rfl⟩ := bind_some e0
 obtain ⟨rfl, hx⟩ := zP h h1
 obtain ⟨y, R3, U3, R4, U4, h3, e2, rfl, rfl⟩ := bind_some e1
 obtain ⟨rfl, q⟩ := XW h hx h3
 simp only [zc, List.nil_append] at e2 ⊢
 obtain ⟨el, k1, k2, k3⟩ := hs
 have main : ∀ (sz : Nat) (ys : List A), ((∃ tg, y = .sl sz tg ys) ∨ ∃ tg, y = .osl sz tg ys) → (ofO ((ZM ys).map fun ns => Z8 (u8s ns)) >>= fun r => wrT C.n o.dst (.d r)) st = some (u, R4, U4) → uf P C o a w (zc U4 st) := by
  intro sz ys hy e3
  obtain ⟨r, R5, U5, R6, U6, h5, e4, rfl, rfl⟩ := bind_some e3
  obtain ⟨hm, rfl, rfl⟩ := vm h5
  simp only [zc, List.nil_append] at e4 ⊢
  obtain ⟨ns, hn, rfl⟩ := Option.map_eq_some_iff.1 hm
  obtain ⟨p, d, news, ev, r1, r2, r3⟩ := VH h hy (z1A hn) q
  obtain ⟨rfl, hl⟩ := Uu hn r1
  obtain ⟨Fp', hs'⟩ := wz h e4 (x := .d (Z8 (u8s ns))) (v := .string ⟨(u8s ns).toArray⟩) (zy.2 ⟨rfl, rfl⟩)
  refine zt ?_ hs'
  have hrun : (convert s t (a.eval x)).run P w = .ok (.string ⟨(u8s ns).toArray⟩) w := by
   rw [ev, run_convert_bytes_string w s t el p ys.length d k1 k2 k3]
   rcases r3 with ⟨rfl, hnil⟩ | ⟨ad, rfl, hc⟩
   ·have : ns = [] := by simpa using hnil
    subst this
    cases p with
    | none => rfl
    | some ad =>
     rw [run_bytesToString w ad _ d [] (by simpa using run_loadCells_list w ad [] (by simp))]
     rfl
   ·have hlc := run_loadCells_list (P := P) w ad _ hc
    rw [List.length_map, ← hl] at hlc
    rw [run_bytesToString w ad _ d ns hlc]
    have := Qn ns []
    simp only [List.nil_append] at this
    exact congrArg (fun z => Result.ok (Value.string z) w) this
  simp [execOp, ho, hrun]
 cases y with
 | sl sz tg ys => exact main sz ys (.inl ⟨tg, rfl⟩) e2
 | osl sz tg ys => exact main sz ys (.inr ⟨tg, rfl⟩) e2
 | _ => exact (z8 e2).elim
def z7F (s t : Nat) (o : Oper) : Option Operand := match o.op with | .convert s' t' x => if s' = s ∧ t' = t then some x else none | _ => none
def zaN (P : Program) {s t : Nat} (hs : z91 P s t) : XH P :=
 xAt P (z7F s t) (fun n o x => strO n o.dst x) (fun n o x => zan n o.dst x)
  (by
   intro C S Fp st a w o x hp h u R U e
   unfold z7F at hp
   split at hp
   ·rename_i ho
    split at hp
    ·rename_i ht; obtain ⟨rfl, rfl⟩ := ht; cases hp; exact z7i h hs ho e
    ·cases hp
   ·cases hp)
  (fun n o x => Loc.strO _ _ _) (fun n o x => z9g _ _ _)
theorem stM (l : List Int) : ((ZM (l.map (eI .u8))).map fun ns => Z8 (u8s ns)) = some (Z8 (u8s l)) := by rw [QD]; rfl
def Jq : A → Bool
 | .atom (.string _) => true
 | _ => false
theorem Z3 {a : A} (h : Jq a = true) : ∃ x, a = .atom (.string x) := by
 unfold Jq at h
 split at h
 ·exact ⟨_, rfl⟩
 ·cases h
instance : zaK (K := List UInt8) Z8 := ⟨fun x y => by
 simp only [Z8, Uh, z1g, Option.map_some, Option.some.injEq, zZ, List.headD_cons, Value.string.injEq, ByteArray.mk.injEq, beq_iff_eq]
 constructor
 ·intro h; simpa using congrArg Array.toList h
 ·rintro rfl; rfl⟩
theorem z3h (x y : ByteArray) : (x == y) = true ↔ x = y := by
 cases x; cases y
 rw [ByteArray.mk.injEq]
 rename_i a b
 show (a == b) = true ↔ a = b
 exact beq_iff_eq
theorem z4b {P : Program} {t kt et : Nat} {z : A} (hu : P.underlying t = some (.map kt et)) (hk : P.underlying kt = some .string) (hz : ∃ zv, (∀ w, (zeroValue et).run P w = .ok zv w) ∧ ∀ S, vM S z zv) (zd : z.isD = true) : z6Q P t kt et Jq z := {
 und := hu
 zero := hz
 zd := zd
 key := fun a h => by obtain ⟨x, rfl⟩ := Z3 h; exact ⟨_, rfl⟩
 check := fun a kv e w h hv => by
  obtain ⟨x, rfl⟩ := Z3 h
  cases hv
  show (Instr.checkKey e (9999 + 1) kt _).run P w = _
  generalize 9999 = q
  unfold Instr.checkKey
  simp only [Sem.run_bind, run_underlying hk, Result.andThen_ok]
  simp
 bits := fun a kv h hv => by
  obtain ⟨x, rfl⟩ := Z3 h
  cases hv
  simp [zZ, Instr.sameBits, (z3h x x).2 rfl]
 find := fun a kv h hv ents es hes hall w => by
  obtain ⟨x, rfl⟩ := Z3 h
  cases hv
  have gen : ∀ (ents : List MapEntry) (es : List (A × A)) (i : Nat), (∀ p ∈ es, Jq p.1 = true) → jk (fun p (e : MapEntry) => Uh p.1 = some e.key) es ents → Instr.findNow .string (.string x) ents i = some (Uo (.string x) ents i) := by
   intro ents
   induction ents with
   | nil => intro es i _ _; rfl
   | cons e ents ih =>
    intro es i h1 h2
    cases es with
    | nil => exact h2.elim
    | cons p es =>
     obtain ⟨y, hy⟩ := Z3 (h1 p (by simp))
     have hk2 : e.key = .string y := by
      have : Uh p.1 = some e.key := h2.1
      rw [hy] at this
      simp only [Uh, z1g, Option.map_some, Option.some.injEq, zZ, List.headD_cons] at this
      exact this.symm
     simp only [Instr.findNow, Uo, hk2, Instr.sameNow, Value.string.injEq]
     by_cases hxy : x = y
     ·subst hxy; rw [(z3h x x).2 rfl]; simp
     ·rw [if_neg (Ne.symm hxy), show (x == y) = false by cases hb : x == y with | false => rfl | true => exact absurd ((z3h x y).1 hb) hxy]
      exact ih es (i + 1) (fun p hp => h1 p (by simp [hp])) h2.2
  simp only [Instr.findKey, Sem.run_bind, run_underlying hk, Result.andThen_ok, zZ, List.headD_cons, gen ents es 0 hes hall, Sem.run_pure] }
end Go.Own

namespace Go.Own
mutual
def A.indep : A → Bool
 | .atom _ => true
 | .fn _ caps => A.indeps caps
 | .agg fs => A.indeps fs
 | .osl _ _ es => A.indeps es
 | .box x => x.indep
 | .dead _ => true
 | _ => false
def A.indeps : List A → Bool
 | [] => true
 | a :: as_ => a.indep && A.indeps as_
end
mutual
theorem Rep.indep {S S' : zl} : ∀ {a : A} {cs : List Value}, a.indep = true → Rep S a cs → Rep S' a cs
 | .atom _, _, _, r => by simpa only [Rep] using r
 | .fn _ caps, _, h, r => by
  simp only [A.indep] at h
  simp only [Rep] at r ⊢
  obtain ⟨vs, h1, h2, h3⟩ := r
  exact ⟨vs, yj.indep h h1, h2, h3⟩
 | .agg fs, _, h, r => by simp only [A.indep] at h; simp only [Rep] at r ⊢; exact yj.indep h r
 | .sl _ _ _, _, h, _ => by simp [A.indep] at h
 | .sptr _, _, h, _ => by simp [A.indep] at h
 | .tup _, _, _, r => by simp only [Rep] at r
 | .osl _ _ _, _, _, r => by simp only [Rep] at r
 | .box _, _, _, r => by simp only [Rep] at r
 | .dead _, _, _, r => by simp only [Rep] at r
 | .opq _, _, _, r => by simp only [Rep] at r
theorem yj.indep {S S' : zl} : ∀ {as_ : List A} {cs : List Value}, A.indeps as_ = true → yj S as_ cs → yj S' as_ cs
 | [], _, _, r => by simpa only [yj] using r
 | a :: as_, _, h, r => by
  simp only [A.indeps, Bool.and_eq_true] at h
  simp only [yj] at r ⊢
  obtain ⟨c1, c2, e, r1, r2⟩ := r
  exact ⟨c1, c2, e, Rep.indep h.1 r1, yj.indep h.2 r2⟩
end
mutual
theorem zO.indep {S S' : zl} {h : Array Obj} : ∀ {a : A} {cs : List Value} {F : List Nat}, a.indep = true → zO S h a cs F → (∀ k ∈ F, ∀ o, S' k o = none) → zO S' h a cs F
 | .osl sz t es, _, _, hi, r, hF => by
  simp only [A.indep] at hi
  simp only [zO] at r ⊢
  obtain ⟨p, c, e, h1, h2, h3, h4, h5⟩ := r
  refine ⟨p, c, e, h1, h2, h3, h4, ?_⟩
  rcases h5 with h5 | ⟨b, arr, ty, l, F', e1, e2, e3, e4, e5, rfl, e7⟩
  ·exact .inl h5
  ·exact .inr ⟨b, arr, ty, l, F', e1, e2, e3, e4, zL.indep hi e5 (fun k hk => hF k (by simp [hk])), rfl, hF b (by simp)⟩
 | .box x, _, _, hi, r, hF => by
  simp only [A.indep] at hi
  simp only [zO] at r ⊢
  obtain ⟨b, ty, l, F', e, e1, e2, rfl, e4⟩ := r
  exact ⟨b, ty, l, F', e, e1, zO.indep hi e2 (fun k hk => hF k (by simp [hk])), rfl, hF b (by simp)⟩
 | .agg fs, _, _, hi, r, hF => by simp only [A.indep] at hi; simp only [zO] at r ⊢; exact zL.indep hi r hF
 | .dead _, _, _, _, r, _ => by simpa only [zO] using r
 | .opq _, _, _, hi, _, _ => by simp [A.indep] at hi
 | .atom _, _, _, hi, r, _ => by simp only [zO] at r ⊢; exact ⟨Rep.indep hi r.1, r.2⟩
 | .fn _ _, _, _, hi, r, _ => by simp only [zO] at r ⊢; exact ⟨Rep.indep hi r.1, r.2⟩
 | .sl _ _ _, _, _, hi, _, _ => by simp [A.indep] at hi
 | .sptr _, _, _, hi, _, _ => by simp [A.indep] at hi
 | .tup _, _, _, _, r, _ => by simp only [zO] at r
theorem zL.indep {S S' : zl} {h : Array Obj} : ∀ {as_ : List A} {cs : List Value} {F : List Nat}, A.indeps as_ = true → zL S h as_ cs F → (∀ k ∈ F, ∀ o, S' k o = none) → zL S' h as_ cs F
 | [], _, _, _, r, _ => by simpa only [zL] using r
 | a :: as_, _, _, hi, r, hF => by
  simp only [A.indeps, Bool.and_eq_true] at hi
  simp only [zL] at r ⊢
  obtain ⟨c1, c2, F1, F2, e1, rfl, r1, r2⟩ := r
  exact ⟨c1, c2, F1, F2, e1, rfl, zO.indep hi.1 r1 (fun k hk => hF k (by simp [hk])), zL.indep hi.2 r2 (fun k hk => hF k (by simp [hk]))⟩
end
theorem xx.indep {S S' : zl} {a : A} {v : Value} (h : a.indep = true) (q : xx S a v) : xx S' a v := by
 cases a <;> first
  | (simp [A.indep] at h; done)
  | (simp only [xx, vM] at q ⊢; obtain ⟨cs, q1, q2⟩ := q; exact ⟨cs, Rep.indep h q1, q2⟩)
def z1i : T → Bool
 | .gone => true
 | .d y => y.indep
 | .own y => y.indep
 | _ => false
def KI (r : Nat) (l : List (Nat × T)) : Prop := ∀ t, t ≠ r → z1i (ofL l t).t = true
theorem z3f {n : Fr} {st : St} (r : Nat) {x x' : A} (hr : (st r).t = .own x) (hx : x.live = true ∧ x.shut = x') {rd : Option Nat} {df : List Nat} {w0 : World} {S0 : zl} {M : Nat → Prop} {S : zl} {Fp : Nat → List Nat} {a : Act} {w : World} (hc : Vk ⟨n, df, w0, S0, M⟩ rd) (hs : Sim ⟨n, df, w0, S0, M⟩ S Fp [] st a w) :
  Vk ⟨n, df, w, zQ S w.heap (Fp r), WS (kY Fp r []) w⟩ rd ∧ Sim ⟨n, df, w, zQ S w.heap (Fp r), WS (kY Fp r []) w⟩ (zQ S w.heap (Fp r)) (kY Fp r []) [] (upd st r ⟨.d x', (st r).er, (st r).ec + 1⟩) a w ∧
  ∀ {l : List (Nat × T)} {live : List Nat} {v : Value} {df2 : List Nat} {st2 : St} {S2 : zl} {Fp2 : Nat → List Nat} {a' : Act} {w' : World}, WD n.pin r = some v → KI r l → (ofL l r).t = .d x' → Own.canon live st2 = ofL l →
   Sim ⟨n, df2, w, zQ S w.heap (Fp r), WS (kY Fp r []) w⟩ S2 Fp2 [] st2 a' w' → qt df (WS (kY Fp r []) w) df2 Fp2 w' → ∃ S3 Fp4, Sim ⟨n, df2, w0, S0, M⟩ S3 Fp4 [] (upd (ofL l) r ⟨.own x, 0, 0⟩) a' w' ∧ qt df M df2 Fp4 w' := by
 obtain ⟨hx, rfl⟩ := hx
 have hq := hs.ent r
 unfold yH at hq
 simp only [hr] at hq
 obtain ⟨cs, c1, c2, c3⟩ := hq
 have hFn : ∀ k ∈ Fp r, ∀ o, S k o = none := fun k hk => (hs.free r k hk).2.1
 have hFs : ∀ k ∈ Fp r, k < w.heap.size := fun k hk => (hs.free r k hk).1
 have hmono := kS (S := S) (h := w.heap) hFn
 have hrep := c1.shut (S' := zQ S w.heap (Fp r)) hmono hx (fun k hk o => by unfold zQ; rw [if_pos hk])
 have hr1 : vM (zQ S w.heap (Fp r)) x.shut (Act.tv a r) := ⟨cs, hrep, by rw [Yf]; exact c3⟩
 have hs1 : Sim ⟨n, df, w0, S0, M⟩ (zQ S w.heap (Fp r)) (kY Fp r []) [] (upd st r ⟨.d x.shut, (st r).er, (st r).ec + 1⟩) a w := by
  refine hs.change r (.d x.shut) _ _ [] hs.below hmono ?_ ?_ ?_ ⟨hr1.repV, rfl⟩ (.inl ⟨x, hr⟩) (Nat.le_refl _) (Nat.lt_succ_self _) (by simp) (by simp) (by simp) (by simp) (by simp) (by simp)
  ·intro b o u q
   unfold zQ at q
   split at q
   ·exact q
   ·exact hs.still b o u q
  ·intro b o hb
   unfold zQ
   rw [if_neg (fun q => hb (hs.base r b q))]
   exact hs.sbase b o hb
  ·intro t k ht hk
   refine ⟨rfl, fun o => ?_⟩
   unfold zQ
   rw [if_neg (fun q => ht (hs.disj t r k hk q))]
   exact (hs.free t k hk).2.1 o
 have hcr := hc.rebase hs1 (hc.post hs1)
 have hown : ∀ k, WS (kY Fp r []) w k → M k := Zw hs1
 have hoff : ∀ k, WS (kY Fp r []) w k → k ∉ Fp r := by
  rintro k (hk | ⟨t, hk⟩) hq
  ·have := hFs k hq; omega
  ·unfold kY at hk
   split at hk
   ·cases hk
   ·rename_i ht
    exact ht (hs.disj t r k hk hq)
 refine ⟨hcr, hs1.rebase, ?_⟩
 intro l live v df2 st2 S2 Fp2 a' w' hp hi hl hcan h2 hd2
 obtain ⟨Fp3, h3, hd3⟩ := Sim.canonD h2 hd2 live
 rw [hcan] at h3
 let S3 : zl := fun b o => if b ∈ Fp r then none else S2 b o
 have hS3 : ∀ b o u, S b o = some u → S3 b o = some u := by
  intro b o u q
  have hb : b ∉ Fp r := fun k => by rw [hFn b k o] at q; cases q
  show (if b ∈ Fp r then none else S2 b o) = some u
  rw [if_neg hb]
  exact h3.sinc b o u (hmono b o u q)
 have hS3n : ∀ k ∈ Fp r, ∀ o, S3 k o = none := fun k hk o => by show (if k ∈ Fp r then none else S2 k o) = none; rw [if_pos hk]
 have hS3m : ∀ k o, S2 k o = none → S3 k o = none := fun k o q => by
  show (if k ∈ Fp r then none else S2 k o) = none
  split
  ·rfl
  ·exact q
 have hheap : ∀ k ∈ Fp r, w'.heap[k]? = w.heap[k]? := fun k hk => h3.below.block k (fun q => hoff k q hk)
 have htv : Act.tv a' r = Act.tv a r := by rw [hs.pin r v (ua hp), h3.pin r v (ua hp)]
 have hfr : ∀ t k, t ≠ r → k ∈ Fp3 t → k ∉ Fp r := fun t k ht hk => hoff k (h3.base t k hk)
 refine ⟨S3, kY Fp3 r (Fp r), ?_, ?_⟩
 ·refine { size := h3.size, pin := h3.pin, defers := h3.defers, below := hs.below.trans (h3.below.mono hown), mine := hs.mine, still := ?_, sinc := fun b o u q => hS3 b o u (hs.sinc b o u q), sbase := ?_, ent := ?_, disj := ?_, base := ?_, xn := by simp, xd := by simp, xb := by simp }
  ·intro b o u q
   have q' : (if b ∈ Fp r then none else S2 b o) = some u := q
   split at q'
   ·cases q'
   ·exact h3.still b o u q'
  ·intro b o hb
   have hb1 : b ∉ Fp r := fun q => hb (hs.base r b q)
   show (if b ∈ Fp r then none else S2 b o) = S0 b o
   rw [if_neg hb1, h3.sbase b o (fun q => hb (hown b q))]
   show zQ S w.heap (Fp r) b o = S0 b o
   unfold zQ
   rw [if_neg hb1]
   exact hs.sbase b o hb
  ·intro t
   by_cases ht : t = r
   ·subst ht
    rw [xz]
    unfold yH kY
    simp only [if_true]
    refine ⟨cs, c1.frame hS3 (fun k hk => ⟨hheap k hk, hS3n k hk⟩), c2, by rw [htv]; exact c3⟩
   ·rw [qq _ _ ht]
    have q := h3.ent t
    have hie := hi t ht
    unfold yH at q ⊢
    unfold kY
    rw [if_neg ht]
    cases hT : (ofL l t).t with
    | gone => simp only [hT] at q ⊢; exact q
    | d y => simp only [hT] at q hie ⊢; exact ⟨xx.indep hie q.1, q.2⟩
    | own y =>
     simp only [hT] at q hie ⊢
     obtain ⟨cs', d1, d2, d3⟩ := q
     exact ⟨cs', zO.indep hie d1 (fun k hk o => hS3m k o ((h3.free t k hk).2.1 o)), d2, d3⟩
    | als _ _ _ _ => rw [hT] at hie; cases hie
    | ptr _ _ _ _ => rw [hT] at hie; cases hie
  ·intro t u k hk hk'
   unfold kY at hk hk'
   split at hk <;> split at hk'
   ·rename_i e1 e2; rw [e1, e2]
   ·rename_i e1 e2; exact absurd hk (hfr u k e2 hk')
   ·rename_i e1 e2; exact absurd hk' (hfr t k e1 hk)
   ·exact h3.disj t u k hk hk'
  ·intro t k hk
   unfold kY at hk
   split at hk
   ·exact hs.base r k hk
   ·exact hown k (h3.base t k hk)
 ·refine ⟨hd3.nodup, hd3.ent, ?_, fun D hD => (hd3.old D hD).imp id (hown D)⟩
  intro D hD t hk
  unfold kY at hk
  split at hk
  ·rcases hd3.old D hD with q | q
   ·exact (hc.df D q).1 (hs.base r D hk)
   ·exact hoff D q hk
  ·exact hd3.off D hD t hk
theorem z3k {P : Program} {n : Fr} {c a b y : Code} {Q : Exit → St → Prop} {fs : List Fm} (e : c = .seq (.seq a b) y) (r : Nat) {v : Value} {x x' : A} {l0 : List (Nat × T)} (live0 live : List Nat) (l0' l l2 : List (Nat × T)) (hr : (ofL l0 r).t = .own x) (hx : x.live = true ∧ x.shut = x') (hp : WD n.pin r = some v)
  (hc0 : Own.canon live0 (upd (ofL l0) r ⟨.d x', (ofL l0 r).er, (ofL l0 r).ec + 1⟩) = ofL l0') (hi : KI r l) (hl : (ofL l r).t = .d x') (hc2 : Own.canon live (upd (ofL l) r ⟨.own x, 0, 0⟩) = ofL l2)
  (h1 : AWP P n a (ofL l0') (Qf P n [] (fun ex st1 => ex = .normal ∧ AWP P n b st1 (Qf P n [] (fun ex st2 => ex = .normal ∧ Own.canon live st2 = ofL l)))))
  (h2 : AWP P n y (ofL l2) (Qf P n fs Q)) : AWP P n c (ofL l0) (Qf P n fs Q) := by
 subst e
 intro rd m df w0 S0 M S Fp ac w hc hs
 obtain ⟨b1, b2, b3⟩ := z3f r hr hx hc hs
 have h1' : AWP P n a (upd (ofL l0) r ⟨.d x', (ofL l0 r).er, (ofL l0 r).ec + 1⟩) (Qf P n [] (fun ex st1 => ex = .normal ∧ AWP P n b st1 (Qf P n [] (fun ex st2 => ex = .normal ∧ Own.canon live st2 = ofL l)))) := AWP.canon live0 (by rw [hc0]; exact h1)
 refine wpIn_seq (wpIn_seq (wpIn_mono (h1' rd m df w _ _ _ _ ac w b1 b2) ?_))
 rintro ex a1 w1 ⟨df1, st1, S1, Fp1, g1, g2, rfl, hB⟩
 refine wpIn_mono (AWP.go hB b1 g1 g2) ?_
 rintro ex a2 w2 ⟨df2, st2, S2, Fp2, k1, k2, rfl, hcan⟩
 obtain ⟨S3, Fp4, q1, q2⟩ := b3 hp hi hl hcan k1 k2
 exact AWP.go (AWP.canon live (by rw [hc2]; exact h2)) hc q1 q2
theorem inN {r : Nat} : KI r [] := fun _ _ => rfl
theorem inE {r k : Nat} {x : T} {l : List (Nat × T)} (h : k = r ∨ z1i x = true) (hl : KI r l) : KI r ((k, x) :: l) := by
 intro t ht
 simp only [ofL]
 split
 ·rename_i e
  rcases h with h | h
  ·exact absurd (by omega) ht
  ·exact h
 ·exact hl t ht
theorem inB (sz : Nat) (t : Bool) (k : IntKind) (l : List Int) : z1i (.own (.box (eOs sz t (eI k) l))) = true := by
 have : A.indeps (l.map (eI k)) = true := by
  induction l with
  | nil => rfl
  | cons x l ih => simp only [List.map_cons, A.indeps, ih, Bool.and_true]; rfl
 simpa only [z1i, A.indep, eOs] using this
theorem z9m {P : Program} {n : Fr} {Q : Exit → St → Prop} {id : Nat} {st : St} (h : Q .normal st) : Qf P n [.blk id] Q .normal st := h
section
variable {α : Type}
def eOp (sz : Nat) (f : α → A) : Option α → A
 | some x => f x
 | none => .dead sz
theorem opL (sz : Nat) (f : α → A) (l : List α) : (l.map some).map (eOp sz f) = l.map f := by rw [List.map_map]; rfl
instance LeA.opF (s z : Nat) (b : Bool) (f : α → A) (l : List α) : LeA (eOs s b f l) (eOs s false (eOp z f) (l.map some)) := by
 unfold eOs; rw [opL]; exact LeA.osl _ _ _ _
instance SzA.opS {β : Type} (s s' : Nat) (b b' : Bool) (f : α → A) (g : β → A) (l : List α) (l' : List β) : SzA (eOs s b f l) (eOs s' b' g l') := ⟨rfl⟩
theorem iMo (sz : Nat) (f : α → A) {l : List (Option α)} {i : Int} {u : Option α} {y : α} (h : idx l i = some u) (h2 : u = some y) : (l.map (eOp sz f))[i.toNat]? = some (f y) := by
 subst h2
 exact iM (eOp sz f) h
theorem sMn (sz : Nat) (f : α → A) (l : List (Option α)) (i : Int) : (l.map (eOp sz f)).set i.toNat (.dead sz) = (l.set i.toNat none).map (eOp sz f) := sM (eOp sz f) l i none
end
end Go.Own

namespace Go.Own
theorem z1t {S : zl} {h : Array Obj} : ∀ {fs : List A} {l : List Value} {F : List Nat} {i : Nat} {y : A}, zL S h fs l F → fs[i]? = some y → ∃ ci Fi, zO S h y ci Fi ∧ (∀ k ∈ Fi, k ∈ F) ∧ ∀ j v, ci[j]? = some v → l[A.sizes (fs.take i) + j]? = some v
 | [], _, _, i, y, _, e => by simp at e
 | x :: fs, l, F, 0, y, h, e => by
  simp only [List.getElem?_cons_zero, Option.some.injEq] at e
  subst e
  simp only [zL] at h
  obtain ⟨c1, c2, F1, F2, rfl, rfl, h1, h2⟩ := h
  refine ⟨c1, F1, h1, fun k hk => by simp [hk], fun j v hj => ?_⟩
  simp only [List.take_zero, A.sizes, Nat.zero_add]
  rw [List.getElem?_append_left (List.getElem?_eq_some_iff.1 hj).1]
  exact hj
 | x :: fs, l, F, i + 1, y, h, e => by
  simp only [zL] at h
  obtain ⟨c1, c2, F1, F2, rfl, rfl, h1, h2⟩ := h
  obtain ⟨ci, Fi, g1, g2, g3⟩ := z1t (i := i) h2 (by simpa using e)
  refine ⟨ci, Fi, g1, fun k hk => by simp [g2 k hk], fun j v hj => ?_⟩
  simp only [List.take_succ_cons, A.sizes]
  rw [List.getElem?_append_right (by rw [h1.len]; omega), h1.len, show x.size + A.sizes (fs.take i) + j - x.size = A.sizes (fs.take i) + j by omega]
  exact g3 j v hj
section
variable {C : Ctx} {S : zl} {Fp : Nat → List Nat} {st : St} {a : Act} {w : World}
theorem Sim.retold (h : Sim C S Fp [] st a w) (k : Nat) (T' : T) (er ec : Nat) (hF : Fp k = []) (h1 : (st k).er ≤ er) (h2 : (st k).ec ≤ ec) (hT : match T' with | .als _ _ _ _ => True | _ => False) (ho : ∀ x, (st k).t ≠ .own x) (hd : ∀ x, (st k).t ≠ .d x)
  (he : ∀ st', st' = upd st k ⟨T', er, ec⟩ → yH S w.heap st' (Act.tv a) [] ⟨T', er, ec⟩ (Act.tv a k)) : Sim C S Fp [] (upd st k ⟨T', er, ec⟩) a w := by
 refine { size := h.size, pin := h.pin, defers := h.defers, below := h.below, mine := h.mine, still := h.still, sinc := h.sinc, sbase := h.sbase, ent := ?_, disj := h.disj, base := h.base, xn := h.xn, xd := h.xd, xb := h.xb }
 intro t
 by_cases ht : t = k
 ·subst ht
  rw [xz, hF]
  exact he _ rfl
 ·rw [qq _ _ ht]
  have q := h.ent t
  unfold yH at q ⊢
  have als : ∀ {r p er' ec' v}, qo w.heap st (Act.tv a) r p er' ec' v → qo w.heap (upd st k ⟨T', er, ec⟩) (Act.tv a) r p er' ec' v := by
   intro r p er' ec' v q
   by_cases hr : r = k
   ·subst hr
    refine ⟨?_, ?_, ?_⟩
    ·rw [xz]; exact Nat.le_trans q.1 h1
    ·rw [xz]; exact Nat.le_trans q.2.1 h2
    ·rw [xz]
     cases T' <;> first | exact hT.elim | trivial
   ·unfold qo
    rw [qq _ _ hr]
    exact q
  have ptr : ∀ {r p er' ec' v}, up w.heap st (Act.tv a) r p er' ec' v → up w.heap (upd st k ⟨T', er, ec⟩) (Act.tv a) r p er' ec' v := by
   intro r p er' ec' v q
   by_cases hr : r = k
   ·subst hr
    refine ⟨?_, ?_, ?_⟩
    ·rw [xz]; exact Nat.le_trans q.1 h1
    ·rw [xz]; exact Nat.le_trans q.2.1 h2
    ·rw [xz]
     cases T' <;> first | exact hT.elim | trivial
   ·unfold up
    rw [qq _ _ hr]
    exact q
  cases hx : (st t).t with
  | gone => simp only [hx] at q ⊢; exact q
  | d y => simp only [hx] at q ⊢; exact q
  | own y => simp only [hx] at q ⊢; exact q
  | als r p er' ec' => simp only [hx] at q ⊢; exact ⟨q.1, als q.2⟩
  | ptr r p er' ec' => simp only [hx] at q ⊢; exact ⟨q.1, ptr q.2⟩
def z9k (tt : TT) (t : Nat) (y0 s : A) : Bool := (s.size == y0.size) && (y0.isD && (s.isD && k9 tt t s))
def rfM (r i k : Nat) (y : T) (e ek : Ent) : Option (List A × Nat × Bool × List A × Nat) :=
 match y, e.t, ek.t with
 | .ptr r' [.deref, .fld i', .idx j] er ec, .own (.box (.agg fs)), .als r'' [.deref, .fld i''] er2 ec2 =>
  if r' = r ∧ r'' = r ∧ i' = i ∧ i'' = i ∧ e.er = er ∧ e.ec = ec ∧ e.er = er2 ∧ e.ec = ec2 ∧ k ≠ r then
   match fs[i]? with
   | some (.osl sz tg es) => some (fs, sz, tg, es, j)
   | _ => none
  else none
 | _, _, _ => none
theorem z42 {r i k : Nat} {y : T} {e ek : Ent} {fs : List A} {sz : Nat} {tg : Bool} {es : List A} {j : Nat} (h : rfM r i k y e ek = some (fs, sz, tg, es, j)) :
  y = .ptr r [.deref, .fld i, .idx j] e.er e.ec ∧ e.t = .own (.box (.agg fs)) ∧ ek.t = .als r [.deref, .fld i] e.er e.ec ∧ k ≠ r ∧ fs[i]? = some (.osl sz tg es) := by
 unfold rfM at h
 split at h
 ·rename_i hot hkt
  split at h
  ·rename_i hc
   obtain ⟨rfl, rfl, rfl, rfl, rfl, rfl, h1, h2, hkr⟩ := hc
   split at h
   ·rename_i hfi
    simp only [Option.some.injEq, Prod.mk.injEq] at h
    obtain ⟨rfl, rfl, rfl, rfl, rfl⟩ := h
    exact ⟨rfl, hot, by rw [hkt, h1, h2], hkr, hfi⟩
   ·cases h
  ·cases h
 ·cases h
def rfK (tt : TT) (t r i k : Nat) (y : T) (s : A) (e ek : Ent) : SM Unit :=
 ofO (rfM r i k y e ek) >>= fun q => ofO q.2.2.2.1[q.2.2.2.2]? >>= fun y0 => if z9k tt t y0 s = true then wrE r ⟨.own (.box (.agg (q.1.set i (.osl q.2.1 q.2.2.1 (q.2.2.2.1.set q.2.2.2.2 s))))), e.er, e.ec + 1⟩ >>= fun _ => wrE k ⟨.als r [.deref, .fld i] e.er (e.ec + 1), ek.er + 1, ek.ec + 1⟩ else zq
def rfO (tt : TT) (dst : Option Nat) (t r i k : Nat) (x v : Operand) : SM Unit := do
 if dst = none then
  let y ← opnd x
  let z ← opnd v
  let s ← val z
  let e ← rdE r
  let ek ← rdE k
  rfK tt t r i k y s e ek
 else zq
def zap (tt : TT) (t r i k : Nat) (y : T) (s : A) (e ek : Ent) : HM Unit :=
 yo (ofO (rfM r i k y e ek)) >>= fun q => z1B q.2.2.2.1[q.2.2.2.2]? >>= fun y0 => if z9k tt t y0 s = true then eqL (q.2.2.2.1.set q.2.2.2.2 s) >>= fun es' => yo (wrE r ⟨.own (.box (.agg (q.1.set i (.osl q.2.1 q.2.2.1 es')))), e.er, e.ec + 1⟩ >>= fun _ => wrE k ⟨.als r [.deref, .fld i] e.er (e.ec + 1), ek.er + 1, ek.ec + 1⟩) else zM
def rfH (tt : TT) (dst : Option Nat) (t r i k : Nat) (x v : Operand) : HM Unit :=
 if dst = none then yo (opnd x) >>= fun y => yo (opnd v) >>= fun z => Q3 z >>= fun s => yo (rdE r) >>= fun e => yo (rdE k) >>= fun ek => zap tt t r i k y s e ek else zM
theorem zaU (tt : TT) (dst : Option Nat) (t r i k : Nat) (x v : Operand) : Snd (rfO tt dst t r i k x v) (rfH tt dst t r i k x v) := by
 refine vp (zj (zm _) fun y => zj (zm _) fun z => zj (Z1 _) fun s => zj (zm _) fun e => zj (zm _) fun ek => ?_) (zo _)
 unfold rfK zap
 refine zj (zm _) fun q => zj (Xa _) fun y0 => vp ?_ (zo _)
 exact Yu (y7 _ fun es' => (wrE r ⟨.own (.box (.agg (q.1.set i (.osl q.2.1 q.2.2.1 es')))), e.er, e.ec + 1⟩ >>= fun _ => wrE k ⟨.als r [.deref, .fld i] e.er (e.ec + 1), ek.er + 1, ek.ec + 1⟩)).symm (zj (z0i _) fun _ => zm _)
theorem Loc.rfO (tt : TT) (dst : Option Nat) (t r i k : Nat) (x v : Operand) : Loc (rfO tt dst t r i k x v) := by
 unfold Go.Own.rfO
 refine Loc.ite (Loc.bind (Loc.opnd _) fun y => Loc.bind (Loc.opnd _) fun z => Loc.bind (Loc.val _) fun s => Loc.bind (Loc.rdE _) fun e => Loc.bind (Loc.rdE _) fun ek => ?_) Loc.fail
 unfold Go.Own.rfK
 exact Loc.bind (Loc.ofO _) fun _ => Loc.bind (Loc.ofO _) fun _ => Loc.ite (Loc.bind (Loc.wrE _ _) fun _ => Loc.wrE _ _) Loc.fail
theorem z9j {P : Program} {tt : TT} (hT : vw P tt) (h : Sim C S Fp [] st a w) {o : Oper} {t r i k : Nat} {x v : Operand} (ho : o.op = .store t x v) {u : Unit} {R : List Nat} {U : List (Nat × Ent)} (e0 : rfO tt o.dst t r i k x v st = some (u, R, U)) : uf P C o a w (zc U st) := by
 unfold rfO at e0
 split at e0
 ·rename_i hd
  obtain ⟨y, R1, U1, R2, U2, h1, e1, rfl, rfl⟩ := bind_some e0
  obtain ⟨rfl, hx⟩ := zP h h1
  obtain ⟨z, R3, U3, R4, U4, h3, e2, rfl, rfl⟩ := bind_some e1
  obtain ⟨rfl, hz⟩ := zP h h3
  obtain ⟨s, R5, U5, R6, U6, h5, e3, rfl, rfl⟩ := bind_some e2
  obtain ⟨rfl, qs⟩ := uC h hz h5
  obtain ⟨e, R7, U7, R8, U8, h7, e4, rfl, rfl⟩ := bind_some e3
  obtain ⟨rfl, rfl, rfl⟩ := ym h7
  obtain ⟨ek, R9, U9, R10, U10, h9, e5, rfl, rfl⟩ := bind_some e4
  obtain ⟨rfl, rfl, rfl⟩ := ym h9
  simp only [zc, List.nil_append] at e5 ⊢
  unfold rfK at e5
  generalize hst : st r = er0 at e5
  generalize hsk : st k = ek0 at e5
  obtain ⟨er0t, er1, er2⟩ := er0
  obtain ⟨ek0t, ek1, ek2⟩ := ek0
  obtain ⟨q, R15, U15, R16, U16, h15, e5', rfl, rfl⟩ := bind_some e5
  clear e5
  obtain ⟨hq, rfl, rfl⟩ := vm h15
  obtain ⟨fs, sz, tg, es, j⟩ := q
  obtain ⟨rfl, hot, hkt, hkr, hfi⟩ := z42 hq
  simp only at hot hkt
  subst hot hkt
  simp only [zc, List.nil_append] at e5' ⊢
  obtain ⟨y0, R11, U11, R12, U12, h11, e6, rfl, rfl⟩ := bind_some e5'
  obtain ⟨hj, rfl, rfl⟩ := vm h11
  simp only [zc, List.nil_append] at e6 ⊢
  split at e6
  case isFalse => exact (z8 e6).elim
  rename_i hok
  simp only [z9k, Bool.and_eq_true, beq_iff_eq] at hok
  obtain ⟨k1, k2, k3, k4⟩ := hok
  obtain ⟨u1, R13, U13, R14, U14, h13, e7, rfl, rfl⟩ := bind_some e6
  obtain ⟨rfl, rfl⟩ := wa h13
  obtain ⟨rfl, rfl⟩ := wa e7
  have htr : (st r).t = .own (.box (.agg fs)) := by rw [hst]
  have hp : up w.heap st (Act.tv a) r [.deref, .fld i, .idx j] er1 er2 (a.eval x) := hx
  have hgp : xI [.deref, .fld i, .idx j] (.box (.agg fs)) = some y0 := by simp only [xI, hfi, hj]
  obtain ⟨b, o', arr, ty, csy, Fy, cs, ev, o1, f2, f3, f4, f5, f6, f7, f8, f9, f10, f11, f12⟩ := Xf h hp htr (by rw [hst]) (by rw [hst]) hgp
  obtain ⟨_, rfl⟩ := f4.isD k2
  have hq1 : ∃ csz, Rep S s csz ∧ a.eval v = zZ s csz := by
   have q := qs
   cases s <;> first | (simp [A.isD] at k3; done) | exact q
  obtain ⟨csz, z1, z2⟩ := hq1
  have hlen : csz.length = csy.length := by rw [z1.len, f4.len, k1]
  let w' := w.setRow b (ZL arr o' csz)
  have hheap : ∀ m, m ≠ b → w'.heap[m]? = w.heap[m]? := fun m hm => setRow_other w b m _ hm
  have hheapb : w'.heap[b]? = some (.cells (ZL arr o' csz) ty (0, 0)) := setRow_heap w b arr _ ty (0, 0) f2
  have hbase : C.M b := h.base r b f6
  have hSb : ∀ o, S b o = none := (h.free r b f6).2.1
  obtain ⟨F0', d1, d2, d3⟩ := f12 S w'.heap s csz [] (fun _ _ _ q => q) hlen (Rep.conc w'.heap z1) (by simp) (fun m hm _ => (h.free r m hm).2.1) (fun m _ _ hm => hheap m hm) hheapb (by simp)
  have hst' : ∀ b' o'' u, S b' o'' = some u → yi w'.heap b' o'' = some u := by
   intro b' o'' u hs
   rw [x5 (h := w.heap) (h' := w'.heap) (hheap b' (by rintro rfl; rw [hSb] at hs; cases hs))]
   exact h.still b' o'' u hs
  have hset : jS [.deref, .fld i, .idx j] (.box (.agg fs)) s = .box (.agg (fs.set i (.osl sz tg (es.set j s)))) := by simp only [jS, hfi, hj]
  rw [hset] at d1
  have g1 : Sim C S (kY Fp r F0') [] (upd st r ⟨.own (.box (.agg (fs.set i (.osl sz tg (es.set j s))))), er1, er2 + 1⟩) a w' := by
   refine h.change r (.own _) _ _ F0' (h.below.trans ⟨rfl, rfl, rfl, Nat.le_refl _, by simp [w'], fun m hm => hheap m (fun q => hm (q ▸ hbase))⟩) (fun _ _ _ q => q) hst' h.sbase ?_ ⟨⟨cs, d1, d2, by rw [f10]; rfl⟩, _, htr⟩ (.inl ⟨_, htr⟩) (by rw [hst]; exact Nat.le_refl _) (by rw [hst]; exact Nat.lt_succ_self _) ?_ ?_ (by simp) (by simp) (by simp) (by simp)
   ·intro t' m htm hm
    exact ⟨hheap m (by rintro rfl; exact htm (h.disj t' r m hm f6)), (h.free t' m hm).2.1⟩
   ·intro t' m htm hm hm'
    rcases (d3 m).1 hm with q | q
    ·exact htm (h.disj t' r m hm' q.1)
    ·simp at q
   ·intro m hm
    rcases (d3 m).1 hm with q | q
    ·exact h.base r m q.1
    ·simp at q
  have hkq := h.ent k
  unfold yH at hkq
  rw [hsk] at hkq
  simp only at hkq
  obtain ⟨hFk, hals⟩ := hkq
  have a3 := hals.2.2
  simp only [htr] at a3
  rcases a3 (by rw [hst]) (.inr (by rw [hst])) with ⟨hh, _⟩ | ⟨_, y', bb, oo, cs', p1, p2, p3, p4, p5⟩
  ·simp at hh
  simp only [xI, hfi, Option.some.injEq] at p1
  subst p1
  have f9' := f9
  simp only [zO] at f9'
  obtain ⟨bx, tyx, lx, Fx, rfl, q1, q2, q3, q4⟩ := f9'
  have htv : Act.tv a r = .pointer (some ⟨bx, 0, none⟩) := f10
  rw [htv] at p2 f11
  simp only [xG, XY, hfi, Option.some.injEq, Prod.mk.injEq, Nat.zero_add] at p2
  obtain ⟨rfl, rfl⟩ := p2
  obtain ⟨ci, Fi, c1, c2, c3⟩ := z1t q2 hfi
  simp only [zO] at c1
  obtain ⟨pp, cc, rfl, t1, t2, t3, t4, t5⟩ := c1
  have hne : b ≠ bx := by
   rcases t5 with ⟨rfl, _⟩ | ⟨b2, arr2, ty2, l2, F2, rfl, v1, v2, v3, v4, rfl, v6⟩
   ·simp at hj
   have hcell : yi w.heap bx (A.sizes (fs.take i)) = some (.slice (some ⟨b2, 0, none⟩) es.length cc) := by
    have := c3 0 _ rfl
    unfold yi
    rw [q1]
    simpa using this
   simp only [xG, XY, hfi, Nat.zero_add, hj, hcell, Option.some.injEq, Prod.mk.injEq] at f11
   obtain ⟨rfl, _⟩ := f11
   have hnd := (h.free r bx (by rw [q3]; simp))
   have hn : (Fp r).Nodup := by
    have q := h.ent r
    unfold yH at q
    simp only [htr] at q
    exact q.choose_spec.2.1
   rw [q3, List.nodup_cons] at hn
   rintro rfl
   exact hn.1 (c2 _ (by simp))
  have hcf : ∀ j' u', cs'[j']? = some u' → yi w'.heap bx (A.sizes (fs.take i) + j') = some u' := by
   intro j' u' hj'
   rw [x5 (h := w.heap) (h' := w'.heap) (hheap bx (Ne.symm hne))]
   exact p4 j' u' hj'
  have hil : i < fs.length := (List.getElem?_eq_some_iff.1 hfi).1
  have hkk : upd st r ⟨.own (.box (.agg (fs.set i (.osl sz tg (es.set j s))))), er1, er2 + 1⟩ k = ⟨.als r [.deref, .fld i] er1 er2, ek1, ek2⟩ := by rw [qq _ _ hkr, hsk]
  have g2 := g1.retold k (.als r [.deref, .fld i] er1 (er2 + 1)) (ek1 + 1) (ek2 + 1) (by unfold kY; rw [if_neg hkr]; exact hFk) (by rw [hkk]; exact Nat.le_succ _) (by rw [hkk]; exact Nat.le_succ _) trivial (by rw [hkk]; intro x q; cases q) (by rw [hkk]; intro x q; cases q) (by
   rintro st2 rfl
   unfold yH
   refine ⟨rfl, ?_⟩
   have hr2 : upd (upd st r ⟨.own (.box (.agg (fs.set i (.osl sz tg (es.set j s))))), er1, er2 + 1⟩) k ⟨.als r [.deref, .fld i] er1 (er2 + 1), ek1 + 1, ek2 + 1⟩ r = ⟨.own (.box (.agg (fs.set i (.osl sz tg (es.set j s))))), er1, er2 + 1⟩ := by rw [qq _ _ (Ne.symm hkr), xz]
   refine ⟨by rw [hr2]; exact Nat.le_refl _, by rw [hr2]; exact Nat.le_refl _, ?_⟩
   rw [hr2]
   intro _ _
   refine .inr ⟨rfl, .osl sz tg (es.set j s), bx, A.sizes (fs.take i), cs', ?_, ?_, by rw [p3]; rfl, hcf, by rw [p5]; rfl⟩
   ·simp [xI, hil]
   ·rw [htv]
    simp [xG, XY, hil]
    rw [List.take_set_of_le (Nat.le_refl i)])
  refine Un (w' := w') ?_ hd g2
  have hrun : (storeVar t ⟨b, o', none⟩ (zZ s csz)).run P w = .ok () w' := by
   by_cases hz0 : csz.length = 0
   ·have hnil : csz = [] := List.eq_nil_of_length_eq_zero hz0
    subst hnil
    have hov : w' = w := by
     show w.setRow b (ZL arr o' []) = w
     rw [qW (by intro j v hj; simp at hj)]
     exact setRow_self w b arr ty (0, 0) f2
    rw [hov]
    have hsz : s.size = 0 := by rw [← z1.len]; rfl
    have hag := (Vs k4).resolve_right (by omega)
    have hcl := kb (y := s) (fun u hu => Y4 (z1.one u hu)) (.inl hag)
    have hf := k4
    unfold k9 at hf
    split at hf
    ·rename_i it hit
     simp only [Bool.and_eq_true, beq_iff_eq, Bool.or_eq_true] at hf
     unfold storeVar
     simp only [Sem.run_bind, hcl, List.size_toArray, vD hT hit, Result.andThen_ok]
     simp [hf.1.2, hsz, storeCells]
    ·cases hf
   ·exact WA hT k4 z1.len z1.one f2 (by rw [hlen]; exact f3.le (by omega))
  simp [execOp, ho, ev, z2, Instr.storeAt, Instr.sureAddr, hrun]
 ·exact (z8 e0).elim
end
def zaw (q : Nat) (o : Oper) : Option (Nat × Operand × Operand) := match o.op with | .store t (.tmp q') v => if q' = q then some (t, .tmp q', v) else none | _ => none
def xRf {P : Program} {tt : TT} (hT : vw P tt) (q r i k : Nat) : XH P :=
 xAt P (zaw q) (fun n o b => rfO tt o.dst b.1 r i k b.2.1 b.2.2) (fun n o b => rfH tt o.dst b.1 r i k b.2.1 b.2.2)
  (by
   intro C S Fp st a w o b hp h u R U e
   unfold zaw at hp
   split at hp
   ·rename_i ho
    split at hp
    ·cases hp; exact z9j hT h ho e
    ·cases hp
   ·cases hp)
  (fun n o b => Loc.rfO _ _ _ _ _ _ _ _) (fun n o b => zaU _ _ _ _ _ _ _ _)
end Go.Own

namespace Go.Own
theorem Sim.retag {C : Ctx} {S : zl} {Fp : Nat → List Nat} {st : St} {a : Act} {w : World} (h : Sim C S Fp [] st a w) (k : Nat) (x y : A) (hx : (st k).t = .own x) (hl : LeA x y) : Sim C S Fp [] (upd st k ⟨.own y, (st k).er + 1, (st k).ec + 1⟩) a w := by
 refine { size := h.size, pin := h.pin, defers := h.defers, below := h.below, mine := h.mine, still := h.still, sinc := h.sinc, sbase := h.sbase, ent := ?_, disj := h.disj, base := h.base, xn := h.xn, xd := h.xd, xb := h.xb }
 intro t
 have q := h.ent t
 by_cases ht : t = k
 ·subst ht
  rw [xz]
  unfold yH at q ⊢
  simp only [hx] at q ⊢
  obtain ⟨cs, q1, q2, q3⟩ := q
  exact ⟨cs, hl.conc _ _ _ _ q1, q2, by rw [← hl.val]; exact q3⟩
 ·rw [qq _ _ ht]
  unfold yH at q ⊢
  have als : ∀ {r p er' ec' v}, qo w.heap st (Act.tv a) r p er' ec' v → qo w.heap (upd st k ⟨.own y, (st k).er + 1, (st k).ec + 1⟩) (Act.tv a) r p er' ec' v := by
   intro r p er' ec' v q
   by_cases hr : r = k
   ·subst hr
    obtain ⟨q1, q2, q3⟩ := q
    unfold qo
    rw [xz]
    refine ⟨Nat.le_succ_of_le q1, Nat.le_succ_of_le q2, ?_⟩
    simp only
    intro e1
    omega
   ·unfold qo
    rw [qq _ _ hr]
    exact q
  have ptr : ∀ {r p er' ec' v}, up w.heap st (Act.tv a) r p er' ec' v → up w.heap (upd st k ⟨.own y, (st k).er + 1, (st k).ec + 1⟩) (Act.tv a) r p er' ec' v := by
   intro r p er' ec' v q
   by_cases hr : r = k
   ·subst hr
    obtain ⟨q1, q2, q3⟩ := q
    unfold up
    rw [xz]
    refine ⟨Nat.le_succ_of_le q1, Nat.le_succ_of_le q2, ?_⟩
    simp only
    intro e1
    omega
   ·unfold up
    rw [qq _ _ hr]
    exact q
  cases hz : (st t).t with
  | gone => simp only [hz] at q ⊢; exact q
  | d y => simp only [hz] at q ⊢; exact q
  | own y => simp only [hz] at q ⊢; exact q
  | als r p er' ec' => simp only [hz] at q ⊢; exact ⟨q.1, als q.2⟩
  | ptr r p er' ec' => simp only [hz] at q ⊢; exact ⟨q.1, ptr q.2⟩
theorem uf.retag {P : Program} {C : Ctx} {o : Oper} {a : Act} {w : World} {st1 : St} (hg : uf P C o a w st1) (k : Nat) (x y : A) (hx : (st1 k).t = .own x) (hl : LeA x y) : uf P C o a w (upd st1 k ⟨.own y, (st1 k).er + 1, (st1 k).ec + 1⟩) :=
 fun r m K Q hk => hg r m K Q fun S Fp a' w' hs => hk S Fp a' w' (hs.retag k x y hx hl)
def rtM (y : T) : Option (Nat × Bool × Nat × List A) := match y with | .own (.osl z b [.osl s true l]) => some (z, b, s, l) | _ => none
theorem z40 {y : T} {q : Nat × Bool × Nat × List A} (h : rtM y = some q) : y = .own (.osl q.1 q.2.1 [.osl q.2.2.1 true q.2.2.2]) := by
 unfold rtM at h
 split at h
 ·cases h; rfl
 ·cases h
def nbO (tt : TT) (n : Fr) (dst : Option Nat) (d t len : Nat) (ps : List (Nat × Operand)) : SM Unit :=
 uA tt n dst t len ps >>= fun _ => rdE d >>= fun e => ofO (rtM e.t) >>= fun q => wrE d ⟨.own (.osl q.1 false [.osl q.2.2.1 false q.2.2.2]), e.er + 1, e.ec + 1⟩
def nbH (tt : TT) (n : Fr) (dst : Option Nat) (d t len : Nat) (ps : List (Nat × Operand)) : HM Unit :=
 ZD tt n dst t len ps >>= fun _ => yo (rdE d) >>= fun e => yo (ofO (rtM e.t)) >>= fun q => yo (wrE d ⟨.own (.osl q.1 false [.osl q.2.2.1 false q.2.2.2]), e.er + 1, e.ec + 1⟩)
theorem zaX (tt : TT) (n : Fr) (dst : Option Nat) (d t len : Nat) (ps : List (Nat × Operand)) : Snd (nbO tt n dst d t len ps) (nbH tt n dst d t len ps) :=
 zj (Wz _ _ _ _ _ _) fun _ => zj (zm _) fun _ => zj (zm _) fun _ => zm _
theorem Loc.nbO (tt : TT) (n : Fr) (dst : Option Nat) (d t len : Nat) (ps : List (Nat × Operand)) : Loc (nbO tt n dst d t len ps) :=
 Loc.bind (by have q := Loc.stepO tt Xk n ⟨dst, .buildSlice t len ⟨ps⟩, 0, default, default, none⟩; exact q) fun _ => Loc.bind (Loc.rdE _) fun _ => Loc.bind (Loc.ofO _) fun _ => Loc.wrE _ _
section
variable {C : Ctx} {S : zl} {Fp : Nat → List Nat} {st : St} {a : Act} {w : World}
theorem z9q {P : Program} {tt : TT} (hT : vw P tt) (h : Sim C S Fp [] st a w) {o : Oper} {d t len : Nat} {ps : Array (Nat × Operand)} (ho : o.op = .buildSlice t len ps) {u : Unit} {R : List Nat} {U : List (Nat × Ent)} (e0 : nbO tt C.n o.dst d t len ps.toList st = some (u, R, U)) : uf P C o a w (zc U st) := by
 obtain ⟨y, R1, U1, R2, U2, h1, e1, rfl, rfl⟩ := bind_some e0
 have g := Xm hT h ho h1
 rw [zw]
 generalize zc U1 st = s1 at g e1 ⊢
 obtain ⟨e, R7, U7, R8, U8, h7, e4, rfl, rfl⟩ := bind_some e1
 obtain ⟨rfl, rfl, rfl⟩ := ym h7
 simp only [zc, List.nil_append] at e4 ⊢
 obtain ⟨q, R9, U9, R10, U10, h9, e5, rfl, rfl⟩ := bind_some e4
 obtain ⟨hq, rfl, rfl⟩ := vm h9
 simp only [zc, List.nil_append] at e5 ⊢
 obtain ⟨rfl, rfl⟩ := wa e5
 have ht := z40 hq
 exact g.retag d _ _ ht (@LeA.osl _ _ _ _ (@JO.cons _ _ _ _ (LeA.osl _ _ _ _) ⟨rfl⟩ JO.nil))
end
def zay (d : Nat) (o : Oper) : Option (Nat × Nat × Array (Nat × Operand)) := match o.op with | .buildSlice t len ps => if o.dst = some d then some (t, len, ps) else none | _ => none
def xNb {P : Program} {tt : TT} (hT : vw P tt) (d : Nat) : XH P :=
 xAt P (zay d) (fun n o b => nbO tt n o.dst d b.1 b.2.1 b.2.2.toList) (fun n o b => nbH tt n o.dst d b.1 b.2.1 b.2.2.toList)
  (by
   intro C S Fp st a w o b hp h u R U e
   unfold zay at hp
   split at hp
   ·rename_i ho; cases z3x hp; exact z9q hT h ho e
   ·cases hp)
  (fun n o b => Loc.nbO _ _ _ _ _ _ _) (fun n o b => zaX _ _ _ _ _ _ _)
end Go.Own
