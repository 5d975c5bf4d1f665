/- -/
import Derived.Test.YtmedkleidpbgpaaPartC
import Derived.Laws.BytesString
noncomputable section
set_option linter.unusedVariables false
set_option linter.unusedSimpArgs false
namespace Go.Own
def xAt (P : Program) {β : Type} (p : Oper → Option β) (e : Fr → Oper → β → SM Unit) (h : Fr → Oper → β → HM Unit)
  (ok : ∀ (C : Ctx) (S : zf) (Fp : Nat → List Nat) (st : St) (a : Act) (w : World) (o : Oper) (b : β), p o = some b → Sim C S Fp [] st a w → ∀ u R U, e C.n o b st = some (u, R, U) → vX P C o a w (ze U st))
  (loc : ∀ n o b, Loc (e n o b)) (sd : ∀ n o b, Snd (e n o b) (h n o b)) : XH P := {
 e := fun n o => (p o).map (e n o)
 h := fun n o => (p o).map (h n o)
 ok := by
  refine ⟨?_, ?_⟩
  ·intro C S Fp st a w o m u R U e0 h h2
   obtain ⟨b, hp, rfl⟩ := Option.map_eq_some_iff.1 e0
   exact ok C S Fp st a w o b hp h _ _ _ h2
  ·intro n o m e0
   obtain ⟨b, hp, rfl⟩ := Option.map_eq_some_iff.1 e0
   exact fun st st' a R U => loc n o b st st' a R U
 none := by
  intro n o e0
  rw [Option.map_eq_none_iff] at e0 ⊢
  exact e0
 some := by
  intro n o m e0
  obtain ⟨b, hp, rfl⟩ := Option.map_eq_some_iff.1 e0
  exact ⟨_, by rw [hp]; rfl, sd n o b⟩ }
variable {o : Oper}
theorem z21 {d : Nat} {β : Type} {x : Option β} {b : β} (h : (if o.dst = some d then x else none) = some b) : x = some b := by
 split at h
 ·exact h
 ·cases h
def zav (d : Nat) (o : Oper) : Option (Nat × Operand × Operand) := match o.op with | .slice t x (some lo) none none => if o.dst = some d then some (t, x, lo) else none | _ => none
variable {P : Program}{tt : TT}
def xVw (hT : xH P tt) (d r : Nat) (v : Value) : XH P :=
 xAt P (zav d) (fun n o b => vwO tt n o.dst b.1 r v b.2.1 b.2.2) (fun n o b => vwH tt n o.dst b.1 r v b.2.1 b.2.2)
  (by
   intro C S Fp st a w o b hp h u R U e
   unfold zav at hp
   split at hp
   ·rename_i ho; cases z21 hp; exact zaJ hT h ho e
   ·cases hp)
  (fun n o b => Loc.vwO _ _ _ _ _ _ _ _) (fun n o b => zcp _ _ _ _ _ _ _ _)
def zaw (d t : Nat) (o : Oper) : Option Operand := match o.op with | .call ⟨.builtin .len, ⟨[x]⟩, ⟨[t']⟩⟩ => if o.dst = some d then (if t' = t then some x else none) else none | _ => none
def xVl (hT : xH P tt) (d t sz r : Nat) (v : Value) (l : Int) (hty : ua tt t = true) : XH P :=
 xAt P (zaw d t) (fun n o x => vlO n o.dst sz r v l x) (fun n o x => vlH n o.dst sz r v l x)
  (by
   intro C S Fp st a w o x hp h u R U e
   unfold zaw at hp
   split at hp
   ·rename_i ho
    replace hp := z21 hp
    split at hp
    ·rename_i ht; subst ht; cases hp; exact zaK hT h hty ho e
    ·cases hp
   ·cases hp)
  (fun n o x => Loc.vlO _ _ _ _ _ _ _) (fun n o x => zcq _ _ _ _ _ _ _)
def zax (d : Nat) (o : Oper) : Option (Nat × Operand × Operand) := match o.op with | .indexAddr t x i => if o.dst = some d then some (t, x, i) else none | _ => none
def xVi (hT : xH P tt) (d sz r : Nat) (v : Value) (l : Int) : XH P :=
 xAt P (zax d) (fun n o b => viO tt n o.dst b.1 sz r v l b.2.1 b.2.2) (fun n o b => viH tt n o.dst b.1 sz r v l b.2.1 b.2.2)
  (by
   intro C S Fp st a w o b hp h u R U e
   unfold zax at hp
   split at hp
   ·rename_i ho; cases z21 hp; exact zaL hT h ho e
   ·cases hp)
  (fun n o b => Loc.viO _ _ _ _ _ _ _ _ _ _) (fun n o b => zcr _ _ _ _ _ _ _ _ _ _)
def zc2 (s : Nat) (o : Oper) : Option Nat := match o.op with | .call ⟨.builtin .clear, ⟨[.tmp s']⟩, ⟨[t]⟩⟩ => if s' = s then some t else none | _ => none
def xVc (hT : xH P tt) (s sz r : Nat) (v : Value) (l : Int) : XH P :=
 xAt P (zc2 s) (fun n o t => vcO tt n o.dst t sz r v l (.tmp s)) (fun n o t => vcH tt n o.dst t sz r v l (.tmp s))
  (by
   intro C S Fp st a w o b hp h u R U e
   unfold zc2 at hp
   split at hp
   ·rename_i ho
    split at hp
    ·rename_i hs; subst hs; cases hp; exact zaM hT h ho e
    ·cases hp
   ·cases hp)
  (fun n o b => Loc.vcO _ _ _ _ _ _ _ _ _) (fun n o b => zct _ _ _ _ _ _ _ _ _)
def clO (tt : TT) (n : Fr) (dst : Option Nat) (t : Nat) (x hi mx : Operand) : SM Unit := do
 let y ← opnd x
 let z ← take y
 match z with
 | .osl sz _ es => if yU tt t = some sz then bound es.length (some hi) >>= fun h => bound 0 (some mx) >>= fun m => if h ≤ m ∧ m ≤ es.length then wrT n dst (.own (.osl sz (m == h) (es.take h))) else zm else zm
 | _ => zm
def clH (tt : TT) (n : Fr) (dst : Option Nat) (t : Nat) (x hi mx : Operand) : HM Unit := zT (opnd x) >>= fun y => z0t y >>= fun z =>
 match z with
 | .osl sz _ es => if yU tt t = some sz then UM es.length (some hi) >>= fun h => UM 0 (some mx) >>= fun m => j9 (h ≤ m ∧ m ≤ es.length) (eqA (.osl sz (m == h) (es.take h)) >>= fun z => zT (wrT n dst (.own z))) else zx
 | _ => zx
theorem zcx (tt : TT) (n : Fr) (dst : Option Nat) (t : Nat) (x hi mx : Operand) : Snd (clO tt n dst t x hi mx) (clH tt n dst t x hi mx) := by
 refine za (zi _) fun y => za (Qr _) fun z => ?_
 cases z with
 | osl sz tg es =>
  refine wW (za (Wf _ _) fun h => za (Wf _ _) fun m => vA ?_) (zl _)
  exact YW (zM _ fun z => wrT n dst (.own z)).symm (za (Jn _) fun _ => zi _)
 | _ => exact zl _
theorem Loc.clO (tt : TT) (n : Fr) (dst : Option Nat) (t : Nat) (x hi mx : Operand) : Loc (clO tt n dst t x hi mx) := by
 unfold Go.Own.clO
 refine Loc.bind (Loc.opnd _) fun _ => Loc.bind (Loc.take _) fun z => ?_
 cases z with
 | osl sz tg es => exact Loc.ite (Loc.bind (Loc.bound _ _) fun _ => Loc.bind (Loc.bound _ _) fun _ => Loc.ite (Loc.wrT _ _ _) Loc.fail) Loc.fail
 | _ => exact Loc.fail
variable {U : List (Nat × Ent)}{R : List Nat}{u : Unit}
section
variable {C : Ctx} {S : zf} {Fp : Nat → List Nat} {st : St} {a : Act} {w : World}
theorem zbg {P : Program}  (hT : xH P tt) (h : Sim C S Fp [] st a w)  {t : Nat} {x hi mx : Operand} (ho : o.op = .slice t x none (some hi) (some mx))    (e : clO tt C.n o.dst t x hi mx st = some (u, R, U)) : vX P C o a w (ze U st) := by
 unfold clO at e
 have ⟨y, _, hx, e1⟩ := bR (zu h) e
 obtain ⟨z, R3, U3, R4, U4, h3, e2, rfl, rfl⟩ := bind_some e1
 have ⟨Fp', F, g1, g2⟩ := Wb h hx h3
 rw [zr]
 cases z with
 | osl sz tg es =>
  simp only at e2
  split at e2
  ·rename_i hel
   have ⟨hh, _, b2, e3⟩ := bR (YG g1) e2
   have ⟨m, _, b3, e4⟩ := bR (YG g1) e3
   split at e4
   ·rename_i hle
    have ⟨hle1, hle2⟩ := hle
    have ⟨el, he, hsz⟩ := xN hT hel w
    obtain ⟨cs, k1, k2, k3⟩ : ∃ cs, zw S w.heap (.osl sz tg es) cs F ∧ F.Nodup ∧ a.eval x = zI (.osl sz tg es) cs := by
     rcases g2 with ⟨q, _⟩ | q
     ·simp only [yX, wJ, Rep, false_and, exists_false] at q
     ·exact q
    simp only [zw] at k1
    obtain ⟨p, c, rfl, t1, t2, t3, t4, t5⟩ := k1
    have ev : a.eval x = .slice p es.length c := k3
    have b3' : WN ((some mx).map a.eval) c m := by
     rcases b3 with ⟨q, _⟩ | ⟨o, k, j, q, q2, q3, q4⟩
     ·cases q
     ·cases q; exact .inr ⟨k, j, by simp [q2], q3, q4⟩
    have b2' : (Option.isSome ((some hi).map a.eval)) = true := rfl
    have hrun := qa (P := P) (w := w) he hsz (p := p) (len := es.length) (c := c) (lo := none) (.inl ⟨rfl, rfl⟩) (YH b2) b3' (Nat.zero_le _) hle1 (by omega) (fun _ => b2')
    have hp : (if m = 0 then p else p.map (·.add (0 * sz))) = p := by
     split
     ·rfl
     ·cases p <;> simp [Addr.add]
    rw [hp] at hrun
    have hlen : (es.take hh).length = hh := by simp; omega
    have ht4 : ∀ x ∈ es.take hh, x.size = sz := fun x hx => t4 x (List.mem_of_mem_take hx)
    obtain ⟨F2, cs2, m1, m2, m3, m4⟩ : ∃ F2 cs2, zw S w.heap (.osl sz (m == hh) (es.take hh)) cs2 F2 ∧ F2.Nodup ∧ (∀ k ∈ F2, k ∈ F) ∧ zI (.osl sz (m == hh) (es.take hh)) cs2 = .slice p hh m := by
     rcases t5 with ⟨rfl, rfl, rfl, rfl⟩ | ⟨b, arr, ty, l, F', rfl, e1, e2, e3, e4, rfl, e5⟩
     ·have hm0 : m = 0 := by simpa using hle2
      subst hm0
      have : hh = 0 := by omega
      subst this
      refine ⟨[], [.slice none 0 0], ?_, by simp, by simp, rfl⟩
      simp only [zw]
      exact ⟨none, 0, by simp, by simp, by simp, Nat.zero_le _, by simp, .inl (by simp)⟩
     ·have ⟨F3, q1, q2, q3⟩ := QK e4 hh
      have hn := List.nodup_cons.1 k2
      refine ⟨b :: F3, [.slice (some ⟨b, 0, none⟩) hh m], ?_, List.nodup_cons.2 ⟨fun q => hn.1 (q2 b q), q3 hn.2⟩, ?_, rfl⟩
      ·simp only [zw]
       refine ⟨some ⟨b, 0, none⟩, m, by rw [hlen], by intro q; rw [hlen]; simpa using q, by rw [hlen]; omega, by omega, ht4, .inr ⟨b, arr, ty, _, F3, rfl, e1, Nat.le_trans (Nat.mul_le_mul_right _ (by omega)) e2, ?_, q1, rfl, e5⟩⟩
       rw [← e3, List.take_take, A.sizes_const ht4, hlen]
       congr 1
       have := Nat.mul_le_mul_right sz (show hh ≤ es.length by omega)
       omega
      ·intro k hk
       rcases List.mem_cons.1 hk with rfl | hk
       ·simp
       ·simp [q2 k hk]
    have g1' : Sim C S Fp' (F2 ++ []) (ze U3 st) a w := g1.mem g1.below (fun _ _ _ h => h) g1.still.cell g1.sbase (fun t' k hk => ⟨rfl, (g1.free t' k hk).2.1⟩) (by simpa using m2) (fun t' k hk => g1.xd t' k (by simp at hk ⊢; exact m3 k hk)) (fun k hk => g1.xb k (by simp at hk ⊢; exact m3 k hk))
    have ⟨Fp'', hs⟩ := k9 g1' e4 m1 m2
    rw [m4] at hs
    refine zk ?_ hs
    simp only [Nat.sub_zero] at hrun
    simp only [Option.map_some] at hrun
    simp [execOp, ho, ev, hrun]
   ·cases e4
  ·cases e2
 | _ => cases e2
end
def zc6 (d : Nat) (o : Oper) : Option (Nat × Operand × Operand × Operand) := match o.op with | .slice t x none (some hi) (some mx) => if o.dst = some d then some (t, x, hi, mx) else none | _ => none
def xCl (hT : xH P tt) (d : Nat) : XH P :=
 xAt P (zc6 d) (fun n o b => clO tt n o.dst b.1 b.2.1 b.2.2.1 b.2.2.2) (fun n o b => clH tt n o.dst b.1 b.2.1 b.2.2.1 b.2.2.2)
  (by
   intro C S Fp st a w o b hp h u R U e
   unfold zc6 at hp
   split at hp
   ·rename_i ho; cases z21 hp; exact zbg hT h ho e
   ·cases hp)
  (fun n o b => Loc.clO _ _ _ _ _ _ _) (fun n o b => zcx _ _ _ _ _ _ _)
def zcC (d : Nat) (o : Oper) : Option Unit := match o.op with | .call ⟨.value _, _, _⟩ => if o.dst = some d then some () else none | _ => none
def QU (hT : xH P tt) {s : w6} (h : s.Ok P) (d : Nat) : XH P :=
 xAt P (zcC d) (fun n o _ => stepO tt (UI.add s) n o) (fun n o _ => Ki tt (UI.add s) n o)
  (fun C S Fp st a w o b hp hS u R U e => Jh hT (Ctr.add_ok (z0X P) h) hS e)
  (fun n o b => Loc.stepO _ _ _ _) (fun n o b => z0z _ _ _ _)
variable {α : Type}
theorem vlM (f : α → A) (l : List α) (k : Nat) : A.atom (.int .i64 (((l.map f).length - k : Nat) : Int)) = .atom (.int .i64 ((l.length - k : Nat) : Int)) := by rw [List.length_map]
theorem vcM (f : α → A) (l : List α) (k : Nat) (z : α) : (l.map f).take k ++ List.replicate ((l.map f).length - k) (f z) = (l.take k ++ List.replicate (l.length - k) z).map f := by simp
theorem clB (f : α → A) (l : List α) : ((l.length : Nat) : Int).toNat ≤ ((l.length : Nat) : Int).toNat ∧ ((l.length : Nat) : Int).toNat ≤ (l.map f).length := by simp
theorem clE (sz : Nat) (f : α → A) (l : List α) : A.osl sz (((l.length : Nat) : Int).toNat == ((l.length : Nat) : Int).toNat) ((l.map f).take ((l.length : Nat) : Int).toNat) = eOs sz true f l := by
 simp [Int.toNat_natCast, eOs]
 rw [List.take_of_length_le (by simp)]
def z85 : Value → Option Bool
 | .slice none _ _ => some true
 | .slice (some _) _ _ => some false
 | _ => none
variable {st : St}{es : List A}{fs : List Fm}{c : Code}{sz : Nat}
theorem z4r {P : Program} {n : Fr} {c : Code}  {Q : Exit → St → Prop}  (e : fs = []) (k : Nat)  {t : Bool}  (hk : (st k).t = .d (.sl sz t es))
  (h : ∀ v, v.oneCell' = true → (z85 v = some true ∧ es = []) ∨ z85 v = some false → AWP P ⟨n.size, (k, v) :: n.pin⟩ c st (Qf P ⟨n.size, (k, v) :: n.pin⟩ [] Q)) : AWP P n c st (Qf P n fs Q) := by
 subst e
 intro rd m df w0 S0 M S Fp a w hc hs
 have q := hs.ent k
 unfold xh at q
 simp only [hk] at q
 have q1 := q.1
 simp only [yX] at q1
 have ⟨cs, r1, r2⟩ := q1
 simp only [Rep] at r1
 obtain ⟨p, c', rfl, r3, r4, r5, r6⟩ := r1
 have ev : Act.tv a k = .slice p es.length c' := r2
 have hcase : (z85 (Act.tv a k) = some true ∧ es = []) ∨ z85 (Act.tv a k) = some false := by
  rw [ev]
  cases p with
  | none =>
   refine .inl ⟨rfl, ?_⟩
   rcases r6 with r6 | ⟨b, o, l, e, _⟩
   ·exact r6
   ·cases e
  | some p => exact .inr rfl
 refine wpIn_mono (h (Act.tv a k) (by rw [ev]; rfl) hcase rd m df w0 S0 M S Fp a w ⟨hc.nodup, hc.df, hc.rd⟩ (hs.pinned k)) ?_
 rintro e a' w' ⟨df', st1, S1, Fp1, h1, h2, h3⟩
 exact ⟨df', st1, S1, Fp1, h1.unpinned, h2, h3⟩
open Classical in
def nilO (n : Fr) (dst : Option Nat) (v : Value) (b : Bool) (x y : Operand) : SM Unit := do
 let tx ← opnd x
 let ty ← opnd y
 if tx = .d (.atom v) ∧ ty = .d (.atom (.slice none 0 0)) then wrT n dst (.d (.atom (.bool b))) else zm
def zbZ (n : Fr) (dst : Option Nat) (v : Value) (b : Bool) (x y : Operand) : HM Unit := zT (opnd x) >>= fun tx => zT (opnd y) >>= fun ty => j9 (tx = .d (.atom v) ∧ ty = .d (.atom (.slice none 0 0))) (zT (wrT n dst (.d (.atom (.bool b)))))
open Classical in
theorem zaY (n : Fr) (dst : Option Nat) (v : Value) (b : Bool) (x y : Operand) : Snd (nilO n dst v b x y) (zbZ n dst v b x y) := za (zi _) fun _ => za (zi _) fun _ => vA (zi _)
open Classical in
theorem Loc.nilO (n : Fr) (dst : Option Nat) (v : Value) (b : Bool) (x y : Operand) : Loc (nilO n dst v b x y) := by
 unfold Go.Own.nilO
 exact Loc.bind (Loc.opnd _) fun _ => Loc.bind (Loc.opnd _) fun _ => Loc.ite (Loc.wrT _ _ _) Loc.fail
variable {Fp : Nat → List Nat}{v : Value}{S : zf}{w : World}{C : Ctx}{a : Act}{b : Bool}
theorem z9M (hT : xH P tt)       (h : Sim C S Fp [] st a w)  {t yt : Nat}   {x y : Operand} (hty : ua tt t = true) (hv : z85 v = some b) (ho : o.op = .binOp .eql t x y yt)    (e0 : nilO C.n o.dst v b x y st = some (u, R, U)) : vX P C o a w (ze U st) := by
 unfold nilO at e0
 have ⟨tx, _, hx, e1⟩ := bR (zu h) e0
 have ⟨ty, _, hy, e2⟩ := bR (zu h) e1
 split at e2
 ·rename_i hc
  obtain ⟨rfl, rfl⟩ := hc
  have ex := (zo.1 hx).1
  have ey := (zo.1 hy).1
  have ⟨el, hel⟩ := jG hT hty
  have ⟨Fp', hs⟩ := xP h e2 (x := .d (.atom (.bool b))) (zo.2 ⟨rfl, rfl⟩)
  refine zk ?_ hs
  have heq : (Op.equal t v (.slice none 0 0)).run P w = .ok b w := by
   unfold Op.equal Op.maxDepth
   show (Op.equalIn (9999 + 1) t v _).run P w = _
   generalize 9999 = q
   unfold Op.equalIn
   simp [Sem.run_bind, run_underlying hel, Result.andThen_ok]
   cases v with
   | slice p l c => cases p <;> (simp [z85, Option.some.injEq] at hv; subst hv; simp)
   | _ => cases hv
  cases v with
  | slice p l c => simp [execOp, ho, ex, ey, eqGuard, Go.binOp, heq]
  | _ => cases hv
 ·cases e2
def z9X (d t : Nat) (o : Oper) : Option (Operand × Operand) := match o.op with | .binOp .eql t' x y _ => if o.dst = some d then (if t' = t then some (x, y) else none) else none | _ => none
def zap (hT : xH P tt) (d t : Nat)   (hty : ua tt t = true) (hv : z85 v = some b) : XH P :=
 xAt P (z9X d t) (fun n o q => nilO n o.dst v b q.1 q.2) (fun n o q => zbZ n o.dst v b q.1 q.2)
  (by
   intro C S Fp st a w o q hp h u R U e
   unfold z9X at hp
   split at hp
   ·rename_i ho
    replace hp := z21 hp
    split at hp
    ·rename_i ht; subst ht; cases hp; exact z9M hT h hty hv ho e
    ·cases hp
   ·cases hp)
  (fun n o q => Loc.nilO _ _ _ _ _ _) (fun n o q => zaY _ _ _ _ _ _)
open Classical in
def asO (n : Fr) (dst : Option Nat) (v : Value) (x : Operand) : SM Unit := do
 let tx ← opnd x
 if tx = .d (.atom v) then wrT n dst (.d (.atom v)) else zm
def asH (n : Fr) (dst : Option Nat) (v : Value) (x : Operand) : HM Unit := zT (opnd x) >>= fun tx => j9 (tx = .d (.atom v)) (zT (wrT n dst (.d (.atom v))))
open Classical in
theorem zcy (n : Fr) (dst : Option Nat) (v : Value) (x : Operand) : Snd (asO n dst v x) (asH n dst v x) := za (zi _) fun _ => vA (zi _)
open Classical in
theorem Loc.asO (n : Fr) (dst : Option Nat) (v : Value) (x : Operand) : Loc (asO n dst v x) := by
 unfold Go.Own.asO
 exact Loc.bind (Loc.opnd _) fun _ => Loc.ite (Loc.wrT _ _ _) Loc.fail
variable {x : Operand}
theorem zbj (h : Sim C S Fp [] st a w)  {v : Value} {x : Operand} (ho : o.op = .assign x)    (e0 : asO C.n o.dst v x st = some (u, R, U)) : vX P C o a w (ze U st) := by
 unfold asO at e0
 have ⟨tx, _, hx, e1⟩ := bR (zu h) e0
 split at e1
 ·rename_i hc
  subst hc
  have hx' : yX S (.atom v) (a.eval x) := hx
  have ⟨Fp', hs⟩ := xP h e1 (x := .d (.atom v)) (v := a.eval x) hx'
  exact zk (by simp [execOp, ho]) hs
 ·cases e1
def zc8 (d : Nat) (o : Oper) : Option Operand := match o.op with | .assign x => if o.dst = some d then some x else none | _ => none
def xAs (P : Program) (d : Nat) (v : Value) : XH P :=
 xAt P (zc8 d) (fun n o x => asO n o.dst v x) (fun n o x => asH n o.dst v x)
  (by
   intro C S Fp st a w o x hp h u R U e
   unfold zc8 at hp
   split at hp
   ·rename_i ho; cases z21 hp; exact zbj h ho e
   ·cases hp)
  (fun n o x => Loc.asO _ _ _ _) (fun n o x => zcy _ _ _ _)
theorem z4d {p : Option Addr} {n c : Nat} : kz sz (.slice p n c) 0 = .slice p n c := by
 have : (0 : Int).toNat = 0 := rfl
 simp only [kz, this, Nat.sub_zero, Nat.zero_mul]
 congr 1
 split
 ·rfl
 ·cases p <;> simp [Addr.add]
def mwK (n : Fr) (dst : Option Nat) (r sz : Nat) (v : Value) (e : Ent) : SM Unit :=
 match e.t with
 | .own (.osl sz' _ _) => if sz' = sz then wrT n dst (.d (.atom (kz sz v 0))) else zm
 | _ => zm
open Classical in
def mwO (n : Fr) (dst : Option Nat) (r sz : Nat) (v : Value) : SM Unit := if Va n.pin r = some v then (rdE r >>= fun e => mwK n dst r sz v e) else zm
def mwH (n : Fr) (dst : Option Nat) (r sz : Nat) (v : Value) : HM Unit := j9 (Va n.pin r = some v) (zT (rdE r >>= fun e => mwK n dst r sz v e))
open Classical in
theorem Loc.mwO (n : Fr) (dst : Option Nat) (r sz : Nat) (v : Value) : Loc (mwO n dst r sz v) := by
 unfold Go.Own.mwO
 refine Loc.ite (Loc.bind (Loc.rdE _) fun e => ?_) Loc.fail
 unfold Go.Own.mwK
 split
 ·exact Loc.ite (Loc.wrT _ _ _) Loc.fail
 ·exact Loc.fail
theorem zb7 (h : Sim C S Fp [] st a w)  {r sz : Nat} {v : Value} (ho : o.op = .move (.tmp r))    (e0 : mwO C.n o.dst r sz v st = some (u, R, U)) : vX P C o a w (ze U st) := by
 unfold mwO at e0
 split at e0
 ·rename_i hp
  have hs := h.pin r v (uw hp)
  have ⟨_, e4⟩ := bD e0
  unfold mwK at e4
  cases ht : (st r).t with
  | own y =>
   cases y with
   | osl sz' tg es =>
    simp [ht] at e4
    split at e4
    ·rename_i hz
     subst hz
     have ⟨p, c, ev, _, _, _⟩ := Jx h ht
     have hvv : v = .slice p es.length c := by rw [← hs, ev]
     have ⟨Fp', hs'⟩ := xP h e4 (x := .d (.atom (kz sz' v 0))) (v := v) (by rw [hvv, z4d]; exact zo.2 ⟨rfl, rfl⟩)
     refine zk ?_ hs'
     have ex : a.eval (.tmp r) = v := hs
     simp [execOp, ho, ex]
    ·cases e4
   | _ => simp [ht] at e4; cases e4
  | _ => simp [ht] at e4; cases e4
 ·cases e0
open Classical in
theorem zcv (n : Fr) (dst : Option Nat) (r sz : Nat) (v : Value) : Snd (mwO n dst r sz v) (mwH n dst r sz v) := vA (zi _)
def zc3 (d r : Nat) (o : Oper) : Option Unit := match o.op with | .move (.tmp r') => if o.dst = some d then (if r' = r then some () else none) else none | _ => none
def xMw (P : Program) (d r sz : Nat) (v : Value) : XH P :=
 xAt P (zc3 d r) (fun n o _ => mwO n o.dst r sz v) (fun n o _ => mwH n o.dst r sz v)
  (by
   intro C S Fp st a w o q hp h u R U e
   unfold zc3 at hp
   split at hp
   ·rename_i ho
    replace hp := z21 hp
    split at hp
    ·rename_i ht; subst ht; exact zb7 h ho e
    ·cases hp
   ·cases hp)
  (fun n o q => Loc.mwO _ _ _ _ _) (fun n o q => zcv _ _ _ _ _)
def spR (k : Nat) {α ρ : Type} (enc : α → List A) (encR : ρ → A) (F : α → Option ρ) (gives : List Bool) (inj : ∀ x y, enc x = enc y → x = y) : w6 := {
 α := α
 k := k
 raw := true
 gives := gives
 enc := enc
 pre := fun x => ∃ r, F x = some r
 f := fun x => match F x with | some r => encR r | none => .dead 0
 inj := by
  intro x y h _ _
  rw [inj x y h] }
variable {gives : List Bool}{k : Nat}
theorem z6x {α ρ : Type} {enc : α → List A} {encR : ρ → A} {F : α → Option ρ}  {inj : ∀ x y, enc x = enc y → x = y} (h : ∀ x r, F x = some r → ZU P k (enc x) (encR r)) : (spR k enc encR F gives inj).Ok P := by
 rintro x ⟨r, hr⟩
 have := h x r hr
 simpa only [spR, hr] using this
variable {as_ : List A}
theorem zca {k : Nat} {α ρ : Type} {enc : α → List A} {encR : ρ → A} {F : α → Option ρ} {gives : List Bool} {inj : ∀ x y, enc x = enc y → x = y} {x : α} {r : ρ} (hr : F x = some r)  (ha : as_ = enc x) :
  (UI.add (spR k enc encR F gives inj)).run k ((UI.add (spR k enc encR F gives inj)).norm k as_) = some (encR r) := by
 have h := Ctr.add_has UI (spR k enc encR F gives inj)
 have h1 := h.run x ⟨r, hr⟩
 have h2 : (UI.add (spR k enc encR F gives inj)).raw k = true := h.raw
 unfold Ctr.norm
 rw [h2, ha]
 refine Eq.trans h1 ?_
 simp [spR, hr]
theorem z9Z {α ρ : Type} {enc : α → List A} {encR : ρ → A} {F : α → Option ρ}  {inj : ∀ x y, enc x = enc y → x = y} : (UI.add (spR k enc encR F gives inj)).gives k = gives := (Ctr.add_has UI _).gives
variable {h : Array Obj}{F : List Nat}
theorem YZ (hF : ∀ k ∈ F, ∀ o, S k o = none) : ∀ b o u, S b o = some u → zY S h F b o = some u := by
 intro b o u hs
 unfold zY
 rw [if_neg (fun q => by rw [hF b q o] at hs; cases hs)]
 exact hs
theorem Sim.sealX (h : Sim C S Fp (F ++ []) st a w) (hF : ∀ k ∈ F, ∀ o, S k o = none) : Sim C (zY S w.heap F) Fp [] st a w := by
 refine h.mem h.below (YZ hF) ?_ ?_ ?_ (by simp) (by simp) (by simp)
 ·intro b o v q
  unfold zY at q
  split at q
  ·exact q
  ·exact h.still b o v q
 ·intro b o hb
  unfold zY
  rw [if_neg (fun q => hb (h.xb b (by simpa using q)))]
  exact h.sbase b o hb
 ·intro t k hk
  refine ⟨rfl, fun o => ?_⟩
  unfold zY
  rw [if_neg (fun q => h.xd t k (by simpa using q) hk)]
  exact (h.free t k hk).2.1 o
mutual
theorem A.live_isD : ∀ {a : A}, a.isD = true → a.live = true
 | .atom _, _ => rfl
 | .fn _ _, _ => rfl
 | .agg fs, h => by simp [A.isD] at h; simp [A.live]; exact A.lives_areD h
 | .sl _ _ _, _ => rfl
 | .sptr _, _ => rfl
 | .dop _, _ => rfl
 | .tup _, h => by simp [A.isD] at h
 | .osl _ _ _, h => by simp [A.isD] at h
 | .box _, h => by simp [A.isD] at h
 | .dead _, h => by simp [A.isD] at h
 | .opq _, h => by simp [A.isD] at h
theorem A.lives_areD : ∀ {as_ : List A}, A.areD as_ = true → A.lives as_ = true
 | [], _ => rfl
 | a :: as_, h => by
  simp [A.areD, Bool.and_eq_true] at h
  simp [A.lives, A.live_isD h.1, A.lives_areD h.2, Bool.and_self]
end
theorem A.areD_app : ∀ {as_ bs : List A}, A.areD as_ = true → A.areD bs = true → A.areD (as_ ++ bs) = true
 | [], _, _, h => h
 | a :: as_, bs, h1, h2 => by
  simp [A.areD, Bool.and_eq_true] at h1
  simp [List.cons_append, A.areD, Bool.and_eq_true]
  exact ⟨h1.1, A.areD_app h1.2 h2⟩
def zbk (tt : TT) (t sz : Nat) : Bool :=
 match tt t with
 | some ⟨.slice e, _, _, _, _⟩ => match tt e with | some i => sz == i.size && decide (i.bytes ≤ 4096) && decide (0 < i.size) && i.zero.isSome | none => false
 | _ => false
def apO (tt : TT) (n : Fr) (dst : Option Nat) (t : Nat) (s x : Operand) : SM Unit := do
 let ts ← opnd s
 let tx ← opnd x
 match ts, tx with
 | .d (.sl sz tg es), .d (.sl sz2 _ ys) => if zbk tt t sz = true ∧ sz2 = sz ∧ tg = true ∧ es.length + ys.length ≤ lim ∧ A.areD es = true ∧ A.areD ys = true then wrT n dst (.d (.sl sz false (es ++ ys))) else zm
 | _, _ => zm
def apH (tt : TT) (n : Fr) (dst : Option Nat) (t : Nat) (s x : Operand) : HM Unit := zT (opnd s) >>= fun ts => zT (opnd x) >>= fun tx =>
 match ts, tx with
 | .d (.sl sz tg es), .d (.sl sz2 _ ys) => if zbk tt t sz = true ∧ sz2 = sz ∧ tg = true then j9 (es.length + ys.length ≤ lim ∧ A.areD es = true ∧ A.areD ys = true) (eqL (es ++ ys) >>= fun zs => zT (wrT n dst (.d (.sl sz false zs)))) else zx
 | _, _ => zx
theorem zcz (tt : TT) (n : Fr) (dst : Option Nat) (t : Nat) (s x : Operand) : Snd (apO tt n dst t s x) (apH tt n dst t s x) := by
 refine za (zi _) fun ts => za (zi _) fun tx => ?_
 split
 ·refine V8 (fun h1 h2 => ⟨h1.1, h1.2.1, h1.2.2, h2.1, h2.2.1, h2.2.2⟩) ?_
  exact YW (zM _ fun zs => wrT n dst (.d (.sl _ false zs))).symm (za (z2m _) fun _ => zi _)
 ·exact zl _
theorem Loc.apO (tt : TT) (n : Fr) (dst : Option Nat) (t : Nat) (s x : Operand) : Loc (apO tt n dst t s x) := by
 unfold Go.Own.apO
 refine Loc.bind (Loc.opnd _) fun _ => Loc.bind (Loc.opnd _) fun _ => ?_
 split
 ·exact Loc.ite (Loc.wrT _ _ _) Loc.fail
 ·exact Loc.fail
theorem zbl (hT : xH P tt)       (h : Sim C S Fp [] st a w)  {t : Nat} {s x : Operand} (ho : o.op = .call { callee := .builtin .append, args := #[s, x], argTypes := #[t, t] })    (e0 : apO tt C.n o.dst t s x st = some (u, R, U)) : vX P C o a w (ze U st) := by
 unfold apO at e0
 have ⟨ts, _, hs, e1⟩ := bR (zu h) e0
 have ⟨tx, _, hx, e2⟩ := bR (zu h) e1
 split at e2
 ·rename_i sz tg es sz2 tg2 ys
  split at e2
  ·rename_i hc
   obtain ⟨c1, rfl, rfl, c4, c5, c6⟩ := hc
   obtain ⟨el, i, hel, hi, hsz, c3, cz, c7⟩ : ∃ el i, P.underlying t = some (.slice el) ∧ tt el = some i ∧ sz2 = i.size ∧ i.bytes ≤ 4096 ∧ 0 < i.size ∧ i.zero.isSome = true := by
    unfold zbk at c1
    split at c1
    ·rename_i e _ _ _ _ ht
     split at c1
     ·rename_i i hi
      simp only [Bool.and_eq_true, beq_iff_eq, decide_eq_true_eq] at c1
      exact ⟨e, i, (hT _ _ ht).kind, hi, c1.1.1.1, c1.1.1.2, c1.1.2, c1.2⟩
     ·cases c1
    ·cases c1
   have ⟨f, f1, f2, f3, f4⟩ := (hT _ _ hi).info
   have ⟨z0, hz0⟩ := Option.isSome_iff_exists.1 c7
   have ⟨zv, v1, v2, v3⟩ := f4 z0 hz0
   have hzs : zv.cells.size = f.size := by
    have := (v3 (fun _ _ => none) #[]).len
    rw [v2, ← f2] at this
    simpa using this
   have hs' : yX S (.sl sz2 true es) (a.eval s) := hs
   have hx' : yX S (.sl sz2 tg2 ys) (a.eval x) := hx
   have ⟨p, d, news, ev, r1, r2, r3⟩ := XC (y := .sl sz2 tg2 ys) h (.inl ⟨tg2, rfl⟩) c6 (.inl hx')
   have fin : ∀ v w', (Builtin.append_ #[t, t] o.type #[a.eval s, a.eval x]).run P w = .ok v w' → (execOp a.eval o).run P w = .ok (.value v) w' := by
    intro v w' hrun
    simp [execOp, ho, resolve, invoke, builtin, hrun]
   simp only [yX] at hs'
   have ⟨cs, q1, q2⟩ := hs'
   simp only [Rep] at q1
   obtain ⟨pp, c, rfl, t1, t2, t3, t4⟩ := q1
   have hcl := t1 trivial
   subst hcl
   have es1 : a.eval s = .slice pp es.length es.length := q2
   by_cases hne : ys = []
   ·subst hne
    have ⟨Fp', hs2⟩ := xP h e2 (x := .d (.sl sz2 false (es ++ []))) (v := .slice pp es.length es.length) (by
     simp only [TOk, yX, List.append_nil]
     refine ⟨[.slice pp es.length es.length], ?_, rfl⟩
     simp only [Rep]
     exact ⟨pp, _, rfl, by simp, Nat.le_refl _, t3, t4⟩)
    refine zk (fin _ _ ?_) hs2
    rw [es1, ev]
    exact jD hel f1 pp p es.length es.length d (Nat.le_refl _) w
   ·have hpos : 0 < ys.length := List.length_pos_iff.2 hne
    rcases r3 with ⟨hy, _⟩ | ⟨ad, rfl, hnews⟩
    ·exact absurd hy hne
    subst hsz
    rw [← f2] at t3 r2 e2
    have hold : ∃ olds, y5 S es olds ∧ ((pp = none ∧ es = [] ∧ es.length = 0) ∨ ∃ b, pp = some b ∧ ∀ j v, olds[j]? = some v → w.cell? (b.add j) = some v) := by
     rcases t4 with rfl | ⟨b, o', l, rfl, k1, k2⟩
     ·cases pp with
      | none => exact ⟨[], by simp [y5], .inl ⟨rfl, rfl, rfl⟩⟩
      | some b => exact ⟨[], by simp [y5], .inr ⟨b, rfl, by simp⟩⟩
     ·exact ⟨l, k1, .inr ⟨_, rfl, Ud h k2⟩⟩
    have ⟨olds, n1, n2⟩ := hold
    have h' : Sim C S Fp ([] ++ []) st a w := by simpa using h
    obtain ⟨v, w', hrun, F', m1, m2, cs', m3, rfl⟩ := qr (ty := o.type) hel f1 v1 hzs h' (n1.concs w.heap) (by simp) (r1.concs w.heap) t3 r2 n2 (d := d) hnews (by omega) c4 (by omega) hpos
    have hF : ∀ k ∈ F', ∀ o, S k o = none := fun k hk => (m3.own k hk).2.1
    have hs3 := m1.sealX hF
    have hD : A.areD (es ++ ys) = true := A.areD_app c5 c6
    have hrep := m3.shut (YZ hF) (by simp only [A.live]; exact A.lives_areD hD) (fun k hk o => by unfold zY; rw [if_pos hk])
    simp only [A.shut] at hrep
    rw [A.shuts_areD hD] at hrep
    have ⟨Fp'', hs'⟩ := xP hs3 e2 (x := .d (.sl f.size false (es ++ ys))) (v := zI (.osl f.size false (es ++ ys)) cs') (by
     simp only [TOk, yX]
     exact ⟨cs', hrep, rfl⟩)
    exact zk (fin _ _ (by rw [es1, ev]; exact hrun)) hs'
  ·cases e2
 ·cases e2
def zay (d : Nat) (o : Oper) : Option (Nat × Operand × Operand) := match o.op with | .call ⟨.builtin .append, ⟨[s, x]⟩, ⟨[t, t']⟩⟩ => if o.dst = some d then (if t' = t then some (t, s, x) else none) else none | _ => none
def xAp (hT : xH P tt) (d : Nat) : XH P :=
 xAt P (zay d) (fun n o q => apO tt n o.dst q.1 q.2.1 q.2.2) (fun n o q => apH tt n o.dst q.1 q.2.1 q.2.2)
  (by
   intro C S Fp st a w o q hp h u R U e
   unfold zay at hp
   split at hp
   ·rename_i ho
    replace hp := z21 hp
    split at hp
    ·rename_i ht; subst ht; cases hp; exact zbl hT h ho e
    ·cases hp
   ·cases hp)
  (fun n o q => Loc.apO _ _ _ _ _ _) (fun n o q => zcz _ _ _ _ _ _)
theorem apM (f : α → A) [z2G f] {l m : List α} (h : l.length + m.length ≤ 4294967296) : (l.map f).length + (m.map f).length ≤ lim ∧ A.areD (l.map f) = true ∧ A.areD (m.map f) = true := ⟨by simpa [lim] using h, dM f l, dM f m⟩
def X2 (x : List UInt8) : A := .atom (.string ⟨x.toArray⟩)
def u8s (l : List Int) : List UInt8 := l.map fun n => UInt8.ofNat n.toNat
def ZT : List A → Option (List Int)
 | [] => some []
 | .atom (.int .u8 n) :: as_ => (ZT as_).map (n :: ·)
 | _ => none
theorem QM : ∀ l : List Int, ZT (l.map (eI .u8)) = some l
 | [] => rfl
 | n :: l => by simp [List.map_cons, eI, ZT]; rw [show l.map (eI .u8) = l.map (eI .u8) from rfl]; simp [QM l]
theorem UL : ∀ {as_ : List A} {ns : List Int} {cs : List Value}, ZT as_ = some ns → y5 S as_ cs → cs = ns.map (Value.int .u8) ∧ as_.length = ns.length
 | [], ns, cs, h, r => by simp [ZT, Option.some.injEq] at h; subst h; simp [y5] at r; subst r; exact ⟨rfl, rfl⟩
 | a :: as_, ns, cs, h, r => by
  unfold ZT at h
  split at h
  ·cases ‹_ = []›
  ·rename_i n as' e
   cases e
   obtain ⟨ms, h1, rfl⟩ := Option.map_eq_some_iff.1 h
   simp [y5] at r
   obtain ⟨c1, c2, rfl, r1, r2⟩ := r
   simp [Rep] at r1
   have ⟨q1, q2⟩ := UL h1 r2
   obtain ⟨rfl, _⟩ := r1
   subst q1
   exact ⟨rfl, by simp [q2]⟩
  ·cases h
theorem z2b : ∀ {as_ : List A} {ns : List Int}, ZT as_ = some ns → A.areD as_ = true
 | [], _, _ => rfl
 | a :: as_, ns, h => by
  unfold ZT at h
  split at h
  ·cases ‹_ = []›
  ·rename_i n as' e
   cases e
   obtain ⟨ms, h1, rfl⟩ := Option.map_eq_some_iff.1 h
   simp [A.areD, A.isD, z2b h1, Bool.and_self]
  ·cases h
theorem Qv : ∀ (ns : List Int) (s : List UInt8), ns.foldl (fun r n => r.push (UInt8.ofNat n.toNat)) (⟨s.toArray⟩ : ByteArray) = ⟨(s ++ u8s ns).toArray⟩
 | [], s => by simp [u8s]
 | n :: ns, s => by
  rw [List.foldl_cons]
  have : (⟨s.toArray⟩ : ByteArray).push (UInt8.ofNat n.toNat) = ⟨(s ++ [UInt8.ofNat n.toNat]).toArray⟩ := by simp [ByteArray.push]
  rw [this, Qv ns]
  simp [u8s]
def zaF (P : Program) (s d : Nat) : Prop := ∃ e, P.underlying s = some (.slice e) ∧ P.underlying e = some (.int .u8) ∧ P.underlying d = some .string
theorem z7z {s d e : Nat} (h1 : P.underlying s = some (.slice e)) (h2 : P.underlying e = some (.int .u8)) (h3 : P.underlying d = some .string) : zaF P s d := ⟨e, h1, h2, h3⟩
def strO (n : Fr) (dst : Option Nat) (x : Operand) : SM Unit := do
 let tx ← opnd x
 let y ← peek tx
 match y with
 | .sl _ _ ys | .osl _ _ ys => ofO ((ZT ys).map fun ns => X2 (u8s ns)) >>= fun r => wrT n dst (.d r)
 | _ => zm
def zbS (n : Fr) (dst : Option Nat) (x : Operand) : HM Unit := zT (opnd x) >>= fun tx => Jt tx >>= fun y =>
 match y with
 | .sl _ _ ys | .osl _ _ ys => z2E ((ZT ys).map fun ns => X2 (u8s ns)) >>= fun r => zT (wrT n dst (.d r))
 | _ => zx
theorem zaS (n : Fr) (dst : Option Nat) (x : Operand) : Snd (strO n dst x) (zbS n dst x) := by
 refine za (zi _) fun tx => za (WQ _) fun y => ?_
 cases y with
 | sl sz t ys => exact za (WR _) fun _ => zi _
 | osl sz t ys => exact za (WR _) fun _ => zi _
 | _ => exact zl _
theorem Loc.strO (n : Fr) (dst : Option Nat) (x : Operand) : Loc (strO n dst x) := by
 unfold Go.Own.strO
 refine Loc.bind (Loc.opnd _) fun _ => Loc.bind (Loc.peek _) fun _ => ?_
 split
 ·exact Loc.bind (Loc.ofO _) fun _ => Loc.wrT _ _ _
 ·exact Loc.bind (Loc.ofO _) fun _ => Loc.wrT _ _ _
 ·exact Loc.fail
variable {s t : Nat}
theorem z9k {P : Program}       (h : Sim C S Fp [] st a w)   {x : Operand} (hs : zaF P s t) (ho : o.op = .convert s t x)    (e0 : strO C.n o.dst x st = some (u, R, U)) : vX P C o a w (ze U st) := by
 unfold strO at e0
 obtain ⟨tx, R1, U1, R2, U2, h1, e1, rfl, rfl⟩ := bind_some e0
 obtain ⟨rfl, hx⟩ := zu h h1
 obtain ⟨y, R3, U3, R4, U4, h3, e2, rfl, rfl⟩ := bind_some e1
 obtain ⟨rfl, q⟩ := Yi h hx h3
 simp [ze, List.nil_append] at e2 ⊢
 have ⟨el, k1, k2, k3⟩ := hs
 have main : ∀ (sz : Nat) (ys : List A), ((∃ tg, y = .sl sz tg ys) ∨ ∃ tg, y = .osl sz tg ys) → (ofO ((ZT ys).map fun ns => X2 (u8s ns)) >>= fun r => wrT C.n o.dst (.d r)) st = some (u, R4, U4) → vX P C o a w (ze U4 st) := by
  intro sz ys hy e3
  obtain ⟨r, R5, U5, R6, U6, h5, e4, rfl, rfl⟩ := bind_some e3
  obtain ⟨hm, rfl, rfl⟩ := Zt h5
  simp [ze, List.nil_append] at e4 ⊢
  obtain ⟨ns, hn, rfl⟩ := Option.map_eq_some_iff.1 hm
  have ⟨p, d, news, ev, r1, r2, r3⟩ := XC h hy (z2b hn) q
  obtain ⟨rfl, hl⟩ := UL hn r1
  have ⟨Fp', hs'⟩ := xP h e4 (x := .d (X2 (u8s ns))) (v := .string ⟨(u8s ns).toArray⟩) (zo.2 ⟨rfl, rfl⟩)
  refine zk ?_ hs'
  have hrun : (convert s t (a.eval x)).run P w = .ok (.string ⟨(u8s ns).toArray⟩) w := by
   rw [ev, run_convert_bytes_string w s t el p ys.length d k1 k2 k3]
   rcases r3 with ⟨rfl, hnil⟩ | ⟨ad, rfl, hc⟩
   ·have : ns = [] := by simpa using hnil
    subst this
    cases p with
    | none => rfl
    | some ad =>
     rw [run_bytesToString w ad _ d [] (by simpa using run_loadCells_list w ad [] (by simp))]
     rfl
   ·have hlc := run_loadCells_list (P := P) w ad _ hc
    rw [List.length_map, ← hl] at hlc
    rw [run_bytesToString w ad _ d ns hlc]
    have := Qv ns []
    simp [List.nil_append] at this
    exact congrArg (fun z => Result.ok (Value.string z) w) this
  simp [execOp, ho, hrun]
 cases y with
 | sl sz tg ys => exact main sz ys (.inl ⟨tg, rfl⟩) e2
 | osl sz tg ys => exact main sz ys (.inr ⟨tg, rfl⟩) e2
 | _ => cases e2
def z9W (s t : Nat) (o : Oper) : Option Operand := match o.op with | .convert s' t' x => if s' = s ∧ t' = t then some x else none | _ => none
def zcj (P : Program)  (hs : zaF P s t) : XH P :=
 xAt P (z9W s t) (fun n o x => strO n o.dst x) (fun n o x => zbS n o.dst x)
  (by
   intro C S Fp st a w o x hp h u R U e
   unfold z9W at hp
   split at hp
   ·rename_i ho
    split at hp
    ·rename_i ht; obtain ⟨rfl, rfl⟩ := ht; cases hp; exact z9k h hs ho e
    ·cases hp
   ·cases hp)
  (fun n o x => Loc.strO _ _ _) (fun n o x => zaS _ _ _)
theorem stM (l : List Int) : ((ZT (l.map (eI .u8))).map fun ns => X2 (u8s ns)) = some (X2 (u8s l)) := by rw [QM]; rfl
def Jz : A → Bool
 | .atom (.string _) => true
 | _ => false
theorem kN {a : A} (h : Jz a = true) : ∃ x, a = .atom (.string x) := by
 unfold Jz at h
 split at h
 ·exact ⟨_, rfl⟩
 ·cases h
instance : zcf (K := List UInt8) X2 := ⟨fun x y => by
 simp only [X2, Uv, z1O, Option.map_some, Option.some.injEq, zI, List.headD_cons, Value.string.injEq, ByteArray.mk.injEq, beq_iff_eq]
 constructor
 ·intro h; simpa using congrArg Array.toList h
 ·rintro rfl; rfl⟩
theorem z4q (x y : ByteArray) : (x == y) = true ↔ x = y := by
 cases x; cases y
 rw [ByteArray.mk.injEq]
 rename_i a b
 show (a == b) = true ↔ a = b
 exact beq_iff_eq
theorem z5D {t kt et : Nat} {z : A} (hu : P.underlying t = some (.map kt et)) (hk : P.underlying kt = some .string) (hz : ∃ zv, (∀ w, (zeroValue et).run P w = .ok zv w) ∧ ∀ S, wJ S z zv) (zd : z.isD = true) : z8G P t kt et Jz z := {
 und := hu
 zero := hz
 zd := zd
 key := fun a h => by obtain ⟨x, rfl⟩ := kN h; exact ⟨_, rfl⟩
 check := fun a kv e w h hv => by
  obtain ⟨x, rfl⟩ := kN h
  cases hv
  show (Instr.checkKey e (9999 + 1) kt _).run P w = _
  generalize 9999 = q
  unfold Instr.checkKey
  simp only [Sem.run_bind, run_underlying hk, Result.andThen_ok]
  simp
 bits := fun a kv h hv => by
  obtain ⟨x, rfl⟩ := kN h
  cases hv
  simp [zI, Instr.sameBits, (z4q x x).2 rfl]
 find := fun a kv h hv ents es hes hall w => by
  obtain ⟨x, rfl⟩ := kN h
  cases hv
  have gen : ∀ (ents : List MapEntry) (es : List (A × A)) (i : Nat), (∀ p ∈ es, Jz p.1 = true) → je (fun p (e : MapEntry) => Uv p.1 = some e.key) es ents → Instr.findNow .string (.string x) ents i = some (UE (.string x) ents i) := by
   intro ents
   induction ents with
   | nil => intro es i _ _; rfl
   | cons e ents ih =>
    intro es i h1 h2
    cases es with
    | nil => exact h2.elim
    | cons p es =>
     have ⟨y, hy⟩ := kN (h1 p (by simp))
     have hk2 : e.key = .string y := by
      have : Uv p.1 = some e.key := h2.1
      rw [hy] at this
      simp only [Uv, z1O, Option.map_some, Option.some.injEq, zI, List.headD_cons] at this
      exact this.symm
     simp only [Instr.findNow, UE, hk2, Instr.sameNow, Value.string.injEq]
     by_cases hxy : x = y
     ·subst hxy; rw [(z4q x x).2 rfl]; simp
     ·rw [if_neg (Ne.symm hxy), show (x == y) = false by cases hb : x == y with | false => rfl | true => exact absurd ((z4q x y).1 hb) hxy]
      exact ih es (i + 1) (fun p hp => h1 p (by simp [hp])) h2.2
  simp only [Instr.findKey, Sem.run_bind, run_underlying hk, Result.andThen_ok, zI, List.headD_cons, gen ents es 0 hes hall, Sem.run_pure] }
mutual
def A.indep : A → Bool
 | .atom _ => true
 | .fn _ caps => A.indeps caps
 | .agg fs => A.indeps fs
 | .osl _ _ es => A.indeps es
 | .box x => x.indep
 | .dead _ => true
 | .sl _ _ xs => xs.isEmpty
 | _ => false
def A.indeps : List A → Bool
 | [] => true
 | a :: as_ => a.indep && A.indeps as_
end
mutual
theorem Rep.indep {S S' : zf} : ∀ {a : A} {cs : List Value}, a.indep = true → Rep S a cs → Rep S' a cs
 | .atom _, _, _, r => by simpa only [Rep] using r
 | .fn _ caps, _, h, r => by
  simp only [A.indep] at h
  simp only [Rep] at r ⊢
  obtain ⟨vs, h1, h2, h3⟩ := r
  exact ⟨vs, y5.indep h h1, h2, h3⟩
 | .agg fs, _, h, r => by simp only [A.indep] at h; simp only [Rep] at r ⊢; exact y5.indep h r
 | .sl _ _ xs, _, h, r => by
  simp only [A.indep, List.isEmpty_iff] at h
  subst h
  simp only [Rep] at r ⊢
  obtain ⟨p, c, h1, h2, h3, h4, _⟩ := r
  exact ⟨p, c, h1, h2, h3, h4, .inl trivial⟩
 | .sptr _, _, h, _ => by simp [A.indep] at h
 | .dop _, _, h, _ => by simp [A.indep] at h
 | .tup _, _, _, r => by simp only [Rep] at r
 | .osl _ _ _, _, _, r => by simp only [Rep] at r
 | .box _, _, _, r => by simp only [Rep] at r
 | .dead _, _, _, r => by simp only [Rep] at r
 | .opq _, _, _, r => by simp only [Rep] at r
theorem y5.indep {S S' : zf} : ∀ {as_ : List A} {cs : List Value}, A.indeps as_ = true → y5 S as_ cs → y5 S' as_ cs
 | [], _, _, r => by simpa only [y5] using r
 | a :: as_, _, h, r => by
  simp only [A.indeps, Bool.and_eq_true] at h
  simp only [y5] at r ⊢
  obtain ⟨c1, c2, e, r1, r2⟩ := r
  exact ⟨c1, c2, e, Rep.indep h.1 r1, y5.indep h.2 r2⟩
end
mutual
theorem zw.indep {S S' : zf}  : ∀ {a : A} {cs : List Value} {F : List Nat}, a.indep = true → zw S h a cs F → (∀ k ∈ F, ∀ o, S' k o = none) → zw S' h a cs F
 | .osl sz t es, _, _, hi, r, hF => by
  simp only [A.indep] at hi
  simp only [zw] at r ⊢
  obtain ⟨p, c, e, h1, h2, h3, h4, h5⟩ := r
  refine ⟨p, c, e, h1, h2, h3, h4, ?_⟩
  rcases h5 with h5 | ⟨b, arr, ty, l, F', e1, e2, e3, e4, e5, rfl, e7⟩
  ·exact .inl h5
  ·exact .inr ⟨b, arr, ty, l, F', e1, e2, e3, e4, zz.indep hi e5 (fun k hk => hF k (by simp [hk])), rfl, hF b (by simp)⟩
 | .box x, _, _, hi, r, hF => by
  simp only [A.indep] at hi
  simp only [zw] at r ⊢
  obtain ⟨b, ty, l, F', e, e1, e2, rfl, e4⟩ := r
  exact ⟨b, ty, l, F', e, e1, zw.indep hi e2 (fun k hk => hF k (by simp [hk])), rfl, hF b (by simp)⟩
 | .agg fs, _, _, hi, r, hF => by simp only [A.indep] at hi; simp only [zw] at r ⊢; exact zz.indep hi r hF
 | .dead _, _, _, _, r, _ => by simpa only [zw] using r
 | .opq _, _, _, hi, _, _ => by simp [A.indep] at hi
 | .atom _, _, _, hi, r, _ => by simp only [zw] at r ⊢; exact ⟨Rep.indep hi r.1, r.2⟩
 | .fn _ _, _, _, hi, r, _ => by simp only [zw] at r ⊢; exact ⟨Rep.indep hi r.1, r.2⟩
 | .sl _ _ _, _, _, hi, r, _ => by simp only [zw] at r ⊢; exact ⟨Rep.indep hi r.1, r.2⟩
 | .sptr _, _, _, hi, _, _ => by simp [A.indep] at hi
 | .dop _, _, _, hi, _, _ => by simp [A.indep] at hi
 | .tup _, _, _, _, r, _ => by simp only [zw] at r
theorem zz.indep {S S' : zf}  : ∀ {as_ : List A} {cs : List Value} {F : List Nat}, A.indeps as_ = true → zz S h as_ cs F → (∀ k ∈ F, ∀ o, S' k o = none) → zz S' h as_ cs F
 | [], _, _, _, r, _ => by simpa only [zz] using r
 | a :: as_, _, _, hi, r, hF => by
  simp only [A.indeps, Bool.and_eq_true] at hi
  simp only [zz] at r ⊢
  obtain ⟨c1, c2, F1, F2, e1, rfl, r1, r2⟩ := r
  exact ⟨c1, c2, F1, F2, e1, rfl, zw.indep hi.1 r1 (fun k hk => hF k (by simp [hk])), zz.indep hi.2 r2 (fun k hk => hF k (by simp [hk]))⟩
end
theorem yX.indep {S S' : zf} {a : A}  (h : a.indep = true) (q : yX S a v) : yX S' a v := by
 cases a <;> first
  | (simp [A.indep] at h; done)
  | (simp only [yX, wJ] at q ⊢; obtain ⟨cs, q1, q2⟩ := q; exact ⟨cs, Rep.indep h q1, q2⟩)
section
variable {α : Type}
instance SzA.opS {β : Type} (s s' : Nat) (b b' : Bool) (f : α → A) (g : β → A) (l : List α) (l' : List β) : SzA (eOs s b f l) (eOs s' b' g l') := ⟨rfl⟩
end
abbrev HO := List H × List Ob
def hoH (l : List HO) : List H := List.rec [] (fun x _ r => x.1 ++ r) l
def hoO (l : List HO) : List Prop := List.rec [] (fun x _ r => x.2.map Ob.p ++ r) l
def hoB (l : List HO) : List Ob := List.rec [] (fun x _ r => x.2 ++ r) l
theorem WX (l : List HO) : hoO l = (hoB l).map Ob.p := by
 induction l with
 | nil => rfl
 | cons x l ih =>
  show x.2.map Ob.p ++ hoO l = (x.2 ++ hoB l).map Ob.p
  rw [List.map_append, ih]
def Hq {t b : Bool} (h : t = b) : HO := ([.b b], [ob h])
abbrev qT : HO := Hq (Eq.refl true)
abbrev qF : HO := Hq (Eq.refl false)
def Ha {x y : A} (h : x = y) : HO := ([.a y], [ob h])
def Hs {x : Option A} {y : A} (h : x = some y) : HO := ([.a y], [ob h])
def Hl {x y : List A} (h : x = y) : HO := ([.l y], [ob h])
variable {p : Prop}
def Hm {x y : List A} (h : p ∧ x = y) : HO := ([.l y], [ob h])
def Hx (a : H)  (h : p) : HO := ([a], [ob h])
def Hn (h : p) : HO := ([], [ob h])
def Hh (a : H) : HO := ([a], [])
def Hi (f : α → A) {l : List α} {i : Int} {u : α} (h : idx l i = some u) : HO := ([.a (f u)], [ob (i0 h), ob (iM f h)])
def Hc {c : Ctr}  {α ρ : Type} {enc : α → List A} {encR : ρ → A} {F : α → Option ρ}  {inj : ∀ x y, enc x = enc y → x = y} (h : c.Has (spF k enc encR F gives inj)) {x : α} {r : ρ} (hr : F x = some r)  (ha : as_.map A.loose = enc x) : HO :=
 ([.g gives, .a (encR r)], [ob (z01 h), ob (z02 h hr ha)])
def Hg {c : Ctr}   (h : c.gives k = gives) : HO := ([.g gives], [ob h])
def Xg (l : List (Nat × T)) : List Nat := l.map (·.1)
variable {rs : List (Nat × Option Nat)}{ls : List A}{keep : Bool}
section
variable {P : Program} {tt : TT} {ctr : Ctr} {n : Fr} {Q : Exit → St → Prop}
theorem yE6 (X : XH P) (hT : xH P tt) (hC : zA P ctr) (hm : P.follows .mixedOrders = true) {E : St → Prop} {r : A}   (hE : ∀ st x R U, z3l tt keep rs st = some (x, R, U) → LeV x r → E st) {c : Code} {fs : List Fm} {st : St} (L : List HO)
  (e : z8P X tt ctr n keep rs 4000 c fs st (hoH L) = some (r, hoO L)) : AWP P n c st (Qf P n fs (z4L E)) :=
 z6X X hT hC hm hE 4000 (hoB L) (by rw [← WX]; exact e) (LeV.refl _)
theorem zcg (X : XH P) (hT : xH P tt) (hC : zA P ctr) (hm : P.follows .mixedOrders = true) {E : St → Prop} {r : A}   (hE : ∀ st x R U, z3l tt keep rs st = some (x, R, U) → LeV x r → E st) {c : Code} {fs : List Fm} {st : St} (L : List HO) (x : A) (hle : LeV x r)
  (e : z8P X tt ctr n keep rs 4000 c fs st (hoH L) = some (x, hoO L)) : AWP P n c st (Qf P n fs (z4L E)) :=
 z6X X hT hC hm hE 4000 (hoB L) (by rw [← WX]; exact e) hle
theorem yB6 (X : XH P) (hT : xH P tt) (hC : zA P ctr) (hm : P.follows .mixedOrders = true) {τ : Type} {J : St → Prop} {live : List Nat} {S : τ → List (Nat × T)} {Inv : τ → Prop} (hJ : ∀ st' l' z, Inv z → canon live st' = ofL l' → LeL l' (S z) → J st') (z : τ) (hz : Inv z) {c : Code} {fs : List Fm} {st : St} (L : List HO)
  (e : K3 X tt ctr n live 4000 c fs st (hoH L) = some (.back J, ofL (S z), hoO L)) : AWP P n c st (Qf P n fs Q) :=
 z8A X hT hC hm live 4000 (hoH L) J (S z) (hoB L) (by rw [← WX]; exact e) fun st0 h0 => hJ st0 _ z hz h0 (LeL.refl _)
theorem yA6 (X : XH P) (hT : xH P tt) (hC : zA P ctr) (hm : P.follows .mixedOrders = true) {c : Code} {fs : List Fm} {st : St} (bd : Code) (path : List Nat) (Js : List (St → Prop)) (l : List (Nat × T)) (L : List HO)
  (e : K3 X tt ctr n (Xg l) 4000 c fs st (hoH L) = some (.at (sub path bd) (frs path Js bd []), ofL l, hoO L)) (h : AWP P n (sub path bd) (ofL l) (Qf P n (frs path Js bd []) Q)) : AWP P n c st (Qf P n fs Q) :=
 z6l X hT hC hm (Xg l) 4000 (hoH L) _ _ l (hoB L) (by rw [← WX]; exact e) fun st0 h0 => z6h h0 h
theorem yL6 (X : XH P) (hT : xH P tt) (hC : zA P ctr) (hm : P.follows .mixedOrders = true) {c : Code} {fs : List Fm} {st : St} (bd : Code) (path : List Nat) (Js : List (St → Prop)) {σ τ : Type} (f : σ → Option (LR σ τ)) (S : σ → List (Nat × T)) (x0 : σ) {t : τ} (ht : loop f x0 = some t) (l : List (Nat × T)) (hl : LeL l (S x0)) (L : List HO)
  (hk : ∀ x, Xg (S x) = Xg l)
  (e : K3 X tt ctr n (Xg l) 4000 c fs st (hoH L) = some (.at (sub path bd) (frs path Js bd []), ofL l, hoO L))
  (e2 : sub path bd = .loop (sub (path ++ [0]) bd))
  (round : ∀ x m lr, f x = some lr → zaG f m t lr → ∀ J : St → Prop, (∀ st' l' x', YP f m x' = some t → canon (Xg l) st' = ofL l' → LeL l' (S x') → J st') → AWP P n (sub (path ++ [0]) bd) (ofL (S x)) (Qf P n (.pre J :: frs path Js bd []) Q)) : AWP P n c st (Qf P n fs Q) := by
 refine z6l X hT hC hm (Xg l) 4000 (hoH L) _ _ l (hoB L) (by rw [← WX]; exact e) fun st0 h0 => ?_
 refine z6i (X := σ × Nat) e2 (Xg l) (fun x => YP f x.2 x.1 = some t) (fun x => x.2) (fun x => S x.1) (x0, JE) _ h0 hl ht ?_
 rintro ⟨x, k⟩ hx J hJ
 obtain ⟨m, lr, rfl, hf, hr⟩ := zba hx
 exact round x m lr hf hr J fun st' l' x' h1 h2 h3 => hJ st' l' (x', m) h1 (Nat.lt_succ_self m) h2 h3
theorem yJ6 (X : XH P) (hT : xH P tt) (hC : zA P ctr) (hm : P.follows .mixedOrders = true) {c : Code} {fs : List Fm} {st : St} (bd : Code) (path : List Nat) (Js : List (St → Prop)) {σ : Type} (live : List Nat) (Inv : σ → Prop) (S : σ → List (Nat × T)) (l : List (Nat × T)) (L : List HO)
  (e : K3 X tt ctr n (Xg l) 4000 c fs st (hoH L) = some (.at (sub path bd) (frs path Js bd []), ofL l, hoO L))
  (e2 : sub path bd = .seq (sub (path ++ [2]) bd) (sub (path ++ [1]) bd))
  (h1 : ∀ z, Inv z → AWP P n (sub (path ++ [1]) bd) (ofL (S z)) (Qf P n (frs path Js bd []) Q))
  (h2 : ∀ J : St → Prop, (∀ st' l' z, Inv z → canon live st' = ofL l' → LeL l' (S z) → J st') → AWP P n (sub (path ++ [2]) bd) (ofL l) (Qf P n (.pre J :: frs path Js bd []) Q)) : AWP P n c st (Qf P n fs Q) := by
 refine z6l X hT hC hm (Xg l) 4000 (hoH L) _ _ l (hoB L) (by rw [← WX]; exact e) fun st0 h0 => ?_
 exact z6j e2 live (Xg l) _ h0 Inv S h1 h2
theorem yF6 (X : XH P) (hT : xH P tt) (hC : zA P ctr) (hm : P.follows .mixedOrders = true) {c : Code} {fs : List Fm} {st : St} (ex : Exit) (l : List (Nat × T)) (L : List HO)
  (e : K3 X tt ctr n (Xg l) 4000 c fs st (hoH L) = some (.fin ex, ofL l, hoO L)) (h : ∀ st0, canon (Xg l) st0 = ofL l → Q ex st0) : AWP P n c st (Qf P n fs Q) :=
 zae X hT hC hm (Xg l) 4000 (hoH L) ex l (hoB L) (by rw [← WX]; exact e) h
theorem zch (X : XH P) (hT : xH P tt) (hC : zA P ctr) (hm : P.follows .mixedOrders = true) {c : Code} {fs : List Fm} {st : St} (c' : Code) (fs' : List Fm) (l : List (Nat × T)) (L : List HO)
  (e : K3 X tt ctr n (Xg l) 4000 c fs st (hoH L) = some (.at c' fs', ofL l, hoO L)) (h : ∀ st0, canon (Xg l) st0 = ofL l → AWP P n c' st0 (Qf P n fs' Q)) : AWP P n c st (Qf P n fs Q) :=
 z6l X hT hC hm (Xg l) 4000 (hoH L) _ _ l (hoB L) (by rw [← WX]; exact e) h
theorem yO6 {fn : Func} {r : A}  (hT : xH P tt) (keep : Bool) (rs : List (Nat × Option Nat)) (body : Code) (nt : Nat) (hf : P.funcs[k]? = some fn) (hb : fn.body = some body) (hn : nt = fn.ntmps) (hr : fn.results = (rs.map Ke).toArray) (hnm : (fn.name == "runtime.NumGoroutine") = false) (ha : Nat.ble ls.length nt = true)
  (h : ∀ E : St → Prop, (∀ st x R U, z3l tt keep rs st = some (x, R, U) → LeV x r → E st) → AWP P ⟨nt, []⟩ body (ofL (z2J 0 ls)) (Qf P ⟨nt, []⟩ [] (z4L E))) : ZU P k ls r := by
 subst hn
 exact z6c (tt := tt) (keep := keep) (rs := rs) (n := ⟨fn.ntmps, []⟩) (body := body) hT hf hnm hb rfl hr (Nat.le_of_ble_eq_true ha) h
end
section
variable {α β γ δ ε ζ η : Type} {f0 : α → A} {f1 : β → A} {f2 : γ → A} {f3 : δ → A} {f4 : ε → A} {f5 : ζ → A} {f6 : η → A}
theorem Qg [h0 : qw f0] (x y : α) (h : [f0 x] = [f0 y]) : x = y := by simp only [List.cons.injEq, and_true] at h; exact h0.inj _ _ h
theorem Xt [h0 : qw f0] [h1 : qw f1] (x y : α × β) (h : [f0 x.1, f1 x.2] = [f0 y.1, f1 y.2]) : x = y := by
 simp only [List.cons.injEq, and_true] at h
 exact Prod.ext (h0.inj _ _ h.1) (h1.inj _ _ h.2)
theorem zc9 [h0 : qw f0] [h1 : qw f1] [h2 : qw f2] (x y : α × β × γ) (h : [f0 x.1, f1 x.2.1, f2 x.2.2] = [f0 y.1, f1 y.2.1, f2 y.2.2]) : x = y := by
 simp only [List.cons.injEq, and_true] at h
 exact Prod.ext (h0.inj _ _ h.1) (Prod.ext (h1.inj _ _ h.2.1) (h2.inj _ _ h.2.2))
end
def jn (sz : Nat) (es : List A) (S : zf) (h : Array Obj) (v : Value) (F : List Nat) : Prop :=
  (∀ x ∈ es, x.size = sz) ∧ ∃ p c, v = .slice p es.length c ∧ es.length ≤ c ∧ c ≤ maxLen ∧
    ((es = [] ∧ c = 0 ∧ p = none ∧ F = []) ∨
     ∃ b off arr ty l, p = some ⟨b, off, none⟩ ∧ h[b]? = some (.cells arr ty (0, 0)) ∧ off + c * sz ≤ arr.size ∧ (arr.toList.drop off).take (es.length * sz) = l ∧ y5 S es l ∧ F = [b] ∧ ∀ o, S b o = none)
def Ug (sz : Nat) (es : List A) : Q3 := {
 holds := jn sz es
 one := by rintro S h v F ⟨_, p, c, rfl, _⟩; rfl
 frame := by
  rintro S S' h h' v F hS hF ⟨h1, p, c, rfl, h2, h3, h4⟩
  refine ⟨h1, p, c, rfl, h2, h3, h4.imp id ?_⟩
  rintro ⟨b, off, arr, ty, l, rfl, k1, k2, k3, k4, rfl, k6⟩
  have ⟨f1, f2⟩ := hF b (by simp)
  exact ⟨b, off, arr, ty, l, rfl, by rw [f1]; exact k1, k2, k3, k4.mono hS, rfl, f2⟩
 own := by
  rintro S h v F ⟨h1, p, c, rfl, h2, h3, h4⟩ k hk
  rcases h4 with ⟨_, _, _, rfl⟩ | ⟨b, off, arr, ty, l, rfl, k1, k2, k3, k4, rfl, k6⟩
  ·simp at hk
  ·rw [List.mem_singleton] at hk
   subst hk
   exact ⟨(Array.getElem?_eq_some_iff.1 k1).1, k6⟩
 idx := 0 }
def eDq (sz : Nat) (f : α → A) (l : List α) : A := .opq (Ug sz (l.map f)).q
theorem z3A {t : Bool}  (hd : A.areD es = true) {cs : List Value}  (q : zw S h (.osl sz t es) cs F) : ∃ v, cs = [v] ∧ jn sz es S h v F := by
 simp only [zw] at q
 obtain ⟨p, c, rfl, t1, t2, t3, t4, t5⟩ := q
 refine ⟨_, rfl, t4, p, c, rfl, t2, t3, ?_⟩
 rcases t5 with ⟨rfl, rfl, rfl, rfl⟩ | ⟨b, arr, ty, l, F', rfl, k1, k2, k3, k4, rfl, k6⟩
 ·exact .inl ⟨rfl, rfl, rfl, rfl⟩
 ·obtain ⟨r1, rfl⟩ := k4.areD hd
  exact .inr ⟨b, 0, arr, ty, l, rfl, k1, by omega, by simpa using k3, r1, rfl, k6⟩
instance LeA.que {α : Type} (sz : Nat) (t : Bool) (f : α → A) [h : z2G f] (l : List α) : LeA (eOs sz t f l) (eDq sz f l) := {
 rep := fun S cs q => by simp only [eOs, Rep] at q
 conc := fun S hp cs F q => by
  obtain ⟨v, rfl, q2⟩ := z3A (JW f l h.isD) q
  simp only [eDq, zw]
  exact ⟨v, rfl, q2⟩
 val := fun cs => rfl
 tup := fun _ e => by cases e }
theorem Ky : ∀ {es : List A} {l : List Value}, (∀ x ∈ es, x.size = sz) → y5 S es l → ∀ k, y5 S (es.drop k) (l.drop (k * sz))
 | es, l, h, r, 0 => by simpa using r
 | [], l, h, r, k + 1 => by
  simp [y5] at r
  subst r
  simp [y5]
 | x :: es, l, h, r, k + 1 => by
  simp [y5] at r
  obtain ⟨c1, c2, rfl, r1, r2⟩ := r
  have hx : c1.length = sz := by rw [r1.len]; exact h x (by simp)
  have e : (k + 1) * sz = c1.length + k * sz := by rw [hx, Nat.add_mul]; omega
  rw [e, List.drop_append, List.drop_succ_cons, List.drop_eq_nil_of_le (show c1.length ≤ c1.length + k * sz by omega), List.nil_append, Nat.add_sub_cancel_left]
  exact Ky (fun y hy => h y (by simp [hy])) r2 k
theorem zau [Decidable p] {m : SM Unit}  {q : Unit × List Nat × List (Nat × Ent)} (h : (if p then m else zm) st = some q) : p ∧ m st = some q := by
 by_cases hp : p
 ·rw [if_pos hp] at h; exact ⟨hp, h⟩
 ·rw [if_neg hp] at h; cases h
section
variable {C : Ctx} {S : zf} {Fp : Nat → List Nat} {X : List Nat} {st : St} {a : Act} {w : World}
open Classical in
def zar (tt : TT) (n : Fr) (dst : Option Nat) (t sz : Nat) (es : List A) (z vl : A) : SM Unit :=
 match vl with
 | .atom (.int _ j) => if z = .opq (Ug sz es).q then (if yU tt t = some sz then (if 0 ≤ j ∧ j.toNat ≤ es.length then wrT n dst (.own (.opq (Ug sz (es.drop j.toNat)).q)) else zm) else zm) else zm
 | _ => zm
def qslO (tt : TT) (n : Fr) (dst : Option Nat) (t sz : Nat) (es : List A) (x lo : Operand) : SM Unit := do
 let y ← opnd x
 let z ← take y
 let tl ← opnd lo
 let vl ← val tl
 zar tt n dst t sz es z vl
def zbT (tt : TT) (n : Fr) (dst : Option Nat) (t sz : Nat) (es es' : List A) (x lo : Operand) : HM Unit := zT (opnd x) >>= fun y => z0t y >>= fun z => zT (opnd lo) >>= fun tl => VT tl >>= fun vl =>
 match vl with
 | .atom (.int _ j) => j9 (z = .opq (Ug sz es).q) (if yU tt t = some sz then j9 (0 ≤ j ∧ j.toNat ≤ es.length) (j9 (es.drop j.toNat = es') (zT (wrT n dst (.own (.opq (Ug sz es').q))))) else zx)
 | _ => zx
open Classical in
theorem zaT (tt : TT) (n : Fr) (dst : Option Nat) (t sz : Nat) (es es' : List A) (x lo : Operand) : Snd (qslO tt n dst t sz es x lo) (zbT tt n dst t sz es es' x lo) := by
 refine za (zi _) fun y => za (Qr _) fun z => za (zi _) fun tl => za (jS _) fun vl => ?_
 unfold zar
 cases vl with
 | atom u =>
  cases u with
  | int k j => exact vA (wW (vA (Xa fun e => by rw [e]; exact zi _)) (zl _))
  | _ => exact zl _
 | _ => exact zl _
open Classical in
theorem Loc.qslO (tt : TT) (n : Fr) (dst : Option Nat) (t sz : Nat) (es : List A) (x lo : Operand) : Loc (qslO tt n dst t sz es x lo) := by
 unfold Go.Own.qslO
 refine Loc.bind (Loc.opnd _) fun _ => Loc.bind (Loc.take _) fun z => Loc.bind (Loc.opnd _) fun _ => Loc.bind (Loc.val _) fun vl => ?_
 unfold Go.Own.zar
 split
 ·exact Loc.ite (Loc.ite (Loc.ite (Loc.wrT _ _ _) Loc.fail) Loc.fail) Loc.fail
 ·exact Loc.fail
theorem z6F (q : (yX S (.opq (Ug sz es).q) v ∧ F = []) ∨ ∃ cs, zw S w.heap (.opq (Ug sz es).q) cs F ∧ F.Nodup ∧ v = zI (.opq (Ug sz es).q) cs) : jn sz es S w.heap v F ∧ F.Nodup := by
 rcases q with ⟨q, _⟩ | ⟨cs, q1, q2, q3⟩
 ·simp [yX, wJ, Rep, false_and, exists_false] at q
 ·simp [zw] at q1
  obtain ⟨u, rfl, q1⟩ := q1
  exact ⟨by rw [q3]; exact q1, q2⟩
theorem z26 (q : jn sz es S h v F) : zw S h (.opq (Ug sz es).q) [v] F := by
 simp only [zw]; exact ⟨v, rfl, q⟩
theorem z9B {P : Program}  (hT : xH P tt) (h : Sim C S Fp [] st a w)  {t sz : Nat}  {x lo : Operand} (ho : o.op = .slice t x (some lo) none none)    (e0 : qslO tt C.n o.dst t sz es x lo st = some (u, R, U)) : vX P C o a w (ze U st) := by
 unfold qslO at e0
 have ⟨y, _, hx, e1⟩ := bR (zu h) e0
 obtain ⟨z, R3, U3, R4, U4, h3, e2, rfl, rfl⟩ := bind_some e1
 have ⟨Fp', F, g1, g2⟩ := Wb h hx h3
 rw [zr]
 have ⟨tl, _, hl, e3⟩ := bR (zu g1) e2
 have ⟨vl, _, ql, e4⟩ := bR (vY g1 hl) e3
 unfold zar at e4
 split at e4
 ·rename_i k j
  split at e4
  ·rename_i hz
   subst hz
   split at e4
   ·rename_i hel
    split at e4
    ·rename_i hj
     have ⟨j0, j1⟩ := hj
     have ⟨el, he, hsz⟩ := xN hT hel w
     have ⟨el', _⟩ := zo.1 ql
     have ⟨⟨t4, p, c, ev, t2, t3, t5⟩, hn⟩ := z6F g2
     have hrun := qa (P := P) (w := w) he hsz (p := p) (len := es.length) (c := c) (m := c) (lo := some (.int k j)) (hi := none) (mx := none) (.inr ⟨k, j, rfl, j0, rfl⟩) (.inl ⟨rfl, rfl⟩) (.inl ⟨rfl, rfl⟩) j1 t2 (Nat.le_refl c) (by simp)
     have hq : jn sz (es.drop j.toNat) S w.heap (.slice (if c = j.toNat then p else p.map (·.add (j.toNat * sz))) (es.length - j.toNat) (c - j.toNat)) F := by
      refine ⟨fun y hy => t4 y (List.mem_of_mem_drop hy), _, _, by rw [List.length_drop], by rw [List.length_drop]; omega, by omega, ?_⟩
      rcases t5 with ⟨rfl, rfl, rfl, rfl⟩ | ⟨b, off, arr, ty, l, rfl, k1, k2, k3, k4, rfl, k6⟩
      ·exact .inl ⟨by simp, by simp, by simp, rfl⟩
      ·have hr := Ky t4 k4 j.toNat
       have hm : (es.length - j.toNat) * sz + j.toNat * sz = es.length * sz := by rw [← Nat.add_mul]; congr 1; omega
       have hcj : (c - j.toNat) * sz + j.toNat * sz = c * sz := by rw [← Nat.add_mul]; congr 1; omega
       by_cases hcc : c = j.toNat
       ·have : es.length = j.toNat := by omega
        refine .inr ⟨b, off, arr, ty, [], by simp [hcc], k1, by rw [hcc]; simp; omega, by simp [List.length_drop, this], ?_, rfl, k6⟩
        rw [List.drop_eq_nil_of_le (by omega)]; simp [y5]
       ·refine .inr ⟨b, off + j.toNat * sz, arr, ty, l.drop (j.toNat * sz), by simp [hcc, Addr.add_lit], k1, by omega, ?_, hr, rfl, k6⟩
        rw [List.length_drop, ← k3, List.drop_take, List.drop_drop]
        congr 1
        omega
     have ⟨Fp'', hs⟩ := k9 g1 e4 (z26 hq) hn
     refine zk ?_ hs
     simp [execOp, ho, ev, el', hrun, zI]
    ·cases e4
   ·cases e4
  ·cases e4
 ·cases e4
open Classical in
def zas (n : Fr) (dst : Option Nat) (sz : Nat) (es : List A) (x : Operand) : SM Unit := do
 let tx ← opnd x
 let y ← peek tx
 if y = .opq (Ug sz es).q then wrT n dst (.d (.atom (.int .i64 (es.length : Nat)))) else zm
def zbU (n : Fr) (dst : Option Nat) (sz : Nat) (es : List A) (x : Operand) : HM Unit := zT (opnd x) >>= fun tx => Jt tx >>= fun y => j9 (y = .opq (Ug sz es).q) (eqA (.atom (.int .i64 (es.length : Nat))) >>= fun r => zT (wrT n dst (.d r)))
open Classical in
theorem zaU (n : Fr) (dst : Option Nat) (sz : Nat) (es : List A) (x : Operand) : Snd (zas n dst sz es x) (zbU n dst sz es x) :=
 za (zi _) fun _ => za (WQ _) fun _ => vA (YW (zM _ fun r => wrT n dst (.d r)).symm (za (Jn _) fun _ => zi _))
theorem z9D (hT : xH P tt) (h : Sim C S Fp [] st a w)  {t sz : Nat}  {x : Operand} (hty : ua tt t = true) (ho : o.op = .call ⟨.builtin .len, ⟨[x]⟩, ⟨[t]⟩⟩)    (e : zas C.n o.dst sz es x st = some (u, R, U)) : vX P C o a w (ze U st) := by
 unfold zas at e
 have ⟨tx, _, hx, e1⟩ := bR (zu h) e
 have ⟨y, _, qx, e2⟩ := bR (Yi h hx) e1
 split at e2
 ·rename_i hc
  subst hc
  have ⟨F, g⟩ := z1G qx
  have ⟨_, p, c, ev, _⟩ := g
  have ⟨el, hel⟩ := jG hT hty
  have ⟨Fp', hs⟩ := xP h e2 (x := .d _) (zo.2 ⟨rfl, rfl⟩)
  refine zk ?_ hs
  simp [execOp, ho, resolve, invoke, builtin, Builtin.len_, ev, run_underlying hel, goInt]
 ·cases e2
def z2s (sz : Nat) (v : Value) (j : Int) : Value :=
 match v with
 | .slice (some p) _ _ => .pointer (some (p.add (j.toNat * sz)))
 | _ => .pointer none
theorem z5x {j : Int} : (z2s sz v j).oneCell' = true := by
 unfold z2s; split <;> rfl
theorem z3m (h : Sim C S Fp [] st a w) {r sz : Nat}  (hr : (st r).t = .own (.opq (Ug sz es).q)) : ∃ F, jn sz es S w.heap (Act.tv a r) F := by
 have hq := h.ent r
 unfold xh at hq
 simp [hr] at hq
 have ⟨cs, c1, c2, c3⟩ := hq
 simp [zw] at c1
 obtain ⟨v, rfl, c1⟩ := c1
 exact ⟨_, by rw [c3]; exact c1⟩
open Classical in
def qixO (tt : TT) (n : Fr) (dst : Option Nat) (t sz r : Nat) (v : Value) (es : List A) (x i : Operand) : SM Unit := do
 let tx ← opnd x
 let ti ← opnd i
 let vi ← val ti
 let e ← rdE r
 match vi with
 | .atom (.int _ j) => if tx = .als r [] e.er e.ec ∧ Va n.pin r = some v ∧ e.t = .own (.opq (Ug sz es).q) ∧ yU tt t = some sz ∧ 0 ≤ j ∧ j.toNat < es.length then wrT n dst (.d (.atom (z2s sz v j))) else zm
 | _ => zm
def zbW (tt : TT) (n : Fr) (dst : Option Nat) (t sz r : Nat) (v : Value) (es : List A) (x i : Operand) : HM Unit := zT (opnd x) >>= fun tx => zT (opnd i) >>= fun ti => VT ti >>= fun vi => zT (rdE r) >>= fun e =>
 match vi with
 | .atom (.int _ j) => j9 (tx = .als r [] e.er e.ec ∧ Va n.pin r = some v ∧ e.t = .own (.opq (Ug sz es).q) ∧ yU tt t = some sz ∧ 0 ≤ j ∧ j.toNat < es.length) (zT (wrT n dst (.d (.atom (z2s sz v j)))))
 | _ => zx
open Classical in
theorem zaW (tt : TT) (n : Fr) (dst : Option Nat) (t sz r : Nat) (v : Value) (es : List A) (x i : Operand) : Snd (qixO tt n dst t sz r v es x i) (zbW tt n dst t sz r v es x i) := by
 refine za (zi _) fun tx => za (zi _) fun ti => za (jS _) fun vi => za (zi _) fun e => ?_
 cases vi with
 | atom u =>
  cases u with
  | int k j => exact vA (zi _)
  | _ => exact zl _
 | _ => exact zl _
open Classical in
theorem Loc.qixO (tt : TT) (n : Fr) (dst : Option Nat) (t sz r : Nat) (v : Value) (es : List A) (x i : Operand) : Loc (qixO tt n dst t sz r v es x i) := by
 unfold Go.Own.qixO
 refine Loc.bind (Loc.opnd _) fun _ => Loc.bind (Loc.opnd _) fun _ => Loc.bind (Loc.val _) fun vi => Loc.bind (Loc.rdE _) fun _ => ?_
 split
 ·exact Loc.ite (Loc.wrT _ _ _) Loc.fail
 ·exact Loc.fail
open Classical in
theorem z9F {P : Program}  (hT : xH P tt) (h : Sim C S Fp [] st a w) {o : Oper} {t sz r : Nat} {v : Value}  {x i : Operand} (ho : o.op = .indexAddr t x i)    (e0 : qixO tt C.n o.dst t sz r v es x i st = some (u, R, U)) : vX P C o a w (ze U st) := by
 unfold qixO at e0
 have ⟨tx, _, hx, e1⟩ := bR (zu h) e0
 have ⟨ti, _, hi, e2⟩ := bR (zu h) e1
 have ⟨vi, _, qi, e3⟩ := bR (vY h hi) e2
 have ⟨_, e4⟩ := bD e3
 split at e4
 ·rename_i k j
  have hq := zau e4
  clear e4
  have ⟨hc, e4⟩ := hq
  ·obtain ⟨rfl, c2, c3, c4, c5, c6⟩ := hc
   have hs := h.pin r v (uw c2)
   have ⟨F, t4, p, c, ev, t2, t3, t5⟩ := z3m h c3
   have hxv : a.eval x = .slice p es.length c := by rw [← ev]; exact z3u hx c3 rfl
   have ⟨e', he, hsz⟩ := xN hT c4 w
   have ⟨ei, _⟩ := zo.1 qi
   rcases t5 with ⟨rfl, _⟩ | ⟨b, off, arr, ty, l, rfl, k1, k2, k3, k4, rfl, k6⟩
   ·simp at c6
   ·have hrun := Zg (P := P) (b := b) (o := off) (n := es.length) (c := c) (k := k) he hsz c5 c6
    have ⟨Fp', hs'⟩ := xP h e4 (x := .d (.atom (z2s sz v j))) (v := z2s sz v j) (zo.2 ⟨rfl, z5x⟩)
    refine zk ?_ hs'
    have hvv : v = .slice (some ⟨b, off, none⟩) es.length c := by rw [← hs, ev]
    rw [hvv]
    simp [execOp, ho, ei, hxv, hrun, z2s, Addr.add_lit]
 ·cases e4
open Classical in
def qldO (tt : TT) (n : Fr) (dst : Option Nat) (t sz r : Nat) (v : Value) (j : Int) (es : List A) (y : A) (x : Operand) : SM Unit := do
 let tx ← opnd x
 let e ← rdE r
 if tx = .d (.atom (z2s sz v j)) ∧ Va n.pin r = some v ∧ e.t = .own (.opq (Ug sz es).q) ∧ es[j.toNat]? = some y ∧ uN tt t y = true ∧ y.isD = true then wrT n dst (.d y) else zm
def zbV (tt : TT) (n : Fr) (dst : Option Nat) (t sz r : Nat) (v : Value) (j : Int) (es : List A) (y : A) (x : Operand) : HM Unit := zT (opnd x) >>= fun tx => zT (rdE r) >>= fun e =>
 j9 (tx = .d (.atom (z2s sz v j)) ∧ Va n.pin r = some v ∧ e.t = .own (.opq (Ug sz es).q) ∧ es[j.toNat]? = some y ∧ uN tt t y = true ∧ y.isD = true) (zT (wrT n dst (.d y)))
open Classical in
theorem zaV (tt : TT) (n : Fr) (dst : Option Nat) (t sz r : Nat) (v : Value) (j : Int) (es : List A) (y : A) (x : Operand) : Snd (qldO tt n dst t sz r v j es y x) (zbV tt n dst t sz r v j es y x) :=
 za (zi _) fun tx => za (zi _) fun e => vA (zi _)
open Classical in
theorem Loc.qldO (tt : TT) (n : Fr) (dst : Option Nat) (t sz r : Nat) (v : Value) (j : Int) (es : List A) (y : A) (x : Operand) : Loc (qldO tt n dst t sz r v j es y x) := by
 unfold Go.Own.qldO
 exact Loc.bind (Loc.opnd _) fun _ => Loc.bind (Loc.rdE _) fun _ => Loc.ite (Loc.wrT _ _ _) Loc.fail
open Classical in
theorem z9E (hT : xH P tt) (h : Sim C S Fp [] st a w) {o : Oper} {t sz r : Nat} {v : Value} {j : Int}  {y : A} {x : Operand} (ho : o.op = .load t x)    (e0 : qldO tt C.n o.dst t sz r v j es y x st = some (u, R, U)) : vX P C o a w (ze U st) := by
 unfold qldO at e0
 have ⟨tx, _, hx, e1⟩ := bR (zu h) e0
 have ⟨_, e4⟩ := bD e1
 have hq := zau e4
 clear e4
 have ⟨hc, e4⟩ := hq
 ·obtain ⟨rfl, c2, c3, c4, c5, c6⟩ := hc
  have hs := h.pin r v (uw c2)
  have ⟨F, t4, p, c, ev, t2, t3, t5⟩ := z3m h c3
  have hxv : a.eval x = z2s sz v j := (zo.1 hx).1
  have hlt := (List.getElem?_eq_some_iff.1 c4).1
  rcases t5 with ⟨rfl, _⟩ | ⟨b, off, arr, ty, l, rfl, k1, k2, k3, k4, rfl, k6⟩
  ·simp at hlt
  ·have hvv : v = .slice (some ⟨b, off, none⟩) es.length c := by rw [← hs, ev]
   have ⟨d1, ci, d2, hl, hd1, hr⟩ := Zi k4 c4
   have hd : d1.length = j.toNat * sz := by
    rw [hd1, A.sizes_const (sz := sz) (fun z hz => t4 z (List.mem_of_mem_take hz)), List.length_take]
    congr 1
    omega
   have hsit : z4F w.heap b (off + j.toNat * sz) ci := by
    intro i u hi
    have hi2 : l[d1.length + i]? = some u := by
     rw [hl, List.append_assoc, List.getElem?_append_right (by omega), Nat.add_sub_cancel_left, List.getElem?_append_left (List.getElem?_eq_some_iff.1 hi).1]
     exact hi
    rw [← k3, List.getElem?_take] at hi2
    split at hi2
    ·rw [List.getElem?_drop] at hi2
     simp [zU, k1]
     rw [← hi2, Array.getElem?_toList, hd, Nat.add_assoc]
    ·cases hi2
   have hld := qb hT c5 (w := w) (b := b) (o := off + j.toNat * sz) hr.len hsit
   have ⟨Fp', hs'⟩ := xP h e4 (x := .d y) (v := zI y ci) (wJ.repV ⟨ci, hr, rfl⟩)
   refine zk ?_ hs'
   have ex : a.eval x = .pointer (some ⟨b, off + j.toNat * sz, none⟩) := by
    rw [hxv, hvv]; simp [z2s, Addr.add_lit]
   simp [execOp, ho, ex, Instr.loadAt, Instr.sureAddr, hld]
theorem Qd {P : Program} {t ty e bty : TypeId} {i : TypeInfo} (ht : P.underlying t = some (.slice e)) (hi : P.info? e = some i) (w : World)
  (g off n c : Nat) (cur : Array Value) (hg : w.heap[g]? = some (.cells cur bty (0, 0)))
  (a : Addr) (m d : Nat) (news : List Value) (hl : news.length = m * i.size) (hnews : ∀ j u, news[j]? = some u → w.cell? (a.add j) = some u) (h1 : ∀ u ∈ news, u.oneCell' = true)
  (hroom : n + m ≤ c) (hfit : off + n * i.size + news.length ≤ cur.size) :
  (Builtin.append_ #[t, t] ty #[.slice (some ⟨g, off, none⟩) n c, .slice (some a) m d]).run P w = .ok (.slice (some ⟨g, off, none⟩) (n + m) c) (w.setRow g (Zs cur (off + n * i.size) news)) := by
 have hf := run_firstCells_some (P := P) w i.size m a m d news hl hnews
 have hst := run_storeCells_at P g (off + n * i.size) bty news 0 cur w hg (by simpa using hfit) h1
 simp only [Nat.add_zero] at hst
 rw [ve hfit] at hst
 simp [Builtin.append_, run_underlying ht, Go.sizeOf, typeInfo, hi, Builtin.lenOf, hroom, hf, Addr.add_lit, hst]
theorem z2F {P : Program} {t ty e : TypeId} {f : TypeInfo} {zv : Value} (ht : P.underlying t = some (.slice e)) (hi : P.info? e = some f) (hz : f.zero = some zv) (hzs : zv.cells.size = f.size)
    {F : List Nat} (h : Sim C S Fp (F ++ []) st a w) {es ys : List A} {v : Value} (hc : jn f.size es S w.heap v F) (hFn : F.Nodup)
    {p : Option Addr} {d : Nat} {news : List Value} (hr : y5 S ys news) (hsz2 : ∀ x ∈ ys, x.size = f.size) (hsrc : (ys = [] ∧ news = []) ∨ ∃ ad, p = some ad ∧ ∀ j u, news[j]? = some u → w.cell? (ad.add j) = some u)
    (hlim : es.length + ys.length ≤ lim) (hb : f.bytes ≤ 4096) (hD : A.areD (es ++ ys) = true) :
    ∃ v' w', (Builtin.append_ #[t, t] ty #[v, .slice p ys.length d]).run P w = .ok v' w' ∧ ∃ F', Sim C S Fp (F' ++ []) st a w' ∧ F'.Nodup ∧ jn f.size (es ++ ys) S w'.heap v' F' := by
  have hc0 := hc
  obtain ⟨t4, q, c, rfl, t2, t3, t5⟩ := hc
  have fin : ∀ {F' : List Nat} {v' : Value} {w' : World} {cs : List Value}, zw S w'.heap (.osl f.size false (es ++ ys)) cs F' → v' = zI (.osl f.size false (es ++ ys)) cs → jn f.size (es ++ ys) S w'.heap v' F' := by
    intro F' v' w' cs k1 k2
    obtain ⟨u, rfl, k3⟩ := z3A hD k1
    rw [k2]; exact k3
  by_cases hy0 : ys = []
  · subst hy0
    simp [y5] at hr
    subst hr
    exact ⟨_, w, jD ht hi q p es.length c d t2 w, F, h, hFn, by simpa using hc0⟩
  · have hpos : 0 < ys.length := List.length_pos_iff.2 hy0
    rcases hsrc with ⟨hy, _⟩ | ⟨ad, rfl, hnews⟩
    · exact absurd hy hy0
    have hl2 : news.length = ys.length * f.size := by rw [hr.len, A.sizes_const hsz2]
    rcases t5 with ⟨rfl, rfl, rfl, rfl⟩ | ⟨b, off, arr, bty, l, rfl, k1, k2, k3, k4, rfl, k6⟩
    · obtain ⟨v', w', g1, F', g2, g3, cs, g4, g5⟩ := qr (ty := ty) ht hi hz hzs h (es := []) (olds := []) (by simp [zz]) (by simp) (hr.concs w.heap) (by simp) hsz2 (.inl ⟨rfl, rfl, rfl⟩) hnews (by simpa using hpos) hlim hb hpos
      exact ⟨v', w', g1, F', g2, g3, fin g4 g5⟩
    · have hl1 : l.length = es.length * f.size := by rw [k4.len, A.sizes_const t4]
      by_cases hroom : es.length + ys.length ≤ c
      · have hm := Nat.mul_le_mul_right f.size hroom
        rw [Nat.add_mul] at hm
        have hfit : off + es.length * f.size + news.length ≤ arr.size := by omega
        have hrun := Qd (P := P) (ty := ty) ht hi w b off es.length c arr k1 ad ys.length d news hl2 hnews (fun u hu => hr.one u hu) hroom hfit
        let w' := w.setRow b (Zs arr (off + es.length * f.size) news)
        have hheap : ∀ k, k ≠ b → w'.heap[k]? = w.heap[k]? := fun k hk => setRow_other w b k _ hk
        have hheapb : w'.heap[b]? = some (.cells (Zs arr (off + es.length * f.size) news) bty (0, 0)) := setRow_heap w b arr _ bty (0, 0) k1
        have hbF : ∀ t', b ∉ Fp t' := fun t' => h.xd t' b (by simp)
        have hbase : C.M b := h.xb b (by simp)
        refine ⟨_, w', hrun, [b], ?_, by simp, ?_⟩
        · refine h.mem (h.below.trans ⟨rfl, rfl, rfl, Nat.le_refl _, by simp [w'], fun k hk => hheap k (fun e => hk (e ▸ hbase))⟩) (fun _ _ _ h => h) ?_ h.sbase (fun t' k hk => ⟨hheap k (by rintro rfl; exact hbF t' hk), (h.free t' k hk).2.1⟩) (by simp) (by simpa using h.xd) (by simpa using h.xb)
          intro b' o' v hs
          rw [xv (h := w.heap) (h' := w'.heap) (hheap b' (by rintro rfl; rw [k6] at hs; cases hs))]
          exact h.still b' o' v hs
        · refine ⟨?_, _, c, by rw [List.length_append], by rw [List.length_append]; exact hroom, t3, .inr ⟨b, off, Zs arr (off + es.length * f.size) news, bty, l ++ news, rfl, hheapb, by simp [k2], ?_, k4.append hr, rfl, k6⟩⟩
          · intro x hx
            rcases List.mem_append.1 hx with h | h
            · exact t4 x h
            · exact hsz2 x h
          · apply List.ext_getElem?
            intro k
            rw [List.getElem?_take, List.getElem?_drop, Array.getElem?_toList, vS, List.length_append, Nat.add_mul]
            by_cases hk : k < es.length * f.size
            · rw [if_pos (by omega), if_neg (by omega), List.getElem?_append_left (by omega), ← k3, List.getElem?_take, if_pos hk, List.getElem?_drop, Array.getElem?_toList]
              cases arr[off + k]? <;> rfl
            · by_cases hk2 : k < es.length * f.size + ys.length * f.size
              · have ej : off + k - (off + es.length * f.size) = k - l.length := by omega
                rw [if_pos hk2, if_pos (by omega), List.getElem?_append_right (by omega), ej, Array.getElem?_eq_getElem (show off + k < arr.size by omega), List.getElem?_eq_getElem (show k - l.length < news.length by omega)]
                rfl
              · rw [if_neg hk2, List.getElem?_eq_none (by rw [List.length_append]; omega)]
      · have hold : ∀ j v, l[j]? = some v → w.cell? ((⟨b, off, none⟩ : Addr).add j) = some v := by
          intro j u hj
          rw [Addr.add_lit, ZC]
          simp [zU, k1]
          rw [← k3, List.getElem?_take] at hj
          split at hj
          · rw [List.getElem?_drop] at hj
            simpa using hj
          · cases hj
        have hsub : Sim C S Fp ([] ++ []) st a w := h.mem h.below (fun _ _ _ h => h) h.still.cell h.sbase (fun t' k hk => ⟨rfl, (h.free t' k hk).2.1⟩) (by simp) (fun t' k hk => by simp at hk) (fun k hk => by simp at hk)
        obtain ⟨v', w', g1, F', g2, g3, cs, g4, g5⟩ := qr (ty := ty) ht hi hz hzs hsub (k4.concs w.heap) (by simp) (hr.concs w.heap) t4 hsz2 (.inr ⟨⟨b, off, none⟩, rfl, hold⟩) (d := d) (c := c) hnews (by omega) hlim hb hpos
        exact ⟨v', w', g1, F', g2, g3, fin g4 g5⟩
def z8B (tt : TT) (t sz : Nat) : Bool := match tt t with
 | some ⟨.slice e, _, _, _, _⟩ => match tt e with
  | some i => i.size == sz && decide (i.bytes ≤ 4096) && decide (0 < i.size) && i.zero.isSome
  | none => false
 | _ => false
theorem areD_app {xs ys : List A} (h1 : A.areD xs = true) (h2 : A.areD ys = true) : A.areD (xs ++ ys) = true := by
 induction xs with
 | nil => exact h2
 | cons x xs ih =>
  simp [A.areD, Bool.and_eq_true, List.cons_append] at h1 ⊢
  exact ⟨h1.1, ih h1.2⟩
open Classical in
def qapO (tt : TT) (n : Fr) (dst : Option Nat) (t sz : Nat) (es : List A) (s x : Operand) : SM Unit := do
 let ts ← opnd s
 let tx ← opnd x
 let y ← peek tx
 match y with
 | .osl s' _ ys => if s' = sz ∧ A.areD ys = true ∧ z8B tt t sz = true then (do
   let z ← take ts
   if z = .opq (Ug sz es).q ∧ es.length + ys.length ≤ lim ∧ A.areD es = true then wrT n dst (.own (.opq (Ug sz (es ++ ys)).q)) else zm) else zm
 | _ => zm
def zbX (tt : TT) (n : Fr) (dst : Option Nat) (t sz : Nat) (es es' : List A) (s x : Operand) : HM Unit := zT (opnd s) >>= fun ts => zT (opnd x) >>= fun tx => Jt tx >>= fun y =>
 match y with
 | .osl s' _ ys => j9 (s' = sz ∧ A.areD ys = true ∧ z8B tt t sz = true) (z0t ts >>= fun z => j9 (z = .opq (Ug sz es).q ∧ es.length + ys.length ≤ lim ∧ A.areD es = true) (j9 (es ++ ys = es') (zT (wrT n dst (.own (.opq (Ug sz es').q))))))
 | _ => zx
open Classical in
theorem zaX (tt : TT) (n : Fr) (dst : Option Nat) (t sz : Nat) (es es' : List A) (s x : Operand) : Snd (qapO tt n dst t sz es s x) (zbX tt n dst t sz es es' s x) := by
 refine za (zi _) fun ts => za (zi _) fun tx => za (WQ _) fun y => ?_
 cases y with
 | osl s' tg ys => exact vA (za (Qr _) fun z => vA (Xa fun e => by rw [e]; exact zi _))
 | _ => exact zl _
open Classical in
theorem Loc.qapO (tt : TT) (n : Fr) (dst : Option Nat) (t sz : Nat) (es : List A) (s x : Operand) : Loc (qapO tt n dst t sz es s x) := by
 unfold Go.Own.qapO
 refine Loc.bind (Loc.opnd _) fun _ => Loc.bind (Loc.opnd _) fun _ => Loc.bind (Loc.peek _) fun y => ?_
 split
 ·exact Loc.ite (Loc.bind (Loc.take _) fun z => Loc.ite (Loc.wrT _ _ _) Loc.fail) Loc.fail
 ·exact Loc.fail
open Classical in
theorem z9G (hT : xH P tt) (h : Sim C S Fp [] st a w)  {t sz : Nat}  {s x : Operand} (ho : o.op = .call ⟨.builtin .append, ⟨[s, x]⟩, ⟨[t, t]⟩⟩)    (e0 : qapO tt C.n o.dst t sz es s x st = some (u, R, U)) : vX P C o a w (ze U st) := by
 unfold qapO at e0
 have ⟨ts, _, hs, e1⟩ := bR (zu h) e0
 have ⟨tx, _, hx, e2⟩ := bR (zu h) e1
 have ⟨y, _, q, e3⟩ := bR (Yi h hx) e2
 cases y with
 | osl s' tg ys =>
  have hq := zau e3
  clear e3
  obtain ⟨⟨rfl, c2, c3⟩, e3⟩ := hq
  obtain ⟨z, R7, U7, R8, U8, h7, e4, rfl, rfl⟩ := bind_some e3
  have ⟨Fp', F, g1, g2⟩ := Wb h hs h7
  rw [zr]
  have hq := zau e4
  clear e4
  obtain ⟨⟨rfl, d2, d3⟩, e4⟩ := hq
  unfold z8B at c3
  cases ht : tt t with
  | none => simp only [ht] at c3; cases c3
  | some it =>
   have ⟨kd, a1, a2, a3, a4⟩ := it
   cases kd with
   | slice el =>
    simp only [ht] at c3
    have hel : P.underlying t = some (.slice el) := (hT _ _ ht).kind
    cases hi : tt el with
    | none => simp only [hi] at c3; cases c3
    | some i =>
     simp only [hi, Bool.and_eq_true, beq_iff_eq, decide_eq_true_eq] at c3
     obtain ⟨⟨⟨rfl, k2⟩, k3⟩, k4⟩ := c3
     have ⟨f, f1, f2, f3, f4⟩ := (hT _ _ hi).info
     have ⟨z0, hz0⟩ := Option.isSome_iff_exists.1 k4
     have ⟨zv, v1, v2, v3⟩ := f4 z0 hz0
     have hzs : zv.cells.size = f.size := by
      have := (v3 (fun _ _ => none) #[]).len
      rw [v2, ← f2] at this
      simpa using this
     have ⟨p, d, news, ev, r1, r2, r3⟩ := XC h (.inr ⟨tg, rfl⟩) c2 q
     have ⟨m1, m2⟩ := z6F g2
     rw [← f2] at m1 r2 e4
     have ⟨v, w', hrun, F', n1, n2, n3⟩ := z2F (ty := o.type) hel f1 v1 hzs g1 m1 m2 (p := p) (d := d) r1 r2 r3 d2 (by omega) (areD_app d3 c2)
     have ⟨Fp'', hs'⟩ := k9 n1 e4 (z26 n3) n2
     refine zk ?_ hs'
     simp [execOp, ho, resolve, invoke, builtin, ev, hrun, zI]
   | _ => simp only [ht] at c3; cases c3
 | _ => cases e3
theorem drM (f : α → A) (l : List α) (k : Nat) : (l.map f).drop k = (l.drop k).map f := by rw [List.map_drop]
end
def xQs (hT : xH P tt) (d sz : Nat) (es es' : List A) : XH P :=
 xAt P (zav d) (fun n o b => qslO tt n o.dst b.1 sz es b.2.1 b.2.2) (fun n o b => zbT tt n o.dst b.1 sz es es' b.2.1 b.2.2)
  (by
   intro C S Fp st a w o b hp h u R U e
   unfold zav at hp
   split at hp
   ·rename_i ho; cases z21 hp; exact z9B hT h ho e
   ·cases hp)
  (fun n o b => Loc.qslO _ _ _ _ _ _ _ _) (fun n o b => zaT _ _ _ _ _ _ _ _ _)
open Classical in
def xQl (hT : xH P tt) (d t sz : Nat) (es : List A) (hty : ua tt t = true) : XH P :=
 xAt P (zaw d t) (fun n o x => zas n o.dst sz es x) (fun n o x => zbU n o.dst sz es x)
  (by
   intro C S Fp st a w o x hp h u R U e
   unfold zaw at hp
   split at hp
   ·rename_i ho
    replace hp := z21 hp
    split at hp
    ·rename_i ht; subst ht; cases hp; exact z9D hT h hty ho e
    ·cases hp
   ·cases hp)
  (fun n o x => Loc.bind (Loc.opnd _) fun _ => Loc.bind (Loc.peek _) fun _ => Loc.ite (Loc.wrT _ _ _) Loc.fail) (fun n o x => zaU _ _ _ _ _)
def xQi (hT : xH P tt) (d sz r : Nat) (v : Value) (es : List A) : XH P :=
 xAt P (zax d) (fun n o b => qixO tt n o.dst b.1 sz r v es b.2.1 b.2.2) (fun n o b => zbW tt n o.dst b.1 sz r v es b.2.1 b.2.2)
  (by
   intro C S Fp st a w o b hp h u R U e
   unfold zax at hp
   split at hp
   ·rename_i ho; cases z21 hp; exact z9F hT h ho e
   ·cases hp)
  (fun n o b => Loc.qixO _ _ _ _ _ _ _ _ _ _) (fun n o b => zaW _ _ _ _ _ _ _ _ _ _)
def zc5 (d : Nat) (o : Oper) : Option (Nat × Operand) := match o.op with | .load t x => if o.dst = some d then some (t, x) else none | _ => none
def xQd (hT : xH P tt) (d sz r : Nat) (v : Value) (j : Int) (es : List A) (y : A) : XH P :=
 xAt P (zc5 d) (fun n o b => qldO tt n o.dst b.1 sz r v j es y b.2) (fun n o b => zbV tt n o.dst b.1 sz r v j es y b.2)
  (by
   intro C S Fp st a w o b hp h u R U e
   unfold zc5 at hp
   split at hp
   ·rename_i ho; cases z21 hp; exact z9E hT h ho e
   ·cases hp)
  (fun n o b => Loc.qldO _ _ _ _ _ _ _ _ _ _ _) (fun n o b => zaV _ _ _ _ _ _ _ _ _ _ _)
def xQa (hT : xH P tt) (d sz : Nat) (es es' : List A) : XH P :=
 xAt P (zay d) (fun n o b => qapO tt n o.dst b.1 sz es b.2.1 b.2.2) (fun n o b => zbX tt n o.dst b.1 sz es es' b.2.1 b.2.2)
  (by
   intro C S Fp st a w o b hp h u R U e
   unfold zay at hp
   split at hp
   ·rename_i ho
    replace hp := z21 hp
    split at hp
    ·rename_i ht; subst ht; cases hp; exact z9G hT h ho e
    ·cases hp
   ·cases hp)
  (fun n o b => Loc.qapO _ _ _ _ _ _ _ _) (fun n o b => zaX _ _ _ _ _ _ _ _ _)
def z7x (i : TI) : TI := match i.zero with
 | some (.osl sz true []) => { i with zero := some (.sl sz true []) }
 | _ => i
def ttS (tt : TT) (e : Nat) : TT := fun t => if t = e then (tt t).map z7x else tt t
theorem z58 {t : Nat} {i : TI} (h : kF P t i) : kF P t (z7x i) := by
 unfold z7x
 split
 ·rename_i sz hz
  have ⟨f, f1, f2, f3, f4⟩ := h.info
  refine ⟨⟨f, f1, f2, f3, ?_⟩, h.kind, h.eqn⟩
  intro z hz'
  cases hz'
  have ⟨zv, v1, v2, v3⟩ := f4 _ hz
  refine ⟨zv, v1, by simpa [A.size] using v2, fun S hp => ?_⟩
  have q := v3 S hp
  simp only [zw] at q ⊢
  have ⟨p, c, e, h1, h2, h3, h4, h5⟩ := q
  rcases h5 with ⟨_, rfl, rfl, _⟩ | ⟨b, arr, ty, l, F', _, _, _, _, _, hF, _⟩
  ·refine ⟨?_, trivial⟩
   simp only [Rep]
   exact ⟨none, 0, e, by simp, by simp, by simp, .inl trivial⟩
  ·cases hF
 ·exact h
theorem z91 (hT : xH P tt) (e : Nat) : xH P (ttS tt e) := by
 intro t i h
 unfold ttS at h
 split at h
 ·cases ht : tt t with
  | none => rw [ht] at h; cases h
  | some j =>
   rw [ht] at h
   cases h
   exact z58 (hT _ _ ht)
 ·exact hT _ _ h
def zc4 (d : Nat) (o : Oper) : Option (Nat × Operand × Operand) := match o.op with | .makeSlice t l c => if o.dst = some d then some (t, l, c) else none | _ => none
def xMs (hT : xH P tt) (d e : Nat) : XH P :=
 xAt P (zc4 d) (fun n o b => jw (ttS tt e) n o.dst b.1 b.2.1 b.2.2) (fun n o b => Wo (ttS tt e) n o.dst b.1 b.2.1 b.2.2)
  (by
   intro C S Fp st a w o b hp h u R U q
   unfold zc4 at hp
   split at hp
   ·rename_i ho; cases z21 hp; exact WV (z91 hT e) h ho q
   ·cases hp)
  (fun n o b => by have q := Loc.stepO (ttS tt e) UI n ⟨o.dst, .makeSlice b.1 b.2.1 b.2.2, 0, default, default, none⟩; exact q) (fun n o b => U0 _ _ _ _ _ _)
theorem z8K.mono {fv : Value} {vs : List Value}  {R R' : Value → World → Prop} (h : z8K P fv vs w R) (hr : ∀ v w', R v w' → R' v w') : z8K P fv vs w R' := by
 rcases h with ⟨k, caps, fn, h1, h2, h3, h4, h5⟩ | ⟨L, q, h1, h2, h3, h4⟩
 ·exact .inl ⟨k, caps, fn, h1, h2, h3, h4, Calls.mono h5 fun e w' ⟨v, e1, e2⟩ => ⟨v, e1, hr _ _ e2⟩⟩
 ·exact .inr ⟨L, q, h1, h2, h3, fun rd m => RoundIn.mono (h4 rd m) fun e w' ⟨v, e1, e2⟩ => ⟨v, e1, hr _ _ e2⟩⟩
variable {σ β : Type}
def zbm (P : Program) (yv : Value)  (Y : σ → Q3) (enc : β → List A) (y : σ → β → Option σ) : Prop :=
 ∀ s x s', y s x = some s' → wo P (.atom yv) (enc x) [(yv, .opq (Y s).q)] (.tup []) [.opq (Y s').q]
def zbf (k : Nat) (caps : List A) (ls : List (Value × A)) : Q3 := {
 holds := fun S h u F => wJ S (.fn k caps) u ∧ qu S h (ls.map (·.2)) (ls.map (·.1)) F
 one := by
  rintro S h u F ⟨⟨cs, q1, q2⟩, _⟩
  simp only [Rep] at q1
  obtain ⟨vs, _, _, rfl⟩ := q1
  rw [q2]; rfl
 frame := by
  intro S S' h h' v F hS hF q
  exact ⟨q.1.mono hS, qu.frame hS q.2 hF⟩
 own := by
  intro S h v F q
  exact qu.own q.2
 idx := 0 }
theorem z1Q {o : Q3} {u : Value}  (hn : F.Nodup) (q : o.holds S h u F) : qu S h [.opq o.q] [u] F :=
 ⟨F, [], by simp, .inr ⟨[u], by simp only [zw]; exact ⟨u, rfl, q⟩, hn, rfl⟩, rfl⟩
theorem z3W {o : Q3} {u : Value}  (q : qu S h [.opq o.q] [u] F) : o.holds S h u F := by
 obtain ⟨F1, F2, e, q1, q2⟩ := q
 have e2 : F2 = [] := q2
 have e' : F = F1 := by rw [e, e2]; simp
 subst e'
 rcases q1 with ⟨q1, _⟩ | ⟨cs, q1, _, q3⟩
 ·simp only [yX, wJ, Rep, false_and, exists_false] at q1
 ·simp only [zw] at q1
  obtain ⟨v, rfl, q1⟩ := q1
  rw [q3]; exact q1
theorem z0i {α β : Type} {R : α → β → Prop} : ∀ {l : List α} {x : α} {m : List β}, je R (l ++ [x]) m → ∃ m' y, m = m' ++ [y] ∧ je R l m' ∧ R x y
 | [], x, [y], q => ⟨[], y, rfl, trivial, q.1⟩
 | [], x, y :: z :: m, q => q.2.elim
 | [], x, [], q => q.elim
 | a :: l, x, b :: m, q => by
  obtain ⟨m', y, rfl, q1, q2⟩ := z0i q.2
  exact ⟨b :: m', y, rfl, ⟨q.1, q1⟩, q2⟩
 | _ :: _, _, [], q => q.elim
variable {f : A}
theorem z3V {P : Program} {f : A} {pre : List A}  {enc : β → List A} {k : Nat} {caps : List A} {ls : σ → List (Value × A)} {F : (σ → β → Option σ) → σ → Option σ} {y : σ → β → Option σ}
  (hF : ∀ (yv : Value) (Y : σ → Q3), zbm P yv Y enc y → ∀ s s', F y s = some s' → wo P f (pre ++ [.atom yv]) [(yv, .opq (Y s).q)] (.tup []) [.opq (Y s').q])
  (hc : ∀ s x s', y s x = some s' → wo P (.fn k caps) (enc x) (ls s) (.tup []) ((ls s').map (·.2))) (hk : ∀ s s', (ls s).map (·.1) = (ls s').map (·.1)) {s s' : σ} (h : F y s = some s') :
  wo P f (pre ++ [.fn k caps]) (ls s) (.tup []) ((ls s').map (·.2)) := by
 intro S w fv vs G hS hf ha hl hn
 obtain ⟨us, u, rfl, a1, a2⟩ := z0i ha
 have hu1 : u.oneCell' = true := by
  obtain ⟨cs, q1, q2⟩ := a2
  simp only [Rep] at q1
  obtain ⟨ws, _, _, rfl⟩ := q1
  rw [q2]; rfl
 have hu : wJ S (.atom u) u := ⟨[u], by simp only [Rep]; exact ⟨trivial, hu1⟩, rfl⟩
 have hy : zbm P u (fun s => zbf k caps (ls s)) enc y := by
  intro s x s' e S1 w1 fv1 vs1 G1 hS1 hf1 ha1 hl1 hn1
  have ef : fv1 = u := by
   obtain ⟨cs, q1, q2⟩ := hf1
   simp only [Rep] at q1
   obtain ⟨rfl, _⟩ := q1
   rw [q2]; rfl
  subst ef
  obtain ⟨g1, g2⟩ := z3W (o := zbf k caps (ls s)) hl1
  refine z8K.mono (hc s x s' e S1 w1 fv1 vs1 G1 hS1 g1 ha1 g2 hn1) ?_
  rintro v w' ⟨S', F', G', k1, k2, k3, k4, k5, k6, k7, k8⟩
  refine ⟨S', F', G', k1, k2, k3, k4, k5, z1Q (List.nodup_append.1 k7).1 ⟨g1.mono k2, ?_⟩, k7, k8⟩
  rw [hk s' s]; exact k6
 refine z8K.mono (hF u _ hy s s' h S w fv (us ++ [u]) G hS hf (VH a1 ⟨hu, trivial⟩) (z1Q hn ⟨a2, hl⟩) hn) ?_
 rintro v w' ⟨S', F', G', k1, k2, k3, k4, k5, k6, k7, k8⟩
 have q := (z3W (o := zbf k caps (ls s')) k6).2
 exact ⟨S', F', G', k1, k2, k3, k4, k5, by rw [hk s s']; exact q, k7, k8⟩
class zan {α : Type} (f : α → A) : Prop where
 ind : ∀ x, (f x).indep = true
instance {k : IntKind} : zan (eI k) := ⟨fun _ => rfl⟩
instance : zan eB := ⟨fun _ => rfl⟩
theorem z3T {l : List A} (h : ∀ x ∈ l, x.indep = true) : A.indeps l = true := by
 induction l with
 | nil => rfl
 | cons x l ih => simp [A.indeps, h x (by simp), ih fun y hy => h y (by simp [hy]), Bool.and_self]
instance {α : Type} {sz : Nat} {t : Bool} {f : α → A} [h : zan f] : zan (eOs sz t f) := ⟨fun l => z3T fun x hx => by obtain ⟨y, _, rfl⟩ := List.mem_map.1 hx; exact h.ind y⟩
theorem Has.indep {S S' : zf}  {a : A}   (hi : a.indep = true) (q : Has S h a v F) (hF : ∀ k ∈ F, ∀ o, S' k o = none) : Has S' h a v F := by
 rcases q with ⟨q, e⟩ | ⟨cs, q1, q2, q3⟩
 ·exact .inl ⟨q.indep hi, e⟩
 ·exact .inr ⟨cs, q1.indep hi hF, q2, q3⟩
inductive Wk : A → Option A → Prop where
 | keep {a : A} : a.indep = true → Wk a (some a)
 | drop {a : A} : Wk a none
theorem wkN {f : α → A} [h : zan f] (x : α) : Wk (f x) (some (f x)) := .keep (h.ind x)
inductive Wks : List A → List (Option A) → Prop where
 | nil : Wks [] []
 | cons {a : A} {b : Option A} {as_ : List A} {bs : List (Option A)} : Wk a b → Wks as_ bs → Wks (a :: as_) (b :: bs)
theorem Wks.tup {S S' : zf}  : ∀ {as_ : List A} {bs : List (Option A)}, Wks as_ bs → ∀ {vs : List Value} {F : List Nat}, qO S h (as_.map some) vs F → (∀ k ∈ F, ∀ o, S' k o = none) → ∃ F', qO S' h bs vs F' ∧ (∀ k ∈ F', k ∈ F) ∧ (F.Nodup → F'.Nodup)
 | _, _, .nil, vs, F, q, hF => by
  cases vs with
  | nil => exact ⟨F, q, fun _ hk => hk, id⟩
  | cons v vs => exact q.elim
 | _, _, .cons (a := a) (as_ := as_) hw hs, vs, F, q, hF => by
  cases vs with
  | nil => exact q.elim
  | cons v vs =>
   obtain ⟨F1, F2, rfl, q1, q2⟩ := q
   have ⟨F3, g1, g2, g3⟩ := hs.tup q2 (fun k hk => hF k (by simp [hk]))
   cases hw with
   | keep hi =>
    refine ⟨F3 ++ F1, ⟨F1, F3, rfl, q1.indep hi (fun k hk => hF k (by simp [hk])), g1⟩, fun k hk => ?_, fun hn => ?_⟩
    ·rcases List.mem_append.1 hk with hk | hk
     ·exact List.mem_append.2 (.inl (g2 k hk))
     ·exact List.mem_append.2 (.inr hk)
    ·rw [List.nodup_append] at hn ⊢
     exact ⟨g3 hn.1, hn.2.1, fun k hk k' hk' => hn.2.2 k (g2 k hk) k' hk'⟩
   | drop => exact ⟨F3, g1, fun k hk => List.mem_append.2 (.inl (g2 k hk)), fun hn => g3 (List.nodup_append.1 hn).1⟩
def z4E (r0 r : A) : Prop := ∀ (S S' : zf) (h : Array Obj) (v : Value) (F : List Nat), Has S h r0 v F → F.Nodup → (∀ k ∈ F, ∀ o, S' k o = none) → ∃ F', Has S' h r v F' ∧ F'.Nodup ∧ ∀ k ∈ F', k ∈ F
variable {bs : List (Option A)}
theorem yn (hs : Wks ls bs) : z4E (.opq (zG (ls.map some))) (.opq (zG bs)) := by
 intro S S' h v F q hn hF
 rcases q with ⟨q, _⟩ | ⟨cs, q1, q2, q3⟩
 ·simp only [yX, wJ, Rep, false_and, exists_false] at q
 ·simp only [zw] at q1
  obtain ⟨v0, rfl, vs, rfl, g1⟩ := q1
  have ⟨F', g2, g3, g4⟩ := hs.tup g1 hF
  refine ⟨F', .inr ⟨[.tuple vs.toArray], ?_, g4 hn, q3⟩, g4 hn, g3⟩
  simp only [zw]
  exact ⟨_, rfl, vs, rfl, g2⟩
theorem z2d : ∀ {as_ : List A} {vs : List Value}, je (wJ S) as_ vs → qO S h (as_.map some) vs []
 | [], [], _ => rfl
 | _ :: _, _ :: _, ⟨q, qs⟩ => ⟨[], [], rfl, .inl ⟨q.repV, rfl⟩, z2d qs⟩
 | [], _ :: _, q => q.elim
 | _ :: _, [], q => q.elim
theorem wp (hs : Wks ls bs) : z4E (.tup ls) (.opq (zG bs)) := by
 intro S S' h v F q hn hF
 rcases q with ⟨q, rfl⟩ | ⟨cs, q1, q2, q3⟩
 ·simp only [yX] at q
  obtain ⟨vs, rfl, g1⟩ := q
  obtain ⟨F', g2, g3, g4⟩ := hs.tup (z2d (h := h) g1) (by simp)
  refine ⟨F', .inr ⟨[.tuple vs.toArray], ?_, g4 hn, rfl⟩, g4 hn, g3⟩
  simp only [zw]
  exact ⟨_, rfl, vs, rfl, g2⟩
 ·simp only [zw] at q1
open Classical in
def z57 (f : A) (xs : List A) (r : A) : List A → Option A := fun l => if ∃ xs', l = f :: xs' ∧ ∀ S vs, je (wJ S) xs' vs → je (wJ S) xs vs then some r else none
variable {xs : List A}
theorem Wc {r : A} (xs' : List A) (h : Vv xs' xs) : z57 f xs r (f :: xs') = some r := by
 unfold z57
 rw [if_pos ⟨xs', rfl, h.all⟩]
def borQ (tt : TT) (tab : List A → Option A) (n : Fr) (dst : Option Nat) (as_ : List (Operand × Nat)) : SM Unit := do
 let xs ← ghost (shutArgs tt as_)
 match tab xs with
 | some r => wrT n dst (mkT r)
 | none => zm
variable {r0 r : A}{xs0 : List A}
section
variable {C : Ctx} {S : zf} {Fp : Nat → List Nat} {X : List Nat} {st : St} {a : Act} {w : World}
theorem z8u {tt : TT}    (hL : wo P f xs0 [] r0 []) (hW : z4E r0 r) (h : Sim C S Fp [] st a w) {op : Oper} {fo : Operand} {args : Array Operand} {tys : Array TypeId}
  (ho : op.op = .call { callee := .value fo, args := args, argTypes := tys }) (hsz : args.size = tys.size) {u : Unit} {R : List Nat} {U : List (Nat × Ent)}
  (e : borQ tt (z57 f xs0 r) C.n op.dst ((fo, 0) :: args.toList.zip tys.toList) st = some (u, R, U)) : vX P C op a w (ze U st) := by
 unfold borQ at e
 obtain ⟨xs, R1, U1, R2, U2, e1, e2, rfl, rfl⟩ := bind_some e
 have hmapargs : (args.toList.zip tys.toList).map (fun p => a.eval p.1) = (args.map a.eval).toList := by
  have : (args.toList.zip tys.toList).map (fun p => a.eval p.1) = ((args.toList.zip tys.toList).map (·.1)).map a.eval := by rw [List.map_map]; rfl
  rw [this, List.map_fst_zip (by simp [hsz])]
  simp
 unfold ghost at e1
 cases hs : shutArgs tt ((fo, 0) :: args.toList.zip tys.toList) st with
 | none => simp [hs] at e1
 | some q =>
  have ⟨ys, R3, U3⟩ := q
  simp only [hs, Option.some.injEq, Prod.mk.injEq] at e1
  obtain ⟨rfl, rfl, rfl⟩ := e1
  have ⟨S1, Fp1, g1, g2, _, g3⟩ := xW h hs
  simp only [ze, List.nil_append, List.map_cons, hmapargs] at e2 g3 ⊢
  cases ht : z57 f xs0 r ys with
  | none => simp only [ht] at e2; cases e2
  | some r' =>
   simp only [ht] at e2
   unfold z57 at ht
   split at ht
   ·rename_i hc
    obtain ⟨xs', rfl, hle⟩ := hc
    cases ht
    have hact := hL S1 w (a.eval fo) _ [] g1.still g3.1 (hle _ _ g3.2) (show qu S1 w.heap ([] : List A) ([] : List Value) [] from rfl) List.nodup_nil
    intro rd m K Q hK
    refine z6Y ho hact rd m K Q ?_
    rintro v w' ⟨S', F', G, b1, b2, b3, b4, b5, b6, b7, b8⟩
    have hG : G = [] := b6
    subst hG
    simp only [List.nil_append] at b7 b8
    have hnew : ∀ k ∈ F', w.heap.size ≤ k := fun k hk => (b8 k hk).elim id (fun q => by simp at q)
    let S3 : zf := fun b o => if b < w.heap.size then S b o else S' b o
    have hlt : ∀ b o u, S b o = some u → b < w.heap.size := fun b o u q => by
     have := h.still b o u q
     unfold zU at this
     cases hb : w.heap[b]? with
     | none => rw [hb] at this; cases this
     | some _ => exact (Array.getElem?_eq_some_iff.1 hb).1
    have hS3 : ∀ b o u, S b o = some u → S3 b o = some u := fun b o u q => by
     show (if b < w.heap.size then S b o else S' b o) = some u
     rw [if_pos (hlt b o u q)]; exact q
    have ⟨F2, k1, k2, k3⟩ := hW S' S3 w'.heap v F' b5 b7 (fun k hk o => by
     show (if k < w.heap.size then S k o else S' k o) = none
     rw [if_neg (by have := hnew k hk; omega)]
     exact (b5.own k hk).2 o)
    have hs3 : Sim C S3 Fp (F2 ++ []) st a w' := by
     rw [List.append_nil]
     refine h.mem (h.below.trans (b1.mono fun k hk => ?_)) hS3 ?_ ?_ ?_ k2 ?_ ?_
     ·rcases hk with hk | hk
      ·exact h.mine k (Nat.le_trans h.base_le hk)
      ·simp at hk
     ·intro b o u q
      have q' : (if b < w.heap.size then S b o else S' b o) = some u := q
      split at q'
      ·exact b4 b o u (b2 b o u (g2 b o u q'))
      ·exact b4 b o u q'
     ·intro b o hb
      show (if b < w.heap.size then S b o else S' b o) = _
      have : b < w.heap.size := by
       rcases Nat.lt_or_ge b w.heap.size with q | q
       ·exact q
       ·exact (hb (h.mine b (Nat.le_trans h.base_le q))).elim
      rw [if_pos this]
      exact h.sbase b o hb
     ·intro t k hk
      have hf := h.free t k hk
      refine ⟨b1.block k (by rintro (q | q) <;> first | (have := hf.1; omega) | simp at q), fun o => ?_⟩
      show (if k < w.heap.size then S k o else S' k o) = none
      rw [if_pos hf.1]
      exact hf.2.1 o
     ·intro t k hk hkt
      have := hnew k (k3 k hk)
      have := (h.free t k hkt).1
      omega
     ·exact fun k hk => h.mine k (Nat.le_trans h.base_le (hnew k (k3 k hk)))
    have ⟨Fp5, m2⟩ := Ql (X := []) hs3 e2 k1
    exact hK _ _ _ _ m2
   ·cases ht
end
theorem Loc.borQ (tt : TT) (tab : List A → Option A) (n : Fr) (dst : Option Nat) (as_ : List (Operand × Nat)) : Loc (borQ tt tab n dst as_) := by
 unfold Go.Own.borQ
 refine Loc.bind (Loc.shutArgs tt as_).ghost fun xs => ?_
 split
 ·exact Loc.wrT _ _ _
 ·exact Loc.fail
def zbi (tt : TT) (tab : List A → Option A) (r : A) (n : Fr) (dst : Option Nat) (as_ : List (Operand × Nat)) : HM Unit :=
 z1T (vd tt as_) >>= fun xs => z6K (tab xs = some r) >>= fun _ => zT (wrT n dst (mkT r))
theorem zb2 (tt : TT) (tab : List A → Option A) (r : A) (n : Fr) (dst : Option Nat) (as_ : List (Operand × Nat)) : Snd (borQ tt tab n dst as_) (zbi tt tab r n dst as_) := by
 unfold borQ zbi
 refine za (z37 (vQ _ _)) fun xs => Xa fun h => ?_
 simp [h]
 exact zi _
def QJ (tt : TT) (tab : List A → Option A) (d : Nat) (n : Fr) (o : Oper) : Option (SM Unit) :=
 match o.op with
 | .call ⟨.value f, args, tys⟩ => if o.dst = some d ∧ args.size = tys.size then some (borQ tt tab n o.dst ((f, 0) :: args.toList.zip tys.toList)) else none
 | _ => none
theorem z41 (hL : wo P f xs0 [] r0 []) (hW : z4E r0 r) (d : Nat) : Vw P (QJ tt (z57 f xs0 r) d) := by
 refine ⟨?_, ?_⟩
 ·intro C S Fp st a w o m u R U e h h2
  unfold QJ at e
  split at e
  ·rename_i ho
   split at e
   ·rename_i hc
    cases e
    exact z8u hL hW h ho hc.2 h2
   ·cases e
  ·cases e
 ·intro n o m e
  unfold QJ at e
  split at e
  ·split at e
   ·cases e
    exact fun st st' a R U => Loc.borQ _ _ _ _ _ st st' a R U
   ·cases e
  ·cases e
def u3 (tt : TT)    (hL : wo P f xs [] r0 []) (hW : z4E r0 r) (dd : Nat) : XH P := {
 e := QJ tt (z57 f xs r) dd
 h := fun n o => match o.op with
  | .call ⟨.value g, args, tys⟩ => if o.dst = some dd ∧ args.size = tys.size then some (zbi tt (z57 f xs r) r n o.dst ((g, 0) :: args.toList.zip tys.toList)) else none
  | _ => none
 ok := z41 hL hW dd
 none := by
  intro n o e
  unfold QJ at e
  split at e
  ·rename_i ho
   split at e
   ·cases e
   ·rename_i hd; simp [if_neg hd]
  ·rfl
 some := by
  intro n o m e
  unfold QJ at e
  split at e
  ·rename_i ho
   split at e
   ·rename_i hd; cases e
    exact ⟨_, if_pos hd, zb2 tt (z57 f xs r) r n o.dst _⟩
   ·cases e
  ·cases e }
section
variable {α : Type}
def eFo (sz : Nat) (f : α → A) (x : List α × Bool) : A := bif x.2 then .osl sz true (x.1.map f) else .sl sz false (x.1.map f)
theorem iMf (sz : Nat) (f : α → A) {l : List (List α × Bool)} {i : Int} {u : List α × Bool} (h : idx l i = some u) (e : u.2 = false) : (l.map (eFo sz f))[i.toNat]? = some (eSl sz false f u.1) := by
 rw [iM _ h]
 obtain ⟨x, b⟩ := u
 cases e
 rfl
theorem foL (sz : Nat) (f : α → A) (l : List (List α)) : (l.map fun x => (x, false)).map (eFo sz f) = l.map (eSl sz false f) := by
 rw [List.map_map]; rfl
theorem foE {f : α → A} {l : List (List α × Bool)} (h : ∀ x ∈ l, x.2 = true) : l.map (eFo sz f) = (l.map (·.1)).map (eOs sz true f) := by
 rw [List.map_map]
 exact List.map_congr_left fun x hx => by simp [eFo, eOs, h x hx]
instance LeA.foO (s t : Nat) (b : Bool) (f : α → A) (l : List (List α)) : LeA (eOs s b (eSl t false f) l) (eOs s b (eFo t f) (l.map fun x => (x, false))) := by
 unfold eOs; rw [foL]; infer_instance
theorem foA {f : α → A} {l : List (List α × Bool)} (h : ∀ x ∈ l, x.2 = true) : LeA (eOs s b (eFo t f) l) (eOs s b (eOs t true f) (l.map (·.1))) := by
 have e : eOs s b (eFo t f) l = eOs s b (eOs t true f) (l.map (·.1)) := by
  show A.osl s b (l.map (eFo t f)) = .osl s b ((l.map (·.1)).map (eOs t true f))
  rw [foE h]
 rw [e]; infer_instance
end
end Go.Own
end
