/- -/
import Derived.Test.YtkelmheleahmpaaDoorPartC
import Derived.Laws.BytesString
noncomputable section
set_option linter.unusedVariables false
set_option linter.unusedSimpArgs false
namespace Go.Own
def kj (sz : Nat) (v : Value) (l : Int) : Value :=
 match v with
 | .slice a n c => .slice (if c = l.toNat then a else a.map (·.add (l.toNat * sz))) (n - l.toNat) (c - l.toNat)
 | v => v
variable {v : Value}{sz : Nat}{l : Int}
theorem z5q (h : v.oneCell' = true) : (kj sz v l).oneCell' = true := by
 unfold kj
 split
 ·rfl
 ·exact h
variable {P : Program}{U : List (Nat × Ent)}{R : List Nat}{tt : TT}{o : Oper}{u : Unit}{es : List A}{x : Operand}
section
variable {C : Ctx} {S : zj} {Fp : Nat → List Nat} {st : St} {a : Act} {w : World}
theorem z2I {r : Nat} {er ec : Nat} {u : Value} (ha : qr w.heap st (Act.tv a) r [] er ec u) {x0 : A} (hr : (st r).t = .own x0) (e1 : (st r).er = er) : u = Act.tv a r := by
 have a3 := ha.2.2
 simp only [hr] at a3
 simp [jR] at a3
 exact a3 e1
theorem QK (h : Sim C S Fp [] st a w) {r sz : Nat} {tg : Bool}  (hr : (st r).t = .own (.osl sz tg es)) :
  ∃ p c, Act.tv a r = .slice p es.length c ∧ es.length ≤ c ∧ (∀ x ∈ es, x.size = sz) ∧ (0 < es.length → ∃ b, p = some ⟨b, 0, none⟩) := by
 have hq := h.ent r
 unfold yT at hq
 simp only [hr] at hq
 obtain ⟨cs, c1, c2, c3⟩ := hq
 simp only [zG] at c1
 obtain ⟨p, c, rfl, t1, t2, t3, t4, t5⟩ := c1
 refine ⟨p, c, by rw [c3]; rfl, t2, t4, fun hp => ?_⟩
 rcases t5 with ⟨rfl, _⟩ | ⟨b, arr, ty, l, F', rfl, _⟩
 ·simp at hp
 ·exact ⟨b, rfl⟩
open Classical in
def vwK (tt : TT) (n : Fr) (dst : Option Nat) (ty r : Nat) (v : Value) (tx : T) (vl : A) (e : Ent) : SM Unit :=
 match vl with
 | .atom (.int _ j) =>
  if (tx = .als r [] e.er e.ec ∨ tx = .d (.atom v)) ∧ W6 n.pin r = some v then
   match e.t with
   | .own (.osl sz _ es) => if yZ tt ty = some sz ∧ 0 ≤ j ∧ j.toNat ≤ es.length then wrT n dst (.d (.atom (kj sz v j))) else zl
   | _ => zl
  else zl
 | _ => zl
def vwO (tt : TT) (n : Fr) (dst : Option Nat) (ty r : Nat) (v : Value) (x lo : Operand) : SM Unit := do
 let tx ← opnd x
 let tl ← opnd lo
 let vl ← val tl
 let e ← rdE r
 vwK tt n dst ty r v tx vl e
def vwH (tt : TT) (n : Fr) (dst : Option Nat) (ty r : Nat) (v : Value) (x lo : Operand) : HM Unit := zV (opnd x) >>= fun tx => zV (opnd lo) >>= fun tl => ZS tl >>= fun vl => zV (rdE r) >>= fun e =>
 match vl with
 | .atom (.int _ j) => ud ((tx = .als r [] e.er e.ec ∨ tx = .d (.atom v)) ∧ W6 n.pin r = some v)
   (match e.t with
   | .own (.osl sz _ es) => if yZ tt ty = some sz then ud (0 ≤ j ∧ j.toNat ≤ es.length) (zV (wrT n dst (.d (.atom (kj sz v j))))) else zH
   | _ => zH)
 | _ => zH
open Classical in
theorem zdX (tt : TT) (n : Fr) (dst : Option Nat) (ty r : Nat) (v : Value) (x lo : Operand) : Snd (vwO tt n dst ty r v x lo) (vwH tt n dst ty r v x lo) := by
 refine ze (zi _) fun tx => ze (zi _) fun tl => ze (vu _) fun vl => ze (zi _) fun e => ?_
 cases vl with
 | atom u =>
  cases u with
  | int k j =>
   refine xK ?_
   cases e.t with
   | own y =>
    cases y with
    | osl sz tg es => exact Vy (fun h1 h2 => ⟨h1, h2.1, h2.2⟩) (zi _)
    | _ => exact zo _
   | _ => exact zo _
  | _ => exact zo _
 | _ => exact zo _
open Classical in
theorem Loc.vwO (tt : TT) (n : Fr) (dst : Option Nat) (ty r : Nat) (v : Value) (x lo : Operand) : Loc (vwO tt n dst ty r v x lo) := by
 unfold Go.Own.vwO
 refine Loc.bind (Loc.opnd _) fun _ => Loc.bind (Loc.opnd _) fun _ => Loc.bind (Loc.val _) fun _ => Loc.bind (Loc.rdE _) fun _ => ?_
 unfold Go.Own.vwK
 split
 ·refine Loc.ite ?_ Loc.fail
  split
  ·exact Loc.ite (Loc.wrT _ _ _) Loc.fail
  ·exact Loc.fail
 ·exact Loc.fail
theorem zbk {P : Program}  (hT : xG P tt) (h : Sim C S Fp [] st a w)  {t r : Nat} {v : Value} {x lo : Operand} (ho : o.op = .slice t x (some lo) none none)    (e0 : vwO tt C.n o.dst t r v x lo st = some (u, R, U)) : wZ P C o a w (zc U st) := by
 unfold vwO at e0
 obtain ⟨tx, R1, U1, R2, U2, h1, e1, rfl, rfl⟩ := bind_some e0
 obtain ⟨rfl, hx⟩ := zz h h1
 obtain ⟨tl, R3, U3, R4, U4, h3, e2, rfl, rfl⟩ := bind_some e1
 obtain ⟨rfl, hl⟩ := zz h h3
 obtain ⟨vl, R5, U5, R6, U6, h5, e3, rfl, rfl⟩ := bind_some e2
 obtain ⟨rfl, ql⟩ := xP h hl h5
 obtain ⟨en, R7, U7, R8, U8, h7, e4, rfl, rfl⟩ := bind_some e3
 obtain ⟨rfl, rfl, rfl⟩ := y8 h7
 simp only [zc, List.nil_append] at e4 ⊢
 unfold vwK at e4
 split at e4
 ·rename_i k j
  split at e4
  ·rename_i hc
   obtain ⟨c1, c2⟩ := hc
   have hs := h.pin r v (u6 c2)
   cases ht : (st r).t with
   | own y =>
    cases y with
    | osl sz tg es =>
     simp only [ht] at e4
     split at e4
     ·rename_i hd
      obtain ⟨d1, d2, d3⟩ := hd
      obtain ⟨p, c, ev, hlc, _, _⟩ := QK h ht
      have hxv : a.eval x = .slice p es.length c := by
       rcases c1 with rfl | rfl
       ·rw [← ev]; exact z2I hx ht rfl
       ·rw [(zp.1 hx).1, ← hs, ev]
      obtain ⟨el, he, hsz⟩ := xT hT d1 w
      obtain ⟨el', _⟩ := zp.1 ql
      have hrun := qa (P := P) (w := w) he hsz (p := p) (len := es.length) (c := c) (m := c) (lo := some (.int k j)) (hi := none) (mx := none) (.inr ⟨k, j, rfl, d2, rfl⟩) (.inl ⟨rfl, rfl⟩) (.inl ⟨rfl, rfl⟩) d3 hlc (Nat.le_refl c) (by simp)
      have hvv : v = .slice p es.length c := by rw [← hs, ev]
      obtain ⟨Fp', hs'⟩ := xW h e4 (x := .d (.atom (kj sz v j))) (v := kj sz v j) (zp.2 ⟨rfl, by rw [hvv]; exact z5q rfl⟩)
      refine zn ?_ hs'
      rw [hvv]
      simp [execOp, ho, hxv, el', hrun, kj]
     ·exact (z6 e4).elim
    | _ => simp only [ht] at e4; exact (z6 e4).elim
   | _ => simp only [ht] at e4; exact (z6 e4).elim
  ·exact (z6 e4).elim
 ·exact (z6 e4).elim
open Classical in
def vlO (n : Fr) (dst : Option Nat) (sz r : Nat) (v : Value) (l : Int) (x : Operand) : SM Unit := do
 let tx ← opnd x
 let e ← rdE r
 if tx = .d (.atom (kj sz v l)) ∧ W6 n.pin r = some v then
  match e.t with
  | .own (.osl _ _ es) => wrT n dst (.d (.atom (.int .i64 ((es.length - l.toNat : Nat) : Int))))
  | _ => zl
 else zl
def vlH (n : Fr) (dst : Option Nat) (sz r : Nat) (v : Value) (l : Int) (x : Operand) : HM Unit := zV (opnd x) >>= fun tx => zV (rdE r) >>= fun e => ud (tx = .d (.atom (kj sz v l)) ∧ W6 n.pin r = some v)
  (match e.t with
  | .own (.osl _ _ es) => eqA (.atom (.int .i64 ((es.length - l.toNat : Nat) : Int))) >>= fun y => zV (wrT n dst (.d y))
  | _ => zH)
open Classical in
theorem zdY (n : Fr) (dst : Option Nat) (sz r : Nat) (v : Value) (l : Int) (x : Operand) : Snd (vlO n dst sz r v l x) (vlH n dst sz r v l x) := by
 refine ze (zi _) fun tx => ze (zi _) fun e => xK ?_
 cases e.t with
 | own y =>
  cases y with
  | osl sz tg es => exact Yz (zU _ fun y => wrT n dst (.d y)).symm (ze (UB _) fun _ => zi _)
  | _ => exact zo _
 | _ => exact zo _
open Classical in
theorem Loc.vlO (n : Fr) (dst : Option Nat) (sz r : Nat) (v : Value) (l : Int) (x : Operand) : Loc (vlO n dst sz r v l x) := by
 unfold Go.Own.vlO
 refine Loc.bind (Loc.opnd _) fun _ => Loc.bind (Loc.rdE _) fun _ => Loc.ite ?_ Loc.fail
 split
 ·exact Loc.wrT _ _ _
 ·exact Loc.fail
theorem zbl (hT : xG P tt) (h : Sim C S Fp [] st a w)  {t sz r : Nat}   {x : Operand} (hty : u9 tt t = true) (ho : o.op = .call ⟨.builtin .len, ⟨[x]⟩, ⟨[t]⟩⟩)    (e0 : vlO C.n o.dst sz r v l x st = some (u, R, U)) : wZ P C o a w (zc U st) := by
 unfold vlO at e0
 obtain ⟨tx, R1, U1, R2, U2, h1, e1, rfl, rfl⟩ := bind_some e0
 obtain ⟨rfl, hx⟩ := zz h h1
 obtain ⟨en, R7, U7, R8, U8, h7, e4, rfl, rfl⟩ := bind_some e1
 obtain ⟨rfl, rfl, rfl⟩ := y8 h7
 simp only [zc, List.nil_append] at e4 ⊢
 split at e4
 ·rename_i hc
  obtain ⟨rfl, c2⟩ := hc
  have hs := h.pin r v (u6 c2)
  cases ht : (st r).t with
  | own y =>
   cases y with
   | osl sz' tg es =>
    simp only [ht] at e4
    obtain ⟨p, c, ev, hlc, _, _⟩ := QK h ht
    have hxv := (zp.1 hx).1
    have hvv : v = .slice p es.length c := by rw [← hs, ev]
    obtain ⟨el, he⟩ := jD hT hty
    obtain ⟨Fp', hs'⟩ := xW h e4 (x := .d (.atom (.int .i64 ((es.length - l.toNat : Nat) : Int)))) (zp.2 ⟨rfl, rfl⟩)
    refine zn ?_ hs'
    have ex : a.eval x = .slice (if c = l.toNat then p else p.map (·.add (l.toNat * sz))) (es.length - l.toNat) (c - l.toNat) := by rw [hxv, hvv]; rfl
    simp [execOp, ho, resolve, invoke, builtin, Builtin.len_, run_underlying he, ex, goInt]
   | _ => simp only [ht] at e4; exact (z6 e4).elim
  | _ => simp only [ht] at e4; exact (z6 e4).elim
 ·exact (z6 e4).elim
open Classical in
def viO (tt : TT) (n : Fr) (dst : Option Nat) (ty sz r : Nat) (v : Value) (l : Int) (x i : Operand) : SM Unit := do
 let tx ← opnd x
 let ti ← opnd i
 let vi ← val ti
 let e ← rdE r
 match vi with
 | .atom (.int _ j) =>
  if tx = .d (.atom (kj sz v l)) ∧ W6 n.pin r = some v then
   match e.t with
   | .own (.osl sz' _ es) => if yZ tt ty = some sz ∧ sz' = sz ∧ 0 ≤ l ∧ 0 ≤ j ∧ (l + j).toNat < es.length then wrT n dst (.ptr r [.idx (l + j).toNat] e.er e.ec) else zl
   | _ => zl
  else zl
 | _ => zl
def viH (tt : TT) (n : Fr) (dst : Option Nat) (ty sz r : Nat) (v : Value) (l : Int) (x i : Operand) : HM Unit := zV (opnd x) >>= fun tx => zV (opnd i) >>= fun ti => ZS ti >>= fun vi => zV (rdE r) >>= fun e =>
 match vi with
 | .atom (.int _ j) => ud (tx = .d (.atom (kj sz v l)) ∧ W6 n.pin r = some v)
   (match e.t with
   | .own (.osl sz' _ es) => if yZ tt ty = some sz ∧ sz' = sz then ud (0 ≤ l ∧ 0 ≤ j ∧ (l + j).toNat < es.length) (zV (wrT n dst (.ptr r [.idx (l + j).toNat] e.er e.ec))) else zH
   | _ => zH)
 | _ => zH
open Classical in
theorem zdZ (tt : TT) (n : Fr) (dst : Option Nat) (ty sz r : Nat) (v : Value) (l : Int) (x i : Operand) : Snd (viO tt n dst ty sz r v l x i) (viH tt n dst ty sz r v l x i) := by
 refine ze (zi _) fun tx => ze (zi _) fun ti => ze (vu _) fun vi => ze (zi _) fun e => ?_
 cases vi with
 | atom u =>
  cases u with
  | int k j =>
   refine xK ?_
   cases e.t with
   | own y =>
    cases y with
    | osl sz' tg es => exact Vy (fun h1 h2 => ⟨h1.1, h1.2, h2.1, h2.2.1, h2.2.2⟩) (zi _)
    | _ => exact zo _
   | _ => exact zo _
  | _ => exact zo _
 | _ => exact zo _
open Classical in
theorem Loc.viO (tt : TT) (n : Fr) (dst : Option Nat) (ty sz r : Nat) (v : Value) (l : Int) (x i : Operand) : Loc (viO tt n dst ty sz r v l x i) := by
 unfold Go.Own.viO
 refine Loc.bind (Loc.opnd _) fun _ => Loc.bind (Loc.opnd _) fun _ => Loc.bind (Loc.val _) fun _ => Loc.bind (Loc.rdE _) fun _ => ?_
 split
 ·refine Loc.ite ?_ Loc.fail
  split
  ·exact Loc.ite (Loc.wrT _ _ _) Loc.fail
  ·exact Loc.fail
 ·exact Loc.fail
theorem zbm {P : Program}  (hT : xG P tt) (h : Sim C S Fp [] st a w) {o : Oper} {t sz r : Nat}   {x i : Operand} (ho : o.op = .indexAddr t x i)    (e0 : viO tt C.n o.dst t sz r v l x i st = some (u, R, U)) : wZ P C o a w (zc U st) := by
 unfold viO at e0
 obtain ⟨tx, R1, U1, R2, U2, h1, e1, rfl, rfl⟩ := bind_some e0
 obtain ⟨rfl, hx⟩ := zz h h1
 obtain ⟨ti, R3, U3, R4, U4, h3, e2, rfl, rfl⟩ := bind_some e1
 obtain ⟨rfl, hi⟩ := zz h h3
 obtain ⟨vi, R5, U5, R6, U6, h5, e3, rfl, rfl⟩ := bind_some e2
 obtain ⟨rfl, qi⟩ := xP h hi h5
 obtain ⟨en, R7, U7, R8, U8, h7, e4, rfl, rfl⟩ := bind_some e3
 obtain ⟨rfl, rfl, rfl⟩ := y8 h7
 simp only [zc, List.nil_append] at e4 ⊢
 split at e4
 ·rename_i k j
  split at e4
  ·rename_i hc
   obtain ⟨rfl, c2⟩ := hc
   have hs := h.pin r v (u6 c2)
   cases ht : (st r).t with
   | own y =>
    cases y with
    | osl sz' tg es =>
     simp only [ht] at e4
     split at e4
     ·rename_i hd
      obtain ⟨d1, rfl, d3, d4, d5⟩ := hd
      have hals : qr w.heap st (Act.tv a) r [] (st r).er (st r).ec (Act.tv a r) := by
       refine ⟨Nat.le_refl _, Nat.le_refl _, ?_⟩
       simp [ht]
      obtain ⟨b, c, ev, hp⟩ := z3Q h hals ht rfl (.inl rfl) rfl d5
      obtain ⟨e', he, hsz⟩ := xT hT d1 w
      have hp' : TOk S w.heap st (Act.tv a) (T.ptr r [uI.idx (l + j).toNat] (st r).er (st r).ec) (.pointer (some ⟨b, (l + j).toNat * sz', none⟩)) := hp
      obtain ⟨Fp', hs'⟩ := xW h e4 hp'
      obtain ⟨ei, _⟩ := zp.1 qi
      have hvv : v = .slice (some ⟨b, 0, none⟩) es.length c := by rw [← hs, ev]
      obtain ⟨p2, c2', ev2, hlc, _, _⟩ := QK h ht
      have hcc : es.length ≤ c := by
       rw [ev] at ev2
       simp only [Value.slice.injEq] at ev2
       rw [ev2.2.2]; exact hlc
      have hxv : a.eval x = .slice (some ⟨b, l.toNat * sz', none⟩) (es.length - l.toNat) (c - l.toNat) := by
       rw [(zp.1 hx).1, hvv]
       have : ¬ c = l.toNat := by omega
       simp [kj, this, Addr.add_lit]
      have hsum : (l + j).toNat = l.toNat + j.toNat := by omega
      refine zn ?_ hs'
      have hrun := kT (P := P) (b := b) (o := l.toNat * sz') (n := es.length - l.toNat) (c := c - l.toNat) (k := k) he hsz d4 (by omega)
      have hoff : l.toNat * sz' + j.toNat * sz' = (l + j).toNat * sz' := by rw [hsum, Nat.add_mul]
      rw [hoff] at hrun
      simp [execOp, ho, ei, hxv, hrun]
     ·exact (z6 e4).elim
    | _ => simp only [ht] at e4; exact (z6 e4).elim
   | _ => simp only [ht] at e4; exact (z6 e4).elim
  ·exact (z6 e4).elim
 ·exact (z6 e4).elim
end
def KD (i : TI) : Option A :=
 match i.zero with
 | some z => if z.live = true then some z.shut.loose else none
 | none => none
theorem z1m {i : TI} {z' : A} (h : KD i = some z') : ∃ z, i.zero = some z ∧ z.live = true ∧ z' = z.shut.loose := by
 unfold KD at h
 split at h
 ·rename_i z hz
  split at h
  ·rename_i hl; cases h; exact ⟨z, hz, hl, rfl⟩
  ·cases h
 ·cases h
theorem Uv (z : Array Value) (n : Nat) : (Builtin.zeroCells z n).toList = (List.replicate n z.toList).flatten := by
 apply List.ext_getElem?
 intro k
 rw [J8, Array.length_toList]
 simp only [Builtin.zeroCells, Array.toList_map, Array.toList_range, List.getElem?_map]
 by_cases hk : k < n * z.size
 ·rw [if_pos hk, List.getElem?_range hk, Option.map_some]
  have hz : 0 < z.size := by
   rcases Nat.eq_zero_or_pos z.size with h0 | h0
   ·rw [h0] at hk; simp at hk
   ·exact h0
  have hmod : k % z.size < z.size := Nat.mod_lt _ hz
  rw [Array.getElem?_toList, Array.getElem?_eq_getElem hmod, getElem!_pos z _ hmod]
 ·rw [if_neg hk, List.getElem?_eq_none (by simpa using hk), Option.map_none]
variable {S : zj}
theorem z64 : ∀ {xs : List A} {cs : List Value} (_ : ya S xs cs) (_ : ∀ x ∈ xs, x.size = sz) (l : Nat), ya S (xs.take l) (cs.take (l * sz))
 | [], cs, h, _, l => by simp only [ya] at h; subst h; simp [ya]
 | x :: xs, cs, h, hs, 0 => by simp [ya]
 | x :: xs, cs, h, hs, l + 1 => by
  simp only [ya] at h
  obtain ⟨c1, c2, rfl, h1, h2⟩ := h
  have hl : c1.length = sz := by rw [h1.len]; exact hs x (by simp)
  rw [List.take_succ_cons, Nat.succ_mul, Nat.add_comm, ← hl, List.take_length_add_append]
  simp only [ya]
  rw [hl]
  exact ⟨c1, _, rfl, h1, z64 h2 (fun y hy => hs y (by simp [hy])) l⟩
theorem z2K {arr : Array Value} {o : Nat} {zs : List Value} (h : o + zs.length ≤ arr.size) : (kq arr o zs).toList.take (o + zs.length) = arr.toList.take o ++ zs := by
 rw [← v8 h]
 have h1 : (arr.toList.take o).length = o := by simp; omega
 simp only []
 rw [show o + zs.length = (arr.toList.take o ++ zs).length by simp; omega, List.take_left]
section
variable {C : Ctx} {S : zj} {Fp : Nat → List Nat} {st : St} {a : Act} {w : World}
def vcK (tt : TT) (n : Fr) (dst : Option Nat) (ty sz r : Nat) (l : Int) (e : Ent) : SM Unit :=
 match e.t with
 | .own (.osl sz' tg es) =>
  match tt ty with
  | some ⟨.slice el, _, _, _, _⟩ =>
   match tt el with
   | some i =>
    match KD i with
    | some z => if sz' = sz ∧ i.size = sz ∧ 0 ≤ l ∧ l.toNat ≤ es.length ∧ A.areD es = true then
      wrE r ⟨.own (.osl sz tg (es.take l.toNat ++ List.replicate (es.length - l.toNat) z)), e.er, e.ec + 1⟩ >>= fun _ => wrT n dst (.d (.tup []))
     else zl
    | none => zl
   | none => zl
  | _ => zl
 | _ => zl
open Classical in
def vcO (tt : TT) (n : Fr) (dst : Option Nat) (ty sz r : Nat) (v : Value) (l : Int) (x : Operand) : SM Unit := do
 let tx ← opnd x
 let e ← rdE r
 if tx = .d (.atom (kj sz v l)) ∧ W6 n.pin r = some v then vcK tt n dst ty sz r l e else zl
def vcH (tt : TT) (n : Fr) (dst : Option Nat) (ty sz r : Nat) (v : Value) (l : Int) (x : Operand) : HM Unit := zV (opnd x) >>= fun tx => zV (rdE r) >>= fun e => ud (tx = .d (.atom (kj sz v l)) ∧ W6 n.pin r = some v)
  (match e.t with
  | .own (.osl sz' tg es) =>
   match tt ty with
   | some ⟨.slice el, _, _, _, _⟩ =>
    match tt el with
    | some i =>
     match KD i with
     | some z => if sz' = sz ∧ i.size = sz then ud (0 ≤ l ∧ l.toNat ≤ es.length ∧ A.areD es = true)
       (eqL (es.take l.toNat ++ List.replicate (es.length - l.toNat) z) >>= fun zs => zV (wrE r ⟨.own (.osl sz tg zs), e.er, e.ec + 1⟩ >>= fun _ => wrT n dst (.d (.tup []))))
      else zH
     | none => zH
    | none => zH
   | _ => zH
  | _ => zH)
open Classical in
theorem ze0 (tt : TT) (n : Fr) (dst : Option Nat) (ty sz r : Nat) (v : Value) (l : Int) (x : Operand) : Snd (vcO tt n dst ty sz r v l x) (vcH tt n dst ty sz r v l x) := by
 refine ze (zi _) fun tx => ze (zi _) fun e => xK ?_
 unfold vcK
 cases e.t with
 | own y =>
  cases y with
  | osl sz' tg es =>
   dsimp only
   generalize tt ty = q
   rcases q with _ | ⟨k, a1, a2, a3, a4⟩
   ·exact zo _
   ·cases k with
    | slice el =>
     dsimp only
     generalize tt el = q
     cases q with
     | none => exact zo _
     | some i =>
      dsimp only
      cases KD i with
      | none => exact zo _
      | some z =>
       refine Vy (fun h1 h2 => ⟨h1.1, h1.2, h2.1, h2.2.1, h2.2.2⟩) ?_
       exact Yz (zU _ fun zs => wrE r ⟨.own (.osl sz tg zs), e.er, e.ec + 1⟩ >>= fun _ => wrT n dst (.d (.tup []))).symm (ze (z2o _) fun _ => zi _)
    | _ => exact zo _
  | _ => exact zo _
 | _ => exact zo _
open Classical in
theorem Loc.vcO (tt : TT) (n : Fr) (dst : Option Nat) (ty sz r : Nat) (v : Value) (l : Int) (x : Operand) : Loc (vcO tt n dst ty sz r v l x) := by
 unfold Go.Own.vcO
 refine Loc.bind (Loc.opnd _) fun _ => Loc.bind (Loc.rdE _) fun _ => Loc.ite ?_ Loc.fail
 unfold Go.Own.vcK
 split
 ·split
  ·split
   ·split
    ·exact Loc.ite (Loc.bind (Loc.wrE _ _) fun _ => Loc.wrT _ _ _) Loc.fail
    ·exact Loc.fail
   ·exact Loc.fail
  ·exact Loc.fail
 ·exact Loc.fail
theorem zbn (hT : xG P tt) (h : Sim C S Fp [] st a w)  {t sz r : Nat} {v : Value}  {x : Operand} (ho : o.op = .call ⟨.builtin .clear, ⟨[x]⟩, ⟨[t]⟩⟩)    (e0 : vcO tt C.n o.dst t sz r v l x st = some (u, R, U)) : wZ P C o a w (zc U st) := by
  unfold vcO at e0
  obtain ⟨tx, R1, U1, R2, U2, h1, e1, rfl, rfl⟩ := bind_some e0
  obtain ⟨rfl, hx⟩ := zz h h1
  obtain ⟨en, R7, U7, R8, U8, h7, e4, rfl, rfl⟩ := bind_some e1
  obtain ⟨rfl, rfl, rfl⟩ := y8 h7
  simp only [zc, List.nil_append] at e4 ⊢
  split at e4
  · rename_i hc
    obtain ⟨rfl, c2⟩ := hc
    have hs := h.pin r v (u6 c2)
    unfold vcK at e4
    cases ht : (st r).t with
    | own y =>
     cases y with
     | osl sz' tg es =>
      simp only [ht] at e4
      obtain ⟨el, a1, a2, a3, a4, hty⟩ : ∃ el a1 a2 a3 a4, tt t = some ⟨.slice el, a1, a2, a3, a4⟩ := by
        cases hq : tt t with
        | none => simp only [hq] at e4; exact (z6 e4).elim
        | some it =>
          obtain ⟨k, a1, a2, a3, a4⟩ := it
          cases k with
          | slice el => exact ⟨el, a1, a2, a3, a4, rfl⟩
          | _ => simp only [hq] at e4; exact (z6 e4).elim
      simp only [hty] at e4
      obtain ⟨i, hi⟩ : ∃ i, tt el = some i := by
        cases hq : tt el with
        | none => simp only [hq] at e4; exact (z6 e4).elim
        | some i => exact ⟨i, rfl⟩
      simp only [hi] at e4
      obtain ⟨z', hz'⟩ : ∃ z', KD i = some z' := by
        cases hq : KD i with
        | none => simp only [hq] at e4; exact (z6 e4).elim
        | some i => exact ⟨i, rfl⟩
      simp only [hz'] at e4
      have hel : P.underlying t = some (.slice el) := (hT _ _ hty).kind
      · · split at e4
          · rename_i hd
            obtain ⟨rfl, d2, d3, d4, d5⟩ := hd
            obtain ⟨z, hz, hlv, rfl⟩ := z1m hz'
            obtain ⟨f, f1, f2, f3, f4⟩ := (hT _ _ hi).info
            obtain ⟨zv, v1, v2, v3⟩ := f4 z hz
            have hzr : Rep S z.shut.loose zv.cells.toList := ((v3 S w.heap).shut (fun _ _ _ q => q) hlv (by simp)).loose
            have hzl : zv.cells.toList.length = sz' := by rw [((v3 S w.heap).shut (S' := S) (fun _ _ _ q => q) hlv (by simp)).len, A.size_shut, v2, d2]
            have hq := h.ent r
            unfold yT at hq
            simp only [ht] at hq
            obtain ⟨cs, c1, c3, c4⟩ := hq
            simp only [zG] at c1
            obtain ⟨p, c, rfl, t1, t2, t3, t4, t5⟩ := c1
            have ev : Act.tv a r = .slice p es.length c := c4
            have hvv : v = .slice p es.length c := by rw [← hs, ev]
            have hxv := (zp.1 hx).1
            rw [hvv] at hxv
            obtain ⟨y1, R9, U9, R10, U10, h9, e5, rfl, rfl⟩ := bind_some e4
            obtain ⟨rfl, rfl⟩ := xS h9
            have hlen : (es.take l.toNat ++ List.replicate (es.length - l.toNat) z.shut.loose).length = es.length := by simp; omega
            have hsz : ∀ y ∈ es.take l.toNat ++ List.replicate (es.length - l.toNat) z.shut.loose, y.size = sz' := by
              intro y hy
              rcases List.mem_append.1 hy with q | q
              · exact t4 y (List.mem_of_mem_take q)
              · rw [List.eq_of_mem_replicate q, ← hzr.len, hzl]
            have hreps : ∀ n, ya S (List.replicate n z.shut.loose) (List.replicate n zv.cells.toList).flatten := by
              intro n
              induction n with
              | zero => simp [ya]
              | succ n ih => simp only [List.replicate_succ, List.flatten_cons, ya]; exact ⟨_, _, rfl, hzr, ih⟩
            obtain ⟨w', F', hrun, hkept, hst, hfr, hconc, hF'⟩ : ∃ w' F', (Builtin.clear_ #[t] o.type #[a.eval x]).run P w = .ok (.tuple #[]) w' ∧ jO C.M w w' ∧ (∀ b o u, S b o = some u → y6 w'.heap b o = some u) ∧ (∀ k, k ∉ Fp r → w'.heap[k]? = w.heap[k]?) ∧
                zG S w'.heap (.osl sz' tg (es.take l.toNat ++ List.replicate (es.length - l.toNat) z.shut.loose)) [.slice p es.length c] F' ∧ F' = Fp r := by
              by_cases hn : es.length - l.toNat = 0
              · refine ⟨w, Fp r, ?_, jO.refl _ _, h.still.cell, fun _ _ => rfl, ?_, rfl⟩
                · rw [hxv]
                  simp only [kj]
                  rw [hn]
                  cases hp : (if c = l.toNat then p else p.map (·.add (l.toNat * sz'))) with
                  | none => simp [Builtin.clear_, run_underlying hel]
                  | some _ => simp [Builtin.clear_, run_underlying hel]
                · have : es.take l.toNat ++ List.replicate (es.length - l.toNat) z.shut.loose = es := by rw [hn, List.replicate_zero, List.append_nil, List.take_of_length_le (by omega)]
                  rw [this]
                  simp only [zG]
                  exact ⟨p, c, rfl, t1, t2, t3, t4, t5⟩
              · rcases t5 with ⟨rfl, _⟩ | ⟨b, arr, ty, cl, F1, rfl, k1, k2, k3, k4, k5, k6⟩
                · simp at hn
                obtain ⟨hr, rfl⟩ := k4.areD d5
                let zs := (List.replicate (es.length - l.toNat) zv.cells.toList).flatten
                have hzs : zs.length = (es.length - l.toNat) * sz' := by
                  show (List.replicate _ _).flatten.length = _
                  rw [List.length_flatten]
                  simp [hzl]
                have hfit : l.toNat * sz' + zs.length ≤ arr.size := by
                  rw [hzs, ← Nat.add_mul]
                  refine Nat.le_trans (Nat.mul_le_mul_right _ ?_) k2
                  omega
                let w' := w.setRow b (kq arr (l.toNat * sz') zs)
                have hheap : ∀ k, k ≠ b → w'.heap[k]? = w.heap[k]? := fun k hk => setRow_other w b k _ hk
                have hheapb : w'.heap[b]? = some (.cells (kq arr (l.toNat * sz') zs) ty (0, 0)) := setRow_heap w b arr _ ty (0, 0) k1
                have hb : b ∈ Fp r := by rw [k5]; simp
                have h1c : ∀ u ∈ zs, u.oneCell' = true := by
                  intro u hu
                  obtain ⟨m, hm, hu⟩ := List.mem_flatten.1 hu
                  rw [List.eq_of_mem_replicate hm] at hu
                  exact hzr.one u hu
                refine ⟨w', Fp r, ?_, ⟨rfl, rfl, rfl, Nat.le_refl _, by simp [w'], fun k hk => hheap k (fun e => hk (e ▸ h.base r b hb))⟩, ?_, fun k hk => hheap k (fun e => hk (e ▸ hb)), ?_, rfl⟩
                · have hst := run_storeCells_at P b (l.toNat * sz') ty zs 0 arr w k1 (by simpa using hfit) h1c
                  simp only [Nat.add_zero] at hst
                  rw [v8 hfit] at hst
                  have hz0 : (zeroValue el).run P w = .ok zv w := by simp [zeroValue, typeInfo, f1, v1]
                  rw [hxv]
                  have hcl : ¬ c = l.toNat := by omega
                  simp only [kj, if_neg hcl, Option.map_some, Addr.add_lit, Nat.zero_add]
                  obtain ⟨m, hm⟩ : ∃ m, es.length - l.toNat = m + 1 := ⟨es.length - l.toNat - 1, by omega⟩
                  have hzc : (Builtin.zeroCells zv.cells (m + 1)).toList = zs := by rw [Uv, ← hm]
                  rw [hm]
                  simp [Builtin.clear_, run_underlying hel, hz0, hzc, hst, w']
                · intro b' o'' u hu
                  have hne : b' ≠ b := by rintro rfl; rw [k6] at hu; cases hu
                  rw [xe (h := w.heap) (h' := w'.heap) (hheap b' hne)]
                  exact h.still b' o'' u hu
                · simp only [zG, hlen]
                  refine ⟨_, c, rfl, t1, t2, t3, hsz, .inr ⟨b, _, ty, _, [], rfl, hheapb, by simpa using k2, rfl, ?_, k5, k6⟩⟩
                  have e1 : es.length * sz' = l.toNat * sz' + zs.length := by rw [hzs, ← Nat.add_mul]; congr 1; omega
                  rw [e1, z2K hfit]
                  have e2 : arr.toList.take (l.toNat * sz') = cl.take (l.toNat * sz') := by
                    rw [← k3, List.take_take, Nat.min_eq_left (Nat.mul_le_mul_right _ d4)]
                  rw [e2]
                  exact ((z64 hr t4 _).append (hreps _)).concs _
            subst hF'
            have hs1 : Sim C S (XX Fp r (Fp r)) [] (upd st r ⟨.own (.osl sz' tg (es.take l.toNat ++ List.replicate (es.length - l.toNat) z.shut.loose)), (st r).er, (st r).ec + 1⟩) a w' := by
              refine h.change r (.own _) _ _ (Fp r) (h.below.trans hkept) (fun _ _ _ q => q) hst h.sbase ?_ ⟨⟨_, hconc, c3, by rw [ev]; simp [zK]⟩, _, ht⟩ (.inl ⟨_, ht⟩) (Nat.le_refl _) (Nat.lt_succ_self _) ?_ ?_ (by simp) (by simp) (by simp) (by simp)
              · intro t' k htr hk
                exact ⟨hfr k (fun q => htr (h.disj t' r k hk q)), (h.free t' k hk).2.1⟩
              · intro t' k htr hk hk'
                exact htr (h.disj t' r k hk' hk)
              · intro k hk
                exact h.base r k hk
            rw [zu]
            simp only [zc] at e5 ⊢
            obtain ⟨Fp', hs'⟩ := xW hs1 e5 (x := .d (.tup [])) (v := .tuple #[]) (by simp only [TOk, xj]; exact ⟨[], rfl, trivial⟩)
            refine zn ?_ hs'
            simp [execOp, ho, resolve, invoke, builtin, hrun]
          · exact (z6 e4).elim
     | _ => simp only [ht] at e4; exact (z6 e4).elim
    | _ => simp only [ht] at e4; exact (z6 e4).elim
  · exact (z6 e4).elim
end
variable {β : Type}
def xAt (P : Program)  (p : Oper → Option β) (e : Fr → Oper → β → SM Unit) (h : Fr → Oper → β → HM Unit)
  (ok : ∀ (C : Ctx) (S : zj) (Fp : Nat → List Nat) (st : St) (a : Act) (w : World) (o : Oper) (b : β), p o = some b → Sim C S Fp [] st a w → ∀ u R U, e C.n o b st = some (u, R, U) → wZ P C o a w (zc U st))
  (loc : ∀ n o b, Loc (e n o b)) (sd : ∀ n o b, Snd (e n o b) (h n o b)) : XH P := {
 e := fun n o => (p o).map (e n o)
 h := fun n o => (p o).map (h n o)
 ok := by
  refine ⟨?_, ?_⟩
  ·intro C S Fp st a w o m u R U e0 h h2
   obtain ⟨b, hp, rfl⟩ := Option.map_eq_some_iff.1 e0
   exact ok C S Fp st a w o b hp h _ _ _ h2
  ·intro n o m e0
   obtain ⟨b, hp, rfl⟩ := Option.map_eq_some_iff.1 e0
   exact fun st st' a R U => loc n o b st st' a R U
 none := by
  intro n o e0
  rw [Option.map_eq_none_iff] at e0 ⊢
  exact e0
 some := by
  intro n o m e0
  obtain ⟨b, hp, rfl⟩ := Option.map_eq_some_iff.1 e0
  exact ⟨_, by rw [hp]; rfl, sd n o b⟩ }
theorem UE {d : Nat}  {x : Option β} {b : β} (h : (if o.dst = some d then x else none) = some b) : x = some b := by
 split at h
 ·exact h
 ·cases h
def zba (d : Nat) (o : Oper) : Option (Nat × Operand × Operand) := match o.op with | .slice t x (some lo) none none => if o.dst = some d then some (t, x, lo) else none | _ => none
def xVw (hT : xG P tt) (d r : Nat) (v : Value) : XH P :=
 xAt P (zba d) (fun n o b => vwO tt n o.dst b.1 r v b.2.1 b.2.2) (fun n o b => vwH tt n o.dst b.1 r v b.2.1 b.2.2)
  (by
   intro C S Fp st a w o b hp h u R U e
   unfold zba at hp
   split at hp
   ·rename_i ho; cases UE hp; exact zbk hT h ho e
   ·cases hp)
  (fun n o b => Loc.vwO _ _ _ _ _ _ _ _) (fun n o b => zdX _ _ _ _ _ _ _ _)
def zbb (d t : Nat) (o : Oper) : Option Operand := match o.op with | .call ⟨.builtin .len, ⟨[x]⟩, ⟨[t']⟩⟩ => if o.dst = some d then (if t' = t then some x else none) else none | _ => none
def xVl (hT : xG P tt) (d t sz r : Nat) (v : Value) (l : Int) (hty : u9 tt t = true) : XH P :=
 xAt P (zbb d t) (fun n o x => vlO n o.dst sz r v l x) (fun n o x => vlH n o.dst sz r v l x)
  (by
   intro C S Fp st a w o x hp h u R U e
   unfold zbb at hp
   split at hp
   ·rename_i ho
    replace hp := UE hp
    split at hp
    ·rename_i ht; subst ht; cases hp; exact zbl hT h hty ho e
    ·cases hp
   ·cases hp)
  (fun n o x => Loc.vlO _ _ _ _ _ _ _) (fun n o x => zdY _ _ _ _ _ _ _)
def zbc (d : Nat) (o : Oper) : Option (Nat × Operand × Operand) := match o.op with | .indexAddr t x i => if o.dst = some d then some (t, x, i) else none | _ => none
def xVi (hT : xG P tt) (d sz r : Nat) (v : Value) (l : Int) : XH P :=
 xAt P (zbc d) (fun n o b => viO tt n o.dst b.1 sz r v l b.2.1 b.2.2) (fun n o b => viH tt n o.dst b.1 sz r v l b.2.1 b.2.2)
  (by
   intro C S Fp st a w o b hp h u R U e
   unfold zbc at hp
   split at hp
   ·rename_i ho; cases UE hp; exact zbm hT h ho e
   ·cases hp)
  (fun n o b => Loc.viO _ _ _ _ _ _ _ _ _ _) (fun n o b => zdZ _ _ _ _ _ _ _ _ _ _)
def zdr (s : Nat) (o : Oper) : Option Nat := match o.op with | .call ⟨.builtin .clear, ⟨[.tmp s']⟩, ⟨[t]⟩⟩ => if s' = s then some t else none | _ => none
def xVc (hT : xG P tt) (s sz r : Nat) (v : Value) (l : Int) : XH P :=
 xAt P (zdr s) (fun n o t => vcO tt n o.dst t sz r v l (.tmp s)) (fun n o t => vcH tt n o.dst t sz r v l (.tmp s))
  (by
   intro C S Fp st a w o b hp h u R U e
   unfold zdr at hp
   split at hp
   ·rename_i ho
    split at hp
    ·rename_i hs; subst hs; cases hp; exact zbn hT h ho e
    ·cases hp
   ·cases hp)
  (fun n o b => Loc.vcO _ _ _ _ _ _ _ _ _) (fun n o b => ze0 _ _ _ _ _ _ _ _ _)
def clO (tt : TT) (n : Fr) (dst : Option Nat) (t : Nat) (x hi mx : Operand) : SM Unit := do
 let y ← opnd x
 let z ← take y
 match z with
 | .osl sz _ es => if yZ tt t = some sz then bound es.length (some hi) >>= fun h => bound 0 (some mx) >>= fun m => if h ≤ m ∧ m ≤ es.length then wrT n dst (.own (.osl sz (m == h) (es.take h))) else zl else zl
 | _ => zl
def clH (tt : TT) (n : Fr) (dst : Option Nat) (t : Nat) (x hi mx : Operand) : HM Unit := zV (opnd x) >>= fun y => Qu y >>= fun z =>
 match z with
 | .osl sz _ es => if yZ tt t = some sz then Un es.length (some hi) >>= fun h => Un 0 (some mx) >>= fun m => ud (h ≤ m ∧ m ≤ es.length) (eqA (.osl sz (m == h) (es.take h)) >>= fun z => zV (wrT n dst (.own z))) else zH
 | _ => zH
theorem ze6 (tt : TT) (n : Fr) (dst : Option Nat) (t : Nat) (x hi mx : Operand) : Snd (clO tt n dst t x hi mx) (clH tt n dst t x hi mx) := by
 refine ze (zi _) fun y => ze (Wr _) fun z => ?_
 cases z with
 | osl sz tg es =>
  refine wT (ze (W1 _ _) fun h => ze (W1 _ _) fun m => xK ?_) (zo _)
  exact Yz (zU _ fun z => wrT n dst (.own z)).symm (ze (UB _) fun _ => zi _)
 | _ => exact zo _
theorem Loc.clO (tt : TT) (n : Fr) (dst : Option Nat) (t : Nat) (x hi mx : Operand) : Loc (clO tt n dst t x hi mx) := by
 unfold Go.Own.clO
 refine Loc.bind (Loc.opnd _) fun _ => Loc.bind (Loc.take _) fun z => ?_
 cases z with
 | osl sz tg es => exact Loc.ite (Loc.bind (Loc.bound _ _) fun _ => Loc.bind (Loc.bound _ _) fun _ => Loc.ite (Loc.wrT _ _ _) Loc.fail) Loc.fail
 | _ => exact Loc.fail
section
variable {C : Ctx} {S : zj} {Fp : Nat → List Nat} {st : St} {a : Act} {w : World}
theorem zc1 {P : Program}  (hT : xG P tt) (h : Sim C S Fp [] st a w)  {t : Nat} {x hi mx : Operand} (ho : o.op = .slice t x none (some hi) (some mx))    (e : clO tt C.n o.dst t x hi mx st = some (u, R, U)) : wZ P C o a w (zc U st) := by
 unfold clO at e
 obtain ⟨y, R1, U1, R2, U2, h1, e1, rfl, rfl⟩ := bind_some e
 obtain ⟨rfl, hx⟩ := zz h h1
 simp only [zc, List.nil_append] at e1 ⊢
 obtain ⟨z, R3, U3, R4, U4, h3, e2, rfl, rfl⟩ := bind_some e1
 obtain ⟨Fp', F, g1, g2⟩ := ZU h hx h3
 rw [zu]
 cases z with
 | osl sz tg es =>
  simp only at e2
  split at e2
  ·rename_i hel
   obtain ⟨hh, R5, U5, R6, U6, h5, e3, rfl, rfl⟩ := bind_some e2
   obtain ⟨rfl, b2⟩ := Yu g1 h5
   simp only [zc, List.nil_append] at e3 ⊢
   obtain ⟨m, R7, U7, R8, U8, h7, e4, rfl, rfl⟩ := bind_some e3
   obtain ⟨rfl, b3⟩ := Yu g1 h7
   simp only [zc, List.nil_append] at e4 ⊢
   split at e4
   ·rename_i hle
    obtain ⟨hle1, hle2⟩ := hle
    obtain ⟨el, he, hsz⟩ := xT hT hel w
    obtain ⟨cs, k1, k2, k3⟩ : ∃ cs, zG S w.heap (.osl sz tg es) cs F ∧ F.Nodup ∧ a.eval x = zK (.osl sz tg es) cs := by
     rcases g2 with ⟨q, _⟩ | q
     ·simp only [xj, wB, Rep, false_and, exists_false] at q
     ·exact q
    simp only [zG] at k1
    obtain ⟨p, c, rfl, t1, t2, t3, t4, t5⟩ := k1
    have ev : a.eval x = .slice p es.length c := k3
    have b3' : Wq ((some mx).map a.eval) c m := by
     rcases b3 with ⟨q, _⟩ | ⟨o, k, j, q, q2, q3, q4⟩
     ·cases q
     ·cases q; exact .inr ⟨k, j, by simp [q2], q3, q4⟩
    have b2' : (Option.isSome ((some hi).map a.eval)) = true := rfl
    have hrun := qa (P := P) (w := w) he hsz (p := p) (len := es.length) (c := c) (lo := none) (.inl ⟨rfl, rfl⟩) (Yv b2) b3' (Nat.zero_le _) hle1 (by omega) (fun _ => b2')
    have hp : (if m = 0 then p else p.map (·.add (0 * sz))) = p := by
     split
     ·rfl
     ·cases p <;> simp [Addr.add]
    rw [hp] at hrun
    have hlen : (es.take hh).length = hh := by simp; omega
    have ht4 : ∀ x ∈ es.take hh, x.size = sz := fun x hx => t4 x (List.mem_of_mem_take hx)
    obtain ⟨F2, cs2, m1, m2, m3, m4⟩ : ∃ F2 cs2, zG S w.heap (.osl sz (m == hh) (es.take hh)) cs2 F2 ∧ F2.Nodup ∧ (∀ k ∈ F2, k ∈ F) ∧ zK (.osl sz (m == hh) (es.take hh)) cs2 = .slice p hh m := by
     rcases t5 with ⟨rfl, rfl, rfl, rfl⟩ | ⟨b, arr, ty, l, F', rfl, e1, e2, e3, e4, rfl, e5⟩
     ·have hm0 : m = 0 := by simpa using hle2
      subst hm0
      have : hh = 0 := by omega
      subst this
      refine ⟨[], [.slice none 0 0], ?_, by simp, by simp, rfl⟩
      simp only [zG]
      exact ⟨none, 0, by simp, by simp, by simp, Nat.zero_le _, by simp, .inl (by simp)⟩
     ·obtain ⟨F3, q1, q2, q3⟩ := Q8 e4 hh
      have hn := List.nodup_cons.1 k2
      refine ⟨b :: F3, [.slice (some ⟨b, 0, none⟩) hh m], ?_, List.nodup_cons.2 ⟨fun q => hn.1 (q2 b q), q3 hn.2⟩, ?_, rfl⟩
      ·simp only [zG]
       refine ⟨some ⟨b, 0, none⟩, m, by rw [hlen], by intro q; rw [hlen]; simpa using q, by rw [hlen]; omega, by omega, ht4, .inr ⟨b, arr, ty, _, F3, rfl, e1, Nat.le_trans (Nat.mul_le_mul_right _ (by omega)) e2, ?_, q1, rfl, e5⟩⟩
       rw [← e3, List.take_take, A.sizes_const ht4, hlen]
       congr 1
       have := Nat.mul_le_mul_right sz (show hh ≤ es.length by omega)
       omega
      ·intro k hk
       rcases List.mem_cons.1 hk with rfl | hk
       ·simp
       ·simp [q2 k hk]
    have g1' : Sim C S Fp' (F2 ++ []) (zc U3 st) a w := g1.mem g1.below (fun _ _ _ h => h) g1.still.cell g1.sbase (fun t' k hk => ⟨rfl, (g1.free t' k hk).2.1⟩) (by simpa using m2) (fun t' k hk => g1.xd t' k (by simp at hk ⊢; exact m3 k hk)) (fun k hk => g1.xb k (by simp at hk ⊢; exact m3 k hk))
    obtain ⟨Fp'', hs⟩ := j8 g1' e4 m1 m2
    rw [m4] at hs
    refine zn ?_ hs
    simp only [Nat.sub_zero] at hrun
    simp only [Option.map_some] at hrun
    simp [execOp, ho, ev, hrun]
   ·exact (z6 e4).elim
  ·exact (z6 e2).elim
 | _ => exact (z6 e2).elim
end
def zdx (d : Nat) (o : Oper) : Option (Nat × Operand × Operand × Operand) := match o.op with | .slice t x none (some hi) (some mx) => if o.dst = some d then some (t, x, hi, mx) else none | _ => none
def xCl (hT : xG P tt) (d : Nat) : XH P :=
 xAt P (zdx d) (fun n o b => clO tt n o.dst b.1 b.2.1 b.2.2.1 b.2.2.2) (fun n o b => clH tt n o.dst b.1 b.2.1 b.2.2.1 b.2.2.2)
  (by
   intro C S Fp st a w o b hp h u R U e
   unfold zdx at hp
   split at hp
   ·rename_i ho; cases UE hp; exact zc1 hT h ho e
   ·cases hp)
  (fun n o b => Loc.clO _ _ _ _ _ _ _) (fun n o b => ze6 _ _ _ _ _ _ _)
def zed (d : Nat) (o : Oper) : Option Unit := match o.op with | .call ⟨.value _, _, _⟩ => if o.dst = some d then some () else none | _ => none
def z6A (hT : xG P tt) {s : yW} (h : s.Ok P) (d : Nat) : XH P :=
 xAt P (zed d) (fun n o _ => stepO tt (Q5.add s) n o) (fun n o _ => Jy tt (Q5.add s) n o)
  (fun C S Fp st a w o b hp hS u R U e => Qw hT (Ctr.add_ok (z06 P) h) hS e)
  (fun n o b => Loc.stepO _ _ _ _) (fun n o b => KL _ _ _ _)
variable {α : Type}
theorem vlM (f : α → A) (l : List α) (k : Nat) : A.atom (.int .i64 (((l.map f).length - k : Nat) : Int)) = .atom (.int .i64 ((l.length - k : Nat) : Int)) := by rw [List.length_map]
theorem vcM (f : α → A) (l : List α) (k : Nat) (z : α) : (l.map f).take k ++ List.replicate ((l.map f).length - k) (f z) = (l.take k ++ List.replicate (l.length - k) z).map f := by simp
theorem clB (f : α → A) (l : List α) : ((l.length : Nat) : Int).toNat ≤ ((l.length : Nat) : Int).toNat ∧ ((l.length : Nat) : Int).toNat ≤ (l.map f).length := by simp
theorem clE (sz : Nat) (f : α → A) (l : List α) : A.osl sz (((l.length : Nat) : Int).toNat == ((l.length : Nat) : Int).toNat) ((l.map f).take ((l.length : Nat) : Int).toNat) = eOs sz true f l := by
 simp only [beq_self_eq_true, Int.toNat_natCast, eOs]
 rw [List.take_of_length_le (by simp)]
def z7F : Value → Option Bool
 | .slice none _ _ => some true
 | .slice (some _) _ _ => some false
 | _ => none
variable {st : St}{fs : List Fm}{c : Code}{Q : Exit → St → Prop}
theorem z0c {P : Program} {n : Fr} {c : Code}  {Q : Exit → St → Prop}  (e : fs = []) (k : Nat)  {t : Bool}  (hk : (st k).t = .d (.sl sz t es))
  (h : ∀ v, v.oneCell' = true → (z7F v = some true ∧ es = []) ∨ z7F v = some false → AWP P ⟨n.size, (k, v) :: n.pin⟩ c st (Qf P ⟨n.size, (k, v) :: n.pin⟩ [] Q)) : AWP P n c st (Qf P n fs Q) := by
 subst e
 intro rd m df w0 S0 M S Fp a w hc hs
 have q := hs.ent k
 unfold yT at q
 simp only [hk] at q
 have q1 := q.1
 simp only [xj] at q1
 obtain ⟨cs, r1, r2⟩ := q1
 simp only [Rep] at r1
 obtain ⟨p, c', rfl, r3, r4, r5, r6⟩ := r1
 have ev : Act.tv a k = .slice p es.length c' := r2
 have hcase : (z7F (Act.tv a k) = some true ∧ es = []) ∨ z7F (Act.tv a k) = some false := by
  rw [ev]
  cases p with
  | none =>
   refine .inl ⟨rfl, ?_⟩
   rcases r6 with r6 | ⟨b, o, l, e, _⟩
   ·exact r6
   ·cases e
  | some p => exact .inr rfl
 refine wpIn_mono (h (Act.tv a k) (by rw [ev]; rfl) hcase rd m df w0 S0 M S Fp a w ⟨hc.nodup, hc.df, hc.rd⟩ (hs.pinned k)) ?_
 rintro e a' w' ⟨df', st1, S1, Fp1, h1, h2, h3⟩
 exact ⟨df', st1, S1, Fp1, h1.unpinned, h2, h3⟩
open Classical in
def nilO (n : Fr) (dst : Option Nat) (v : Value) (b : Bool) (x y : Operand) : SM Unit := do
 let tx ← opnd x
 let ty ← opnd y
 if tx = .d (.atom v) ∧ ty = .d (.atom (.slice none 0 0)) then wrT n dst (.d (.atom (.bool b))) else zl
def zdo (n : Fr) (dst : Option Nat) (v : Value) (b : Bool) (x y : Operand) : HM Unit := zV (opnd x) >>= fun tx => zV (opnd y) >>= fun ty => ud (tx = .d (.atom v) ∧ ty = .d (.atom (.slice none 0 0))) (zV (wrT n dst (.d (.atom (.bool b)))))
open Classical in
theorem zbB (n : Fr) (dst : Option Nat) (v : Value) (b : Bool) (x y : Operand) : Snd (nilO n dst v b x y) (zdo n dst v b x y) := ze (zi _) fun _ => ze (zi _) fun _ => xK (zi _)
open Classical in
theorem Loc.nilO (n : Fr) (dst : Option Nat) (v : Value) (b : Bool) (x y : Operand) : Loc (nilO n dst v b x y) := by
 unfold Go.Own.nilO
 exact Loc.bind (Loc.opnd _) fun _ => Loc.bind (Loc.opnd _) fun _ => Loc.ite (Loc.wrT _ _ _) Loc.fail
variable {Fp : Nat → List Nat}{w : World}{C : Ctx}{a : Act}{b : Bool}
theorem z9n (hT : xG P tt)       (h : Sim C S Fp [] st a w)  {t yt : Nat}   {x y : Operand} (hty : u9 tt t = true) (hv : z7F v = some b) (ho : o.op = .binOp .eql t x y yt)    (e0 : nilO C.n o.dst v b x y st = some (u, R, U)) : wZ P C o a w (zc U st) := by
 unfold nilO at e0
 obtain ⟨tx, R1, U1, R2, U2, h1, e1, rfl, rfl⟩ := bind_some e0
 obtain ⟨rfl, hx⟩ := zz h h1
 obtain ⟨ty, R3, U3, R4, U4, h3, e2, rfl, rfl⟩ := bind_some e1
 obtain ⟨rfl, hy⟩ := zz h h3
 simp only [zc, List.nil_append] at e2 ⊢
 split at e2
 ·rename_i hc
  obtain ⟨rfl, rfl⟩ := hc
  have ex := (zp.1 hx).1
  have ey := (zp.1 hy).1
  obtain ⟨el, hel⟩ := jD hT hty
  obtain ⟨Fp', hs⟩ := xW h e2 (x := .d (.atom (.bool b))) (zp.2 ⟨rfl, rfl⟩)
  refine zn ?_ hs
  have heq : (Op.equal t v (.slice none 0 0)).run P w = .ok b w := by
   unfold Op.equal Op.maxDepth
   show (Op.equalIn (9999 + 1) t v _).run P w = _
   generalize 9999 = q
   unfold Op.equalIn
   simp only [Sem.run_bind, run_underlying hel, Result.andThen_ok]
   cases v with
   | slice p l c => cases p <;> (simp only [z7F, Option.some.injEq] at hv; subst hv; simp)
   | _ => cases hv
  cases v with
  | slice p l c => simp [execOp, ho, ex, ey, eqGuard, Go.binOp, heq]
  | _ => cases hv
 ·exact (z6 e2).elim
def z9z (d t : Nat) (o : Oper) : Option (Operand × Operand) := match o.op with | .binOp .eql t' x y _ => if o.dst = some d then (if t' = t then some (x, y) else none) else none | _ => none
def z8l (hT : xG P tt) (d t : Nat)   (hty : u9 tt t = true) (hv : z7F v = some b) : XH P :=
 xAt P (z9z d t) (fun n o q => nilO n o.dst v b q.1 q.2) (fun n o q => zdo n o.dst v b q.1 q.2)
  (by
   intro C S Fp st a w o q hp h u R U e
   unfold z9z at hp
   split at hp
   ·rename_i ho
    replace hp := UE hp
    split at hp
    ·rename_i ht; subst ht; cases hp; exact z9n hT h hty hv ho e
    ·cases hp
   ·cases hp)
  (fun n o q => Loc.nilO _ _ _ _ _ _) (fun n o q => zbB _ _ _ _ _ _)
open Classical in
def asO (n : Fr) (dst : Option Nat) (v : Value) (x : Operand) : SM Unit := do
 let tx ← opnd x
 if tx = .d (.atom v) then wrT n dst (.d (.atom v)) else zl
def asH (n : Fr) (dst : Option Nat) (v : Value) (x : Operand) : HM Unit := zV (opnd x) >>= fun tx => ud (tx = .d (.atom v)) (zV (wrT n dst (.d (.atom v))))
open Classical in
theorem ze7 (n : Fr) (dst : Option Nat) (v : Value) (x : Operand) : Snd (asO n dst v x) (asH n dst v x) := ze (zi _) fun _ => xK (zi _)
open Classical in
theorem Loc.asO (n : Fr) (dst : Option Nat) (v : Value) (x : Operand) : Loc (asO n dst v x) := by
 unfold Go.Own.asO
 exact Loc.bind (Loc.opnd _) fun _ => Loc.ite (Loc.wrT _ _ _) Loc.fail
theorem zc3 (h : Sim C S Fp [] st a w)  {v : Value} {x : Operand} (ho : o.op = .assign x)    (e0 : asO C.n o.dst v x st = some (u, R, U)) : wZ P C o a w (zc U st) := by
 unfold asO at e0
 obtain ⟨tx, R1, U1, R2, U2, h1, e1, rfl, rfl⟩ := bind_some e0
 obtain ⟨rfl, hx⟩ := zz h h1
 simp only [zc, List.nil_append] at e1 ⊢
 split at e1
 ·rename_i hc
  subst hc
  have hx' : xj S (.atom v) (a.eval x) := hx
  obtain ⟨Fp', hs⟩ := xW h e1 (x := .d (.atom v)) (v := a.eval x) hx'
  exact zn (by simp [execOp, ho]) hs
 ·exact (z6 e1).elim
def zdz (d : Nat) (o : Oper) : Option Operand := match o.op with | .assign x => if o.dst = some d then some x else none | _ => none
def xAs (P : Program) (d : Nat) (v : Value) : XH P :=
 xAt P (zdz d) (fun n o x => asO n o.dst v x) (fun n o x => asH n o.dst v x)
  (by
   intro C S Fp st a w o x hp h u R U e
   unfold zdz at hp
   split at hp
   ·rename_i ho; cases UE hp; exact zc3 h ho e
   ·cases hp)
  (fun n o x => Loc.asO _ _ _ _) (fun n o x => ze7 _ _ _ _)
theorem z3s {p : Option Addr} {n c : Nat} : kj sz (.slice p n c) 0 = .slice p n c := by
 have : (0 : Int).toNat = 0 := rfl
 simp only [kj, this, Nat.sub_zero, Nat.zero_mul]
 congr 1
 split
 ·rfl
 ·cases p <;> simp [Addr.add]
def mwK (n : Fr) (dst : Option Nat) (r sz : Nat) (v : Value) (e : Ent) : SM Unit :=
 match e.t with
 | .own (.osl sz' _ _) => if sz' = sz then wrT n dst (.d (.atom (kj sz v 0))) else zl
 | _ => zl
open Classical in
def mwO (n : Fr) (dst : Option Nat) (r sz : Nat) (v : Value) : SM Unit := if W6 n.pin r = some v then (rdE r >>= fun e => mwK n dst r sz v e) else zl
def mwH (n : Fr) (dst : Option Nat) (r sz : Nat) (v : Value) : HM Unit := ud (W6 n.pin r = some v) (zV (rdE r >>= fun e => mwK n dst r sz v e))
open Classical in
theorem Loc.mwO (n : Fr) (dst : Option Nat) (r sz : Nat) (v : Value) : Loc (mwO n dst r sz v) := by
 unfold Go.Own.mwO
 refine Loc.ite (Loc.bind (Loc.rdE _) fun e => ?_) Loc.fail
 unfold Go.Own.mwK
 split
 ·exact Loc.ite (Loc.wrT _ _ _) Loc.fail
 ·exact Loc.fail
theorem zbL (h : Sim C S Fp [] st a w)  {r sz : Nat} {v : Value} (ho : o.op = .move (.tmp r))    (e0 : mwO C.n o.dst r sz v st = some (u, R, U)) : wZ P C o a w (zc U st) := by
 unfold mwO at e0
 split at e0
 ·rename_i hp
  have hs := h.pin r v (u6 hp)
  obtain ⟨en, R7, U7, R8, U8, h7, e4, rfl, rfl⟩ := bind_some e0
  obtain ⟨rfl, rfl, rfl⟩ := y8 h7
  simp only [zc, List.nil_append] at e4 ⊢
  unfold mwK at e4
  cases ht : (st r).t with
  | own y =>
   cases y with
   | osl sz' tg es =>
    simp only [ht] at e4
    split at e4
    ·rename_i hz
     subst hz
     obtain ⟨p, c, ev, _, _, _⟩ := QK h ht
     have hvv : v = .slice p es.length c := by rw [← hs, ev]
     obtain ⟨Fp', hs'⟩ := xW h e4 (x := .d (.atom (kj sz' v 0))) (v := v) (by rw [hvv, z3s]; exact zp.2 ⟨rfl, rfl⟩)
     refine zn ?_ hs'
     have ex : a.eval (.tmp r) = v := hs
     simp [execOp, ho, ex]
    ·exact (z6 e4).elim
   | _ => simp only [ht] at e4; exact (z6 e4).elim
  | _ => simp only [ht] at e4; exact (z6 e4).elim
 ·exact (z6 e0).elim
open Classical in
theorem ze3 (n : Fr) (dst : Option Nat) (r sz : Nat) (v : Value) : Snd (mwO n dst r sz v) (mwH n dst r sz v) := xK (zi _)
def zdt (d r : Nat) (o : Oper) : Option Unit := match o.op with | .move (.tmp r') => if o.dst = some d then (if r' = r then some () else none) else none | _ => none
def xMw (P : Program) (d r sz : Nat) (v : Value) : XH P :=
 xAt P (zdt d r) (fun n o _ => mwO n o.dst r sz v) (fun n o _ => mwH n o.dst r sz v)
  (by
   intro C S Fp st a w o q hp h u R U e
   unfold zdt at hp
   split at hp
   ·rename_i ho
    replace hp := UE hp
    split at hp
    ·rename_i ht; subst ht; exact zbL h ho e
    ·cases hp
   ·cases hp)
  (fun n o q => Loc.mwO _ _ _ _ _) (fun n o q => ze3 _ _ _ _ _)
theorem z8a (h : Sim C S Fp [] st a w) {r : Nat} {x : A} (hr : (st r).t = .own (.box x)) : ∃ b, Act.tv a r = .pointer (some ⟨b, 0, none⟩) := by
 have hq := h.ent r
 unfold yT at hq
 simp only [hr] at hq
 obtain ⟨cs, c1, c2, c3⟩ := hq
 simp only [zG] at c1
 obtain ⟨b, ty, l, F', rfl, _⟩ := c1
 exact ⟨b, c3⟩
def ncK (n : Fr) (dst : Option Nat) (r : Nat) (e : Ent) : SM Unit :=
 match e.t with
 | .own (.box _) => wrT n dst (.als r [] e.er e.ec)
 | _ => zl
open Classical in
def ncO (n : Fr) (dst : Option Nat) (r : Nat) (v : Value) (x : Operand) : SM Unit := do
 let tx ← opnd x
 if tx = .d (.atom v) ∧ W6 n.pin r = some v then (rdE r >>= fun e => ncK n dst r e) else zl
def ncH (n : Fr) (dst : Option Nat) (r : Nat) (v : Value) (x : Operand) : HM Unit := zV (opnd x) >>= fun tx => ud (tx = .d (.atom v) ∧ W6 n.pin r = some v) (zV (rdE r >>= fun e => ncK n dst r e))
open Classical in
theorem ze2 (n : Fr) (dst : Option Nat) (r : Nat) (v : Value) (x : Operand) : Snd (ncO n dst r v x) (ncH n dst r v x) := ze (zi _) fun _ => xK (zi _)
open Classical in
theorem Loc.ncO (n : Fr) (dst : Option Nat) (r : Nat) (v : Value) (x : Operand) : Loc (ncO n dst r v x) := by
 unfold Go.Own.ncO
 refine Loc.bind (Loc.opnd _) fun _ => Loc.ite (Loc.bind (Loc.rdE _) fun e => ?_) Loc.fail
 unfold Go.Own.ncK
 split
 ·exact Loc.wrT _ _ _
 ·exact Loc.fail
theorem zbJ (h : Sim C S Fp [] st a w)  {r : Nat}   (ho : o.op = .nilCheck x)    (e0 : ncO C.n o.dst r v x st = some (u, R, U)) : wZ P C o a w (zc U st) := by
 unfold ncO at e0
 obtain ⟨tx, R1, U1, R2, U2, h1, e1, rfl, rfl⟩ := bind_some e0
 obtain ⟨rfl, hx⟩ := zz h h1
 simp only [zc, List.nil_append] at e1 ⊢
 split at e1
 ·rename_i hc
  obtain ⟨rfl, hp⟩ := hc
  have hs := h.pin r v (u6 hp)
  obtain ⟨en, R7, U7, R8, U8, h7, e4, rfl, rfl⟩ := bind_some e1
  obtain ⟨rfl, rfl, rfl⟩ := y8 h7
  simp only [zc, List.nil_append] at e4 ⊢
  unfold ncK at e4
  cases ht : (st r).t with
  | own y =>
   cases y with
   | box z =>
    simp only [ht] at e4
    obtain ⟨b, ev⟩ := z8a h ht
    have hvv : v = .pointer (some ⟨b, 0, none⟩) := by rw [← hs, ev]
    have hals : qr w.heap st (Act.tv a) r [] (st r).er (st r).ec (Act.tv a r) := by
     refine ⟨Nat.le_refl _, Nat.le_refl _, ?_⟩
     simp [ht]
    have hT : TOk S w.heap st (Act.tv a) (.als r [] (st r).er (st r).ec) v := by rw [← hs]; exact hals
    obtain ⟨Fp', hs'⟩ := xW h e4 hT
    refine zn ?_ hs'
    have ex : a.eval x = v := (zp.1 hx).1
    simp [execOp, ho, ex, hvv]
   | _ => simp only [ht] at e4; exact (z6 e4).elim
  | _ => simp only [ht] at e4; exact (z6 e4).elim
 ·exact (z6 e1).elim
def zds (d : Nat) (o : Oper) : Option Operand := match o.op with | .nilCheck x => if o.dst = some d then some x else none | _ => none
def xNc (P : Program) (d r : Nat) (v : Value) : XH P :=
 xAt P (zds d) (fun n o x => ncO n o.dst r v x) (fun n o x => ncH n o.dst r v x)
  (by
   intro C S Fp st a w o x hp h u R U e
   unfold zds at hp
   split at hp
   ·rename_i ho; cases UE hp; exact zbJ h ho e
   ·cases hp)
  (fun n o x => Loc.ncO _ _ _ _ _) (fun n o x => ze2 _ _ _ _ _)
def spR (k : Nat) {α ρ : Type} (enc : α → List A) (encR : ρ → A) (F : α → Option ρ) (gives : List Bool) (inj : ∀ x y, enc x = enc y → x = y) : yW := {
 α := α
 k := k
 raw := true
 gives := gives
 enc := enc
 pre := fun x => ∃ r, F x = some r
 f := fun x => match F x with | some r => encR r | none => .dead 0
 inj := by
  intro x y h _ _
  rw [inj x y h] }
variable {gives : List Bool}{k : Nat}
theorem z8T {α ρ : Type} {enc : α → List A} {encR : ρ → A} {F : α → Option ρ}  {inj : ∀ x y, enc x = enc y → x = y} (h : ∀ x r, F x = some r → kJ P k (enc x) (encR r)) : (spR k enc encR F gives inj).Ok P := by
 rintro x ⟨r, hr⟩
 have := h x r hr
 simpa only [spR, hr] using this
variable {as_ : List A}
theorem zeh {k : Nat} {α ρ : Type} {enc : α → List A} {encR : ρ → A} {F : α → Option ρ} {gives : List Bool} {inj : ∀ x y, enc x = enc y → x = y} {x : α} {r : ρ} (hr : F x = some r)  (ha : as_ = enc x) :
  (Q5.add (spR k enc encR F gives inj)).run k ((Q5.add (spR k enc encR F gives inj)).norm k as_) = some (encR r) := by
 have h := Ctr.add_has Q5 (spR k enc encR F gives inj)
 have h1 := h.run x ⟨r, hr⟩
 have h2 : (Q5.add (spR k enc encR F gives inj)).raw k = true := h.raw
 unfold Ctr.norm
 rw [h2, ha]
 refine Eq.trans h1 ?_
 simp only [spR, hr]
theorem zbW {α ρ : Type} {enc : α → List A} {encR : ρ → A} {F : α → Option ρ}  {inj : ∀ x y, enc x = enc y → x = y} : (Q5.add (spR k enc encR F gives inj)).lend k = none ∧ (Q5.add (spR k enc encR F gives inj)).gives k = gives := ⟨(Ctr.add_has Q5 _).lend, (Ctr.add_has Q5 _).gives⟩
section
variable {α : Type}
def eFl (sz : Nat) (f : α → A) (x : List α × Bool) : A := .sl sz x.2 (x.1.map f)
instance (sz : Nat) (f : α → A) : UJ (eFl sz f) (eFl sz f) := ⟨fun _ => rfl, fun _ => rfl⟩
theorem flL (sz : Nat) (tg : Bool) (f : α → A) (l : List (List α)) : (l.map fun x => (x, tg)).map (eFl sz f) = l.map (eSl sz tg f) := by
 rw [List.map_map]; rfl
theorem flE {f : α → A} {l : List (List α × Bool)} (h : ∀ x ∈ l, x.2 = true) : l.map (eFl sz f) = (l.map (·.1)).map (eSl sz true f) := by
 rw [List.map_map]
 exact List.map_congr_left fun x hx => by simp [eFl, eSl, h x hx]
instance LeA.flO (s t : Nat) (tg : Bool) (b : Bool) (f : α → A) (l : List (List α)) : LeA (eOs s b (eSl t tg f) l) (eOs s b (eFl t f) (l.map fun x => (x, tg))) := by
 unfold eOs; rw [flL]; infer_instance
theorem flA {s t : Nat}  {f : α → A} {l : List (List α × Bool)} (h : ∀ x ∈ l, x.2 = true) : LeA (eSl s b (eFl t f) l) (eSl s b (eSl t true f) (l.map (·.1))) := by
 unfold eSl; rw [flE h]; exact LeA.refl _
end
def zbd (d : Nat) (o : Oper) : Option (Nat × Operand × Operand) := match o.op with | .call ⟨.builtin .append, ⟨[s, x]⟩, ⟨[t, t']⟩⟩ => if o.dst = some d then (if t' = t then some (t, s, x) else none) else none | _ => none
variable {y : A}
theorem z9Q {live : List Nat}  {l : List (Nat × T)} (hc : canon live st = ofL l)   (hk : live.contains k = true) (hy : (ofL l k).t = .d y) : (st k).t = .d y := by
 have := congrFun hc k
 rw [jn, if_pos (List.contains_iff_mem.1 hk)] at this
 rw [← this] at hy
 unfold z47 at hy
 cases hx : (st k).t with
 | als r p er ec => simp only [hx] at hy; split at hy <;> cases hy
 | ptr r p er ec => simp only [hx] at hy; split at hy <;> cases hy
 | own a => simp only [hx] at hy; cases hy
 | d a => simpa only [hx] using hy
 | gone => simp only [hx] at hy; cases hy
def Jq (x : List UInt8) : A := .atom (.string ⟨x.toArray⟩)
section
variable {α : Type}
instance SzA.opS {β : Type} (s s' : Nat) (b b' : Bool) (f : α → A) (g : β → A) (l : List α) (l' : List β) : SzA (eOs s b f l) (eOs s' b' g l') := ⟨rfl⟩
end
abbrev HO := List H × List Ob
def hoH (l : List HO) : List H := List.rec [] (fun x _ r => x.1 ++ r) l
def hoO (l : List HO) : List Prop := List.rec [] (fun x _ r => x.2.map Ob.p ++ r) l
def hoB (l : List HO) : List Ob := List.rec [] (fun x _ r => x.2 ++ r) l
theorem Wx (l : List HO) : hoO l = (hoB l).map Ob.p := by
 induction l with
 | nil => rfl
 | cons x l ih =>
  show x.2.map Ob.p ++ hoO l = (x.2 ++ hoB l).map Ob.p
  rw [List.map_append, ih]
def Hq {t b : Bool} (h : t = b) : HO := ([.b b], [ob h])
abbrev qT : HO := Hq (Eq.refl true)
abbrev qF : HO := Hq (Eq.refl false)
def Ha {x y : A} (h : x = y) : HO := ([.a y], [ob h])
def Hs {x : Option A}  (h : x = some y) : HO := ([.a y], [ob h])
def Hl {x y : List A} (h : x = y) : HO := ([.l y], [ob h])
variable {p : Prop}
def Hm {x y : List A} (h : p ∧ x = y) : HO := ([.l y], [ob h])
def Hx (a : H)  (h : p) : HO := ([a], [ob h])
def Hn (h : p) : HO := ([], [ob h])
def Hh (a : H) : HO := ([a], [])
def Hi (f : α → A) {l : List α} {i : Int} {u : α} (h : idx l i = some u) : HO := ([.a (f u)], [ob (i0 h), ob (iM f h)])
def Hc {c : Ctr}  {α ρ : Type} {enc : α → List A} {encR : ρ → A} {F : α → Option ρ}  {inj : ∀ x y, enc x = enc y → x = y} (h : c.Has (spF k enc encR F gives inj)) {x : α} {r : ρ} (hr : F x = some r)  (ha : as_.map A.loose = enc x) : HO :=
 ([.g gives, .a (encR r)], [ob (QV h), ob (QX h hr ha)])
def Hg {c : Ctr}   (h : c.lend k = none ∧ c.gives k = gives) : HO := ([.g gives], [ob h])
def YW (l : List (Nat × T)) : List Nat := l.map (·.1)
variable {rs : List (Nat × Option Nat)}{r : A}{keep : Bool}{fn : Func}
section
variable {P : Program} {tt : TT} {ctr : Ctr} {n : Fr} {Q : Exit → St → Prop}
theorem yE6 (X : XH P) (hT : xG P tt) (hC : zS P ctr) (hm : P.follows .mixedOrders = true) {E : St → Prop}    (hE : ∀ st x R U, z2x tt keep rs st = some (x, R, U) → LeV x r → E st) {c : Code} {fs : List Fm} {st : St} (L : List HO)
  (e : z8p X tt ctr n keep rs 4000 c fs st (hoH L) = some (r, hoO L)) : AWP P n c st (Qf P n fs (z1K E)) :=
 z6t X hT hC hm hE 4000 (hoB L) (by rw [← Wx]; exact e) (LeV.refl _)
theorem zdP (X : XH P) (hT : xG P tt) (hC : zS P ctr) (hm : P.follows .mixedOrders = true) {E : St → Prop}    (hE : ∀ st x R U, z2x tt keep rs st = some (x, R, U) → LeV x r → E st) {c : Code} {fs : List Fm} {st : St} (L : List HO) (x : A) (hle : LeV x r)
  (e : z8p X tt ctr n keep rs 4000 c fs st (hoH L) = some (x, hoO L)) : AWP P n c st (Qf P n fs (z1K E)) :=
 z6t X hT hC hm hE 4000 (hoB L) (by rw [← Wx]; exact e) hle
theorem yB6 (X : XH P) (hT : xG P tt) (hC : zS P ctr) (hm : P.follows .mixedOrders = true) {τ : Type} {J : St → Prop} {live : List Nat} {S : τ → List (Nat × T)} {Inv : τ → Prop} (hJ : ∀ st' l' z, Inv z → canon live st' = ofL l' → LeL l' (S z) → J st') (z : τ) (hz : Inv z) {c : Code} {fs : List Fm} {st : St} (L : List HO)
  (e : Jo X tt ctr n live 4000 c fs st (hoH L) = some (.back J, ofL (S z), hoO L)) : AWP P n c st (Qf P n fs Q) :=
 z8f X hT hC hm live 4000 (hoH L) J (S z) (hoB L) (by rw [← Wx]; exact e) fun st0 h0 => hJ st0 _ z hz h0 (LeL.refl _)
theorem yA6 (X : XH P) (hT : xG P tt) (hC : zS P ctr) (hm : P.follows .mixedOrders = true) {c : Code} {fs : List Fm} {st : St} (bd : Code) (path : List Nat) (Js : List (St → Prop)) (l : List (Nat × T)) (L : List HO)
  (e : Jo X tt ctr n (YW l) 4000 c fs st (hoH L) = some (.at (sub path bd) (frs path Js bd []), ofL l, hoO L)) (h : AWP P n (sub path bd) (ofL l) (Qf P n (frs path Js bd []) Q)) : AWP P n c st (Qf P n fs Q) :=
 z5I X hT hC hm (YW l) 4000 (hoH L) _ _ l (hoB L) (by rw [← Wx]; exact e) fun st0 h0 => z3J h0 h
theorem yL6 (X : XH P) (hT : xG P tt) (hC : zS P ctr) (hm : P.follows .mixedOrders = true) {c : Code} {fs : List Fm} {st : St} (bd : Code) (path : List Nat) (Js : List (St → Prop)) {σ τ : Type} (f : σ → Option (LR σ τ)) (S : σ → List (Nat × T)) (x0 : σ) {t : τ} (ht : loop f x0 = some t) (l : List (Nat × T)) (hl : LeL l (S x0)) (L : List HO)
  (hk : ∀ x, YW (S x) = YW l)
  (e : Jo X tt ctr n (YW l) 4000 c fs st (hoH L) = some (.at (sub path bd) (frs path Js bd []), ofL l, hoO L))
  (e2 : sub path bd = .loop (sub (path ++ [0]) bd))
  (round : ∀ x m lr, f x = some lr → zbh f m t lr → ∀ J : St → Prop, (∀ st' l' x', YV f m x' = some t → canon (YW l) st' = ofL l' → LeL l' (S x') → J st') → AWP P n (sub (path ++ [0]) bd) (ofL (S x)) (Qf P n (.pre J :: frs path Js bd []) Q)) : AWP P n c st (Qf P n fs Q) := by
 refine z5I X hT hC hm (YW l) 4000 (hoH L) _ _ l (hoB L) (by rw [← Wx]; exact e) fun st0 h0 => ?_
 refine z5G (X := σ × Nat) e2 (YW l) (fun x => YV f x.2 x.1 = some t) (fun x => x.2) (fun x => S x.1) (x0, fuel) _ h0 hl ht ?_
 rintro ⟨x, k⟩ hx J hJ
 obtain ⟨m, lr, rfl, hf, hr⟩ := zbP hx
 exact round x m lr hf hr J fun st' l' x' h1 h2 h3 => hJ st' l' (x', m) h1 (Nat.lt_succ_self m) h2 h3
theorem yJ6 (X : XH P) (hT : xG P tt) (hC : zS P ctr) (hm : P.follows .mixedOrders = true) {c : Code} {fs : List Fm} {st : St} (bd : Code) (path : List Nat) (Js : List (St → Prop)) {σ : Type} (live : List Nat) (Inv : σ → Prop) (S : σ → List (Nat × T)) (l : List (Nat × T)) (L : List HO)
  (e : Jo X tt ctr n (YW l) 4000 c fs st (hoH L) = some (.at (sub path bd) (frs path Js bd []), ofL l, hoO L))
  (e2 : sub path bd = .seq (sub (path ++ [2]) bd) (sub (path ++ [1]) bd))
  (h1 : ∀ z, Inv z → AWP P n (sub (path ++ [1]) bd) (ofL (S z)) (Qf P n (frs path Js bd []) Q))
  (h2 : ∀ J : St → Prop, (∀ st' l' z, Inv z → canon live st' = ofL l' → LeL l' (S z) → J st') → AWP P n (sub (path ++ [2]) bd) (ofL l) (Qf P n (.pre J :: frs path Js bd []) Q)) : AWP P n c st (Qf P n fs Q) := by
 refine z5I X hT hC hm (YW l) 4000 (hoH L) _ _ l (hoB L) (by rw [← Wx]; exact e) fun st0 h0 => ?_
 exact z5H e2 live (YW l) _ h0 Inv S h1 h2
theorem yF6 (X : XH P) (hT : xG P tt) (hC : zS P ctr) (hm : P.follows .mixedOrders = true) {c : Code} {fs : List Fm} {st : St} (ex : Exit) (l : List (Nat × T)) (L : List HO)
  (e : Jo X tt ctr n (YW l) 4000 c fs st (hoH L) = some (.fin ex, ofL l, hoO L)) (h : ∀ st0, canon (YW l) st0 = ofL l → Q ex st0) : AWP P n c st (Qf P n fs Q) :=
 za4 X hT hC hm (YW l) 4000 (hoH L) ex l (hoB L) (by rw [← Wx]; exact e) h
theorem zdQ (X : XH P) (hT : xG P tt) (hC : zS P ctr) (hm : P.follows .mixedOrders = true) {c : Code} {fs : List Fm} {st : St} (c' : Code) (fs' : List Fm) (l : List (Nat × T)) (L : List HO)
  (e : Jo X tt ctr n (YW l) 4000 c fs st (hoH L) = some (.at c' fs', ofL l, hoO L)) (h : ∀ st0, canon (YW l) st0 = ofL l → AWP P n c' st0 (Qf P n fs' Q)) : AWP P n c st (Qf P n fs Q) :=
 z5I X hT hC hm (YW l) 4000 (hoH L) _ _ l (hoB L) (by rw [← Wx]; exact e) h
theorem yO6 {r : A} {ls : List A} (hT : xG P tt) (keep : Bool) (rs : List (Nat × Option Nat)) (body : Code) (nt : Nat) (hf : P.funcs[k]? = some fn) (hb : fn.body = some body) (hn : nt = fn.ntmps) (hr : fn.results = (rs.map Jx).toArray) (hnm : (fn.name == "runtime.NumGoroutine") = false) (ha : Nat.ble ls.length nt = true)
  (h : ∀ E : St → Prop, (∀ st x R U, z2x tt keep rs st = some (x, R, U) → LeV x r → E st) → AWP P ⟨nt, []⟩ body (ofL (z38 0 ls)) (Qf P ⟨nt, []⟩ [] (z1K E))) : kJ P k ls r := by
 subst hn
 exact z5A (tt := tt) (keep := keep) (rs := rs) (n := ⟨fn.ntmps, []⟩) (body := body) hT hf hnm hb rfl hr (Nat.le_of_ble_eq_true ha) h
end
section
variable {α β γ δ ε ζ η : Type} {f0 : α → A} {f1 : β → A} {f2 : γ → A} {f3 : δ → A} {f4 : ε → A} {f5 : ζ → A} {f6 : η → A}
theorem KZ [h0 : jb f0] (x y : α) (h : [f0 x] = [f0 y]) : x = y := by simp only [List.cons.injEq, and_true] at h; exact h0.inj _ _ h
theorem Us [h0 : jb f0] [h1 : jb f1] (x y : α × β) (h : [f0 x.1, f1 x.2] = [f0 y.1, f1 y.2]) : x = y := by
 simp only [List.cons.injEq, and_true] at h
 exact Prod.ext (h0.inj _ _ h.1) (h1.inj _ _ h.2)
theorem zbU [h0 : jb f0] [h1 : jb f1] [h2 : jb f2] (x y : α × β × γ) (h : [f0 x.1, f1 x.2.1, f2 x.2.2] = [f0 y.1, f1 y.2.1, f2 y.2.2]) : x = y := by
 simp only [List.cons.injEq, and_true] at h
 exact Prod.ext (h0.inj _ _ h.1) (Prod.ext (h1.inj _ _ h.2.1) (h2.inj _ _ h.2.2))
theorem zdA [h0 : jb f0] [h1 : jb f1] [h2 : jb f2] [h3 : jb f3] (x y : α × β × γ × δ) (h : [f0 x.1, f1 x.2.1, f2 x.2.2.1, f3 x.2.2.2] = [f0 y.1, f1 y.2.1, f2 y.2.2.1, f3 y.2.2.2]) : x = y := by
 simp only [List.cons.injEq, and_true] at h
 exact Prod.ext (h0.inj _ _ h.1) (Prod.ext (h1.inj _ _ h.2.1) (Prod.ext (h2.inj _ _ h.2.2.1) (h3.inj _ _ h.2.2.2)))
end
def ji (sz : Nat) (es : List A) (S : zj) (h : Array Obj) (v : Value) (F : List Nat) : Prop :=
  (∀ x ∈ es, x.size = sz) ∧ ∃ p c, v = .slice p es.length c ∧ es.length ≤ c ∧ c ≤ maxLen ∧
    ((es = [] ∧ c = 0 ∧ p = none ∧ F = []) ∨
     ∃ b off arr ty l, p = some ⟨b, off, none⟩ ∧ h[b]? = some (.cells arr ty (0, 0)) ∧ off + c * sz ≤ arr.size ∧ (arr.toList.drop off).take (es.length * sz) = l ∧ ya S es l ∧ F = [b] ∧ ∀ o, S b o = none)
def VG (sz : Nat) (es : List A) : z0h := {
 holds := ji sz es
 one := by rintro S h v F ⟨_, p, c, rfl, _⟩; rfl
 frame := by
  rintro S S' h h' v F hS hF ⟨h1, p, c, rfl, h2, h3, h4⟩
  refine ⟨h1, p, c, rfl, h2, h3, h4.imp id ?_⟩
  rintro ⟨b, off, arr, ty, l, rfl, k1, k2, k3, k4, rfl, k6⟩
  obtain ⟨f1, f2⟩ := hF b (by simp)
  exact ⟨b, off, arr, ty, l, rfl, by rw [f1]; exact k1, k2, k3, k4.mono hS, rfl, f2⟩
 own := by
  rintro S h v F ⟨h1, p, c, rfl, h2, h3, h4⟩ k hk
  rcases h4 with ⟨_, _, _, rfl⟩ | ⟨b, off, arr, ty, l, rfl, k1, k2, k3, k4, rfl, k6⟩
  ·simp at hk
  ·rw [List.mem_singleton] at hk
   subst hk
   exact ⟨(Array.getElem?_eq_some_iff.1 k1).1, k6⟩
 idx := 0 }
def eDq (sz : Nat) (f : α → A) (l : List α) : A := .opq (VG sz (l.map f)).q
variable {h : Array Obj}{F : List Nat}
theorem z2M {t : Bool}  (hd : A.areD es = true) {cs : List Value}  (q : zG S h (.osl sz t es) cs F) : ∃ v, cs = [v] ∧ ji sz es S h v F := by
 simp only [zG] at q
 obtain ⟨p, c, rfl, t1, t2, t3, t4, t5⟩ := q
 refine ⟨_, rfl, t4, p, c, rfl, t2, t3, ?_⟩
 rcases t5 with ⟨rfl, rfl, rfl, rfl⟩ | ⟨b, arr, ty, l, F', rfl, k1, k2, k3, k4, rfl, k6⟩
 ·exact .inl ⟨rfl, rfl, rfl, rfl⟩
 ·obtain ⟨r1, rfl⟩ := k4.areD hd
  exact .inr ⟨b, 0, arr, ty, l, rfl, k1, by omega, by simpa using k3, r1, rfl, k6⟩
instance LeA.que {α : Type} (sz : Nat) (t : Bool) (f : α → A) [h : WD f] (l : List α) : LeA (eOs sz t f l) (eDq sz f l) := {
 rep := fun S cs q => by simp only [eOs, Rep] at q
 conc := fun S hp cs F q => by
  obtain ⟨v, rfl, q2⟩ := z2M (Jf f l h.isD) q
  simp only [eDq, zG]
  exact ⟨v, rfl, q2⟩
 val := fun cs => rfl
 tup := fun _ e => by cases e }
theorem JQ : ∀ {es : List A} {l : List Value}, (∀ x ∈ es, x.size = sz) → ya S es l → ∀ k, ya S (es.drop k) (l.drop (k * sz))
 | es, l, h, r, 0 => by simpa using r
 | [], l, h, r, k + 1 => by
  simp only [ya] at r
  subst r
  simp [ya]
 | x :: es, l, h, r, k + 1 => by
  simp only [ya] at r
  obtain ⟨c1, c2, rfl, r1, r2⟩ := r
  have hx : c1.length = sz := by rw [r1.len]; exact h x (by simp)
  have e : (k + 1) * sz = c1.length + k * sz := by rw [hx, Nat.add_mul]; omega
  rw [e, List.drop_append, List.drop_succ_cons, List.drop_eq_nil_of_le (show c1.length ≤ c1.length + k * sz by omega), List.nil_append, Nat.add_sub_cancel_left]
  exact JQ (fun y hy => h y (by simp [hy])) r2 k
theorem z6h [Decidable p] {m : SM Unit}  {q : Unit × List Nat × List (Nat × Ent)} (h : (if p then m else zl) st = some q) : p ∧ m st = some q := by
 by_cases hp : p
 ·rw [if_pos hp] at h; exact ⟨hp, h⟩
 ·rw [if_neg hp] at h; exact (z6 h).elim
variable {xs ys : List A}{f : TypeInfo}
section
variable {C : Ctx} {S : zj} {Fp : Nat → List Nat} {X : List Nat} {st : St} {a : Act} {w : World}
open Classical in
def zb7 (tt : TT) (n : Fr) (dst : Option Nat) (t sz : Nat) (es : List A) (z vl : A) : SM Unit :=
 match vl with
 | .atom (.int _ j) => if z = .opq (VG sz es).q then (if yZ tt t = some sz then (if 0 ≤ j ∧ j.toNat ≤ es.length then wrT n dst (.own (.opq (VG sz (es.drop j.toNat)).q)) else zl) else zl) else zl
 | _ => zl
def qslO (tt : TT) (n : Fr) (dst : Option Nat) (t sz : Nat) (es : List A) (x lo : Operand) : SM Unit := do
 let y ← opnd x
 let z ← take y
 let tl ← opnd lo
 let vl ← val tl
 zb7 tt n dst t sz es z vl
def zdi (tt : TT) (n : Fr) (dst : Option Nat) (t sz : Nat) (es es' : List A) (x lo : Operand) : HM Unit := zV (opnd x) >>= fun y => Qu y >>= fun z => zV (opnd lo) >>= fun tl => ZS tl >>= fun vl =>
 match vl with
 | .atom (.int _ j) => ud (z = .opq (VG sz es).q) (if yZ tt t = some sz then ud (0 ≤ j ∧ j.toNat ≤ es.length) (ud (es.drop j.toNat = es') (zV (wrT n dst (.own (.opq (VG sz es').q))))) else zH)
 | _ => zH
open Classical in
theorem zbw (tt : TT) (n : Fr) (dst : Option Nat) (t sz : Nat) (es es' : List A) (x lo : Operand) : Snd (qslO tt n dst t sz es x lo) (zdi tt n dst t sz es es' x lo) := by
 refine ze (zi _) fun y => ze (Wr _) fun z => ze (zi _) fun tl => ze (vu _) fun vl => ?_
 unfold zb7
 cases vl with
 | atom u =>
  cases u with
  | int k j => exact xK (wT (xK (ZX fun e => by rw [e]; exact zi _)) (zo _))
  | _ => exact zo _
 | _ => exact zo _
open Classical in
theorem Loc.qslO (tt : TT) (n : Fr) (dst : Option Nat) (t sz : Nat) (es : List A) (x lo : Operand) : Loc (qslO tt n dst t sz es x lo) := by
 unfold Go.Own.qslO
 refine Loc.bind (Loc.opnd _) fun _ => Loc.bind (Loc.take _) fun z => Loc.bind (Loc.opnd _) fun _ => Loc.bind (Loc.val _) fun vl => ?_
 unfold Go.Own.zb7
 split
 ·exact Loc.ite (Loc.ite (Loc.ite (Loc.wrT _ _ _) Loc.fail) Loc.fail) Loc.fail
 ·exact Loc.fail
theorem z65 (q : (xj S (.opq (VG sz es).q) v ∧ F = []) ∨ ∃ cs, zG S w.heap (.opq (VG sz es).q) cs F ∧ F.Nodup ∧ v = zK (.opq (VG sz es).q) cs) : ji sz es S w.heap v F ∧ F.Nodup := by
 rcases q with ⟨q, _⟩ | ⟨cs, q1, q2, q3⟩
 ·simp only [xj, wB, Rep, false_and, exists_false] at q
 ·simp only [zG] at q1
  obtain ⟨u, rfl, q1⟩ := q1
  exact ⟨by rw [q3]; exact q1, q2⟩
theorem z19 (q : ji sz es S h v F) : zG S h (.opq (VG sz es).q) [v] F := by
 simp only [zG]; exact ⟨v, rfl, q⟩
theorem z9g {P : Program}  (hT : xG P tt) (h : Sim C S Fp [] st a w)  {t sz : Nat}  {x lo : Operand} (ho : o.op = .slice t x (some lo) none none)    (e0 : qslO tt C.n o.dst t sz es x lo st = some (u, R, U)) : wZ P C o a w (zc U st) := by
 unfold qslO at e0
 obtain ⟨y, R1, U1, R2, U2, h1, e1, rfl, rfl⟩ := bind_some e0
 obtain ⟨rfl, hx⟩ := zz h h1
 simp only [zc, List.nil_append] at e1 ⊢
 obtain ⟨z, R3, U3, R4, U4, h3, e2, rfl, rfl⟩ := bind_some e1
 obtain ⟨Fp', F, g1, g2⟩ := ZU h hx h3
 rw [zu]
 obtain ⟨tl, R5, U5, R6, U6, h5, e3, rfl, rfl⟩ := bind_some e2
 obtain ⟨rfl, hl⟩ := zz g1 h5
 obtain ⟨vl, R7, U7, R8, U8, h7, e4, rfl, rfl⟩ := bind_some e3
 obtain ⟨rfl, ql⟩ := xP g1 hl h7
 simp only [zc, List.nil_append] at e4 ⊢
 unfold zb7 at e4
 split at e4
 ·rename_i k j
  split at e4
  ·rename_i hz
   subst hz
   split at e4
   ·rename_i hel
    split at e4
    ·rename_i hj
     obtain ⟨j0, j1⟩ := hj
     obtain ⟨el, he, hsz⟩ := xT hT hel w
     obtain ⟨el', _⟩ := zp.1 ql
     obtain ⟨⟨t4, p, c, ev, t2, t3, t5⟩, hn⟩ := z65 g2
     have hrun := qa (P := P) (w := w) he hsz (p := p) (len := es.length) (c := c) (m := c) (lo := some (.int k j)) (hi := none) (mx := none) (.inr ⟨k, j, rfl, j0, rfl⟩) (.inl ⟨rfl, rfl⟩) (.inl ⟨rfl, rfl⟩) j1 t2 (Nat.le_refl c) (by simp)
     have hq : ji sz (es.drop j.toNat) S w.heap (.slice (if c = j.toNat then p else p.map (·.add (j.toNat * sz))) (es.length - j.toNat) (c - j.toNat)) F := by
      refine ⟨fun y hy => t4 y (List.mem_of_mem_drop hy), _, _, by rw [List.length_drop], by rw [List.length_drop]; omega, by omega, ?_⟩
      rcases t5 with ⟨rfl, rfl, rfl, rfl⟩ | ⟨b, off, arr, ty, l, rfl, k1, k2, k3, k4, rfl, k6⟩
      ·exact .inl ⟨by simp, by simp, by simp, rfl⟩
      ·have hr := JQ t4 k4 j.toNat
       have hm : (es.length - j.toNat) * sz + j.toNat * sz = es.length * sz := by rw [← Nat.add_mul]; congr 1; omega
       have hcj : (c - j.toNat) * sz + j.toNat * sz = c * sz := by rw [← Nat.add_mul]; congr 1; omega
       by_cases hcc : c = j.toNat
       ·have : es.length = j.toNat := by omega
        refine .inr ⟨b, off, arr, ty, [], by simp [hcc], k1, by rw [hcc]; simp; omega, by simp [List.length_drop, this], ?_, rfl, k6⟩
        rw [List.drop_eq_nil_of_le (by omega)]; simp [ya]
       ·refine .inr ⟨b, off + j.toNat * sz, arr, ty, l.drop (j.toNat * sz), by simp [hcc, Addr.add_lit], k1, by omega, ?_, hr, rfl, k6⟩
        rw [List.length_drop, ← k3, List.drop_take, List.drop_drop]
        congr 1
        omega
     obtain ⟨Fp'', hs⟩ := j8 g1 e4 (z19 hq) hn
     refine zn ?_ hs
     simp [execOp, ho, ev, el', hrun, zK]
    ·exact (z6 e4).elim
   ·exact (z6 e4).elim
  ·exact (z6 e4).elim
 ·exact (z6 e4).elim
open Classical in
def zb8 (n : Fr) (dst : Option Nat) (sz : Nat) (es : List A) (x : Operand) : SM Unit := do
 let tx ← opnd x
 let y ← peek tx
 if y = .opq (VG sz es).q then wrT n dst (.d (.atom (.int .i64 (es.length : Nat)))) else zl
def zdj (n : Fr) (dst : Option Nat) (sz : Nat) (es : List A) (x : Operand) : HM Unit := zV (opnd x) >>= fun tx => UD tx >>= fun y => ud (y = .opq (VG sz es).q) (eqA (.atom (.int .i64 (es.length : Nat))) >>= fun r => zV (wrT n dst (.d r)))
open Classical in
theorem zbx (n : Fr) (dst : Option Nat) (sz : Nat) (es : List A) (x : Operand) : Snd (zb8 n dst sz es x) (zdj n dst sz es x) :=
 ze (zi _) fun _ => ze (Xt _) fun _ => xK (Yz (zU _ fun r => wrT n dst (.d r)).symm (ze (UB _) fun _ => zi _))
theorem z9h (hT : xG P tt) (h : Sim C S Fp [] st a w)  {t sz : Nat}  {x : Operand} (hty : u9 tt t = true) (ho : o.op = .call ⟨.builtin .len, ⟨[x]⟩, ⟨[t]⟩⟩)    (e : zb8 C.n o.dst sz es x st = some (u, R, U)) : wZ P C o a w (zc U st) := by
 unfold zb8 at e
 obtain ⟨tx, R1, U1, R2, U2, h1, e1, rfl, rfl⟩ := bind_some e
 obtain ⟨rfl, hx⟩ := zz h h1
 obtain ⟨y, R3, U3, R4, U4, h3, e2, rfl, rfl⟩ := bind_some e1
 obtain ⟨rfl, qx⟩ := Zb h hx h3
 simp only [zc, List.nil_append] at e2 ⊢
 split at e2
 ·rename_i hc
  subst hc
  obtain ⟨F, g⟩ := QS qx
  obtain ⟨_, p, c, ev, _⟩ := g
  obtain ⟨el, hel⟩ := jD hT hty
  obtain ⟨Fp', hs⟩ := xW h e2 (x := .d _) (zp.2 ⟨rfl, rfl⟩)
  refine zn ?_ hs
  simp [execOp, ho, resolve, invoke, builtin, Builtin.len_, ev, run_underlying hel, goInt]
 ·exact (z6 e2).elim
def z1t (sz : Nat) (v : Value) (j : Int) : Value :=
 match v with
 | .slice (some p) _ _ => .pointer (some (p.add (j.toNat * sz)))
 | _ => .pointer none
theorem z4P {j : Int} : (z1t sz v j).oneCell' = true := by
 unfold z1t; split <;> rfl
theorem z2C (h : Sim C S Fp [] st a w) {r sz : Nat}  (hr : (st r).t = .own (.opq (VG sz es).q)) : ∃ F, ji sz es S w.heap (Act.tv a r) F := by
 have hq := h.ent r
 unfold yT at hq
 simp only [hr] at hq
 obtain ⟨cs, c1, c2, c3⟩ := hq
 simp only [zG] at c1
 obtain ⟨v, rfl, c1⟩ := c1
 exact ⟨_, by rw [c3]; exact c1⟩
open Classical in
def qixO (tt : TT) (n : Fr) (dst : Option Nat) (t sz r : Nat) (v : Value) (es : List A) (x i : Operand) : SM Unit := do
 let tx ← opnd x
 let ti ← opnd i
 let vi ← val ti
 let e ← rdE r
 match vi with
 | .atom (.int _ j) => if tx = .als r [] e.er e.ec ∧ W6 n.pin r = some v ∧ e.t = .own (.opq (VG sz es).q) ∧ yZ tt t = some sz ∧ 0 ≤ j ∧ j.toNat < es.length then wrT n dst (.d (.atom (z1t sz v j))) else zl
 | _ => zl
def zdl (tt : TT) (n : Fr) (dst : Option Nat) (t sz r : Nat) (v : Value) (es : List A) (x i : Operand) : HM Unit := zV (opnd x) >>= fun tx => zV (opnd i) >>= fun ti => ZS ti >>= fun vi => zV (rdE r) >>= fun e =>
 match vi with
 | .atom (.int _ j) => ud (tx = .als r [] e.er e.ec ∧ W6 n.pin r = some v ∧ e.t = .own (.opq (VG sz es).q) ∧ yZ tt t = some sz ∧ 0 ≤ j ∧ j.toNat < es.length) (zV (wrT n dst (.d (.atom (z1t sz v j)))))
 | _ => zH
open Classical in
theorem zbz (tt : TT) (n : Fr) (dst : Option Nat) (t sz r : Nat) (v : Value) (es : List A) (x i : Operand) : Snd (qixO tt n dst t sz r v es x i) (zdl tt n dst t sz r v es x i) := by
 refine ze (zi _) fun tx => ze (zi _) fun ti => ze (vu _) fun vi => ze (zi _) fun e => ?_
 cases vi with
 | atom u =>
  cases u with
  | int k j => exact xK (zi _)
  | _ => exact zo _
 | _ => exact zo _
open Classical in
theorem Loc.qixO (tt : TT) (n : Fr) (dst : Option Nat) (t sz r : Nat) (v : Value) (es : List A) (x i : Operand) : Loc (qixO tt n dst t sz r v es x i) := by
 unfold Go.Own.qixO
 refine Loc.bind (Loc.opnd _) fun _ => Loc.bind (Loc.opnd _) fun _ => Loc.bind (Loc.val _) fun vi => Loc.bind (Loc.rdE _) fun _ => ?_
 split
 ·exact Loc.ite (Loc.wrT _ _ _) Loc.fail
 ·exact Loc.fail
open Classical in
theorem z9j {P : Program}  (hT : xG P tt) (h : Sim C S Fp [] st a w) {o : Oper} {t sz r : Nat} {v : Value}  {x i : Operand} (ho : o.op = .indexAddr t x i)    (e0 : qixO tt C.n o.dst t sz r v es x i st = some (u, R, U)) : wZ P C o a w (zc U st) := by
 unfold qixO at e0
 obtain ⟨tx, R1, U1, R2, U2, h1, e1, rfl, rfl⟩ := bind_some e0
 obtain ⟨rfl, hx⟩ := zz h h1
 obtain ⟨ti, R3, U3, R4, U4, h3, e2, rfl, rfl⟩ := bind_some e1
 obtain ⟨rfl, hi⟩ := zz h h3
 obtain ⟨vi, R5, U5, R6, U6, h5, e3, rfl, rfl⟩ := bind_some e2
 obtain ⟨rfl, qi⟩ := xP h hi h5
 obtain ⟨en, R7, U7, R8, U8, h7, e4, rfl, rfl⟩ := bind_some e3
 obtain ⟨rfl, rfl, rfl⟩ := y8 h7
 simp only [zc, List.nil_append] at e4 ⊢
 split at e4
 ·rename_i k j
  have hq := z6h e4
  clear e4
  obtain ⟨hc, e4⟩ := hq
  ·obtain ⟨rfl, c2, c3, c4, c5, c6⟩ := hc
   have hs := h.pin r v (u6 c2)
   obtain ⟨F, t4, p, c, ev, t2, t3, t5⟩ := z2C h c3
   have hxv : a.eval x = .slice p es.length c := by rw [← ev]; exact z2I hx c3 rfl
   obtain ⟨e', he, hsz⟩ := xT hT c4 w
   obtain ⟨ei, _⟩ := zp.1 qi
   rcases t5 with ⟨rfl, _⟩ | ⟨b, off, arr, ty, l, rfl, k1, k2, k3, k4, rfl, k6⟩
   ·simp at c6
   ·have hrun := kT (P := P) (b := b) (o := off) (n := es.length) (c := c) (k := k) he hsz c5 c6
    obtain ⟨Fp', hs'⟩ := xW h e4 (x := .d (.atom (z1t sz v j))) (v := z1t sz v j) (zp.2 ⟨rfl, z4P⟩)
    refine zn ?_ hs'
    have hvv : v = .slice (some ⟨b, off, none⟩) es.length c := by rw [← hs, ev]
    rw [hvv]
    simp [execOp, ho, ei, hxv, hrun, z1t, Addr.add_lit]
 ·exact (z6 e4).elim
open Classical in
def qldO (tt : TT) (n : Fr) (dst : Option Nat) (t sz r : Nat) (v : Value) (j : Int) (es : List A) (y : A) (x : Operand) : SM Unit := do
 let tx ← opnd x
 let e ← rdE r
 if tx = .d (.atom (z1t sz v j)) ∧ W6 n.pin r = some v ∧ e.t = .own (.opq (VG sz es).q) ∧ es[j.toNat]? = some y ∧ vW tt t y = true ∧ y.isD = true then wrT n dst (.d y) else zl
def zdk (tt : TT) (n : Fr) (dst : Option Nat) (t sz r : Nat) (v : Value) (j : Int) (es : List A) (y : A) (x : Operand) : HM Unit := zV (opnd x) >>= fun tx => zV (rdE r) >>= fun e =>
 ud (tx = .d (.atom (z1t sz v j)) ∧ W6 n.pin r = some v ∧ e.t = .own (.opq (VG sz es).q) ∧ es[j.toNat]? = some y ∧ vW tt t y = true ∧ y.isD = true) (zV (wrT n dst (.d y)))
open Classical in
theorem zby (tt : TT) (n : Fr) (dst : Option Nat) (t sz r : Nat) (v : Value) (j : Int) (es : List A) (y : A) (x : Operand) : Snd (qldO tt n dst t sz r v j es y x) (zdk tt n dst t sz r v j es y x) :=
 ze (zi _) fun tx => ze (zi _) fun e => xK (zi _)
open Classical in
theorem Loc.qldO (tt : TT) (n : Fr) (dst : Option Nat) (t sz r : Nat) (v : Value) (j : Int) (es : List A) (y : A) (x : Operand) : Loc (qldO tt n dst t sz r v j es y x) := by
 unfold Go.Own.qldO
 exact Loc.bind (Loc.opnd _) fun _ => Loc.bind (Loc.rdE _) fun _ => Loc.ite (Loc.wrT _ _ _) Loc.fail
open Classical in
theorem z9i (hT : xG P tt) (h : Sim C S Fp [] st a w) {o : Oper} {t sz r : Nat} {v : Value} {j : Int}   {x : Operand} (ho : o.op = .load t x)    (e0 : qldO tt C.n o.dst t sz r v j es y x st = some (u, R, U)) : wZ P C o a w (zc U st) := by
 unfold qldO at e0
 obtain ⟨tx, R1, U1, R2, U2, h1, e1, rfl, rfl⟩ := bind_some e0
 obtain ⟨rfl, hx⟩ := zz h h1
 obtain ⟨en, R7, U7, R8, U8, h7, e4, rfl, rfl⟩ := bind_some e1
 obtain ⟨rfl, rfl, rfl⟩ := y8 h7
 simp only [zc, List.nil_append] at e4 ⊢
 have hq := z6h e4
 clear e4
 obtain ⟨hc, e4⟩ := hq
 ·obtain ⟨rfl, c2, c3, c4, c5, c6⟩ := hc
  have hs := h.pin r v (u6 c2)
  obtain ⟨F, t4, p, c, ev, t2, t3, t5⟩ := z2C h c3
  have hxv : a.eval x = z1t sz v j := (zp.1 hx).1
  have hlt := (List.getElem?_eq_some_iff.1 c4).1
  rcases t5 with ⟨rfl, _⟩ | ⟨b, off, arr, ty, l, rfl, k1, k2, k3, k4, rfl, k6⟩
  ·simp at hlt
  ·have hvv : v = .slice (some ⟨b, off, none⟩) es.length c := by rw [← hs, ev]
   obtain ⟨d1, ci, d2, hl, hd1, hr⟩ := Yk k4 c4
   have hd : d1.length = j.toNat * sz := by
    rw [hd1, A.sizes_const (sz := sz) (fun z hz => t4 z (List.mem_of_mem_take hz)), List.length_take]
    congr 1
    omega
   have hsit : z3V w.heap b (off + j.toNat * sz) ci := by
    intro i u hi
    have hi2 : l[d1.length + i]? = some u := by
     rw [hl, List.append_assoc, List.getElem?_append_right (by omega), Nat.add_sub_cancel_left, List.getElem?_append_left (List.getElem?_eq_some_iff.1 hi).1]
     exact hi
    rw [← k3, List.getElem?_take] at hi2
    split at hi2
    ·rw [List.getElem?_drop] at hi2
     simp only [y6, k1]
     rw [← hi2, Array.getElem?_toList, hd, Nat.add_assoc]
    ·cases hi2
   have hld := qb hT c5 (w := w) (b := b) (o := off + j.toNat * sz) hr.len hsit
   obtain ⟨Fp', hs'⟩ := xW h e4 (x := .d y) (v := zK y ci) (wB.repV ⟨ci, hr, rfl⟩)
   refine zn ?_ hs'
   have ex : a.eval x = .pointer (some ⟨b, off + j.toNat * sz, none⟩) := by
    rw [hxv, hvv]; simp [z1t, Addr.add_lit]
   simp [execOp, ho, ex, Instr.loadAt, Instr.sureAddr, hld]
theorem YJ {P : Program} {t ty e bty : TypeId} {i : TypeInfo} (ht : P.underlying t = some (.slice e)) (hi : P.info? e = some i) (w : World)
  (g off n c : Nat) (cur : Array Value) (hg : w.heap[g]? = some (.cells cur bty (0, 0)))
  (a : Addr) (m d : Nat) (news : List Value) (hl : news.length = m * i.size) (hnews : ∀ j u, news[j]? = some u → w.cell? (a.add j) = some u) (h1 : ∀ u ∈ news, u.oneCell' = true)
  (hroom : n + m ≤ c) (hfit : off + n * i.size + news.length ≤ cur.size) :
  (Builtin.append_ #[t, t] ty #[.slice (some ⟨g, off, none⟩) n c, .slice (some a) m d]).run P w = .ok (.slice (some ⟨g, off, none⟩) (n + m) c) (w.setRow g (kq cur (off + n * i.size) news)) := by
 have hf := run_firstCells_some (P := P) w i.size m a m d news hl hnews
 have hst := run_storeCells_at P g (off + n * i.size) bty news 0 cur w hg (by simpa using hfit) h1
 simp only [Nat.add_zero] at hst
 rw [v8 hfit] at hst
 simp [Builtin.append_, run_underlying ht, Go.sizeOf, typeInfo, hi, Builtin.lenOf, hroom, hf, Addr.add_lit, hst]
theorem z1G {P : Program} {t ty e : TypeId}  {zv : Value} (ht : P.underlying t = some (.slice e)) (hi : P.info? e = some f) (hz : f.zero = some zv) (hzs : zv.cells.size = f.size)
    {F : List Nat} (h : Sim C S Fp (F ++ []) st a w) {es ys : List A} {v : Value} (hc : ji f.size es S w.heap v F) (hFn : F.Nodup)
    {p : Option Addr} {d : Nat} {news : List Value} (hr : ya S ys news) (hsz2 : ∀ x ∈ ys, x.size = f.size) (hsrc : (ys = [] ∧ news = []) ∨ ∃ ad, p = some ad ∧ ∀ j u, news[j]? = some u → w.cell? (ad.add j) = some u)
    (hlim : es.length + ys.length ≤ lim) (hb : f.bytes ≤ 4096) (hD : A.areD (es ++ ys) = true) :
    ∃ v' w', (Builtin.append_ #[t, t] ty #[v, .slice p ys.length d]).run P w = .ok v' w' ∧ ∃ F', Sim C S Fp (F' ++ []) st a w' ∧ F'.Nodup ∧ ji f.size (es ++ ys) S w'.heap v' F' := by
  have hc0 := hc
  obtain ⟨t4, q, c, rfl, t2, t3, t5⟩ := hc
  have fin : ∀ {F' : List Nat} {v' : Value} {w' : World} {cs : List Value}, zG S w'.heap (.osl f.size false (es ++ ys)) cs F' → v' = zK (.osl f.size false (es ++ ys)) cs → ji f.size (es ++ ys) S w'.heap v' F' := by
    intro F' v' w' cs k1 k2
    obtain ⟨u, rfl, k3⟩ := z2M hD k1
    rw [k2]; exact k3
  by_cases hy0 : ys = []
  · subst hy0
    simp only [ya] at hr
    subst hr
    exact ⟨_, w, jz ht hi q p es.length c d t2 w, F, h, hFn, by simpa using hc0⟩
  · have hpos : 0 < ys.length := List.length_pos_iff.2 hy0
    rcases hsrc with ⟨hy, _⟩ | ⟨ad, rfl, hnews⟩
    · exact absurd hy hy0
    have hl2 : news.length = ys.length * f.size := by rw [hr.len, A.sizes_const hsz2]
    rcases t5 with ⟨rfl, rfl, rfl, rfl⟩ | ⟨b, off, arr, bty, l, rfl, k1, k2, k3, k4, rfl, k6⟩
    · obtain ⟨v', w', g1, F', g2, g3, cs, g4, g5⟩ := jL (ty := ty) ht hi hz hzs h (es := []) (olds := []) (by simp [zJ]) (by simp) (hr.concs w.heap) (by simp) hsz2 (.inl ⟨rfl, rfl, rfl⟩) hnews (by simpa using hpos) hlim hb hpos
      exact ⟨v', w', g1, F', g2, g3, fin g4 g5⟩
    · have hl1 : l.length = es.length * f.size := by rw [k4.len, A.sizes_const t4]
      by_cases hroom : es.length + ys.length ≤ c
      · have hm := Nat.mul_le_mul_right f.size hroom
        rw [Nat.add_mul] at hm
        have hfit : off + es.length * f.size + news.length ≤ arr.size := by omega
        have hrun := YJ (P := P) (ty := ty) ht hi w b off es.length c arr k1 ad ys.length d news hl2 hnews (fun u hu => hr.one u hu) hroom hfit
        let w' := w.setRow b (kq arr (off + es.length * f.size) news)
        have hheap : ∀ k, k ≠ b → w'.heap[k]? = w.heap[k]? := fun k hk => setRow_other w b k _ hk
        have hheapb : w'.heap[b]? = some (.cells (kq arr (off + es.length * f.size) news) bty (0, 0)) := setRow_heap w b arr _ bty (0, 0) k1
        have hbF : ∀ t', b ∉ Fp t' := fun t' => h.xd t' b (by simp)
        have hbase : C.M b := h.xb b (by simp)
        refine ⟨_, w', hrun, [b], ?_, by simp, ?_⟩
        · refine h.mem (h.below.trans ⟨rfl, rfl, rfl, Nat.le_refl _, by simp [w'], fun k hk => hheap k (fun e => hk (e ▸ hbase))⟩) (fun _ _ _ h => h) ?_ h.sbase (fun t' k hk => ⟨hheap k (by rintro rfl; exact hbF t' hk), (h.free t' k hk).2.1⟩) (by simp) (by simpa using h.xd) (by simpa using h.xb)
          intro b' o' v hs
          rw [xe (h := w.heap) (h' := w'.heap) (hheap b' (by rintro rfl; rw [k6] at hs; cases hs))]
          exact h.still b' o' v hs
        · refine ⟨?_, _, c, by rw [List.length_append], by rw [List.length_append]; exact hroom, t3, .inr ⟨b, off, kq arr (off + es.length * f.size) news, bty, l ++ news, rfl, hheapb, by simp [k2], ?_, k4.append hr, rfl, k6⟩⟩
          · intro x hx
            rcases List.mem_append.1 hx with h | h
            · exact t4 x h
            · exact hsz2 x h
          · apply List.ext_getElem?
            intro k
            rw [List.getElem?_take, List.getElem?_drop, Array.getElem?_toList, vn, List.length_append, Nat.add_mul]
            by_cases hk : k < es.length * f.size
            · rw [if_pos (by omega), if_neg (by omega), List.getElem?_append_left (by omega), ← k3, List.getElem?_take, if_pos hk, List.getElem?_drop, Array.getElem?_toList]
              cases arr[off + k]? <;> rfl
            · by_cases hk2 : k < es.length * f.size + ys.length * f.size
              · have ej : off + k - (off + es.length * f.size) = k - l.length := by omega
                rw [if_pos hk2, if_pos (by omega), List.getElem?_append_right (by omega), ej, Array.getElem?_eq_getElem (show off + k < arr.size by omega), List.getElem?_eq_getElem (show k - l.length < news.length by omega)]
                rfl
              · rw [if_neg hk2, List.getElem?_eq_none (by rw [List.length_append]; omega)]
      · have hold : ∀ j v, l[j]? = some v → w.cell? ((⟨b, off, none⟩ : Addr).add j) = some v := by
          intro j u hj
          rw [Addr.add_lit, Zj]
          simp only [y6, k1]
          rw [← k3, List.getElem?_take] at hj
          split at hj
          · rw [List.getElem?_drop] at hj
            simpa using hj
          · cases hj
        have hsub : Sim C S Fp ([] ++ []) st a w := h.mem h.below (fun _ _ _ h => h) h.still.cell h.sbase (fun t' k hk => ⟨rfl, (h.free t' k hk).2.1⟩) (by simp) (fun t' k hk => by simp at hk) (fun k hk => by simp at hk)
        obtain ⟨v', w', g1, F', g2, g3, cs, g4, g5⟩ := jL (ty := ty) ht hi hz hzs hsub (k4.concs w.heap) (by simp) (hr.concs w.heap) t4 hsz2 (.inr ⟨⟨b, off, none⟩, rfl, hold⟩) (d := d) (c := c) hnews (by omega) hlim hb hpos
        exact ⟨v', w', g1, F', g2, g3, fin g4 g5⟩
def Ji (tt : TT) (t sz : Nat) : Bool := match tt t with
 | some ⟨.slice e, _, _, _, _⟩ => match tt e with
  | some i => i.size == sz && decide (i.bytes ≤ 4096) && decide (0 < i.size) && i.zero.isSome
  | none => false
 | _ => false
theorem z5K (h1 : A.areD xs = true) (h2 : A.areD ys = true) : A.areD (xs ++ ys) = true := by
 induction xs with
 | nil => exact h2
 | cons x xs ih =>
  simp only [A.areD, Bool.and_eq_true, List.cons_append] at h1 ⊢
  exact ⟨h1.1, ih h1.2⟩
open Classical in
def qapO (tt : TT) (n : Fr) (dst : Option Nat) (t sz : Nat) (es : List A) (s x : Operand) : SM Unit := do
 let ts ← opnd s
 let tx ← opnd x
 let y ← peek tx
 match y with
 | .osl s' _ ys => if s' = sz ∧ A.areD ys = true ∧ Ji tt t sz = true then (do
   let z ← take ts
   if z = .opq (VG sz es).q ∧ es.length + ys.length ≤ lim ∧ A.areD es = true then wrT n dst (.own (.opq (VG sz (es ++ ys)).q)) else zl) else zl
 | _ => zl
def zdm (tt : TT) (n : Fr) (dst : Option Nat) (t sz : Nat) (es es' : List A) (s x : Operand) : HM Unit := zV (opnd s) >>= fun ts => zV (opnd x) >>= fun tx => UD tx >>= fun y =>
 match y with
 | .osl s' _ ys => ud (s' = sz ∧ A.areD ys = true ∧ Ji tt t sz = true) (Qu ts >>= fun z => ud (z = .opq (VG sz es).q ∧ es.length + ys.length ≤ lim ∧ A.areD es = true) (ud (es ++ ys = es') (zV (wrT n dst (.own (.opq (VG sz es').q))))))
 | _ => zH
open Classical in
theorem zbA (tt : TT) (n : Fr) (dst : Option Nat) (t sz : Nat) (es es' : List A) (s x : Operand) : Snd (qapO tt n dst t sz es s x) (zdm tt n dst t sz es es' s x) := by
 refine ze (zi _) fun ts => ze (zi _) fun tx => ze (Xt _) fun y => ?_
 cases y with
 | osl s' tg ys => exact xK (ze (Wr _) fun z => xK (ZX fun e => by rw [e]; exact zi _))
 | _ => exact zo _
open Classical in
theorem Loc.qapO (tt : TT) (n : Fr) (dst : Option Nat) (t sz : Nat) (es : List A) (s x : Operand) : Loc (qapO tt n dst t sz es s x) := by
 unfold Go.Own.qapO
 refine Loc.bind (Loc.opnd _) fun _ => Loc.bind (Loc.opnd _) fun _ => Loc.bind (Loc.peek _) fun y => ?_
 split
 ·exact Loc.ite (Loc.bind (Loc.take _) fun z => Loc.ite (Loc.wrT _ _ _) Loc.fail) Loc.fail
 ·exact Loc.fail
open Classical in
theorem z9k (hT : xG P tt) (h : Sim C S Fp [] st a w)  {t sz : Nat}  {s x : Operand} (ho : o.op = .call ⟨.builtin .append, ⟨[s, x]⟩, ⟨[t, t]⟩⟩)    (e0 : qapO tt C.n o.dst t sz es s x st = some (u, R, U)) : wZ P C o a w (zc U st) := by
 unfold qapO at e0
 obtain ⟨ts, R1, U1, R2, U2, h1, e1, rfl, rfl⟩ := bind_some e0
 obtain ⟨rfl, hs⟩ := zz h h1
 obtain ⟨tx, R3, U3, R4, U4, h3, e2, rfl, rfl⟩ := bind_some e1
 obtain ⟨rfl, hx⟩ := zz h h3
 obtain ⟨y, R5, U5, R6, U6, h5, e3, rfl, rfl⟩ := bind_some e2
 obtain ⟨rfl, q⟩ := Zb h hx h5
 simp only [zc, List.nil_append] at e3 ⊢
 cases y with
 | osl s' tg ys =>
  have hq := z6h e3
  clear e3
  obtain ⟨⟨rfl, c2, c3⟩, e3⟩ := hq
  obtain ⟨z, R7, U7, R8, U8, h7, e4, rfl, rfl⟩ := bind_some e3
  obtain ⟨Fp', F, g1, g2⟩ := ZU h hs h7
  rw [zu]
  have hq := z6h e4
  clear e4
  obtain ⟨⟨rfl, d2, d3⟩, e4⟩ := hq
  unfold Ji at c3
  cases ht : tt t with
  | none => simp only [ht] at c3; cases c3
  | some it =>
   obtain ⟨kd, a1, a2, a3, a4⟩ := it
   cases kd with
   | slice el =>
    simp only [ht] at c3
    have hel : P.underlying t = some (.slice el) := (hT _ _ ht).kind
    cases hi : tt el with
    | none => simp only [hi] at c3; cases c3
    | some i =>
     simp only [hi, Bool.and_eq_true, beq_iff_eq, decide_eq_true_eq] at c3
     obtain ⟨⟨⟨rfl, k2⟩, k3⟩, k4⟩ := c3
     obtain ⟨f, f1, f2, f3, f4⟩ := (hT _ _ hi).info
     obtain ⟨z0, hz0⟩ := Option.isSome_iff_exists.1 k4
     obtain ⟨zv, v1, v2, v3⟩ := f4 z0 hz0
     have hzs : zv.cells.size = f.size := by
      have := (v3 (fun _ _ => none) #[]).len
      rw [v2, ← f2] at this
      simpa using this
     obtain ⟨p, d, news, ev, r1, r2, r3⟩ := Vr h (.inr ⟨tg, rfl⟩) c2 q
     obtain ⟨m1, m2⟩ := z65 g2
     rw [← f2] at m1 r2 e4
     obtain ⟨v, w', hrun, F', n1, n2, n3⟩ := z1G (ty := o.type) hel f1 v1 hzs g1 m1 m2 (p := p) (d := d) r1 r2 r3 d2 (by omega) (z5K d3 c2)
     obtain ⟨Fp'', hs'⟩ := j8 n1 e4 (z19 n3) n2
     refine zn ?_ hs'
     simp [execOp, ho, resolve, invoke, builtin, ev, hrun, zK]
   | _ => simp only [ht] at c3; cases c3
 | _ => exact (z6 e3).elim
theorem drM (f : α → A) (l : List α) (k : Nat) : (l.map f).drop k = (l.drop k).map f := by rw [List.map_drop]
end
def xQs (hT : xG P tt) (d sz : Nat) (es es' : List A) : XH P :=
 xAt P (zba d) (fun n o b => qslO tt n o.dst b.1 sz es b.2.1 b.2.2) (fun n o b => zdi tt n o.dst b.1 sz es es' b.2.1 b.2.2)
  (by
   intro C S Fp st a w o b hp h u R U e
   unfold zba at hp
   split at hp
   ·rename_i ho; cases UE hp; exact z9g hT h ho e
   ·cases hp)
  (fun n o b => Loc.qslO _ _ _ _ _ _ _ _) (fun n o b => zbw _ _ _ _ _ _ _ _ _)
open Classical in
def xQl (hT : xG P tt) (d t sz : Nat) (es : List A) (hty : u9 tt t = true) : XH P :=
 xAt P (zbb d t) (fun n o x => zb8 n o.dst sz es x) (fun n o x => zdj n o.dst sz es x)
  (by
   intro C S Fp st a w o x hp h u R U e
   unfold zbb at hp
   split at hp
   ·rename_i ho
    replace hp := UE hp
    split at hp
    ·rename_i ht; subst ht; cases hp; exact z9h hT h hty ho e
    ·cases hp
   ·cases hp)
  (fun n o x => Loc.bind (Loc.opnd _) fun _ => Loc.bind (Loc.peek _) fun _ => Loc.ite (Loc.wrT _ _ _) Loc.fail) (fun n o x => zbx _ _ _ _ _)
def xQi (hT : xG P tt) (d sz r : Nat) (v : Value) (es : List A) : XH P :=
 xAt P (zbc d) (fun n o b => qixO tt n o.dst b.1 sz r v es b.2.1 b.2.2) (fun n o b => zdl tt n o.dst b.1 sz r v es b.2.1 b.2.2)
  (by
   intro C S Fp st a w o b hp h u R U e
   unfold zbc at hp
   split at hp
   ·rename_i ho; cases UE hp; exact z9j hT h ho e
   ·cases hp)
  (fun n o b => Loc.qixO _ _ _ _ _ _ _ _ _ _) (fun n o b => zbz _ _ _ _ _ _ _ _ _ _)
def zdw (d : Nat) (o : Oper) : Option (Nat × Operand) := match o.op with | .load t x => if o.dst = some d then some (t, x) else none | _ => none
def xQd (hT : xG P tt) (d sz r : Nat) (v : Value) (j : Int) (es : List A) (y : A) : XH P :=
 xAt P (zdw d) (fun n o b => qldO tt n o.dst b.1 sz r v j es y b.2) (fun n o b => zdk tt n o.dst b.1 sz r v j es y b.2)
  (by
   intro C S Fp st a w o b hp h u R U e
   unfold zdw at hp
   split at hp
   ·rename_i ho; cases UE hp; exact z9i hT h ho e
   ·cases hp)
  (fun n o b => Loc.qldO _ _ _ _ _ _ _ _ _ _ _) (fun n o b => zby _ _ _ _ _ _ _ _ _ _ _)
def xQa (hT : xG P tt) (d sz : Nat) (es es' : List A) : XH P :=
 xAt P (zbd d) (fun n o b => qapO tt n o.dst b.1 sz es b.2.1 b.2.2) (fun n o b => zdm tt n o.dst b.1 sz es es' b.2.1 b.2.2)
  (by
   intro C S Fp st a w o b hp h u R U e
   unfold zbd at hp
   split at hp
   ·rename_i ho
    replace hp := UE hp
    split at hp
    ·rename_i ht; subst ht; cases hp; exact z9k hT h ho e
    ·cases hp
   ·cases hp)
  (fun n o b => Loc.qapO _ _ _ _ _ _ _ _) (fun n o b => zbA _ _ _ _ _ _ _ _ _)
def z7f (i : TI) : TI := match i.zero with
 | some (.osl sz true []) => { i with zero := some (.sl sz true []) }
 | _ => i
def ttS (tt : TT) (e : Nat) : TT := fun t => if t = e then (tt t).map z7f else tt t
theorem z4p {t : Nat} {i : TI} (h : j9 P t i) : j9 P t (z7f i) := by
 unfold z7f
 split
 ·rename_i sz hz
  obtain ⟨f, f1, f2, f3, f4⟩ := h.info
  refine ⟨⟨f, f1, f2, f3, ?_⟩, h.kind, h.eqn⟩
  intro z hz'
  cases hz'
  obtain ⟨zv, v1, v2, v3⟩ := f4 _ hz
  refine ⟨zv, v1, by simpa [A.size] using v2, fun S hp => ?_⟩
  have q := v3 S hp
  simp only [zG] at q ⊢
  obtain ⟨p, c, e, h1, h2, h3, h4, h5⟩ := q
  rcases h5 with ⟨_, rfl, rfl, _⟩ | ⟨b, arr, ty, l, F', _, _, _, _, _, hF, _⟩
  ·refine ⟨?_, trivial⟩
   simp only [Rep]
   exact ⟨none, 0, e, by simp, by simp, by simp, .inl trivial⟩
  ·cases hF
 ·exact h
theorem z8z (hT : xG P tt) (e : Nat) : xG P (ttS tt e) := by
 intro t i h
 unfold ttS at h
 split at h
 ·cases ht : tt t with
  | none => rw [ht] at h; cases h
  | some j =>
   rw [ht] at h
   cases h
   exact z4p (hT _ _ ht)
 ·exact hT _ _ h
def zdu (d : Nat) (o : Oper) : Option (Nat × Operand × Operand) := match o.op with | .makeSlice t l c => if o.dst = some d then some (t, l, c) else none | _ => none
def xMs (hT : xG P tt) (d e : Nat) : XH P :=
 xAt P (zdu d) (fun n o b => jq (ttS tt e) n o.dst b.1 b.2.1 b.2.2) (fun n o b => W8 (ttS tt e) n o.dst b.1 b.2.1 b.2.2)
  (by
   intro C S Fp st a w o b hp h u R U q
   unfold zdu at hp
   split at hp
   ·rename_i ho; cases UE hp; exact Wv (z8z hT e) h ho q
   ·cases hp)
  (fun n o b => by have q := Loc.stepO (ttS tt e) Q5 n ⟨o.dst, .makeSlice b.1 b.2.1 b.2.2, 0, default, default, none⟩; exact q) (fun n o b => Vx _ _ _ _ _ _)
def zdM (k : IntKind) (x y : Int) : Int := k.wrap ((BitVec.ofInt k.bits x &&& BitVec.ofInt k.bits y).toNat)
def orK (k : IntKind) (x y : Int) : Int := k.wrap ((BitVec.ofInt k.bits x ||| BitVec.ofInt k.bits y).toNat)
def zcK (k : IntKind) (x y : Int) : Int := k.wrap ((BitVec.ofInt k.bits x ^^^ BitVec.ofInt k.bits y).toNat)
def za6 (k : IntKind) (x y : Int) : Int := k.wrap ((BitVec.ofInt k.bits x &&& ~~~(BitVec.ofInt k.bits y)).toNat)
def z5X (k : IntKind) (x y : Int) : Int := k.wrap (x * 2 ^ (min y.toNat k.bits))
def za2 (op : BinOp) (k : IntKind) (x y : Int) : Option Int :=
 match op with
 | .and => some (zdM k x y)
 | .or => some (orK k x y)
 | .xor => some (zcK k x y)
 | .andNot => some (za6 k x y)
 | _ => none
variable {op : BinOp}
theorem z8c {k : IntKind} {x y z : Int} (h : za2 op k x y = some z) (xt : Nat) (w : World) : (binOp op xt (.int k x) (.int k y)).run P w = .ok (.int k z) w := by
 unfold za2 at h
 split at h <;> first | (cases h; done) | (simp only [Option.some.injEq] at h; subst h; simp [binOp, Op.intBits, zdM, orK, zcK, za6])
def bitO (n : Fr) (dst : Option Nat) (op : BinOp) (x y : Operand) : SM Unit := do
 let tx ← opnd x
 let vx ← val tx
 let ty ← opnd y
 let vy ← val ty
 match vx, vy with
 | .atom (.int k p), .atom (.int k' q) => if k = k' then (ofO (za2 op k p q) >>= fun z => wrT n dst (.d (.atom (.int k z)))) else zl
 | _, _ => zl
def zdK (n : Fr) (dst : Option Nat) (op : BinOp) (x y : Operand) : HM Unit := zV (opnd x) >>= fun tx => ZS tx >>= fun vx => zV (opnd y) >>= fun ty => ZS ty >>= fun vy => zV (
 match vx, vy with
 | .atom (.int k p), .atom (.int k' q) => if k = k' then (ofO (za2 op k p q) >>= fun z => wrT n dst (.d (.atom (.int k z)))) else zl
 | _, _ => zl)
theorem zbF (n : Fr) (dst : Option Nat) (op : BinOp) (x y : Operand) : Snd (bitO n dst op x y) (zdK n dst op x y) :=
 ze (zi _) fun _ => ze (vu _) fun _ => ze (zi _) fun _ => ze (vu _) fun _ => zi _
theorem Loc.bitO (n : Fr) (dst : Option Nat) (op : BinOp) (x y : Operand) : Loc (bitO n dst op x y) := by
 unfold Go.Own.bitO
 refine Loc.bind (Loc.opnd _) fun _ => Loc.bind (Loc.val _) fun _ => Loc.bind (Loc.opnd _) fun _ => Loc.bind (Loc.val _) fun _ => ?_
 split
 ·exact Loc.ite (Loc.bind (Loc.ofO _) fun _ => Loc.wrT _ _ _) Loc.fail
 ·exact Loc.fail
def shlO (n : Fr) (dst : Option Nat) (x y : Operand) : SM Unit := do
 let tx ← opnd x
 let vx ← val tx
 let ty ← opnd y
 let vy ← val ty
 match vx, vy with
 | .atom (.int k p), .atom (.int _ q) => if 0 ≤ q then wrT n dst (.d (.atom (.int k (z5X k p q)))) else zl
 | _, _ => zl
def zdh (n : Fr) (dst : Option Nat) (x y : Operand) : HM Unit := zV (opnd x) >>= fun tx => ZS tx >>= fun vx => zV (opnd y) >>= fun ty => ZS ty >>= fun vy =>
 match vx, vy with
 | .atom (.int k p), .atom (.int _ q) => ud (0 ≤ q) (zV (wrT n dst (.d (.atom (.int k (z5X k p q))))))
 | _, _ => zV zl
theorem zbv (n : Fr) (dst : Option Nat) (x y : Operand) : Snd (shlO n dst x y) (zdh n dst x y) :=
 ze (zi _) fun _ => ze (vu _) fun _ => ze (zi _) fun _ => ze (vu _) fun _ => by
  split
  ·exact xK (zi _)
  ·exact zi _
theorem Loc.shlO (n : Fr) (dst : Option Nat) (x y : Operand) : Loc (shlO n dst x y) := by
 unfold Go.Own.shlO
 refine Loc.bind (Loc.opnd _) fun _ => Loc.bind (Loc.val _) fun _ => Loc.bind (Loc.opnd _) fun _ => Loc.bind (Loc.val _) fun _ => ?_
 split
 ·exact Loc.ite (Loc.wrT _ _ _) Loc.fail
 ·exact Loc.fail
variable {xt yt : Nat}
section
variable {C : Ctx} {S : zj} {Fp : Nat → List Nat} {st : St} {a : Act} {w : World}
theorem za1 {P : Program} (h : Sim C S Fp [] st a w)    {x y : Operand} (ho : o.op = .binOp op xt x y yt)    (e0 : bitO C.n o.dst op x y st = some (u, R, U)) : wZ P C o a w (zc U st) := by
 unfold bitO at e0
 obtain ⟨tx, R1, U1, R2, U2, h1, e1, rfl, rfl⟩ := bind_some e0
 obtain ⟨rfl, hx⟩ := zz h h1
 obtain ⟨vx, R3, U3, R4, U4, h3, e2, rfl, rfl⟩ := bind_some e1
 obtain ⟨rfl, qx⟩ := xP h hx h3
 simp only [zc, List.nil_append] at e2 ⊢
 obtain ⟨ty, R5, U5, R6, U6, h5, e3, rfl, rfl⟩ := bind_some e2
 obtain ⟨rfl, hy⟩ := zz h h5
 obtain ⟨vy, R7, U7, R8, U8, h7, e4, rfl, rfl⟩ := bind_some e3
 obtain ⟨rfl, qy⟩ := xP h hy h7
 simp only [zc, List.nil_append] at e4 ⊢
 split at e4
 ·rename_i k p k' q
  split at e4
  ·rename_i hk
   subst hk
   obtain ⟨z, R9, U9, R10, U10, h9, e5, rfl, rfl⟩ := bind_some e4
   obtain ⟨hz, rfl, rfl⟩ := wU h9
   simp only [zc, List.nil_append] at e5 ⊢
   have ex := (zp.1 qx).1
   have ey := (zp.1 qy).1
   obtain ⟨Fp', hs'⟩ := xW h e5 (x := .d (.atom (.int k z))) (v := .int k z) (zp.2 ⟨rfl, rfl⟩)
   refine zn ?_ hs'
   have hb := z8c (P := P) hz xt w
   have hg : (eqGuard op xt x y (.int k p) (.int k q)).run P w = .ok () w := by
    unfold za2 at hz
    split at hz <;> first | (cases hz; done) | simp [eqGuard]
   simp [execOp, ho, ex, ey, hb, hg]
  ·exact (z6 e4).elim
 ·exact (z6 e4).elim
theorem z8V (h : Sim C S Fp [] st a w)   {x y : Operand} (ho : o.op = .binOp .shl xt x y yt)    (e0 : shlO C.n o.dst x y st = some (u, R, U)) : wZ P C o a w (zc U st) := by
 unfold shlO at e0
 obtain ⟨tx, R1, U1, R2, U2, h1, e1, rfl, rfl⟩ := bind_some e0
 obtain ⟨rfl, hx⟩ := zz h h1
 obtain ⟨vx, R3, U3, R4, U4, h3, e2, rfl, rfl⟩ := bind_some e1
 obtain ⟨rfl, qx⟩ := xP h hx h3
 simp only [zc, List.nil_append] at e2 ⊢
 obtain ⟨ty, R5, U5, R6, U6, h5, e3, rfl, rfl⟩ := bind_some e2
 obtain ⟨rfl, hy⟩ := zz h h5
 obtain ⟨vy, R7, U7, R8, U8, h7, e4, rfl, rfl⟩ := bind_some e3
 obtain ⟨rfl, qy⟩ := xP h hy h7
 simp only [zc, List.nil_append] at e4 ⊢
 split at e4
 ·rename_i k p k' q
  split at e4
  ·rename_i hq
   have ex := (zp.1 qx).1
   have ey := (zp.1 qy).1
   obtain ⟨Fp', hs'⟩ := xW h e4 (x := .d (.atom (.int k (z5X k p q)))) (v := .int k (z5X k p q)) (zp.2 ⟨rfl, rfl⟩)
   refine zn ?_ hs'
   simp [execOp, ho, ex, ey, eqGuard, binOp, Op.shift, show ¬ q < 0 by omega, z5X]
  ·exact (z6 e4).elim
 ·exact (z6 e4).elim
end
def z7P (o : Oper) : Option (BinOp × Operand × Operand) := match o.op with | .binOp op _ x y _ => (match op with | .and | .or | .xor | .andNot => some (op, x, y) | _ => none) | _ => none
theorem z1x {b : BinOp × Operand × Operand} (h : z7P o = some b) : ∃ xt yt, o.op = .binOp b.1 xt b.2.1 b.2.2 yt := by
 unfold z7P at h
 split at h
 ·rename_i ho
  split at h <;> first | (cases h; exact ⟨_, _, ho⟩) | cases h
 ·cases h
def zcL (P : Program) : XH P := xAt P z7P (fun n o b => bitO n o.dst b.1 b.2.1 b.2.2) (fun n o b => zdK n o.dst b.1 b.2.1 b.2.2)
  (by
   intro C S Fp st a w o b hp h u R U e
   obtain ⟨xt, yt, ho⟩ := z1x hp
   exact za1 h ho e)
  (fun n o b => Loc.bitO _ _ _ _ _) (fun n o b => zbF _ _ _ _ _)
def z9x (o : Oper) : Option (Operand × Operand) := match o.op with | .binOp .shl _ x y _ => some (x, y) | _ => none
def zdS (P : Program) : XH P := xAt P z9x (fun n o b => shlO n o.dst b.1 b.2) (fun n o b => zdh n o.dst b.1 b.2)
  (by
   intro C S Fp st a w o b hp h u R U e
   unfold z9x at hp
   split at hp
   ·rename_i ho; cases hp; exact z8V h ho e
   ·cases hp)
  (fun n o b => Loc.shlO _ _ _ _) (fun n o b => zbv _ _ _ _)
mutual
def A.cellsI : A → Option (List A)
 | .agg fs => A.cellsIs fs
 | .atom (.int k x) => some [.atom (.int k x)]
 | _ => none
def A.cellsIs : List A → Option (List A)
 | [] => some []
 | x :: xs => match x.cellsI, A.cellsIs xs with | some l, some m => some (l ++ m) | _, _ => none
end
mutual
theorem Rep.cells : ∀ {x : A} {cs : List Value} {l : List A}, Rep S x cs → x.cellsI = some l → ya S l cs
 | .agg fs, cs, l, r, e => by
  simp only [A.cellsI] at e
  simp only [Rep] at r
  exact ya.cells r e
 | .atom u, cs, l, r, e => by
  cases u <;> simp only [A.cellsI, Option.some.injEq] at e <;> first | (cases e; done) | skip
  subst e
  simp only [ya]
  exact ⟨cs, [], by simp, r, rfl⟩
 | .fn _ _, _, _, _, e | .sl _ _ _, _, _, _, e | .sptr _, _, _, _, e | .tup _, _, _, _, e | .osl _ _ _, _, _, _, e | .box _, _, _, _, e | .dead _, _, _, _, e | .opq _, _, _, _, e | .dop _, _, _, _, e => by simp [A.cellsI] at e
theorem ya.cells : ∀ {xs : List A} {cs : List Value} {l : List A}, ya S xs cs → A.cellsIs xs = some l → ya S l cs
 | [], cs, l, r, e => by
  simp only [A.cellsIs, Option.some.injEq] at e
  subst e
  exact r
 | x :: xs, cs, l, r, e => by
  simp only [A.cellsIs] at e
  simp only [ya] at r
  obtain ⟨c1, c2, rfl, r1, r2⟩ := r
  cases h1 : x.cellsI with
  | none => simp [h1] at e
  | some l1 =>
   cases h2 : A.cellsIs xs with
   | none => simp [h1, h2] at e
   | some l2 =>
    simp only [h1, h2, Option.some.injEq] at e
    subst e
    exact (Rep.cells r1 h1).append (ya.cells r2 h2)
end
def zbe (tt : TT) (n : Fr) (dst : Option Nat) (op : BinOp) (xt : Nat) (vx vy : A) : SM Unit :=
 match vx, vy with
 | .agg fs, .agg gs =>
  match A.cellsIs fs, A.cellsIs gs with
  | some l, some m => ofO (z6r tt op xt (.agg l) (.agg m)) >>= fun r => wrT n dst (.d r)
  | _, _ => zl
 | _, _ => zl
def eqnO (tt : TT) (n : Fr) (dst : Option Nat) (op : BinOp) (xt : Nat) (x y : Operand) : SM Unit := do
 let tx ← opnd x
 let vx ← val tx
 let ty ← opnd y
 let vy ← val ty
 zbe tt n dst op xt vx vy
def zdE (tt : TT) (n : Fr) (dst : Option Nat) (op : BinOp) (xt : Nat) (x y : Operand) : HM Unit := zV (opnd x) >>= fun tx => ZS tx >>= fun vx => zV (opnd y) >>= fun ty => ZS ty >>= fun vy => zV (zbe tt n dst op xt vx vy)
theorem zbD (tt : TT) (n : Fr) (dst : Option Nat) (op : BinOp) (xt : Nat) (x y : Operand) : Snd (eqnO tt n dst op xt x y) (zdE tt n dst op xt x y) :=
 ze (zi _) fun _ => ze (vu _) fun _ => ze (zi _) fun _ => ze (vu _) fun _ => zi _
theorem Loc.eqnO (tt : TT) (n : Fr) (dst : Option Nat) (op : BinOp) (xt : Nat) (x y : Operand) : Loc (eqnO tt n dst op xt x y) := by
 unfold Go.Own.eqnO
 refine Loc.bind (Loc.opnd _) fun _ => Loc.bind (Loc.val _) fun _ => Loc.bind (Loc.opnd _) fun _ => Loc.bind (Loc.val _) fun _ => ?_
 unfold Go.Own.zbe
 split
 ·split
  ·exact Loc.bind (Loc.ofO _) fun _ => Loc.wrT _ _ _
  ·exact Loc.fail
 ·exact Loc.fail
theorem UR {l fs : List A}  (h : xj S (.agg fs) v) (e : A.cellsIs fs = some l) : xj S (.agg l) v := by
 obtain ⟨cs, rfl, r⟩ := QD h
 exact wB.repV ⟨cs, by simp only [Rep]; exact r.cells e, rfl⟩
theorem z9N (hT : xG P tt)       (h : Sim C S Fp [] st a w)    {x y : Operand} (ho : o.op = .binOp op xt x y yt)    (e0 : eqnO tt C.n o.dst op xt x y st = some (u, R, U)) : wZ P C o a w (zc U st) := by
 unfold eqnO at e0
 obtain ⟨tx, R1, U1, R2, U2, h1, e1, rfl, rfl⟩ := bind_some e0
 obtain ⟨rfl, hx⟩ := zz h h1
 obtain ⟨vx, R3, U3, R4, U4, h3, e2, rfl, rfl⟩ := bind_some e1
 obtain ⟨rfl, qx⟩ := xP h hx h3
 simp only [zc, List.nil_append] at e2 ⊢
 obtain ⟨ty, R5, U5, R6, U6, h5, e3, rfl, rfl⟩ := bind_some e2
 obtain ⟨rfl, hy⟩ := zz h h5
 obtain ⟨vy, R7, U7, R8, U8, h7, e4, rfl, rfl⟩ := bind_some e3
 obtain ⟨rfl, qy⟩ := xP h hy h7
 simp only [zc, List.nil_append] at e4 ⊢
 unfold zbe at e4
 split at e4
 ·rename_i fs gs
  cases hl : A.cellsIs fs with
  | none => simp only [hl] at e4; exact (z6 e4).elim
  | some l =>
   cases hm : A.cellsIs gs with
   | none => simp only [hl, hm] at e4; exact (z6 e4).elim
   | some m =>
    simp only [hl, hm] at e4
    obtain ⟨r, R9, U9, R10, U10, h9, e5, rfl, rfl⟩ := bind_some e4
    obtain ⟨hr, rfl, rfl⟩ := wU h9
    simp only [zc, List.nil_append] at e5 ⊢
    obtain ⟨v, hv, hrun⟩ := z3E (x := x) (y := y) hT (UR qx hl) (UR qy hm) hr w
    obtain ⟨Fp', hs⟩ := xW h e5 (x := .d r) hv
    refine zn (v := v) ?_ hs
    simp only [execOp, ho, Sem.run_bind, Sem.run_pure] at hrun ⊢
    rw [hrun]
    rfl
 ·exact (z6 e4).elim
def z9C (d : Nat) (o : Oper) : Option (BinOp × Nat × Operand × Operand) := match o.op with | .binOp op xt x y _ => if o.dst = some d then some (op, xt, x, y) else none | _ => none
def z1I (hT : xG P tt) (d : Nat) : XH P :=
 xAt P (z9C d) (fun n o b => eqnO tt n o.dst b.1 b.2.1 b.2.2.1 b.2.2.2) (fun n o b => zdE tt n o.dst b.1 b.2.1 b.2.2.1 b.2.2.2)
  (by
   intro C S Fp st a w o b hp h u R U e
   unfold z9C at hp
   split at hp
   ·rename_i ho; cases UE hp; exact z9N hT h ho e
   ·cases hp)
  (fun n o b => Loc.eqnO _ _ _ _ _ _ _) (fun n o b => zbD _ _ _ _ _ _ _)
theorem Sim.retagD (h : Sim C S Fp [] st a w) (k : Nat) (x y : A) (hx : (st k).t = .d x) (hl : LeA x y) : Sim C S Fp [] (upd st k ⟨.d y, (st k).er + 1, (st k).ec + 1⟩) a w := by
 refine { size := h.size, pin := h.pin, defers := h.defers, below := h.below, mine := h.mine, still := h.still, sinc := h.sinc, sbase := h.sbase, ent := ?_, disj := h.disj, base := h.base, xn := h.xn, xd := h.xd, xb := h.xb }
 intro t
 have q := h.ent t
 by_cases ht : t = k
 ·subst ht
  rw [uq]
  unfold yT at q ⊢
  simp only [hx] at q ⊢
  exact ⟨hl.repV q.1, q.2⟩
 ·rw [Zv _ _ ht]
  unfold yT at q ⊢
  have als : ∀ {r p er' ec' v}, qr w.heap st (Act.tv a) r p er' ec' v → qr w.heap (upd st k ⟨.d y, (st k).er + 1, (st k).ec + 1⟩) (Act.tv a) r p er' ec' v := by
   intro r p er' ec' v q
   by_cases hr : r = k
   ·subst hr
    obtain ⟨q1, q2, q3⟩ := q
    unfold qr
    rw [uq]
    refine ⟨Nat.le_succ_of_le q1, Nat.le_succ_of_le q2, ?_⟩
    simp only
    intro e1
    omega
   ·unfold qr
    rw [Zv _ _ hr]
    exact q
  have ptr : ∀ {r p er' ec' v}, uR w.heap st (Act.tv a) r p er' ec' v → uR w.heap (upd st k ⟨.d y, (st k).er + 1, (st k).ec + 1⟩) (Act.tv a) r p er' ec' v := by
   intro r p er' ec' v q
   by_cases hr : r = k
   ·subst hr
    obtain ⟨q1, q2, q3⟩ := q
    unfold uR
    rw [uq]
    refine ⟨Nat.le_succ_of_le q1, Nat.le_succ_of_le q2, ?_⟩
    trivial
   ·unfold uR
    rw [Zv _ _ hr]
    exact q
  cases hz : (st t).t with
  | gone => simp only [hz] at q ⊢; exact q
  | d y => simp only [hz] at q ⊢; exact q
  | own y => simp only [hz] at q ⊢; exact q
  | als r p er' ec' => simp only [hz] at q ⊢; exact ⟨q.1, als q.2⟩
  | ptr r p er' ec' => simp only [hz] at q ⊢; exact ⟨q.1, ptr q.2⟩
theorem wZ.retagD {st1 : St} (hg : wZ P C o a w st1) (k : Nat) (x y : A) (hx : (st1 k).t = .d x) (hl : LeA x y) : wZ P C o a w (upd st1 k ⟨.d y, (st1 k).er + 1, (st1 k).ec + 1⟩) :=
 fun r m K Q hk => hg r m K Q fun S Fp a' w' hs => hk S Fp a' w' (hs.retagD k x y hx hl)
open Classical in
def lsO (tt : TT) (n : Fr) (dst : Option Nat) (d : Nat) (y0 y1 : A) (t : Nat) (x : Operand) : SM Unit :=
 z52 tt n dst t x >>= fun _ => rdE d >>= fun e => if e.t = .d y0 then wrE d ⟨.d y1, e.er + 1, e.ec + 1⟩ else zl
def lsH (tt : TT) (n : Fr) (dst : Option Nat) (d : Nat) (y0 y1 : A) (t : Nat) (x : Operand) : HM Unit :=
 (zV (opnd x) >>= fun y => z2X tt n dst t y) >>= fun _ => zV (rdE d) >>= fun e => ud (e.t = .d y0) (zV (wrE d ⟨.d y1, e.er + 1, e.ec + 1⟩))
open Classical in
theorem ze5 (tt : TT) (n : Fr) (dst : Option Nat) (d : Nat) (y0 y1 : A) (t : Nat) (x : Operand) : Snd (lsO tt n dst d y0 y1 t x) (lsH tt n dst d y0 y1 t x) :=
 ze (ze (zi _) fun y => z2l _ _ _ _ _) fun _ => ze (zi _) fun _ => xK (zi _)
open Classical in
theorem Loc.lsO (tt : TT) (n : Fr) (dst : Option Nat) (d : Nat) (y0 y1 : A) (t : Nat) (x : Operand) : Loc (lsO tt n dst d y0 y1 t x) := by
 unfold Go.Own.lsO
 exact Loc.bind (by have q := Loc.stepO tt Q5 n ⟨dst, .load t x, 0, default, default, none⟩; exact q) fun _ => Loc.bind (Loc.rdE _) fun _ => Loc.ite (Loc.wrE _ _) Loc.fail
theorem zbO (hT : xG P tt)       (h : Sim C S Fp [] st a w)  {d t : Nat} {y0 y1 : A} (hl : LeA y0 y1)  (ho : o.op = .load t x)    (e0 : lsO tt C.n o.dst d y0 y1 t x st = some (u, R, U)) : wZ P C o a w (zc U st) := by
 unfold lsO at e0
 obtain ⟨y, R1, U1, R2, U2, h1, e1, rfl, rfl⟩ := bind_some e0
 have g := z2W hT h ho h1
 rw [zu]
 generalize zc U1 st = s1 at g e1 ⊢
 obtain ⟨e, R7, U7, R8, U8, h7, e4, rfl, rfl⟩ := bind_some e1
 obtain ⟨rfl, rfl, rfl⟩ := y8 h7
 simp only [zc, List.nil_append] at e4 ⊢
 split at e4
 ·rename_i hc
  obtain ⟨rfl, rfl⟩ := xS e4
  exact g.retagD d y0 y1 hc hl
 ·exact (z6 e4).elim
def zdv (d : Nat) (o : Oper) : Option (Nat × Operand) := match o.op with | .load t x => if o.dst = some d then some (t, x) else none | _ => none
def xLs (hT : xG P tt) (d : Nat) (y0 y1 : A) (hl : LeA y0 y1) : XH P :=
 xAt P (zdv d) (fun n o b => lsO tt n o.dst d y0 y1 b.1 b.2) (fun n o b => lsH tt n o.dst d y0 y1 b.1 b.2)
  (by
   intro C S Fp st a w o b hp h u R U e
   unfold zdv at hp
   split at hp
   ·rename_i ho; cases UE hp; exact zbO hT h hl ho e
   ·cases hp)
  (fun n o b => Loc.lsO _ _ _ _ _ _ _ _) (fun n o b => ze5 _ _ _ _ _ _ _ _)
def LeP (xs ys : List A) : Prop := ∀ S vs, uS (wB S) xs vs → uS (wB S) ys vs
theorem leP (h : XO xs ys) : LeP xs ys := h.all
abbrev z2G (b : Nat) : Value := .pointer (some ⟨b, 0, none⟩)
theorem z3H {n : Fr} {c x y : Code}    (e : c = .seq x y) (k : Nat) (E : St → Prop) (hk : ∃ z, (st k).t = .own (.box z)) (h : ∀ b, AWP P ⟨n.size, (k, z2G b) :: n.pin⟩ x st (Qf P ⟨n.size, (k, z2G b) :: n.pin⟩ [] (fun e st1 => e = .normal ∧ E st1))) (h2 : ∀ st1, E st1 → AWP P n y st1 (Qf P n fs Q)) : AWP P n c st (Qf P n fs Q) := by
 refine z3G e E ?_ h2
 show AWP P n x st _
 intro rd m df w0 S0 M S Fp a w hc hs
 obtain ⟨z, hz⟩ := hk
 have hq := hs.ent k
 unfold yT at hq
 simp only [hz, zG] at hq
 obtain ⟨cs, ⟨b, ty, l, F', rfl, _⟩, _, k3⟩ := hq
 have hv : Act.tv a k = z2G b := k3
 have hs2 := hs.pinned k
 rw [hv] at hs2
 refine wpIn_mono (h b rd m df w0 S0 M S Fp a w ⟨hc.nodup, hc.df, hc.rd⟩ hs2) ?_
 rintro e a' w' ⟨df', st1, S1, Fp1, h1, h2, h3⟩
 exact ⟨df', st1, S1, Fp1, h1.unpinned, h2, h3⟩
open Classical
theorem z1n {p : List uI} {x z : A} (ho : jR p = true) (cs : List Value) : zK (un p x z) cs = zK x cs := by
 cases p with
 | nil => simp [jR] at ho
 | cons s p' =>
  cases s with
  | fld _ => simp [jR] at ho
  | deref => cases x <;> simp [un, zK]
  | idx _ => cases x <;> simp [un, zK]
section
variable {P : Program} {C : Ctx} {S : zj} {Fp : Nat → List Nat} {X : List Nat} {st : St} {a : Act} {w : World}
theorem Sim.turn (h : Sim C S Fp [] st a w) {r : Nat} {p : List uI} {x0 y : A} (ht : (st r).t = .own x0) (hp : p = [] ∨ jR p = true) (hg : xA p x0 = some y) :
  ∃ csy Fy, zG S w.heap y csy Fy ∧ Fy.Nodup ∧ (∀ k ∈ Fy, k ∈ Fp r) ∧ (∀ v, qr w.heap st (Act.tv a) r p (st r).er (st r).ec v → v = zK y csy) ∧
   ∀ (S' : zj) (w' : World) (y' : A) (Fy' X' : List Nat), jO (fun k => w.heap.size ≤ k ∨ k ∈ Fy) w w' → (∀ b o u, S b o = some u → S' b o = some u) → (∀ b o, b < w.heap.size → b ∉ Fy → S' b o = S b o) → yV S' w' → zG S' w'.heap y' csy Fy' → (p = [] → ∀ cs, zK y' cs = zK y cs) →
    (Fy' ++ X').Nodup → (∀ k ∈ Fy' ++ X', w.heap.size ≤ k ∨ k ∈ Fy) → ∃ Fp', Sim C S' Fp' X' (upd st r ⟨.own (un p x0 y'), (st r).er, (st r).ec + 1⟩) a w' := by
 have hr := h.ent r
 unfold yT at hr
 simp only [ht] at hr
 obtain ⟨cs0, c1, c2, c3⟩ := hr
 have fin : ∀ (csy : List Value) (Fy : List Nat), (∀ k ∈ Fy, k ∈ Fp r) → ∀ (S' : zj) (w' : World) (y' : A) (Fy' X' : List Nat), jO (fun k => w.heap.size ≤ k ∨ k ∈ Fy) w w' → (∀ b o u, S b o = some u → S' b o = some u) → (∀ b o, b < w.heap.size → b ∉ Fy → S' b o = S b o) → yV S' w' →
   (Fy' ++ X').Nodup → (∀ k ∈ Fy' ++ X', w.heap.size ≤ k ∨ k ∈ Fy) → ∀ F0', (∀ k, k ∈ F0' ↔ (k ∈ Fp r ∧ k ∉ Fy) ∨ k ∈ Fy') → (∃ cs, zG S' w'.heap (un p x0 y') cs F0' ∧ F0'.Nodup ∧ Act.tv a r = zK (un p x0 y') cs) → ∃ Fp', Sim C S' Fp' X' (upd st r ⟨.own (un p x0 y'), (st r).er, (st r).ec + 1⟩) a w' := by
  intro csy Fy hF S' w' y' Fy' X' b1 b2 b3 b4 b5 b6 F0' d3 hc
  have hM : ∀ k, (w.heap.size ≤ k ∨ k ∈ Fy) → C.M k := fun k hk => hk.elim (fun hk => h.mine k (Nat.le_trans h.base_le hk)) (fun hk => h.base r k (hF k hk))
  have hoff : ∀ t k, t ≠ r → k ∈ Fp t → ¬ (w.heap.size ≤ k ∨ k ∈ Fy) := by
   rintro t k ht' hk (q | q)
   ·have := (h.free t k hk).1; omega
   ·exact ht' (h.disj t r k hk (hF k q))
  obtain ⟨n1, n2, n3⟩ := List.nodup_append.1 b5
  refine ⟨_, h.change r (.own (un p x0 y')) _ _ F0' (h.below.trans (b1.mono hM)) b2 b4 ?_ ?_ ⟨hc, x0, ht⟩ (.inl ⟨x0, ht⟩) (Nat.le_refl _) (Nat.lt_succ_self _) ?_ ?_ n2 ?_ ?_ ?_⟩
  ·intro b o hb
   have hlt : b < w.heap.size := by
    rcases Nat.lt_or_ge b w.heap.size with q | q
    ·exact q
    ·exact (hb (hM b (.inl q))).elim
   rw [b3 b o hlt (fun q => hb (hM b (.inr q)))]
   exact h.sbase b o hb
  ·intro t k ht' hk
   have hn := hoff t k ht' hk
   exact ⟨b1.block k hn, fun o => by rw [b3 k o (h.free t k hk).1 (fun q => hn (.inr q))]; exact (h.free t k hk).2.1 o⟩
  ·intro t k ht' hk hk'
   rcases (d3 k).1 hk with q | q
   ·exact ht' (h.disj t r k hk' q.1)
   ·exact hoff t k ht' hk' (b6 k (List.mem_append_left _ q))
  ·intro k hk
   rcases (d3 k).1 hk with q | q
   ·exact h.base r k q.1
   ·exact hM k (b6 k (List.mem_append_left _ q))
  ·exact fun t k ht' hk hk' => hoff t k ht' hk' (b6 k (List.mem_append_right _ hk))
  ·intro k hk hk'
   rcases (d3 k).1 hk' with q | q
   ·rcases b6 k (List.mem_append_right _ hk) with g | g
    ·have := (h.free r k q.1).1; omega
    ·exact q.2 g
   ·exact n3 k q k hk rfl
  ·exact fun k hk => hM k (b6 k (List.mem_append_right _ hk))
 rcases hp with rfl | ho
 ·simp only [xA, Option.some.injEq] at hg
  subst hg
  refine ⟨cs0, Fp r, c1, c2, fun _ hk => hk, ?_, ?_⟩
  ·intro v hv
   have := hv.2.2
   simp only [ht] at this
   rcases this trivial (.inl trivial) with ⟨_, q⟩ | ⟨q, _⟩
   ·rw [q, c3]
   ·simp [jR] at q
  ·intro S' w' y' Fy' X' b1 b2 b3 b4 b5 b6 b7 b8
   refine fin cs0 (Fp r) (fun _ hk => hk) S' w' y' Fy' X' b1 b2 b3 b4 b7 b8 Fy' (fun k => ?_) ⟨cs0, b5, (List.nodup_append.1 b7).1, ?_⟩
   ·constructor
    ·exact fun q => .inr q
    ·rintro (q | q)
     ·exact (q.2 q.1).elim
     ·exact q
   ·rw [c3]; exact (b6 rfl cs0).symm
 ·have hpn : p ≠ [] := by rintro rfl; simp [jR] at ho
  obtain ⟨b, o, arr, ty, csy, Fy, f1, f2, f3, f4, f5, f6, f7, f8, f9⟩ := uA p c1 c2 hpn (by rintro i q rfl; simp [jR] at ho) hg
  refine ⟨csy, Fy, f4, f8, f7, ?_, ?_⟩
  ·intro v hv
   have := hv.2.2
   simp only [ht] at this
   rcases this trivial (.inr trivial) with ⟨q, _⟩ | ⟨_, y', b', o', csa, g1, g2, g3, g4, g5⟩
   ·exact (hpn q).elim
   ·rw [hg] at g1
    simp only [Option.some.injEq] at g1
    subst g1
    rw [c3, f1] at g2
    simp only [Option.some.injEq, Prod.mk.injEq] at g2
    obtain ⟨rfl, rfl⟩ := g2
    have hcs := uV f4 f2 f3 g3 g4
    subst hcs
    exact g5
  ·intro S' w' y' Fy' X' b1 b2 b3 b4 b5 b6 b7 b8
   have hk0 : ∀ k ∈ Fp r, k ∉ Fy → ¬ (w.heap.size ≤ k ∨ k ∈ Fy) := by
    rintro k hk hn (q | q)
    ·have := (h.free r k hk).1; omega
    ·exact hn q
   obtain ⟨F0', d1, d2, d3⟩ := f9 S' w'.heap y' csy Fy' b2 rfl b5 (List.nodup_append.1 b7).1
    (fun k hk hn o => by rw [b3 k o (h.free r k hk).1 hn]; exact (h.free r k hk).2.1 o)
    (fun k hk hn _ => b1.block k (hk0 k hk hn))
    (by rw [qE f3, b1.block b (hk0 b f6 f5)]; exact f2)
    (fun k hk hk0 => by
     rcases b8 k (List.mem_append_left _ hk) with q | q
     ·have := (h.free r k hk0).1; omega
     ·exact q)
   exact fin csy Fy f7 S' w' y' Fy' X' b1 b2 b3 b4 b7 b8 F0' d3 ⟨cs0, d1, d2, by rw [z1n ho]; exact c3⟩
end
def wC (v : Value) (es : List (A × A)) : Opq := {
 holds := fun S h u F => u = v ∧ (y9 es).holds S h u F
 one := fun h => (y9 es).one h.2
 frame := fun hS hF h => ⟨h.1, (y9 es).frame hS hF h.2⟩
 own := fun h => (y9 es).own h.2
 idx := 0 }
structure Jm (q : Opq) (es : List (A × A)) (q' : List (A × A) → Opq) : Prop where
 fst : ∀ {S : zj} {h : Array Obj} {u : Value} {F : List Nat}, q.holds S h u F → (y9 es).holds S h u F
 snd : ∀ {S S' : zj} {h h' : Array Obj} {u : Value} {F F' : List Nat} {es' : List (A × A)}, q.holds S h u F → (y9 es').holds S' h' u F' → (q' es').holds S' h' u F'
theorem jB (v : Value) (es : List (A × A)) : Jm (wC v es) es (wC v) := ⟨fun h => h.2, fun h h' => ⟨h.1, h'⟩⟩
theorem xQ (es : List (A × A)) : Jm (y9 es) es y9 := ⟨id, fun _ h' => h'⟩
def ja (S : zj) (h : Array Obj) : List Opq → List Value → List Nat → Prop
 | [], [], F => F = []
 | q :: qs, u :: us, F => ∃ F1 F2, F = F1 ++ F2 ∧ q.holds S h u F1 ∧ ja S h qs us F2
 | _, _, _ => False
theorem Ys : ∀ {qs : List Opq} {us : List Value} {F : List Nat}, zJ S h (qs.map .opq) us F ↔ ja S h qs us F
 | [], us, F => by
  simp only [List.map_nil, zJ]
  cases us with
  | nil => simp [ja]
  | cons u us => simp [ja]
 | q :: qs, us, F => by
  simp only [List.map_cons, zJ, zG]
  constructor
  ·rintro ⟨c1, c2, F1, F2, rfl, rfl, ⟨v, rfl, h1⟩, h2⟩
   exact ⟨F1, F2, rfl, h1, Ys.1 h2⟩
  ·intro k
   cases us with
   | nil => exact k.elim
   | cons u us =>
    obtain ⟨F1, F2, rfl, h1, h2⟩ := k
    exact ⟨[u], us, F1, F2, rfl, rfl, ⟨u, rfl, h1⟩, Ys.2 h2⟩
theorem ja.len : ∀ {qs : List Opq} {us : List Value} {F : List Nat}, ja S h qs us F → us.length = qs.length
 | [], [], _, _ => rfl
 | _ :: qs, _ :: us, _, ⟨_, _, _, _, k⟩ => by simp [ja.len k]
 | [], _ :: _, _, k => k.elim
 | _ :: _, [], _, k => k.elim
variable {us : List Value}
theorem Uj {qs : List Opq}   : zG S h (.agg (qs.map .opq)) us F ↔ ja S h qs us F := by
 simp only [zG]; exact Ys
variable {q' : List (A × A) → Opq}
section
variable {P : Program} {C : Ctx} {S : zj} {Fp : Nat → List Nat} {X : List Nat} {st : St} {a : Act} {w : World} {t kt et : Nat} {ok : A → Bool} {z : A}
def z7L (n : Fr) (dst : Option Nat) (q : Opq) (es : List (A × A)) (ok : A → Bool) (z : A) (x k : Operand) (two : Bool) : SM Unit := do
 let tx ← opnd x
 let y ← peek tx
 let tk ← opnd k
 let vk ← val tk
 if y = .opq q ∧ ok vk = true ∧ ∀ p ∈ es, ok p.1 = true then
  wrT n dst (.d (match Yc vk es 0 with
   | some (_, v) => if two = true then .tup [v, .atom (.bool true)] else v
   | none => if two = true then .tup [z, .atom (.bool false)] else z))
 else zl
theorem z4Z (mt : z1k P t kt et ok z) {q : Opq} {es : List (A × A)}  (hq : Jm q es q') (h : Sim C S Fp [] st a w)  {x k : Operand} {two : Bool} (ho : o.op = .lookup t x k two)    (e : z7L C.n o.dst q es ok z x k two st = some (u, R, U)) : wZ P C o a w (zc U st) := by
 unfold z7L at e
 obtain ⟨tx, R1, U1, R2, U2, h1, e1, rfl, rfl⟩ := bind_some e
 obtain ⟨rfl, hx⟩ := zz h h1
 obtain ⟨y, R3, U3, R4, U4, h3, e2, rfl, rfl⟩ := bind_some e1
 obtain ⟨rfl, qx⟩ := Zb h hx h3
 simp only [zc, List.nil_append] at e2 ⊢
 obtain ⟨tk, R5, U5, R6, U6, h5, e3, rfl, rfl⟩ := bind_some e2
 obtain ⟨rfl, hk⟩ := zz h h5
 obtain ⟨vk, R7, U7, R8, U8, h7, e4, rfl, rfl⟩ := bind_some e3
 obtain ⟨rfl, qk⟩ := xP h hk h7
 simp only [zc, List.nil_append] at e4 ⊢
 split at e4
 ·rename_i hc
  obtain ⟨rfl, c2, c3⟩ := hc
  obtain ⟨F, hh⟩ := QS qx
  obtain ⟨b, ents, cl, ev, _, g1, _, g3⟩ := hq.fst hh
  obtain ⟨kv, hkv⟩ := mt.key vk c2
  have hkd : a.eval k = kv := by
   refine QT (S := S) ?_ hkv
   cases vk <;> first | exact qk | (simp only [Xk, V9, Option.map_none] at hkv; cases hkv)
  obtain ⟨v, r1, r2⟩ := z4Y mt g1 g3 c3 c2 hkv two
  obtain ⟨Fp', hs⟩ := xW h e4 (x := .d _) r2
  exact zn (by simp [execOp, ho, ev, hkd, r1]) hs
 ·exact (z6 e4).elim
def z7K (n : Fr) (dst : Option Nat) (q : Opq) (es : List (A × A)) (x : Operand) : SM Unit := do
 let tx ← opnd x
 let y ← peek tx
 if y = .opq q then wrT n dst (.d (.atom (.int .i64 (es.length : Nat)))) else zl
theorem z4V (mt : z1k P t kt et ok z) {q : Opq} {es : List (A × A)}  (hq : Jm q es q') (h : Sim C S Fp [] st a w)  {x : Operand} (ho : o.op = .call ⟨.builtin .len, ⟨[x]⟩, ⟨[t]⟩⟩)    (e : z7K C.n o.dst q es x st = some (u, R, U)) : wZ P C o a w (zc U st) := by
 unfold z7K at e
 obtain ⟨tx, R1, U1, R2, U2, h1, e1, rfl, rfl⟩ := bind_some e
 obtain ⟨rfl, hx⟩ := zz h h1
 obtain ⟨y, R3, U3, R4, U4, h3, e2, rfl, rfl⟩ := bind_some e1
 obtain ⟨rfl, qx⟩ := Zb h hx h3
 simp only [zc, List.nil_append] at e2 ⊢
 split at e2
 ·rename_i hc
  subst hc
  obtain ⟨F, hh⟩ := QS qx
  obtain ⟨b, ents, cl, ev, _, g1, _, g3⟩ := hq.fst hh
  have hl : es.length = ents.size := by simpa using Jj g3
  obtain ⟨Fp', hs⟩ := xW h e2 (x := .d _) (zp.2 ⟨rfl, rfl⟩)
  refine zn ?_ hs
  have hg : (getObj b).run P w = .ok (.map ents cl) w := by simp [getObj, Sem.run, g1]
  simp [execOp, ho, resolve, invoke, builtin, Builtin.len_, ev, run_underlying mt.und, hg, goInt, hl]
 ·exact (z6 e2).elim
def zbp (es : List (A × A)) (ok : A → Bool) (q : Opq) (q' : List (A × A) → Opq) (x k v : Operand) : SM Unit := do
 let tx ← opnd x
 match tx with
 | .als r p er ec => do
  let e ← rdE r
  let tk ← opnd k
  let vk ← val tk
  let tv ← opnd v
  let vv ← val tv
  match e.t with
  | .own x0 =>
   if xA p x0 = some (.opq q) ∧ jR p = true ∧ e.er = er ∧ e.ec = ec ∧ ok vk = true ∧ vv.isD = true ∧ ∀ p ∈ es, ok p.1 = true then
    wrE r ⟨.own (un p x0 (.opq (q' (z0F es vk vv)))), e.er, e.ec + 1⟩
   else zl
  | _ => zl
 | _ => zl
theorem z1Y (mt : z1k P t kt et ok z) {q : Opq} {es : List (A × A)}  (hq : Jm q es q') (h : Sim C S Fp [] st a w)  {x k v : Operand} (ho : o.op = .mapUpdate t x k v ∨ o.op = .insert t x k v) (hd : o.dst = none)    (e : zbp es ok q q' x k v st = some (u, R, U)) : wZ P C o a w (zc U st) := by
 unfold zbp at e
 obtain ⟨tx, R1, U1, R2, U2, h1, e1, rfl, rfl⟩ := bind_some e
 obtain ⟨rfl, hx⟩ := zz h h1
 simp only [zc, List.nil_append] at e1 ⊢
 split at e1
 ·rename_i r p er ec
  obtain ⟨en, R3, U3, R4, U4, h3, e2, rfl, rfl⟩ := bind_some e1
  obtain ⟨rfl, rfl, rfl⟩ := y8 h3
  simp only [zc, List.nil_append] at e2 ⊢
  obtain ⟨tk, R5, U5, R6, U6, h5, e3, rfl, rfl⟩ := bind_some e2
  obtain ⟨rfl, hk⟩ := zz h h5
  obtain ⟨vk, R7, U7, R8, U8, h7, e4, rfl, rfl⟩ := bind_some e3
  obtain ⟨rfl, qk⟩ := xP h hk h7
  simp only [zc, List.nil_append] at e4 ⊢
  obtain ⟨tv, R9, U9, R10, U10, h9, e5, rfl, rfl⟩ := bind_some e4
  obtain ⟨rfl, hv⟩ := zz h h9
  obtain ⟨vv, R11, U11, R12, U12, h11, e6, rfl, rfl⟩ := bind_some e5
  obtain ⟨rfl, qv⟩ := xP h hv h11
  simp only [zc, List.nil_append] at e6 ⊢
  cases ht : (st r).t with
  | own x0 =>
   simp only [ht] at e6
   split at e6
   ·rename_i hc
    obtain ⟨c1, c0, c2, c2', c3, c4, c5⟩ := hc
    obtain ⟨rfl, rfl⟩ := xS e6
    subst c2 c2'
    obtain ⟨csy, Fy, t1, t2, t3, t4, t5⟩ := h.turn ht (.inr c0) c1
    have t1' := t1
    simp only [zG] at t1'
    obtain ⟨uv, rfl, hh⟩ := t1'
    obtain ⟨b, ents, cl, rfl, rfl, g1, g2, g3⟩ := hq.fst hh
    have hev : a.eval x = .map (some b) := t4 _ hx
    obtain ⟨kv, hkv⟩ := mt.key vk c3
    have hkd : a.eval k = kv := by
     refine QT (S := S) ?_ hkv
     cases vk <;> first | exact qk | (simp only [Xk, V9, Option.map_none] at hkv; cases hkv)
    have hvd : wB S vv (a.eval v) := qv.rep1 c4
    have hf := mt.find vk kv c3 hkv ents.toList es c5 (uS.mono (fun _ _ q => q.1) g3) w
    have hck := mt.check vk kv false w c3 hkv
    have hget : (getObj b).run P w = .ok (.map ents cl) w := by simp [getObj, Sem.run, g1]
    have hset : ∀ o', (setObj b o').run P w = .ok () (w.putObj b o') := by intro o'; simp [setObj, Sem.run, g1, World.putObj]
    have hoth : ∀ k o', k ≠ b → (w.putObj b o').heap[k]? = w.heap[k]? := fun k o' hk => World.putObj_heap_other hk
    have hlt : b < w.heap.size := (Array.getElem?_eq_some_iff.1 g1).1
    have fin : ∀ ents' cl' es', Yi S es' ents'.toList → ∃ Fp', Sim C S Fp' [] (upd st r ⟨.own (un p x0 (.opq (q' es'))), (st r).er, (st r).ec + 1⟩) a (w.putObj b (.map ents' cl')) := by
     intro ents' cl' es' he'
     refine t5 S (w.putObj b (.map ents' cl')) (.opq (q' es')) [b] [] ⟨rfl, rfl, rfl, Nat.le_refl _, by simp [World.putObj], fun k hk => hoth k _ (by rintro rfl; exact hk (.inr (by simp)))⟩ (fun _ _ _ q => q) (fun _ _ _ _ => rfl) ⟨?_, h.still.gok, h.still.blk.of (fun _ _ _ q => q) fun g x e => hoth g _ (by rintro rfl; exact h.still.blk.ne (g2 0) x e)⟩ ?_ (fun _ _ => rfl) (by simp) (by simp)
     ·intro b' o' v' hs
      have := h.still b' o' v' hs
      unfold y6 at this ⊢
      rw [hoth b' _ (by rintro rfl; rw [g2] at hs; cases hs)]
      exact this
     ·simp only [zG]
      exact ⟨_, rfl, hq.snd hh ⟨b, ents', cl', rfl, rfl, World.putObj_heap_same hlt, g2, he'⟩⟩
    have run : (Instr.mapUpdate t (.map (some b)) kv (a.eval v)).run P w = (do
      match Yb kv ents.toList 0 with
      | some (i, _) => do
       let key ← Instr.keyThatStays (((ents[i]?).map (·.key)).getD kv) kv
       setObj b (.map (ents.modify i fun e => { e with key, val := a.eval v }) cl)
      | none => setObj b (.map (ents.push { key := kv, val := a.eval v, born := cl }) (cl + 1)) : Sem Unit).run P w := by
     unfold Instr.mapUpdate
     rw [Sem.run_bind, run_underlying mt.und, Result.andThen_ok]
     simp only [Sem.run_bind, hget, Result.andThen_ok, hck, hf]
     cases Yb kv ents.toList 0 <;> rfl
    simp only [zc]
    have good : ∀ w', (Instr.mapUpdate t (.map (some b)) kv (a.eval v)).run P w = .ok () w' → ∀ es' Fp', Sim C S Fp' [] (upd st r ⟨.own (un p x0 (.opq (q' es'))), (st r).er, (st r).ec + 1⟩) a w' → wZ P C o a w (upd st r ⟨.own (un p x0 (.opq (q' es'))), (st r).er, (st r).ec + 1⟩) := by
     intro w' hw es' Fp' hs
     refine Ua (w' := w') ?_ hd hs
     rcases ho with ho | ho <;> simp [execOp, ho, hev, hkd, hw]
    rcases Vb hkv (i := 0) g3 with ⟨q1, q2⟩ | ⟨j, y, v', q1, q2, q3, q4, q5, q6⟩
    ·have he' : Yi S (z0F es vk vv) (ents.push { key := kv, val := a.eval v, born := cl }).toList := by
      simp only [z0F, q1, Array.toList_push]
      exact Yw g3 ⟨⟨hkv, hvd⟩, trivial⟩
     obtain ⟨Fp', hs⟩ := fin _ (cl + 1) _ he'
     exact good _ (by rw [run, q2]; exact hset _) _ _ hs
    ·have hkey : (ents[j]?).map (·.key) = some kv := by
      simp only [Nat.sub_zero] at q6
      rw [← Array.getElem?_toList]; exact q6
     have he' : Yi S (z0F es vk vv) (ents.modify j fun e => { e with key := kv, val := a.eval v }).toList := by
      simp only [z0F, q1]
      rw [Array.toList_modify]
      exact Qz g3 fun _ _ => ⟨hkv, hvd⟩
     obtain ⟨Fp', hs⟩ := fin _ cl _ he'
     refine good _ ?_ _ _ hs
     rw [run, q2]
     simp only [hkey, Option.getD_some, Instr.keyThatStays, mt.bits vk kv c3 hkv, if_true, Sem.run_bind, Sem.run_pure, Result.andThen_ok, hset]
   ·exact (z6 e6).elim
  | gone => simp only [ht] at e6; exact (z6 e6).elim
  | d _ => simp only [ht] at e6; exact (z6 e6).elim
  | als _ _ _ _ => simp only [ht] at e6; exact (z6 e6).elim
  | ptr _ _ _ _ => simp only [ht] at e6; exact (z6 e6).elim
 ·exact (z6 e1).elim
end
open Classical
inductive Lks : List Opq → List (List (A × A)) → List (List (A × A)) → List Opq → Prop where
 | nil : Lks [] [] [] []
 | cons {q : Opq} {e e' : List (A × A)} {q' : List (A × A) → Opq} {qs : List Opq} {es es' : List (List (A × A))} {qs' : List Opq} : Jm q e q' → Lks qs es es' qs' → Lks (q :: qs) (e :: es) (e' :: es') (q' e' :: qs')
def ZA (us : List Value) (es : List (List (A × A))) : List (Value × A) := us.zip (es.map fun e => .opq (y9 e))
theorem Lks.into : ∀ {qs : List Opq} {es es' : List (List (A × A))} {qs' : List Opq}, Lks qs es es' qs' → ∀ {us : List Value} {F : List Nat}, F.Nodup → ja S h qs us F → ∃ F', qQ S h ((ZA us es).map (·.2)) ((ZA us es).map (·.1)) F' ∧ F'.Perm F
 | _, _, _, _, .nil, us, F, hn, k => by
  cases us with
  | nil => exact ⟨[], rfl, by rw [show F = [] from k]⟩
  | cons _ _ => exact k.elim
 | _, _, _, _, .cons hq hs, us, F, hn, k => by
  cases us with
  | nil => exact k.elim
  | cons u us =>
   obtain ⟨F1, F2, rfl, h1, h2⟩ := k
   obtain ⟨n1, n2, _⟩ := List.nodup_append.1 hn
   obtain ⟨F3, g1, g2⟩ := hs.into n2 h2
   refine ⟨F3 ++ F1, ⟨F1, F3, rfl, QL (hq.fst h1) n1, g1⟩, ?_⟩
   exact (g2.append_right F1).trans List.perm_append_comm
theorem Lks.back {S S' : zj} {h h' : Array Obj} : ∀ {qs : List Opq} {es es' : List (List (A × A))} {qs' : List Opq}, Lks qs es es' qs' → ∀ {us : List Value} {F F' : List Nat}, ja S h qs us F → qQ S' h' (es'.map fun e => .opq (y9 e)) ((ZA us es).map (·.1)) F' → ∃ F2, ja S' h' qs' us F2 ∧ F2.Perm F'
 | _, _, _, _, .nil, us, F, F', k, g => by
  cases us with
  | nil => exact ⟨[], rfl, by rw [show F' = [] from g]⟩
  | cons _ _ => exact k.elim
 | _, _, _, _, .cons (e' := e1) hq hs, us, F, F', k, g => by
  cases us with
  | nil => exact k.elim
  | cons u us =>
   obtain ⟨F1, F2, rfl, h1, h2⟩ := k
   obtain ⟨G1, G2, rfl, g1, g2⟩ := g
   obtain ⟨F3, k1, k2⟩ := hs.back h2 g2
   have hh : (y9 e1).holds S' h' u G1 := by
    rcases g1 with ⟨q, _⟩ | ⟨cs, q1, q2, q3⟩
    ·simp only [xj, wB, Rep, false_and, exists_false] at q
    ·simp only [zG] at q1
     obtain ⟨v, rfl, q1⟩ := q1
     have : u = v := q3
     subst this
     exact q1
   refine ⟨G1 ++ F3, ⟨G1, F3, rfl, hq.snd h1 hh, k1⟩, ?_⟩
   exact (k2.append_left G1).trans List.perm_append_comm
theorem ja.atoms {S S' : zj}  : ∀ {qs : List Opq} {us : List Value} {F : List Nat}, (∀ q ∈ qs, q.multi = false) → ja S h qs us F → ya S' (us.map .atom) us
 | [], [], _, _, _ => by simp [ya]
 | q :: qs, u :: us, _, hm, ⟨F1, F2, _, h1, h2⟩ => by
  simp only [List.map_cons, ya, Rep]
  refine ⟨[u], us, rfl, ⟨rfl, ?_⟩, ja.atoms (fun q' hq => hm q' (by simp [hq])) h2⟩
  rcases q.one h1 with k | ⟨k, _⟩
  ·exact k
  ·rw [hm q (by simp)] at k; cases k
 | [], _ :: _, _, _, k => k.elim
 | _ :: _, [], _, _, k => k.elim
def lentM (tt : TT) (n : Fr) (dst : Option Nat) (f : Operand) (aL : List (Operand × Nat)) (x : Operand) (aR : List (Operand × Nat)) (s : Nat) (p : List uI) (fa : A) (xl xr : List A) (qs qs' : List Opq) (r : A) : SM Unit := do
 let fs ← shutArgs tt [(f, 0)]
 let xs ← shutArgs tt aL
 let zs ← shutArgs tt aR
 let tx ← opnd x
 let e ← rdE s
 match e.t with
 | .own x0 =>
  if fs = [fa] ∧ LeP xs xl ∧ LeP zs xr ∧ tx = .als s p e.er e.ec ∧ xA p x0 = some (.agg (qs.map .opq)) then
   (wrE s ⟨.own (un p x0 (.agg (qs'.map .opq))), e.er, e.ec + 1⟩ >>= fun _ => wrT n dst (mkT r))
  else zl
 | _ => zl
def z6f (tt : TT) (n : Fr) (dst : Option Nat) (f : Operand) (aL : List (Operand × Nat)) (x : Operand) (aR : List (Operand × Nat)) (s : Nat) (p : List uI) (fa : A) (xl xr : List A) (qs qs' : List Opq) (r : A) : HM Unit :=
 wt tt [(f, 0)] >>= fun fs => wt tt aL >>= fun xs => wt tt aR >>= fun zs => zV (opnd x) >>= fun tx => zV (rdE s) >>= fun e =>
 match e.t with
 | .own x0 => ud (fs = [fa] ∧ LeP xs xl ∧ LeP zs xr ∧ tx = .als s p e.er e.ec ∧ xA p x0 = some (.agg (qs.map .opq))) (zV (wrE s ⟨.own (un p x0 (.agg (qs'.map .opq))), e.er, e.ec + 1⟩ >>= fun _ => wrT n dst (mkT r)))
 | _ => zH
theorem z7o (tt : TT) (n : Fr) (dst : Option Nat) (f : Operand) (aL : List (Operand × Nat)) (x : Operand) (aR : List (Operand × Nat)) (s : Nat) (p : List uI) (fa : A) (xl xr : List A) (qs qs' : List Opq) (r : A) : Snd (lentM tt n dst f aL x aR s p fa xl xr qs qs' r) (z6f tt n dst f aL x aR s p fa xl xr qs qs' r) := by
 refine ze (wI _ _) fun _ => ze (wI _ _) fun _ => ze (wI _ _) fun _ => ze (zi _) fun _ => ze (zi _) fun e => ?_
 cases e.t with
 | own x0 => exact xK (zi _)
 | _ => exact zo _
theorem Loc.lentM (tt : TT) (n : Fr) (dst : Option Nat) (f : Operand) (aL : List (Operand × Nat)) (x : Operand) (aR : List (Operand × Nat)) (s : Nat) (p : List uI) (fa : A) (xl xr : List A) (qs qs' : List Opq) (r : A) : Loc (lentM tt n dst f aL x aR s p fa xl xr qs qs' r) := by
 unfold Go.Own.lentM
 refine Loc.bind (Loc.shutArgs _ _) fun _ => Loc.bind (Loc.shutArgs _ _) fun _ => Loc.bind (Loc.shutArgs _ _) fun _ => Loc.bind (Loc.opnd _) fun _ => Loc.bind (Loc.rdE _) fun e => ?_
 split
 ·exact Loc.ite (Loc.bind (Loc.wrE _ _) fun _ => Loc.wrT _ _ _) Loc.fail
 ·exact Loc.fail
variable {qs qs' : List Opq}{xl xr : List A}
section
variable {C : Ctx} {S : zj} {Fp : Nat → List Nat} {st : St} {a : Act} {w : World}
theorem z56 {P : Program} {tt : TT} (h : Sim C S Fp [] st a w) {op : Oper} {f x : Operand} {args : Array Operand} {tys : Array TypeId} {aL aR : List (Operand × Nat)} {tx0 s : Nat} {p : List uI} {fa r : A} {xl xr : List A}  {es es' : List (List (A × A))} (hp : p = [] ∨ jR p = true) (hm : ∀ q ∈ qs, q.multi = false) (hk : Lks qs es es' qs')
  (hl : ∀ us : List Value, us.length = qs.length → vA P fa (xl ++ .agg (us.map .atom) :: xr) (ZA us es) r (es'.map fun e => .opq (y9 e)))
  (ho : op.op = .call { callee := .value f, args := args, argTypes := tys }) (hsz : args.size = tys.size) (hargs : args.toList.zip tys.toList = aL ++ (x, tx0) :: aR) {u : Unit} {R : List Nat} {U : List (Nat × Ent)}
  (e : lentM tt C.n op.dst f aL x aR s p fa xl xr qs qs' r st = some (u, R, U)) : wZ P C op a w (zc U st) := by
 unfold lentM at e
 obtain ⟨fs, R1, U1, R2, U2, e1, e2, rfl, rfl⟩ := bind_some e
 obtain ⟨S1, Fp1, g1, g2, _, g3⟩ := yP h e1
 obtain ⟨xs, R3, U3, R4, U4, e3, e4, rfl, rfl⟩ := bind_some e2
 obtain ⟨S2, Fp2, j1, j2, _, j3⟩ := yP g1 e3
 obtain ⟨zs, R5, U5, R6, U6, e5, e6, rfl, rfl⟩ := bind_some e4
 obtain ⟨S3, Fp3, q1, q2, _, q3⟩ := yP j1 e5
 rw [zu, zu, zu]
 generalize zc U5 (zc U3 (zc U1 st)) = s3 at q1 e6 ⊢
 obtain ⟨tx, R7, U7, R8, U8, e7, e8, rfl, rfl⟩ := bind_some e6
 obtain ⟨rfl, hx⟩ := zz q1 e7
 simp only [zc, List.nil_append] at e8 ⊢
 obtain ⟨en, R9, U9, R10, U10, e9, e10, rfl, rfl⟩ := bind_some e8
 obtain ⟨rfl, rfl, rfl⟩ := y8 e9
 simp only [zc, List.nil_append] at e10 ⊢
 cases ht : (s3 s).t with
 | own x0 =>
  simp only [ht] at e10
  split at e10
  ·rename_i hc
   obtain ⟨rfl, hxl, hxr, rfl, hg⟩ := hc
   obtain ⟨u1, R11, U11, R12, U12, e11, e12, rfl, rfl⟩ := bind_some e10
   obtain ⟨rfl, rfl⟩ := xS e11
   simp only [zc, List.cons_append, List.nil_append] at e12 ⊢
   obtain ⟨csy, Fy, t1, t2, t3, t4, t5⟩ := q1.turn ht hp hg
   have hopq := Uj.1 t1
   have hlen := hopq.len
   have hev : a.eval x = .agg csy.toArray := t4 _ hx
   obtain ⟨F', i1, i2⟩ := hk.into t2 hopq
   have hmap : (args.map a.eval).toList = (aL.map fun p => a.eval p.1) ++ a.eval x :: (aR.map fun p => a.eval p.1) := by
    have h1 : (args.toList.zip tys.toList).map (fun p => a.eval p.1) = (args.map a.eval).toList := by
     have : (args.toList.zip tys.toList).map (fun p => a.eval p.1) = ((args.toList.zip tys.toList).map (·.1)).map a.eval := by rw [List.map_map]; rfl
     rw [this, List.map_fst_zip (by simp [hsz])]
     simp
    rw [← h1, hargs]
    simp
   have hact := hl csy hlen S3 w (a.eval f) ((args.map a.eval).toList) F' q1.still ((g3.1.mono j2).mono q2)
    (by rw [hmap, hev]; exact Yw (hxl _ _ (j3.mono fun _ _ q => q.mono q2)) ⟨⟨csy, by simp only [Rep]; exact hopq.atoms hm, rfl⟩, hxr _ _ q3⟩) i1 (i2.nodup_iff.2 t2)
   intro rd m K Q hK
   refine z6v ho hact rd m K Q ?_
   rintro v' w' ⟨S', F2, G, b1, b2, b3, b4, b5, b6, b7, b8⟩
   obtain ⟨F4, k1, k2⟩ := hk.back hopq b6
   have hmem : ∀ k, k ∈ F' ↔ k ∈ Fy := fun k => i2.mem_iff
   obtain ⟨Fp5, m1⟩ := t5 S' w' (.agg (qs'.map .opq)) F4 F2 (b1.mono fun k hk => hk.imp id (hmem k).1) b2 (fun b o hb hn => b3 b o hb (fun q => hn ((hmem b).1 q))) b4 (Uj.2 k1) (fun _ _ => rfl)
    ((k2.append_right F2).nodup_iff.2 b7) (fun k hk => (b8 k ((k2.append_right F2).mem_iff.1 hk)).imp id (hmem k).1)
   obtain ⟨Fp6, m2⟩ := Vf (X := []) (by simpa using m1) e12 b5
   exact hK _ _ _ _ m2
  ·exact (z6 e10).elim
 | gone => simp only [ht] at e10; exact (z6 e10).elim
 | d _ => simp only [ht] at e10; exact (z6 e10).elim
 | als _ _ _ _ => simp only [ht] at e10; exact (z6 e10).elim
 | ptr _ _ _ _ => simp only [ht] at e10; exact (z6 e10).elim
end
def ku {P : Program} (tt : TT) (s i : Nat) (p : List uI) {fa r : A} {xl xr : List A}  {es es' : List (List (A × A))} (hp : p = [] ∨ jR p = true) (hm : ∀ q ∈ qs, q.multi = false) (hk : Lks qs es es' qs')
  (hl : ∀ us : List Value, us.length = qs.length → vA P fa (xl ++ .agg (us.map .atom) :: xr) (ZA us es) r (es'.map fun e => .opq (y9 e))) (d : Option Nat) : XH P :=
 xAt P (fun o => if o.dst = d then (match o.op with
   | .call ⟨.value f, args, tys⟩ => if args.size = tys.size then (match (args.toList.zip tys.toList).drop i with | (x, _) :: aR => some (f, (args.toList.zip tys.toList).take i, x, aR) | [] => none) else none
   | _ => none) else none) (fun n o b => lentM tt n o.dst b.1 b.2.1 b.2.2.1 b.2.2.2 s p fa xl xr qs qs' r) (fun n o b => z6f tt n o.dst b.1 b.2.1 b.2.2.1 b.2.2.2 s p fa xl xr qs qs' r)
  (by
   intro C S Fp st a w o b hp' h u R U e
   split at hp'
   ·split at hp'
    ·rename_i f args tys ho
     split at hp'
     ·rename_i hc
      split at hp'
      ·rename_i x tx0 aR hd
       cases hp'
       exact z56 h hp hm hk hl ho hc (by rw [← hd, List.take_append_drop]) e
      ·cases hp'
     ·cases hp'
    ·cases hp'
   ·cases hp')
  (fun n o b => Loc.lentM _ _ _ _ _ _ _ _ _ _ _ _ _ _ _) (fun n o b => z7o _ _ _ _ _ _ _ _ _ _ _ _ _ _ _)
variable {t kt et : Nat}{z : A}
def z1T {ok : A → Bool}  (mt : z1k P t kt et ok z) (d : Nat) {q : Opq} {es : List (A × A)}  (hq : Jm q es q') : XH P :=
 xAt P (fun o => match o.op with | .lookup t' x k two => if o.dst = some d ∧ t' = t then some (x, k, two) else none | _ => none) (fun n o b => z7L n o.dst q es ok z b.1 b.2.1 b.2.2)
  (fun n o b => zV (opnd b.1) >>= fun tx => UD tx >>= fun y => zV (opnd b.2.1) >>= fun tk => ZS tk >>= fun vk =>
   ud (y = .opq q ∧ ok vk = true ∧ ∀ p ∈ es, ok p.1 = true) (eqA (match Yc vk es 0 with
    | some (_, v) => if b.2.2 = true then .tup [v, .atom (.bool true)] else v
    | none => if b.2.2 = true then .tup [z, .atom (.bool false)] else z) >>= fun r => zV (wrT n o.dst (.d r))))
  (by
   intro C S Fp st a w o b hp h u R U e
   split at hp
   ·rename_i ho
    split at hp
    ·rename_i hc
     cases hp
     obtain ⟨_, rfl⟩ := hc
     exact z4Z mt hq h ho e
    ·cases hp
   ·cases hp)
  (fun n o b => Loc.bind (Loc.opnd _) fun _ => Loc.bind (Loc.peek _) fun _ => Loc.bind (Loc.opnd _) fun _ => Loc.bind (Loc.val _) fun _ => Loc.ite (Loc.wrT _ _ _) Loc.fail)
  (fun n o b => ze (zi _) fun _ => ze (Xt _) fun _ => ze (zi _) fun _ => ze (vu _) fun _ => xK (Yz (zU _ fun r => wrT n o.dst (.d r)).symm (ze (UB _) fun _ => zi _)))
def z1S {ok : A → Bool}  (mt : z1k P t kt et ok z) (d : Nat) {q : Opq} {es : List (A × A)}  (hq : Jm q es q') : XH P :=
 xAt P (fun o => match o.op with | .call ⟨.builtin .len, ⟨[x]⟩, ⟨[t']⟩⟩ => if o.dst = some d ∧ t' = t then some x else none | _ => none) (fun n o b => z7K n o.dst q es b)
  (fun n o b => zV (opnd b) >>= fun tx => UD tx >>= fun y => ud (y = .opq q) (eqA (.atom (.int .i64 (es.length : Nat))) >>= fun r => zV (wrT n o.dst (.d r))))
  (by
   intro C S Fp st a w o b hp h u R U e
   split at hp
   ·rename_i ho
    split at hp
    ·rename_i hc
     cases hp
     obtain ⟨_, rfl⟩ := hc
     exact z4V mt hq h ho e
    ·cases hp
   ·cases hp)
  (fun n o b => Loc.bind (Loc.opnd _) fun _ => Loc.bind (Loc.peek _) fun _ => Loc.ite (Loc.wrT _ _ _) Loc.fail)
  (fun n o b => ze (zi _) fun _ => ze (Xt _) fun _ => xK (Yz (zU _ fun r => wrT n o.dst (.d r)).symm (ze (UB _) fun _ => zi _)))
def z6z {ok : A → Bool}  (mt : z1k P t kt et ok z) (m : Nat) {q : Opq} {es : List (A × A)}  (hq : Jm q es q') (es' : List (A × A)) : XH P :=
 xAt P (fun o => match o.op with
   | .mapUpdate t' (.tmp x) k v => if x = m ∧ t' = t ∧ o.dst = none then some (k, v) else none
   | .insert t' (.tmp x) k v => if x = m ∧ t' = t ∧ o.dst = none then some (k, v) else none
   | _ => none) (fun n o b => zbp es ok q q' (.tmp m) b.1 b.2)
  (fun n o b => zV (opnd (.tmp m)) >>= fun tx =>
   match tx with
   | .als r p er ec => zV (rdE r) >>= fun e => zV (opnd b.1) >>= fun tk => ZS tk >>= fun vk => zV (opnd b.2) >>= fun tv => ZS tv >>= fun vv =>
    match e.t with
    | .own x0 => ud (xA p x0 = some (.opq q) ∧ jR p = true ∧ e.er = er ∧ e.ec = ec ∧ ok vk = true ∧ vv.isD = true ∧ ∀ p ∈ es, ok p.1 = true) (ud (z0F es vk vv = es') (zV (wrE r ⟨.own (un p x0 (.opq (q' es'))), e.er, e.ec + 1⟩)))
    | _ => zH
   | _ => zH)
  (by
   intro C S Fp st a w o b hp h u R U e
   split at hp
   ·rename_i ho
    split at hp
    ·rename_i hc
     cases hp
     obtain ⟨rfl, rfl, hd⟩ := hc
     exact z1Y mt hq h (.inl ho) hd e
    ·cases hp
   ·rename_i ho
    split at hp
    ·rename_i hc
     cases hp
     obtain ⟨rfl, rfl, hd⟩ := hc
     exact z1Y mt hq h (.inr ho) hd e
    ·cases hp
   ·cases hp)
  (fun n o b => by
   refine Loc.bind (Loc.opnd _) fun tx => ?_
   split
   ·refine Loc.bind (Loc.rdE _) fun e => Loc.bind (Loc.opnd _) fun _ => Loc.bind (Loc.val _) fun _ => Loc.bind (Loc.opnd _) fun _ => Loc.bind (Loc.val _) fun _ => ?_
    split
    ·exact Loc.ite (Loc.wrE _ _) Loc.fail
    ·exact Loc.fail
   ·exact Loc.fail)
  (fun n o b => by
   refine ze (zi _) fun tx => ?_
   cases tx with
   | als r p er ec =>
    refine ze (zi _) fun e => ze (zi _) fun tk => ze (vu _) fun vk => ze (zi _) fun tv => ze (vu _) fun vv => ?_
    cases e.t with
    | own x0 => exact xK (ZX fun hq => by rw [hq]; exact zi _)
    | _ => exact zo _
   | _ => exact zo _)
def KU (us : List Value) (es : List (List (A × A))) : List Opq := List.zipWith wC us es
theorem z9L : ∀ {xs : List A} {vs : List Value}, uS (wB S) xs vs → qQ S h xs vs []
 | [], [], _ => rfl
 | _ :: _, _ :: _, ⟨q, qs⟩ => ⟨[], [], rfl, .inl ⟨q.repV, rfl⟩, z9L qs⟩
 | [], _ :: _, q => q.elim
 | _ :: _, [], q => q.elim
theorem z9K {u : Value}  (hy : Has S h y u F) {xr : List A} {vr : List Value} (hr : uS (wB S) xr vr) : ∀ {xl : List A} {vl : List Value}, uS (wB S) xl vl → qQ S h (xl ++ y :: xr) (vl ++ u :: vr) F
 | [], [], _ => ⟨F, [], by simp, hy, z9L hr⟩
 | _ :: _, _ :: _, ⟨q, qs⟩ => ⟨[], F, by simp, .inl ⟨q.repV, rfl⟩, z9K hy hr qs⟩
 | [], _ :: _, q => q.elim
 | _ :: _, [], q => q.elim
theorem z1j {α β : Type} {R : α → β → Prop} {y : α} {xr : List α} : ∀ {xl : List α} {vs : List β}, uS R (xl ++ y :: xr) vs → ∃ vl u vr, vs = vl ++ u :: vr ∧ uS R xl vl ∧ R y u ∧ uS R xr vr
 | [], v :: vs, ⟨q, qs⟩ => ⟨[], v, vs, rfl, trivial, q, qs⟩
 | x :: xl, v :: vs, ⟨q, qs⟩ => by
  obtain ⟨vl, u, vr, rfl, h1, h2, h3⟩ := z1j qs
  exact ⟨v :: vl, u, vr, rfl, ⟨q, h1⟩, h2, h3⟩
 | [], [], q => q.elim
 | _ :: _, [], q => q.elim
theorem z0N : ∀ {us : List Value} {es : List (List (A × A))} {F : List Nat}, us.length = es.length → qQ S h ((ZA us es).map (·.2)) ((ZA us es).map (·.1)) F → ∃ F', ja S h (KU us es) us F' ∧ F'.Perm F
 | [], [], F, _, g => ⟨[], rfl, by rw [show F = [] from g]⟩
 | u :: us, e :: es, F, hl, g => by
  obtain ⟨G1, G2, rfl, g1, g2⟩ := g
  obtain ⟨F3, k1, k2⟩ := z0N (by simpa using hl) g2
  have hh : (y9 e).holds S h u G1 := by
   rcases g1 with ⟨q, _⟩ | ⟨cs, q1, q2, q3⟩
   ·simp only [xj, wB, Rep, false_and, exists_false] at q
   ·simp only [zG] at q1
    obtain ⟨v, rfl, q1⟩ := q1
    have : u = v := q3
    subst this
    exact q1
  exact ⟨G1 ++ F3, ⟨G1, F3, rfl, ⟨rfl, hh⟩, k1⟩, (k2.append_left G1).trans List.perm_append_comm⟩
 | [], _ :: _, _, hl, _ => by simp at hl
 | _ :: _, [], _, hl, _ => by simp at hl
theorem K2 : ∀ {us vs : List Value} {es : List (List (A × A))} {F : List Nat}, us.length = es.length → F.Nodup → ja S h (KU us es) vs F → vs = us ∧ ∃ F', qQ S h (es.map fun e => .opq (y9 e)) us F' ∧ F'.Perm F
 | [], vs, [], F, _, _, k => by
  cases vs with
  | nil => exact ⟨rfl, [], rfl, by rw [show F = [] from k]⟩
  | cons _ _ => exact k.elim
 | u :: us, vs, e :: es, F, hl, hn, k => by
  cases vs with
  | nil => exact k.elim
  | cons v vs =>
   obtain ⟨F1, F2, rfl, h1, h2⟩ := k
   obtain ⟨rfl, h1⟩ := h1
   obtain ⟨n1, n2, _⟩ := List.nodup_append.1 hn
   obtain ⟨rfl, F3, k1, k2⟩ := K2 (by simpa using hl) n2 h2
   exact ⟨rfl, F3 ++ F1, ⟨F1, F3, rfl, QL h1 n1, k1⟩, (k2.append_right F1).trans List.perm_append_comm⟩
 | [], _, _ :: _, _, hl, _, _ => by simp at hl
 | _ :: _, _, [], _, hl, _, _ => by simp at hl
theorem z2U {es : List (List (A × A))} (hl : us.length = es.length) : (ZA us es).map (·.1) = us := by
 unfold ZA
 rw [List.map_fst_zip (by simp [hl])]
theorem Yq {P : Program} {tt : TT}   {body : Code} {nt B : Nat} (rs : List Nat) {xl xr caps : List A} {es es' : List (List (A × A))} {us : List Value} {r : A} (hf : P.funcs[k]? = some fn) (hnm : (fn.name == "runtime.NumGoroutine") = false) (hb : fn.body = some body)
  (hn : nt = fn.ntmps) (hr : fn.results = (rs.map ResultVar.tmp).toArray) (hrl : rs.length ≤ 4) (ha : (xl ++ r :: (xr ++ caps)).length ≤ fn.ntmps) (hl : us.length = es.length) (hl' : us.length = es'.length) (hrr : rs = [] ∧ r = .tup [] ∨ ∃ t, rs = [t])
  (h : ∀ E : Exit → St → Prop, (∀ ex st, (ex = .normal ∨ ex = .ret) → (st B).t = .own (.box (.agg ((KU us es').map .opq))) → (∀ t ∈ rs, (st t).t = .d r) → E ex st) →
   AWP P ⟨nt, []⟩ body (ofL (z38 0 (xl ++ .agg ((KU us es).map .opq) :: (xr ++ caps)))) (Qf P ⟨nt, []⟩ [] E)) : vA P (.fn k caps) (xl ++ .agg (us.map .atom) :: xr) (ZA us es) r (es'.map fun e => .opq (y9 e)) := by
 subst hn
 intro S w fv vs F hS hfv havs hls hF
 obtain ⟨cs0, hfv, rfl⟩ := hfv
 simp only [Rep] at hfv
 obtain ⟨cv, k1, k2, rfl⟩ := hfv
 have hcaps := ZZ k1 k2
 obtain ⟨vl, u, vr, rfl, a1, a2, a3⟩ := z1j havs
 obtain ⟨cs, c1, rfl⟩ := a2
 simp only [Rep] at c1
 have hcs : cs = us := by
  have gen : ∀ (us : List Value) (cs : List Value), ya S (us.map .atom) cs → cs = us := by
   intro us
   induction us with
   | nil => intro cs q; simpa [ya] using q
   | cons u us ih =>
    intro cs q
    simp only [List.map_cons, ya, Rep] at q
    obtain ⟨d1, d2, rfl, ⟨rfl, _⟩, q2⟩ := q
    rw [ih d2 q2]; rfl
  exact gen us cs c1
 subst hcs
 obtain ⟨F', m1, m2⟩ := z0N hl hls
 have hn' : F'.Nodup := m2.nodup_iff.2 hF
 have hin : qQ S w.heap (xl ++ .agg ((KU cs es).map .opq) :: (xr ++ caps)) (vl ++ zK (.agg (cs.map .atom)) cs :: (vr ++ cv)) F' :=
  z9K (.inr ⟨cs, Uj.2 m1, hn', rfl⟩) (Yw a3 hcaps) a1
 refine .inl ⟨k, cv.toArray, fn, rfl, hf, hnm, by rw [hb]; rfl, ?_⟩
 have hmem : ∀ k, k ∈ F' ↔ k ∈ F := fun k => m2.mem_iff
 have hw := Yt (n := ⟨fn.ntmps, []⟩) (args := xl ++ .agg ((KU cs es).map .opq) :: (xr ++ caps)) (R := fun w e w' => ∃ v, e = .returned v ∧ ∃ S' F2 G, jO (fun k => w.heap.size ≤ k ∨ k ∈ F) w w' ∧ (∀ b o u, S b o = some u → S' b o = some u) ∧ (∀ b o, b < w.heap.size → b ∉ F → S' b o = S b o) ∧ yV S' w' ∧ Has S' w'.heap r v F2 ∧
   qQ S' w'.heap (es'.map fun e => .opq (y9 e)) ((ZA cs es).map (·.1)) G ∧ (G ++ F2).Nodup ∧ ∀ k ∈ G ++ F2, w.heap.size ≤ k ∨ k ∈ F) (Q := fun ex st => (ex = .normal ∨ ex = .ret) ∧ (st B).t = .own (.box (.agg ((KU cs es').map .opq))) ∧ ∀ t ∈ rs, (st t).t = .d r) hf hb rfl (by simp) (by simpa using ha) hS hin hn'
  (by rw [z0V]; exact h _ fun ex st q1 q2 q3 => ⟨q1, q2, q3⟩) ?_
 ·simpa using hw
 rintro ex st' ⟨hx, h3, h4⟩
 refine ⟨hx, ?_⟩
 intro df S' Fp' a' w' h1
 have hB := h1.ent B
 unfold yT at hB
 simp only [h3] at hB
 obtain ⟨cB, d1, d2, d3⟩ := hB
 simp only [zG] at d1
 obtain ⟨b, ty, l, FB, rfl, d4, d5, d6, d7⟩ := d1
 obtain ⟨rfl, G, n1, n2⟩ := K2 hl' (by rw [d6] at d2; exact (List.nodup_cons.1 d2).2) (Ys.1 d5)
 have hsub : ∀ k ∈ G, k ∈ Fp' B := fun k hk => by rw [d6]; exact List.mem_cons_of_mem _ (n2.mem_iff.1 hk)
 have hres := Vz (P := P) hr hrl a' w'
 have hrep : xj S' r (zb5 (Act.tv a') rs) := by
  rcases hrr with ⟨rfl, rfl⟩ | ⟨t, rfl⟩
  ·simp only [xj]
   exact ⟨[], rfl, trivial⟩
  ·have q := h1.ent t
   unfold yT at q
   simp only [h4 t (by simp)] at q
   exact q.1
 refine ⟨_, hres, _, rfl, S', [], G, h1.below.mono (fun k hk => hk.imp id (hmem k).1), h1.sinc, ?_, h1.still, .inl ⟨hrep, rfl⟩, by rw [z2U hl]; exact n1, ?_, ?_⟩
 ·intro b o hb hn
  exact h1.sbase b o (by rintro (q | q) <;> first | omega | exact hn ((hmem b).1 q))
 ·rw [List.append_nil]
  rw [d6] at d2
  exact n2.nodup_iff.2 (List.nodup_cons.1 d2).2
 ·intro k hk
  exact (h1.base B k (hsub k (by simpa using hk))).imp id (hmem k).1
theorem z6s (bs : ByteArray) : ∀ (n i : Nat) (r : List UInt8), bs.size - i = n → ByteArray.toList.loop bs i r = r.reverse ++ bs.data.toList.drop i
 | 0, i, r, h => by
  rw [ByteArray.toList.loop, if_neg (by omega), List.drop_eq_nil_of_le (by have : bs.data.toList.length = bs.size := rfl; omega), List.append_nil]
 | n + 1, i, r, h => by
  have hi : i < bs.size := by omega
  have hl : i < bs.data.toList.length := hi
  rw [ByteArray.toList.loop, if_pos hi, z6s bs n (i + 1) _ (by omega), List.reverse_cons, List.append_assoc, List.drop_eq_getElem_cons hl]
  congr 1
  show [bs.get! i] ++ _ = _
  rw [List.singleton_append]
  congr 1
  show bs.data[i]! = _
  rw [getElem!_pos bs.data i hi, Array.getElem_toList]
theorem Kt (l : List UInt8) : (ByteArray.mk l.toArray).toList = l := by
 unfold ByteArray.toList
 rw [z6s _ _ 0 [] rfl]
 simp
theorem z3F (l m : List UInt8) : (ByteArray.mk l.toArray) ++ (ByteArray.mk m.toArray) = ⟨(l ++ m).toArray⟩ := by
 show ByteArray.append _ _ = _
 unfold ByteArray.append
 simp
section
variable {P : Program} {C : Ctx} {S : zj} {Fp : Nat → List Nat} {X : List Nat} {st : St} {a : Act} {w : World}
def z5U (op : BinOp) (x y : ByteArray) : Option A :=
 match op with
 | .add => if x.size + y.size ≤ 4611686018427387904 then some (.atom (.string (x ++ y))) else none
 | .eql => some (.atom (.bool (x.toList == y.toList)))
 | .neq => some (.atom (.bool (!(x.toList == y.toList))))
 | _ => none
theorem z4q {x y : ByteArray}  (e : z5U op x y = some r) (xt : Nat) (p q : Operand) (w : World) : ∃ v, xj S r v ∧ (do eqGuard op xt p q (.string x) (.string y); Go.binOp op xt (.string x) (.string y)).run P w = .ok v w := by
 cases op <;> simp only [z5U] at e <;> first | (cases e; done) | skip
 ·split at e
  ·rename_i h
   cases e
   refine ⟨_, zp.2 ⟨rfl, rfl⟩, ?_⟩
   have h2 : ¬ (((x.size + y.size : Nat) : Int) > IntKind.i64.max) := by
    have : IntKind.i64.max = 9223372036854775807 := by decide
    omega
   simp [eqGuard, Go.binOp, Op.stringOp]
   omega
  ·cases e
 ·cases e
  exact ⟨_, zp.2 ⟨rfl, rfl⟩, by simp [eqGuard, Go.binOp, Op.stringOp]⟩
 ·cases e
  exact ⟨_, zp.2 ⟨rfl, rfl⟩, by simp [eqGuard, Go.binOp, Op.stringOp]⟩
def stxR (n : Fr) (dst : Option Nat) (op : BinOp) (vx vy : A) : SM Unit :=
 match vx, vy with
 | .atom (.string x), .atom (.string y) => ofO (z5U op x y) >>= fun r => wrT n dst (.d r)
 | _, _ => zl
def zbt (n : Fr) (dst : Option Nat) (op : BinOp) (x y : Operand) : SM Unit := do
 let tx ← opnd x
 let vx ← val tx
 let ty ← opnd y
 let vy ← val ty
 stxR n dst op vx vy
def z7h (n : Fr) (dst : Option Nat) (op : BinOp) (vx vy : A) : HM Unit :=
 match vx, vy with
 | .atom (.string x), .atom (.string y) => z0e (z5U op x y) >>= fun r => zV (wrT n dst (.d r))
 | _, _ => zH
theorem z8W (n : Fr) (dst : Option Nat) (op : BinOp) (vx vy : A) : Snd (stxR n dst op vx vy) (z7h n dst op vx vy) := by
 unfold stxR z7h
 split
 ·exact ze (Ws _) fun _ => zi _
 ·exact zo _
theorem Loc.stxR (n : Fr) (dst : Option Nat) (op : BinOp) (vx vy : A) : Loc (stxR n dst op vx vy) := by
 unfold Go.Own.stxR
 split
 ·exact Loc.bind (Loc.ofO _) fun _ => Loc.wrT _ _ _
 ·exact Loc.fail
theorem z8S (h : Sim C S Fp [] st a w)    {x y : Operand} (ho : o.op = .binOp op xt x y yt)    (e0 : zbt C.n o.dst op x y st = some (u, R, U)) : wZ P C o a w (zc U st) := by
 unfold zbt at e0
 obtain ⟨tx, R1, U1, R2, U2, h1, e1, rfl, rfl⟩ := bind_some e0
 obtain ⟨rfl, hx⟩ := zz h h1
 obtain ⟨vx, R3, U3, R4, U4, h3, e2, rfl, rfl⟩ := bind_some e1
 obtain ⟨rfl, qx⟩ := xP h hx h3
 simp only [zc, List.nil_append] at e2 ⊢
 obtain ⟨ty, R5, U5, R6, U6, h5, e3, rfl, rfl⟩ := bind_some e2
 obtain ⟨rfl, hy⟩ := zz h h5
 obtain ⟨vy, R7, U7, R8, U8, h7, e4, rfl, rfl⟩ := bind_some e3
 obtain ⟨rfl, qy⟩ := xP h hy h7
 simp only [zc, List.nil_append] at e4 ⊢
 unfold stxR at e4
 split at e4
 ·rename_i x' y'
  obtain ⟨r, R9, U9, R10, U10, h9, e5, rfl, rfl⟩ := bind_some e4
  obtain ⟨hr, rfl, rfl⟩ := wU h9
  simp only [zc, List.nil_append] at e5 ⊢
  obtain ⟨ex, _⟩ := zp.1 qx
  obtain ⟨ey, _⟩ := zp.1 qy
  obtain ⟨v, hv, hrun⟩ := z4q (S := S) (P := P) hr xt x y w
  obtain ⟨Fp', hs⟩ := xW h e5 (x := .d r) hv
  refine zn (v := v) ?_ hs
  simp only [execOp, ho, ex, ey, Sem.run_bind, Sem.run_pure] at hrun ⊢
  rw [hrun]
  rfl
 ·exact (z6 e4).elim
end
def z9D (d : Nat) (o : Oper) : Option (BinOp × Nat × Operand × Operand) := match o.op with | .binOp op xt x y _ => if o.dst = some d then some (op, xt, x, y) else none | _ => none
def Qh (P : Program) (d : Nat) : XH P :=
 xAt P (z9D d) (fun n o b => zbt n o.dst b.1 b.2.2.1 b.2.2.2) (fun n o b => zV (opnd b.2.2.1) >>= fun tx => ZS tx >>= fun vx => zV (opnd b.2.2.2) >>= fun ty => ZS ty >>= fun vy => z7h n o.dst b.1 vx vy)
  (by
   intro C S Fp st a w o b hp h u R U e
   unfold z9D at hp
   split at hp
   ·rename_i ho; cases UE hp; exact z8S h ho e
   ·cases hp)
  (fun n o b => Loc.bind (Loc.opnd _) fun _ => Loc.bind (Loc.val _) fun _ => Loc.bind (Loc.opnd _) fun _ => Loc.bind (Loc.val _) fun _ => Loc.stxR _ _ _ _ _)
  (fun n o b => ze (zi _) fun _ => ze (vu _) fun _ => ze (zi _) fun _ => ze (vu _) fun _ => z8W _ _ _ _ _)
theorem WJ {l m : List UInt8} (h : l.length + m.length ≤ 4611686018427387904) : z5U .add ⟨l.toArray⟩ ⟨m.toArray⟩ = some (Jq (l ++ m)) := by
 unfold z5U
 rw [z3F, if_pos (by simpa [ByteArray.size] using h)]
 rfl
theorem zb4 (l m : List UInt8) : z5U .eql ⟨l.toArray⟩ ⟨m.toArray⟩ = some (.atom (.bool (l == m))) := by
 unfold z5U
 rw [Kt, Kt]
def eMp {K V : Type} (f : K → A) (g : V → A) (l : List (K × V)) : A := .opq (y9 (zm f g l))
theorem rM0 (sz : Nat) (f : α → A) (n : Int) (z : A) : A.osl sz (decide ((0 : Int) = n)) (List.replicate (0 : Int).toNat z) = eOs sz (decide ((0 : Int) = n)) f ([] : List α) := rfl
theorem z8r (h : us.length = 3) : ∃ a b c, us = [a, b, c] := by
 match us, h with
 | [a, b, c], _ => exact ⟨a, b, c, rfl⟩
theorem z1u {qs : List Opq} (h : (qs.all fun q => !q.multi) = true) : ∀ q ∈ qs, q.multi = false := fun q hq => by simpa using List.all_eq_true.1 h q hq
theorem rL0 {c : Int} (h : 0 ≤ c ∧ c ≤ 4294967296) : (0 : Int) ≤ 0 ∧ 0 ≤ c ∧ c ≤ ((lim : Nat) : Int) := ⟨Int.le_refl _, h.1, h.2⟩
theorem z2N {q : Nat}  (h : (st q).t = .d r) : ∀ t ∈ [q], (st t).t = .d r := by simpa using h
theorem zdn : ∀ t ∈ ([] : List Nat), (st t).t = .d r := by simp
theorem ixV {k : IntKind}  {e : Nat} {l : List Int} {j u : Int} (hf : ∀ x, vW tt e (eI k x) = true) (h : idx l j = some u) {m : Nat} (hm : l.length = m) :
  0 ≤ j ∧ j < (m : Int) ∧ vW tt e (eI k u) = true ∧ (eI k u).isD = true ∧ ((l.map (eI k)).take j.toNat).all (fun z => z.size == (eI k u).size) = true := by
 have h1 := i0 h
 have h2 := (List.getElem?_eq_some_iff.1 (iE h)).1
 refine ⟨h1, by omega, hf u, rfl, ?_⟩
 rw [← List.map_take, List.all_map, List.all_eq_true]
 intro x _
 simp [eI, A.size]
def z9B (d : Nat) (o : Oper) : Option (Nat × Operand × Operand) := match o.op with | .index t x i => if o.dst = some d then some (t, x, i) else none | _ => none
def z3a (tt : TT) (n : Fr) (dst : Option Nat) (t : Nat) (x i : Operand) : HM Unit := zV (opnd x) >>= fun tx => ZS tx >>= fun vx => zV (opnd i) >>= fun ti => ZS ti >>= fun vi =>
 match vx, vi with
 | .agg fs, .atom (.int _ j) =>
  match z6u tt t with
  | some (m, e) => z0e (fs[j.toNat]?) >>= fun y => ud (0 ≤ j ∧ j < (m : Int) ∧ vW tt e y = true ∧ y.isD = true ∧ (fs.take j.toNat).all (fun z => z.size == y.size) = true) (zV (wrT n dst (.d y)))
  | none => zH
 | _, _ => zH
theorem z4G (tt : TT) (n : Fr) (dst : Option Nat) (t : Nat) (x i : Operand) : Snd (indexO tt n dst t x i) (z3a tt n dst t x i) := by
 refine ze (zi _) fun tx => ze (vu _) fun vx => ze (zi _) fun ti => ze (vu _) fun vi => ?_
 have main : ∀ fs k j, vx = .agg fs → vi = .atom (.int k j) → Snd (match vx, vi with
   | .agg fs, .atom (.int _ j) =>
    match z6u tt t with
    | some (m, e) => match fs[j.toNat]? with
     | some y => if 0 ≤ j ∧ j < (m : Int) ∧ vW tt e y = true ∧ y.isD = true ∧ (fs.take j.toNat).all (fun z => z.size == y.size) = true then wrT n dst (.d y) else zl
     | none => zl
    | none => zl
   | _, _ => zl) (match vx, vi with
   | .agg fs, .atom (.int _ j) =>
    match z6u tt t with
    | some (m, e) => z0e (fs[j.toNat]?) >>= fun y => ud (0 ≤ j ∧ j < (m : Int) ∧ vW tt e y = true ∧ y.isD = true ∧ (fs.take j.toNat).all (fun z => z.size == y.size) = true) (zV (wrT n dst (.d y)))
    | none => zH
   | _, _ => zH) := by
  rintro fs k j rfl rfl
  simp only
  cases z6u tt t with
  | none => exact zo _
  | some q =>
   obtain ⟨m, e⟩ := q
   simp only
   refine Yz (m' := ofO (fs[j.toNat]?) >>= fun y => if 0 ≤ j ∧ j < (m : Int) ∧ vW tt e y = true ∧ y.isD = true ∧ (fs.take j.toNat).all (fun z => z.size == y.size) = true then wrT n dst (.d y) else zl) ?_ (ze (Ws _) fun _ => xK (zi _))
   generalize fs[j.toNat]? = z
   cases z with
   | none => rfl
   | some y => rw [z4S, zU]
 cases vx with
 | agg fs =>
  cases vi with
  | atom v =>
   cases v with
   | int k j => exact main _ _ _ rfl rfl
   | _ => exact zo _
  | _ => exact zo _
 | _ => exact zo _
def zdT (hT : xG P tt) (d : Nat) : XH P :=
 xAt P (z9B d) (fun n o b => indexO tt n o.dst b.1 b.2.1 b.2.2) (fun n o b => z3a tt n o.dst b.1 b.2.1 b.2.2)
  (by
   intro C S Fp st a w o b hp h u R U e
   unfold z9B at hp
   split at hp
   ·rename_i ho; cases UE hp; exact z0W hT h ho e
   ·cases hp)
  (fun n o b => Loc.indexO _ _ _ _ _ _) (fun n o b => z4G _ _ _ _ _ _)
instance (k : IntKind) : zbi (K := Int) (eI k) := ⟨fun x y => by
 simp only [eI, Xk, V9, Option.map_some, Option.some.injEq, zK, List.headD_cons, Value.int.injEq, true_and, beq_iff_eq]⟩
def Zk (sz c : Nat) (es : List A) (S : zj) (h : Array Obj) (v : Value) (F : List Nat) : Prop :=
 (∀ x ∈ es, x.size = sz) ∧ es.length ≤ c ∧ c ≤ maxLen ∧ ∃ b arr ty l, v = .slice (some ⟨b, 0, none⟩) es.length c ∧ h[b]? = some (.cells arr ty (0, 0)) ∧ c * sz ≤ arr.size ∧ arr.toList.take (es.length * sz) = l ∧ ya S es l ∧ F = [b] ∧ ∀ o, S b o = none
def Kr (sz c : Nat) (es : List A) : z0h := {
 holds := Zk sz c es
 one := by rintro S h v F ⟨_, _, _, b, arr, ty, l, rfl, _⟩; rfl
 frame := by
  rintro S S' h h' v F hS hF ⟨h1, h2, h3, b, arr, ty, l, rfl, k1, k2, k3, k4, rfl, k6⟩
  obtain ⟨f1, f2⟩ := hF b (by simp)
  exact ⟨h1, h2, h3, b, arr, ty, l, rfl, by rw [f1]; exact k1, k2, k3, k4.mono hS, rfl, f2⟩
 own := by
  rintro S h v F ⟨h1, h2, h3, b, arr, ty, l, rfl, k1, k2, k3, k4, rfl, k6⟩ k hk
  rw [List.mem_singleton] at hk
  subst hk
  exact ⟨(Array.getElem?_eq_some_iff.1 k1).1, k6⟩
 idx := 0 }
def z44 (sz c : Nat) (f : α → A) (l : List α) : A := .opq (Kr sz c (l.map f)).q
theorem z7D {t : Bool}  (hd : A.areD es = true) {b c : Nat}  (q : zG S h (.osl sz t es) [.slice (some ⟨b, 0, none⟩) es.length c] F) : Zk sz c es S h (.slice (some ⟨b, 0, none⟩) es.length c) F := by
 simp only [zG] at q
 obtain ⟨p, c', e, t1, t2, t3, t4, t5⟩ := q
 simp only [List.cons.injEq, Value.slice.injEq, and_true, true_and] at e
 obtain ⟨rfl, rfl⟩ := e
 rcases t5 with ⟨_, _, e, _⟩ | ⟨b', arr, ty, l, F', e, k1, k2, k3, k4, rfl, k6⟩
 ·cases e
 ·cases e
  obtain ⟨r1, rfl⟩ := k4.areD hd
  exact ⟨t4, t2, t3, b, arr, ty, l, rfl, k1, k2, k3, r1, rfl, k6⟩
theorem z86 (q : Zk sz es.length es S h v F) : zG S h (.osl sz true es) [v] F := by
 obtain ⟨h1, h2, h3, b, arr, ty, l, rfl, k1, k2, k3, k4, rfl, k6⟩ := q
 simp only [zG]
 exact ⟨_, _, rfl, fun _ => rfl, h2, h3, h1, .inr ⟨b, arr, ty, l, [], rfl, k1, k2, k3, k4.concs h, rfl, k6⟩⟩
section
variable {C : Ctx} {S : zj} {Fp : Nat → List Nat} {X : List Nat} {st : St} {a : Act} {w : World}
theorem z6q {sz c : Nat}    (q : (xj S (.opq (Kr sz c es).q) v ∧ F = []) ∨ ∃ cs, zG S w.heap (.opq (Kr sz c es).q) cs F ∧ F.Nodup ∧ v = zK (.opq (Kr sz c es).q) cs) : Zk sz c es S w.heap v F ∧ F.Nodup := by
 rcases q with ⟨q, _⟩ | ⟨cs, q1, q2, q3⟩
 ·simp only [xj, wB, Rep, false_and, exists_false] at q
 ·simp only [zG] at q1
  obtain ⟨u, rfl, q1⟩ := q1
  exact ⟨by rw [q3]; exact q1, q2⟩
theorem z1a {sz c : Nat}     (q : Zk sz c es S h v F) : zG S h (.opq (Kr sz c es).q) [v] F := by
 simp only [zG]; exact ⟨v, rfl, q⟩
def mkcO (tt : TT) (n : Fr) (dst : Option Nat) (t sz : Nat) (l c : Operand) : SM Unit := do
 let tl ← opnd l
 let vl ← val tl
 let tc ← opnd c
 let vc ← val tc
 match vl, vc with
 | .atom (.int _ x), .atom (.int _ y) => if x = 0 ∧ 0 ≤ y ∧ y ≤ lim ∧ Ji tt t sz = true then wrT n dst (.own (.opq (Kr sz y.toNat []).q)) else zl
 | _, _ => zl
def zdq (tt : TT) (n : Fr) (dst : Option Nat) (t sz : Nat) (l c : Operand) : HM Unit := zV (opnd l) >>= fun tl => ZS tl >>= fun vl => zV (opnd c) >>= fun tc => ZS tc >>= fun vc =>
 match vl, vc with
 | .atom (.int _ x), .atom (.int _ y) => ud (x = 0 ∧ 0 ≤ y ∧ y ≤ lim ∧ Ji tt t sz = true) (zV (wrT n dst (.own (.opq (Kr sz y.toNat []).q))))
 | _, _ => zH
theorem zbC (tt : TT) (n : Fr) (dst : Option Nat) (t sz : Nat) (l c : Operand) : Snd (mkcO tt n dst t sz l c) (zdq tt n dst t sz l c) := by
 refine ze (zi _) fun _ => ze (vu _) fun vl => ze (zi _) fun _ => ze (vu _) fun vc => ?_
 split
 ·exact xK (zi _)
 ·exact zo _
theorem Loc.mkcO (tt : TT) (n : Fr) (dst : Option Nat) (t sz : Nat) (l c : Operand) : Loc (mkcO tt n dst t sz l c) := by
 unfold Go.Own.mkcO
 refine Loc.bind (Loc.opnd _) fun _ => Loc.bind (Loc.val _) fun _ => Loc.bind (Loc.opnd _) fun _ => Loc.bind (Loc.val _) fun _ => ?_
 split
 ·exact Loc.ite (Loc.wrT _ _ _) Loc.fail
 ·exact Loc.fail
theorem z9q {P : Program}  (hT : xG P tt) (h : Sim C S Fp [] st a w)  {t sz : Nat} {l c : Operand} (ho : o.op = .makeSlice t l c)    (e : mkcO tt C.n o.dst t sz l c st = some (u, R, U)) : wZ P C o a w (zc U st) := by
 unfold mkcO at e
 obtain ⟨tl, R1, U1, R2, U2, h1, e1, rfl, rfl⟩ := bind_some e
 obtain ⟨rfl, hl⟩ := zz h h1
 obtain ⟨vl, R3, U3, R4, U4, h3, e2, rfl, rfl⟩ := bind_some e1
 obtain ⟨rfl, ql⟩ := xP h hl h3
 obtain ⟨tc, R5, U5, R6, U6, h5, e3, rfl, rfl⟩ := bind_some e2
 obtain ⟨rfl, hc⟩ := zz h h5
 obtain ⟨vc, R7, U7, R8, U8, h7, e4, rfl, rfl⟩ := bind_some e3
 obtain ⟨rfl, qc⟩ := xP h hc h7
 simp only [zc, List.nil_append] at e4 ⊢
 split at e4
 ·rename_i k1 x k2 y
  obtain ⟨ex, _⟩ := zp.1 ql
  obtain ⟨ey, _⟩ := zp.1 qc
  have hq := z6h e4
  clear e4
  obtain ⟨⟨rfl, c2, c3, c4⟩, e4⟩ := hq
  unfold Ji at c4
  cases ht : tt t with
  | none => simp only [ht] at c4; cases c4
  | some it =>
   obtain ⟨kd, a1, a2, a3, a4⟩ := it
   cases kd with
   | slice el =>
    simp only [ht] at c4
    have hel : P.underlying t = some (.slice el) := (hT _ _ ht).kind
    cases hi : tt el with
    | none => simp only [hi] at c4; cases c4
    | some i =>
     simp only [hi, Bool.and_eq_true, beq_iff_eq, decide_eq_true_eq] at c4
     obtain ⟨⟨⟨rfl, m2⟩, m3⟩, m4⟩ := c4
     obtain ⟨f, f1, f2, f3, f4⟩ := (hT _ _ hi).info
     obtain ⟨z, hz⟩ := Option.isSome_iff_exists.1 m4
     obtain ⟨zv, v1, v2, v3⟩ := f4 z hz
     have hlim : y ≤ 4294967296 := by simpa [lim] using c3
     have hbytes : (f.bytes : Int) * y ≤ 281474976710656 := by
      rw [f3]
      have h1 : (i.bytes : Int) ≤ 4096 := by omega
      have h2 : (i.bytes : Int) * y ≤ 4096 * 4294967296 := Int.mul_le_mul h1 hlim (by omega) (by omega)
      omega
     have hrun := run_make (P := P) w t el f zv hel f1 v1 k1 k2 0 y (by omega) c2 hbytes (by omega)
     have hzs : zv.cells.size = i.size := by
      have := (v3 (fun _ _ => none) #[]).len
      rw [v2] at this
      simpa using this
     rw [f2, ← hzs] at hrun
     obtain ⟨k1', k2', k3'⟩ := QJ (F := []) (es := []) (arr := madeCells zv.cells (y.toNat * zv.cells.size)) (l := []) (by simpa using h)
      (by simp [zJ]) (by simp) el (sz := i.size) (c := y.toNat) (t := false) (by intro hd; cases hd) (by simp) (by unfold maxLen; omega) (by simp) (by rw [size_madeCells, hzs]) (by simp) _ rfl
     obtain ⟨Fp'', hs⟩ := j8 k1' e4 (z1a (z7D (by simp [A.areD]) k2')) k3'
     refine zn ?_ hs
     simp only [execOp, ho, ex, ey, Sem.run_bind, hrun, Result.andThen_ok, Sem.run_pure]
     simp [zK]
   | _ => simp only [ht] at c4; cases c4
 ·exact (z6 e4).elim
theorem z1H {P : Program} {t ty e : TypeId}  (ht : P.underlying t = some (.slice e)) (hi : P.info? e = some f)
    {F : List Nat} (h : Sim C S Fp (F ++ []) st a w) {c : Nat} {es ys : List A} {v : Value} (hc : Zk f.size c es S w.heap v F) (hFn : F.Nodup)
    {p : Option Addr} {d : Nat} {news : List Value} (hr : ya S ys news) (hsz2 : ∀ x ∈ ys, x.size = f.size) (hsrc : (ys = [] ∧ news = []) ∨ ∃ ad, p = some ad ∧ ∀ j u, news[j]? = some u → w.cell? (ad.add j) = some u)
    (hroom : es.length + ys.length ≤ c) :
    ∃ v' w', (Builtin.append_ #[t, t] ty #[v, .slice p ys.length d]).run P w = .ok v' w' ∧ ∃ F', Sim C S Fp (F' ++ []) st a w' ∧ F'.Nodup ∧ Zk f.size c (es ++ ys) S w'.heap v' F' := by
  have hc0 := hc
  obtain ⟨t4, t2, t3, b, arr, bty, l, rfl, k1, k2, k3, k4, rfl, k6⟩ := hc
  by_cases hy0 : ys = []
  · subst hy0
    simp only [ya] at hr
    subst hr
    exact ⟨_, w, jz ht hi _ p es.length c d t2 w, _, h, hFn, by simpa using hc0⟩
  · have hpos : 0 < ys.length := List.length_pos_iff.2 hy0
    rcases hsrc with ⟨hy, _⟩ | ⟨ad, rfl, hnews⟩
    · exact absurd hy hy0
    have hl2 : news.length = ys.length * f.size := by rw [hr.len, A.sizes_const hsz2]
    have hl1 : l.length = es.length * f.size := by rw [k4.len, A.sizes_const t4]
    have hm := Nat.mul_le_mul_right f.size hroom
    rw [Nat.add_mul] at hm
    have hfit : 0 + es.length * f.size + news.length ≤ arr.size := by omega
    have hrun := YJ (P := P) (ty := ty) ht hi w b 0 es.length c arr k1 ad ys.length d news hl2 hnews (fun u hu => hr.one u hu) hroom hfit
    let w' := w.setRow b (kq arr (0 + es.length * f.size) news)
    have hheap : ∀ k, k ≠ b → w'.heap[k]? = w.heap[k]? := fun k hk => setRow_other w b k _ hk
    have hheapb : w'.heap[b]? = some (.cells (kq arr (0 + es.length * f.size) news) bty (0, 0)) := setRow_heap w b arr _ bty (0, 0) k1
    have hbF : ∀ t', b ∉ Fp t' := fun t' => h.xd t' b (by simp)
    have hbase : C.M b := h.xb b (by simp)
    refine ⟨_, w', hrun, [b], ?_, by simp, ?_⟩
    · refine h.mem (h.below.trans ⟨rfl, rfl, rfl, Nat.le_refl _, by simp [w'], fun k hk => hheap k (fun e => hk (e ▸ hbase))⟩) (fun _ _ _ h => h) ?_ h.sbase (fun t' k hk => ⟨hheap k (by rintro rfl; exact hbF t' hk), (h.free t' k hk).2.1⟩) (by simp) (by simpa using h.xd) (by simpa using h.xb)
      intro b' o' v hs
      rw [xe (h := w.heap) (h' := w'.heap) (hheap b' (by rintro rfl; rw [k6] at hs; cases hs))]
      exact h.still b' o' v hs
    · refine ⟨?_, by rw [List.length_append]; exact hroom, t3, b, kq arr (0 + es.length * f.size) news, bty, l ++ news, by rw [List.length_append], hheapb, by simp [k2], ?_, k4.append hr, rfl, k6⟩
      · intro x hx
        rcases List.mem_append.1 hx with h | h
        · exact t4 x h
        · exact hsz2 x h
      · apply List.ext_getElem?
        intro k
        rw [List.getElem?_take, Array.getElem?_toList, vn, List.length_append, Nat.add_mul]
        by_cases hk : k < es.length * f.size
        · rw [if_pos (by omega), if_neg (by omega), List.getElem?_append_left (by omega), ← k3, List.getElem?_take, if_pos hk, Array.getElem?_toList]
          cases arr[k]? <;> rfl
        · by_cases hk2 : k < es.length * f.size + ys.length * f.size
          · have ej : k - (0 + es.length * f.size) = k - l.length := by omega
            rw [if_pos hk2, if_pos (by omega), List.getElem?_append_right (by omega), ej, Array.getElem?_eq_getElem (show k < arr.size by omega), List.getElem?_eq_getElem (show k - l.length < news.length by omega)]
            rfl
          · rw [if_neg hk2, List.getElem?_eq_none (by rw [List.length_append]; omega)]
open Classical in
def capA0 (tt : TT) (n : Fr) (dst : Option Nat) (t sz c : Nat) (es : List A) (s x : Operand) : SM Unit := do
 let ts ← opnd s
 let tx ← opnd x
 let y ← peek tx
 match y with
 | .osl s' _ ys => if s' = sz ∧ A.areD ys = true ∧ Ji tt t sz = true then (do
   let z ← take ts
   if z = .opq (Kr sz c es).q ∧ es.length + ys.length ≤ c then wrT n dst (.own (.opq (Kr sz c (es ++ ys)).q)) else zl) else zl
 | _ => zl
def z9Y (tt : TT) (n : Fr) (dst : Option Nat) (t sz c : Nat) (es es' : List A) (s x : Operand) : HM Unit := zV (opnd s) >>= fun ts => zV (opnd x) >>= fun tx => UD tx >>= fun y =>
 match y with
 | .osl s' _ ys => ud (s' = sz ∧ A.areD ys = true ∧ Ji tt t sz = true) (Qu ts >>= fun z => ud (z = .opq (Kr sz c es).q ∧ es.length + ys.length ≤ c) (ud (es ++ ys = es') (zV (wrT n dst (.own (.opq (Kr sz c es').q))))))
 | _ => zH
open Classical in
theorem z95 (tt : TT) (n : Fr) (dst : Option Nat) (t sz c : Nat) (es es' : List A) (s x : Operand) : Snd (capA0 tt n dst t sz c es s x) (z9Y tt n dst t sz c es es' s x) := by
 refine ze (zi _) fun ts => ze (zi _) fun tx => ze (Xt _) fun y => ?_
 cases y with
 | osl s' tg ys => exact xK (ze (Wr _) fun z => xK (ZX fun e => by rw [e]; exact zi _))
 | _ => exact zo _
open Classical in
theorem Loc.capA0 (tt : TT) (n : Fr) (dst : Option Nat) (t sz c : Nat) (es : List A) (s x : Operand) : Loc (capA0 tt n dst t sz c es s x) := by
 unfold Go.Own.capA0
 refine Loc.bind (Loc.opnd _) fun _ => Loc.bind (Loc.opnd _) fun _ => Loc.bind (Loc.peek _) fun y => ?_
 split
 ·exact Loc.ite (Loc.bind (Loc.take _) fun z => Loc.ite (Loc.wrT _ _ _) Loc.fail) Loc.fail
 ·exact Loc.fail
open Classical in
theorem z87 (hT : xG P tt) (h : Sim C S Fp [] st a w)  {t sz c : Nat}  {s x : Operand} (ho : o.op = .call ⟨.builtin .append, ⟨[s, x]⟩, ⟨[t, t]⟩⟩)    (e0 : capA0 tt C.n o.dst t sz c es s x st = some (u, R, U)) : wZ P C o a w (zc U st) := by
 unfold capA0 at e0
 obtain ⟨ts, R1, U1, R2, U2, h1, e1, rfl, rfl⟩ := bind_some e0
 obtain ⟨rfl, hs⟩ := zz h h1
 obtain ⟨tx, R3, U3, R4, U4, h3, e2, rfl, rfl⟩ := bind_some e1
 obtain ⟨rfl, hx⟩ := zz h h3
 obtain ⟨y, R5, U5, R6, U6, h5, e3, rfl, rfl⟩ := bind_some e2
 obtain ⟨rfl, q⟩ := Zb h hx h5
 simp only [zc, List.nil_append] at e3 ⊢
 cases y with
 | osl s' tg ys =>
  have hq := z6h e3
  clear e3
  obtain ⟨⟨rfl, c2, c3⟩, e3⟩ := hq
  obtain ⟨z, R7, U7, R8, U8, h7, e4, rfl, rfl⟩ := bind_some e3
  obtain ⟨Fp', F, g1, g2⟩ := ZU h hs h7
  rw [zu]
  have hq := z6h e4
  clear e4
  obtain ⟨⟨rfl, d2⟩, e4⟩ := hq
  unfold Ji at c3
  cases ht : tt t with
  | none => simp only [ht] at c3; cases c3
  | some it =>
   obtain ⟨kd, a1, a2, a3, a4⟩ := it
   cases kd with
   | slice el =>
    simp only [ht] at c3
    have hel : P.underlying t = some (.slice el) := (hT _ _ ht).kind
    cases hi : tt el with
    | none => simp only [hi] at c3; cases c3
    | some i =>
     simp only [hi, Bool.and_eq_true, beq_iff_eq, decide_eq_true_eq] at c3
     obtain ⟨⟨⟨rfl, k2⟩, k3⟩, k4⟩ := c3
     obtain ⟨f, f1, f2, f3, f4⟩ := (hT _ _ hi).info
     obtain ⟨p, d, news, ev, r1, r2, r3⟩ := Vr h (.inr ⟨tg, rfl⟩) c2 q
     obtain ⟨m1, m2⟩ := z6q g2
     rw [← f2] at m1 r2 e4
     obtain ⟨v, w', hrun, F', n1, n2, n3⟩ := z1H (ty := o.type) hel f1 g1 m1 m2 (p := p) (d := d) r1 r2 r3 d2
     obtain ⟨Fp'', hs'⟩ := j8 n1 e4 (z1a n3) n2
     refine zn ?_ hs'
     simp [execOp, ho, resolve, invoke, builtin, ev, hrun, zK]
   | _ => simp only [ht] at c3; cases c3
 | _ => exact (z6 e3).elim
open Classical in
def z5w (n : Fr) (dst : Option Nat) (sz c : Nat) (es : List A) (x : Operand) : SM Unit := do
 let tx ← opnd x
 let z ← take tx
 if z = .opq (Kr sz c es).q ∧ es.length = c then wrT n dst (.own (.osl sz true es)) else zl
def z9W (n : Fr) (dst : Option Nat) (sz c : Nat) (es : List A) (x : Operand) : HM Unit := zV (opnd x) >>= fun tx => Qu tx >>= fun z =>
 ud (z = .opq (Kr sz c es).q ∧ es.length = c) (zV (wrT n dst (.own (.osl sz true es))))
open Classical in
theorem z94 (n : Fr) (dst : Option Nat) (sz c : Nat) (es : List A) (x : Operand) : Snd (z5w n dst sz c es x) (z9W n dst sz c es x) :=
 ze (zi _) fun tx => ze (Wr _) fun z => xK (zi _)
open Classical in
theorem z85 (h : Sim C S Fp [] st a w)  {sz c : Nat}   (ho : o.op = .assign x)    (e0 : z5w C.n o.dst sz c es x st = some (u, R, U)) : wZ P C o a w (zc U st) := by
 unfold z5w at e0
 obtain ⟨tx, R1, U1, R2, U2, h1, e1, rfl, rfl⟩ := bind_some e0
 obtain ⟨rfl, hx⟩ := zz h h1
 simp only [zc, List.nil_append] at e1 ⊢
 obtain ⟨z, R3, U3, R4, U4, h3, e2, rfl, rfl⟩ := bind_some e1
 obtain ⟨Fp', F, g1, g2⟩ := ZU h hx h3
 rw [zu]
 have hq := z6h e2
 clear e2
 obtain ⟨⟨rfl, rfl⟩, e2⟩ := hq
 obtain ⟨m1, m2⟩ := z6q g2
 obtain ⟨Fp'', hs'⟩ := j8 g1 e2 (z86 m1) m2
 refine zn ?_ hs'
 simp [execOp, ho, zK]
end
def z9A (d : Nat) (o : Oper) : Option (Nat × Operand × Operand) := match o.op with | .makeSlice t l c => if o.dst = some d then some (t, l, c) else none | _ => none
def xCm (hT : xG P tt) (d sz : Nat) : XH P :=
 xAt P (z9A d) (fun n o b => mkcO tt n o.dst b.1 sz b.2.1 b.2.2) (fun n o b => zdq tt n o.dst b.1 sz b.2.1 b.2.2)
  (by
   intro C S Fp st a w o b hp h u R U e
   unfold z9A at hp
   split at hp
   ·rename_i ho; cases UE hp; exact z9q hT h ho e
   ·cases hp)
  (fun n o b => Loc.mkcO _ _ _ _ _ _ _) (fun n o b => zbC _ _ _ _ _ _ _)
def xCa (hT : xG P tt) (d sz c : Nat) (es es' : List A) : XH P :=
 xAt P (zbd d) (fun n o b => capA0 tt n o.dst b.1 sz c es b.2.1 b.2.2) (fun n o b => z9Y tt n o.dst b.1 sz c es es' b.2.1 b.2.2)
  (by
   intro C S Fp st a w o b hp h u R U e
   unfold zbd at hp
   split at hp
   ·rename_i ho
    replace hp := UE hp
    split at hp
    ·rename_i ht; subst ht; cases hp; exact z87 hT h ho e
    ·cases hp
   ·cases hp)
  (fun n o b => Loc.capA0 _ _ _ _ _ _ _ _ _) (fun n o b => z95 _ _ _ _ _ _ _ _ _ _)
def z9E (d : Nat) (o : Oper) : Option Operand := match o.op with | .assign x => if o.dst = some d then some x else none | _ => none
open Classical in
def xCe (P : Program) (d sz c : Nat) (es : List A) : XH P :=
 xAt P (z9E d) (fun n o b => z5w n o.dst sz c es b) (fun n o b => z9W n o.dst sz c es b)
  (by
   intro C S Fp st a w o b hp h u R U e
   unfold z9E at hp
   split at hp
   ·rename_i ho; cases UE hp; exact z85 h ho e
   ·cases hp)
  (fun n o b => Loc.bind (Loc.opnd _) fun _ => Loc.bind (Loc.take _) fun _ => Loc.ite (Loc.wrT _ _ _) Loc.fail) (fun n o b => z94 _ _ _ _ _ _)
theorem zdI {α β : Type} (f : α → A) (g : β → A) {l : List α} {m : List β}  (h : l.length + m.length ≤ k) : (l.map f).length + (m.map g).length ≤ k := by simpa using h
theorem zdJ (f : α → A) {l : List α}  (h : l.length = k) : (l.map f).length = k := by simpa using h
theorem zdH {c : Int} (h : 0 ≤ c ∧ c ≤ 4294967296) : (0 : Int) = 0 ∧ 0 ≤ c ∧ c ≤ ((lim : Nat) : Int) ∧ true = true := ⟨rfl, h.1, h.2, rfl⟩
end Go.Own
end
