/- -/
import Derived.Test.YtkalhfmehmcofaaGreatPartC
import Derived.Laws.BytesString
noncomputable section
set_option linter.unusedVariables false
set_option linter.unusedSimpArgs false
namespace Go.Own
def z1J (i : TI) : Option A :=
 match i.zero with
 | some z => if z.live = true then some z.shut.loose else none
 | none => none
theorem z3e {i : TI} {z' : A} (h : z1J i = some z') : ∃ z, i.zero = some z ∧ z.live = true ∧ z' = z.shut.loose := by
 unfold z1J at h
 split at h
 ·rename_i z hz
  split at h
  ·rename_i hl; cases h; exact ⟨z, hz, hl, rfl⟩
  ·cases h
 ·cases h
theorem Jr (z : Array Value) (n : Nat) : (Builtin.zeroCells z n).toList = (List.replicate n z.toList).flatten := by
 apply List.ext_getElem?
 intro k
 rw [z0h, Array.length_toList]
 simp only [Builtin.zeroCells, Array.toList_map, Array.toList_range, List.getElem?_map]
 by_cases hk : k < n * z.size
 ·rw [if_pos hk, List.getElem?_range hk, Option.map_some]
  have hz : 0 < z.size := by
   rcases Nat.eq_zero_or_pos z.size with h0 | h0
   ·rw [h0] at hk; simp at hk
   ·exact h0
  have hmod : k % z.size < z.size := Nat.mod_lt _ hz
  rw [Array.getElem?_toList, Array.getElem?_eq_getElem hmod, getElem!_pos z _ hmod]
 ·rw [if_neg hk, List.getElem?_eq_none (by simpa using hk), Option.map_none]
variable {S : zf}{sz : Nat}
theorem z7P : ∀ {xs : List A} {cs : List Value} (_ : zV S xs cs) (_ : ∀ x ∈ xs, x.size = sz) (l : Nat), zV S (xs.take l) (cs.take (l * sz))
 | [], cs, h, _, l => by simp [zV] at h; subst h; simp [zV]
 | x :: xs, cs, h, hs, 0 => by simp [zV]
 | x :: xs, cs, h, hs, l + 1 => by
  simp [zV] at h
  obtain ⟨c1, c2, rfl, h1, h2⟩ := h
  have hl : c1.length = sz := by rw [h1.len]; exact hs x (by simp)
  rw [List.take_succ_cons, Nat.succ_mul, Nat.add_comm, ← hl, List.take_length_add_append]
  simp [zV]
  rw [hl]
  exact ⟨c1, _, rfl, h1, z7P h2 (fun y hy => hs y (by simp [hy])) l⟩
theorem z4b {arr : Array Value} {o : Nat} {zs : List Value} (h : o + zs.length ≤ arr.size) : (ZA arr o zs).toList.take (o + zs.length) = arr.toList.take o ++ zs := by
 rw [← wg h]
 have h1 : (arr.toList.take o).length = o := by simp; omega
 simp only []
 rw [show o + zs.length = (arr.toList.take o ++ zs).length by simp; omega, List.take_left]
variable {P : Program}{U : List (Nat × Ent)}{tt : TT}{R : List Nat}{v : Value}{o : Oper}{u : Unit}{x : Operand}
section
variable {C : Ctx} {S : zf} {Fp : Nat → List Nat} {st : St} {a : Act} {w : World}
def vcK (tt : TT) (n : Fr) (dst : Option Nat) (ty sz r : Nat) (l : Int) (e : Ent) : SM Unit :=
 match e.t with
 | .own (.osl sz' tg es) =>
  match tt ty with
  | some ⟨.slice el, _, _, _, _⟩ =>
   match tt el with
   | some i =>
    match z1J i with
    | some z => if sz' = sz ∧ i.size = sz ∧ 0 ≤ l ∧ l.toNat ≤ es.length ∧ A.areD es = true then
      wrE r ⟨.own (.osl sz tg (es.take l.toNat ++ List.replicate (es.length - l.toNat) z)), e.er, e.ec + 1⟩ >>= fun _ => wrT n dst (.d (.tup []))
     else zm
    | none => zm
   | none => zm
  | _ => zm
 | _ => zm
open Classical in
def vcO (tt : TT) (n : Fr) (dst : Option Nat) (ty sz r : Nat) (v : Value) (l : Int) (x : Operand) : SM Unit := do
 let tx ← opnd x
 let e ← rdE r
 if tx = .d (.atom (Zg sz v l)) ∧ ZW n.pin r = some v then vcK tt n dst ty sz r l e else zm
def vcH (tt : TT) (n : Fr) (dst : Option Nat) (ty sz r : Nat) (v : Value) (l : Int) (x : Operand) : HM Unit := zH (opnd x) >>= fun tx => zH (rdE r) >>= fun e => wy (tx = .d (.atom (Zg sz v l)) ∧ ZW n.pin r = some v)
  (match e.t with
  | .own (.osl sz' tg es) =>
   match tt ty with
   | some ⟨.slice el, _, _, _, _⟩ =>
    match tt el with
    | some i =>
     match z1J i with
     | some z => if sz' = sz ∧ i.size = sz then wy (0 ≤ l ∧ l.toNat ≤ es.length ∧ A.areD es = true)
       (eqL (es.take l.toNat ++ List.replicate (es.length - l.toNat) z) >>= fun zs => zH (wrE r ⟨.own (.osl sz tg zs), e.er, e.ec + 1⟩ >>= fun _ => wrT n dst (.d (.tup []))))
      else zz
     | none => zz
    | none => zz
   | _ => zz
  | _ => zz)
open Classical in
theorem zfG (tt : TT) (n : Fr) (dst : Option Nat) (ty sz r : Nat) (v : Value) (l : Int) (x : Operand) : Snd (vcO tt n dst ty sz r v l x) (vcH tt n dst ty sz r v l x) := by
 refine z8 (ze _) fun tx => z8 (ze _) fun e => ym ?_
 unfold vcK
 cases e.t with
 | own y =>
  cases y with
  | osl sz' tg es =>
   dsimp only
   generalize tt ty = q
   rcases q with _ | ⟨k, a1, a2, a3, a4⟩
   ·exact zl _
   ·cases k with
    | slice el =>
     dsimp only
     generalize tt el = q
     cases q with
     | none => exact zl _
     | some i =>
      dsimp only
      cases z1J i with
      | none => exact zl _
      | some z =>
       refine W6 (fun h1 h2 => ⟨h1.1, h1.2, h2.1, h2.2.1, h2.2.2⟩) ?_
       exact Xe (zL _ fun zs => wrE r ⟨.own (.osl sz tg zs), e.er, e.ec + 1⟩ >>= fun _ => wrT n dst (.d (.tup []))).symm (z8 (z3o _) fun _ => ze _)
    | _ => exact zl _
  | _ => exact zl _
 | _ => exact zl _
open Classical in
theorem Loc.vcO (tt : TT) (n : Fr) (dst : Option Nat) (ty sz r : Nat) (v : Value) (l : Int) (x : Operand) : Loc (vcO tt n dst ty sz r v l x) := by
 unfold Go.Own.vcO
 refine Loc.bind (Loc.opnd _) fun _ => Loc.bind (Loc.rdE _) fun _ => Loc.ite ?_ Loc.fail
 unfold Go.Own.vcK
 split
 ·split
  ·split
   ·split
    ·exact Loc.ite (Loc.bind (Loc.wrE _ _) fun _ => Loc.wrT _ _ _) Loc.fail
    ·exact Loc.fail
   ·exact Loc.fail
  ·exact Loc.fail
 ·exact Loc.fail
theorem zcO (hT : yH P tt) (h : Sim C S Fp [] st a w)  {t sz r : Nat} {v : Value} {l : Int} {x : Operand} (ho : o.op = .call ⟨.builtin .clear, ⟨[x]⟩, ⟨[t]⟩⟩)    (e0 : vcO tt C.n o.dst t sz r v l x st = some (u, R, U)) : xz P C o a w (zb U st) := by
  unfold vcO at e0
  have ⟨tx, _, hx, e1⟩ := bR (zr h) e0
  have ⟨_, e4⟩ := bD e1
  split at e4
  · rename_i hc
    obtain ⟨rfl, c2⟩ := hc
    have hs := h.pin r v (xu c2)
    unfold vcK at e4
    cases ht : (st r).t with
    | own y =>
     cases y with
     | osl sz' tg es =>
      simp only [ht] at e4
      obtain ⟨el, a1, a2, a3, a4, hty⟩ : ∃ el a1 a2 a3 a4, tt t = some ⟨.slice el, a1, a2, a3, a4⟩ := by
        cases hq : tt t with
        | none => simp only [hq] at e4; cases e4
        | some it =>
          have ⟨k, a1, a2, a3, a4⟩ := it
          cases k with
          | slice el => exact ⟨el, a1, a2, a3, a4, rfl⟩
          | _ => simp only [hq] at e4; cases e4
      simp only [hty] at e4
      obtain ⟨i, hi⟩ : ∃ i, tt el = some i := by
        cases hq : tt el with
        | none => simp only [hq] at e4; cases e4
        | some i => exact ⟨i, rfl⟩
      simp only [hi] at e4
      obtain ⟨z', hz'⟩ : ∃ z', z1J i = some z' := by
        cases hq : z1J i with
        | none => simp only [hq] at e4; cases e4
        | some i => exact ⟨i, rfl⟩
      simp only [hz'] at e4
      have hel : P.underlying t = some (.slice el) := (hT _ _ hty).kind
      · · split at e4
          · rename_i hd
            obtain ⟨rfl, d2, d3, d4, d5⟩ := hd
            obtain ⟨z, hz, hlv, rfl⟩ := z3e hz'
            have ⟨f, f1, f2, f3, f4⟩ := (hT _ _ hi).info
            have ⟨zv, v1, v2, v3⟩ := f4 z hz
            have hzr : Rep S z.shut.loose zv.cells.toList := ((v3 S w.heap).shut (fun _ _ _ q => q) hlv (by simp)).loose
            have hzl : zv.cells.toList.length = sz' := by rw [((v3 S w.heap).shut (S' := S) (fun _ _ _ q => q) hlv (by simp)).len, A.size_shut, v2, d2]
            have hq := h.ent r
            unfold yf at hq
            simp only [ht] at hq
            have ⟨cs, c1, c3, c4⟩ := hq
            simp only [zw] at c1
            obtain ⟨p, c, rfl, t1, t2, t3, t4, t5⟩ := c1
            have ev : Act.tv a r = .slice p es.length c := c4
            have hvv : v = .slice p es.length c := by rw [← hs, ev]
            have hxv := (zj.1 hx).1
            rw [hvv] at hxv
            obtain ⟨y1, R9, U9, R10, U10, h9, e5, rfl, rfl⟩ := bind_some e4
            cases h9
            have hlen : (es.take l.toNat ++ List.replicate (es.length - l.toNat) z.shut.loose).length = es.length := by simp; omega
            have hsz : ∀ y ∈ es.take l.toNat ++ List.replicate (es.length - l.toNat) z.shut.loose, y.size = sz' := by
              intro y hy
              rcases List.mem_append.1 hy with q | q
              · exact t4 y (List.mem_of_mem_take q)
              · rw [List.eq_of_mem_replicate q, ← hzr.len, hzl]
            have hreps : ∀ n, zV S (List.replicate n z.shut.loose) (List.replicate n zv.cells.toList).flatten := by
              intro n
              induction n with
              | zero => simp [zV]
              | succ n ih => simp only [List.replicate_succ, List.flatten_cons, zV]; exact ⟨_, _, rfl, hzr, ih⟩
            obtain ⟨w', F', hrun, hkept, hst, hfr, hconc, hF'⟩ : ∃ w' F', (Builtin.clear_ #[t] o.type #[a.eval x]).run P w = .ok (.tuple #[]) w' ∧ uG C.M w w' ∧ (∀ b o u, S b o = some u → zP w'.heap b o = some u) ∧ (∀ k, k ∉ Fp r → w'.heap[k]? = w.heap[k]?) ∧
                zw S w'.heap (.osl sz' tg (es.take l.toNat ++ List.replicate (es.length - l.toNat) z.shut.loose)) [.slice p es.length c] F' ∧ F' = Fp r := by
              by_cases hn : es.length - l.toNat = 0
              · refine ⟨w, Fp r, ?_, uG.refl _ _, h.still.cell, fun _ _ => rfl, ?_, rfl⟩
                · rw [hxv]
                  simp only [Zg]
                  rw [hn]
                  cases hp : (if c = l.toNat then p else p.map (·.add (l.toNat * sz'))) with
                  | _ => simp [Builtin.clear_, run_underlying hel]
                · have : es.take l.toNat ++ List.replicate (es.length - l.toNat) z.shut.loose = es := by rw [hn, List.replicate_zero, List.append_nil, List.take_of_length_le (by omega)]
                  rw [this]
                  simp only [zw]
                  exact ⟨p, c, rfl, t1, t2, t3, t4, t5⟩
              · rcases t5 with ⟨rfl, _⟩ | ⟨b, arr, ty, cl, F1, rfl, k1, k2, k3, k4, k5, k6⟩
                · simp at hn
                obtain ⟨hr, rfl⟩ := k4.areD d5
                let zs := (List.replicate (es.length - l.toNat) zv.cells.toList).flatten
                have hzs : zs.length = (es.length - l.toNat) * sz' := by
                  show (List.replicate _ _).flatten.length = _
                  rw [List.length_flatten]
                  simp [hzl]
                have hfit : l.toNat * sz' + zs.length ≤ arr.size := by
                  rw [hzs, ← Nat.add_mul]
                  refine Nat.le_trans (Nat.mul_le_mul_right _ ?_) k2
                  omega
                let w' := w.setRow b (ZA arr (l.toNat * sz') zs)
                have hheap : ∀ k, k ≠ b → w'.heap[k]? = w.heap[k]? := fun k hk => setRow_other w b k _ hk
                have hheapb : w'.heap[b]? = some (.cells (ZA arr (l.toNat * sz') zs) ty (0, 0)) := setRow_heap w b arr _ ty (0, 0) k1
                have hb : b ∈ Fp r := by rw [k5]; simp
                have h1c : ∀ u ∈ zs, u.oneCell' = true := by
                  intro u hu
                  have ⟨m, hm, hu⟩ := List.mem_flatten.1 hu
                  rw [List.eq_of_mem_replicate hm] at hu
                  exact hzr.one u hu
                refine ⟨w', Fp r, ?_, ⟨rfl, rfl, rfl, Nat.le_refl _, by simp [w'], fun k hk => hheap k (fun e => hk (e ▸ h.base r b hb))⟩, ?_, fun k hk => hheap k (fun e => hk (e ▸ hb)), ?_, rfl⟩
                · have hst := run_storeCells_at P b (l.toNat * sz') ty zs 0 arr w k1 (by simpa using hfit) h1c
                  simp only [Nat.add_zero] at hst
                  rw [wg hfit] at hst
                  have hz0 : (zeroValue el).run P w = .ok zv w := by simp [zeroValue, typeInfo, f1, v1]
                  rw [hxv]
                  have hcl : ¬ c = l.toNat := by omega
                  simp only [Zg, if_neg hcl, Option.map_some, Addr.add_lit, Nat.zero_add]
                  obtain ⟨m, hm⟩ : ∃ m, es.length - l.toNat = m + 1 := ⟨es.length - l.toNat - 1, by omega⟩
                  have hzc : (Builtin.zeroCells zv.cells (m + 1)).toList = zs := by rw [Jr, ← hm]
                  rw [hm]
                  simp [Builtin.clear_, run_underlying hel, hz0, hzc, hst, w']
                · intro b' o'' u hu
                  have hne : b' ≠ b := by rintro rfl; rw [k6] at hu; cases hu
                  rw [yX (h := w.heap) (h' := w'.heap) (hheap b' hne)]
                  exact h.still b' o'' u hu
                · simp only [zw, hlen]
                  refine ⟨_, c, rfl, t1, t2, t3, hsz, .inr ⟨b, _, ty, _, [], rfl, hheapb, by simpa using k2, rfl, ?_, k5, k6⟩⟩
                  have e1 : es.length * sz' = l.toNat * sz' + zs.length := by rw [hzs, ← Nat.add_mul]; congr 1; omega
                  rw [e1, z4b hfit]
                  have e2 : arr.toList.take (l.toNat * sz') = cl.take (l.toNat * sz') := by
                    rw [← k3, List.take_take, Nat.min_eq_left (Nat.mul_le_mul_right _ d4)]
                  rw [e2]
                  exact ((z7P hr t4 _).append (hreps _)).concs _
            subst hF'
            have hs1 : Sim C S (Zj Fp r (Fp r)) [] (upd st r ⟨.own (.osl sz' tg (es.take l.toNat ++ List.replicate (es.length - l.toNat) z.shut.loose)), (st r).er, (st r).ec + 1⟩) a w' := by
              refine h.change r (.own _) _ _ (Fp r) (h.below.trans hkept) (fun _ _ _ q => q) hst h.sbase ?_ ⟨⟨_, hconc, c3, by rw [ev]; simp [zJ]⟩, _, ht⟩ (.inl ⟨_, ht⟩) (Nat.le_refl _) (Nat.lt_succ_self _) ?_ ?_ (by simp) (by simp) (by simp) (by simp)
              · intro t' k htr hk
                exact ⟨hfr k (fun q => htr (h.disj t' r k hk q)), (h.free t' k hk).2.1⟩
              · intro t' k htr hk hk'
                exact htr (h.disj t' r k hk' hk)
              · intro k hk
                exact h.base r k hk
            rw [zn]
            simp only [zb] at e5 ⊢
            have ⟨Fp', hs'⟩ := yk hs1 e5 (x := .d (.tup [])) (v := .tuple #[]) (by simp only [TOk, yi]; exact ⟨[], rfl, trivial⟩)
            refine zi ?_ hs'
            simp [execOp, ho, resolve, invoke, builtin, hrun]
          · cases e4
     | _ => simp only [ht] at e4; cases e4
    | _ => simp only [ht] at e4; cases e4
  · cases e4
end
variable {β : Type}
def xAt (P : Program)  (p : Oper → Option β) (e : Fr → Oper → β → SM Unit) (h : Fr → Oper → β → HM Unit)
  (ok : ∀ (C : Ctx) (S : zf) (Fp : Nat → List Nat) (st : St) (a : Act) (w : World) (o : Oper) (b : β), p o = some b → Sim C S Fp [] st a w → ∀ u R U, e C.n o b st = some (u, R, U) → xz P C o a w (zb U st))
  (loc : ∀ n o b, Loc (e n o b)) (sd : ∀ n o b, Snd (e n o b) (h n o b)) : XH P := {
 e := fun n o => (p o).map (e n o)
 h := fun n o => (p o).map (h n o)
 ok := by
  refine ⟨?_, ?_⟩
  ·intro C S Fp st a w o m u R U e0 h h2
   obtain ⟨b, hp, rfl⟩ := Option.map_eq_some_iff.1 e0
   exact ok C S Fp st a w o b hp h _ _ _ h2
  ·intro n o m e0
   obtain ⟨b, hp, rfl⟩ := Option.map_eq_some_iff.1 e0
   exact fun st st' a R U => loc n o b st st' a R U
 none := by
  intro n o e0
  rw [Option.map_eq_none_iff] at e0 ⊢
  exact e0
 some := by
  intro n o m e0
  obtain ⟨b, hp, rfl⟩ := Option.map_eq_some_iff.1 e0
  exact ⟨_, by rw [hp]; rfl, sd n o b⟩ }
theorem V2 {d : Nat}  {x : Option β} {b : β} (h : (if o.dst = some d then x else none) = some b) : x = some b := by
 split at h
 ·exact h
 ·cases h
def zcq (d : Nat) (o : Oper) : Option (Nat × Operand × Operand) := match o.op with | .slice t x (some lo) none none => if o.dst = some d then some (t, x, lo) else none | _ => none
def xVw (hT : yH P tt) (d r : Nat) (v : Value) : XH P :=
 xAt P (zcq d) (fun n o b => vwO tt n o.dst b.1 r v b.2.1 b.2.2) (fun n o b => vwH tt n o.dst b.1 r v b.2.1 b.2.2)
  (by
   intro C S Fp st a w o b hp h u R U e
   unfold zcq at hp
   split at hp
   ·rename_i ho; cases V2 hp; exact zcL hT h ho e
   ·cases hp)
  (fun n o b => Loc.vwO _ _ _ _ _ _ _ _) (fun n o b => zfD _ _ _ _ _ _ _ _)
def zcr (d t : Nat) (o : Oper) : Option Operand := match o.op with | .call ⟨.builtin .len, ⟨[x]⟩, ⟨[t']⟩⟩ => if o.dst = some d then (if t' = t then some x else none) else none | _ => none
def xVl (hT : yH P tt) (d t sz r : Nat) (v : Value) (l : Int) (hty : wb tt t = true) : XH P :=
 xAt P (zcr d t) (fun n o x => vlO n o.dst sz r v l x) (fun n o x => vlH n o.dst sz r v l x)
  (by
   intro C S Fp st a w o x hp h u R U e
   unfold zcr at hp
   split at hp
   ·rename_i ho
    replace hp := V2 hp
    split at hp
    ·rename_i ht; subst ht; cases hp; exact zcM hT h hty ho e
    ·cases hp
   ·cases hp)
  (fun n o x => Loc.vlO _ _ _ _ _ _ _) (fun n o x => zfE _ _ _ _ _ _ _)
def z83 (d : Nat) (o : Oper) : Option (Nat × Operand × Operand) := match o.op with | .indexAddr t x i => if o.dst = some d then some (t, x, i) else none | _ => none
def xVi (hT : yH P tt) (d sz r : Nat) (v : Value) (l : Int) : XH P :=
 xAt P (z83 d) (fun n o b => viO tt n o.dst b.1 sz r v l b.2.1 b.2.2) (fun n o b => viH tt n o.dst b.1 sz r v l b.2.1 b.2.2)
  (by
   intro C S Fp st a w o b hp h u R U e
   unfold z83 at hp
   split at hp
   ·rename_i ho; cases V2 hp; exact zcN hT h ho e
   ·cases hp)
  (fun n o b => Loc.viO _ _ _ _ _ _ _ _ _ _) (fun n o b => zfF _ _ _ _ _ _ _ _ _ _)
def zeU (s : Nat) (o : Oper) : Option Nat := match o.op with | .call ⟨.builtin .clear, ⟨[.tmp s']⟩, ⟨[t]⟩⟩ => if s' = s then some t else none | _ => none
def xVc (hT : yH P tt) (s sz r : Nat) (v : Value) (l : Int) : XH P :=
 xAt P (zeU s) (fun n o t => vcO tt n o.dst t sz r v l (.tmp s)) (fun n o t => vcH tt n o.dst t sz r v l (.tmp s))
  (by
   intro C S Fp st a w o b hp h u R U e
   unfold zeU at hp
   split at hp
   ·rename_i ho
    split at hp
    ·rename_i hs; subst hs; cases hp; exact zcO hT h ho e
    ·cases hp
   ·cases hp)
  (fun n o b => Loc.vcO _ _ _ _ _ _ _ _ _) (fun n o b => zfG _ _ _ _ _ _ _ _ _)
def clO (tt : TT) (n : Fr) (dst : Option Nat) (t : Nat) (x hi mx : Operand) : SM Unit := do
 let y ← opnd x
 let z ← take y
 match z with
 | .osl sz _ es => if ya tt t = some sz then bound es.length (some hi) >>= fun h => bound 0 (some mx) >>= fun m => if h ≤ m ∧ m ≤ es.length then wrT n dst (.own (.osl sz (m == h) (es.take h))) else zm else zm
 | _ => zm
def clH (tt : TT) (n : Fr) (dst : Option Nat) (t : Nat) (x hi mx : Operand) : HM Unit := zH (opnd x) >>= fun y => z1R y >>= fun z =>
 match z with
 | .osl sz _ es => if ya tt t = some sz then Jj es.length (some hi) >>= fun h => Jj 0 (some mx) >>= fun m => wy (h ≤ m ∧ m ≤ es.length) (eqA (.osl sz (m == h) (es.take h)) >>= fun z => zH (wrT n dst (.own z))) else zz
 | _ => zz
theorem zfV (tt : TT) (n : Fr) (dst : Option Nat) (t : Nat) (x hi mx : Operand) : Snd (clO tt n dst t x hi mx) (clH tt n dst t x hi mx) := by
 refine z8 (ze _) fun y => z8 (JZ _) fun z => ?_
 cases z with
 | osl sz tg es =>
  refine xT (z8 (Vx _ _) fun h => z8 (Vx _ _) fun m => ym ?_) (zl _)
  exact Xe (zL _ fun z => wrT n dst (.own z)).symm (z8 (JJ _) fun _ => ze _)
 | _ => exact zl _
theorem Loc.clO (tt : TT) (n : Fr) (dst : Option Nat) (t : Nat) (x hi mx : Operand) : Loc (clO tt n dst t x hi mx) := by
 unfold Go.Own.clO
 refine Loc.bind (Loc.opnd _) fun _ => Loc.bind (Loc.take _) fun z => ?_
 cases z with
 | osl sz tg es => exact Loc.ite (Loc.bind (Loc.bound _ _) fun _ => Loc.bind (Loc.bound _ _) fun _ => Loc.ite (Loc.wrT _ _ _) Loc.fail) Loc.fail
 | _ => exact Loc.fail
variable {t : Nat}
section
variable {C : Ctx} {S : zf} {Fp : Nat → List Nat} {st : St} {a : Act} {w : World}
theorem zdK {P : Program}  (hT : yH P tt) (h : Sim C S Fp [] st a w)   {x hi mx : Operand} (ho : o.op = .slice t x none (some hi) (some mx))    (e : clO tt C.n o.dst t x hi mx st = some (u, R, U)) : xz P C o a w (zb U st) := by
 unfold clO at e
 have ⟨y, _, hx, e1⟩ := bR (zr h) e
 obtain ⟨z, R3, U3, R4, U4, h3, e2, rfl, rfl⟩ := bind_some e1
 have ⟨Fp', F, g1, g2⟩ := Vq h hx h3
 rw [zn]
 cases z with
 | osl sz tg es =>
  simp only at e2
  split at e2
  ·rename_i hel
   have ⟨hh, _, b2, e3⟩ := bR (Xn g1) e2
   have ⟨m, _, b3, e4⟩ := bR (Xn g1) e3
   split at e4
   ·rename_i hle
    have ⟨hle1, hle2⟩ := hle
    have ⟨el, he, hsz⟩ := yu hT hel w
    obtain ⟨cs, k1, k2, k3⟩ : ∃ cs, zw S w.heap (.osl sz tg es) cs F ∧ F.Nodup ∧ a.eval x = zJ (.osl sz tg es) cs := by
     rcases g2 with ⟨q, _⟩ | q
     ·simp only [yi, xM, Rep, false_and, exists_false] at q
     ·exact q
    simp only [zw] at k1
    obtain ⟨p, c, rfl, t1, t2, t3, t4, t5⟩ := k1
    have ev : a.eval x = .slice p es.length c := k3
    have b3' : VX ((some mx).map a.eval) c m := by
     rcases b3 with ⟨q, _⟩ | ⟨o, k, j, q, q2, q3, q4⟩
     ·cases q
     ·cases q; exact .inr ⟨k, j, by simp [q2], q3, q4⟩
    have b2' : (Option.isSome ((some hi).map a.eval)) = true := rfl
    have hrun := vp (P := P) (w := w) he hsz (p := p) (len := es.length) (c := c) (lo := none) (.inl ⟨rfl, rfl⟩) (Xo b2) b3' (Nat.zero_le _) hle1 (by omega) (fun _ => b2')
    have hp : (if m = 0 then p else p.map (·.add (0 * sz))) = p := by
     split
     ·rfl
     ·cases p <;> simp [Addr.add]
    rw [hp] at hrun
    have hlen : (es.take hh).length = hh := by simp; omega
    have ht4 : ∀ x ∈ es.take hh, x.size = sz := fun x hx => t4 x (List.mem_of_mem_take hx)
    obtain ⟨F2, cs2, m1, m2, m3, m4⟩ : ∃ F2 cs2, zw S w.heap (.osl sz (m == hh) (es.take hh)) cs2 F2 ∧ F2.Nodup ∧ (∀ k ∈ F2, k ∈ F) ∧ zJ (.osl sz (m == hh) (es.take hh)) cs2 = .slice p hh m := by
     rcases t5 with ⟨rfl, rfl, rfl, rfl⟩ | ⟨b, arr, ty, l, F', rfl, e1, e2, e3, e4, rfl, e5⟩
     ·have hm0 : m = 0 := by simpa using hle2
      subst hm0
      have : hh = 0 := by omega
      subst this
      refine ⟨[], [.slice none 0 0], ?_, by simp, by simp, rfl⟩
      simp only [zw]
      exact ⟨none, 0, by simp, by simp, by simp, Nat.zero_le _, by simp, .inl (by simp)⟩
     ·have ⟨F3, q1, q2, q3⟩ := Ki e4 hh
      have hn := List.nodup_cons.1 k2
      refine ⟨b :: F3, [.slice (some ⟨b, 0, none⟩) hh m], ?_, List.nodup_cons.2 ⟨fun q => hn.1 (q2 b q), q3 hn.2⟩, ?_, rfl⟩
      ·simp only [zw]
       refine ⟨some ⟨b, 0, none⟩, m, by rw [hlen], by intro q; rw [hlen]; simpa using q, by rw [hlen]; omega, by omega, ht4, .inr ⟨b, arr, ty, _, F3, rfl, e1, Nat.le_trans (Nat.mul_le_mul_right _ (by omega)) e2, ?_, q1, rfl, e5⟩⟩
       rw [← e3, List.take_take, A.sizes_const ht4, hlen]
       congr 1
       have := Nat.mul_le_mul_right sz (show hh ≤ es.length by omega)
       omega
      ·intro k hk
       rcases List.mem_cons.1 hk with rfl | hk
       ·simp
       ·simp [q2 k hk]
    have g1' : Sim C S Fp' (F2 ++ []) (zb U3 st) a w := g1.mem g1.below (fun _ _ _ h => h) g1.still.cell g1.sbase (fun t' k hk => ⟨rfl, (g1.free t' k hk).2.1⟩) (by simpa using m2) (fun t' k hk => g1.xd t' k (by simp at hk ⊢; exact m3 k hk)) (fun k hk => g1.xb k (by simp at hk ⊢; exact m3 k hk))
    have ⟨Fp'', hs⟩ := jI g1' e4 m1 m2
    rw [m4] at hs
    refine zi ?_ hs
    simp only [Nat.sub_zero] at hrun
    simp only [Option.map_some] at hrun
    simp [execOp, ho, ev, hrun]
   ·cases e4
  ·cases e2
 | _ => cases e2
end
def zfc (d : Nat) (o : Oper) : Option (Nat × Operand × Operand × Operand) := match o.op with | .slice t x none (some hi) (some mx) => if o.dst = some d then some (t, x, hi, mx) else none | _ => none
def xCl (hT : yH P tt) (d : Nat) : XH P :=
 xAt P (zfc d) (fun n o b => clO tt n o.dst b.1 b.2.1 b.2.2.1 b.2.2.2) (fun n o b => clH tt n o.dst b.1 b.2.1 b.2.2.1 b.2.2.2)
  (by
   intro C S Fp st a w o b hp h u R U e
   unfold zfc at hp
   split at hp
   ·rename_i ho; cases V2 hp; exact zdK hT h ho e
   ·cases hp)
  (fun n o b => Loc.clO _ _ _ _ _ _ _) (fun n o b => zfV _ _ _ _ _ _ _)
def zg2 (d : Nat) (o : Oper) : Option Unit := match o.op with | .call ⟨.value _, _, _⟩ => if o.dst = some d then some () else none | _ => none
def Kt (hT : yH P tt) {s : y6} (h : s.Ok P) (d : Nat) : XH P :=
 xAt P (zg2 d) (fun n o _ => stepO tt (VT.add s) n o) (fun n o _ => z0M tt (VT.add s) n o)
  (fun C S Fp st a w o b hp hS u R U e => KQ hT (Ctr.add_ok (z2e P) h) hS e)
  (fun n o b => Loc.stepO _ _ _ _) (fun n o b => z1W _ _ _ _)
variable {α : Type}
theorem vlM (f : α → A) (l : List α) (k : Nat) : A.atom (.int .i64 (((l.map f).length - k : Nat) : Int)) = .atom (.int .i64 ((l.length - k : Nat) : Int)) := by rw [List.length_map]
theorem vcM (f : α → A) (l : List α) (k : Nat) (z : α) : (l.map f).take k ++ List.replicate ((l.map f).length - k) (f z) = (l.take k ++ List.replicate (l.length - k) z).map f := by simp
theorem clB (f : α → A) (l : List α) : ((l.length : Nat) : Int).toNat ≤ ((l.length : Nat) : Int).toNat ∧ ((l.length : Nat) : Int).toNat ≤ (l.map f).length := by simp
theorem clE (sz : Nat) (f : α → A) (l : List α) : A.osl sz (((l.length : Nat) : Int).toNat == ((l.length : Nat) : Int).toNat) ((l.map f).take ((l.length : Nat) : Int).toNat) = eOs sz true f l := by
 simp [Int.toNat_natCast, eOs]
 rw [List.take_of_length_le (by simp)]
def z5i : Value → Option Bool
 | .slice none _ _ => some true
 | .slice (some _) _ _ => some false
 | _ => none
variable {Q : Exit → St → Prop}{st : St}{es : List A}{n : Fr}{c : Code}{fs : List Fm}
theorem z2g {P : Program} {n : Fr} {c : Code}  {Q : Exit → St → Prop}  (e : fs = []) (k : Nat)  {t : Bool}  (hk : (st k).t = .d (.sl sz t es))
  (h : ∀ v, v.oneCell' = true → (z5i v = some true ∧ es = []) ∨ z5i v = some false → AWP P ⟨n.size, (k, v) :: n.pin⟩ c st (Qf P ⟨n.size, (k, v) :: n.pin⟩ [] Q)) : AWP P n c st (Qf P n fs Q) := by
 subst e
 intro rd m df w0 S0 M S Fp a w hc hs
 have q := hs.ent k
 unfold yf at q
 simp only [hk] at q
 have q1 := q.1
 simp only [yi] at q1
 have ⟨cs, r1, r2⟩ := q1
 simp only [Rep] at r1
 obtain ⟨p, c', rfl, r3, r4, r5, r6⟩ := r1
 have ev : Act.tv a k = .slice p es.length c' := r2
 have hcase : (z5i (Act.tv a k) = some true ∧ es = []) ∨ z5i (Act.tv a k) = some false := by
  rw [ev]
  cases p with
  | none =>
   refine .inl ⟨rfl, ?_⟩
   rcases r6 with r6 | ⟨b, o, l, e, _⟩
   ·exact r6
   ·cases e
  | some p => exact .inr rfl
 refine wpIn_mono (h (Act.tv a k) (by rw [ev]; rfl) hcase rd m df w0 S0 M S Fp a w ⟨hc.nodup, hc.df, hc.rd⟩ (hs.pinned k)) ?_
 rintro e a' w' ⟨df', st1, S1, Fp1, h1, h2, h3⟩
 exact ⟨df', st1, S1, Fp1, h1.unpinned, h2, h3⟩
open Classical in
def nilO (n : Fr) (dst : Option Nat) (v : Value) (b : Bool) (x y : Operand) : SM Unit := do
 let tx ← opnd x
 let ty ← opnd y
 if tx = .d (.atom v) ∧ ty = .d (.atom (.slice none 0 0)) then wrT n dst (.d (.atom (.bool b))) else zm
def zeR (n : Fr) (dst : Option Nat) (v : Value) (b : Bool) (x y : Operand) : HM Unit := zH (opnd x) >>= fun tx => zH (opnd y) >>= fun ty => wy (tx = .d (.atom v) ∧ ty = .d (.atom (.slice none 0 0))) (zH (wrT n dst (.d (.atom (.bool b)))))
open Classical in
theorem zd6 (n : Fr) (dst : Option Nat) (v : Value) (b : Bool) (x y : Operand) : Snd (nilO n dst v b x y) (zeR n dst v b x y) := z8 (ze _) fun _ => z8 (ze _) fun _ => ym (ze _)
open Classical in
theorem Loc.nilO (n : Fr) (dst : Option Nat) (v : Value) (b : Bool) (x y : Operand) : Loc (nilO n dst v b x y) := by
 unfold Go.Own.nilO
 exact Loc.bind (Loc.opnd _) fun _ => Loc.bind (Loc.opnd _) fun _ => Loc.ite (Loc.wrT _ _ _) Loc.fail
variable {Fp : Nat → List Nat}{w : World}{a : Act}{C : Ctx}{b : Bool}
theorem zbK (hT : yH P tt)       (h : Sim C S Fp [] st a w)  {t yt : Nat}   {x y : Operand} (hty : wb tt t = true) (hv : z5i v = some b) (ho : o.op = .binOp .eql t x y yt)    (e0 : nilO C.n o.dst v b x y st = some (u, R, U)) : xz P C o a w (zb U st) := by
 unfold nilO at e0
 have ⟨tx, _, hx, e1⟩ := bR (zr h) e0
 have ⟨ty, _, hy, e2⟩ := bR (zr h) e1
 split at e2
 ·rename_i hc
  obtain ⟨rfl, rfl⟩ := hc
  have ex := (zj.1 hx).1
  have ey := (zj.1 hy).1
  have ⟨el, hel⟩ := uj hT hty
  have ⟨Fp', hs⟩ := yk h e2 (x := .d (.atom (.bool b))) (zj.2 ⟨rfl, rfl⟩)
  refine zi ?_ hs
  have heq : (Op.equal t v (.slice none 0 0)).run P w = .ok b w := by
   unfold Op.equal Op.maxDepth
   show (Op.equalIn (9999 + 1) t v _).run P w = _
   generalize 9999 = q
   unfold Op.equalIn
   simp [Sem.run_bind, run_underlying hel, Result.andThen_ok]
   cases v with
   | slice p l c => cases p <;> (simp [z5i, Option.some.injEq] at hv; subst hv; simp)
   | _ => cases hv
  cases v with
  | slice p l c => simp [execOp, ho, ex, ey, eqGuard, Go.binOp, heq]
  | _ => cases hv
 ·cases e2
def zbW (d t : Nat) (o : Oper) : Option (Operand × Operand) := match o.op with | .binOp .eql t' x y _ => if o.dst = some d then (if t' = t then some (x, y) else none) else none | _ => none
def z9Q (hT : yH P tt) (d t : Nat)   (hty : wb tt t = true) (hv : z5i v = some b) : XH P :=
 xAt P (zbW d t) (fun n o q => nilO n o.dst v b q.1 q.2) (fun n o q => zeR n o.dst v b q.1 q.2)
  (by
   intro C S Fp st a w o q hp h u R U e
   unfold zbW at hp
   split at hp
   ·rename_i ho
    replace hp := V2 hp
    split at hp
    ·rename_i ht; subst ht; cases hp; exact zbK hT h hty hv ho e
    ·cases hp
   ·cases hp)
  (fun n o q => Loc.nilO _ _ _ _ _ _) (fun n o q => zd6 _ _ _ _ _ _)
instance (k : IntKind) (x y : Int) : SzA (eI k x) (eI k y) := ⟨rfl⟩
open Classical in
def asO (n : Fr) (dst : Option Nat) (v : Value) (x : Operand) : SM Unit := do
 let tx ← opnd x
 if tx = .d (.atom v) then wrT n dst (.d (.atom v)) else zm
def asH (n : Fr) (dst : Option Nat) (v : Value) (x : Operand) : HM Unit := zH (opnd x) >>= fun tx => wy (tx = .d (.atom v)) (zH (wrT n dst (.d (.atom v))))
open Classical in
theorem zfX (n : Fr) (dst : Option Nat) (v : Value) (x : Operand) : Snd (asO n dst v x) (asH n dst v x) := z8 (ze _) fun _ => ym (ze _)
open Classical in
theorem Loc.asO (n : Fr) (dst : Option Nat) (v : Value) (x : Operand) : Loc (asO n dst v x) := by
 unfold Go.Own.asO
 exact Loc.bind (Loc.opnd _) fun _ => Loc.ite (Loc.wrT _ _ _) Loc.fail
theorem zdV (h : Sim C S Fp [] st a w)  {v : Value} {x : Operand} (ho : o.op = .assign x)    (e0 : asO C.n o.dst v x st = some (u, R, U)) : xz P C o a w (zb U st) := by
 unfold asO at e0
 have ⟨tx, _, hx, e1⟩ := bR (zr h) e0
 split at e1
 ·rename_i hc
  subst hc
  have hx' : yi S (.atom v) (a.eval x) := hx
  have ⟨Fp', hs⟩ := yk h e1 (x := .d (.atom v)) (v := a.eval x) hx'
  exact zi (by simp [execOp, ho]) hs
 ·cases e1
def zfe (d : Nat) (o : Oper) : Option Operand := match o.op with | .assign x => if o.dst = some d then some x else none | _ => none
def xAs (P : Program) (d : Nat) (v : Value) : XH P :=
 xAt P (zfe d) (fun n o x => asO n o.dst v x) (fun n o x => asH n o.dst v x)
  (by
   intro C S Fp st a w o x hp h u R U e
   unfold zfe at hp
   split at hp
   ·rename_i ho; cases V2 hp; exact zdV h ho e
   ·cases hp)
  (fun n o x => Loc.asO _ _ _ _) (fun n o x => zfX _ _ _ _)
theorem z4N {p : Option Addr} {n c : Nat} : Zg sz (.slice p n c) 0 = .slice p n c := by
 have : (0 : Int).toNat = 0 := rfl
 simp only [Zg, this, Nat.sub_zero, Nat.zero_mul]
 congr 1
 split
 ·rfl
 ·cases p <;> simp [Addr.add]
def mwK (n : Fr) (dst : Option Nat) (r sz : Nat) (v : Value) (e : Ent) : SM Unit :=
 match e.t with
 | .own (.osl sz' _ _) => if sz' = sz then wrT n dst (.d (.atom (Zg sz v 0))) else zm
 | _ => zm
open Classical in
def mwO (n : Fr) (dst : Option Nat) (r sz : Nat) (v : Value) : SM Unit := if ZW n.pin r = some v then (rdE r >>= fun e => mwK n dst r sz v e) else zm
def mwH (n : Fr) (dst : Option Nat) (r sz : Nat) (v : Value) : HM Unit := wy (ZW n.pin r = some v) (zH (rdE r >>= fun e => mwK n dst r sz v e))
open Classical in
theorem Loc.mwO (n : Fr) (dst : Option Nat) (r sz : Nat) (v : Value) : Loc (mwO n dst r sz v) := by
 unfold Go.Own.mwO
 refine Loc.ite (Loc.bind (Loc.rdE _) fun e => ?_) Loc.fail
 unfold Go.Own.mwK
 split
 ·exact Loc.ite (Loc.wrT _ _ _) Loc.fail
 ·exact Loc.fail
theorem zdp (h : Sim C S Fp [] st a w)  {r sz : Nat} {v : Value} (ho : o.op = .move (.tmp r))    (e0 : mwO C.n o.dst r sz v st = some (u, R, U)) : xz P C o a w (zb U st) := by
 unfold mwO at e0
 split at e0
 ·rename_i hp
  have hs := h.pin r v (xu hp)
  have ⟨_, e4⟩ := bD e0
  unfold mwK at e4
  cases ht : (st r).t with
  | own y =>
   cases y with
   | osl sz' tg es =>
    simp [ht] at e4
    split at e4
    ·rename_i hz
     subst hz
     have ⟨p, c, ev, _, _, _⟩ := VB h ht
     have hvv : v = .slice p es.length c := by rw [← hs, ev]
     have ⟨Fp', hs'⟩ := yk h e4 (x := .d (.atom (Zg sz' v 0))) (v := v) (by rw [hvv, z4N]; exact zj.2 ⟨rfl, rfl⟩)
     refine zi ?_ hs'
     have ex : a.eval (.tmp r) = v := hs
     simp [execOp, ho, ex]
    ·cases e4
   | _ => simp [ht] at e4; cases e4
  | _ => simp [ht] at e4; cases e4
 ·cases e0
open Classical in
theorem zfQ (n : Fr) (dst : Option Nat) (r sz : Nat) (v : Value) : Snd (mwO n dst r sz v) (mwH n dst r sz v) := ym (ze _)
def zf6 (d r : Nat) (o : Oper) : Option Unit := match o.op with | .move (.tmp r') => if o.dst = some d then (if r' = r then some () else none) else none | _ => none
def xMw (P : Program) (d r sz : Nat) (v : Value) : XH P :=
 xAt P (zf6 d r) (fun n o _ => mwO n o.dst r sz v) (fun n o _ => mwH n o.dst r sz v)
  (by
   intro C S Fp st a w o q hp h u R U e
   unfold zf6 at hp
   split at hp
   ·rename_i ho
    replace hp := V2 hp
    split at hp
    ·rename_i ht; subst ht; exact zdp h ho e
    ·cases hp
   ·cases hp)
  (fun n o q => Loc.mwO _ _ _ _ _) (fun n o q => zfQ _ _ _ _ _)
theorem z4W (h : Sim C S Fp [] st a w) {r : Nat} {x : A} (hr : (st r).t = .own (.box x)) : ∃ b, Act.tv a r = .pointer (some ⟨b, 0, none⟩) := by
 have hq := h.ent r
 unfold yf at hq
 simp only [hr] at hq
 have ⟨cs, c1, c2, c3⟩ := hq
 simp only [zw] at c1
 obtain ⟨b, ty, l, F', rfl, _⟩ := c1
 exact ⟨b, c3⟩
def ncK (n : Fr) (dst : Option Nat) (r : Nat) (e : Ent) : SM Unit :=
 match e.t with
 | .own (.box _) => wrT n dst (.als r [] e.er e.ec)
 | _ => zm
open Classical in
def ncO (n : Fr) (dst : Option Nat) (r : Nat) (v : Value) (x : Operand) : SM Unit := do
 let tx ← opnd x
 if tx = .d (.atom v) ∧ ZW n.pin r = some v then (rdE r >>= fun e => ncK n dst r e) else zm
def ncH (n : Fr) (dst : Option Nat) (r : Nat) (v : Value) (x : Operand) : HM Unit := zH (opnd x) >>= fun tx => wy (tx = .d (.atom v) ∧ ZW n.pin r = some v) (zH (rdE r >>= fun e => ncK n dst r e))
open Classical in
theorem zfP (n : Fr) (dst : Option Nat) (r : Nat) (v : Value) (x : Operand) : Snd (ncO n dst r v x) (ncH n dst r v x) := z8 (ze _) fun _ => ym (ze _)
open Classical in
theorem Loc.ncO (n : Fr) (dst : Option Nat) (r : Nat) (v : Value) (x : Operand) : Loc (ncO n dst r v x) := by
 unfold Go.Own.ncO
 refine Loc.bind (Loc.opnd _) fun _ => Loc.ite (Loc.bind (Loc.rdE _) fun e => ?_) Loc.fail
 unfold Go.Own.ncK
 split
 ·exact Loc.wrT _ _ _
 ·exact Loc.fail
theorem zdo (h : Sim C S Fp [] st a w)  {r : Nat}   (ho : o.op = .nilCheck x)    (e0 : ncO C.n o.dst r v x st = some (u, R, U)) : xz P C o a w (zb U st) := by
 unfold ncO at e0
 have ⟨tx, _, hx, e1⟩ := bR (zr h) e0
 split at e1
 ·rename_i hc
  obtain ⟨rfl, hp⟩ := hc
  have hs := h.pin r v (xu hp)
  have ⟨_, e4⟩ := bD e1
  unfold ncK at e4
  cases ht : (st r).t with
  | own y =>
   cases y with
   | box z =>
    simp [ht] at e4
    have ⟨b, ev⟩ := z4W h ht
    have hvv : v = .pointer (some ⟨b, 0, none⟩) := by rw [← hs, ev]
    have hals : wZ w.heap st (Act.tv a) r [] (st r).er (st r).ec (Act.tv a r) := by
     refine ⟨Nat.le_refl _, Nat.le_refl _, ?_⟩
     simp [ht]
    have hT : TOk S w.heap st (Act.tv a) (.als r [] (st r).er (st r).ec) v := by rw [← hs]; exact hals
    have ⟨Fp', hs'⟩ := yk h e4 hT
    refine zi ?_ hs'
    have ex : a.eval x = v := (zj.1 hx).1
    simp [execOp, ho, ex, hvv]
   | _ => simp [ht] at e4; cases e4
  | _ => simp [ht] at e4; cases e4
 ·cases e1
def zct (d : Nat) (o : Oper) : Option Operand := match o.op with | .nilCheck x => if o.dst = some d then some x else none | _ => none
def xNc (P : Program) (d r : Nat) (v : Value) : XH P :=
 xAt P (zct d) (fun n o x => ncO n o.dst r v x) (fun n o x => ncH n o.dst r v x)
  (by
   intro C S Fp st a w o x hp h u R U e
   unfold zct at hp
   split at hp
   ·rename_i ho; cases V2 hp; exact zdo h ho e
   ·cases hp)
  (fun n o x => Loc.ncO _ _ _ _ _) (fun n o x => zfP _ _ _ _ _)
def spR (k : Nat) {α ρ : Type} (enc : α → List A) (encR : ρ → A) (F : α → Option ρ) (gives : List Bool) (inj : ∀ x y, enc x = enc y → x = y) : y6 := {
 α := α
 k := k
 raw := true
 gives := gives
 enc := enc
 pre := fun x => ∃ r, F x = some r
 f := fun x => match F x with | some r => encR r | none => .dead 0
 inj := by
  intro x y h _ _
  rw [inj x y h] }
variable {k : Nat}{gives : List Bool}
theorem z3I {α ρ : Type} {enc : α → List A} {encR : ρ → A} {F : α → Option ρ}  {inj : ∀ x y, enc x = enc y → x = y} (h : ∀ x r, F x = some r → wB P k (enc x) (encR r)) : (spR k enc encR F gives inj).Ok P := by
 rintro x ⟨r, hr⟩
 have := h x r hr
 simpa only [spR, hr] using this
variable {as_ : List A}
theorem zdC {k : Nat} {α ρ : Type} {enc : α → List A} {encR : ρ → A} {F : α → Option ρ} {gives : List Bool} {inj : ∀ x y, enc x = enc y → x = y} {x : α} {r : ρ} (hr : F x = some r)  (ha : as_ = enc x) :
  (VT.add (spR k enc encR F gives inj)).run k ((VT.add (spR k enc encR F gives inj)).norm k as_) = some (encR r) := by
 have h := Ctr.add_has VT (spR k enc encR F gives inj)
 have h1 := h.run x ⟨r, hr⟩
 have h2 : (VT.add (spR k enc encR F gives inj)).raw k = true := h.raw
 unfold Ctr.norm
 rw [h2, ha]
 refine Eq.trans h1 ?_
 simp [spR, hr]
theorem z9j {α ρ : Type} {enc : α → List A} {encR : ρ → A} {F : α → Option ρ}  {inj : ∀ x y, enc x = enc y → x = y} : (VT.add (spR k enc encR F gives inj)).gives k = gives := (Ctr.add_has VT _).gives
section
variable {α : Type}
def eFl (sz : Nat) (f : α → A) (x : List α × Bool) : A := .sl sz x.2 (x.1.map f)
instance (sz : Nat) (f : α → A) : Vb (eFl sz f) (eFl sz f) := ⟨fun _ => rfl, fun _ => rfl⟩
theorem flL (sz : Nat) (tg : Bool) (f : α → A) (l : List (List α)) : (l.map fun x => (x, tg)).map (eFl sz f) = l.map (eSl sz tg f) := by
 rw [List.map_map]; rfl
theorem flE {f : α → A} {l : List (List α × Bool)} (h : ∀ x ∈ l, x.2 = true) : l.map (eFl sz f) = (l.map (·.1)).map (eSl sz true f) := by
 rw [List.map_map]
 exact List.map_congr_left fun x hx => by simp [eFl, eSl, h x hx]
instance LeA.flO (s t : Nat) (tg : Bool) (b : Bool) (f : α → A) (l : List (List α)) : LeA (eOs s b (eSl t tg f) l) (eOs s b (eFl t f) (l.map fun x => (x, tg))) := by
 unfold eOs; rw [flL]; infer_instance
theorem flA {s t : Nat}  {f : α → A} {l : List (List α × Bool)} (h : ∀ x ∈ l, x.2 = true) : LeA (eSl s b (eFl t f) l) (eSl s b (eSl t true f) (l.map (·.1))) := by
 unfold eSl; rw [flE h]; exact LeA.refl _
end
variable {F : List Nat}{h : Array Obj}
theorem wU (hF : ∀ k ∈ F, ∀ o, S k o = none) : ∀ b o u, S b o = some u → zA S h F b o = some u := by
 intro b o u hs
 unfold zA
 rw [if_neg (fun q => by rw [hF b q o] at hs; cases hs)]
 exact hs
theorem Sim.sealX (h : Sim C S Fp (F ++ []) st a w) (hF : ∀ k ∈ F, ∀ o, S k o = none) : Sim C (zA S w.heap F) Fp [] st a w := by
 refine h.mem h.below (wU hF) ?_ ?_ ?_ (by simp) (by simp) (by simp)
 ·intro b o v q
  unfold zA at q
  split at q
  ·exact q
  ·exact h.still b o v q
 ·intro b o hb
  unfold zA
  rw [if_neg (fun q => hb (h.xb b (by simpa using q)))]
  exact h.sbase b o hb
 ·intro t k hk
  refine ⟨rfl, fun o => ?_⟩
  unfold zA
  rw [if_neg (fun q => h.xd t k (by simpa using q) hk)]
  exact (h.free t k hk).2.1 o
mutual
theorem A.live_isD : ∀ {a : A}, a.isD = true → a.live = true
 | .atom _, _ => rfl
 | .fn _ _, _ => rfl
 | .agg fs, h => by simp [A.isD] at h; simp [A.live]; exact A.lives_areD h
 | .sl _ _ _, _ => rfl
 | .sptr _, _ => rfl
 | .dop _, _ => rfl
 | .tup _, h => by simp [A.isD] at h
 | .osl _ _ _, h => by simp [A.isD] at h
 | .box _, h => by simp [A.isD] at h
 | .dead _, h => by simp [A.isD] at h
 | .opq _, h => by simp [A.isD] at h
theorem A.lives_areD : ∀ {as_ : List A}, A.areD as_ = true → A.lives as_ = true
 | [], _ => rfl
 | a :: as_, h => by
  simp [A.areD, Bool.and_eq_true] at h
  simp [A.lives, A.live_isD h.1, A.lives_areD h.2, Bool.and_self]
end
theorem A.areD_app : ∀ {as_ bs : List A}, A.areD as_ = true → A.areD bs = true → A.areD (as_ ++ bs) = true
 | [], _, _, h => h
 | a :: as_, bs, h1, h2 => by
  simp [A.areD, Bool.and_eq_true] at h1
  simp [List.cons_append, A.areD, Bool.and_eq_true]
  exact ⟨h1.1, A.areD_app h1.2 h2⟩
def zdW (tt : TT) (t sz : Nat) : Bool :=
 match tt t with
 | some ⟨.slice e, _, _, _, _⟩ => match tt e with | some i => sz == i.size && decide (i.bytes ≤ 4096) && decide (0 < i.size) && i.zero.isSome | none => false
 | _ => false
def apO (tt : TT) (n : Fr) (dst : Option Nat) (t : Nat) (s x : Operand) : SM Unit := do
 let ts ← opnd s
 let tx ← opnd x
 match ts, tx with
 | .d (.sl sz tg es), .d (.sl sz2 _ ys) => if zdW tt t sz = true ∧ sz2 = sz ∧ tg = true ∧ es.length + ys.length ≤ lim ∧ A.areD es = true ∧ A.areD ys = true then wrT n dst (.d (.sl sz false (es ++ ys))) else zm
 | _, _ => zm
def apH (tt : TT) (n : Fr) (dst : Option Nat) (t : Nat) (s x : Operand) : HM Unit := zH (opnd s) >>= fun ts => zH (opnd x) >>= fun tx =>
 match ts, tx with
 | .d (.sl sz tg es), .d (.sl sz2 _ ys) => if zdW tt t sz = true ∧ sz2 = sz ∧ tg = true then wy (es.length + ys.length ≤ lim ∧ A.areD es = true ∧ A.areD ys = true) (eqL (es ++ ys) >>= fun zs => zH (wrT n dst (.d (.sl sz false zs)))) else zz
 | _, _ => zz
theorem zfY (tt : TT) (n : Fr) (dst : Option Nat) (t : Nat) (s x : Operand) : Snd (apO tt n dst t s x) (apH tt n dst t s x) := by
 refine z8 (ze _) fun ts => z8 (ze _) fun tx => ?_
 split
 ·refine W6 (fun h1 h2 => ⟨h1.1, h1.2.1, h1.2.2, h2.1, h2.2.1, h2.2.2⟩) ?_
  exact Xe (zL _ fun zs => wrT n dst (.d (.sl _ false zs))).symm (z8 (z3o _) fun _ => ze _)
 ·exact zl _
theorem Loc.apO (tt : TT) (n : Fr) (dst : Option Nat) (t : Nat) (s x : Operand) : Loc (apO tt n dst t s x) := by
 unfold Go.Own.apO
 refine Loc.bind (Loc.opnd _) fun _ => Loc.bind (Loc.opnd _) fun _ => ?_
 split
 ·exact Loc.ite (Loc.wrT _ _ _) Loc.fail
 ·exact Loc.fail
theorem zdX (hT : yH P tt)       (h : Sim C S Fp [] st a w)  {t : Nat} {s x : Operand} (ho : o.op = .call { callee := .builtin .append, args := #[s, x], argTypes := #[t, t] })    (e0 : apO tt C.n o.dst t s x st = some (u, R, U)) : xz P C o a w (zb U st) := by
 unfold apO at e0
 have ⟨ts, _, hs, e1⟩ := bR (zr h) e0
 have ⟨tx, _, hx, e2⟩ := bR (zr h) e1
 split at e2
 ·rename_i sz tg es sz2 tg2 ys
  split at e2
  ·rename_i hc
   obtain ⟨c1, rfl, rfl, c4, c5, c6⟩ := hc
   obtain ⟨el, i, hel, hi, hsz, c3, cz, c7⟩ : ∃ el i, P.underlying t = some (.slice el) ∧ tt el = some i ∧ sz2 = i.size ∧ i.bytes ≤ 4096 ∧ 0 < i.size ∧ i.zero.isSome = true := by
    unfold zdW at c1
    split at c1
    ·rename_i e _ _ _ _ ht
     split at c1
     ·rename_i i hi
      simp only [Bool.and_eq_true, beq_iff_eq, decide_eq_true_eq] at c1
      exact ⟨e, i, (hT _ _ ht).kind, hi, c1.1.1.1, c1.1.1.2, c1.1.2, c1.2⟩
     ·cases c1
    ·cases c1
   have ⟨f, f1, f2, f3, f4⟩ := (hT _ _ hi).info
   have ⟨z0, hz0⟩ := Option.isSome_iff_exists.1 c7
   have ⟨zv, v1, v2, v3⟩ := f4 z0 hz0
   have hzs : zv.cells.size = f.size := by
    have := (v3 (fun _ _ => none) #[]).len
    rw [v2, ← f2] at this
    simpa using this
   have hs' : yi S (.sl sz2 true es) (a.eval s) := hs
   have hx' : yi S (.sl sz2 tg2 ys) (a.eval x) := hx
   have ⟨p, d, news, ev, r1, r2, r3⟩ := WF (y := .sl sz2 tg2 ys) h (.inl ⟨tg2, rfl⟩) c6 (.inl hx')
   have fin : ∀ v w', (Builtin.append_ #[t, t] o.type #[a.eval s, a.eval x]).run P w = .ok v w' → (execOp a.eval o).run P w = .ok (.value v) w' := by
    intro v w' hrun
    simp [execOp, ho, resolve, invoke, builtin, hrun]
   simp only [yi] at hs'
   have ⟨cs, q1, q2⟩ := hs'
   simp only [Rep] at q1
   obtain ⟨pp, c, rfl, t1, t2, t3, t4⟩ := q1
   have hcl := t1 trivial
   subst hcl
   have es1 : a.eval s = .slice pp es.length es.length := q2
   by_cases hne : ys = []
   ·subst hne
    have ⟨Fp', hs2⟩ := yk h e2 (x := .d (.sl sz2 false (es ++ []))) (v := .slice pp es.length es.length) (by
     simp only [TOk, yi, List.append_nil]
     refine ⟨[.slice pp es.length es.length], ?_, rfl⟩
     simp only [Rep]
     exact ⟨pp, _, rfl, by simp, Nat.le_refl _, t3, t4⟩)
    refine zi (fin _ _ ?_) hs2
    rw [es1, ev]
    exact qM hel f1 pp p es.length es.length d (Nat.le_refl _) w
   ·have hpos : 0 < ys.length := List.length_pos_iff.2 hne
    rcases r3 with ⟨hy, _⟩ | ⟨ad, rfl, hnews⟩
    ·exact absurd hy hne
    subst hsz
    rw [← f2] at t3 r2 e2
    have hold : ∃ olds, zV S es olds ∧ ((pp = none ∧ es = [] ∧ es.length = 0) ∨ ∃ b, pp = some b ∧ ∀ j v, olds[j]? = some v → w.cell? (b.add j) = some v) := by
     rcases t4 with rfl | ⟨b, o', l, rfl, k1, k2⟩
     ·cases pp with
      | none => exact ⟨[], by simp [zV], .inl ⟨rfl, rfl, rfl⟩⟩
      | some b => exact ⟨[], by simp [zV], .inr ⟨b, rfl, by simp⟩⟩
     ·exact ⟨l, k1, .inr ⟨_, rfl, Qy h k2⟩⟩
    have ⟨olds, n1, n2⟩ := hold
    have h' : Sim C S Fp ([] ++ []) st a w := by simpa using h
    obtain ⟨v, w', hrun, F', m1, m2, cs', m3, rfl⟩ := um (ty := o.type) hel f1 v1 hzs h' (n1.concs w.heap) (by simp) (r1.concs w.heap) t3 r2 n2 (d := d) hnews (by omega) c4 (by omega) hpos
    have hF : ∀ k ∈ F', ∀ o, S k o = none := fun k hk => (m3.own k hk).2.1
    have hs3 := m1.sealX hF
    have hD : A.areD (es ++ ys) = true := A.areD_app c5 c6
    have hrep := m3.shut (wU hF) (by simp only [A.live]; exact A.lives_areD hD) (fun k hk o => by unfold zA; rw [if_pos hk])
    simp only [A.shut] at hrep
    rw [A.shuts_areD hD] at hrep
    have ⟨Fp'', hs'⟩ := yk hs3 e2 (x := .d (.sl f.size false (es ++ ys))) (v := zJ (.osl f.size false (es ++ ys)) cs') (by
     simp only [TOk, yi]
     exact ⟨cs', hrep, rfl⟩)
    exact zi (fin _ _ (by rw [es1, ev]; exact hrun)) hs'
  ·cases e2
 ·cases e2
def zcu (d : Nat) (o : Oper) : Option (Nat × Operand × Operand) := match o.op with | .call ⟨.builtin .append, ⟨[s, x]⟩, ⟨[t, t']⟩⟩ => if o.dst = some d then (if t' = t then some (t, s, x) else none) else none | _ => none
def xAp (hT : yH P tt) (d : Nat) : XH P :=
 xAt P (zcu d) (fun n o q => apO tt n o.dst q.1 q.2.1 q.2.2) (fun n o q => apH tt n o.dst q.1 q.2.1 q.2.2)
  (by
   intro C S Fp st a w o q hp h u R U e
   unfold zcu at hp
   split at hp
   ·rename_i ho
    replace hp := V2 hp
    split at hp
    ·rename_i ht; subst ht; cases hp; exact zdX hT h ho e
    ·cases hp
   ·cases hp)
  (fun n o q => Loc.apO _ _ _ _ _ _) (fun n o q => zfY _ _ _ _ _ _)
theorem apM (f : α → A) [Wq f] {l m : List α} (h : l.length + m.length ≤ 4294967296) : (l.map f).length + (m.map f).length ≤ lim ∧ A.areD (l.map f) = true ∧ A.areD (m.map f) = true := ⟨by simpa [lim] using h, dM f l, dM f m⟩
variable {body : Code}{fn : Func}{vals : List Value}{ys : List A}
theorem z0a {tt : TT}    {nt t : Nat} (is : List Nat) {args caps xs : List A} {vals : List Value} {r : A} {ys : List A} (hT : yH P tt) (hf : P.funcs[k]? = some fn) (hnm : (fn.name == "runtime.NumGoroutine") = false) (hb : fn.body = some body)
  (hn : nt = fn.ntmps) (hr : fn.results = #[.tmp t]) (ha : (args ++ caps).length ≤ fn.ntmps) (hnd : is.Nodup) (hbase : is.map (fun i => (args ++ caps)[i]?) = vals.map (fun v => some (.atom v))) (hl : xs.length = vals.length) (hrd : r.isD = true) (hrn : jO tt 0 r = r)
  (h : ∀ E : Exit → St → Prop, (∀ ex st, (ex = .normal ∨ ex = .ret) → (∀ p ∈ is.zip ys, (st p.1).t = .own p.2) → (st t).t = .d r → E ex st) →
   AWP P ⟨nt, is.zip vals⟩ body (ofL (z0q 0 (ZU (args ++ caps) is xs))) (Qf P ⟨nt, is.zip vals⟩ [] E)) (hy : is.length = ys.length) : yl P (.fn k caps) args (vals.zip xs) r ys := by
 subst hn
 refine QP (tt := tt) (rs := [(t, none)]) is hT hf hnm hb hr ha hnd hbase hl ?_
 rw [QU]
 refine h _ ?_
 intro ex st hx hc hrt
 refine ⟨hx, ?_⟩
 have h2 := QK hy hc
 have hop : opnd (.tmp t) st = some (.d r, [t], []) := by
  simp [opnd, hrt, bind, SM.bind, rdE, pure, SM.pure, List.append_nil]
 have hsh : shutT tt 0 (.d r) st = some (r, [], []) := by
  have : shutT tt 0 (.d r) = pure r := by
   cases r <;> first | (simp [A.isD] at hrd; done) | (simp [shutT, hrn, A.shut_isD hrd]) | skip
  rw [this]; rfl
 have h1 : shutArgs tt [(Operand.tmp t, 0)] st = some ([r], [t], []) := by
  simp [shutArgs, bind, SM.bind, hop, zb, hsh, pure, SM.pure, List.append_nil]
 refine ⟨[t] ++ (is ++ []), [], ?_⟩
 simp [zc5, List.map_cons, List.map_nil, bind, SM.bind, h1, zb, h2, vP, Option.map_some, pure, SM.pure, zcR, List.append_nil]
variable {y : A}
theorem zcz {live : List Nat}  {l : List (Nat × T)} (hc : canon live st = ofL l)   (hk : live.contains k = true) (hy : (ofL l k).t = .d y) : (st k).t = .d y := by
 have := congrFun hc k
 rw [qh, if_pos (List.contains_iff_mem.1 hk)] at this
 rw [← this] at hy
 unfold z5l at hy
 cases hx : (st k).t with
 | own a => simp only [hx] at hy; cases hy
 | d a => simpa only [hx] using hy
 | gone => simp only [hx] at hy; cases hy
 | _ => simp only [hx] at hy; split at hy <;> cases hy
def V0 (x : List UInt8) : A := .atom (.string ⟨x.toArray⟩)
def u8s (l : List Int) : List UInt8 := l.map fun n => UInt8.ofNat n.toNat
def Y0 : List A → Option (List Int)
 | [] => some []
 | .atom (.int .u8 n) :: as_ => (Y0 as_).map (n :: ·)
 | _ => none
theorem Kk : ∀ l : List Int, Y0 (l.map (eI .u8)) = some l
 | [] => rfl
 | n :: l => by simp [List.map_cons, eI, Y0]; rw [show l.map (eI .u8) = l.map (eI .u8) from rfl]; simp [Kk l]
theorem Ji : ∀ {as_ : List A} {ns : List Int} {cs : List Value}, Y0 as_ = some ns → zV S as_ cs → cs = ns.map (Value.int .u8) ∧ as_.length = ns.length
 | [], ns, cs, h, r => by simp [Y0, Option.some.injEq] at h; subst h; simp [zV] at r; subst r; exact ⟨rfl, rfl⟩
 | a :: as_, ns, cs, h, r => by
  unfold Y0 at h
  split at h
  ·cases ‹_ = []›
  ·rename_i n as' e
   cases e
   obtain ⟨ms, h1, rfl⟩ := Option.map_eq_some_iff.1 h
   simp [zV] at r
   obtain ⟨c1, c2, rfl, r1, r2⟩ := r
   simp [Rep] at r1
   have ⟨q1, q2⟩ := Ji h1 r2
   obtain ⟨rfl, _⟩ := r1
   subst q1
   exact ⟨rfl, by simp [q2]⟩
  ·cases h
theorem z36 : ∀ {as_ : List A} {ns : List Int}, Y0 as_ = some ns → A.areD as_ = true
 | [], _, _ => rfl
 | a :: as_, ns, h => by
  unfold Y0 at h
  split at h
  ·cases ‹_ = []›
  ·rename_i n as' e
   cases e
   obtain ⟨ms, h1, rfl⟩ := Option.map_eq_some_iff.1 h
   simp [A.areD, A.isD, z36 h1, Bool.and_self]
  ·cases h
theorem K3 : ∀ (ns : List Int) (s : List UInt8), ns.foldl (fun r n => r.push (UInt8.ofNat n.toNat)) (⟨s.toArray⟩ : ByteArray) = ⟨(s ++ u8s ns).toArray⟩
 | [], s => by simp [u8s]
 | n :: ns, s => by
  rw [List.foldl_cons]
  have : (⟨s.toArray⟩ : ByteArray).push (UInt8.ofNat n.toNat) = ⟨(s ++ [UInt8.ofNat n.toNat]).toArray⟩ := by simp [ByteArray.push]
  rw [this, K3 ns]
  simp [u8s]
def zcB (P : Program) (s d : Nat) : Prop := ∃ e, P.underlying s = some (.slice e) ∧ P.underlying e = some (.int .u8) ∧ P.underlying d = some .string
theorem z8J {s d e : Nat} (h1 : P.underlying s = some (.slice e)) (h2 : P.underlying e = some (.int .u8)) (h3 : P.underlying d = some .string) : zcB P s d := ⟨e, h1, h2, h3⟩
def strO (n : Fr) (dst : Option Nat) (x : Operand) : SM Unit := do
 let tx ← opnd x
 let y ← peek tx
 match y with
 | .sl _ _ ys | .osl _ _ ys => ofO ((Y0 ys).map fun ns => V0 (u8s ns)) >>= fun r => wrT n dst (.d r)
 | _ => zm
def zeC (n : Fr) (dst : Option Nat) (x : Operand) : HM Unit := zH (opnd x) >>= fun tx => JM tx >>= fun y =>
 match y with
 | .sl _ _ ys | .osl _ _ ys => z2h ((Y0 ys).map fun ns => V0 (u8s ns)) >>= fun r => zH (wrT n dst (.d r))
 | _ => zz
theorem zcW (n : Fr) (dst : Option Nat) (x : Operand) : Snd (strO n dst x) (zeC n dst x) := by
 refine z8 (ze _) fun tx => z8 (WI _) fun y => ?_
 cases y with
 | sl sz t ys => exact z8 (WJ _) fun _ => ze _
 | osl sz t ys => exact z8 (WJ _) fun _ => ze _
 | _ => exact zl _
theorem Loc.strO (n : Fr) (dst : Option Nat) (x : Operand) : Loc (strO n dst x) := by
 unfold Go.Own.strO
 refine Loc.bind (Loc.opnd _) fun _ => Loc.bind (Loc.peek _) fun _ => ?_
 split
 ·exact Loc.bind (Loc.ofO _) fun _ => Loc.wrT _ _ _
 ·exact Loc.bind (Loc.ofO _) fun _ => Loc.wrT _ _ _
 ·exact Loc.fail
theorem zba {P : Program}       (h : Sim C S Fp [] st a w)  {s t : Nat} {x : Operand} (hs : zcB P s t) (ho : o.op = .convert s t x)    (e0 : strO C.n o.dst x st = some (u, R, U)) : xz P C o a w (zb U st) := by
 unfold strO at e0
 obtain ⟨tx, R1, U1, R2, U2, h1, e1, rfl, rfl⟩ := bind_some e0
 obtain ⟨rfl, hx⟩ := zr h h1
 obtain ⟨y, R3, U3, R4, U4, h3, e2, rfl, rfl⟩ := bind_some e1
 obtain ⟨rfl, q⟩ := Zz h hx h3
 simp [zb, List.nil_append] at e2 ⊢
 have ⟨el, k1, k2, k3⟩ := hs
 have main : ∀ (sz : Nat) (ys : List A), ((∃ tg, y = .sl sz tg ys) ∨ ∃ tg, y = .osl sz tg ys) → (ofO ((Y0 ys).map fun ns => V0 (u8s ns)) >>= fun r => wrT C.n o.dst (.d r)) st = some (u, R4, U4) → xz P C o a w (zb U4 st) := by
  intro sz ys hy e3
  obtain ⟨r, R5, U5, R6, U6, h5, e4, rfl, rfl⟩ := bind_some e3
  obtain ⟨hm, rfl, rfl⟩ := ZB h5
  simp [zb, List.nil_append] at e4 ⊢
  obtain ⟨ns, hn, rfl⟩ := Option.map_eq_some_iff.1 hm
  have ⟨p, d, news, ev, r1, r2, r3⟩ := WF h hy (z36 hn) q
  obtain ⟨rfl, hl⟩ := Ji hn r1
  have ⟨Fp', hs'⟩ := yk h e4 (x := .d (V0 (u8s ns))) (v := .string ⟨(u8s ns).toArray⟩) (zj.2 ⟨rfl, rfl⟩)
  refine zi ?_ hs'
  have hrun : (convert s t (a.eval x)).run P w = .ok (.string ⟨(u8s ns).toArray⟩) w := by
   rw [ev, run_convert_bytes_string w s t el p ys.length d k1 k2 k3]
   rcases r3 with ⟨rfl, hnil⟩ | ⟨ad, rfl, hc⟩
   ·have : ns = [] := by simpa using hnil
    subst this
    cases p with
    | none => rfl
    | some ad =>
     rw [run_bytesToString w ad _ d [] (by simpa using run_loadCells_list w ad [] (by simp))]
     rfl
   ·have hlc := run_loadCells_list (P := P) w ad _ hc
    rw [List.length_map, ← hl] at hlc
    rw [run_bytesToString w ad _ d ns hlc]
    have := K3 ns []
    simp [List.nil_append] at this
    exact congrArg (fun z => Result.ok (Value.string z) w) this
  simp [execOp, ho, hrun]
 cases y with
 | sl sz tg ys => exact main sz ys (.inl ⟨tg, rfl⟩) e2
 | osl sz tg ys => exact main sz ys (.inr ⟨tg, rfl⟩) e2
 | _ => cases e2
def zbT (s t : Nat) (o : Oper) : Option Operand := match o.op with | .convert s' t' x => if s' = s ∧ t' = t then some x else none | _ => none
def zfA (P : Program) {s t : Nat} (hs : zcB P s t) : XH P :=
 xAt P (zbT s t) (fun n o x => strO n o.dst x) (fun n o x => zeC n o.dst x)
  (by
   intro C S Fp st a w o x hp h u R U e
   unfold zbT at hp
   split at hp
   ·rename_i ho
    split at hp
    ·rename_i ht; obtain ⟨rfl, rfl⟩ := ht; cases hp; exact zba h hs ho e
    ·cases hp
   ·cases hp)
  (fun n o x => Loc.strO _ _ _) (fun n o x => zcW _ _ _)
theorem stM (l : List Int) : ((Y0 (l.map (eI .u8))).map fun ns => V0 (u8s ns)) = some (V0 (u8s l)) := by rw [Kk]; rfl
def z05 : A → Bool
 | .atom (.string _) => true
 | _ => false
theorem kT {a : A} (h : z05 a = true) : ∃ x, a = .atom (.string x) := by
 unfold z05 at h
 split at h
 ·exact ⟨_, rfl⟩
 ·cases h
instance : ze8 (K := List UInt8) V0 := ⟨fun x y => by
 simp only [V0, Vc, JO, Option.map_some, Option.some.injEq, zJ, List.headD_cons, Value.string.injEq, ByteArray.mk.injEq, beq_iff_eq]
 constructor
 ·intro h; simpa using congrArg Array.toList h
 ·rintro rfl; rfl⟩
theorem z4Y (x y : ByteArray) : (x == y) = true ↔ x = y := by
 cases x; cases y
 rw [ByteArray.mk.injEq]
 rename_i a b
 show (a == b) = true ↔ a = b
 exact beq_iff_eq
theorem z6I {t kt et : Nat} {z : A} (hu : P.underlying t = some (.map kt et)) (hk : P.underlying kt = some .string) (hz : ∃ zv, (∀ w, (zeroValue et).run P w = .ok zv w) ∧ ∀ S, xM S z zv) (zd : z.isD = true) : z5g P t kt et z05 z := {
 und := hu
 zero := hz
 zd := zd
 key := fun a h => by obtain ⟨x, rfl⟩ := kT h; exact ⟨_, rfl⟩
 check := fun a kv e w h hv => by
  obtain ⟨x, rfl⟩ := kT h
  cases hv
  show (Instr.checkKey e (9999 + 1) kt _).run P w = _
  generalize 9999 = q
  unfold Instr.checkKey
  simp only [Sem.run_bind, run_underlying hk, Result.andThen_ok]
  simp
 bits := fun a kv h hv => by
  obtain ⟨x, rfl⟩ := kT h
  cases hv
  simp [zJ, Instr.sameBits, (z4Y x x).2 rfl]
 find := fun a kv h hv ents es hes hall w => by
  obtain ⟨x, rfl⟩ := kT h
  cases hv
  have gen : ∀ (ents : List MapEntry) (es : List (A × A)) (i : Nat), (∀ p ∈ es, z05 p.1 = true) → uH (fun p (e : MapEntry) => Vc p.1 = some e.key) es ents → Instr.findNow .string (.string x) ents i = some (Wg (.string x) ents i) := by
   intro ents
   induction ents with
   | nil => intro es i _ _; rfl
   | cons e ents ih =>
    intro es i h1 h2
    cases es with
    | nil => exact h2.elim
    | cons p es =>
     have ⟨y, hy⟩ := kT (h1 p (by simp))
     have hk2 : e.key = .string y := by
      have : Vc p.1 = some e.key := h2.1
      rw [hy] at this
      simp only [Vc, JO, Option.map_some, Option.some.injEq, zJ, List.headD_cons] at this
      exact this.symm
     simp only [Instr.findNow, Wg, hk2, Instr.sameNow, Value.string.injEq]
     by_cases hxy : x = y
     ·subst hxy; rw [(z4Y x x).2 rfl]; simp
     ·rw [if_neg (Ne.symm hxy), show (x == y) = false by cases hb : x == y with | false => rfl | true => exact absurd ((z4Y x y).1 hb) hxy]
      exact ih es (i + 1) (fun p hp => h1 p (by simp [hp])) h2.2
  simp only [Instr.findKey, Sem.run_bind, run_underlying hk, Result.andThen_ok, zJ, List.headD_cons, gen ents es 0 hes hall, Sem.run_pure] }
mutual
def A.indep : A → Bool
 | .atom _ => true
 | .fn _ caps => A.indeps caps
 | .agg fs => A.indeps fs
 | .osl _ _ es => A.indeps es
 | .box x => x.indep
 | .dead _ => true
 | .sl _ _ xs => xs.isEmpty
 | _ => false
def A.indeps : List A → Bool
 | [] => true
 | a :: as_ => a.indep && A.indeps as_
end
mutual
theorem Rep.indep {S S' : zf} : ∀ {a : A} {cs : List Value}, a.indep = true → Rep S a cs → Rep S' a cs
 | .atom _, _, _, r => by simpa only [Rep] using r
 | .fn _ caps, _, h, r => by
  simp only [A.indep] at h
  simp only [Rep] at r ⊢
  obtain ⟨vs, h1, h2, h3⟩ := r
  exact ⟨vs, zV.indep h h1, h2, h3⟩
 | .agg fs, _, h, r => by simp only [A.indep] at h; simp only [Rep] at r ⊢; exact zV.indep h r
 | .sl _ _ xs, _, h, r => by
  simp only [A.indep, List.isEmpty_iff] at h
  subst h
  simp only [Rep] at r ⊢
  obtain ⟨p, c, h1, h2, h3, h4, _⟩ := r
  exact ⟨p, c, h1, h2, h3, h4, .inl trivial⟩
 | .sptr _, _, h, _ => by simp [A.indep] at h
 | .dop _, _, h, _ => by simp [A.indep] at h
 | .tup _, _, _, r => by simp only [Rep] at r
 | .osl _ _ _, _, _, r => by simp only [Rep] at r
 | .box _, _, _, r => by simp only [Rep] at r
 | .dead _, _, _, r => by simp only [Rep] at r
 | .opq _, _, _, r => by simp only [Rep] at r
theorem zV.indep {S S' : zf} : ∀ {as_ : List A} {cs : List Value}, A.indeps as_ = true → zV S as_ cs → zV S' as_ cs
 | [], _, _, r => by simpa only [zV] using r
 | a :: as_, _, h, r => by
  simp only [A.indeps, Bool.and_eq_true] at h
  simp only [zV] at r ⊢
  obtain ⟨c1, c2, e, r1, r2⟩ := r
  exact ⟨c1, c2, e, Rep.indep h.1 r1, zV.indep h.2 r2⟩
end
mutual
theorem zw.indep {S S' : zf}  : ∀ {a : A} {cs : List Value} {F : List Nat}, a.indep = true → zw S h a cs F → (∀ k ∈ F, ∀ o, S' k o = none) → zw S' h a cs F
 | .osl sz t es, _, _, hi, r, hF => by
  simp only [A.indep] at hi
  simp only [zw] at r ⊢
  obtain ⟨p, c, e, h1, h2, h3, h4, h5⟩ := r
  refine ⟨p, c, e, h1, h2, h3, h4, ?_⟩
  rcases h5 with h5 | ⟨b, arr, ty, l, F', e1, e2, e3, e4, e5, rfl, e7⟩
  ·exact .inl h5
  ·exact .inr ⟨b, arr, ty, l, F', e1, e2, e3, e4, zC.indep hi e5 (fun k hk => hF k (by simp [hk])), rfl, hF b (by simp)⟩
 | .box x, _, _, hi, r, hF => by
  simp only [A.indep] at hi
  simp only [zw] at r ⊢
  obtain ⟨b, ty, l, F', e, e1, e2, rfl, e4⟩ := r
  exact ⟨b, ty, l, F', e, e1, zw.indep hi e2 (fun k hk => hF k (by simp [hk])), rfl, hF b (by simp)⟩
 | .agg fs, _, _, hi, r, hF => by simp only [A.indep] at hi; simp only [zw] at r ⊢; exact zC.indep hi r hF
 | .dead _, _, _, _, r, _ => by simpa only [zw] using r
 | .opq _, _, _, hi, _, _ => by simp [A.indep] at hi
 | .atom _, _, _, hi, r, _ => by simp only [zw] at r ⊢; exact ⟨Rep.indep hi r.1, r.2⟩
 | .fn _ _, _, _, hi, r, _ => by simp only [zw] at r ⊢; exact ⟨Rep.indep hi r.1, r.2⟩
 | .sl _ _ _, _, _, hi, r, _ => by simp only [zw] at r ⊢; exact ⟨Rep.indep hi r.1, r.2⟩
 | .sptr _, _, _, hi, _, _ => by simp [A.indep] at hi
 | .dop _, _, _, hi, _, _ => by simp [A.indep] at hi
 | .tup _, _, _, _, r, _ => by simp only [zw] at r
theorem zC.indep {S S' : zf}  : ∀ {as_ : List A} {cs : List Value} {F : List Nat}, A.indeps as_ = true → zC S h as_ cs F → (∀ k ∈ F, ∀ o, S' k o = none) → zC S' h as_ cs F
 | [], _, _, _, r, _ => by simpa only [zC] using r
 | a :: as_, _, _, hi, r, hF => by
  simp only [A.indeps, Bool.and_eq_true] at hi
  simp only [zC] at r ⊢
  obtain ⟨c1, c2, F1, F2, e1, rfl, r1, r2⟩ := r
  exact ⟨c1, c2, F1, F2, e1, rfl, zw.indep hi.1 r1 (fun k hk => hF k (by simp [hk])), zC.indep hi.2 r2 (fun k hk => hF k (by simp [hk]))⟩
end
section
variable {α : Type}
instance SzA.opS {β : Type} (s s' : Nat) (b b' : Bool) (f : α → A) (g : β → A) (l : List α) (l' : List β) : SzA (eOs s b f l) (eOs s' b' g l') := ⟨rfl⟩
end
theorem Sim.retag (h : Sim C S Fp [] st a w) (k : Nat) (x y : A) (hx : (st k).t = .own x) (hl : LeA x y) : Sim C S Fp [] (upd st k ⟨.own y, (st k).er + 1, (st k).ec + 1⟩) a w := by
 refine { size := h.size, pin := h.pin, defers := h.defers, below := h.below, mine := h.mine, still := h.still, sinc := h.sinc, sbase := h.sbase, ent := ?_, disj := h.disj, base := h.base, xn := h.xn, xd := h.xd, xb := h.xb }
 intro t
 have q := h.ent t
 by_cases ht : t = k
 ·subst ht
  rw [yQ]
  unfold yf at q ⊢
  simp [hx] at q ⊢
  have ⟨cs, q1, q2, q3⟩ := q
  exact ⟨cs, hl.conc _ _ _ _ q1, q2, by rw [← hl.val]; exact q3⟩
 ·rw [ur _ _ ht]
  unfold yf at q ⊢
  have als : ∀ {r p er' ec' v}, wZ w.heap st (Act.tv a) r p er' ec' v → wZ w.heap (upd st k ⟨.own y, (st k).er + 1, (st k).ec + 1⟩) (Act.tv a) r p er' ec' v := by
   intro r p er' ec' v q
   by_cases hr : r = k
   ·subst hr
    have ⟨q1, q2, q3⟩ := q
    unfold wZ
    rw [yQ]
    refine ⟨Nat.le_succ_of_le q1, Nat.le_succ_of_le q2, ?_⟩
    simp only
    intro e1
    omega
   ·unfold wZ
    rw [ur _ _ hr]
    exact q
  have ptr : ∀ {r p er' ec' v}, wY w.heap st (Act.tv a) r p er' ec' v → wY w.heap (upd st k ⟨.own y, (st k).er + 1, (st k).ec + 1⟩) (Act.tv a) r p er' ec' v := by
   intro r p er' ec' v q
   by_cases hr : r = k
   ·subst hr
    have ⟨q1, q2, q3⟩ := q
    unfold wY
    rw [yQ]
    refine ⟨Nat.le_succ_of_le q1, Nat.le_succ_of_le q2, ?_⟩
    simp only
    intro e1
    omega
   ·unfold wY
    rw [ur _ _ hr]
    exact q
  cases hz : (st t).t with
  | als r p er' ec' => simp [hz] at q ⊢; exact ⟨q.1, als q.2⟩
  | ptr r p er' ec' => simp [hz] at q ⊢; exact ⟨q.1, ptr q.2⟩
  | _ => simp [hz] at q ⊢; exact q
theorem xz.retag {st1 : St} (hg : xz P C o a w st1) (k : Nat) (x y : A) (hx : (st1 k).t = .own x) (hl : LeA x y) : xz P C o a w (upd st1 k ⟨.own y, (st1 k).er + 1, (st1 k).ec + 1⟩) :=
 fun r m K Q hk => hg r m K Q fun S Fp a' w' hs => hk S Fp a' w' (hs.retag k x y hx hl)
def zf5 (d : Nat) (o : Oper) : Option (Nat × Nat × Array (Nat × Operand)) := match o.op with | .buildSlice t len ps => if o.dst = some d then some (t, len, ps) else none | _ => none
abbrev HO := List H × List Ob
def hoH (l : List HO) : List H := List.rec [] (fun x _ r => x.1 ++ r) l
def hoO (l : List HO) : List Prop := List.rec [] (fun x _ r => x.2.map Ob.p ++ r) l
def hoB (l : List HO) : List Ob := List.rec [] (fun x _ r => x.2 ++ r) l
theorem z2X (l : List HO) : hoO l = (hoB l).map Ob.p := by
 induction l with
 | nil => rfl
 | cons x l ih =>
  show x.2.map Ob.p ++ hoO l = (x.2 ++ hoB l).map Ob.p
  rw [List.map_append, ih]
def Hq {t b : Bool} (h : t = b) : HO := ([.b b], [ob h])
abbrev qT : HO := Hq (Eq.refl true)
abbrev qF : HO := Hq (Eq.refl false)
def Ha {x y : A} (h : x = y) : HO := ([.a y], [ob h])
def Hs {x : Option A}  (h : x = some y) : HO := ([.a y], [ob h])
def Hl {x y : List A} (h : x = y) : HO := ([.l y], [ob h])
variable {p : Prop}
def Hm {x y : List A} (h : p ∧ x = y) : HO := ([.l y], [ob h])
def Hx (a : H)  (h : p) : HO := ([a], [ob h])
def Hn (h : p) : HO := ([], [ob h])
def Hh (a : H) : HO := ([a], [])
variable {i : Int}
def Hi (f : α → A) {l : List α}  {u : α} (h : idx l i = some u) : HO := ([.a (f u)], [ob (i0 h), ob (iM f h)])
def Hc {c : Ctr}  {α ρ : Type} {enc : α → List A} {encR : ρ → A} {F : α → Option ρ}  {inj : ∀ x y, enc x = enc y → x = y} (h : c.Has (spF k enc encR F gives inj)) {x : α} {r : ρ} (hr : F x = some r)  (ha : as_.map A.loose = enc x) : HO :=
 ([.g gives, .a (encR r)], [ob (Us h), ob (z9W h hr ha)])
def Hg {c : Ctr}   (h : c.gives k = gives) : HO := ([.g gives], [ob h])
def UM (l : List (Nat × T)) : List Nat := l.map (·.1)
section
variable {α β γ δ ε ζ η : Type} {f0 : α → A} {f1 : β → A} {f2 : γ → A} {f3 : δ → A} {f4 : ε → A} {f5 : ζ → A} {f6 : η → A}
theorem zff [h0 : vS f0] (x y : α) (h : [f0 x] = [f0 y]) : x = y := by simp only [List.cons.injEq, and_true] at h; exact h0.inj _ _ h
theorem zg3 [h0 : vS f0] [h1 : vS f1] (x y : α × β) (h : [f0 x.1, f1 x.2] = [f0 y.1, f1 y.2]) : x = y := by
 simp only [List.cons.injEq, and_true] at h
 exact Prod.ext (h0.inj _ _ h.1) (h1.inj _ _ h.2)
end
def stO {α β : Type} (r : Option (α × St × β)) : St := match r with | some (_, s, _) => s | none => ofL []
section
variable {P : Program} {tt : TT} {ctr : Ctr} {n : Fr} {Q : Exit → St → Prop}
def clS (ks : List Nat) (s : St) (d : List (Nat × T)) : List (Nat × T) := ks.map fun k => (k, (d.lookup k).getD (s k).t)
theorem z2P (ks : List Nat) (s : St) (d : List (Nat × T)) : UM (clS ks s d) = ks := by
 unfold UM clS
 rw [List.map_map]
 exact List.map_id ks
end
def q9 (sz : Nat) (es : List A) (S : zf) (h : Array Obj) (v : Value) (F : List Nat) : Prop :=
  (∀ x ∈ es, x.size = sz) ∧ ∃ p c, v = .slice p es.length c ∧ es.length ≤ c ∧ c ≤ maxLen ∧
    ((es = [] ∧ c = 0 ∧ p = none ∧ F = []) ∨
     ∃ b off arr ty l, p = some ⟨b, off, none⟩ ∧ h[b]? = some (.cells arr ty (0, 0)) ∧ off + c * sz ≤ arr.size ∧ (arr.toList.drop off).take (es.length * sz) = l ∧ zV S es l ∧ F = [b] ∧ ∀ o, S b o = none)
def QB (sz : Nat) (es : List A) : kB := {
 holds := q9 sz es
 one := by rintro S h v F ⟨_, p, c, rfl, _⟩; rfl
 frame := by
  rintro S S' h h' v F hS hF ⟨h1, p, c, rfl, h2, h3, h4⟩
  refine ⟨h1, p, c, rfl, h2, h3, h4.imp id ?_⟩
  rintro ⟨b, off, arr, ty, l, rfl, k1, k2, k3, k4, rfl, k6⟩
  have ⟨f1, f2⟩ := hF b (by simp)
  exact ⟨b, off, arr, ty, l, rfl, by rw [f1]; exact k1, k2, k3, k4.mono hS, rfl, f2⟩
 own := by
  rintro S h v F ⟨h1, p, c, rfl, h2, h3, h4⟩ k hk
  rcases h4 with ⟨_, _, _, rfl⟩ | ⟨b, off, arr, ty, l, rfl, k1, k2, k3, k4, rfl, k6⟩
  ·simp at hk
  ·rw [List.mem_singleton] at hk
   subst hk
   exact ⟨(Array.getElem?_eq_some_iff.1 k1).1, k6⟩
 idx := 0 }
def eDq (sz : Nat) (f : α → A) (l : List α) : A := .opq (QB sz (l.map f)).q
theorem z4d {t : Bool}  (hd : A.areD es = true) {cs : List Value}  (q : zw S h (.osl sz t es) cs F) : ∃ v, cs = [v] ∧ q9 sz es S h v F := by
 simp only [zw] at q
 obtain ⟨p, c, rfl, t1, t2, t3, t4, t5⟩ := q
 refine ⟨_, rfl, t4, p, c, rfl, t2, t3, ?_⟩
 rcases t5 with ⟨rfl, rfl, rfl, rfl⟩ | ⟨b, arr, ty, l, F', rfl, k1, k2, k3, k4, rfl, k6⟩
 ·exact .inl ⟨rfl, rfl, rfl, rfl⟩
 ·obtain ⟨r1, rfl⟩ := k4.areD hd
  exact .inr ⟨b, 0, arr, ty, l, rfl, k1, by omega, by simpa using k3, r1, rfl, k6⟩
instance LeA.que {α : Type} (sz : Nat) (t : Bool) (f : α → A) [h : Wq f] (l : List α) : LeA (eOs sz t f l) (eDq sz f l) := {
 rep := fun S cs q => by simp only [eOs, Rep] at q
 conc := fun S hp cs F q => by
  obtain ⟨v, rfl, q2⟩ := z4d (z0n f l h.isD) q
  simp only [eDq, zw]
  exact ⟨v, rfl, q2⟩
 val := fun cs => rfl
 tup := fun _ e => by cases e }
theorem z10 : ∀ {es : List A} {l : List Value}, (∀ x ∈ es, x.size = sz) → zV S es l → ∀ k, zV S (es.drop k) (l.drop (k * sz))
 | es, l, h, r, 0 => by simpa using r
 | [], l, h, r, k + 1 => by
  simp [zV] at r
  subst r
  simp [zV]
 | x :: es, l, h, r, k + 1 => by
  simp [zV] at r
  obtain ⟨c1, c2, rfl, r1, r2⟩ := r
  have hx : c1.length = sz := by rw [r1.len]; exact h x (by simp)
  have e : (k + 1) * sz = c1.length + k * sz := by rw [hx, Nat.add_mul]; omega
  rw [e, List.drop_append, List.drop_succ_cons, List.drop_eq_nil_of_le (show c1.length ≤ c1.length + k * sz by omega), List.nil_append, Nat.add_sub_cancel_left]
  exact z10 (fun y hy => h y (by simp [hy])) r2 k
theorem z3A [Decidable p] {m : SM Unit}  {q : Unit × List Nat × List (Nat × Ent)} (h : (if p then m else zm) st = some q) : p ∧ m st = some q := by
 by_cases hp : p
 ·rw [if_pos hp] at h; exact ⟨hp, h⟩
 ·rw [if_neg hp] at h; cases h
variable {j : Int}
section
variable {C : Ctx} {S : zf} {Fp : Nat → List Nat} {X : List Nat} {st : St} {a : Act} {w : World}
open Classical in
def zcn (tt : TT) (n : Fr) (dst : Option Nat) (t sz : Nat) (es : List A) (z vl : A) : SM Unit :=
 match vl with
 | .atom (.int _ j) => if z = .opq (QB sz es).q then (if ya tt t = some sz then (if 0 ≤ j ∧ j.toNat ≤ es.length then wrT n dst (.own (.opq (QB sz (es.drop j.toNat)).q)) else zm) else zm) else zm
 | _ => zm
def qslO (tt : TT) (n : Fr) (dst : Option Nat) (t sz : Nat) (es : List A) (x lo : Operand) : SM Unit := do
 let y ← opnd x
 let z ← take y
 let tl ← opnd lo
 let vl ← val tl
 zcn tt n dst t sz es z vl
def zeH (tt : TT) (n : Fr) (dst : Option Nat) (t sz : Nat) (es es' : List A) (x lo : Operand) : HM Unit := zH (opnd x) >>= fun y => z1R y >>= fun z => zH (opnd lo) >>= fun tl => Yx tl >>= fun vl =>
 match vl with
 | .atom (.int _ j) => wy (z = .opq (QB sz es).q) (if ya tt t = some sz then wy (0 ≤ j ∧ j.toNat ≤ es.length) (wy (es.drop j.toNat = es') (zH (wrT n dst (.own (.opq (QB sz es').q))))) else zz)
 | _ => zz
open Classical in
theorem zcZ (tt : TT) (n : Fr) (dst : Option Nat) (t sz : Nat) (es es' : List A) (x lo : Operand) : Snd (qslO tt n dst t sz es x lo) (zeH tt n dst t sz es es' x lo) := by
 refine z8 (ze _) fun y => z8 (JZ _) fun z => z8 (ze _) fun tl => z8 (wx _) fun vl => ?_
 unfold zcn
 cases vl with
 | atom u =>
  cases u with
  | int k j => exact ym (xT (ym (Vw fun e => by rw [e]; exact ze _)) (zl _))
  | _ => exact zl _
 | _ => exact zl _
open Classical in
theorem Loc.qslO (tt : TT) (n : Fr) (dst : Option Nat) (t sz : Nat) (es : List A) (x lo : Operand) : Loc (qslO tt n dst t sz es x lo) := by
 unfold Go.Own.qslO
 refine Loc.bind (Loc.opnd _) fun _ => Loc.bind (Loc.take _) fun z => Loc.bind (Loc.opnd _) fun _ => Loc.bind (Loc.val _) fun vl => ?_
 unfold Go.Own.zcn
 split
 ·exact Loc.ite (Loc.ite (Loc.ite (Loc.wrT _ _ _) Loc.fail) Loc.fail) Loc.fail
 ·exact Loc.fail
theorem z7R (q : (yi S (.opq (QB sz es).q) v ∧ F = []) ∨ ∃ cs, zw S w.heap (.opq (QB sz es).q) cs F ∧ F.Nodup ∧ v = zJ (.opq (QB sz es).q) cs) : q9 sz es S w.heap v F ∧ F.Nodup := by
 rcases q with ⟨q, _⟩ | ⟨cs, q1, q2, q3⟩
 ·simp [yi, xM, Rep, false_and, exists_false] at q
 ·simp [zw] at q1
  obtain ⟨u, rfl, q1⟩ := q1
  exact ⟨by rw [q3]; exact q1, q2⟩
theorem z33 (q : q9 sz es S h v F) : zw S h (.opq (QB sz es).q) [v] F := by
 simp only [zw]; exact ⟨v, rfl, q⟩
theorem zbx {P : Program}  (hT : yH P tt) (h : Sim C S Fp [] st a w)  {t sz : Nat}  {x lo : Operand} (ho : o.op = .slice t x (some lo) none none)    (e0 : qslO tt C.n o.dst t sz es x lo st = some (u, R, U)) : xz P C o a w (zb U st) := by
 unfold qslO at e0
 have ⟨y, _, hx, e1⟩ := bR (zr h) e0
 obtain ⟨z, R3, U3, R4, U4, h3, e2, rfl, rfl⟩ := bind_some e1
 have ⟨Fp', F, g1, g2⟩ := Vq h hx h3
 rw [zn]
 have ⟨tl, _, hl, e3⟩ := bR (zr g1) e2
 have ⟨vl, _, ql, e4⟩ := bR (xe g1 hl) e3
 unfold zcn at e4
 split at e4
 ·rename_i k j
  split at e4
  ·rename_i hz
   subst hz
   split at e4
   ·rename_i hel
    split at e4
    ·rename_i hj
     have ⟨j0, j1⟩ := hj
     have ⟨el, he, hsz⟩ := yu hT hel w
     have ⟨el', _⟩ := zj.1 ql
     have ⟨⟨t4, p, c, ev, t2, t3, t5⟩, hn⟩ := z7R g2
     have hrun := vp (P := P) (w := w) he hsz (p := p) (len := es.length) (c := c) (m := c) (lo := some (.int k j)) (hi := none) (mx := none) (.inr ⟨k, j, rfl, j0, rfl⟩) (.inl ⟨rfl, rfl⟩) (.inl ⟨rfl, rfl⟩) j1 t2 (Nat.le_refl c) (by simp)
     have hq : q9 sz (es.drop j.toNat) S w.heap (.slice (if c = j.toNat then p else p.map (·.add (j.toNat * sz))) (es.length - j.toNat) (c - j.toNat)) F := by
      refine ⟨fun y hy => t4 y (List.mem_of_mem_drop hy), _, _, by rw [List.length_drop], by rw [List.length_drop]; omega, by omega, ?_⟩
      rcases t5 with ⟨rfl, rfl, rfl, rfl⟩ | ⟨b, off, arr, ty, l, rfl, k1, k2, k3, k4, rfl, k6⟩
      ·exact .inl ⟨by simp, by simp, by simp, rfl⟩
      ·have hr := z10 t4 k4 j.toNat
       have hm : (es.length - j.toNat) * sz + j.toNat * sz = es.length * sz := by rw [← Nat.add_mul]; congr 1; omega
       have hcj : (c - j.toNat) * sz + j.toNat * sz = c * sz := by rw [← Nat.add_mul]; congr 1; omega
       by_cases hcc : c = j.toNat
       ·have : es.length = j.toNat := by omega
        refine .inr ⟨b, off, arr, ty, [], by simp [hcc], k1, by rw [hcc]; simp; omega, by simp [List.length_drop, this], ?_, rfl, k6⟩
        rw [List.drop_eq_nil_of_le (by omega)]; simp [zV]
       ·refine .inr ⟨b, off + j.toNat * sz, arr, ty, l.drop (j.toNat * sz), by simp [hcc, Addr.add_lit], k1, by omega, ?_, hr, rfl, k6⟩
        rw [List.length_drop, ← k3, List.drop_take, List.drop_drop]
        congr 1
        omega
     have ⟨Fp'', hs⟩ := jI g1 e4 (z33 hq) hn
     refine zi ?_ hs
     simp [execOp, ho, ev, el', hrun, zJ]
    ·cases e4
   ·cases e4
  ·cases e4
 ·cases e4
open Classical in
def zco (n : Fr) (dst : Option Nat) (sz : Nat) (es : List A) (x : Operand) : SM Unit := do
 let tx ← opnd x
 let y ← peek tx
 if y = .opq (QB sz es).q then wrT n dst (.d (.atom (.int .i64 (es.length : Nat)))) else zm
def zeI (n : Fr) (dst : Option Nat) (sz : Nat) (es : List A) (x : Operand) : HM Unit := zH (opnd x) >>= fun tx => JM tx >>= fun y => wy (y = .opq (QB sz es).q) (eqA (.atom (.int .i64 (es.length : Nat))) >>= fun r => zH (wrT n dst (.d r)))
open Classical in
theorem zd0 (n : Fr) (dst : Option Nat) (sz : Nat) (es : List A) (x : Operand) : Snd (zco n dst sz es x) (zeI n dst sz es x) :=
 z8 (ze _) fun _ => z8 (WI _) fun _ => ym (Xe (zL _ fun r => wrT n dst (.d r)).symm (z8 (JJ _) fun _ => ze _))
theorem zby (hT : yH P tt) (h : Sim C S Fp [] st a w)  {t sz : Nat}  {x : Operand} (hty : wb tt t = true) (ho : o.op = .call ⟨.builtin .len, ⟨[x]⟩, ⟨[t]⟩⟩)    (e : zco C.n o.dst sz es x st = some (u, R, U)) : xz P C o a w (zb U st) := by
 unfold zco at e
 have ⟨tx, _, hx, e1⟩ := bR (zr h) e
 have ⟨y, _, qx, e2⟩ := bR (Zz h hx) e1
 split at e2
 ·rename_i hc
  subst hc
  have ⟨F, g⟩ := z08 qx
  have ⟨_, p, c, ev, _⟩ := g
  have ⟨el, hel⟩ := uj hT hty
  have ⟨Fp', hs⟩ := yk h e2 (x := .d _) (zj.2 ⟨rfl, rfl⟩)
  refine zi ?_ hs
  simp [execOp, ho, resolve, invoke, builtin, Builtin.len_, ev, run_underlying hel, goInt]
 ·cases e2
def ZV (sz : Nat) (v : Value) (j : Int) : Value :=
 match v with
 | .slice (some p) _ _ => .pointer (some (p.add (j.toNat * sz)))
 | _ => .pointer none
theorem z2J : (ZV sz v j).oneCell' = true := by
 unfold ZV; split <;> rfl
theorem z41 (h : Sim C S Fp [] st a w) {r sz : Nat}  (hr : (st r).t = .own (.opq (QB sz es).q)) : ∃ F, q9 sz es S w.heap (Act.tv a r) F := by
 have hq := h.ent r
 unfold yf at hq
 simp [hr] at hq
 have ⟨cs, c1, c2, c3⟩ := hq
 simp [zw] at c1
 obtain ⟨v, rfl, c1⟩ := c1
 exact ⟨_, by rw [c3]; exact c1⟩
open Classical in
def qixO (tt : TT) (n : Fr) (dst : Option Nat) (t sz r : Nat) (v : Value) (es : List A) (x i : Operand) : SM Unit := do
 let tx ← opnd x
 let ti ← opnd i
 let vi ← val ti
 let e ← rdE r
 match vi with
 | .atom (.int _ j) => if tx = .als r [] e.er e.ec ∧ ZW n.pin r = some v ∧ e.t = .own (.opq (QB sz es).q) ∧ ya tt t = some sz ∧ 0 ≤ j ∧ j.toNat < es.length then wrT n dst (.d (.atom (ZV sz v j))) else zm
 | _ => zm
def zeK (tt : TT) (n : Fr) (dst : Option Nat) (t sz r : Nat) (v : Value) (es : List A) (x i : Operand) : HM Unit := zH (opnd x) >>= fun tx => zH (opnd i) >>= fun ti => Yx ti >>= fun vi => zH (rdE r) >>= fun e =>
 match vi with
 | .atom (.int _ j) => wy (tx = .als r [] e.er e.ec ∧ ZW n.pin r = some v ∧ e.t = .own (.opq (QB sz es).q) ∧ ya tt t = some sz ∧ 0 ≤ j ∧ j.toNat < es.length) (zH (wrT n dst (.d (.atom (ZV sz v j)))))
 | _ => zz
open Classical in
theorem zd2 (tt : TT) (n : Fr) (dst : Option Nat) (t sz r : Nat) (v : Value) (es : List A) (x i : Operand) : Snd (qixO tt n dst t sz r v es x i) (zeK tt n dst t sz r v es x i) := by
 refine z8 (ze _) fun tx => z8 (ze _) fun ti => z8 (wx _) fun vi => z8 (ze _) fun e => ?_
 cases vi with
 | atom u =>
  cases u with
  | int k j => exact ym (ze _)
  | _ => exact zl _
 | _ => exact zl _
open Classical in
theorem Loc.qixO (tt : TT) (n : Fr) (dst : Option Nat) (t sz r : Nat) (v : Value) (es : List A) (x i : Operand) : Loc (qixO tt n dst t sz r v es x i) := by
 unfold Go.Own.qixO
 refine Loc.bind (Loc.opnd _) fun _ => Loc.bind (Loc.opnd _) fun _ => Loc.bind (Loc.val _) fun vi => Loc.bind (Loc.rdE _) fun _ => ?_
 split
 ·exact Loc.ite (Loc.wrT _ _ _) Loc.fail
 ·exact Loc.fail
open Classical in
theorem zbA {P : Program}  (hT : yH P tt) (h : Sim C S Fp [] st a w) {o : Oper} {t sz r : Nat} {v : Value}  {x i : Operand} (ho : o.op = .indexAddr t x i)    (e0 : qixO tt C.n o.dst t sz r v es x i st = some (u, R, U)) : xz P C o a w (zb U st) := by
 unfold qixO at e0
 have ⟨tx, _, hx, e1⟩ := bR (zr h) e0
 have ⟨ti, _, hi, e2⟩ := bR (zr h) e1
 have ⟨vi, _, qi, e3⟩ := bR (xe h hi) e2
 have ⟨_, e4⟩ := bD e3
 split at e4
 ·rename_i k j
  have hq := z3A e4
  clear e4
  have ⟨hc, e4⟩ := hq
  ·obtain ⟨rfl, c2, c3, c4, c5, c6⟩ := hc
   have hs := h.pin r v (xu c2)
   have ⟨F, t4, p, c, ev, t2, t3, t5⟩ := z41 h c3
   have hxv : a.eval x = .slice p es.length c := by rw [← ev]; exact z03 hx c3 rfl
   have ⟨e', he, hsz⟩ := yu hT c4 w
   have ⟨ei, _⟩ := zj.1 qi
   rcases t5 with ⟨rfl, _⟩ | ⟨b, off, arr, ty, l, rfl, k1, k2, k3, k4, rfl, k6⟩
   ·simp at c6
   ·have hrun := qL (P := P) (b := b) (o := off) (n := es.length) (c := c) (k := k) he hsz c5 c6
    have ⟨Fp', hs'⟩ := yk h e4 (x := .d (.atom (ZV sz v j))) (v := ZV sz v j) (zj.2 ⟨rfl, z2J⟩)
    refine zi ?_ hs'
    have hvv : v = .slice (some ⟨b, off, none⟩) es.length c := by rw [← hs, ev]
    rw [hvv]
    simp [execOp, ho, ei, hxv, hrun, ZV, Addr.add_lit]
 ·cases e4
open Classical in
def qldO (tt : TT) (n : Fr) (dst : Option Nat) (t sz r : Nat) (v : Value) (j : Int) (es : List A) (y : A) (x : Operand) : SM Unit := do
 let tx ← opnd x
 let e ← rdE r
 if tx = .d (.atom (ZV sz v j)) ∧ ZW n.pin r = some v ∧ e.t = .own (.opq (QB sz es).q) ∧ es[j.toNat]? = some y ∧ wW tt t y = true ∧ y.isD = true then wrT n dst (.d y) else zm
def zeJ (tt : TT) (n : Fr) (dst : Option Nat) (t sz r : Nat) (v : Value) (j : Int) (es : List A) (y : A) (x : Operand) : HM Unit := zH (opnd x) >>= fun tx => zH (rdE r) >>= fun e =>
 wy (tx = .d (.atom (ZV sz v j)) ∧ ZW n.pin r = some v ∧ e.t = .own (.opq (QB sz es).q) ∧ es[j.toNat]? = some y ∧ wW tt t y = true ∧ y.isD = true) (zH (wrT n dst (.d y)))
open Classical in
theorem zd1 (tt : TT) (n : Fr) (dst : Option Nat) (t sz r : Nat) (v : Value) (j : Int) (es : List A) (y : A) (x : Operand) : Snd (qldO tt n dst t sz r v j es y x) (zeJ tt n dst t sz r v j es y x) :=
 z8 (ze _) fun tx => z8 (ze _) fun e => ym (ze _)
open Classical in
theorem Loc.qldO (tt : TT) (n : Fr) (dst : Option Nat) (t sz r : Nat) (v : Value) (j : Int) (es : List A) (y : A) (x : Operand) : Loc (qldO tt n dst t sz r v j es y x) := by
 unfold Go.Own.qldO
 exact Loc.bind (Loc.opnd _) fun _ => Loc.bind (Loc.rdE _) fun _ => Loc.ite (Loc.wrT _ _ _) Loc.fail
open Classical in
theorem zbz (hT : yH P tt) (h : Sim C S Fp [] st a w) {o : Oper} {t sz r : Nat} {v : Value}    {x : Operand} (ho : o.op = .load t x)    (e0 : qldO tt C.n o.dst t sz r v j es y x st = some (u, R, U)) : xz P C o a w (zb U st) := by
 unfold qldO at e0
 have ⟨tx, _, hx, e1⟩ := bR (zr h) e0
 have ⟨_, e4⟩ := bD e1
 have hq := z3A e4
 clear e4
 have ⟨hc, e4⟩ := hq
 ·obtain ⟨rfl, c2, c3, c4, c5, c6⟩ := hc
  have hs := h.pin r v (xu c2)
  have ⟨F, t4, p, c, ev, t2, t3, t5⟩ := z41 h c3
  have hxv : a.eval x = ZV sz v j := (zj.1 hx).1
  have hlt := (List.getElem?_eq_some_iff.1 c4).1
  rcases t5 with ⟨rfl, _⟩ | ⟨b, off, arr, ty, l, rfl, k1, k2, k3, k4, rfl, k6⟩
  ·simp at hlt
  ·have hvv : v = .slice (some ⟨b, off, none⟩) es.length c := by rw [← hs, ev]
   have ⟨d1, ci, d2, hl, hd1, hr⟩ := Xg k4 c4
   have hd : d1.length = j.toNat * sz := by
    rw [hd1, A.sizes_const (sz := sz) (fun z hz => t4 z (List.mem_of_mem_take hz)), List.length_take]
    congr 1
    omega
   have hsit : z5d w.heap b (off + j.toNat * sz) ci := by
    intro i u hi
    have hi2 : l[d1.length + i]? = some u := by
     rw [hl, List.append_assoc, List.getElem?_append_right (by omega), Nat.add_sub_cancel_left, List.getElem?_append_left (List.getElem?_eq_some_iff.1 hi).1]
     exact hi
    rw [← k3, List.getElem?_take] at hi2
    split at hi2
    ·rw [List.getElem?_drop] at hi2
     simp [zP, k1]
     rw [← hi2, Array.getElem?_toList, hd, Nat.add_assoc]
    ·cases hi2
   have hld := uh hT c5 (w := w) (b := b) (o := off + j.toNat * sz) hr.len hsit
   have ⟨Fp', hs'⟩ := yk h e4 (x := .d y) (v := zJ y ci) (xM.repV ⟨ci, hr, rfl⟩)
   refine zi ?_ hs'
   have ex : a.eval x = .pointer (some ⟨b, off + j.toNat * sz, none⟩) := by
    rw [hxv, hvv]; simp [ZV, Addr.add_lit]
   simp [execOp, ho, ex, Instr.loadAt, Instr.sureAddr, hld]
theorem JL {P : Program} {t ty e bty : TypeId} {i : TypeInfo} (ht : P.underlying t = some (.slice e)) (hi : P.info? e = some i) (w : World)
  (g off n c : Nat) (cur : Array Value) (hg : w.heap[g]? = some (.cells cur bty (0, 0)))
  (a : Addr) (m d : Nat) (news : List Value) (hl : news.length = m * i.size) (hnews : ∀ j u, news[j]? = some u → w.cell? (a.add j) = some u) (h1 : ∀ u ∈ news, u.oneCell' = true)
  (hroom : n + m ≤ c) (hfit : off + n * i.size + news.length ≤ cur.size) :
  (Builtin.append_ #[t, t] ty #[.slice (some ⟨g, off, none⟩) n c, .slice (some a) m d]).run P w = .ok (.slice (some ⟨g, off, none⟩) (n + m) c) (w.setRow g (ZA cur (off + n * i.size) news)) := by
 have hf := run_firstCells_some (P := P) w i.size m a m d news hl hnews
 have hst := run_storeCells_at P g (off + n * i.size) bty news 0 cur w hg (by simpa using hfit) h1
 simp only [Nat.add_zero] at hst
 rw [wg hfit] at hst
 simp [Builtin.append_, run_underlying ht, Go.sizeOf, typeInfo, hi, Builtin.lenOf, hroom, hf, Addr.add_lit, hst]
theorem z3y {P : Program} {t ty e : TypeId} {f : TypeInfo} {zv : Value} (ht : P.underlying t = some (.slice e)) (hi : P.info? e = some f) (hz : f.zero = some zv) (hzs : zv.cells.size = f.size)
    {F : List Nat} (h : Sim C S Fp (F ++ []) st a w) {es ys : List A} {v : Value} (hc : q9 f.size es S w.heap v F) (hFn : F.Nodup)
    {p : Option Addr} {d : Nat} {news : List Value} (hr : zV S ys news) (hsz2 : ∀ x ∈ ys, x.size = f.size) (hsrc : (ys = [] ∧ news = []) ∨ ∃ ad, p = some ad ∧ ∀ j u, news[j]? = some u → w.cell? (ad.add j) = some u)
    (hlim : es.length + ys.length ≤ lim) (hb : f.bytes ≤ 4096) (hD : A.areD (es ++ ys) = true) :
    ∃ v' w', (Builtin.append_ #[t, t] ty #[v, .slice p ys.length d]).run P w = .ok v' w' ∧ ∃ F', Sim C S Fp (F' ++ []) st a w' ∧ F'.Nodup ∧ q9 f.size (es ++ ys) S w'.heap v' F' := by
  have hc0 := hc
  obtain ⟨t4, q, c, rfl, t2, t3, t5⟩ := hc
  have fin : ∀ {F' : List Nat} {v' : Value} {w' : World} {cs : List Value}, zw S w'.heap (.osl f.size false (es ++ ys)) cs F' → v' = zJ (.osl f.size false (es ++ ys)) cs → q9 f.size (es ++ ys) S w'.heap v' F' := by
    intro F' v' w' cs k1 k2
    obtain ⟨u, rfl, k3⟩ := z4d hD k1
    rw [k2]; exact k3
  by_cases hy0 : ys = []
  · subst hy0
    simp [zV] at hr
    subst hr
    exact ⟨_, w, qM ht hi q p es.length c d t2 w, F, h, hFn, by simpa using hc0⟩
  · have hpos : 0 < ys.length := List.length_pos_iff.2 hy0
    rcases hsrc with ⟨hy, _⟩ | ⟨ad, rfl, hnews⟩
    · exact absurd hy hy0
    have hl2 : news.length = ys.length * f.size := by rw [hr.len, A.sizes_const hsz2]
    rcases t5 with ⟨rfl, rfl, rfl, rfl⟩ | ⟨b, off, arr, bty, l, rfl, k1, k2, k3, k4, rfl, k6⟩
    · obtain ⟨v', w', g1, F', g2, g3, cs, g4, g5⟩ := um (ty := ty) ht hi hz hzs h (es := []) (olds := []) (by simp [zC]) (by simp) (hr.concs w.heap) (by simp) hsz2 (.inl ⟨rfl, rfl, rfl⟩) hnews (by simpa using hpos) hlim hb hpos
      exact ⟨v', w', g1, F', g2, g3, fin g4 g5⟩
    · have hl1 : l.length = es.length * f.size := by rw [k4.len, A.sizes_const t4]
      by_cases hroom : es.length + ys.length ≤ c
      · have hm := Nat.mul_le_mul_right f.size hroom
        rw [Nat.add_mul] at hm
        have hfit : off + es.length * f.size + news.length ≤ arr.size := by omega
        have hrun := JL (P := P) (ty := ty) ht hi w b off es.length c arr k1 ad ys.length d news hl2 hnews (fun u hu => hr.one u hu) hroom hfit
        let w' := w.setRow b (ZA arr (off + es.length * f.size) news)
        have hheap : ∀ k, k ≠ b → w'.heap[k]? = w.heap[k]? := fun k hk => setRow_other w b k _ hk
        have hheapb : w'.heap[b]? = some (.cells (ZA arr (off + es.length * f.size) news) bty (0, 0)) := setRow_heap w b arr _ bty (0, 0) k1
        have hbF : ∀ t', b ∉ Fp t' := fun t' => h.xd t' b (by simp)
        have hbase : C.M b := h.xb b (by simp)
        refine ⟨_, w', hrun, [b], ?_, by simp, ?_⟩
        · refine h.mem (h.below.trans ⟨rfl, rfl, rfl, Nat.le_refl _, by simp [w'], fun k hk => hheap k (fun e => hk (e ▸ hbase))⟩) (fun _ _ _ h => h) ?_ h.sbase (fun t' k hk => ⟨hheap k (by rintro rfl; exact hbF t' hk), (h.free t' k hk).2.1⟩) (by simp) (by simpa using h.xd) (by simpa using h.xb)
          intro b' o' v hs
          rw [yX (h := w.heap) (h' := w'.heap) (hheap b' (by rintro rfl; rw [k6] at hs; cases hs))]
          exact h.still b' o' v hs
        · refine ⟨?_, _, c, by rw [List.length_append], by rw [List.length_append]; exact hroom, t3, .inr ⟨b, off, ZA arr (off + es.length * f.size) news, bty, l ++ news, rfl, hheapb, by simp [k2], ?_, k4.append hr, rfl, k6⟩⟩
          · intro x hx
            rcases List.mem_append.1 hx with h | h
            · exact t4 x h
            · exact hsz2 x h
          · apply List.ext_getElem?
            intro k
            rw [List.getElem?_take, List.getElem?_drop, Array.getElem?_toList, wH, List.length_append, Nat.add_mul]
            by_cases hk : k < es.length * f.size
            · rw [if_pos (by omega), if_neg (by omega), List.getElem?_append_left (by omega), ← k3, List.getElem?_take, if_pos hk, List.getElem?_drop, Array.getElem?_toList]
              cases arr[off + k]? <;> rfl
            · by_cases hk2 : k < es.length * f.size + ys.length * f.size
              · have ej : off + k - (off + es.length * f.size) = k - l.length := by omega
                rw [if_pos hk2, if_pos (by omega), List.getElem?_append_right (by omega), ej, Array.getElem?_eq_getElem (show off + k < arr.size by omega), List.getElem?_eq_getElem (show k - l.length < news.length by omega)]
                rfl
              · rw [if_neg hk2, List.getElem?_eq_none (by rw [List.length_append]; omega)]
      · have hold : ∀ j v, l[j]? = some v → w.cell? ((⟨b, off, none⟩ : Addr).add j) = some v := by
          intro j u hj
          rw [Addr.add_lit, ZN]
          simp [zP, k1]
          rw [← k3, List.getElem?_take] at hj
          split at hj
          · rw [List.getElem?_drop] at hj
            simpa using hj
          · cases hj
        have hsub : Sim C S Fp ([] ++ []) st a w := h.mem h.below (fun _ _ _ h => h) h.still.cell h.sbase (fun t' k hk => ⟨rfl, (h.free t' k hk).2.1⟩) (by simp) (fun t' k hk => by simp at hk) (fun k hk => by simp at hk)
        obtain ⟨v', w', g1, F', g2, g3, cs, g4, g5⟩ := um (ty := ty) ht hi hz hzs hsub (k4.concs w.heap) (by simp) (hr.concs w.heap) t4 hsz2 (.inr ⟨⟨b, off, none⟩, rfl, hold⟩) (d := d) (c := c) hnews (by omega) hlim hb hpos
        exact ⟨v', w', g1, F', g2, g3, fin g4 g5⟩
def z9I (tt : TT) (t sz : Nat) : Bool := match tt t with
 | some ⟨.slice e, _, _, _, _⟩ => match tt e with
  | some i => i.size == sz && decide (i.bytes ≤ 4096) && decide (0 < i.size) && i.zero.isSome
  | none => false
 | _ => false
theorem areD_app {xs ys : List A} (h1 : A.areD xs = true) (h2 : A.areD ys = true) : A.areD (xs ++ ys) = true := by
 induction xs with
 | nil => exact h2
 | cons x xs ih =>
  simp [A.areD, Bool.and_eq_true, List.cons_append] at h1 ⊢
  exact ⟨h1.1, ih h1.2⟩
open Classical in
def qapO (tt : TT) (n : Fr) (dst : Option Nat) (t sz : Nat) (es : List A) (s x : Operand) : SM Unit := do
 let ts ← opnd s
 let tx ← opnd x
 let y ← peek tx
 match y with
 | .osl s' _ ys => if s' = sz ∧ A.areD ys = true ∧ z9I tt t sz = true then (do
   let z ← take ts
   if z = .opq (QB sz es).q ∧ es.length + ys.length ≤ lim ∧ A.areD es = true then wrT n dst (.own (.opq (QB sz (es ++ ys)).q)) else zm) else zm
 | _ => zm
def zeL (tt : TT) (n : Fr) (dst : Option Nat) (t sz : Nat) (es es' : List A) (s x : Operand) : HM Unit := zH (opnd s) >>= fun ts => zH (opnd x) >>= fun tx => JM tx >>= fun y =>
 match y with
 | .osl s' _ ys => wy (s' = sz ∧ A.areD ys = true ∧ z9I tt t sz = true) (z1R ts >>= fun z => wy (z = .opq (QB sz es).q ∧ es.length + ys.length ≤ lim ∧ A.areD es = true) (wy (es ++ ys = es') (zH (wrT n dst (.own (.opq (QB sz es').q))))))
 | _ => zz
open Classical in
theorem zd3 (tt : TT) (n : Fr) (dst : Option Nat) (t sz : Nat) (es es' : List A) (s x : Operand) : Snd (qapO tt n dst t sz es s x) (zeL tt n dst t sz es es' s x) := by
 refine z8 (ze _) fun ts => z8 (ze _) fun tx => z8 (WI _) fun y => ?_
 cases y with
 | osl s' tg ys => exact ym (z8 (JZ _) fun z => ym (Vw fun e => by rw [e]; exact ze _))
 | _ => exact zl _
open Classical in
theorem Loc.qapO (tt : TT) (n : Fr) (dst : Option Nat) (t sz : Nat) (es : List A) (s x : Operand) : Loc (qapO tt n dst t sz es s x) := by
 unfold Go.Own.qapO
 refine Loc.bind (Loc.opnd _) fun _ => Loc.bind (Loc.opnd _) fun _ => Loc.bind (Loc.peek _) fun y => ?_
 split
 ·exact Loc.ite (Loc.bind (Loc.take _) fun z => Loc.ite (Loc.wrT _ _ _) Loc.fail) Loc.fail
 ·exact Loc.fail
open Classical in
theorem zbB (hT : yH P tt) (h : Sim C S Fp [] st a w)  {t sz : Nat}  {s x : Operand} (ho : o.op = .call ⟨.builtin .append, ⟨[s, x]⟩, ⟨[t, t]⟩⟩)    (e0 : qapO tt C.n o.dst t sz es s x st = some (u, R, U)) : xz P C o a w (zb U st) := by
 unfold qapO at e0
 have ⟨ts, _, hs, e1⟩ := bR (zr h) e0
 have ⟨tx, _, hx, e2⟩ := bR (zr h) e1
 have ⟨y, _, q, e3⟩ := bR (Zz h hx) e2
 cases y with
 | osl s' tg ys =>
  have hq := z3A e3
  clear e3
  obtain ⟨⟨rfl, c2, c3⟩, e3⟩ := hq
  obtain ⟨z, R7, U7, R8, U8, h7, e4, rfl, rfl⟩ := bind_some e3
  have ⟨Fp', F, g1, g2⟩ := Vq h hs h7
  rw [zn]
  have hq := z3A e4
  clear e4
  obtain ⟨⟨rfl, d2, d3⟩, e4⟩ := hq
  unfold z9I at c3
  cases ht : tt t with
  | none => simp only [ht] at c3; cases c3
  | some it =>
   have ⟨kd, a1, a2, a3, a4⟩ := it
   cases kd with
   | slice el =>
    simp only [ht] at c3
    have hel : P.underlying t = some (.slice el) := (hT _ _ ht).kind
    cases hi : tt el with
    | none => simp only [hi] at c3; cases c3
    | some i =>
     simp only [hi, Bool.and_eq_true, beq_iff_eq, decide_eq_true_eq] at c3
     obtain ⟨⟨⟨rfl, k2⟩, k3⟩, k4⟩ := c3
     have ⟨f, f1, f2, f3, f4⟩ := (hT _ _ hi).info
     have ⟨z0, hz0⟩ := Option.isSome_iff_exists.1 k4
     have ⟨zv, v1, v2, v3⟩ := f4 z0 hz0
     have hzs : zv.cells.size = f.size := by
      have := (v3 (fun _ _ => none) #[]).len
      rw [v2, ← f2] at this
      simpa using this
     have ⟨p, d, news, ev, r1, r2, r3⟩ := WF h (.inr ⟨tg, rfl⟩) c2 q
     have ⟨m1, m2⟩ := z7R g2
     rw [← f2] at m1 r2 e4
     have ⟨v, w', hrun, F', n1, n2, n3⟩ := z3y (ty := o.type) hel f1 v1 hzs g1 m1 m2 (p := p) (d := d) r1 r2 r3 d2 (by omega) (areD_app d3 c2)
     have ⟨Fp'', hs'⟩ := jI n1 e4 (z33 n3) n2
     refine zi ?_ hs'
     simp [execOp, ho, resolve, invoke, builtin, ev, hrun, zJ]
   | _ => simp only [ht] at c3; cases c3
 | _ => cases e3
theorem drM (f : α → A) (l : List α) (k : Nat) : (l.map f).drop k = (l.drop k).map f := by rw [List.map_drop]
end
def xQs (hT : yH P tt) (d sz : Nat) (es es' : List A) : XH P :=
 xAt P (zcq d) (fun n o b => qslO tt n o.dst b.1 sz es b.2.1 b.2.2) (fun n o b => zeH tt n o.dst b.1 sz es es' b.2.1 b.2.2)
  (by
   intro C S Fp st a w o b hp h u R U e
   unfold zcq at hp
   split at hp
   ·rename_i ho; cases V2 hp; exact zbx hT h ho e
   ·cases hp)
  (fun n o b => Loc.qslO _ _ _ _ _ _ _ _) (fun n o b => zcZ _ _ _ _ _ _ _ _ _)
open Classical in
def xQl (hT : yH P tt) (d t sz : Nat) (es : List A) (hty : wb tt t = true) : XH P :=
 xAt P (zcr d t) (fun n o x => zco n o.dst sz es x) (fun n o x => zeI n o.dst sz es x)
  (by
   intro C S Fp st a w o x hp h u R U e
   unfold zcr at hp
   split at hp
   ·rename_i ho
    replace hp := V2 hp
    split at hp
    ·rename_i ht; subst ht; cases hp; exact zby hT h hty ho e
    ·cases hp
   ·cases hp)
  (fun n o x => Loc.bind (Loc.opnd _) fun _ => Loc.bind (Loc.peek _) fun _ => Loc.ite (Loc.wrT _ _ _) Loc.fail) (fun n o x => zd0 _ _ _ _ _)
def xQi (hT : yH P tt) (d sz r : Nat) (v : Value) (es : List A) : XH P :=
 xAt P (z83 d) (fun n o b => qixO tt n o.dst b.1 sz r v es b.2.1 b.2.2) (fun n o b => zeK tt n o.dst b.1 sz r v es b.2.1 b.2.2)
  (by
   intro C S Fp st a w o b hp h u R U e
   unfold z83 at hp
   split at hp
   ·rename_i ho; cases V2 hp; exact zbA hT h ho e
   ·cases hp)
  (fun n o b => Loc.qixO _ _ _ _ _ _ _ _ _ _) (fun n o b => zd2 _ _ _ _ _ _ _ _ _ _)
def zfa (d : Nat) (o : Oper) : Option (Nat × Operand) := match o.op with | .load t x => if o.dst = some d then some (t, x) else none | _ => none
def xQd (hT : yH P tt) (d sz r : Nat) (v : Value) (j : Int) (es : List A) (y : A) : XH P :=
 xAt P (zfa d) (fun n o b => qldO tt n o.dst b.1 sz r v j es y b.2) (fun n o b => zeJ tt n o.dst b.1 sz r v j es y b.2)
  (by
   intro C S Fp st a w o b hp h u R U e
   unfold zfa at hp
   split at hp
   ·rename_i ho; cases V2 hp; exact zbz hT h ho e
   ·cases hp)
  (fun n o b => Loc.qldO _ _ _ _ _ _ _ _ _ _ _) (fun n o b => zd1 _ _ _ _ _ _ _ _ _ _ _)
def xQa (hT : yH P tt) (d sz : Nat) (es es' : List A) : XH P :=
 xAt P (zcu d) (fun n o b => qapO tt n o.dst b.1 sz es b.2.1 b.2.2) (fun n o b => zeL tt n o.dst b.1 sz es es' b.2.1 b.2.2)
  (by
   intro C S Fp st a w o b hp h u R U e
   unfold zcu at hp
   split at hp
   ·rename_i ho
    replace hp := V2 hp
    split at hp
    ·rename_i ht; subst ht; cases hp; exact zbB hT h ho e
    ·cases hp
   ·cases hp)
  (fun n o b => Loc.qapO _ _ _ _ _ _ _ _) (fun n o b => zd3 _ _ _ _ _ _ _ _ _)
def z8H (i : TI) : TI := match i.zero with
 | some (.osl sz true []) => { i with zero := some (.sl sz true []) }
 | _ => i
def ttS (tt : TT) (e : Nat) : TT := fun t => if t = e then (tt t).map z8H else tt t
theorem z6k {i : TI} (h : xH P t i) : xH P t (z8H i) := by
 unfold z8H
 split
 ·rename_i sz hz
  have ⟨f, f1, f2, f3, f4⟩ := h.info
  refine ⟨⟨f, f1, f2, f3, ?_⟩, h.kind, h.eqn⟩
  intro z hz'
  cases hz'
  have ⟨zv, v1, v2, v3⟩ := f4 _ hz
  refine ⟨zv, v1, by simpa [A.size] using v2, fun S hp => ?_⟩
  have q := v3 S hp
  simp only [zw] at q ⊢
  have ⟨p, c, e, h1, h2, h3, h4, h5⟩ := q
  rcases h5 with ⟨_, rfl, rfl, _⟩ | ⟨b, arr, ty, l, F', _, _, _, _, _, hF, _⟩
  ·refine ⟨?_, trivial⟩
   simp only [Rep]
   exact ⟨none, 0, e, by simp, by simp, by simp, .inl trivial⟩
  ·cases hF
 ·exact h
theorem zab (hT : yH P tt) (e : Nat) : yH P (ttS tt e) := by
 intro t i h
 unfold ttS at h
 split at h
 ·cases ht : tt t with
  | none => rw [ht] at h; cases h
  | some j =>
   rw [ht] at h
   cases h
   exact z6k (hT _ _ ht)
 ·exact hT _ _ h
def zf7 (d : Nat) (o : Oper) : Option (Nat × Operand × Operand) := match o.op with | .makeSlice t l c => if o.dst = some d then some (t, l, c) else none | _ => none
def xMs (hT : yH P tt) (d e : Nat) : XH P :=
 xAt P (zf7 d) (fun n o b => qp (ttS tt e) n o.dst b.1 b.2.1 b.2.2) (fun n o b => VE (ttS tt e) n o.dst b.1 b.2.1 b.2.2)
  (by
   intro C S Fp st a w o b hp h u R U q
   unfold zf7 at hp
   split at hp
   ·rename_i ho; cases V2 hp; exact Ul (zab hT e) h ho q
   ·cases hp)
  (fun n o b => by have q := Loc.stepO (ttS tt e) VT n ⟨o.dst, .makeSlice b.1 b.2.1 b.2.2, 0, default, default, none⟩; exact q) (fun n o b => Qs _ _ _ _ _ _)
variable {vs : List Value}
theorem z9P.mono {fv : Value}   {R R' : Value → World → Prop} (h : z9P P fv vs w R) (hr : ∀ v w', R v w' → R' v w') : z9P P fv vs w R' := by
 rcases h with ⟨k, caps, fn, h1, h2, h3, h4, h5⟩ | ⟨L, q, h1, h2, h3, h4⟩
 ·exact .inl ⟨k, caps, fn, h1, h2, h3, h4, Calls.mono h5 fun e w' ⟨v, e1, e2⟩ => ⟨v, e1, hr _ _ e2⟩⟩
 ·exact .inr ⟨L, q, h1, h2, h3, fun rd m => RoundIn.mono (h4 rd m) fun e w' ⟨v, e1, e2⟩ => ⟨v, e1, hr _ _ e2⟩⟩
def vu (pv : Value) : List PanicEntry := [{ v := pv, recovered := false }]
def Va (P : Program) (k : Nat) (args : List A) (ls : List (Value × A)) (pv : Value) : Prop :=
 (∃ fn, P.funcs[k]? = some fn ∧ (fn.name == "runtime.NumGoroutine") = false ∧ fn.body.isNone = false) ∧
 ∀ (S : zf) (w : World) (vs : List Value) (F : List Nat), y5 S w → uH (xM S) args vs → qj S w.heap (ls.map (·.2)) (ls.map (·.1)) F → F.Nodup →
  Calls P k vs.toArray w fun e w' => e = .panicked (vu pv) ∧ ∃ S' : zf, uG (fun k => w.heap.size ≤ k ∨ k ∈ F) w w' ∧ (∀ b o u, S b o = some u → S' b o = some u) ∧ (∀ b o, b < w.heap.size → b ∉ F → S' b o = S b o) ∧ y5 S' w'
def z2l (P : Program) (k : Nat) (args : List A) (ls : List (Value × A)) (died : Bool) (pv : Value) (r : A) (ys : List A) : Prop :=
 (died = false → yl P (.fn k []) args ls r ys) ∧ (died = true → Va P k args ls pv)
variable {ch : List PanicEntry}{m : Nat}
section
variable {C : Ctx} {S : zf} {Fp : Nat → List Nat} {X : List Nat} {st : St} {a : Act} {w : World}
theorem z4v {F : Fence}   {tmps : Array Value} {R : Ending → World → Prop} {u : FrameMode} (hu : u ≠ .run) (hres : ∀ w, Sim C S Fp [] st a w → LeavesIn F m P fn tmps R [] u w) :
  ∀ (Ds : List Nat) (w : World), Sim C S Fp [] st a w → Ds.Nodup → (∀ D ∈ Ds, C.M D ∧ w.heap[D]? = some (.deferred (some [])) ∧ ∀ t, D ∉ Fp t) → LeavesInM F m P fn tmps R (Ds.map z9e) u w
 | [], w, h, _, _ => hres w h
 | D :: Ds, w, h, hn, hd => by
  rw [List.nodup_cons] at hn
  have ⟨h1, h2, h3⟩ := hd D (by simp)
  refine ⟨hu, .inl ⟨D, _, rfl, run_takeDeferred h2, z4v hu hres Ds _ (h.shutD h1 h2 (fun i => V5 h2) h3) hn.2 ?_⟩⟩
  intro D' hD'
  have ⟨q1, q2, q3⟩ := hd D' (by simp [hD'])
  refine ⟨q1, ?_, q3⟩
  rw [World.putObj_heap_other (by rintro rfl; exact hn.1 hD')]
  exact q2
theorem z4S {n : Fr}   {args : List A} {R : World → Ending → World → Prop} {S : zf} {w : World} {vs : List Value} {F : List Nat} {ch : List PanicEntry} (hf : P.funcs[k]? = some fn) (hb : fn.body = some body)
  (hn : n.size = fn.ntmps) (hpin : ∀ i u, (i, u) ∈ n.pin → vs[i]? = some u) (ha : args.length ≤ fn.ntmps) (hS : y5 S w) (hq : qj S w.heap args vs F) (hF : F.Nodup)
  (h : AWP P n body (ini args) (fun ex _ => ex = .panic ch))
  (hQ : ∀ df S' Fp' st' a' w', Sim ⟨n, df, w, S, fun k => w.heap.size ≤ k ∨ k ∈ F⟩ S' Fp' [] st' a' w' → R w (.panicked ch) w') : Calls P k vs.toArray w (R w) := by
 refine (callsIn_wide (n := 0)).1 (callsIn_of_wp_marks hf hb trivial ?_ rfl)
 have ⟨Fp, hs⟩ := z4A (n := n) hpin hS hq hF (by rw [hn]; exact ha)
 rw [hn] at hs
 refine wpIn_mono (h none 0 [] w S _ S Fp _ w ⟨by simp, by simp, by simp⟩ hs) ?_
 rintro ex a' w' ⟨df', st', S', Fp', h1, h2, rfl⟩
 show LeavesInM Fence.wide 0 P fn a'.tmps (R w) a'.defers (.panicking ch) w'
 rw [h1.defers]
 exact z4v (u := .panicking ch) (C := ⟨n, df', w, S, fun k => w.heap.size ≤ k ∨ k ∈ F⟩) (by simp) (fun w2 hw2 => show R w (.panicked ch) w2 from hQ _ _ _ _ _ _ hw2) df' w' h1 h2.nodup fun D hD => ⟨(h2.old D hD).elim (fun q => by simp at q) id, h2.ent D hD, h2.off D hD⟩
end
variable {pv : Value}
theorem z28 (is : List Nat) {args xs : List A} {vals : List Value} {pv : Value} (hf : P.funcs[k]? = some fn) (hnm : (fn.name == "runtime.NumGoroutine") = false) (hb : fn.body = some body)
  (ha : args.length ≤ fn.ntmps) (hn : is.Nodup) (hbase : is.map (fun i => args[i]?) = vals.map (fun v => some (.atom v))) (hl : xs.length = vals.length)
  (h : AWP P ⟨fn.ntmps, is.zip vals⟩ body (ini (ZU args is xs)) (fun ex _ => ex = .panic (vu pv))) : Va P k args (vals.zip xs) pv := by
 refine ⟨⟨fn, hf, hnm, by rw [hb]; rfl⟩, ?_⟩
 intro S w vs F hS havs hls hF
 rw [ZC hl.symm, Wa hl.symm] at hls
 have ⟨F1, p1, p2, p3⟩ := J0 havs hn hbase hls
 refine z4S (n := ⟨fn.ntmps, is.zip vals⟩) (R := fun w e w' => e = .panicked (vu pv) ∧ ∃ S' : zf, uG (fun k => w.heap.size ≤ k ∨ k ∈ F) w w' ∧ (∀ b o u, S b o = some u → S' b o = some u) ∧ (∀ b o, b < w.heap.size → b ∉ F → S' b o = S b o) ∧ y5 S' w')
  hf hb rfl (fun i u hi => z1I p3 hi) (by rw [Vv]; exact ha) hS p1 (p2.nodup_iff.2 hF) h ?_
 intro df S' Fp' st' a' w' h1
 refine ⟨rfl, S', h1.below.mono (fun k hk => hk.imp id fun q => p2.mem_iff.1 q), fun b o u hu => h1.sinc _ _ _ hu, ?_, h1.still⟩
 intro b o hb' hbF
 exact h1.sbase b o (by rintro (hq | hq) <;> first | omega | exact hbF (p2.mem_iff.1 hq))
variable {nt : Nat}
theorem z09 {nt : Nat} (is : List Nat) {args xs : List A} {vals : List Value} {ys : List A} {died : Bool} {pv : Value} (hT : yH P tt) (hf : P.funcs[k]? = some fn) (hnm : (fn.name == "runtime.NumGoroutine") = false) (hb : fn.body = some body)
  (hn : nt = fn.ntmps) (hr : fn.results = #[]) (ha : args.length ≤ fn.ntmps) (hnd : is.Nodup) (hbase : is.map (fun i => args[i]?) = vals.map (fun v => some (.atom v))) (hl : xs.length = vals.length) (hy : is.length = ys.length)
  (h : ∀ E : Exit → St → Prop, (died = false → ∀ ex st, (ex = .normal ∨ ex = .ret) → (∀ p ∈ is.zip ys, (st p.1).t = .own p.2) → E ex st) → (died = true → ∀ st, E (.panic (vu pv)) st) →
   AWP P ⟨nt, is.zip vals⟩ body (ofL (z0q 0 (ZU args is xs))) (Qf P ⟨nt, is.zip vals⟩ [] E)) : z2l P k args (vals.zip xs) died pv (.tup []) ys := by
 constructor
 ·intro hd
  refine z0b (nt := nt) is hT hf hnm hb hn hr (by simpa using ha) hnd (by simpa using hbase) hl (fun E hE => ?_) hy
  have := h E (fun _ => hE) (fun hd' => by rw [hd] at hd'; cases hd')
  simpa using this
 ·intro hd
  subst hn
  refine z28 is hf hnm hb ha hnd hbase hl ?_
  rw [QU]
  exact h (fun ex _ => ex = .panic (vu pv)) (fun hd' => by rw [hd] at hd'; cases hd') (fun _ _ => rfl)
def zdH (tt : TT) (n : Fr) (f : Operand) (as_ : List (Operand × Nat)) (L : List Nat) : SM (List A × List A × List (Value × A)) := do
 let fs ← refArgs tt n [(f, 0)]
 let xs ← refArgs tt n as_
 let ls ← lentsA n L
 pure (fs, xs, ls)
def zc7 (tt : TT) (n : Fr) (f : Operand) (as_ : List (Operand × Nat)) (L : List Nat) : HM (List A × List A × List (Value × A)) :=
 wG tt n [(f, 0)] >>= fun fs => wG tt n as_ >>= fun xs => zH (lentsA n L) >>= fun ls => pure (fs, xs, ls)
theorem zd9 (tt : TT) (n : Fr) (f : Operand) (as_ : List (Operand × Nat)) (L : List Nat) : Snd (zdH tt n f as_ L) (zc7 tt n f as_ L) :=
 z8 (wh _ _ _) fun fs => z8 (wh _ _ _) fun xs => z8 (ze _) fun ls => yV _
def z5f (P : Program) (n : Fr) (o : Oper) (st : St) (ch : List PanicEntry) : Prop :=
 ∀ (C : Ctx) (S : zf) (Fp : Nat → List Nat) (a : Act) (w : World), C.n = n → Sim C S Fp [] st a w → ∀ (rd : Option Nat) (m : Nat) (K : Act → World → Prop) (Q : Exit → Act → World → Prop), (∀ S' Fp' st' w', Sim C S' Fp' [] st' a w' → Q (.panic ch) a w') → o.wpIn (fen rd) m P a w K Q
variable {tys : Array TypeId}{args : Array Operand}{xs0 : List A}{ls : List (Value × A)}{f : Operand}
theorem zc6 {P : Program} {tt : TT} {n : Fr}     (hd : Va P k xs0 ls pv) {o : Oper} {f : Operand} {args : Array Operand} {tys : Array TypeId} {L : List Nat} {st : St}
  (ho : o.op = .call { callee := .value f, args := args, argTypes := tys }) (hsz : args.size = tys.size) {xs : List A} {R : List Nat} {U : List (Nat × Ent)} (e : zdH tt n f (args.toList.zip tys.toList) L st = some (([.fn k []], xs, ls), R, U)) (hx : Yy xs xs0) : z5f P n o st (vu pv) := by
 intro C S Fp a w hC h rd m K Q hQ
 subst hC
 unfold zdH at e
 obtain ⟨fs, R1, U1, R2, U2, e1, e2, rfl, rfl⟩ := bind_some e
 have ⟨S1, Fp1, g1, g2, g3⟩ := xA h e1
 obtain ⟨xs', R3, U3, R4, U4, e3, e4, rfl, rfl⟩ := bind_some e2
 have ⟨S2, Fp2, j1, j2, j3⟩ := xA g1 e3
 obtain ⟨ls', R5, U5, R6, U6, e5, e6, rfl, rfl⟩ := bind_some e4
 have ⟨Fp3, F, k1, k2, k3⟩ := WU j1 e5
 obtain ⟨q1, rfl, rfl⟩ := xU e6
 simp only [Prod.mk.injEq] at q1
 obtain ⟨rfl, rfl, rfl⟩ := q1
 have hmapargs : (args.toList.zip tys.toList).map (fun p => a.eval p.1) = (args.map a.eval).toList := by
  have : (args.toList.zip tys.toList).map (fun p => a.eval p.1) = ((args.toList.zip tys.toList).map (·.1)).map a.eval := by rw [List.map_map]; rfl
  rw [this, List.map_fst_zip (by simp [hsz])]
  simp
 rw [hmapargs] at j3
 have hF : F.Nodup := by simpa using k1.xn
 have ⟨⟨fn, h2, h3, h4⟩, hcall⟩ := hd
 have h5 := hcall S2 w _ F j1.still (hx.all _ _ j3) k2 hF
 have ⟨cs0, hfv, hval⟩ := g3.1
 simp only [Rep] at hfv
 obtain ⟨us, r1, r2, rfl⟩ := hfv
 have hus : us = [] := by
  have q := WL r1 r2
  cases us <;> first | rfl | exact q.elim
 subst hus
 have h1 : a.eval f = .func (.func k) #[] #[] := hval
 have hexec : (execOp a.eval o).run P w = .ok (.enter k (args.map a.eval).toList.toArray) w := by
  have hc := Xf (P := P) h2 h3 h4 (args.map a.eval) w
  simp only [execOp, ho, resolve, h1, Deferred.ofValue, Sem.run_bind, Sem.run_pure, Result.andThen_ok, invoke, Array.empty_append, Array.append_empty]
  rw [hc]
 refine ⟨fun _ _ => trivial, ?_⟩
 rw [qK hexec (by simp), Oper.uponIn_enter]
 refine ⟨fun h => (by cases h), CallsIn.mono (X9 h5 rd (m - 1)) ?_⟩
 rintro e' w' ⟨rfl, S', b1, b2, b3, b4⟩
 exact hQ _ _ _ _ (k1.lentCall (Y := []) b1 b2 b3 b4 (by simp) (by simp))
variable {ops : Array Oper}{ctr : Ctr}
theorem z2B {rd : Option Nat} {m : Nat}    (hT : yH P tt) (hC : vT P ctr)  {Q : Exit → Act → World → Prop}  (rest : List Oper) : ∀ (l : List Oper) {st st' : St} {S : zf} {Fp : Nat → List Nat} {a : Act} {w : World}, Sim C S Fp [] st a w → z6z tt ctr C.n ops l st = some st' →
  (∀ S Fp a' w', Sim C S Fp [] st' a' w' → wpListIn (fen rd) m P ops Q rest a' w') → wpListIn (fen rd) m P ops Q (l ++ rest) a w
 | [], st, st', S, Fp, a, w, h, e, hQ => by
  simp [z6z, Option.some.injEq] at e
  subst e
  exact hQ _ _ _ _ h
 | o :: os, st, st', S, Fp, a, w, h, e, hQ => by
  simp [z6z] at e
  cases hs : stepG tt ctr C.n ops o st with
  | none => simp [hs] at e
  | some q =>
   have ⟨u, R, U⟩ := q
   simp [hs] at e
   refine wpListIn_step fun K hK => ?_
   exact KR hT hC h hs rd m K Q fun S' Fp' a' w' h' => hK _ _ (z2B hT hC rest os h' e hQ)
theorem AWP.regDie (hT : yH P tt) (hC : vT P ctr) {id : Nat}  {l1 l2 : List Oper}   (hops : ops.toList = l1 ++ o :: l2) (hg : o.guard = none) (h1 : z8M tt ctr n ops l1 st (fun st1 => z5f P n o st1 ch)) (hQ : ∀ st', Q (.panic ch) st') : AWP P n (.region id ops false) st Q := by
 intro rd m df w0 S0 M S Fp a w hc hs
 have ⟨st1, h2, h3⟩ := KU _ _ h1
 refine wpIn_region_list ?_
 rw [hops]
 refine z2B (C := ⟨n, df, w0, S0, M⟩) hT hC (o :: l2) l1 hs h2 fun S' Fp' a' w' h' => ?_
 refine wpListIn_step fun K hK => ?_
 simp [Region.wanted, hg]
 exact h3 _ _ _ _ _ rfl h' rd m K _ fun S2 Fp2 st2 w2 h2 => hc.fin h2 (hQ st2)
def regOf : Code → Option (Array Oper)
 | .region _ ops false => some ops
 | .seq (.region _ ops false) _ => some ops
 | _ => none
def z86 (o : Oper) : Option (Operand × List (Operand × Nat)) :=
 match o.guard with
 | some _ => none
 | none =>
  match o.op with
  | .call ⟨.value f, args, tys⟩ => if args.size = tys.size then some (f, args.toList.zip tys.toList) else none
  | _ => none
def zdI (X : XH P) (tt : TT) (ctr : Ctr) (n : Fr) (c : Code) (i : Nat) (L : List Nat) (st : St) (hs : List H) : Option (List A × List A × List (Value × A) × List Prop) :=
 match regOf c with
 | none => none
 | some ops =>
  match z3m X tt ctr n ops (ops.toList.take i) st hs with
  | none => none
  | some (st1, hs1, ob, _) =>
   match ops.toList.drop i with
   | [] => none
   | o :: _ =>
    match z86 o with
    | none => none
    | some (f, as_) =>
     match zc7 tt n f as_ L st1 hs1 with
     | none => none
     | some ((fs, xs, ls), _, _, _, ob') => some (fs, xs, ls, ob ++ ob')
theorem Xh : ∀ fs : List Fm, Q (.panic ch) st → Qf P n fs Q (.panic ch) st
 | [], h => h
 | .seq _ :: fs, h => Xh fs h
 | .blk _ :: fs, h => Xh fs h
 | .pre _ :: fs, h => Xh fs h
 | .rnd _ _ :: fs, h => Xh fs h
theorem AWP.regOf (e : Own.regOf c = some ops) (h : ∀ id (Q : Exit → St → Prop), (∀ st', Q (.panic ch) st') → AWP P n (.region id ops false) st Q) (hQ : ∀ st', Q (.panic ch) st') : AWP P n c st Q := by
 unfold Own.regOf at e
 split at e
 ·cases e; exact h _ _ hQ
 ·cases e; exact AWP.seq (h _ _ fun st' => hQ st')
 ·cases e
theorem yD6 {n : Fr} {Q : Exit → St → Prop} (X : XH P) (hT : yH P tt) (hC : vT P ctr) {c : Code} {fs : List Fm} {st : St} (i : Nat) (L : List Nat)     (hd : Va P k xs0 ls pv) (xs : List A) (hx : Yy xs xs0) (Lh : List HO)
  (e : zdI X tt ctr n c i L st (hoH Lh) = some ([.fn k []], xs, ls, hoO Lh)) (hQ : ∀ st', Q (.panic (vu pv)) st') : AWP P n c st (Qf P n fs Q) := by
 unfold zdI at e
 split at e
 ·cases e
 rename_i ops hr
 split at e
 ·cases e
 rename_i st1 hs1 ob lg h1
 split at e
 ·cases e
 rename_i o l2 h2
 split at e
 ·cases e
 rename_i f as_ h3
 split at e
 ·cases e
 rename_i fs' xs' ls' R U hs2 ob' h4
 simp [Option.some.injEq, Prod.mk.injEq] at e
 obtain ⟨rfl, rfl, rfl, ho⟩ := e
 have hall : Q2 (hoO Lh) := by rw [z2X]; exact K7 _
 rw [← ho] at hall
 have ⟨o1, o2⟩ := y7 hall
 refine AWP.regOf hr (ch := vu pv) (fun id Q' hQ' => ?_) (fun st' => Xh fs (hQ st'))
 unfold z86 at h3
 split at h3
 ·cases h3
 rename_i hg
 split at h3
 ·rename_i f0 args tys hop
  split at h3
  ·rename_i hsz
   cases h3
   refine AWP.regDie hT (hC.withE X.ok) (l1 := ops.toList.take i) (l2 := l2) (o := o) (by rw [← h2, List.take_append_drop]) hg (UO _ _ _ h1 o1 ?_) hQ'
   exact zc6 hd hop hsz (zd9 tt n _ _ L _ _ _ _ _ _ _ h4 o2) hx
  ·cases h3
 ·cases h3
def z0N (k : IntKind) (x y : Int) : Int := k.wrap (x * 2 ^ (min y.toNat k.bits))
def shlO (n : Fr) (dst : Option Nat) (x y : Operand) : SM Unit := do
 let tx ← opnd x
 let vx ← val tx
 let ty ← opnd y
 let vy ← val ty
 match vx, vy with
 | .atom (.int k p), .atom (.int _ q) => if 0 ≤ q then wrT n dst (.d (.atom (.int k (z0N k p q)))) else zm
 | _, _ => zm
def zeE (n : Fr) (dst : Option Nat) (x y : Operand) : HM Unit := zH (opnd x) >>= fun tx => Yx tx >>= fun vx => zH (opnd y) >>= fun ty => Yx ty >>= fun vy =>
 match vx, vy with
 | .atom (.int k p), .atom (.int _ q) => wy (0 ≤ q) (zH (wrT n dst (.d (.atom (.int k (z0N k p q))))))
 | _, _ => zH zm
theorem zcY (n : Fr) (dst : Option Nat) (x y : Operand) : Snd (shlO n dst x y) (zeE n dst x y) :=
 z8 (ze _) fun _ => z8 (wx _) fun _ => z8 (ze _) fun _ => z8 (wx _) fun _ => by
  split
  ·exact ym (ze _)
  ·exact ze _
theorem Loc.shlO (n : Fr) (dst : Option Nat) (x y : Operand) : Loc (shlO n dst x y) := by
 unfold Go.Own.shlO
 refine Loc.bind (Loc.opnd _) fun _ => Loc.bind (Loc.val _) fun _ => Loc.bind (Loc.opnd _) fun _ => Loc.bind (Loc.val _) fun _ => ?_
 split
 ·exact Loc.ite (Loc.wrT _ _ _) Loc.fail
 ·exact Loc.fail
section
variable {C : Ctx} {S : zf} {Fp : Nat → List Nat} {st : St} {a : Act} {w : World}
theorem zbg (h : Sim C S Fp [] st a w)  {xt yt : Nat} {x y : Operand} (ho : o.op = .binOp .shl xt x y yt)    (e0 : shlO C.n o.dst x y st = some (u, R, U)) : xz P C o a w (zb U st) := by
 unfold shlO at e0
 obtain ⟨tx, R1, U1, R2, U2, h1, e1, rfl, rfl⟩ := bind_some e0
 obtain ⟨rfl, hx⟩ := zr h h1
 obtain ⟨vx, R3, U3, R4, U4, h3, e2, rfl, rfl⟩ := bind_some e1
 obtain ⟨rfl, qx⟩ := xe h hx h3
 simp only [zb, List.nil_append] at e2 ⊢
 obtain ⟨ty, R5, U5, R6, U6, h5, e3, rfl, rfl⟩ := bind_some e2
 obtain ⟨rfl, hy⟩ := zr h h5
 obtain ⟨vy, R7, U7, R8, U8, h7, e4, rfl, rfl⟩ := bind_some e3
 obtain ⟨rfl, qy⟩ := xe h hy h7
 simp only [zb, List.nil_append] at e4 ⊢
 split at e4
 ·rename_i k p k' q
  split at e4
  ·rename_i hq
   have ex := (zj.1 qx).1
   have ey := (zj.1 qy).1
   obtain ⟨Fp', hs'⟩ := yk h e4 (x := .d (.atom (.int k (z0N k p q)))) (v := .int k (z0N k p q)) (zj.2 ⟨rfl, rfl⟩)
   refine zi ?_ hs'
   simp [execOp, ho, ex, ey, eqGuard, binOp, Op.shift, show ¬ q < 0 by omega, z0N]
  ·exact (wj e4).elim
 ·exact (wj e4).elim
end
def zbU (o : Oper) : Option (Operand × Operand) := match o.op with | .binOp .shl _ x y _ => some (x, y) | _ => none
def za7 (P : Program) : XH P := xAt P zbU (fun n o b => shlO n o.dst b.1 b.2) (fun n o b => zeE n o.dst b.1 b.2)
  (by
   intro C S Fp st a w o b hp h u R U e
   unfold zbU at hp
   split at hp
   ·rename_i ho; cases hp; exact zbg h ho e
   ·cases hp)
  (fun n o b => Loc.shlO _ _ _ _) (fun n o b => zcY _ _ _ _)
def nlQ (sz : Nat) (l : List A) : Dpq := {
 holds := fun S v => Rep S (.sl sz false l) [v] ∧ (l = [] → v = .slice none 0 0)
 one := fun h => h.1.one _ (List.mem_singleton.2 rfl)
 mono := fun k h => ⟨h.1.mono k, h.2⟩ }
variable {l : List A}
theorem z4k : (nlQ sz l).holds S v ↔ (Rep S (.sl sz false l) [v] ∧ (l = [] → v = .slice none 0 0)) := Iff.rfl
section
variable {α : Type}
def eNl (sz : Nat) (f : α → A) (l : List α) : A := .dop (nlQ sz (l.map f))
instance (sz : Nat) (f : α → A) : Wq (eNl sz f) := ⟨fun _ => rfl⟩
instance (sz : Nat) (f : α → A) : Vb (eNl sz f) (eNl sz f) := ⟨fun _ => rfl, fun _ => rfl⟩
instance (sz : Nat) (f : α → A) : za4 (eNl sz f) 1 := ⟨fun _ => rfl⟩
theorem Zy {q : Dpq} {cs : List Value} : Rep S (.dop q) cs ↔ ∃ v, cs = [v] ∧ q.holds S v := by simp [Rep]
instance (sz : Nat) (f : α → A) (l : List α) : LeA (eNl sz f l) (eSl sz false f l) := {
 rep := by
  intro S cs h
  obtain ⟨v, rfl, h1, _⟩ := Zy.1 h
  exact h1
 conc := by
  intro S h cs F q
  have q' : Rep S (.dop (nlQ sz (l.map f))) cs ∧ F = [] := by simpa only [eNl, zw] using q
  obtain ⟨v, rfl, h1, _⟩ := Zy.1 q'.1
  have : Rep S (.sl sz false (l.map f)) [v] ∧ F = [] := ⟨h1, q'.2⟩
  simpa only [eSl, zw] using this
 val := fun cs => rfl
 tup := fun fs h => nomatch h }
theorem zbe {t : Bool}   (hl : l ≠ []) (h : Rep S (.sl sz t l) [v]) : Rep S (.dop (nlQ sz l)) [v] := by
 refine Zy.2 ⟨v, rfl, ?_, fun e => (hl e).elim⟩
 simp only [Rep] at h ⊢
 have ⟨p, c, e, h1, h2, h3⟩ := h
 exact ⟨p, c, e, (fun h => by cases h), h2, h3⟩
theorem LeA.slNl (sz : Nat) (t : Bool) (f : α → A) {l : List α} (hl : l ≠ []) : LeA (eSl sz t f l) (eNl sz f l) := {
 rep := by
  intro S cs h
  have h' : Rep S (.sl sz t (l.map f)) cs := h
  have : ∃ v, cs = [v] := by
   simp [Rep] at h'
   have ⟨p, c, e, _⟩ := h'
   exact ⟨_, e⟩
  obtain ⟨v, rfl⟩ := this
  exact zbe (by simpa using hl) h'
 conc := by
  intro S h cs F q
  have q' : Rep S (.sl sz t (l.map f)) cs ∧ F = [] := by simpa only [eSl, zw] using q
  have : ∃ v, cs = [v] := by
   have h' := q'.1
   simp [Rep] at h'
   have ⟨p, c, e, _⟩ := h'
   exact ⟨_, e⟩
  obtain ⟨v, rfl⟩ := this
  have : Rep S (.dop (nlQ sz (l.map f))) [v] ∧ F = [] := ⟨zbe (by simpa using hl) q'.1, q'.2⟩
  simpa only [eNl, zw] using this
 val := fun cs => rfl
 tup := fun fs h => nomatch h }
theorem z96 (S : zf) (sz : Nat) : Rep S (.sl sz false []) [.slice none 0 0] := by
 simp only [Rep]
 exact ⟨none, 0, rfl, (fun h => by cases h), Nat.le_refl _, (by simp), .inl trivial⟩
end
theorem KY {q : Dpq}  : yi S (.dop q) v ↔ q.holds S v := by
 constructor
 ·intro h
  simp [yi] at h
  have ⟨cs, r1, r2⟩ := h
  obtain ⟨u, rfl, g⟩ := Zy.1 r1
  have e : v = u := r2
  rw [e]
  exact g
 ·intro h
  exact xM.repV ⟨[v], Zy.2 ⟨v, rfl, h⟩, rfl⟩
open Classical in
def nlqO (n : Fr) (dst : Option Nat) (sz : Nat) (l : List A) (b : Bool) (x y : Operand) : SM Unit := do
 let tx ← opnd x
 let ty ← opnd y
 if tx = .d (.dop (nlQ sz l)) ∧ ty = .d (.atom (.slice none 0 0)) then wrT n dst (.d (.atom (.bool b))) else zm
def zeQ (n : Fr) (dst : Option Nat) (sz : Nat) (l : List A) (b : Bool) (x y : Operand) : HM Unit := zH (opnd x) >>= fun tx => zH (opnd y) >>= fun ty => wy (tx = .d (.dop (nlQ sz l)) ∧ ty = .d (.atom (.slice none 0 0))) (zH (wrT n dst (.d (.atom (.bool b)))))
open Classical in
theorem zd5 (n : Fr) (dst : Option Nat) (sz : Nat) (l : List A) (b : Bool) (x y : Operand) : Snd (nlqO n dst sz l b x y) (zeQ n dst sz l b x y) := z8 (ze _) fun _ => z8 (ze _) fun _ => ym (ze _)
open Classical in
theorem Loc.nlqO (n : Fr) (dst : Option Nat) (sz : Nat) (l : List A) (b : Bool) (x y : Operand) : Loc (nlqO n dst sz l b x y) := by
 unfold Go.Own.nlqO
 exact Loc.bind (Loc.opnd _) fun _ => Loc.bind (Loc.opnd _) fun _ => Loc.ite (Loc.wrT _ _ _) Loc.fail
theorem zbJ (h : (nlQ sz l).holds S v) : z5i v = some l.isEmpty := by
 have ⟨h1, h2⟩ := z4k.1 h
 cases l with
 | nil => rw [h2 rfl]; rfl
 | cons a l =>
  simp only [Rep] at h1
  have ⟨p, c, e, _, _, _, h3⟩ := h1
  rcases h3 with h3 | ⟨b, o, l', rfl, _⟩
  ·cases h3
  ·cases e
   rfl
theorem zbL (hT : yH P tt)  (hty : wb tt t = true)   (hv : z5i v = some b) (w : World) : (Op.equal t v (.slice none 0 0)).run P w = .ok b w := by
 have ⟨el, hel⟩ := uj hT hty
 unfold Op.equal Op.maxDepth
 show (Op.equalIn (9999 + 1) t v _).run P w = _
 generalize 9999 = q
 unfold Op.equalIn
 simp [Sem.run_bind, run_underlying hel, Result.andThen_ok]
 cases v with
 | slice p l c => cases p <;> (simp [z5i, Option.some.injEq] at hv; subst hv; simp)
 | _ => cases hv
theorem z7W (hT : yH P tt)       (h : Sim C S Fp [] st a w) {o : Oper} {t yt sz : Nat}  {neg b : Bool} {x y : Operand} (hty : wb tt t = true) (hb : b = (neg ^^ l.isEmpty))
  (ho : o.op = .binOp (if neg then .neq else .eql) t x y yt) {u : Unit} {R : List Nat} {U : List (Nat × Ent)} (e0 : nlqO C.n o.dst sz l b x y st = some (u, R, U)) : xz P C o a w (zb U st) := by
 unfold nlqO at e0
 have ⟨tx, _, hx, e1⟩ := bR (zr h) e0
 have ⟨ty, _, hy, e2⟩ := bR (zr h) e1
 split at e2
 ·rename_i hc
  obtain ⟨rfl, rfl⟩ := hc
  have ey := (zj.1 hy).1
  have hv := zbJ (KY.1 (show yi S (.dop (nlQ sz l)) (a.eval x) from hx))
  have heq := zbL hT hty hv w
  have ⟨Fp', hs⟩ := yk h e2 (x := .d (.atom (.bool b))) (zj.2 ⟨rfl, rfl⟩)
  refine zi ?_ hs
  subst hb
  cases hvx : a.eval x with
  | slice p n c =>
   rw [hvx] at hv heq
   cases neg with
   | _ => simp [execOp, ho, hvx, ey, eqGuard, Go.binOp, heq]
  | _ => rw [hvx] at hv; cases hv
 ·cases e2
def zbV (neg : Bool) (d t : Nat) (o : Oper) : Option (Operand × Operand) := match o.op with | .binOp .eql t' x y _ => if neg = false ∧ o.dst = some d then (if t' = t then some (x, y) else none) else none | .binOp .neq t' x y _ => if neg = true ∧ o.dst = some d then (if t' = t then some (x, y) else none) else none | _ => none
def za8 (hT : yH P tt) (d t sz : Nat) (l : List A) (neg b : Bool) (hty : wb tt t = true) (hb : b = (neg ^^ l.isEmpty)) : XH P :=
 xAt P (zbV neg d t) (fun n o q => nlqO n o.dst sz l b q.1 q.2) (fun n o q => zeQ n o.dst sz l b q.1 q.2)
  (by
   intro C S Fp st a w o q hp h u R U e
   unfold zbV at hp
   split at hp
   ·rename_i ho
    split at hp
    ·rename_i hc
     obtain ⟨rfl, _⟩ := hc
     split at hp
     ·rename_i ht; subst ht; cases hp; exact z7W hT h hty hb (by simpa using ho) e
     ·cases hp
    ·cases hp
   ·rename_i ho
    split at hp
    ·rename_i hc
     obtain ⟨rfl, _⟩ := hc
     split at hp
     ·rename_i ht; subst ht; cases hp; exact z7W hT h hty hb (by simpa using ho) e
     ·cases hp
    ·cases hp
   ·cases hp)
  (fun n o q => Loc.nlqO _ _ _ _ _ _ _) (fun n o q => zd5 _ _ _ _ _ _ _)
open Classical in
def reO (n : Fr) (dst : Option Nat) (y0 y1 : A) (x : Operand) : SM Unit := do
 let tx ← opnd x
 if tx = .d y0 then wrT n dst (.d y1) else zm
def reH (n : Fr) (dst : Option Nat) (y0 y1 : A) (x : Operand) : HM Unit := zH (opnd x) >>= fun tx => wy (tx = .d y0) (zH (wrT n dst (.d y1)))
open Classical in
theorem zfK (n : Fr) (dst : Option Nat) (y0 y1 : A) (x : Operand) : Snd (reO n dst y0 y1 x) (reH n dst y0 y1 x) := z8 (ze _) fun _ => ym (ze _)
open Classical in
theorem Loc.reO (n : Fr) (dst : Option Nat) (y0 y1 : A) (x : Operand) : Loc (reO n dst y0 y1 x) := by
 unfold Go.Own.reO
 exact Loc.bind (Loc.opnd _) fun _ => Loc.ite (Loc.wrT _ _ _) Loc.fail
def zeX (d : Nat) (o : Oper) : Option Operand := match o.op with | .assign x => if o.dst = some d then some x else none | .move x => if o.dst = some d then some x else none | _ => none
variable {y0 y1 : A}
theorem zbw (h : Sim C S Fp [] st a w)   (hl : ∀ S v, yi S y0 v → yi S y1 v) {x : Operand} (ho : o.op = .assign x ∨ o.op = .move x)    (e0 : reO C.n o.dst y0 y1 x st = some (u, R, U)) : xz P C o a w (zb U st) := by
 unfold reO at e0
 have ⟨tx, _, hx, e1⟩ := bR (zr h) e0
 split at e1
 ·rename_i hc
  subst hc
  have hx' : yi S y0 (a.eval x) := hx
  have ⟨Fp', hs⟩ := yk h e1 (x := .d y1) (v := a.eval x) (hl _ _ hx')
  rcases ho with ho | ho
  ·exact zi (by simp [execOp, ho]) hs
  ·exact zi (by simp [execOp, ho]) hs
 ·cases e1
def xRe (P : Program) (d : Nat) (y0 y1 : A) (hl : ∀ S v, yi S y0 v → yi S y1 v) : XH P :=
 xAt P (zeX d) (fun n o x => reO n o.dst y0 y1 x) (fun n o x => reH n o.dst y0 y1 x)
  (by
   intro C S Fp st a w o x hp h u R U e
   unfold zeX at hp
   split at hp
   ·rename_i ho; cases V2 hp; exact zbw h hl (.inl ho) e
   ·rename_i ho; cases V2 hp; exact zbw h hl (.inr ho) e
   ·cases hp)
  (fun n o x => Loc.reO _ _ _ _ _) (fun n o x => zfK _ _ _ _ _)
theorem z7Q (sz : Nat) (S : zf) (v : Value) (h : yi S (.atom (.slice none 0 0)) v) : yi S (.dop (nlQ sz [])) v := by
 rw [(zj.1 h).1]
 exact KY.2 ⟨z96 S sz, fun _ => rfl⟩
theorem Sim.retagD (h : Sim C S Fp [] st a w) (k : Nat) (x y : A) (hx : (st k).t = .d x) (hl : LeA x y) : Sim C S Fp [] (upd st k ⟨.d y, (st k).er + 1, (st k).ec + 1⟩) a w := by
 refine { size := h.size, pin := h.pin, defers := h.defers, below := h.below, mine := h.mine, still := h.still, sinc := h.sinc, sbase := h.sbase, ent := ?_, disj := h.disj, base := h.base, xn := h.xn, xd := h.xd, xb := h.xb }
 intro t
 have q := h.ent t
 by_cases ht : t = k
 ·subst ht
  rw [yQ]
  unfold yf at q ⊢
  simp [hx] at q ⊢
  exact ⟨hl.repV q.1, q.2⟩
 ·rw [ur _ _ ht]
  unfold yf at q ⊢
  have als : ∀ {r p er' ec' v}, wZ w.heap st (Act.tv a) r p er' ec' v → wZ w.heap (upd st k ⟨.d y, (st k).er + 1, (st k).ec + 1⟩) (Act.tv a) r p er' ec' v := by
   intro r p er' ec' v q
   by_cases hr : r = k
   ·subst hr
    have ⟨q1, q2, q3⟩ := q
    unfold wZ
    rw [yQ]
    refine ⟨Nat.le_succ_of_le q1, Nat.le_succ_of_le q2, ?_⟩
    simp only
    intro e1
    omega
   ·unfold wZ
    rw [ur _ _ hr]
    exact q
  have ptr : ∀ {r p er' ec' v}, wY w.heap st (Act.tv a) r p er' ec' v → wY w.heap (upd st k ⟨.d y, (st k).er + 1, (st k).ec + 1⟩) (Act.tv a) r p er' ec' v := by
   intro r p er' ec' v q
   by_cases hr : r = k
   ·subst hr
    have ⟨q1, q2, q3⟩ := q
    unfold wY
    rw [yQ]
    refine ⟨Nat.le_succ_of_le q1, Nat.le_succ_of_le q2, ?_⟩
    trivial
   ·unfold wY
    rw [ur _ _ hr]
    exact q
  cases hz : (st t).t with
  | als r p er' ec' => simp [hz] at q ⊢; exact ⟨q.1, als q.2⟩
  | ptr r p er' ec' => simp [hz] at q ⊢; exact ⟨q.1, ptr q.2⟩
  | _ => simp [hz] at q ⊢; exact q
theorem xz.retagD {st1 : St} (hg : xz P C o a w st1) (k : Nat) (x y : A) (hx : (st1 k).t = .d x) (hl : LeA x y) : xz P C o a w (upd st1 k ⟨.d y, (st1 k).er + 1, (st1 k).ec + 1⟩) :=
 fun r m K Q hk => hg r m K Q fun S Fp a' w' hs => hk S Fp a' w' (hs.retagD k x y hx hl)
open Classical in
def lsO (tt : TT) (n : Fr) (dst : Option Nat) (d : Nat) (y0 y1 : A) (t : Nat) (x : Operand) : SM Unit :=
 z6P tt n dst t x >>= fun _ => rdE d >>= fun e => if e.t = .d y0 then wrE d ⟨.d y1, e.er + 1, e.ec + 1⟩ else zm
def lsH (tt : TT) (n : Fr) (dst : Option Nat) (d : Nat) (y0 y1 : A) (t : Nat) (x : Operand) : HM Unit :=
 (zH (opnd x) >>= fun y => z4r tt n dst t y) >>= fun _ => zH (rdE d) >>= fun e => wy (e.t = .d y0) (zH (wrE d ⟨.d y1, e.er + 1, e.ec + 1⟩))
open Classical in
theorem zfS (tt : TT) (n : Fr) (dst : Option Nat) (d : Nat) (y0 y1 : A) (t : Nat) (x : Operand) : Snd (lsO tt n dst d y0 y1 t x) (lsH tt n dst d y0 y1 t x) :=
 z8 (z8 (ze _) fun y => z3O _ _ _ _ _) fun _ => z8 (ze _) fun _ => ym (ze _)
open Classical in
theorem Loc.lsO (tt : TT) (n : Fr) (dst : Option Nat) (d : Nat) (y0 y1 : A) (t : Nat) (x : Operand) : Loc (lsO tt n dst d y0 y1 t x) := by
 unfold Go.Own.lsO
 exact Loc.bind (by have q := Loc.stepO tt VT n ⟨dst, .load t x, 0, default, default, none⟩; exact q) fun _ => Loc.bind (Loc.rdE _) fun _ => Loc.ite (Loc.wrE _ _) Loc.fail
theorem zds (hT : yH P tt)       (h : Sim C S Fp [] st a w)  {d t : Nat}  (hl : LeA y0 y1)  (ho : o.op = .load t x)    (e0 : lsO tt C.n o.dst d y0 y1 t x st = some (u, R, U)) : xz P C o a w (zb U st) := by
 unfold lsO at e0
 obtain ⟨y, R1, U1, R2, U2, h1, e1, rfl, rfl⟩ := bind_some e0
 have g := z4q hT h ho h1
 rw [zn]
 generalize zb U1 st = s1 at g e1 ⊢
 have ⟨_, e4⟩ := bD e1
 split at e4
 ·rename_i hc
  cases e4
  exact g.retagD d y0 y1 hc hl
 ·cases e4
def zf8 (d : Nat) (o : Oper) : Option (Nat × Operand) := match o.op with | .load t x => if o.dst = some d then some (t, x) else none | _ => none
def xLs (hT : yH P tt) (d : Nat) (y0 y1 : A) (hl : LeA y0 y1) : XH P :=
 xAt P (zf8 d) (fun n o b => lsO tt n o.dst d y0 y1 b.1 b.2) (fun n o b => lsH tt n o.dst d y0 y1 b.1 b.2)
  (by
   intro C S Fp st a w o b hp h u R U e
   unfold zf8 at hp
   split at hp
   ·rename_i ho; cases V2 hp; exact zds hT h hl ho e
   ·cases hp)
  (fun n o b => Loc.lsO _ _ _ _ _ _ _ _) (fun n o b => zfS _ _ _ _ _ _ _ _)
theorem nlB (neg : Bool) (f : α → A) (l : List α) : (bif neg then !l.isEmpty else l.isEmpty) = (neg ^^ (l.map f).isEmpty) := by
 cases neg <;> cases l <;> rfl
variable {cs : List Frame}
section
variable {P : Program}
theorem xq {b : Frame} {k : List Item}   : step P (lone (b.atR a (.code (.scope c) :: k)) cs w) = .next (lone (b.atR a (.code c :: .inScope c :: k)) cs w) :=
 step_lone_go (by simp [Go.stepG, Go.stepG.exec, Frame.atR])
theorem Zu {b : Frame} {k : List Item}   : step P (lone (b.atR a (.inScope c :: k)) cs w) = .next (lone (b.atR a k) cs w) :=
 step_lone_go (by simp [Go.stepG, Go.stepG.exec, Frame.atR])
theorem z3f {F : Fence} {n : Nat} {Q : Exit → Act → World → Prop}    (hQ : ∀ l a w, ¬ Q (.goto l) a w) (h : c.wpIn F n P Q a w) : (Code.scope c).wpIn F n P Q a w := by
 intro b k cs hro hb hr
 have h0 : (lone (b.atR a (.code (.scope c) :: k)) cs w).fenced P F := fenced_calm hb hr rfl
 have ⟨e, a₁, w₁, hq, harr⟩ := h b (.inScope c :: k) cs hro hb hr
 cases e with
 | normal => exact ⟨.normal, a₁, w₁, hq, .head h0 xq (StepsIn.trans harr (.one (fenced_calm hb hr rfl) Zu))⟩
 | exit id =>
  have hx : exitTo id (.inScope c :: k) = exitTo id k := by simp [exitTo]
  exact ⟨.exit id, a₁, w₁, hq, fun k' hk => .head h0 xq (harr.1 k' (by rw [hx]; exact hk)),
   fun hr' hk => let ⟨k₁, h1, h2⟩ := harr.2 hr' (by rw [hx]; exact hk); ⟨k₁, h1, .head h0 xq h2⟩⟩
 | goto l => exact (hQ l _ _ hq).elim
 | _ => exact ⟨_, a₁, w₁, hq, .of_steps (.one h0 xq) harr⟩
variable {n : Fr}
theorem AWP.scope (hQ : ∀ l st, ¬ Q (.goto l) st) (h : AWP P n c st Q) : AWP P n (.scope c) st Q := by
 intro rd m df w0 S0 M S Fp a w hc hs
 refine z3f ?_ (h rd m df w0 S0 M S Fp a w hc hs)
 rintro l a' w' ⟨df', st1, S1, Fp1, h1, h2, h3⟩
 exact hQ l _ h3
theorem z42 (hQ : ∀ l st, ¬ Q (.goto l) st) : ∀ (fs : List Fm) (l : Nat) (st : St), ¬ Qf P n fs Q (.goto l) st
 | [], l, st, h => hQ l st h
 | .seq _ :: fs, l, st, h => z42 hQ fs l st h
 | .blk _ :: fs, l, st, h => z42 hQ fs l st h
 | .pre _ :: fs, l, st, h => z42 hQ fs l st h
 | .rnd _ _ :: fs, l, st, h => z42 hQ fs l st h
theorem z7A {c c' : Code}  (e : c = .scope c') (hQ : ∀ l st, ¬ Q (.goto l) st) (h : AWP P n c' st (Qf P n fs Q)) : AWP P n c st (Qf P n fs Q) := by
 subst e
 exact AWP.scope (z42 hQ fs) h
theorem z4s {nt t : Nat} (is : List Nat) {args caps xs : List A} {vals : List Value} {r : A} {ys : List A} (hT : yH P tt) (hf : P.funcs[k]? = some fn) (hnm : (fn.name == "runtime.NumGoroutine") = false) (hb : fn.body = some body)
  (hn : nt = fn.ntmps) (hr : fn.results = #[.tmp t]) (ha : (args ++ caps).length ≤ fn.ntmps) (hnd : is.Nodup) (hbase : is.map (fun i => (args ++ caps)[i]?) = vals.map (fun v => some (.atom v))) (hl : xs.length = vals.length) (hrd : r.isD = true) (hrn : jO tt 0 r = r)
  (h : ∀ E : Exit → St → Prop, (∀ l st, ¬ E (.goto l) st) → (∀ ex st, (ex = .normal ∨ ex = .ret) → (∀ p ∈ is.zip ys, (st p.1).t = .own p.2) → (st t).t = .d r → E ex st) →
   AWP P ⟨nt, is.zip vals⟩ body (ofL (z0q 0 (ZU (args ++ caps) is xs))) (Qf P ⟨nt, is.zip vals⟩ [] E)) (hy : is.length = ys.length) : yl P (.fn k caps) args (vals.zip xs) r ys :=
 z0a is hT hf hnm hb hn hr ha hnd hbase hl hrd hrn (fun E hE => AWP.mono (h (fun ex st => (∀ l, ex ≠ .goto l) ∧ E ex st) (fun l st q => q.1 l rfl) fun ex st hx hp hq => ⟨fun l e => (by rcases hx with rfl | rfl <;> cases e), hE ex st hx hp hq⟩) fun ex st q => q.2) hy
end
def LeP (xs ys : List A) : Prop := ∀ S vs, uH (xM S) xs vs → uH (xM S) ys vs
open Classical in
def lentI (tt : TT) (n : Fr) (dst : Option Nat) (f : Operand) (aL : List (Operand × Nat)) (x : Operand) (aR : List (Operand × Nat)) (s : Nat) (fa : A) (xl xr : List A) (z z' r : A) : SM Unit := do
 let fs ← refArgs tt n [(f, 0)]
 let xs ← refArgs tt n aL
 let zs ← refArgs tt n aR
 let tx ← opnd x
 let e ← rdE s
 if fs = [fa] ∧ LeP xs xl ∧ LeP zs xr ∧ tx = .als s [.deref] e.er e.ec ∧ e.t = .own (.box z) then
  (wrE s ⟨.own (.box (.dead 1)), e.er, e.ec + 1⟩ >>= fun _ => wrE s ⟨.own (.box z'), e.er, e.ec + 2⟩ >>= fun _ => wrT n dst (mkT r))
 else zm
def z82 (tt : TT) (n : Fr) (dst : Option Nat) (f : Operand) (aL : List (Operand × Nat)) (x : Operand) (aR : List (Operand × Nat)) (s : Nat) (fa : A) (xl xr : List A) (z z' r : A) : HM Unit :=
 wG tt n [(f, 0)] >>= fun fs => wG tt n aL >>= fun xs => wG tt n aR >>= fun zs => zH (opnd x) >>= fun tx => zH (rdE s) >>= fun e =>
 wy (fs = [fa] ∧ LeP xs xl ∧ LeP zs xr ∧ tx = .als s [.deref] e.er e.ec ∧ e.t = .own (.box z)) (zH (wrE s ⟨.own (.box (.dead 1)), e.er, e.ec + 1⟩ >>= fun _ => wrE s ⟨.own (.box z'), e.er, e.ec + 2⟩ >>= fun _ => wrT n dst (mkT r)))
open Classical in
theorem z8U (tt : TT) (n : Fr) (dst : Option Nat) (f : Operand) (aL : List (Operand × Nat)) (x : Operand) (aR : List (Operand × Nat)) (s : Nat) (fa : A) (xl xr : List A) (z z' r : A) : Snd (lentI tt n dst f aL x aR s fa xl xr z z' r) (z82 tt n dst f aL x aR s fa xl xr z z' r) :=
 z8 (wh _ _ _) fun _ => z8 (wh _ _ _) fun _ => z8 (wh _ _ _) fun _ => z8 (ze _) fun _ => z8 (ze _) fun _ => ym (ze _)
open Classical in
theorem Loc.lentI (tt : TT) (n : Fr) (dst : Option Nat) (f : Operand) (aL : List (Operand × Nat)) (x : Operand) (aR : List (Operand × Nat)) (s : Nat) (fa : A) (xl xr : List A) (z z' r : A) : Loc (lentI tt n dst f aL x aR s fa xl xr z z' r) := by
 unfold Go.Own.lentI
 exact Loc.bind (Loc.refArgs _ _ _) fun _ => Loc.bind (Loc.refArgs _ _ _) fun _ => Loc.bind (Loc.refArgs _ _ _) fun _ => Loc.bind (Loc.opnd _) fun _ => Loc.bind (Loc.rdE _) fun _ => Loc.ite (Loc.bind (Loc.wrE _ _) fun _ => Loc.bind (Loc.wrE _ _) fun _ => Loc.wrT _ _ _) Loc.fail
variable {op : Oper}{xl xr : List A}{fa z z' r : A}
section
variable {C : Ctx} {S : zf} {Fp : Nat → List Nat} {st : St} {a : Act} {w : World}
theorem z4g {z : A} (h : z17 z = true) : z.size = 1 := by
 cases z <;> simp_all [z17, A.size]
theorem z59 {s er ec : Nat} {z : A} {v : Value} {b : Nat} {ty : TypeId} {l : List Value} (ht : (st s).t = .own (.box z)) (h1 : (st s).er = er) (h2 : (st s).ec = ec) (hz : z17 z = true) (hv : Act.tv a s = .pointer (some ⟨b, 0, none⟩)) (hb : w.heap[b]? = some (.cells l.toArray ty (0, 0))) (hl : l = [zJ z l])
  (h : wZ w.heap st (Act.tv a) s [.deref] er ec v) : v = zJ z l := by
 have ⟨_, _, hm⟩ := h
 simp only [ht] at hm
 rcases hm h1 (.inr h2) with ⟨q, _⟩ | ⟨_, y2, b2, o2, cs2, k1, k2, k3, k4, k5⟩
 ·cases q
 ·simp only [xc, Option.some.injEq] at k1
  subst k1
  rw [hv] at k2
  simp only [xa, VI, Option.some.injEq, Prod.mk.injEq] at k2
  obtain ⟨rfl, rfl⟩ := k2
  have hs : z.size = 1 := z4g hz
  rw [hs] at k3
  match cs2, k3 with
  | [u], _ =>
   have hu := k4 0 u rfl
   unfold zP at hu
   rw [hb] at hu
   have h0 : l.toArray[0 + 0]? = some (zJ z l) := by
    rw [List.getElem?_toArray]
    exact congrArg (fun q : List Value => q[0]?) hl
   have hu' : l.toArray[0 + 0]? = some u := hu
   rw [h0] at hu'
   cases hu'
   rw [k5]
   exact (congrArg (zJ z) hl).symm
theorem z6R {P : Program} {tt : TT} (h : Sim C S Fp [] st a w) {op : Oper} {f x : Operand} {args : Array Operand} {tys : Array TypeId} {aL aR : List (Operand × Nat)} {tx0 s : Nat} {fa z z' r : A} {xl xr : List A} (hz : z17 z = true) (hz' : z17 z' = true)
  (hl : ∀ v, yl P fa (xl ++ .atom v :: xr) [(v, z)] r [z'])
  (ho : op.op = .call { callee := .value f, args := args, argTypes := tys }) (hsz : args.size = tys.size) (hargs : args.toList.zip tys.toList = aL ++ (x, tx0) :: aR) {u : Unit} {R : List Nat} {U : List (Nat × Ent)}
  (e : lentI tt C.n op.dst f aL x aR s fa xl xr z z' r st = some (u, R, U)) : xz P C op a w (zb U st) := by
 unfold lentI at e
 obtain ⟨fs, R1, U1, R2, U2, e1, e2, rfl, rfl⟩ := bind_some e
 obtain ⟨S1, Fp1, g1, g2, g3⟩ := xA h e1
 obtain ⟨xs, R3, U3, R4, U4, e3, e4, rfl, rfl⟩ := bind_some e2
 obtain ⟨S2, Fp2, j1, j2, j3⟩ := xA g1 e3
 obtain ⟨zs, R5, U5, R6, U6, e5, e6, rfl, rfl⟩ := bind_some e4
 obtain ⟨S3, Fp3, q1, q2, q3⟩ := xA j1 e5
 rw [zn, zn, zn]
 generalize zb U5 (zb U3 (zb U1 st)) = s3 at q1 e6 ⊢
 obtain ⟨tx, _, hx, e8⟩ := bR (zr q1) e6
 obtain ⟨_, e10⟩ := bD e8
 split at e10
 ·rename_i hc
  obtain ⟨rfl, hxl, hxr, rfl, ht⟩ := hc
  obtain ⟨u1, R11, U11, R12, U12, e11, e12, rfl, rfl⟩ := bind_some e10
  cases e11
  obtain ⟨u2, R13, U13, R14, U14, e13, e14, rfl, rfl⟩ := bind_some e12
  cases e13
  simp only [zb, List.cons_append, List.nil_append] at e14 ⊢
  have hr := q1.ent s
  unfold yf at hr
  simp only [ht] at hr
  obtain ⟨cs, c1, c2, c3⟩ := hr
  have c1' := c1
  simp only [zw] at c1'
  obtain ⟨b, ty, l, F', rfl, hb, ci, hFs, hSb⟩ := c1'
  rw [hFs] at c2
  have hvs : Act.tv a s = .pointer (some ⟨b, 0, none⟩) := c3
  have hl1 := jN hz ci
  have hone : (zJ z l).oneCell' = true := ci.one1 (Xk hz) _ (by have q := List.mem_singleton_self (zJ z l); rwa [← hl1] at q)
  have hev : a.eval x = zJ z l := z59 ht rfl rfl hz hvs hb hl1 hx
  obtain ⟨hbF, hFn⟩ := List.nodup_cons.1 c2
  have hbs : b ∈ Fp3 s := by rw [hFs]; exact List.mem_cons_self
  have hFsub : ∀ k ∈ F', k ∈ Fp3 s := fun k hk => by rw [hFs]; exact List.mem_cons_of_mem _ hk
  have hblt : b < w.heap.size := (q1.free s b hbs).1
  have hs4 : Sim C S3 (Zj Fp3 s [b]) F' (upd s3 s ⟨.own (.box (.dead 1)), (s3 s).er, (s3 s).ec + 1⟩) a w := by
   refine q1.change s (.own (.box (.dead 1))) _ _ [b] q1.below (fun _ _ _ q => q) q1.still.cell q1.sbase (fun t k _ hk => ⟨rfl, (q1.free t k hk).2.1⟩) ⟨⟨_, ?_, by simp, c3⟩, _, ht⟩ (.inl ⟨_, ht⟩) (Nat.le_refl _) (Nat.lt_succ_self _) ?_ ?_ hFn ?_ ?_ ?_
   ·simp only [zw]
    refine ⟨b, ty, l, [], rfl, hb, ⟨by rw [hl1]; rfl, fun u hu => ?_, rfl⟩, rfl, hSb⟩
    rw [hl1] at hu
    rw [List.mem_singleton.1 hu]
    exact hone
   ·intro t k hts hk hk'
    rw [List.mem_singleton.1 hk] at hk'
    exact hts (q1.disj t s b hk' hbs)
   ·intro k hk
    rw [List.mem_singleton.1 hk]
    exact q1.base s b hbs
   ·exact fun t k hts hk hk' => hts (q1.disj t s k hk' (hFsub k hk))
   ·intro k hk hk'
    rw [List.mem_singleton.1 hk'] at hk
    exact hbF hk
   ·exact fun k hk => q1.base s k (hFsub k hk)
  have hmap : (args.map a.eval).toList = (aL.map fun p => a.eval p.1) ++ a.eval x :: (aR.map fun p => a.eval p.1) := by
   have h1 : (args.toList.zip tys.toList).map (fun p => a.eval p.1) = (args.map a.eval).toList := by
    have : (args.toList.zip tys.toList).map (fun p => a.eval p.1) = ((args.toList.zip tys.toList).map (·.1)).map a.eval := by rw [List.map_map]; rfl
    rw [this, List.map_fst_zip (by simp [hsz])]
    simp
   rw [← h1, hargs]
   simp
  have hact := hl (zJ z l) S3 w (a.eval f) ((args.map a.eval).toList) F' hs4.still ((g3.1.mono j2).mono q2)
   (by rw [hmap, hev]; exact Q0 (hxl _ _ (j3.mono fun _ _ q => q.mono q2)) ⟨yc.2 ⟨rfl, hone⟩, hxr _ _ q3⟩)
   ⟨F', [], rfl, .inr ⟨l, ci, hFn, rfl⟩, rfl⟩ hFn
  intro rd m K Q hK
  refine z3b ho hact rd m K Q ?_
  rintro v' w' ⟨S', F2, G, b1, b2, b3, b4, b5, b6, b7, b8⟩
  have hs' : Sim C S' (Zj Fp3 s [b]) (G ++ F2) (upd s3 s ⟨.own (.box (.dead 1)), (s3 s).er, (s3 s).ec + 1⟩) a w' := (show Sim C S3 (Zj Fp3 s [b]) (F' ++ []) _ a w by rw [List.append_nil]; exact hs4).lentCall b1 b2 b3 b4 b7 b8
  obtain ⟨G1, G2, hG, b9, b10⟩ := b6
  have hG2 : G2 = [] := b10
  subst hG2
  rw [List.nil_append] at hG
  subst hG
  have notup : ∀ fs, z' ≠ .tup fs := by rintro fs rfl; simp [z17] at hz'
  obtain ⟨cz, z1, z2, z3⟩ := b9.cells notup
  have hcz := jN hz' z1
  have hczl : cz = l := by rw [hcz, hl1]; exact congrArg (fun q => [q]) z3.symm
  subst hczl
  have hnb : ¬ (w.heap.size ≤ b ∨ b ∈ F') := by
   rintro (q | q)
   ·omega
   ·exact hbF q
  have hbG : b ∉ G := fun hk => hnb (b8 b (List.mem_append_left _ hk))
  have hheap := b1.block b hnb
  have hu4 : (upd s3 s ⟨.own (.box (.dead 1)), (s3 s).er, (s3 s).ec + 1⟩ s).t = .own (.box (.dead 1)) := by rw [yQ]
  obtain ⟨xn1, xn2, xn3⟩ := List.nodup_append.1 b7
  have hub : b ∈ Zj Fp3 s [b] s := by unfold Zj; rw [if_pos rfl]; exact List.mem_singleton.2 rfl
  have hs5 : Sim C S' (Zj (Zj Fp3 s [b]) s (b :: G)) F2 (upd (upd s3 s ⟨.own (.box (.dead 1)), (s3 s).er, (s3 s).ec + 1⟩) s ⟨.own (.box z'), (s3 s).er, (s3 s).ec + 2⟩) a w' := by
   refine hs'.change s (.own (.box z')) _ _ (b :: G) hs'.below (fun _ _ _ q => q) hs'.still.cell hs'.sbase (fun t k _ hk => ⟨rfl, (hs'.free t k hk).2.1⟩) ⟨⟨[.pointer (some ⟨b, 0, none⟩)], ?_, List.nodup_cons.2 ⟨hbG, xn1⟩, hvs⟩, _, hu4⟩ (.inl ⟨_, hu4⟩) ?_ ?_ ?_ ?_ xn2 ?_ ?_ ?_
   ·simp only [zw]
    exact ⟨b, ty, cz, G, rfl, by rw [hheap]; exact hb, z1, rfl, fun o => by rw [b3 b o hblt hbF]; exact hSb o⟩
   ·rw [yQ]; exact Nat.le_refl _
   ·rw [yQ]; exact Nat.lt_succ_self _
   ·intro t k hts hk hk'
    rcases List.mem_cons.1 hk with rfl | hk
    ·exact hts (hs'.disj t s _ hk' hub)
    ·exact hs'.xd t k (List.mem_append_left _ hk) hk'
   ·intro k hk
    rcases List.mem_cons.1 hk with rfl | hk
    ·exact hs'.base s _ hub
    ·exact hs'.xb k (List.mem_append_left _ hk)
   ·exact fun t k hts hk => hs'.xd t k (List.mem_append_right _ hk)
   ·intro k hk hk'
    rcases List.mem_cons.1 hk' with rfl | hk'
    ·exact hs'.xd s _ (List.mem_append_right _ hk) hub
    ·exact xn3 k hk' k hk rfl
   ·exact fun k hk => hs'.xb k (List.mem_append_right _ hk)
  obtain ⟨Fp5, m2⟩ := JU (X := []) (by simpa using hs5) e14 b5
  exact hK _ _ _ _ m2
 ·cases e10
end
def zf9 (d i : Nat) (o : Oper) : Option (Operand × List (Operand × Nat) × Operand × List (Operand × Nat)) := match o.op with
 | .call ⟨.value f, args, tys⟩ => if o.dst = some d ∧ args.size = tys.size then (match (args.toList.zip tys.toList).drop i with | (x, _) :: aR => some (f, (args.toList.zip tys.toList).take i, x, aR) | [] => none) else none
 | _ => none
def z3C (tt : TT) (s i : Nat)   (hz : z17 z = true) (hz' : z17 z' = true) (hl : ∀ v, yl P fa (xl ++ .atom v :: xr) [(v, z)] r [z']) (d : Nat) : XH P :=
 xAt P (zf9 d i) (fun n o b => lentI tt n o.dst b.1 b.2.1 b.2.2.1 b.2.2.2 s fa xl xr z z' r) (fun n o b => z82 tt n o.dst b.1 b.2.1 b.2.2.1 b.2.2.2 s fa xl xr z z' r)
  (by
   intro C S Fp st a w o b hp h u R U e
   unfold zf9 at hp
   split at hp
   ·rename_i f args tys ho
    split at hp
    ·rename_i hc
     split at hp
     ·rename_i x tx0 aR hd
      cases hp
      exact z6R h hz hz' hl ho hc.2 (by rw [← hd, List.take_append_drop]) e
     ·cases hp
    ·cases hp
   ·cases hp)
  (fun n o b => Loc.lentI _ _ _ _ _ _ _ _ _ _ _ _ _ _) (fun n o b => z8U _ _ _ _ _ _ _ _ _ _ _ _ _ _)
theorem leP {xs ys : List A} (h : Yy xs ys) : LeP xs ys := h.all
def blM (y : T) : Option (Nat × Bool × List A) := match y with | .own (.osl z b l) => some (z, b, l) | _ => none
theorem z7w {y : T} {q : Nat × Bool × List A} (h : blM y = some q) : y = .own (.osl q.1 q.2.1 q.2.2) := by
 unfold blM at h
 split at h
 ·cases h; rfl
 ·cases h
def blO (tt : TT) (n : Fr) (dst : Option Nat) (d t len : Nat) (ps : List (Nat × Operand)) : SM Unit :=
 vw tt n dst t len ps >>= fun _ => rdE d >>= fun e => ofO (blM e.t) >>= fun q => wrE d ⟨.own (.osl q.1 false q.2.2), e.er + 1, e.ec + 1⟩
def blH (tt : TT) (n : Fr) (dst : Option Nat) (d t len : Nat) (ps : List (Nat × Operand)) : HM Unit :=
 ZO tt n dst t len ps >>= fun _ => zH (rdE d) >>= fun e => zH (ofO (blM e.t)) >>= fun q => zH (wrE d ⟨.own (.osl q.1 false q.2.2), e.er + 1, e.ec + 1⟩)
theorem zfW (tt : TT) (n : Fr) (dst : Option Nat) (d t len : Nat) (ps : List (Nat × Operand)) : Snd (blO tt n dst d t len ps) (blH tt n dst d t len ps) :=
 z8 (Uh _ _ _ _ _ _) fun _ => z8 (ze _) fun _ => z8 (ze _) fun _ => ze _
theorem Loc.blO (tt : TT) (n : Fr) (dst : Option Nat) (d t len : Nat) (ps : List (Nat × Operand)) : Loc (blO tt n dst d t len ps) :=
 Loc.bind (by have q := Loc.stepO tt VT n ⟨dst, .buildSlice t len ⟨ps⟩, 0, default, default, none⟩; exact q) fun _ => Loc.bind (Loc.rdE _) fun _ => Loc.bind (Loc.ofO _) fun _ => Loc.wrE _ _
theorem zdU (hT : yH P tt)       (h : Sim C S Fp [] st a w)  {d t len : Nat} {ps : Array (Nat × Operand)} (ho : o.op = .buildSlice t len ps)    (e0 : blO tt C.n o.dst d t len ps.toList st = some (u, R, U)) : xz P C o a w (zb U st) := by
 obtain ⟨y, R1, U1, R2, U2, h1, e1, rfl, rfl⟩ := bind_some e0
 have g := V6 hT h ho h1
 rw [zn]
 generalize zb U1 st = s1 at g e1 ⊢
 have ⟨_, e4⟩ := bD e1
 have ⟨q, _, hq, e5⟩ := bO e4
 cases e5
 exact g.retag d _ _ (z7w hq) (@LeA.osl _ _ _ _ (z1C.refl _))
def xBl (hT : yH P tt) (d : Nat) : XH P :=
 xAt P (zf5 d) (fun n o b => blO tt n o.dst d b.1 b.2.1 b.2.2.toList) (fun n o b => blH tt n o.dst d b.1 b.2.1 b.2.2.toList)
  (by
   intro C S Fp st a w o b hp h u R U e
   unfold zf5 at hp
   split at hp
   ·rename_i ho; cases V2 hp; exact zdU hT h ho e
   ·cases hp)
  (fun n o b => Loc.blO _ _ _ _ _ _ _) (fun n o b => zfW _ _ _ _ _ _ _)
abbrev QF (b : Nat) : Value := .pointer (some ⟨b, 0, none⟩)
theorem z9G (k : Nat)  (hk : ∃ z, (st k).t = .own (.box z)) (hp : ZW n.pin k = some v) (h : ∀ b, v = QF b → AWP P n c st Q) : AWP P n c st Q := by
 intro rd m df w0 S0 M S Fp a w hc hs
 have ⟨z, hz⟩ := hk
 have ⟨b, hb⟩ := z4W hs hz
 exact h b (by rw [← hs.pin k v (xu hp), hb]) rd m df w0 S0 M S Fp a w hc hs
section
variable {C : Ctx} {S : zf} {Fp : Nat → List Nat} {st : St} {a : Act} {w : World}
open Classical in
def nrO (n : Fr) (dst : Option Nat) (b : Nat) (x : Operand) : SM Unit := do
 let tx ← opnd x
 if tx = .d (.atom (QF b)) then wrT n dst (.d (.atom (QF b))) else zm
def nrH (n : Fr) (dst : Option Nat) (b : Nat) (x : Operand) : HM Unit := zH (opnd x) >>= fun tx => wy (tx = .d (.atom (QF b))) (zH (wrT n dst (.d (.atom (QF b)))))
open Classical in
theorem zfO (n : Fr) (dst : Option Nat) (b : Nat) (x : Operand) : Snd (nrO n dst b x) (nrH n dst b x) := z8 (ze _) fun _ => ym (ze _)
open Classical in
theorem Loc.nrO (n : Fr) (dst : Option Nat) (b : Nat) (x : Operand) : Loc (nrO n dst b x) := by
 unfold Go.Own.nrO
 exact Loc.bind (Loc.opnd _) fun _ => Loc.ite (Loc.wrT _ _ _) Loc.fail
theorem zdn (h : Sim C S Fp [] st a w)  {b : Nat} {x : Operand} (ho : o.op = .nilCheck x)    (e : nrO C.n o.dst b x st = some (u, R, U)) : xz P C o a w (zb U st) := by
 unfold nrO at e
 have ⟨tx, _, hx, e1⟩ := bR (zr h) e
 split at e1
 ·rename_i hc
  subst hc
  have ⟨Fp', hs'⟩ := yk h e1 (x := .d (.atom (QF b))) (v := QF b) (zj.2 ⟨rfl, rfl⟩)
  refine zi ?_ hs'
  have ex : a.eval x = QF b := (zj.1 hx).1
  simp [execOp, ho, ex]
 ·cases e1
open Classical in
def riK (tt : TT) (n : Fr) (dst : Option Nat) (t m sz b : Nat) (tx : T) : A → SM Unit
 | .atom (.int _ j) => if tx = .d (.atom (QF b)) ∧ 0 ≤ j ∧ j.toNat < m then (if z2i tt t = some (m, sz) then wrT n dst (.d (.atom (.pointer (some ⟨b, j.toNat * sz, none⟩)))) else zm) else zm
 | _ => zm
def zeG (tt : TT) (n : Fr) (dst : Option Nat) (t m sz b : Nat) (tx : T) : A → HM Unit
 | .atom (.int _ j) => wy (tx = .d (.atom (QF b)) ∧ 0 ≤ j ∧ j.toNat < m) (if z2i tt t = some (m, sz) then zH (wrT n dst (.d (.atom (.pointer (some ⟨b, j.toNat * sz, none⟩))))) else zz)
 | _ => zz
def riO (tt : TT) (n : Fr) (dst : Option Nat) (t m sz b : Nat) (x y : Operand) : SM Unit := do
 let tx ← opnd x
 let ty ← opnd y
 let vi ← val ty
 riK tt n dst t m sz b tx vi
def riH (tt : TT) (n : Fr) (dst : Option Nat) (t m sz b : Nat) (x y : Operand) : HM Unit := zH (opnd x) >>= fun tx => zH (opnd y) >>= fun ty => Yx ty >>= fun vi => zeG tt n dst t m sz b tx vi
open Classical in
theorem zfJ (tt : TT) (n : Fr) (dst : Option Nat) (t m sz b : Nat) (x y : Operand) : Snd (riO tt n dst t m sz b x y) (riH tt n dst t m sz b x y) := by
 refine z8 (ze _) fun tx => z8 (ze _) fun ty => z8 (wx _) fun vi => ?_
 unfold riK zeG
 cases vi with
 | atom v =>
  cases v with
  | int k j => exact ym (xT (ze _) (zl _))
  | _ => exact zl _
 | _ => exact zl _
open Classical in
theorem Loc.riO (tt : TT) (n : Fr) (dst : Option Nat) (t m sz b : Nat) (x y : Operand) : Loc (riO tt n dst t m sz b x y) := by
 unfold Go.Own.riO
 refine Loc.bind (Loc.opnd _) fun _ => Loc.bind (Loc.opnd _) fun _ => Loc.bind (Loc.val _) fun _ => ?_
 unfold Go.Own.riK
 split
 ·exact Loc.ite (Loc.ite (Loc.wrT _ _ _) Loc.fail) Loc.fail
 ·exact Loc.fail
theorem zde (hT : yH P tt) (h : Sim C S Fp [] st a w)  {t m sz b : Nat} {x y : Operand} (ho : o.op = .indexAddr t x y)    (e0 : riO tt C.n o.dst t m sz b x y st = some (u, R, U)) : xz P C o a w (zb U st) := by
 unfold riO at e0
 have ⟨tx, _, hx, e1⟩ := bR (zr h) e0
 have ⟨ty, _, hy, e2⟩ := bR (zr h) e1
 have ⟨vi, _, qi, e4⟩ := bR (xe h hy) e2
 unfold riK at e4
 cases vi with
 | atom v =>
  cases v with
  | int k j =>
   simp only at e4
   split at e4
   ·rename_i hc
    obtain ⟨rfl, j0, jm⟩ := hc
    split at e4
    ·rename_i ha
     have ⟨Fp', hs'⟩ := yk h e4 (x := .d (.atom (.pointer (some ⟨b, j.toNat * sz, none⟩)))) (v := .pointer (some ⟨b, j.toNat * sz, none⟩)) (zj.2 ⟨rfl, rfl⟩)
     refine zi ?_ hs'
     have ex : a.eval x = QF b := (zj.1 hx).1
     have ey : a.eval y = .int k j := (zj.1 qi).1
     have hl : ((List.replicate m (A.dead sz)).length) = m := List.length_replicate
     have hk : vR tt t (List.replicate m (A.dead sz)) j = true := by
      unfold vR
      rw [ha]
      simp only [hl, beq_self_eq_true, Bool.true_and, j0, decide_true]
      rw [List.all_eq_true]
      intro z hz
      rw [List.eq_of_mem_replicate hz]
      exact beq_self_eq_true _
     have hr := YS hT hk (by rw [hl]; exact jm) k b 0 w
     have hz : A.sizes ((List.replicate m (A.dead sz)).take j.toNat) = j.toNat * sz := by
      rw [A.sizes_const (sz := sz) (fun z hz => by rw [List.eq_of_mem_replicate (List.mem_of_mem_take hz)]; rfl), List.length_take, hl, Nat.min_eq_left (Nat.le_of_lt jm)]
     rw [hz, Nat.zero_add] at hr
     simp [execOp, ho, ex, ey, hr]
    ·cases e4
   ·cases e4
  | _ => cases e4
 | _ => cases e4
open Classical in
def irK (tt : TT) (n : Fr) (dst : Option Nat) (t r i b : Nat) (tx : T) (vi : A) (e : Ent) : SM Unit :=
 match e.t with
 | .own (.box (.agg fs)) => if (tx = .d (.atom (.pointer (some ⟨b, A.sizes (fs.take i), none⟩))) ∧ i < fs.length) ∧ ZW n.pin r = some (QF b) then indexArrA tt n dst t (.ptr r [.deref, .fld i] e.er e.ec) vi else zm
 | _ => zm
def irO (tt : TT) (n : Fr) (dst : Option Nat) (t r i b : Nat) (x y : Operand) : SM Unit := do
 let tx ← opnd x
 let ty ← opnd y
 let vi ← val ty
 let e ← rdE r
 irK tt n dst t r i b tx vi e
def irH (tt : TT) (n : Fr) (dst : Option Nat) (t r i b : Nat) (x y : Operand) : HM Unit := zH (opnd x) >>= fun tx => zH (opnd y) >>= fun ty => Yx ty >>= fun vi => zH (rdE r) >>= fun e =>
 match e.t with
 | .own (.box (.agg fs)) => wy ((tx = .d (.atom (.pointer (some ⟨b, A.sizes (fs.take i), none⟩))) ∧ i < fs.length) ∧ ZW n.pin r = some (QF b)) (VJ tt n dst t (.ptr r [.deref, .fld i] e.er e.ec) vi)
 | _ => zz
open Classical in
theorem zfT (tt : TT) (n : Fr) (dst : Option Nat) (t r i b : Nat) (x y : Operand) : Snd (irO tt n dst t r i b x y) (irH tt n dst t r i b x y) := by
 refine z8 (ze _) fun tx => z8 (ze _) fun ty => z8 (wx _) fun vi => z8 (ze _) fun e => ?_
 unfold irK
 cases e.t with
 | own q =>
  cases q with
  | box z =>
   cases z with
   | agg fs => exact ym (Qt _ _ _ _ _ _)
   | _ => exact zl _
  | _ => exact zl _
 | _ => exact zl _
open Classical in
theorem Loc.irO (tt : TT) (n : Fr) (dst : Option Nat) (t r i b : Nat) (x y : Operand) : Loc (irO tt n dst t r i b x y) := by
 unfold Go.Own.irO
 refine Loc.bind (Loc.opnd _) fun _ => Loc.bind (Loc.opnd _) fun _ => Loc.bind (Loc.val _) fun _ => Loc.bind (Loc.rdE _) fun _ => ?_
 unfold Go.Own.irK
 split
 ·exact Loc.ite (Loc.indexArrA _ _ _ _ _ _) Loc.fail
 ·exact Loc.fail
theorem zdB (hT : yH P tt) (h : Sim C S Fp [] st a w)  {t r i b : Nat} {x y : Operand} (ho : o.op = .indexAddr t x y)    (e0 : irO tt C.n o.dst t r i b x y st = some (u, R, U)) : xz P C o a w (zb U st) := by
 unfold irO at e0
 have ⟨tx, _, hx, e1⟩ := bR (zr h) e0
 have ⟨ty, _, hy, e2⟩ := bR (zr h) e1
 have ⟨vi, _, qi, e3⟩ := bR (xe h hy) e2
 have ⟨_, e4⟩ := bD e3
 unfold irK at e4
 cases ht : (st r).t with
 | own y0 =>
  cases y0 with
  | box z0 =>
   cases z0 with
   | agg fs =>
    simp only [ht] at e4
    split at e4
    ·rename_i hc
     obtain ⟨⟨rfl, hi⟩, c2⟩ := hc
     have hs : Act.tv a r = QF b := h.pin r _ (xu c2)
     obtain ⟨z, hz⟩ : ∃ z, fs[i]? = some z := ⟨_, List.getElem?_eq_getElem hi⟩
     refine QV hT h ho (y := .ptr r [.deref, .fld i] (st r).er (st r).ec) ⟨Nat.le_refl _, Nat.le_refl _, ?_⟩ qi e4
     simp only [ht]
     rw [(zj.1 hx).1, hs]
     refine fun _ _ => ⟨rfl, z, b, A.sizes (fs.take i), ?_, ?_, rfl⟩
     ·simp [xc, hz]
     ·simp [xa, VI, hz]
    ·cases e4
   | _ => simp only [ht] at e4; cases e4
  | _ => simp only [ht] at e4; cases e4
 | _ => simp only [ht] at e4; cases e4
end
def xNr (P : Program) (d b : Nat) : XH P :=
 xAt P (zct d) (fun n o x => nrO n o.dst b x) (fun n o x => nrH n o.dst b x)
  (by
   intro C S Fp st a w o x hp h u R U e
   unfold zct at hp
   split at hp
   ·rename_i ho; cases V2 hp; exact zdn h ho e
   ·cases hp)
  (fun n o x => Loc.nrO _ _ _ _) (fun n o x => zfO _ _ _ _)
def xRi (hT : yH P tt) (d m sz b : Nat) : XH P :=
 xAt P (z83 d) (fun n o q => riO tt n o.dst q.1 m sz b q.2.1 q.2.2) (fun n o q => riH tt n o.dst q.1 m sz b q.2.1 q.2.2)
  (by
   intro C S Fp st a w o q hp h u R U e
   unfold z83 at hp
   split at hp
   ·rename_i ho; cases V2 hp; exact zde hT h ho e
   ·cases hp)
  (fun n o b => Loc.riO _ _ _ _ _ _ _ _ _) (fun n o b => zfJ _ _ _ _ _ _ _ _ _)
def xIr (hT : yH P tt) (d r i b : Nat) : XH P :=
 xAt P (z83 d) (fun n o q => irO tt n o.dst q.1 r i b q.2.1 q.2.2) (fun n o q => irH tt n o.dst q.1 r i b q.2.1 q.2.2)
  (by
   intro C S Fp st a w o q hp h u R U e
   unfold z83 at hp
   split at hp
   ·rename_i ho; cases V2 hp; exact zdB hT h ho e
   ·cases hp)
  (fun n o b => Loc.irO _ _ _ _ _ _ _ _ _) (fun n o b => zfT _ _ _ _ _ _ _ _ _)
theorem z88 {n : Nat} {x : ArN n α}  {u : α} (h : idx x.l i = some u) : i.toNat < n := by
 have := (List.getElem?_eq_some_iff.1 (iE h)).1
 rwa [x.len] at this
theorem z9H {n : Nat} {f : α → A} {s : Nat} [h : za4 f s] (x : ArN n α)  {u : α} (k : idx x.l i = some u) : A.sizes ((x.l.map f).take i.toNat) = i.toNat * s := by
 have hl := z88 k
 rw [A.sizes_const (sz := s) (fun z hz => by obtain ⟨v, _, rfl⟩ := List.mem_map.1 (List.mem_of_mem_take hz); exact h.sz v), List.length_take, List.length_map, x.len, Nat.min_eq_left (Nat.le_of_lt hl)]
theorem ixV {k : IntKind}  {e : Nat} {l : List Int} {j u : Int} (hf : ∀ x, wW tt e (eI k x) = true) (h : idx l j = some u)  (hm : l.length = m) :
  0 ≤ j ∧ j < (m : Int) ∧ wW tt e (eI k u) = true ∧ (eI k u).isD = true ∧ ((l.map (eI k)).take j.toNat).all (fun z => z.size == (eI k u).size) = true := by
 have h1 := i0 h
 have h2 := (List.getElem?_eq_some_iff.1 (iE h)).1
 refine ⟨h1, by omega, hf u, rfl, ?_⟩
 rw [← List.map_take, List.all_map, List.all_eq_true]
 intro x _
 simp [eI, A.size]
def zbY (d : Nat) (o : Oper) : Option (Nat × Operand × Operand) := match o.op with | .index t x i => if o.dst = some d then some (t, x, i) else none | _ => none
def z4B (tt : TT) (n : Fr) (dst : Option Nat) (t : Nat) (x i : Operand) : HM Unit := zH (opnd x) >>= fun tx => Yx tx >>= fun vx => zH (opnd i) >>= fun ti => Yx ti >>= fun vi =>
 match vx, vi with
 | .agg fs, .atom (.int _ j) =>
  match z87 tt t with
  | some (m, e) => z2h (fs[j.toNat]?) >>= fun y => wy (0 ≤ j ∧ j < (m : Int) ∧ wW tt e y = true ∧ y.isD = true ∧ (fs.take j.toNat).all (fun z => z.size == y.size) = true) (zH (wrT n dst (.d y)))
  | none => zz
 | _, _ => zz
theorem z6x (tt : TT) (n : Fr) (dst : Option Nat) (t : Nat) (x i : Operand) : Snd (indexO tt n dst t x i) (z4B tt n dst t x i) := by
 refine z8 (ze _) fun tx => z8 (wx _) fun vx => z8 (ze _) fun ti => z8 (wx _) fun vi => ?_
 have main : ∀ fs k j, vx = .agg fs → vi = .atom (.int k j) → Snd (match vx, vi with
   | .agg fs, .atom (.int _ j) =>
    match z87 tt t with
    | some (m, e) => match fs[j.toNat]? with
     | some y => if 0 ≤ j ∧ j < (m : Int) ∧ wW tt e y = true ∧ y.isD = true ∧ (fs.take j.toNat).all (fun z => z.size == y.size) = true then wrT n dst (.d y) else zm
     | none => zm
    | none => zm
   | _, _ => zm) (match vx, vi with
   | .agg fs, .atom (.int _ j) =>
    match z87 tt t with
    | some (m, e) => z2h (fs[j.toNat]?) >>= fun y => wy (0 ≤ j ∧ j < (m : Int) ∧ wW tt e y = true ∧ y.isD = true ∧ (fs.take j.toNat).all (fun z => z.size == y.size) = true) (zH (wrT n dst (.d y)))
    | none => zz
   | _, _ => zz) := by
  rintro fs k j rfl rfl
  simp only
  cases z87 tt t with
  | none => exact zl _
  | some q =>
   have ⟨m, e⟩ := q
   simp only
   refine Xe (m' := ofO (fs[j.toNat]?) >>= fun y => if 0 ≤ j ∧ j < (m : Int) ∧ wW tt e y = true ∧ y.isD = true ∧ (fs.take j.toNat).all (fun z => z.size == y.size) = true then wrT n dst (.d y) else zm) ?_ (z8 (WJ _) fun _ => ym (ze _))
   generalize fs[j.toNat]? = z
   cases z with
   | none => rfl
   | some y => rw [z6H, zL]
 cases vx with
 | agg fs =>
  cases vi with
  | atom v =>
   cases v with
   | int k j => exact main _ _ _ rfl rfl
   | _ => exact zl _
  | _ => exact zl _
 | _ => exact zl _
def zeb (hT : yH P tt) (d : Nat) : XH P :=
 xAt P (zbY d) (fun n o b => indexO tt n o.dst b.1 b.2.1 b.2.2) (fun n o b => z4B tt n o.dst b.1 b.2.1 b.2.2)
  (by
   intro C S Fp st a w o b hp h u R U e
   unfold zbY at hp
   split at hp
   ·rename_i ho; cases V2 hp; exact z2U hT h ho e
   ·cases hp)
  (fun n o b => Loc.indexO _ _ _ _ _ _) (fun n o b => z6x _ _ _ _ _ _)
def poQ : Option A → Dpq
 | none => { holds := fun _ v => v = .pointer none, one := fun h => by rw [h]; rfl, mono := fun _ h => h }
 | some x => { holds := fun S v => Rep S (.sptr x) [v], one := fun h => h.one _ (List.mem_singleton.2 rfl), mono := fun k h => h.mono k }
def ePo (f : α → A) (b : Option α) : A := .dop (poQ (b.map f))
def eIf (b : Nat) (n : Nat) : A := .atom (.iface (b + n) (.agg #[]))
section
variable {α : Type}
instance (b : Nat) : Zi (eIf b) (eIf b) := ⟨fun _ => rfl⟩
instance (b : Nat) : vS (eIf b) := ⟨fun x y e => by
 injection e with e
 injection e with e _
 exact Nat.add_left_cancel e⟩
theorem poM {f : α → A} {b : Option α} {u : α} (h : b = some u) (S : zf) (v : Value) (q : yi S (ePo f b) v) : yi S (.sptr (f u)) v := by
 subst h
 have q' : Rep S (.sptr (f u)) [v] := KY.1 q
 exact xM.repV ⟨[v], q', rfl⟩
end
instance (x y : A) [h : LeA x y] : LeA (.sptr x) (.sptr y) := {
 rep := by
  intro S cs q
  simp only [Rep] at q ⊢
  obtain ⟨b, o, l, rfl, r1, r2⟩ := q
  exact ⟨b, o, l, rfl, h.rep _ _ r1, r2⟩
 conc := by
  intro S hh cs F q
  have q' : Rep S (.sptr x) cs ∧ F = [] := by simpa only [zw] using q
  have : Rep S (.sptr y) cs ∧ F = [] := by
   refine ⟨?_, q'.2⟩
   have q1 := q'.1
   simp only [Rep] at q1 ⊢
   obtain ⟨b, o, l, rfl, r1, r2⟩ := q1
   exact ⟨b, o, l, rfl, h.rep _ _ r1, r2⟩
  simpa only [zw] using this
 val := fun cs => rfl
 tup := fun fs h => nomatch h }
instance (x y : A) [h : LeA x y] : LeA (.sptr x) (.dop (poQ (some y))) := {
 rep := by
  intro S cs q
  have q2 := (inferInstance : LeA (.sptr x) (.sptr y)).rep S cs q
  have : ∃ v, cs = [v] := by
   simp only [Rep] at q
   obtain ⟨b, o, l, rfl, _⟩ := q
   exact ⟨_, rfl⟩
  obtain ⟨v, rfl⟩ := this
  exact Zy.2 ⟨v, rfl, q2⟩
 conc := by
  intro S hh cs F q
  have q' : Rep S (.sptr x) cs ∧ F = [] := by simpa only [zw] using q
  have : ∃ v, cs = [v] := by
   have q1 := q'.1
   simp only [Rep] at q1
   obtain ⟨b, o, l, rfl, _⟩ := q1
   exact ⟨_, rfl⟩
  obtain ⟨v, rfl⟩ := this
  have : Rep S (.dop (poQ (some y))) [v] ∧ F = [] := ⟨Zy.2 ⟨v, rfl, (inferInstance : LeA (.sptr x) (.sptr y)).rep S [v] q'.1⟩, q'.2⟩
  simpa only [zw] using this
 val := fun cs => rfl
 tup := fun fs h => nomatch h }
instance : LeA (.atom (.pointer none)) (.dop (poQ none)) := {
 rep := by
  intro S cs q
  simp [Rep] at q
  exact Zy.2 ⟨_, q.1, rfl⟩
 conc := by
  intro S hh cs F q
  have q' : Rep S (.atom (.pointer none)) cs ∧ F = [] := by simpa only [zw] using q
  have q1 := q'.1
  simp [Rep] at q1
  have : Rep S (.dop (poQ none)) cs ∧ F = [] := ⟨Zy.2 ⟨_, q1.1, rfl⟩, q'.2⟩
  simpa only [zw] using this
 val := fun cs => rfl
 tup := fun fs h => nomatch h }
theorem wB.le {ls : List A} {r r' : A} (h : wB P k ls r) (e : LeV r r') : wB P k ls r' :=
 ⟨h.1, fun S w vs F h1 h2 h3 => Calls.mono (h.2 S w vs F h1 h2 h3) fun _ _ ⟨v, S', F', g1, g2, g3, g4, g5, g6, g7⟩ => ⟨v, S', F', g1, g2, g3, g4, g5, e.has _ _ _ _ g6, g7⟩⟩
def ifcO (n : Fr) (dst : Option Nat) (T : Nat) (x : Operand) : SM Unit := do
 let tx ← opnd x
 let vx ← val tx
 match vx with
 | .agg [] => wrT n dst (.d (.atom (.iface T (.agg #[]))))
 | _ => zm
def zfg (n : Fr) (dst : Option Nat) (T : Nat) (x : Operand) : HM Unit := zH (opnd x) >>= fun tx => Yx tx >>= fun vx =>
 zH (match vx with
 | .agg [] => wrT n dst (.d (.atom (.iface T (.agg #[]))))
 | _ => zm)
theorem zd8 (n : Fr) (dst : Option Nat) (T : Nat) (x : Operand) : Snd (ifcO n dst T x) (zfg n dst T x) :=
 z8 (ze _) fun _ => z8 (wx _) fun _ => ze _
theorem Loc.ifcO (n : Fr) (dst : Option Nat) (T : Nat) (x : Operand) : Loc (ifcO n dst T x) := by
 unfold Go.Own.ifcO
 refine Loc.bind (Loc.opnd _) fun _ => Loc.bind (Loc.val _) fun _ => ?_
 split
 ·exact Loc.wrT _ _ _
 ·exact Loc.fail
theorem zc0 {T : Nat} {fs : Array Field} (hf : P.underlying T = some (.struct fs)) (h : Sim C S Fp [] st a w)  {x : Operand} (ho : o.op = .makeInterface T x)    (e0 : ifcO C.n o.dst T x st = some (u, R, U)) : xz P C o a w (zb U st) := by
 unfold ifcO at e0
 have ⟨tx, _, hx, e1⟩ := bR (zr h) e0
 have ⟨vx, _, qx, e2⟩ := bR (xe h hx) e1
 split at e2
 ·have ⟨cs, r1, r2⟩ := (qx : xM S (.agg []) (a.eval x))
  simp [Rep] at r1
  have hv : a.eval x = .agg #[] := by
   have hc : cs = [] := r1
   subst hc
   exact r2
  have ⟨Fp', hs⟩ := yk h e2 (x := .d (.atom (.iface T (.agg #[])))) (xM.repV (yc.2 ⟨rfl, rfl⟩))
  refine zi ?_ hs
  simp [execOp, ho, hv]
  simp [Instr.makeInterface, run_underlying hf]
 ·cases e2
def zbX (d T : Nat) (o : Oper) : Option Operand := match o.op with | .makeInterface t x => if o.dst = some d then (if t = T then some x else none) else none | _ => none
def zec (P : Program) (d T : Nat) {fs : Array Field} (hf : P.underlying T = some (.struct fs)) : XH P :=
 xAt P (zbX d T) (fun n o x => ifcO n o.dst T x) (fun n o x => zfg n o.dst T x)
  (by
   intro C S Fp st a w o x hp h u R U e
   unfold zbX at hp
   split at hp
   ·rename_i t y ho
    have hp2 := V2 hp
    split at hp2
    ·rename_i ht
     subst ht
     cases hp2
     exact zc0 hf h ho e
    ·cases hp2
   ·cases hp)
  (fun n o x => Loc.ifcO _ _ _ _) (fun n o x => zd8 _ _ _ _)
def zdj (x : Operand) : SM A := do
 let tx ← opnd x
 val tx
def zbE (x : Operand) : HM A := zH (opnd x) >>= fun tx => Yx tx
theorem zd4 (x : Operand) : Snd (zdj x) (zbE x) := z8 (ze _) fun _ => wx _
theorem zbD {T : Nat}     (ho : o.op = .panic x)   (e : zdj x st = some (.atom (.iface T v), R, U)) : z5f P n o st (vu (.iface T v)) := by
 intro C S Fp a w hC h rd m K Q hQ
 subst hC
 unfold zdj at e
 have ⟨tx, _, hx, e1⟩ := bR (zr h) e
 obtain ⟨rfl, qx⟩ := xe h hx e1
 have hv : a.eval x = .iface T v := (zj.1 qx.repV).1
 refine ⟨fun _ _ => trivial, ?_⟩
 have hexec : (execOp a.eval o).run P w = .halt (.panic (.iface T v)) w := by
  simp [execOp, ho, hv]
  rfl
 rw [Oper.semAt_eq _ _ _ (fun c hc => by rw [ho] at hc; cases hc), hexec, Oper.uponIn_panic]
 exact hQ _ _ _ _ h
def zbF (o : Oper) : Option Operand :=
 match o.guard with
 | some _ => none
 | none =>
  match o.op with
  | .panic x => some x
  | _ => none
def zdk (X : XH P) (tt : TT) (ctr : Ctr) (n : Fr) (c : Code) (i : Nat) (st : St) (hs : List H) : Option (A × List Prop) :=
 match regOf c with
 | none => none
 | some ops =>
  match z3m X tt ctr n ops (ops.toList.take i) st hs with
  | none => none
  | some (st1, hs1, ob, _) =>
   match ops.toList.drop i with
   | [] => none
   | o :: _ =>
    match zbF o with
    | none => none
    | some x =>
     match zbE x st1 hs1 with
     | none => none
     | some (y, _, _, _, ob') => some (y, ob ++ ob')
theorem yP6 {n : Fr} {Q : Exit → St → Prop} (X : XH P) (hT : yH P tt) (hC : vT P ctr) {c : Code} {fs : List Fm} {st : St} (i : Nat) {T : Nat} {v : Value} (Lh : List HO)
  (e : zdk X tt ctr n c i st (hoH Lh) = some (.atom (.iface T v), hoO Lh)) (hQ : ∀ st', Q (.panic (vu (.iface T v))) st') : AWP P n c st (Qf P n fs Q) := by
 unfold zdk at e
 split at e
 ·cases e
 rename_i ops hr
 split at e
 ·cases e
 rename_i st1 hs1 ob lg h1
 split at e
 ·cases e
 rename_i o l2 h2
 split at e
 ·cases e
 rename_i x h3
 split at e
 ·cases e
 rename_i y R U hs2 ob' h4
 simp [Option.some.injEq, Prod.mk.injEq] at e
 obtain ⟨rfl, ho⟩ := e
 have hall : Q2 (hoO Lh) := by rw [z2X]; exact K7 _
 rw [← ho] at hall
 have ⟨o1, o2⟩ := y7 hall
 refine AWP.regOf hr (ch := vu (.iface T v)) (fun id Q' hQ' => ?_) (fun st' => Xh fs (hQ st'))
 unfold zbF at h3
 split at h3
 ·cases h3
 rename_i hg
 split at h3
 ·rename_i x0 hop
  cases h3
  refine AWP.regDie hT (hC.withE X.ok) (l1 := ops.toList.take i) (l2 := l2) (o := o) (by rw [← h2, List.take_append_drop]) hg (UO _ _ _ h1 o1 ?_) hQ'
  exact zbD hop (zd4 _ _ _ _ _ _ _ _ h4 o2)
 ·cases h3
def zch : Dpq := ⟨fun _ v => v.oneCell' = true, fun h => h, fun _ h => h⟩
def eAn (_ : Unit) : A := .dop zch
instance : Zi eAn eAn := ⟨fun _ => rfl⟩
instance : vS eAn := ⟨fun _ _ _ => rfl⟩
instance LeA.any (f : Nat) (caps : List A) : LeA (.fn f caps) (.dop zch) := {
 rep := fun S cs q => by
  simp only [Rep] at q ⊢
  obtain ⟨vs, _, _, rfl⟩ := q
  exact ⟨_, rfl, rfl⟩
 conc := fun S h cs F q => by
  simp only [zw] at q ⊢
  refine ⟨?_, q.2⟩
  have q := q.1
  simp only [Rep] at q ⊢
  obtain ⟨vs, _, _, rfl⟩ := q
  exact ⟨_, rfl, rfl⟩
 val := fun _ => rfl
 tup := fun _ e => by cases e }
instance (f : Nat) (caps : List A) (q : Dpq) : SzA (.fn f caps) (.dop q) := ⟨rfl⟩
def JQ (sz : Nat) (v : Value) (q : Int × Int × Int) : Value :=
 match v with
 | .slice a _ _ => .slice (if q.2.2.toNat = q.1.toNat then a else a.map (·.add (q.1.toNat * sz))) (q.2.1.toNat - q.1.toNat) (q.2.2.toNat - q.1.toNat)
 | _ => .slice none 0 0
theorem z4O {q : Int × Int × Int} : (JQ sz v q).oneCell' = true := by
 unfold JQ
 split <;> rfl
def eqQ (v : Value) : Dpq := ⟨fun _ u => u = v ∧ v.oneCell' = true, fun h => by rw [h.1]; exact h.2, fun _ h => h⟩
theorem z9n (h : v.oneCell' = true) : yi S (.dop (eqQ v)) v := by
 simp only [yi, xM, Rep]
 exact ⟨[v], ⟨v, rfl, rfl, h⟩, rfl⟩
def eNv (sz : Nat) (v : Value) : Option (Int × Int × Int) → A
 | none => .osl sz true []
 | some q => .dop (eqQ (JQ sz v q))
theorem nvR (sz : Nat) (v : Value) (f : α → A) (n : Nat) : (List.replicate n ([] : List α)).map (eOs sz true f) = (List.replicate n none).map (eNv sz v) := by
 simp [List.map_replicate, eOs, eNv]
theorem iMn (sz : Nat) (v : Value) {l : List (Option (Int × Int × Int))}  {u : Option (Int × Int × Int)} (h : idx l i = some u) (h2 : u = none) : (l.map (eNv sz v))[i.toNat]? = some (.osl sz true []) := by
 subst h2
 exact iM (eNv sz v) h
instance LeA.nv {α : Type} (s sz : Nat) (v : Value) (f : α → A) (n : Nat) : LeA (eOs s true (eOs sz true f) (List.replicate n ([] : List α))) (eOs s true (eNv sz v) (List.replicate n none)) := by
 unfold eOs
 have := nvR sz v f n
 unfold eOs at this
 rw [this]
 infer_instance
instance {α : Type} (s s' sz : Nat) (b b' : Bool) (v : Value) (f : α → A) (l : List α) (l' : List (Option (Int × Int × Int))) : SzA (eOs s b f l) (eOs s' b' (eNv sz v) l') := ⟨rfl⟩
section
variable {C : Ctx} {S : zf} {Fp : Nat → List Nat} {X : List Nat} {st : St} {a : Act} {w : World}
open Classical in
def s3K (tt : TT) (n : Fr) (dst : Option Nat) (ty r : Nat) (v : Value) (tx : T) (va vb vc : A) (e : Ent) : SM Unit :=
 match va, vb, vc with
 | .atom (.int _ i), .atom (.int _ j), .atom (.int _ k) =>
  if tx = .als r [] e.er e.ec ∧ ZW n.pin r = some v then
   match e.t with
   | .own (.osl sz _ es) => if ya tt ty = some sz ∧ 0 ≤ i ∧ i ≤ j ∧ j ≤ k ∧ k.toNat ≤ es.length then wrT n dst (.d (.dop (eqQ (JQ sz v (i, j, k))))) else zm
   | _ => zm
  else zm
 | _, _, _ => zm
def zeF (tt : TT) (n : Fr) (dst : Option Nat) (ty r : Nat) (v : Value) (tx : T) (va vb vc : A) (e : Ent) : HM Unit :=
 match va, vb, vc with
 | .atom (.int _ i), .atom (.int _ j), .atom (.int _ k) =>
  wy (tx = .als r [] e.er e.ec ∧ ZW n.pin r = some v)
   (match e.t with
   | .own (.osl sz _ es) => if ya tt ty = some sz then wy (0 ≤ i ∧ i ≤ j ∧ j ≤ k ∧ k.toNat ≤ es.length) (zH (wrT n dst (.d (.dop (eqQ (JQ sz v (i, j, k))))))) else zz
   | _ => zz)
 | _, _, _ => zz
def s3O (tt : TT) (n : Fr) (dst : Option Nat) (ty r : Nat) (v : Value) (x lo hi mx : Operand) : SM Unit := do
 let tx ← opnd x
 let ta ← opnd lo
 let va ← val ta
 let tb ← opnd hi
 let vb ← val tb
 let tc ← opnd mx
 let vc ← val tc
 let e ← rdE r
 s3K tt n dst ty r v tx va vb vc e
def s3H (tt : TT) (n : Fr) (dst : Option Nat) (ty r : Nat) (v : Value) (x lo hi mx : Operand) : HM Unit := zH (opnd x) >>= fun tx => zH (opnd lo) >>= fun ta => Yx ta >>= fun va => zH (opnd hi) >>= fun tb => Yx tb >>= fun vb => zH (opnd mx) >>= fun tc => Yx tc >>= fun vc => zH (rdE r) >>= fun e => zeF tt n dst ty r v tx va vb vc e
open Classical in
theorem zfI (tt : TT) (n : Fr) (dst : Option Nat) (ty r : Nat) (v : Value) (x lo hi mx : Operand) : Snd (s3O tt n dst ty r v x lo hi mx) (s3H tt n dst ty r v x lo hi mx) := by
 refine z8 (ze _) fun tx => z8 (ze _) fun ta => z8 (wx _) fun va => z8 (ze _) fun tb => z8 (wx _) fun vb => z8 (ze _) fun tc => z8 (wx _) fun vc => z8 (ze _) fun e => ?_
 unfold s3K zeF
 split
 ·refine ym ?_
  cases e.t with
  | own y =>
   cases y with
   | osl sz tg es => exact W6 (fun h1 h2 => ⟨h1, h2⟩) (ze _)
   | _ => exact zl _
  | _ => exact zl _
 ·exact zl _
open Classical in
theorem Loc.s3O (tt : TT) (n : Fr) (dst : Option Nat) (ty r : Nat) (v : Value) (x lo hi mx : Operand) : Loc (s3O tt n dst ty r v x lo hi mx) := by
 unfold Go.Own.s3O
 refine Loc.bind (Loc.opnd _) fun _ => Loc.bind (Loc.opnd _) fun _ => Loc.bind (Loc.val _) fun _ => Loc.bind (Loc.opnd _) fun _ => Loc.bind (Loc.val _) fun _ => Loc.bind (Loc.opnd _) fun _ => Loc.bind (Loc.val _) fun _ => Loc.bind (Loc.rdE _) fun _ => ?_
 unfold Go.Own.s3K
 split
 ·refine Loc.ite ?_ Loc.fail
  split
  ·exact Loc.ite (Loc.wrT _ _ _) Loc.fail
  ·exact Loc.fail
 ·exact Loc.fail
open Classical in
theorem zdb {P : Program}  (hT : yH P tt) (h : Sim C S Fp [] st a w)  {t r : Nat} {v : Value} {x lo hi mx : Operand} (ho : o.op = .slice t x (some lo) (some hi) (some mx))    (e0 : s3O tt C.n o.dst t r v x lo hi mx st = some (u, R, U)) : xz P C o a w (zb U st) := by
 unfold s3O at e0
 have ⟨tx, _, hx, e1⟩ := bR (zr h) e0
 have ⟨ta, _, ha, e2⟩ := bR (zr h) e1
 have ⟨va, _, qa, e3⟩ := bR (xe h ha) e2
 have ⟨tb, _, hb, e4⟩ := bR (zr h) e3
 have ⟨vb, _, qb, e5⟩ := bR (xe h hb) e4
 have ⟨tc, _, hc, e6⟩ := bR (zr h) e5
 have ⟨vc, _, qc, e7⟩ := bR (xe h hc) e6
 have ⟨_, e8⟩ := bD e7
 unfold s3K at e8
 split at e8
 ·rename_i k1 i k2 j k3 k
  have hq := z3A e8
  clear e8
  obtain ⟨⟨rfl, c2⟩, e8⟩ := hq
  have hs := h.pin r v (xu c2)
  cases ht : (st r).t with
  | own y =>
   cases y with
   | osl sz tg es =>
    simp only [ht] at e8
    have hq := z3A e8
    clear e8
    obtain ⟨⟨d1, d2, d3, d4, d5⟩, e8⟩ := hq
    have ⟨p, c, ev, hlc, _, _⟩ := VB h ht
    have hxv : a.eval x = .slice p es.length c := by rw [← ev]; exact z03 hx ht rfl
    have ⟨el, he, hsz⟩ := yu hT d1 w
    have ⟨ela, _⟩ := zj.1 qa
    have ⟨elb, _⟩ := zj.1 qb
    have ⟨elc, _⟩ := zj.1 qc
    have hrun := vp (P := P) (w := w) he hsz (p := p) (len := es.length) (c := c) (m := k.toNat) (lo := some (.int k1 i)) (hi := some (.int k2 j)) (mx := some (.int k3 k)) (.inr ⟨k1, i, rfl, d2, rfl⟩) (.inr ⟨k2, j, rfl, by omega, rfl⟩) (.inr ⟨k3, k, rfl, by omega, rfl⟩) (by omega) (by omega) (by omega) (by simp)
    have hvv : v = .slice p es.length c := by rw [← hs, ev]
    have ⟨Fp', hs'⟩ := yk h e8 (x := .d (.dop (eqQ (JQ sz v (i, j, k))))) (v := JQ sz v (i, j, k)) (z9n z4O)
    refine zi ?_ hs'
    rw [hvv]
    simp [execOp, ho, hxv, ela, elb, elc, hrun, JQ]
   | _ => simp only [ht] at e8; cases e8
  | _ => simp only [ht] at e8; cases e8
 ·cases e8
def zeW (d : Nat) (o : Oper) : Option (Nat × Operand × Operand × Operand × Operand) := match o.op with | .slice t x (some lo) (some hi) (some mx) => if o.dst = some d then some (t, x, lo, hi, mx) else none | _ => none
def xS3 (hT : yH P tt) (d r : Nat) (v : Value) : XH P :=
 xAt P (zeW d) (fun n o b => s3O tt n o.dst b.1 r v b.2.1 b.2.2.1 b.2.2.2.1 b.2.2.2.2) (fun n o b => s3H tt n o.dst b.1 r v b.2.1 b.2.2.1 b.2.2.2.1 b.2.2.2.2)
  (by
   intro C S Fp st a w o b hp h u R U e
   unfold zeW at hp
   split at hp
   ·rename_i ho; cases V2 hp; exact zdb hT h ho e
   ·cases hp)
  (fun n o b => Loc.s3O _ _ _ _ _ _ _ _ _ _) (fun n o b => zfI _ _ _ _ _ _ _ _ _ _)
open Classical in
def paK (tt : TT) (n : Fr) (dst : Option Nat) (ty r : Nat) (v : Value) (tx : T) (vi : A) (e : Ent) : SM Unit :=
 match vi with
 | .atom (.int _ j) =>
  if tx = .als r [] e.er e.ec ∧ ZW n.pin r = some v then
   match e.t with
   | .own (.osl sz _ es) => if ya tt ty = some sz ∧ 0 ≤ j ∧ j.toNat < es.length then wrT n dst (.d (.atom (ZV sz v j))) else zm
   | _ => zm
  else zm
 | _ => zm
def zeN (tt : TT) (n : Fr) (dst : Option Nat) (ty r : Nat) (v : Value) (tx : T) (vi : A) (e : Ent) : HM Unit :=
 match vi with
 | .atom (.int _ j) =>
  wy (tx = .als r [] e.er e.ec ∧ ZW n.pin r = some v)
   (match e.t with
   | .own (.osl sz _ es) => if ya tt ty = some sz then wy (0 ≤ j ∧ j.toNat < es.length) (zH (wrT n dst (.d (.atom (ZV sz v j))))) else zz
   | _ => zz)
 | _ => zz
def paO (tt : TT) (n : Fr) (dst : Option Nat) (ty r : Nat) (v : Value) (x i : Operand) : SM Unit := do
 let tx ← opnd x
 let ti ← opnd i
 let vi ← val ti
 let e ← rdE r
 paK tt n dst ty r v tx vi e
def paH (tt : TT) (n : Fr) (dst : Option Nat) (ty r : Nat) (v : Value) (x i : Operand) : HM Unit := zH (opnd x) >>= fun tx => zH (opnd i) >>= fun ti => Yx ti >>= fun vi => zH (rdE r) >>= fun e => zeN tt n dst ty r v tx vi e
open Classical in
theorem zfM (tt : TT) (n : Fr) (dst : Option Nat) (ty r : Nat) (v : Value) (x i : Operand) : Snd (paO tt n dst ty r v x i) (paH tt n dst ty r v x i) := by
 refine z8 (ze _) fun tx => z8 (ze _) fun ti => z8 (wx _) fun vi => z8 (ze _) fun e => ?_
 unfold paK zeN
 split
 ·refine ym ?_
  cases e.t with
  | own y =>
   cases y with
   | osl sz tg es => exact W6 (fun h1 h2 => ⟨h1, h2⟩) (ze _)
   | _ => exact zl _
  | _ => exact zl _
 ·exact zl _
open Classical in
theorem Loc.paO (tt : TT) (n : Fr) (dst : Option Nat) (ty r : Nat) (v : Value) (x i : Operand) : Loc (paO tt n dst ty r v x i) := by
 unfold Go.Own.paO
 refine Loc.bind (Loc.opnd _) fun _ => Loc.bind (Loc.opnd _) fun _ => Loc.bind (Loc.val _) fun _ => Loc.bind (Loc.rdE _) fun _ => ?_
 unfold Go.Own.paK
 split
 ·refine Loc.ite ?_ Loc.fail
  split
  ·exact Loc.ite (Loc.wrT _ _ _) Loc.fail
  ·exact Loc.fail
 ·exact Loc.fail
open Classical in
theorem zdl {P : Program}  (hT : yH P tt) (h : Sim C S Fp [] st a w) {o : Oper} {t r : Nat} {v : Value} {x i : Operand} (ho : o.op = .indexAddr t x i)    (e0 : paO tt C.n o.dst t r v x i st = some (u, R, U)) : xz P C o a w (zb U st) := by
 unfold paO at e0
 have ⟨tx, _, hx, e1⟩ := bR (zr h) e0
 have ⟨ti, _, hi, e2⟩ := bR (zr h) e1
 have ⟨vi, _, qi, e3⟩ := bR (xe h hi) e2
 have ⟨_, e8⟩ := bD e3
 unfold paK at e8
 split at e8
 ·rename_i k j
  have hq := z3A e8
  clear e8
  obtain ⟨⟨rfl, c2⟩, e8⟩ := hq
  have hs := h.pin r v (xu c2)
  cases ht : (st r).t with
  | own y =>
   cases y with
   | osl sz tg es =>
    simp only [ht] at e8
    have hq := z3A e8
    clear e8
    obtain ⟨⟨d1, d2, d3⟩, e8⟩ := hq
    have ⟨p, c, ev, hlc, _, hb⟩ := VB h ht
    obtain ⟨b, rfl⟩ := hb (by omega)
    have hxv : a.eval x = .slice (some ⟨b, 0, none⟩) es.length c := by rw [← ev]; exact z03 hx ht rfl
    have ⟨el, he, hsz⟩ := yu hT d1 w
    have ⟨ei, _⟩ := zj.1 qi
    have hvv : v = .slice (some ⟨b, 0, none⟩) es.length c := by rw [← hs, ev]
    have hrun := qL (P := P) (b := b) (o := 0) (n := es.length) (c := c) (k := k) he hsz d2 d3
    have ⟨Fp', hs'⟩ := yk h e8 (x := .d (.atom (ZV sz v j))) (v := ZV sz v j) (zj.2 ⟨rfl, z2J⟩)
    refine zi ?_ hs'
    rw [hvv]
    simp [execOp, ho, ei, hxv, hrun, ZV, Addr.add_lit]
   | _ => simp only [ht] at e8; cases e8
  | _ => simp only [ht] at e8; cases e8
 ·cases e8
def zeZ (d : Nat) (o : Oper) : Option (Nat × Operand × Operand) := match o.op with | .indexAddr t x i => if o.dst = some d then some (t, x, i) else none | _ => none
def xPa (hT : yH P tt) (d r : Nat) (v : Value) : XH P :=
 xAt P (zeZ d) (fun n o b => paO tt n o.dst b.1 r v b.2.1 b.2.2) (fun n o b => paH tt n o.dst b.1 r v b.2.1 b.2.2)
  (by
   intro C S Fp st a w o b hp h u R U e
   unfold zeZ at hp
   split at hp
   ·rename_i ho; cases V2 hp; exact zdl hT h ho e
   ·cases hp)
  (fun n o b => Loc.paO _ _ _ _ _ _ _ _) (fun n o b => zfM _ _ _ _ _ _ _ _)
open Classical in
def pmO (n : Fr) (dst : Option Nat) (r sz : Nat) (v : Value) (j : Int) (x : Operand) : SM Unit := do
 let tx ← opnd x
 let e ← rdE r
 if tx = .d (.atom (ZV sz v j)) ∧ ZW n.pin r = some v then
  match e.t with
  | .own (.osl sz' _ es) => if sz' = sz ∧ j.toNat < es.length then wrT n dst (.ptr r [.idx j.toNat] e.er e.ec) else zm
  | _ => zm
 else zm
def pmH (n : Fr) (dst : Option Nat) (r sz : Nat) (v : Value) (j : Int) (x : Operand) : HM Unit := zH (opnd x) >>= fun tx => zH (rdE r) >>= fun e => wy (tx = .d (.atom (ZV sz v j)) ∧ ZW n.pin r = some v)
  (match e.t with
  | .own (.osl sz' _ es) => if sz' = sz then wy (j.toNat < es.length) (zH (wrT n dst (.ptr r [.idx j.toNat] e.er e.ec))) else zz
  | _ => zz)
open Classical in
theorem zfL (n : Fr) (dst : Option Nat) (r sz : Nat) (v : Value) (j : Int) (x : Operand) : Snd (pmO n dst r sz v j x) (pmH n dst r sz v j x) := by
 refine z8 (ze _) fun tx => z8 (ze _) fun e => ym ?_
 cases e.t with
 | own y =>
  cases y with
  | osl sz tg es => exact W6 (fun h1 h2 => ⟨h1, h2⟩) (ze _)
  | _ => exact zl _
 | _ => exact zl _
open Classical in
theorem Loc.pmO (n : Fr) (dst : Option Nat) (r sz : Nat) (v : Value) (j : Int) (x : Operand) : Loc (pmO n dst r sz v j x) := by
 unfold Go.Own.pmO
 refine Loc.bind (Loc.opnd _) fun _ => Loc.bind (Loc.rdE _) fun _ => Loc.ite ?_ Loc.fail
 split
 ·exact Loc.ite (Loc.wrT _ _ _) Loc.fail
 ·exact Loc.fail
open Classical in
theorem zdi (h : Sim C S Fp [] st a w)  {r sz : Nat}    (ho : o.op = .move x)    (e0 : pmO C.n o.dst r sz v j x st = some (u, R, U)) : xz P C o a w (zb U st) := by
 unfold pmO at e0
 have ⟨tx, _, hx, e1⟩ := bR (zr h) e0
 have ⟨_, e8⟩ := bD e1
 have hq := z3A e8
 clear e8
 obtain ⟨⟨rfl, c2⟩, e8⟩ := hq
 have hs := h.pin r v (xu c2)
 cases ht : (st r).t with
 | own y =>
  cases y with
  | osl sz' tg es =>
   simp only [ht] at e8
   have hq := z3A e8
   clear e8
   obtain ⟨⟨rfl, d3⟩, e8⟩ := hq
   have hals : wZ w.heap st (Act.tv a) r [] (st r).er (st r).ec (Act.tv a r) := by
    refine ⟨Nat.le_refl _, Nat.le_refl _, ?_⟩
    simp [ht]
   have ⟨b, c, ev, hp⟩ := z2j h hals ht rfl (.inl rfl) rfl d3
   have hp' : TOk S w.heap st (Act.tv a) (T.ptr r [uT.idx j.toNat] (st r).er (st r).ec) (.pointer (some ⟨b, j.toNat * sz', none⟩)) := hp
   have ⟨Fp', hs'⟩ := yk h e8 hp'
   refine zi ?_ hs'
   have hxv := (zj.1 hx).1
   rw [← hs, ev] at hxv
   simp [execOp, ho, hxv, ZV, Addr.add_lit]
  | _ => simp only [ht] at e8; cases e8
 | _ => simp only [ht] at e8; cases e8
def zeY (d : Nat) (o : Oper) : Option Operand := match o.op with | .move x => if o.dst = some d then some x else none | _ => none
def xPm (d r sz : Nat) (v : Value) (j : Int) : XH P :=
 xAt P (zeY d) (fun n o b => pmO n o.dst r sz v j b) (fun n o b => pmH n o.dst r sz v j b)
  (by
   intro C S Fp st a w o b hp h u R U e
   unfold zeY at hp
   split at hp
   ·rename_i ho; cases V2 hp; exact zdi h ho e
   ·cases hp)
  (fun n o b => Loc.pmO _ _ _ _ _ _ _) (fun n o b => zfL _ _ _ _ _ _ _)
end
def WkY {σ β : Type} (Y : σ → kB) (y : σ → β → Option (σ × Bool)) : Prop :=
 ∀ s x s', y s x = some (s', true) → ∀ (S S1 S' : zf) (h h' : Array Obj) (v : Value) (F F' : List Nat), (∀ b o u, S b o = some u → S1 b o = some u) → (∀ k ∈ F', ∀ o, S1 k o = none) → (Y s).holds S h v F → (Y s').holds S' h' v F' → (Y s').holds S1 h' v F'
def z9M (P : Program) (f : A)  (enc : β → Bool → Value → List A) (F : ∀ {σ : Type}, (σ → β → Option (σ × Bool)) → σ → Option σ) : Prop :=
 ∀ (σ : Type) (yv : Value) (Y : σ → kB) (y : σ → β → Option (σ × Bool)), YOk P yv Y enc y → WkY Y y → ∀ s s', F y s = some s' → yl P f [.atom yv] [(yv, .opq (Y s).q)] (.tup []) [.opq (Y s').q]
variable {caps : List A}
theorem z9f {nt : Nat} {caps : List A}  {enc : β → Bool → Value → List A} {F : ∀ {σ : Type}, (σ → β → Option (σ × Bool)) → σ → Option σ} (hT : yH P tt) (hf : P.funcs[k]? = some fn) (hnm : (fn.name == "runtime.NumGoroutine") = false) (hb : fn.body = some body)
  (hn : nt = fn.ntmps) (hr : fn.results = #[]) (ha : caps.length + 1 ≤ fn.ntmps)
  (h : ∀ (σ : Type) (yv : Value) (Y : σ → kB) (y : σ → β → Option (σ × Bool)), YOk P yv Y enc y → WkY Y y → ∀ s s', F y s = some s' → ∀ E : Exit → St → Prop, (∀ ex st, (ex = .normal ∨ ex = .ret) → canon [0] st = ofL [(0, .own (.opq (Y s').q))] → E ex st) →
   AWP P ⟨nt, [(0, yv)]⟩ body (ofL (z0q 0 (.opq (Y s).q :: caps))) (Qf P ⟨nt, [(0, yv)]⟩ [] E)) : z9M P (.fn k caps) enc F := fun σ yv Y y hy hw s s' hs =>
 z1i hT hf hnm hb hn hr ha (h σ yv Y y hy hw s s' hs)
def Qx (es : List α) : List (Option (Int × Int × Int)) → Option (List (List α))
 | [] => some []
 | some q :: l => gd (0 ≤ q.1 ∧ q.1 ≤ q.2.1 ∧ q.2.2 = q.2.1 ∧ q.2.1.toNat ≤ es.length) <| Option.bind (Qx es l) fun r => some ((es.drop q.1.toNat).take (q.2.1.toNat - q.1.toNat) :: r)
 | none :: _ => none
variable {tg : Bool}
theorem z5q (h : Rep S (.sl sz tg es) [pv]) {lo hi : Int} (h0 : 0 ≤ lo) (h1 : lo ≤ hi) (h2 : hi.toNat ≤ es.length) : Rep S (.sl sz true ((es.drop lo.toNat).take (hi.toNat - lo.toNat))) [JQ sz pv (lo, hi, hi)] := by
 simp only [Rep] at h ⊢
 obtain ⟨p, c, e, h3, h4, h5, h6⟩ := h
 obtain rfl : pv = .slice p es.length c := by simpa using e
 have hlen : ((es.drop lo.toNat).take (hi.toNat - lo.toNat)).length = hi.toNat - lo.toNat := by simp; omega
 refine ⟨if hi.toNat = lo.toNat then p else p.map (·.add (lo.toNat * sz)), hi.toNat - lo.toNat, by simp only [JQ, hlen], fun _ => hlen.symm, by omega, fun x hx => h5 x (List.mem_of_mem_drop (List.mem_of_mem_take hx)), ?_⟩
 by_cases hh : hi.toNat = lo.toNat
 ·exact .inl (by rw [hh]; simp)
 ·rw [if_neg hh]
  rcases h6 with rfl | ⟨b, o, l, rfl, g, k⟩
  ·simp at h2; omega
  ·obtain ⟨ds, d1, d2⟩ := z2F (k := hi.toNat - lo.toNat) g h5 (l := lo.toNat) (by omega)
   refine .inr ⟨b, o + lo.toNat * sz, ds, by simp [Addr.add_lit], d1, fun j v hj => ?_⟩
   rw [Nat.add_assoc]
   exact k _ _ (d2 j v hj)
theorem z2D {f : α → A} {es : List α}  (h : Rep S (.sl sz tg (es.map f)) [pv]) : ∀ {rows : List (Option (Int × Int × Int))} {r : List (List α)} {cs : List Value}, Qx es rows = some r → zV S (A.shuts (rows.map (eNv sz pv))) cs → zV S (r.map (eSl sz true f)) cs
 | [], r, cs, e, q => by
  cases e
  simpa only [List.map_nil, A.shuts] using q
 | none :: _, _, _, e, _ => by cases e
 | some (lo, hi, mx) :: l, r, cs, e, q => by
  simp only [Qx] at e
  obtain ⟨⟨g1, g2, g3, g4⟩, e⟩ := gdE e
  obtain ⟨r1, e1, e⟩ := zt e
  cases e
  replace g3 : mx = hi := g3
  subst g3
  simp only [List.map_cons, A.shuts, zV] at q ⊢
  obtain ⟨c1, c2, rfl, q1, q2⟩ := q
  refine ⟨c1, c2, rfl, ?_, z2D h e1 q2⟩
  simp only [eNv, A.shut, Rep] at q1
  obtain ⟨_, rfl, rfl, _⟩ := q1
  have := z5q h g1 g2 (by simpa using g4)
  simpa only [eSl, List.map_take, List.map_drop] using this
section
variable {C : Ctx} {S : zf} {Fp : Nat → List Nat} {X : List Nat} {st : St} {a : Act} {w : World}
theorem zcc (h : Sim C S Fp X st a w) {r : Nat} {x : A} (hr : (st r).t = .own (.box x)) : ∃ B ty l F', Act.tv a r = .pointer (some ⟨B, 0, none⟩) ∧ w.heap[B]? = some (.cells l.toArray ty (0, 0)) ∧ zw S w.heap x l F' ∧ Fp r = B :: F' ∧
  ∀ {er ec : Nat} {v : Value}, wZ w.heap st (Act.tv a) r [.deref] er ec v → (st r).er = er → (st r).ec = ec → v = zJ x l := by
 have hq := h.ent r
 unfold yf at hq
 simp only [hr] at hq
 obtain ⟨cs, c1, c2, c3⟩ := hq
 simp only [zw] at c1
 obtain ⟨B, ty, l, F', rfl, e1, e2, e3, e4⟩ := c1
 have c3' : Act.tv a r = .pointer (some ⟨B, 0, none⟩) := c3
 refine ⟨B, ty, l, F', c3', e1, e2, e3, ?_⟩
 intro er ec v ha he1 he2
 have q := ha.2.2
 simp only [hr] at q
 rcases q he1 (.inr he2) with ⟨q, _⟩ | ⟨_, y, b, o, cs, g1, g2, g3, g4, g5⟩
 ·cases q
 ·simp only [xc, Option.some.injEq] at g1
  subst g1
  rw [c3'] at g2
  simp only [xa, VI, Option.some.injEq, Prod.mk.injEq] at g2
  obtain ⟨rfl, rfl⟩ := g2
  have hl : l = cs := by
   apply List.ext_getElem?
   intro i
   rcases Nat.lt_or_ge i cs.length with hi | hi
   ·have := g4 i _ (List.getElem?_eq_getElem hi)
    simp only [zP, e1, Nat.zero_add] at this
    rw [List.getElem?_eq_getElem hi]
    simpa using this
   ·rw [List.getElem?_eq_none hi, List.getElem?_eq_none (by rw [e2.len, ← g3]; exact hi)]
  rw [g5, hl]
end
theorem z06 (sz : Nat) (pv : Value) : ∀ rows : List (Option (Int × Int × Int)), A.lives (rows.map (eNv sz pv)) = true
 | [] => rfl
 | none :: l => by simp [A.lives, eNv, A.live, z06 sz pv l]
 | some _ :: l => by simp [A.lives, eNv, A.live, z06 sz pv l]
theorem z0Z {es : List α} : ∀ {rows : List (Option (Int × Int × Int))} {r : List (List α)}, Qx es rows = some r → r.length = rows.length
 | [], r, e => by cases e; rfl
 | none :: _, _, e => by cases e
 | some _ :: l, r, e => by
  simp only [Qx] at e
  obtain ⟨_, e⟩ := gdE e
  obtain ⟨r1, e1, e⟩ := zt e
  cases e
  simp [z0Z e1]
variable {rows : List (Option (Int × Int × Int))}{X : List Nat}
section
variable {C : Ctx} {S : zf} {Fp : Nat → List Nat} {st : St} {a : Act} {w : World}
open Classical in
def tyO (tt : TT) (n : Fr) (dst : Option Nat) (r4 r5 sz : Nat) (pv yv : Value) (o o' : kB) (b : Bool) (u1 u2 : Value) (tg tg5 : Bool) (rows : List (Option (Int × Int × Int))) (es : List A) (f x : Operand) : SM Unit := do
 let fs ← refArgs tt n [(f, 0)]
 let ls ← lentsA n [0]
 let tx ← opnd x
 let e4 ← rdE r4
 let e5 ← rdE r5
 if fs = [.atom yv] ∧ ls = [(yv, .opq o.q)] ∧ tx = .als r4 [.deref] e4.er e4.ec ∧ e4.t = .own (.box (.agg [.atom u1, .atom u2, .osl 1 tg (rows.map (eNv sz pv))])) ∧ e5.t = .own (.osl sz tg5 es) ∧ ZW n.pin r5 = some pv then
  cond b (pure ()) (wrE r4 ⟨.gone, e4.er + 1, e4.ec + 1⟩ >>= fun _ => wrE r5 ⟨.gone, e5.er + 1, e5.ec + 1⟩) >>= fun _ => backsA [0] [.opq o'.q] >>= fun _ => wrT n dst (.d (.atom (.bool b)))
 else zm
def tyH (tt : TT) (n : Fr) (dst : Option Nat) (r4 r5 sz : Nat) (pv yv : Value) (o o' : kB) (b : Bool) (u1 u2 : Value) (tg tg5 : Bool) (rows : List (Option (Int × Int × Int))) (es : List A) (f x : Operand) : HM Unit :=
 wG tt n [(f, 0)] >>= fun fs => zH (lentsA n [0]) >>= fun ls => zH (opnd x) >>= fun tx => zH (rdE r4) >>= fun e4 => zH (rdE r5) >>= fun e5 =>
 wy (fs = [.atom yv] ∧ ls = [(yv, .opq o.q)] ∧ tx = .als r4 [.deref] e4.er e4.ec ∧ e4.t = .own (.box (.agg [.atom u1, .atom u2, .osl 1 tg (rows.map (eNv sz pv))])) ∧ e5.t = .own (.osl sz tg5 es) ∧ ZW n.pin r5 = some pv)
  (zH (cond b (pure ()) (wrE r4 ⟨.gone, e4.er + 1, e4.ec + 1⟩ >>= fun _ => wrE r5 ⟨.gone, e5.er + 1, e5.ec + 1⟩) >>= fun _ => backsA [0] [.opq o'.q] >>= fun _ => wrT n dst (.d (.atom (.bool b)))))
open Classical in
theorem zfH (tt : TT) (n : Fr) (dst : Option Nat) (r4 r5 sz : Nat) (pv yv : Value) (o o' : kB) (b : Bool) (u1 u2 : Value) (tg tg5 : Bool) (rows : List (Option (Int × Int × Int))) (es : List A) (f x : Operand) : Snd (tyO tt n dst r4 r5 sz pv yv o o' b u1 u2 tg tg5 rows es f x) (tyH tt n dst r4 r5 sz pv yv o o' b u1 u2 tg tg5 rows es f x) :=
 z8 (wh _ _ _) fun _ => z8 (ze _) fun _ => z8 (ze _) fun _ => z8 (ze _) fun _ => z8 (ze _) fun _ => ym (ze _)
open Classical in
theorem Loc.tyO (tt : TT) (n : Fr) (dst : Option Nat) (r4 r5 sz : Nat) (pv yv : Value) (o o' : kB) (b : Bool) (u1 u2 : Value) (tg tg5 : Bool) (rows : List (Option (Int × Int × Int))) (es : List A) (f x : Operand) : Loc (tyO tt n dst r4 r5 sz pv yv o o' b u1 u2 tg tg5 rows es f x) := by
 unfold Go.Own.tyO
 refine Loc.bind (Loc.refArgs _ _ _) fun _ => Loc.bind (Loc.lentsA _ _) fun _ => Loc.bind (Loc.opnd _) fun _ => Loc.bind (Loc.rdE _) fun _ => Loc.bind (Loc.rdE _) fun _ => Loc.ite ?_ Loc.fail
 refine Loc.bind ?_ fun _ => Loc.bind (Loc.backsA _ _) fun _ => Loc.wrT _ _ _
 cases b
 ·exact Loc.bind (Loc.wrE _ _) fun _ => Loc.wrE _ _
 ·exact Loc.pure _
theorem Sim.drop (h : Sim C S Fp X st a w) (r : Nat) {x : A} (hr : (st r).t = .own x) : Sim C S (Zj Fp r []) X (upd st r ⟨.gone, (st r).er + 1, (st r).ec + 1⟩) a w :=
 h.change r .gone _ _ [] h.below (fun _ _ _ q => q) h.still.cell h.sbase (fun t k _ hk => ⟨rfl, (h.free t k hk).2.1⟩) rfl (.inl ⟨x, hr⟩) (Nat.le_succ _) (Nat.lt_succ_self _) (by simp) (by simp) h.xn (fun t k _ hk => h.xd t k hk) (by simp) h.xb
theorem Sim.seaT (h : Sim C S Fp X st a w) (T : List Nat) (hT : ∀ k ∈ T, (∀ o, S k o = none) ∧ C.M k ∧ k ∉ X ∧ ∀ t, k ∉ Fp t) : Sim C (zA S w.heap T) Fp X st a w := by
 refine h.mem h.below (wU fun k hk => (hT k hk).1) ?_ ?_ ?_ h.xn h.xd h.xb
 ·intro b o u q
  unfold zA at q
  split at q
  ·exact q
  ·exact h.still b o u q
 ·intro b o hb
  unfold zA
  rw [if_neg (fun q => hb (hT b q).2.1)]
  exact h.sbase b o hb
 ·intro t k hk
  refine ⟨rfl, fun o => ?_⟩
  unfold zA
  rw [if_neg (fun q => (hT k q).2.2.2 t hk)]
  exact (h.free t k hk).2.1 o
open Classical in
theorem zcQ {P : Program} {tt : TT} (h : Sim C S Fp [] st a w) {op : Oper} {f x : Operand} {tys : Array TypeId} {r4 r5 sz : Nat} {pv yv u1 u2 : Value} {o o' : kB} {b tg tg5 : Bool}   {g : α → A} [Vb g g] {es : List α} {r : List (List α)} (hr : Qx es rows = some r) (hne : r4 ≠ r5)
  (hy : yl P (.atom yv) [.agg [.atom u1, .atom u2, eSl 1 tg (eSl sz true g) r]] [(yv, .opq o.q)] (.atom (.bool b)) [.opq o'.q])
  (hw : b = true → ∀ (S S1 S' : zf) (h h' : Array Obj) (v : Value) (F F' : List Nat), (∀ b o u, S b o = some u → S1 b o = some u) → (∀ k ∈ F', ∀ o, S1 k o = none) → o.holds S h v F → o'.holds S' h' v F' → o'.holds S1 h' v F')
  (ho : op.op = .call { callee := .value f, args := #[x], argTypes := tys }) {u : Unit} {R : List Nat} {U : List (Nat × Ent)}
  (e : tyO tt C.n op.dst r4 r5 sz pv yv o o' b u1 u2 tg tg5 rows (es.map g) f x st = some (u, R, U)) : xz P C op a w (zb U st) := by
 unfold tyO at e
 obtain ⟨fs, R1, U1, R2, U2, e1, e2, rfl, rfl⟩ := bind_some e
 obtain ⟨S1, Fp1, g1, g2, g3⟩ := xA h e1
 obtain ⟨ls, R5, U5, R6, U6, e5, e6, rfl, rfl⟩ := bind_some e2
 obtain ⟨Fp3, F, k1, k2, k3⟩ := WU g1 e5
 rw [zn, zn]
 have ⟨tx, _, hx, e7⟩ := bR (zr k1) e6
 have ⟨_, e8⟩ := bD e7
 have ⟨_, e9⟩ := bD e8
 have hq := z3A e9
 clear e9 e8 e7 e6 e5 e2 e1 e h g1
 obtain ⟨⟨rfl, rfl, rfl, ht4, ht5, hp5⟩, e⟩ := hq
 generalize zb U5 (zb U1 st) = s2 at *
 have k2 := uo k2
 obtain ⟨B, ty, l, F4, hv4, hb4, hc4, hF4, hval⟩ := zcc k1 ht4
 have hev : a.eval x = zJ (.agg [.atom u1, .atom u2, .osl 1 tg (rows.map (eNv sz pv))]) l := hval hx rfl rfl
 have hq5 := k1.ent r5
 unfold yf at hq5
 simp only [ht5] at hq5
 obtain ⟨cs5, c5, n5, v5⟩ := hq5
 have hfree : ∀ k ∈ Fp3 r4 ++ Fp3 r5, ∀ o, S1 k o = none := fun k hk => (List.mem_append.1 hk).elim (fun q => (k1.free r4 k q).2.1) (fun q => (k1.free r5 k q).2.1)
 obtain ⟨T, hT⟩ : ∃ T, T = Fp3 r4 ++ Fp3 r5 := ⟨_, rfl⟩
 rw [← hT] at hfree
 have hmono := wU (S := S1) (h := w.heap) hfree
 have hin : ∀ k ∈ T, ∀ o, zA S1 w.heap T k o = zP w.heap k o := fun k hk o => by unfold zA; rw [if_pos hk]
 have hr4 := hc4.shut hmono (by simp [A.live, A.lives, z06]) (fun k hk => hin k (by rw [hT, hF4]; simp [hk]))
 have hr5 := c5.shut hmono (by simp only [A.live]; exact WT g es (Vb.live (f := g) (g := g))) (fun k hk => hin k (by rw [hT]; simp [hk]))
 have hcs : cs5 = [pv] := by rw [jN (y := .osl sz tg5 (es.map g)) rfl c5, ← v5, k1.pin r5 pv (xu hp5)]
 subst hcs
 simp only [A.shut, A.shuts, (shM g g es).2] at hr4 hr5
 have hF0 : F.Nodup := by simpa using k1.xn
 have hoff : ∀ k ∈ F, k ∉ T := fun k hk q => by
  rw [hT] at q
  exact (List.mem_append.1 q).elim (k1.xd r4 k (by simp [hk])) (k1.xd r5 k (by simp [hk]))
 have hdata : Rep (zA S1 w.heap T) (.agg [.atom u1, .atom u2, eSl 1 tg (eSl sz true g) r]) l := by
  simp only [Rep, zV] at hr4 ⊢
  obtain ⟨a1, a2, ha, p1, a3, a4, ha2, p2, a5, a6, ha3, ⟨p, c, hc, t1, t2, t3, t4⟩, rfl⟩ := hr4
  have hl := z0Z hr
  refine ⟨a1, a2, ha, p1, a3, a4, ha2, p2, a5, [], ha3, ?_, rfl⟩
  simp only [eSl, Rep, List.length_map, YO] at hc t1 t2 ⊢
  refine ⟨p, c, by rw [hl]; exact hc, fun q => by rw [hl]; exact t1 q, by rw [hl]; exact t2, ?_, ?_⟩
  ·intro y hy
   obtain ⟨_, _, rfl⟩ := List.mem_map.1 hy
   rfl
  ·rcases t4 with t4 | ⟨b1, o1, l1, q1, q2, q3⟩
   ·refine .inl ?_
    have : rows.length = 0 := by simpa [YO] using congrArg List.length t4
    rw [← hl] at this
    rw [List.length_eq_zero_iff.1 this]
    rfl
   ·exact .inr ⟨b1, o1, l1, q1, z2D hr5 hr q2, q3⟩
 have hS2 : y5 (zA S1 w.heap T) w := by
  refine ⟨fun b o u q => ?_, k1.still.gok.mono hmono, k1.still.blk.of hmono fun _ _ _ => rfl⟩
  unfold zA at q
  split at q
  ·exact q
  ·exact k1.still b o u q
 have hY := k2.frame (h' := w.heap) hmono (fun k hk => ⟨rfl, fun o => by unfold zA; rw [if_neg (hoff k hk)]; exact (k1.xb k (by simp [hk]) |> fun _ => (k2.own k hk).2 o)⟩)
 have hmap : (Array.map a.eval #[x]).toList = [a.eval x] := by simp
 have hact := hy (zA S1 w.heap T) w (a.eval f) [a.eval x] F hS2 (g3.1.mono hmono) ⟨⟨l, hdata, hev⟩, trivial⟩ (qe hY) hF0
 rw [← hmap] at hact
 intro rd m K Q hK
 refine z3b (args := #[x]) ho hact rd m K Q ?_
 rintro v' w' ⟨S', F', G, b1, b2, b3, b4, b5, b6, b7, b8⟩
 have hv : v' = .bool b ∧ F' = [] := by
  have q := UT (a := .atom (.bool b)) rfl b5
  exact ⟨(yc.1 q.1).1, q.2⟩
 obtain ⟨rfl, rfl⟩ := hv
 simp only [List.append_nil] at b7 b8
 obtain ⟨u5, R7, U7, R8, U8, q1, q2, rfl, rfl⟩ := bind_some e
 obtain ⟨u6, R9, U9, R10, U10, q3, q4, rfl, rfl⟩ := bind_some q2
 rw [zn, zn] at hK
 have k3' : Act.tv a 0 = yv := by simpa using k3.symm
 cases b with
 | true =>
  obtain ⟨_, rfl, rfl⟩ := xU q1
  simp only [zb] at hK q3 q4
  obtain ⟨S3, hS3⟩ : ∃ S3 : zf, S3 = fun b o => if b ∈ T then none else S' b o := ⟨_, rfl⟩
  have hm3 : ∀ b o u, S1 b o = some u → S3 b o = some u := fun b o u q => by
   have hb : b ∉ T := fun k => by rw [hfree b k o] at q; cases q
   rw [hS3]
   show (if b ∈ T then none else S' b o) = _
   rw [if_neg hb]
   exact b2 b o u (hmono b o u q)
  have hG : ∀ k ∈ G, k ∉ T := fun k hk q => by
   rcases b8 k hk with q2 | q2
   ·have : k < w.heap.size := by
     rw [hT] at q
     exact (List.mem_append.1 q).elim (fun q => (k1.free r4 k q).1) (fun q => (k1.free r5 k q).1)
    omega
   ·exact hoff k q2 q
  have hb6 := X4 (uo b6)
  have hGn : ∀ k ∈ G, ∀ o, S3 k o = none := fun k hk o => by
   rw [hS3]
   show (if k ∈ T then none else S' k o) = _
   rw [if_neg (hG k hk)]
   exact ((uo b6).own k hk).2 o
  have hs' := k1.lentCall (S' := S3) (Y := G) b1 hm3 (fun b o hb hbF => by
    rw [hS3]
    show (if b ∈ T then none else S' b o) = _
    split
    ·rename_i q; exact (hfree b q o).symm
    ·rename_i q
     rw [b3 b o hb hbF]
     unfold zA
     rw [if_neg q]) ⟨fun b o u q => by
    rw [hS3] at q
    have q' : (if b ∈ T then none else S' b o) = some u := q
    split at q'
    ·cases q'
    ·exact b4 b o u q', k1.still.gok.mono hm3, k1.still.blk.of hm3 fun g x e => b1.block g (by
     rintro (q | q)
     ·have := k1.still.blk.lt e; omega
     ·exact k1.still.blk.ne ((k2.own g q).2 0) x e)⟩ b7 b8
  have hY3 := hw rfl S1 S3 S' w.heap w'.heap yv F G hm3 hGn (X4 k2) hb6
  obtain ⟨Fp4, m1⟩ := V7 (F := G) (X := []) (by simpa using hs') (by simpa [k3'] using qe (W9 hY3 b7)) q3
  obtain ⟨Fp5, m2⟩ := yk m1 q4 (v := .bool true) (zj.2 ⟨rfl, rfl⟩)
  exact hK _ _ _ _ m2
 | false =>
  obtain ⟨u7, R11, U11, R12, U12, q5, q6, rfl, rfl⟩ := bind_some q1
  obtain ⟨rfl, rfl⟩ := Kv q5
  obtain ⟨rfl, rfl⟩ := Kv q6
  simp only [List.cons_append, List.nil_append, zb] at hK q3 q4
  have j1 := k1.drop r4 ht4
  have j2 := j1.drop r5 (x := .osl sz tg5 (es.map g)) (by rw [ur _ _ (Ne.symm hne)]; exact ht5)
  rw [ur _ _ (Ne.symm hne)] at j2
  have hTF : ∀ t k, k ∈ Zj (Zj Fp3 r4 []) r5 [] t → k ∉ T := by
   intro t k hk q
   rw [hT] at q
   unfold Zj at hk
   split at hk
   ·cases hk
   ·split at hk
    ·cases hk
    ·rename_i n5' n4'
     exact (List.mem_append.1 q).elim (fun q => n4' (k1.disj t r4 k hk q)) (fun q => n5' (k1.disj t r5 k hk q))
  have j3 := j2.seaT T (fun k hk => ⟨hfree k hk, by
    rw [hT] at hk
    exact (List.mem_append.1 hk).elim (k1.base r4 k) (k1.base r5 k), fun q => hoff k (by simpa using q) hk, fun t q => hTF t k q hk⟩)
  have hs' := j3.lentCall (S' := S') (Y := G) b1 b2 b3 b4 b7 b8
  obtain ⟨Fp4, m1⟩ := V7 (F := G) (X := []) (by simpa using hs') (by simpa [k3'] using b6) q3
  obtain ⟨Fp5, m2⟩ := yk m1 q4 (v := .bool false) (zj.2 ⟨rfl, rfl⟩)
  exact hK _ _ _ _ m2
def zeV (d : Nat) (o : Oper) : Option (Operand × Operand) := match o.op with | .call ⟨.value f, ⟨[x]⟩, _⟩ => if o.dst = some d then some (f, x) else none | _ => none
def xTy (tt : TT) {yv : Value} {σ β : Type} {Y : σ → kB} {enc : β → Bool → Value → List A} {y : σ → β → Option (σ × Bool)} (hy : YOk P yv Y enc y) (hw : WkY Y y) (d r4 r5 sz : Nat) (pv : Value) {u1 u2 : Value} {tg tg5 : Bool}   (g : α → A) [Vb g g] {es : List α} {r : List (List α)} (hr : Qx es rows = some r) (hne : r4 ≠ r5)
    {s s' : σ} {x : β} {b : Bool} (h : y s x = some (s', b)) (he : ∀ v, Yy [.agg [.atom u1, .atom u2, eSl 1 tg (eSl sz true g) r]] (enc x b v)) : XH P :=
  xAt P (zeV d) (fun n o q => tyO tt n o.dst r4 r5 sz pv yv (Y s) (Y s') b u1 u2 tg tg5 rows (es.map g) q.1 q.2) (fun n o q => tyH tt n o.dst r4 r5 sz pv yv (Y s) (Y s') b u1 u2 tg tg5 rows (es.map g) q.1 q.2)
    (by
      intro C S Fp st a w o q hp hs u R U e
      unfold zeV at hp
      split at hp
      · rename_i ho
        cases V2 hp
        exact zcQ hs hr hne (fun S w fv vs F q1 q2 q3 => hy s x s' b h .nilFunc S w fv vs F q1 q2 ((he .nilFunc).all _ _ q3)) (fun hb => hw s x s' (by rw [← hb]; exact h)) ho e
      · cases hp)
    (fun n o q => Loc.tyO _ _ _ _ _ _ _ _ _ _ _ _ _ _ _ _ _ _ _) (fun n o q => zfH _ _ _ _ _ _ _ _ _ _ _ _ _ _ _ _ _ _ _)
end
def ghQ (p : Prop) (v : Value) (x : A) : Opq := {
 holds := fun S h u F => p ∧ u = undef ∧ zw S h x [v] F
 multi := true
 one := fun q => .inr ⟨rfl, #[], by rw [q.2.1]; rfl⟩
 frame := fun hS hF q => ⟨q.1, q.2.1, q.2.2.frame hS hF⟩
 own := fun q k hk => ⟨(q.2.2.own k hk).1, (q.2.2.own k hk).2.1⟩
 idx := 0 }
theorem z2Z {tv : Nat → Value}  {e : Ent} {u v : Value}  {x : A} (he : e.t = .own (.opq (ghQ p v x))) : yf S h st tv F e u ↔ p ∧ u = undef ∧ zw S h x [v] F ∧ F.Nodup := by
 unfold yf
 simp only [he]
 constructor
 ·rintro ⟨cs, c1, c2, c3⟩
  simp only [zw] at c1
  obtain ⟨u', rfl, q0, q1, q2⟩ := c1
  have : u = u' := c3
  subst this
  exact ⟨q0, q1, q2, c2⟩
 ·rintro ⟨q0, rfl, q1, q2⟩
  exact ⟨[undef], by simp only [zw]; exact ⟨_, rfl, q0, rfl, q1⟩, q2, rfl⟩
theorem zce {g : Nat}   {x : A} (he : (st g).t = .own (.opq (ghQ p v x))) (h : p → AWP P n c st Q) : AWP P n c st Q :=
 fun rd m df w0 S0 M S Fp a w hc hs => h ((z2Z he).1 (hs.ent g)).1 rd m df w0 S0 M S Fp a w hc hs
section
variable {C : Ctx} {S : zf} {Fp : Nat → List Nat} {X : List Nat} {st : St} {a : Act} {w : World}
open Classical in
def ghO (tt : TT) (n : Fr) (dst : Option Nat) (g : Nat) (p p' : Prop) (v : Value) (x x' fa r : A) (xs0 : List A) (f : Operand) (as_ : List (Operand × Nat)) : SM Unit := do
 let fs ← refArgs tt n [(f, 0)]
 let xs ← refArgs tt n as_
 let e ← rdE g
 if fs = [fa] ∧ Yy xs xs0 ∧ e.t = .own (.opq (ghQ p v x)) then
  wrE g ⟨.own (.opq (ghQ p' v x')), e.er, e.ec + 2⟩ >>= fun _ => wrT n dst (.d r)
 else zm
def ghH (tt : TT) (n : Fr) (dst : Option Nat) (g : Nat) (p p' : Prop) (v : Value) (x x' fa r : A) (xs0 : List A) (f : Operand) (as_ : List (Operand × Nat)) : HM Unit :=
 wG tt n [(f, 0)] >>= fun fs => wG tt n as_ >>= fun xs => zH (rdE g) >>= fun e => wy (fs = [fa] ∧ Yy xs xs0 ∧ e.t = .own (.opq (ghQ p v x))) (zH (wrE g ⟨.own (.opq (ghQ p' v x')), e.er, e.ec + 2⟩ >>= fun _ => wrT n dst (.d r)))
open Classical in
theorem zfU (tt : TT) (n : Fr) (dst : Option Nat) (g : Nat) (p p' : Prop) (v : Value) (x x' fa r : A) (xs0 : List A) (f : Operand) (as_ : List (Operand × Nat)) : Snd (ghO tt n dst g p p' v x x' fa r xs0 f as_) (ghH tt n dst g p p' v x x' fa r xs0 f as_) :=
 z8 (wh _ _ _) fun _ => z8 (wh _ _ _) fun _ => z8 (ze _) fun _ => ym (ze _)
open Classical in
theorem Loc.ghO (tt : TT) (n : Fr) (dst : Option Nat) (g : Nat) (p p' : Prop) (v : Value) (x x' fa r : A) (xs0 : List A) (f : Operand) (as_ : List (Operand × Nat)) : Loc (ghO tt n dst g p p' v x x' fa r xs0 f as_) := by
 unfold Go.Own.ghO
 exact Loc.bind (Loc.refArgs _ _ _) fun _ => Loc.bind (Loc.refArgs _ _ _) fun _ => Loc.bind (Loc.rdE _) fun _ => Loc.ite (Loc.bind (Loc.wrE _ _) fun _ => Loc.wrT _ _ _) Loc.fail
open Classical in
theorem zdD {P : Program} {tt : TT} (h : Sim C S Fp [] st a w) {op : Oper} {f : Operand} {args : Array Operand} {tys : Array TypeId} {g : Nat} {p p' : Prop} {v : Value} {x x' fa r : A} {xs0 : List A} (hp : p → p') (hrd : r.isD = true)
  (hl : yl P fa xs0 [(v, .box x)] r [.box x']) (ho : op.op = .call { callee := .value f, args := args, argTypes := tys }) (hsz : args.size = tys.size) {u : Unit} {R : List Nat} {U : List (Nat × Ent)}
  (e : ghO tt C.n op.dst g p p' v (.box x) (.box x') fa r xs0 f (args.toList.zip tys.toList) st = some (u, R, U)) : xz P C op a w (zb U st) := by
 unfold ghO at e
 obtain ⟨fs, R1, U1, R2, U2, e1, e2, rfl, rfl⟩ := bind_some e
 obtain ⟨S1, Fp1, g1, g2, g3⟩ := xA h e1
 obtain ⟨xs, R3, U3, R4, U4, e3, e4, rfl, rfl⟩ := bind_some e2
 obtain ⟨S2, Fp2, j1, j2, j3⟩ := xA g1 e3
 have ⟨_, e5⟩ := bD e4
 have hq := z3A e5
 clear e5 e4 e3 e2 e1 e h
 obtain ⟨⟨rfl, hle, hg⟩, e⟩ := hq
 rw [zn, zn]
 have hmap : (args.toList.zip tys.toList).map (fun p => a.eval p.1) = (args.map a.eval).toList := by
  have : (args.toList.zip tys.toList).map (fun p => a.eval p.1) = ((args.toList.zip tys.toList).map (·.1)).map a.eval := by rw [List.map_map]; rfl
  rw [this, List.map_fst_zip (by simp [hsz])]
  simp
 rw [hmap] at j3
 generalize zb U3 (zb U1 st) = s2 at *
 obtain ⟨hp0, hu, hc, hn⟩ := (z2Z hg).1 (j1.ent g)
 obtain ⟨F, hF⟩ : ∃ F, F = Fp2 g := ⟨_, rfl⟩
 rw [← hF] at hc hn
 have hv : v.oneCell' = true := hc.one1 rfl _ (by simp)
 have k1 : Sim C S2 (Zj Fp2 g []) (F ++ []) (upd s2 g ⟨.own (.opq (ghQ p v (.dead 1))), (s2 g).er, (s2 g).ec + 1⟩) a w := by
  refine j1.change g (.own (.opq (ghQ p v (.dead 1)))) _ _ [] j1.below (fun _ _ _ q => q) j1.still.cell j1.sbase (fun t k _ hk => ⟨rfl, (j1.free t k hk).2.1⟩) ⟨?_, _, hg⟩ (.inl ⟨_, hg⟩) (Nat.le_refl _) (Nat.lt_succ_self _) (by simp) (by simp) (by simpa using hn) ?_ (by simp) ?_
  ·exact ⟨[undef], by simp only [zw]; exact ⟨_, rfl, hp0, rfl, rfl, by simpa using hv, rfl⟩, List.nodup_nil, hu⟩
  ·intro t k ht hk
   rw [List.append_nil, hF] at hk
   exact fun q => ht (j1.disj t g k q hk)
  ·intro k hk
   rw [List.append_nil, hF] at hk
   exact j1.base g k hk
 have hact := hl S2 w (a.eval f) _ F j1.still (g3.1.mono j2) (hle.all _ _ j3) (qe (.inr ⟨[v], hc, hn, rfl⟩)) hn
 intro rd m K Q hK
 refine z3b ho hact rd m K Q ?_
 rintro v' w' ⟨S', F', G, b1, b2, b3, b4, b5, b6, b7, b8⟩
 obtain ⟨b5r, rfl⟩ := UT hrd b5
 simp only [List.append_nil] at b7 b8
 have hs' := k1.lentCall (Y := G) b1 b2 b3 b4 b7 b8
 obtain ⟨u5, R7, U7, R8, U8, q1, q2, rfl, rfl⟩ := bind_some e
 obtain ⟨rfl, rfl⟩ := Kv q1
 rw [zn] at hK
 obtain ⟨cs, c1, c2, c3⟩ := (uo b6).cells (by rintro fs q; cases q)
 have hcs : cs = [v] := by rw [jN (y := .box x') rfl c1, ← c3]
 subst hcs
 have k2 : Sim C S' (Zj (Zj Fp2 g []) g G) [] (upd s2 g ⟨.own (.opq (ghQ p' v (.box x'))), (s2 g).er, (s2 g).ec + 2⟩) a w' := by
  have := hs'.change (X' := []) g (.own (.opq (ghQ p' v (.box x')))) (s2 g).er ((s2 g).ec + 2) G hs'.below (fun _ _ _ q => q) hs'.still.cell hs'.sbase (fun t k _ hk => ⟨rfl, (hs'.free t k hk).2.1⟩)
   ⟨⟨[undef], by simp only [zw]; exact ⟨_, rfl, hp hp0, rfl, c1⟩, b7, hu⟩, _, by rw [yQ]⟩ (.inl ⟨_, by rw [yQ]⟩) (by rw [yQ]; exact Nat.le_refl _) (by rw [yQ]; exact Nat.lt_succ_self _) (fun t k _ hk => hs'.xd t k hk) hs'.xb (by simp) (by simp) (by simp) (by simp)
  have e : upd (upd s2 g ⟨.own (.opq (ghQ p v (.dead 1))), (s2 g).er, (s2 g).ec + 1⟩) g ⟨.own (.opq (ghQ p' v (.box x'))), (s2 g).er, (s2 g).ec + 2⟩ = upd s2 g ⟨.own (.opq (ghQ p' v (.box x'))), (s2 g).er, (s2 g).ec + 2⟩ := by
   funext t
   unfold upd
   split <;> rfl
  rw [← e]
  exact this
 obtain ⟨Fp5, m2⟩ := yk k2 q2 (v := v') b5r.repV
 exact hK _ _ _ _ m2
def zfb (d : Nat) (o : Oper) : Option (Operand × List (Operand × Nat)) := match o.op with | .call ⟨.value f, args, tys⟩ => if o.dst = some d then (if args.size = tys.size then some (f, args.toList.zip tys.toList) else none) else none | _ => none
def xGh (tt : TT) (d g : Nat) {p p' : Prop}  {x x' fa r : A}  (hp' : p → p') (hrd : r.isD = true) (hl : yl P fa xs0 [(v, .box x)] r [.box x']) : XH P :=
 xAt P (zfb d) (fun n o q => ghO tt n o.dst g p p' v (.box x) (.box x') fa r xs0 q.1 q.2) (fun n o q => ghH tt n o.dst g p p' v (.box x) (.box x') fa r xs0 q.1 q.2)
  (by
   intro C S Fp st a w o q hp hs u R U e
   unfold zfb at hp
   split at hp
   ·rename_i ho
    have hp := V2 hp
    split at hp
    ·rename_i hsz; cases hp; exact zdD hs hp' hrd hl ho hsz e
    ·cases hp
   ·cases hp)
  (fun n o q => Loc.ghO _ _ _ _ _ _ _ _ _ _ _ _ _ _) (fun n o q => zfU _ _ _ _ _ _ _ _ _ _ _ _ _ _)
end
theorem z38 : ∀ {l : List A}, A.areD l = true → ∀ y ∈ l, y.isD = true
 | x :: l, h, y, hy => by
  simp only [A.areD, Bool.and_eq_true] at h
  rcases List.mem_cons.1 hy with rfl | hy
  ·exact h.1
  ·exact z38 h.2 y hy
theorem z3a {α β : Type} {R : α → β → Prop} : ∀ {l : List α} {m : List β} {i : Nat} {x : α}, uH R l m → l[i]? = some x → ∃ y, m[i]? = some y ∧ R x y
 | a :: l, b :: m, 0, x, h, e => ⟨b, rfl, by cases e; exact h.1⟩
 | a :: l, b :: m, i + 1, x, h, e => z3a (l := l) (m := m) (i := i) h.2 (by simpa using e)
 | _ :: _, [], _, _, h, _ => h.elim
 | [], _, _, _, _, e => by simp at e
theorem z4t {nt : Nat} (g : Nat) {args : List A} {x x' : A} {cv : Value}  (hp : p) (hf : P.funcs[k]? = some fn) (hnm : (fn.name == "runtime.NumGoroutine") = false) (hb : fn.body = some body)
  (hn : nt = fn.ntmps) (hr : fn.results = #[]) (ha : args.length ≤ g) (hg : g < nt) (hD : A.areD args = true)
  (h : ∀ E : Exit → St → Prop, (∀ l st, ¬ E (.goto l) st) → (∀ ex st, (ex = .normal ∨ ex = .ret) → (∃ q, (st g).t = .own (.opq (ghQ q cv (.box x')))) → E ex st) →
   AWP P ⟨nt, []⟩ body (ofL ((g, .own (.opq (ghQ p cv (.box x)))) :: z0q 0 args)) (Qf P ⟨nt, []⟩ [] E)) : yl P (.fn k []) args [(cv, .box x)] (.tup []) [.box x'] := by
 subst hn
 intro S w fv vs F hS hfv havs hls hF
 obtain ⟨cs0, hfv, rfl⟩ := hfv
 simp only [Rep] at hfv
 obtain ⟨us, k1, k2, rfl⟩ := hfv
 have hus : us = [] := by simpa only [zV] using k1
 subst hus
 obtain ⟨cs, c1, c2, c3⟩ := (uo hls).cells (by rintro fs q; cases q)
 have hcs : cs = [cv] := by rw [jN (y := .box x) rfl c1]; exact congrArg (fun v => [v]) c3.symm
 subst hcs
 refine .inl ⟨k, #[], fn, rfl, hf, hnm, by rw [hb]; rfl, ?_⟩
 have hw : Calls P k vs.toArray w fun e w' => ∃ v, e = .returned v ∧ ∃ S' F' G, uG (fun k => w.heap.size ≤ k ∨ k ∈ F) w w' ∧ (∀ b o u, S b o = some u → S' b o = some u) ∧ (∀ b o, b < w.heap.size → b ∉ F → S' b o = S b o) ∧ y5 S' w' ∧ Has S' w'.heap (.tup []) v F' ∧
   qj S' w'.heap [.box x'] [cv] G ∧ (G ++ F').Nodup ∧ ∀ k ∈ G ++ F', w.heap.size ≤ k ∨ k ∈ F := by
  refine (callsIn_wide (n := 0)).1 (callsIn_of_wp_marks hf hb trivial ?_ rfl)
  have hlen := UZ havs
  have htv : ∀ t, Act.tv { tmps := vs.toArray ++ Array.replicate (fn.ntmps - vs.toArray.size) undef, defers := [] } t = (vs[t]?).getD undef := by
   intro t
   simp only [Act.tv, Array.getD_eq_getD_getElem?]
   by_cases ht : t < vs.length
   ·rw [Array.getElem?_append_left (by simpa using ht)]
    simp
   ·rw [Array.getElem?_append_right (by simpa using ht), List.getElem?_eq_none (by omega), Array.getElem?_replicate]
    split <;> rfl
  have hs : Sim ⟨⟨fn.ntmps, []⟩, [], w, S, fun k => w.heap.size ≤ k ∨ k ∈ F⟩ S (fun t => if t = g then F else []) [] (ofL ((g, .own (.opq (ghQ p cv (.box x)))) :: z0q 0 args)) { tmps := vs.toArray ++ Array.replicate (fn.ntmps - vs.toArray.size) undef, defers := [] } w := by
   refine { size := by simp; omega, pin := by simp, defers := rfl, below := uG.refl _ _, mine := ⟨fun k hk => .inl hk, ?_⟩, still := hS, sinc := fun _ _ _ q => q, sbase := fun _ _ _ => rfl, ent := ?_, disj := ?_, base := ?_, xn := by simp, xd := by simp, xb := by simp }
   ·rintro b y e (hk | hk)
    ·have := hS.blk.lt e; omega
    ·exact hS.blk.ne ((c1.own b hk).2.1 0) y e
   ·intro t
    rw [htv]
    by_cases ht : t = g
    ·subst ht
     rw [if_pos rfl]
     refine (z2Z (by simp only [ofL, if_pos])).2 ⟨hp, ?_, c1, c2⟩
     rw [List.getElem?_eq_none (by omega)]; rfl
    ·rw [if_neg ht]
     have e1 : ofL ((g, .own (.opq (ghQ p cv (.box x)))) :: z0q 0 args) t = ini args t := by rw [QU]; simp only [ofL, if_neg ht]
     rw [e1]
     unfold ini
     cases hat : args[t]? with
     | none => rfl
     | some y =>
      dsimp only
      have hy : y.isD = true := z38 hD y (List.mem_of_getElem? hat)
      obtain ⟨u, hu, hr1⟩ := z3a havs hat
      rw [hu]
      have : mkT y = .d y := by cases y <;> first | rfl | (simp [A.isD] at hy; done) | (simp only [mkT]; rw [if_pos hy])
      unfold yf
      simp only [this]
      exact ⟨hr1.repV, by trivial⟩
   ·intro t u k ht hu
    split at ht <;> split at hu <;> simp_all
   ·intro t k hk
    split at hk
    ·exact .inr hk
    ·cases hk
  refine wpIn_mono (h (fun ex st => (ex = .normal ∨ ex = .ret) ∧ ∃ q, (st g).t = .own (.opq (ghQ q cv (.box x')))) (fun l st q => by rcases q.1 with q | q <;> cases q) (fun ex st h1 h2 => ⟨h1, h2⟩) none 0 [] w S _ S _ _ w ⟨by simp, by simp, by simp⟩ hs) ?_
  rintro ex a' w' ⟨df', st', S', Fp', h1, h2, hx, _, hgt⟩
  have fin : LeavesInM Fence.wide 0 P fn a'.tmps (fun e w' => ∃ v, e = .returned v ∧ ∃ S' F' G, uG (fun k => w.heap.size ≤ k ∨ k ∈ F) w w' ∧ (∀ b o u, S b o = some u → S' b o = some u) ∧ (∀ b o, b < w.heap.size → b ∉ F → S' b o = S b o) ∧ y5 S' w' ∧ Has S' w'.heap (.tup []) v F' ∧
   qj S' w'.heap [.box x'] [cv] G ∧ (G ++ F').Nodup ∧ ∀ k ∈ G ++ F', w.heap.size ≤ k ∨ k ∈ F) a'.defers .returning w' := by
   rw [h1.defers]
   refine z29 (C := ⟨⟨fn.ntmps, []⟩, df', w, S, fun k => w.heap.size ≤ k ∨ k ∈ F⟩) (fun w2 hw2 => ?_) df' w' h1 h2.nodup fun D hD => ⟨(h2.old D hD).elim (fun q => by simp at q) id, h2.ent D hD, h2.off D hD⟩
   obtain ⟨_, q1, q2, q3⟩ := (z2Z hgt).1 (hw2.ent g)
   refine ⟨.tuple #[], by simp [results, hr], _, rfl, S', [], Fp' g, hw2.below, hw2.sinc, fun b o hb hbF => hw2.sbase b o (by rintro (q | q) <;> first | omega | exact hbF q), hw2.still, .inl ⟨by simp only [yi]; exact ⟨[], rfl, trivial⟩, rfl⟩, qe (.inr ⟨[cv], q2, q3, rfl⟩), by simpa using q3, fun k hk => hw2.base g k (by simpa using hk)⟩
  rcases hx with rfl | rfl
  ·exact fin
  ·exact fin
 simpa using hw
def WkA (x : A) : Prop := ∀ (S S1 : zf) (h : Array Obj) (cs : List Value) (F : List Nat), zw S h x cs F → (∀ k ∈ F, ∀ o, S1 k o = none) → zw S1 h x cs F
theorem UN {x : A} (h : x.indep = true) : WkA x := fun _ _ _ _ _ q hF => zw.indep h q hF
theorem zcK {x : A} (h : WkA x) : WkA (.opq (ghQ p v x)) := fun S S1 hp cs F q hF => by
 simp only [zw] at q ⊢
 obtain ⟨u, e, q0, q1, q2⟩ := q
 exact ⟨u, e, q0, q1, h _ _ _ _ _ q2 hF⟩
inductive WkL : List (Nat × T) → List (Nat × T) → Prop
 | nil : WkL [] []
 | d (k : Nat) (a : A) {l m : List (Nat × T)} : WkL l m → WkL ((k, .d a) :: l) ((k, .d a) :: m)
 | own (k : Nat) {x y : A} {l m : List (Nat × T)} : WkA y → WkL l m → WkL ((k, .own x) :: l) ((k, .own y) :: m)
theorem WkL.ent {l m : List (Nat × T)} (h : WkL l m) (t : Nat) : (ofL m t).t = .gone ∨ (∃ a, (ofL l t).t = .d a ∧ (ofL m t).t = .d a) ∨ ∃ y, (ofL m t).t = .own y ∧ WkA y := by
 induction h with
 | nil => exact .inl rfl
 | d k a _ ih =>
  simp only [ofL]
  split
  ·exact .inr (.inl ⟨a, rfl, rfl⟩)
  ·exact ih
 | own k hy _ ih =>
  simp only [ofL]
  split
  ·exact .inr (.inr ⟨_, rfl, hy⟩)
  ·exact ih
def zcv (o : kB) (p : Prop) : kB := ⟨fun S h v F => p ∧ o.holds S h v F, fun q => o.one q.2, fun a b q => ⟨q.1, o.frame a b q.2⟩, fun q => o.own q.2, o.idx⟩
def zcw {σ τ : Type} (inv : σ → Prop) : LR σ τ → Prop
 | .next s => inv s
 | .done _ => True
theorem z4z {P : Program} {K : Nat} {caps : List A} {σ τ β : Type} {enc : β → Bool → Value → List A} {F : ∀ {σ : Type}, (σ → β → Option (σ × Bool)) → σ → Option σ} {stF : σ → List (Nat × T)} {stD : τ → List (Nat × T)} {jc : τ → Code} {step : σ → β → Option (LR σ τ)} {s0 : σ} {lr : LR σ τ}
  (hit : z9M P (.fn K caps) enc F) (inv : σ → Prop) (h0 : inv s0) (hs : ∀ s x s', inv s → step s x = some (.next s') → inv s' ∧ WkL (stF s) (stF s')) (hF : F (yOf step) (.next s0) = some lr) (L : Nat) (rec : Loop) (tv : Nat → Value) (hp : ∀ l t, ((Qp (fun s => ofL (stF s)) (fun t => ofL (stD t)) l) t).t.plain = true)
  (hY : YOk P (.func (.yield L) #[] #[]) (fun l => (Wb L (kO rec jc l) tv (Qp (fun s => ofL (stF s)) (fun t => ofL (stD t)) l) (hp l) 0).single rfl) enc (yOf step)) :
  yl P (.fn K caps) [.atom (.func (.yield L) #[] #[])] [(.func (.yield L) #[] #[], .opq (Wb L (kO rec jc (LR.next s0 : LR σ τ)) tv (Qp (fun s => ofL (stF s)) (fun t => ofL (stD t)) (.next s0)) (hp (.next s0)) 0))] (.tup []) [.opq (Wb L (kO rec jc lr) tv (Qp (fun s => ofL (stF s)) (fun t => ofL (stD t)) lr) (hp lr) 0)] := by
 obtain ⟨Y, hYd⟩ : ∃ Y : LR σ τ → kB, Y = fun l => (Wb L (kO rec jc l) tv (Qp (fun s => ofL (stF s)) (fun t => ofL (stD t)) l) (hp l) 0).single rfl := ⟨_, rfl⟩
 rw [← hYd] at hY
 have h1 : YOk P (.func (.yield L) #[] #[]) (fun l => zcv (Y l) (zcw inv l)) enc (yOf step) := by
  intro l x l' b hy v S w fv vs G hS hfv hvs hls hG
  have q := X4 (uo hls)
  refine z9P.mono (hY l x l' b hy v S w fv vs G hS hfv hvs (qe (W9 (o := (Y l).q) q.2 hG)) hG) ?_
  rintro u w' ⟨S', F', G', k1, k2, k3, k4, k5, k6, k7, k8⟩
  refine ⟨S', F', G', k1, k2, k3, k4, k5, qe (W9 (o := (zcv (Y l') (zcw inv l')).q) ⟨?_, X4 (uo k6)⟩ (List.nodup_append.1 k7).1), k7, k8⟩
  obtain ⟨s, rfl, hst, _⟩ := Ks hy
  cases l' with
  | done t => trivial
  | next s' => exact (hs s x s' q.1 hst).1
 have h2 : WkY (fun l => zcv (Y l) (zcw inv l)) (yOf step) := by
  intro l x l' hy S S1 S' h h' v F F' hm hn q q'
  obtain ⟨s, rfl, hst, hb⟩ := Ks hy
  cases l' with
  | done t => cases hb
  | next s' =>
   subst hYd
   obtain ⟨i1, _, _, _, Fp, q4, _, _, _⟩ := q
   obtain ⟨i2, p1, p2, p3, Fp', p4, p5, p6, p7⟩ := q'
   refine ⟨i2, p1, p2, hn L ((p7 L).2 (.inl rfl)), Fp', fun t => ?_, p5, p6, p7⟩
   have hF : ∀ k ∈ Fp' t, ∀ o, S1 k o = none := fun k hk => hn k ((p7 k).2 (.inr ⟨t, hk⟩))
   have e1 := p4 t
   have e0 := q4 t
   unfold yf at e1 e0 ⊢
   simp only [Qp] at e1 e0 ⊢
   rcases (hs s x s' i1 hst).2.ent t with k | ⟨a, k1, k2⟩ | ⟨y, k1, k2⟩
   ·simp only [k] at e1 ⊢; exact e1
   ·simp only [k1] at e0
    simp only [k2] at e1 ⊢
    exact ⟨e0.1.mono hm, e1.2⟩
   ·simp only [k1] at e1 ⊢
    obtain ⟨cs, c1, c2, c3⟩ := e1
    exact ⟨cs, k2 _ _ _ _ _ c1 hF, c2, c3⟩
 intro S w fv vs G hS hfv hvs hls hG
 have q := X4 (uo hls)
 subst hYd
 refine z9P.mono (hit _ _ _ _ h1 h2 _ _ hF S w fv vs G hS hfv hvs (qe (W9 (o := (zcv _ (zcw inv (.next s0))).q) ⟨h0, q⟩ hG)) hG) ?_
 rintro u w' ⟨S', F', G', k1, k2, k3, k4, k5, k6, k7, k8⟩
 exact ⟨S', F', G', k1, k2, k3, k4, k5, qe (W9 (X4 (uo k6)).2 (List.nodup_append.1 k7).1), k7, k8⟩
section
variable {P : Program}
theorem z3k {b : Frame} {k : List Item}  : step P (lone (b.atR a (.code .skip :: k)) cs w) = .next (lone (b.atR a k) cs w) :=
 step_lone_go (by simp [Go.stepG, Go.stepG.exec, Frame.atR])
theorem z1K {F : Fence} {n : Nat} {Q : Exit → Act → World → Prop}    {l : Nat} (hf : findLabel c l = some .skip) (h : c.wpIn F n P (fun e a w => match e with | .goto l' => l' = l ∧ Q .normal a w | e => Q e a w) a w) : (Code.scope c).wpIn F n P Q a w := by
 intro b k cs hro hb hr
 have h0 : (lone (b.atR a (.code (.scope c) :: k)) cs w).fenced P F := fenced_calm hb hr rfl
 have ⟨e, a₁, w₁, hq, harr⟩ := h b (.inScope c :: k) cs hro hb hr
 cases e with
 | normal => exact ⟨.normal, a₁, w₁, hq, .head h0 xq (StepsIn.trans harr (.one (fenced_calm hb hr rfl) Zu))⟩
 | exit id =>
  have hx : exitTo id (.inScope c :: k) = exitTo id k := by simp [exitTo]
  exact ⟨.exit id, a₁, w₁, hq, fun k' hk => .head h0 xq (harr.1 k' (by rw [hx]; exact hk)),
   fun hr' hk => let ⟨k₁, h1, h2⟩ := harr.2 hr' (by rw [hx]; exact hk); ⟨k₁, h1, .head h0 xq h2⟩⟩
 | goto l' =>
  obtain ⟨rfl, hq⟩ := hq
  have hg : gotoIn l' (.inScope c :: k) = some (.code .skip :: .inScope c :: k) := by simp [gotoIn, hf]
  exact ⟨.normal, a₁, w₁, hq, .head h0 xq (StepsIn.trans (harr.1 _ hg) (.head (fenced_calm hb hr rfl) z3k (.one (fenced_calm hb hr rfl) Zu)))⟩
 | ret => exact ⟨_, a₁, w₁, hq, .of_steps (.one h0 xq) harr⟩
 | panic ch => exact ⟨_, a₁, w₁, hq, .of_steps (.one h0 xq) harr⟩
 | outgrown => exact ⟨_, a₁, w₁, hq, .of_steps (.one h0 xq) harr⟩
def scQ (l : Nat) (Q : Exit → St → Prop) : Exit → St → Prop
 | .goto l', st => l' = l ∧ Q .normal st
 | e, st => Q e st
theorem AWP.scopeL {l : Nat} (hf : findLabel c l = some .skip) (h : AWP P n c st (scQ l Q)) : AWP P n (.scope c) st Q := by
 intro rd m df w0 S0 M S Fp a w hc hs
 refine z1K hf (wpIn_mono (h rd m df w0 S0 M S Fp a w hc hs) ?_)
 rintro e a' w' ⟨df', st1, S1, Fp1, h1, h2, h3⟩
 cases e with
 | goto l' => exact ⟨h3.1, df', st1, S1, Fp1, h1, h2, h3.2⟩
 | _ => exact ⟨df', st1, S1, Fp1, h1, h2, h3⟩
theorem AWP.goto {l : Nat} (h : Q (.goto l) st) : AWP P n (.goto l) st Q := fun _ _ _ _ _ _ _ _ _ _ hc hs => wpIn_goto (hc.fin hs h)
theorem Vz {l : Nat}  : ∀ fs : List Fm, Q (.goto l) st → Qf P n fs Q (.goto l) st
 | [], h => h
 | .seq _ :: fs, h => Vz fs h
 | .blk _ :: fs, h => Vz fs h
 | .pre _ :: fs, h => Vz fs h
 | .rnd _ _ :: fs, h => Vz fs h
theorem z4Z {c c' : Code}  {l : Nat} (e : c = .scope c') (hf : findLabel c' l = some .skip) (h : AWP P n c' st (Qf P n [] (scQ l (Qf P n fs Q)))) : AWP P n c st (Qf P n fs Q) := by
 subst e
 exact AWP.scopeL hf h
theorem yl.pre {f : A} {args : List A}  {x x0 r : A}  (hx : LeA x0 x) (h : yl P f args [(v, x)] r ys) : yl P f args [(v, x0)] r ys := fun S w fv vs F hS hfv hvs hls hF =>
 h S w fv vs F hS hfv hvs (qe ((LeV.one x0 x).has _ _ _ _ (uo hls))) hF
theorem s3B (f : α → A) {l : List α} {m : Int} (h : m ≤ ((l.length : Nat) : Int)) : m.toNat ≤ (l.map f).length := by
 rw [List.length_map]; omega
end
end Go.Own
end
