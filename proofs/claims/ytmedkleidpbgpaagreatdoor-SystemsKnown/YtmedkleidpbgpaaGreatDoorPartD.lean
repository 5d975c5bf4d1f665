/- -/
import Derived.Test.YtmedkleidpbgpaaGreatDoorPartC
import Derived.Laws.BytesString
noncomputable section
set_option linter.unusedVariables false
set_option linter.unusedSimpArgs false
namespace Go.Own
def z2T (i : TI) : Option A :=
 match i.zero with
 | some z => if z.live = true then some z.shut.loose else none
 | none => none
theorem z4q {i : TI} {z' : A} (h : z2T i = some z') : ∃ z, i.zero = some z ∧ z.live = true ∧ z' = z.shut.loose := by
 unfold z2T at h
 split at h
 ·rename_i z hz
  split at h
  ·rename_i hl; cases h; exact ⟨z, hz, hl, rfl⟩
  ·cases h
 ·cases h
theorem KW (z : Array Value) (n : Nat) : (Builtin.zeroCells z n).toList = (List.replicate n z.toList).flatten := by
 apply List.ext_getElem?
 intro k
 rw [z1a, Array.length_toList]
 simp only [Builtin.zeroCells, Array.toList_map, Array.toList_range, List.getElem?_map]
 by_cases hk : k < n * z.size
 ·rw [if_pos hk, List.getElem?_range hk, Option.map_some]
  have hz : 0 < z.size := by
   rcases Nat.eq_zero_or_pos z.size with h0 | h0
   ·rw [h0] at hk; simp at hk
   ·exact h0
  have hmod : k % z.size < z.size := Nat.mod_lt _ hz
  rw [Array.getElem?_toList, Array.getElem?_eq_getElem hmod, getElem!_pos z _ hmod]
 ·rw [if_neg hk, List.getElem?_eq_none (by simpa using hk), Option.map_none]
variable {S : zn}{sz : Nat}
theorem z20 : ∀ {xs : List A} {cs : List Value} (_ : yw S xs cs) (_ : ∀ x ∈ xs, x.size = sz) (l : Nat), yw S (xs.take l) (cs.take (l * sz))
 | [], cs, h, _, l => by simp [yw] at h; subst h; simp [yw]
 | x :: xs, cs, h, hs, 0 => by simp [yw]
 | x :: xs, cs, h, hs, l + 1 => by
  simp [yw] at h
  obtain ⟨c1, c2, rfl, h1, h2⟩ := h
  have hl : c1.length = sz := by rw [h1.len]; exact hs x (by simp)
  rw [List.take_succ_cons, Nat.succ_mul, Nat.add_comm, ← hl, List.take_length_add_append]
  simp [yw]
  rw [hl]
  exact ⟨c1, _, rfl, h1, z20 h2 (fun y hy => hs y (by simp [hy])) l⟩
theorem z5D {arr : Array Value} {o : Nat} {zs : List Value} (h : o + zs.length ≤ arr.size) : (WP arr o zs).toList.take (o + zs.length) = arr.toList.take o ++ zs := by
 rw [← jD h]
 have h1 : (arr.toList.take o).length = o := by simp; omega
 simp only []
 rw [show o + zs.length = (arr.toList.take o ++ zs).length by simp; omega, List.take_left]
variable {P : Program}{U : List (Nat × Ent)}{tt : TT}{R : List Nat}{v : Value}{o : Oper}{u : Unit}
section
variable {C : Ctx} {S : zn} {Fp : Nat → List Nat} {st : St} {a : Act} {w : World}
def vcK (tt : TT) (n : Fr) (dst : Option Nat) (ty sz r : Nat) (l : Int) (e : Ent) : SM Unit :=
 match e.t with
 | .own (.osl sz' tg es) =>
  match tt ty with
  | some ⟨.slice el, _, _, _, _⟩ =>
   match tt el with
   | some i =>
    match z2T i with
    | some z => if sz' = sz ∧ i.size = sz ∧ 0 ≤ l ∧ l.toNat ≤ es.length ∧ A.areD es = true then
      wrE r ⟨.own (.osl sz tg (es.take l.toNat ++ List.replicate (es.length - l.toNat) z)), e.er, e.ec + 1⟩ >>= fun _ => wrT n dst (.d (.tup []))
     else zt
    | none => zt
   | none => zt
  | _ => zt
 | _ => zt
open Classical in
def vcO (tt : TT) (n : Fr) (dst : Option Nat) (ty sz r : Nat) (v : Value) (l : Int) (x : Operand) : SM Unit := do
 let tx ← opnd x
 let e ← rdE r
 if tx = .d (.atom (Vq sz v l)) ∧ WO n.pin r = some v then vcK tt n dst ty sz r l e else zt
def vcH (tt : TT) (n : Fr) (dst : Option Nat) (ty sz r : Nat) (v : Value) (l : Int) (x : Operand) : HM Unit := yk (opnd x) >>= fun tx => yk (rdE r) >>= fun e => Zq (tx = .d (.atom (Vq sz v l)) ∧ WO n.pin r = some v)
  (match e.t with
  | .own (.osl sz' tg es) =>
   match tt ty with
   | some ⟨.slice el, _, _, _, _⟩ =>
    match tt el with
    | some i =>
     match z2T i with
     | some z => if sz' = sz ∧ i.size = sz then Zq (0 ≤ l ∧ l.toNat ≤ es.length ∧ A.areD es = true)
       (eqL (es.take l.toNat ++ List.replicate (es.length - l.toNat) z) >>= fun zs => yk (wrE r ⟨.own (.osl sz tg zs), e.er, e.ec + 1⟩ >>= fun _ => wrT n dst (.d (.tup []))))
      else zF
     | none => zF
    | none => zF
   | _ => zF
  | _ => zF)
open Classical in
theorem zeD (tt : TT) (n : Fr) (dst : Option Nat) (ty sz r : Nat) (v : Value) (l : Int) (x : Operand) : Snd (vcO tt n dst ty sz r v l x) (vcH tt n dst ty sz r v l x) := by
 refine zk (zo _) fun tx => zk (zo _) fun e => ue ?_
 unfold vcK
 cases e.t with
 | own y =>
  cases y with
  | osl sz' tg es =>
   dsimp only
   generalize tt ty = q
   rcases q with _ | ⟨k, a1, a2, a3, a4⟩
   ·exact zp _
   ·cases k with
    | slice el =>
     dsimp only
     generalize tt el = q
     cases q with
     | none => exact zp _
     | some i =>
      dsimp only
      cases z2T i with
      | none => exact zp _
      | some z =>
       refine Jf (fun h1 h2 => ⟨h1.1, h1.2, h2.1, h2.2.1, h2.2.2⟩) ?_
       exact Vx (yd _ fun zs => wrE r ⟨.own (.osl sz tg zs), e.er, e.ec + 1⟩ >>= fun _ => wrT n dst (.d (.tup []))).symm (zk (z33 _) fun _ => zo _)
    | _ => exact zp _
  | _ => exact zp _
 | _ => exact zp _
open Classical in
theorem Loc.vcO (tt : TT) (n : Fr) (dst : Option Nat) (ty sz r : Nat) (v : Value) (l : Int) (x : Operand) : Loc (vcO tt n dst ty sz r v l x) := by
 unfold Go.Own.vcO
 refine Loc.bind (Loc.opnd _) fun _ => Loc.bind (Loc.rdE _) fun _ => Loc.ite ?_ Loc.fail
 unfold Go.Own.vcK
 split
 ·split
  ·split
   ·split
    ·exact Loc.ite (Loc.bind (Loc.wrE _ _) fun _ => Loc.wrT _ _ _) Loc.fail
    ·exact Loc.fail
   ·exact Loc.fail
  ·exact Loc.fail
 ·exact Loc.fail
theorem zcC (hT : wG P tt) (h : Sim C S Fp [] st a w)  {t sz r : Nat} {v : Value} {l : Int} {x : Operand} (ho : o.op = .call ⟨.builtin .clear, ⟨[x]⟩, ⟨[t]⟩⟩)    (e0 : vcO tt C.n o.dst t sz r v l x st = some (u, R, U)) : qE P C o a w (zl U st) := by
  unfold vcO at e0
  have ⟨tx, _, hx, e1⟩ := bR (zD h) e0
  have ⟨_, e4⟩ := bD e1
  split at e4
  · rename_i hc
    obtain ⟨rfl, c2⟩ := hc
    have hs := h.pin r v (vL c2)
    unfold vcK at e4
    cases ht : (st r).t with
    | own y =>
     cases y with
     | osl sz' tg es =>
      simp only [ht] at e4
      obtain ⟨el, a1, a2, a3, a4, hty⟩ : ∃ el a1 a2 a3 a4, tt t = some ⟨.slice el, a1, a2, a3, a4⟩ := by
        cases hq : tt t with
        | none => simp only [hq] at e4; cases e4
        | some it =>
          have ⟨k, a1, a2, a3, a4⟩ := it
          cases k with
          | slice el => exact ⟨el, a1, a2, a3, a4, rfl⟩
          | _ => simp only [hq] at e4; cases e4
      simp only [hty] at e4
      obtain ⟨i, hi⟩ : ∃ i, tt el = some i := by
        cases hq : tt el with
        | none => simp only [hq] at e4; cases e4
        | some i => exact ⟨i, rfl⟩
      simp only [hi] at e4
      obtain ⟨z', hz'⟩ : ∃ z', z2T i = some z' := by
        cases hq : z2T i with
        | none => simp only [hq] at e4; cases e4
        | some i => exact ⟨i, rfl⟩
      simp only [hz'] at e4
      have hel : P.underlying t = some (.slice el) := (hT _ _ hty).kind
      · · split at e4
          · rename_i hd
            obtain ⟨rfl, d2, d3, d4, d5⟩ := hd
            obtain ⟨z, hz, hlv, rfl⟩ := z4q hz'
            have ⟨f, f1, f2, f3, f4⟩ := (hT _ _ hi).info
            have ⟨zv, v1, v2, v3⟩ := f4 z hz
            have hzr : Rep S z.shut.loose zv.cells.toList := ((v3 S w.heap).shut (fun _ _ _ q => q) hlv (by simp)).loose
            have hzl : zv.cells.toList.length = sz' := by rw [((v3 S w.heap).shut (S' := S) (fun _ _ _ q => q) hlv (by simp)).len, A.size_shut, v2, d2]
            have hq := h.ent r
            unfold xV at hq
            simp only [ht] at hq
            have ⟨cs, c1, c3, c4⟩ := hq
            simp only [zH] at c1
            obtain ⟨p, c, rfl, t1, t2, t3, t4, t5⟩ := c1
            have ev : Act.tv a r = .slice p es.length c := c4
            have hvv : v = .slice p es.length c := by rw [← hs, ev]
            have hxv := (zw.1 hx).1
            rw [hvv] at hxv
            obtain ⟨y1, R9, U9, R10, U10, h9, e5, rfl, rfl⟩ := bind_some e4
            cases h9
            have hlen : (es.take l.toNat ++ List.replicate (es.length - l.toNat) z.shut.loose).length = es.length := by simp; omega
            have hsz : ∀ y ∈ es.take l.toNat ++ List.replicate (es.length - l.toNat) z.shut.loose, y.size = sz' := by
              intro y hy
              rcases List.mem_append.1 hy with q | q
              · exact t4 y (List.mem_of_mem_take q)
              · rw [List.eq_of_mem_replicate q, ← hzr.len, hzl]
            have hreps : ∀ n, yw S (List.replicate n z.shut.loose) (List.replicate n zv.cells.toList).flatten := by
              intro n
              induction n with
              | zero => simp [yw]
              | succ n ih => simp only [List.replicate_succ, List.flatten_cons, yw]; exact ⟨_, _, rfl, hzr, ih⟩
            obtain ⟨w', F', hrun, hkept, hst, hfr, hconc, hF'⟩ : ∃ w' F', (Builtin.clear_ #[t] o.type #[a.eval x]).run P w = .ok (.tuple #[]) w' ∧ Xr C.M w w' ∧ (∀ b o u, S b o = some u → yj w'.heap b o = some u) ∧ (∀ k, k ∉ Fp r → w'.heap[k]? = w.heap[k]?) ∧
                zH S w'.heap (.osl sz' tg (es.take l.toNat ++ List.replicate (es.length - l.toNat) z.shut.loose)) [.slice p es.length c] F' ∧ F' = Fp r := by
              by_cases hn : es.length - l.toNat = 0
              · refine ⟨w, Fp r, ?_, Xr.refl _ _, h.still.cell, fun _ _ => rfl, ?_, rfl⟩
                · rw [hxv]
                  simp only [Vq]
                  rw [hn]
                  cases hp : (if c = l.toNat then p else p.map (·.add (l.toNat * sz'))) with
                  | _ => simp [Builtin.clear_, run_underlying hel]
                · have : es.take l.toNat ++ List.replicate (es.length - l.toNat) z.shut.loose = es := by rw [hn, List.replicate_zero, List.append_nil, List.take_of_length_le (by omega)]
                  rw [this]
                  simp only [zH]
                  exact ⟨p, c, rfl, t1, t2, t3, t4, t5⟩
              · rcases t5 with ⟨rfl, _⟩ | ⟨b, arr, ty, cl, F1, rfl, k1, k2, k3, k4, k5, k6⟩
                · simp at hn
                obtain ⟨hr, rfl⟩ := k4.areD d5
                let zs := (List.replicate (es.length - l.toNat) zv.cells.toList).flatten
                have hzs : zs.length = (es.length - l.toNat) * sz' := by
                  show (List.replicate _ _).flatten.length = _
                  rw [List.length_flatten]
                  simp [hzl]
                have hfit : l.toNat * sz' + zs.length ≤ arr.size := by
                  rw [hzs, ← Nat.add_mul]
                  refine Nat.le_trans (Nat.mul_le_mul_right _ ?_) k2
                  omega
                let w' := w.setRow b (WP arr (l.toNat * sz') zs)
                have hheap : ∀ k, k ≠ b → w'.heap[k]? = w.heap[k]? := fun k hk => setRow_other w b k _ hk
                have hheapb : w'.heap[b]? = some (.cells (WP arr (l.toNat * sz') zs) ty (0, 0)) := setRow_heap w b arr _ ty (0, 0) k1
                have hb : b ∈ Fp r := by rw [k5]; simp
                have h1c : ∀ u ∈ zs, u.oneCell' = true := by
                  intro u hu
                  have ⟨m, hm, hu⟩ := List.mem_flatten.1 hu
                  rw [List.eq_of_mem_replicate hm] at hu
                  exact hzr.one u hu
                refine ⟨w', Fp r, ?_, ⟨rfl, rfl, rfl, Nat.le_refl _, by simp [w'], fun k hk => hheap k (fun e => hk (e ▸ h.base r b hb))⟩, ?_, fun k hk => hheap k (fun e => hk (e ▸ hb)), ?_, rfl⟩
                · have hst := run_storeCells_at P b (l.toNat * sz') ty zs 0 arr w k1 (by simpa using hfit) h1c
                  simp only [Nat.add_zero] at hst
                  rw [jD hfit] at hst
                  have hz0 : (zeroValue el).run P w = .ok zv w := by simp [zeroValue, typeInfo, f1, v1]
                  rw [hxv]
                  have hcl : ¬ c = l.toNat := by omega
                  simp only [Vq, if_neg hcl, Option.map_some, Addr.add_lit, Nat.zero_add]
                  obtain ⟨m, hm⟩ : ∃ m, es.length - l.toNat = m + 1 := ⟨es.length - l.toNat - 1, by omega⟩
                  have hzc : (Builtin.zeroCells zv.cells (m + 1)).toList = zs := by rw [KW, ← hm]
                  rw [hm]
                  simp [Builtin.clear_, run_underlying hel, hz0, hzc, hst, w']
                · intro b' o'' u hu
                  have hne : b' ≠ b := by rintro rfl; rw [k6] at hu; cases hu
                  rw [wv (h := w.heap) (h' := w'.heap) (hheap b' hne)]
                  exact h.still b' o'' u hu
                · simp only [zH, hlen]
                  refine ⟨_, c, rfl, t1, t2, t3, hsz, .inr ⟨b, _, ty, _, [], rfl, hheapb, by simpa using k2, rfl, ?_, k5, k6⟩⟩
                  have e1 : es.length * sz' = l.toNat * sz' + zs.length := by rw [hzs, ← Nat.add_mul]; congr 1; omega
                  rw [e1, z5D hfit]
                  have e2 : arr.toList.take (l.toNat * sz') = cl.take (l.toNat * sz') := by
                    rw [← k3, List.take_take, Nat.min_eq_left (Nat.mul_le_mul_right _ d4)]
                  rw [e2]
                  exact ((z20 hr t4 _).append (hreps _)).concs _
            subst hF'
            have hs1 : Sim C S (Qc Fp r (Fp r)) [] (upd st r ⟨.own (.osl sz' tg (es.take l.toNat ++ List.replicate (es.length - l.toNat) z.shut.loose)), (st r).er, (st r).ec + 1⟩) a w' := by
              refine h.change r (.own _) _ _ (Fp r) (h.below.trans hkept) (fun _ _ _ q => q) hst h.sbase ?_ ⟨⟨_, hconc, c3, by rw [ev]; simp [yc]⟩, _, ht⟩ (.inl ⟨_, ht⟩) (Nat.le_refl _) (Nat.lt_succ_self _) ?_ ?_ (by simp) (by simp) (by simp) (by simp)
              · intro t' k htr hk
                exact ⟨hfr k (fun q => htr (h.disj t' r k hk q)), (h.free t' k hk).2.1⟩
              · intro t' k htr hk hk'
                exact htr (h.disj t' r k hk' hk)
              · intro k hk
                exact h.base r k hk
            rw [zz]
            simp only [zl] at e5 ⊢
            have ⟨Fp', hs'⟩ := wJ hs1 e5 (x := .d (.tup [])) (v := .tuple #[]) (by simp only [TOk, we]; exact ⟨[], rfl, trivial⟩)
            refine zr ?_ hs'
            simp [execOp, ho, resolve, invoke, builtin, hrun]
          · cases e4
     | _ => simp only [ht] at e4; cases e4
    | _ => simp only [ht] at e4; cases e4
  · cases e4
end
variable {β : Type}
def xAt (P : Program)  (p : Oper → Option β) (e : Fr → Oper → β → SM Unit) (h : Fr → Oper → β → HM Unit)
  (ok : ∀ (C : Ctx) (S : zn) (Fp : Nat → List Nat) (st : St) (a : Act) (w : World) (o : Oper) (b : β), p o = some b → Sim C S Fp [] st a w → ∀ u R U, e C.n o b st = some (u, R, U) → qE P C o a w (zl U st))
  (loc : ∀ n o b, Loc (e n o b)) (sd : ∀ n o b, Snd (e n o b) (h n o b)) : XH P := {
 e := fun n o => (p o).map (e n o)
 h := fun n o => (p o).map (h n o)
 ok := by
  refine ⟨?_, ?_⟩
  ·intro C S Fp st a w o m u R U e0 h h2
   obtain ⟨b, hp, rfl⟩ := Option.map_eq_some_iff.1 e0
   exact ok C S Fp st a w o b hp h _ _ _ h2
  ·intro n o m e0
   obtain ⟨b, hp, rfl⟩ := Option.map_eq_some_iff.1 e0
   exact fun st st' a R U => loc n o b st st' a R U
 none := by
  intro n o e0
  rw [Option.map_eq_none_iff] at e0 ⊢
  exact e0
 some := by
  intro n o m e0
  obtain ⟨b, hp, rfl⟩ := Option.map_eq_some_iff.1 e0
  exact ⟨_, by rw [hp]; rfl, sd n o b⟩ }
theorem z4e {d : Nat}  {x : Option β} {b : β} (h : (if o.dst = some d then x else none) = some b) : x = some b := by
 split at h
 ·exact h
 ·cases h
def ze0 (d : Nat) (o : Oper) : Option (Nat × Operand × Operand) := match o.op with | .slice t x (some lo) none none => if o.dst = some d then some (t, x, lo) else none | _ => none
def xVw (hT : wG P tt) (d r : Nat) (v : Value) : XH P :=
 xAt P (ze0 d) (fun n o b => vwO tt n o.dst b.1 r v b.2.1 b.2.2) (fun n o b => vwH tt n o.dst b.1 r v b.2.1 b.2.2)
  (by
   intro C S Fp st a w o b hp h u R U e
   unfold ze0 at hp
   split at hp
   ·rename_i ho; cases z4e hp; exact zcz hT h ho e
   ·cases hp)
  (fun n o b => Loc.vwO _ _ _ _ _ _ _ _) (fun n o b => zeA _ _ _ _ _ _ _ _)
def ze1 (d t : Nat) (o : Oper) : Option Operand := match o.op with | .call ⟨.builtin .len, ⟨[x]⟩, ⟨[t']⟩⟩ => if o.dst = some d then (if t' = t then some x else none) else none | _ => none
def xVl (hT : wG P tt) (d t sz r : Nat) (v : Value) (l : Int) (hty : Zh tt t = true) : XH P :=
 xAt P (ze1 d t) (fun n o x => vlO n o.dst sz r v l x) (fun n o x => vlH n o.dst sz r v l x)
  (by
   intro C S Fp st a w o x hp h u R U e
   unfold ze1 at hp
   split at hp
   ·rename_i ho
    replace hp := z4e hp
    split at hp
    ·rename_i ht; subst ht; cases hp; exact zcA hT h hty ho e
    ·cases hp
   ·cases hp)
  (fun n o x => Loc.vlO _ _ _ _ _ _ _) (fun n o x => zeB _ _ _ _ _ _ _)
def zcl (d : Nat) (o : Oper) : Option (Nat × Operand × Operand) := match o.op with | .indexAddr t x i => if o.dst = some d then some (t, x, i) else none | _ => none
def xVi (hT : wG P tt) (d sz r : Nat) (v : Value) (l : Int) : XH P :=
 xAt P (zcl d) (fun n o b => viO tt n o.dst b.1 sz r v l b.2.1 b.2.2) (fun n o b => viH tt n o.dst b.1 sz r v l b.2.1 b.2.2)
  (by
   intro C S Fp st a w o b hp h u R U e
   unfold zcl at hp
   split at hp
   ·rename_i ho; cases z4e hp; exact zcB hT h ho e
   ·cases hp)
  (fun n o b => Loc.viO _ _ _ _ _ _ _ _ _ _) (fun n o b => zeC _ _ _ _ _ _ _ _ _ _)
def ze2 (s : Nat) (o : Oper) : Option Nat := match o.op with | .call ⟨.builtin .clear, ⟨[.tmp s']⟩, ⟨[t]⟩⟩ => if s' = s then some t else none | _ => none
def xVc (hT : wG P tt) (s sz r : Nat) (v : Value) (l : Int) : XH P :=
 xAt P (ze2 s) (fun n o t => vcO tt n o.dst t sz r v l (.tmp s)) (fun n o t => vcH tt n o.dst t sz r v l (.tmp s))
  (by
   intro C S Fp st a w o b hp h u R U e
   unfold ze2 at hp
   split at hp
   ·rename_i ho
    split at hp
    ·rename_i hs; subst hs; cases hp; exact zcC hT h ho e
    ·cases hp
   ·cases hp)
  (fun n o b => Loc.vcO _ _ _ _ _ _ _ _ _) (fun n o b => zeD _ _ _ _ _ _ _ _ _)
def clO (tt : TT) (n : Fr) (dst : Option Nat) (t : Nat) (x hi mx : Operand) : SM Unit := do
 let y ← opnd x
 let z ← take y
 match z with
 | .osl sz _ es => if w9 tt t = some sz then bound es.length (some hi) >>= fun h => bound 0 (some mx) >>= fun m => if h ≤ m ∧ m ≤ es.length then wrT n dst (.own (.osl sz (m == h) (es.take h))) else zt else zt
 | _ => zt
def clH (tt : TT) (n : Fr) (dst : Option Nat) (t : Nat) (x hi mx : Operand) : HM Unit := yk (opnd x) >>= fun y => z4S y >>= fun z =>
 match z with
 | .osl sz _ es => if w9 tt t = some sz then Jb es.length (some hi) >>= fun h => Jb 0 (some mx) >>= fun m => Zq (h ≤ m ∧ m ≤ es.length) (eqA (.osl sz (m == h) (es.take h)) >>= fun z => yk (wrT n dst (.own z))) else zF
 | _ => zF
theorem zeL (tt : TT) (n : Fr) (dst : Option Nat) (t : Nat) (x hi mx : Operand) : Snd (clO tt n dst t x hi mx) (clH tt n dst t x hi mx) := by
 refine zk (zo _) fun y => zk (z3G _) fun z => ?_
 cases z with
 | osl sz tg es =>
  refine vE (zk (VH _ _) fun h => zk (VH _ _) fun m => ue ?_) (zp _)
  exact Vx (yd _ fun z => wrT n dst (.own z)).symm (zk (z1Q _) fun _ => zo _)
 | _ => exact zp _
theorem Loc.clO (tt : TT) (n : Fr) (dst : Option Nat) (t : Nat) (x hi mx : Operand) : Loc (clO tt n dst t x hi mx) := by
 unfold Go.Own.clO
 refine Loc.bind (Loc.opnd _) fun _ => Loc.bind (Loc.take _) fun z => ?_
 cases z with
 | osl sz tg es => exact Loc.ite (Loc.bind (Loc.bound _ _) fun _ => Loc.bind (Loc.bound _ _) fun _ => Loc.ite (Loc.wrT _ _ _) Loc.fail) Loc.fail
 | _ => exact Loc.fail
section
variable {C : Ctx} {S : zn} {Fp : Nat → List Nat} {st : St} {a : Act} {w : World}
theorem zda {P : Program}  (hT : wG P tt) (h : Sim C S Fp [] st a w)  {t : Nat} {x hi mx : Operand} (ho : o.op = .slice t x none (some hi) (some mx))    (e : clO tt C.n o.dst t x hi mx st = some (u, R, U)) : qE P C o a w (zl U st) := by
 unfold clO at e
 have ⟨y, _, hx, e1⟩ := bR (zD h) e
 obtain ⟨z, R3, U3, R4, U4, h3, e2, rfl, rfl⟩ := bind_some e1
 have ⟨Fp', F, g1, g2⟩ := z0N h hx h3
 rw [zz]
 cases z with
 | osl sz tg es =>
  simp only at e2
  split at e2
  ·rename_i hel
   have ⟨hh, _, b2, e3⟩ := bR (We g1) e2
   have ⟨m, _, b3, e4⟩ := bR (We g1) e3
   split at e4
   ·rename_i hle
    have ⟨hle1, hle2⟩ := hle
    have ⟨el, he, hsz⟩ := vq hT hel w
    obtain ⟨cs, k1, k2, k3⟩ : ∃ cs, zH S w.heap (.osl sz tg es) cs F ∧ F.Nodup ∧ a.eval x = yc (.osl sz tg es) cs := by
     rcases g2 with ⟨q, _⟩ | q
     ·simp only [we, u6, Rep, false_and, exists_false] at q
     ·exact q
    simp only [zH] at k1
    obtain ⟨p, c, rfl, t1, t2, t3, t4, t5⟩ := k1
    have ev : a.eval x = .slice p es.length c := k3
    have b3' : QP ((some mx).map a.eval) c m := by
     rcases b3 with ⟨q, _⟩ | ⟨o, k, j, q, q2, q3, q4⟩
     ·cases q
     ·cases q; exact .inr ⟨k, j, by simp [q2], q3, q4⟩
    have b2' : (Option.isSome ((some hi).map a.eval)) = true := rfl
    have hrun := Y5 (P := P) (w := w) he hsz (p := p) (len := es.length) (c := c) (lo := none) (.inl ⟨rfl, rfl⟩) (Vh b2) b3' (Nat.zero_le _) hle1 (by omega) (fun _ => b2')
    have hp : (if m = 0 then p else p.map (·.add (0 * sz))) = p := by
     split
     ·rfl
     ·cases p <;> simp [Addr.add]
    rw [hp] at hrun
    have hlen : (es.take hh).length = hh := by simp; omega
    have ht4 : ∀ x ∈ es.take hh, x.size = sz := fun x hx => t4 x (List.mem_of_mem_take hx)
    obtain ⟨F2, cs2, m1, m2, m3, m4⟩ : ∃ F2 cs2, zH S w.heap (.osl sz (m == hh) (es.take hh)) cs2 F2 ∧ F2.Nodup ∧ (∀ k ∈ F2, k ∈ F) ∧ yc (.osl sz (m == hh) (es.take hh)) cs2 = .slice p hh m := by
     rcases t5 with ⟨rfl, rfl, rfl, rfl⟩ | ⟨b, arr, ty, l, F', rfl, e1, e2, e3, e4, rfl, e5⟩
     ·have hm0 : m = 0 := by simpa using hle2
      subst hm0
      have : hh = 0 := by omega
      subst this
      refine ⟨[], [.slice none 0 0], ?_, by simp, by simp, rfl⟩
      simp only [zH]
      exact ⟨none, 0, by simp, by simp, by simp, Nat.zero_le _, by simp, .inl (by simp)⟩
     ·have ⟨F3, q1, q2, q3⟩ := z0x e4 hh
      have hn := List.nodup_cons.1 k2
      refine ⟨b :: F3, [.slice (some ⟨b, 0, none⟩) hh m], ?_, List.nodup_cons.2 ⟨fun q => hn.1 (q2 b q), q3 hn.2⟩, ?_, rfl⟩
      ·simp only [zH]
       refine ⟨some ⟨b, 0, none⟩, m, by rw [hlen], by intro q; rw [hlen]; simpa using q, by rw [hlen]; omega, by omega, ht4, .inr ⟨b, arr, ty, _, F3, rfl, e1, Nat.le_trans (Nat.mul_le_mul_right _ (by omega)) e2, ?_, q1, rfl, e5⟩⟩
       rw [← e3, List.take_take, A.sizes_const ht4, hlen]
       congr 1
       have := Nat.mul_le_mul_right sz (show hh ≤ es.length by omega)
       omega
      ·intro k hk
       rcases List.mem_cons.1 hk with rfl | hk
       ·simp
       ·simp [q2 k hk]
    have g1' : Sim C S Fp' (F2 ++ []) (zl U3 st) a w := g1.mem g1.below (fun _ _ _ h => h) g1.still.cell g1.sbase (fun t' k hk => ⟨rfl, (g1.free t' k hk).2.1⟩) (by simpa using m2) (fun t' k hk => g1.xd t' k (by simp at hk ⊢; exact m3 k hk)) (fun k hk => g1.xb k (by simp at hk ⊢; exact m3 k hk))
    have ⟨Fp'', hs⟩ := Xv g1' e4 m1 m2
    rw [m4] at hs
    refine zr ?_ hs
    simp only [Nat.sub_zero] at hrun
    simp only [Option.map_some] at hrun
    simp [execOp, ho, ev, hrun]
   ·cases e4
  ·cases e2
 | _ => cases e2
end
def ze7 (d : Nat) (o : Oper) : Option (Nat × Operand × Operand × Operand) := match o.op with | .slice t x none (some hi) (some mx) => if o.dst = some d then some (t, x, hi, mx) else none | _ => none
def xCl (hT : wG P tt) (d : Nat) : XH P :=
 xAt P (ze7 d) (fun n o b => clO tt n o.dst b.1 b.2.1 b.2.2.1 b.2.2.2) (fun n o b => clH tt n o.dst b.1 b.2.1 b.2.2.1 b.2.2.2)
  (by
   intro C S Fp st a w o b hp h u R U e
   unfold ze7 at hp
   split at hp
   ·rename_i ho; cases z4e hp; exact zda hT h ho e
   ·cases hp)
  (fun n o b => Loc.clO _ _ _ _ _ _ _) (fun n o b => zeL _ _ _ _ _ _ _)
def zeO (d : Nat) (o : Oper) : Option Unit := match o.op with | .call ⟨.value _, _, _⟩ => if o.dst = some d then some () else none | _ => none
def Q3 (hT : wG P tt) {s : wI} (h : s.Ok P) (d : Nat) : XH P :=
 xAt P (zeO d) (fun n o _ => stepO tt (Qt.add s) n o) (fun n o _ => z1I tt (Qt.add s) n o)
  (fun C S Fp st a w o b hp hS u R U e => z0P hT (Ctr.add_ok (z3o P) h) hS e)
  (fun n o b => Loc.stepO _ _ _ _) (fun n o b => z30 _ _ _ _)
variable {α : Type}
theorem vlM (f : α → A) (l : List α) (k : Nat) : A.atom (.int .i64 (((l.map f).length - k : Nat) : Int)) = .atom (.int .i64 ((l.length - k : Nat) : Int)) := by rw [List.length_map]
theorem vcM (f : α → A) (l : List α) (k : Nat) (z : α) : (l.map f).take k ++ List.replicate ((l.map f).length - k) (f z) = (l.take k ++ List.replicate (l.length - k) z).map f := by simp
theorem clB (f : α → A) (l : List α) : ((l.length : Nat) : Int).toNat ≤ ((l.length : Nat) : Int).toNat ∧ ((l.length : Nat) : Int).toNat ≤ (l.map f).length := by simp
theorem clE (sz : Nat) (f : α → A) (l : List α) : A.osl sz (((l.length : Nat) : Int).toNat == ((l.length : Nat) : Int).toNat) ((l.map f).take ((l.length : Nat) : Int).toNat) = eOs sz true f l := by
 simp [Int.toNat_natCast, eOs]
 rw [List.take_of_length_le (by simp)]
def zaa : Value → Option Bool
 | .slice none _ _ => some true
 | .slice (some _) _ _ => some false
 | _ => none
variable {st : St}{fs : List Fm}{c : Code}{Q : Exit → St → Prop}{n : Fr}{es : List A}
theorem zax {P : Program} {n : Fr} {c : Code}  {Q : Exit → St → Prop}  (e : fs = []) (k : Nat)  {t : Bool}  (hk : (st k).t = .d (.sl sz t es))
  (h : ∀ v, v.oneCell' = true → (zaa v = some true ∧ es = []) ∨ zaa v = some false → AWP P ⟨n.size, (k, v) :: n.pin⟩ c st (Qf P ⟨n.size, (k, v) :: n.pin⟩ [] Q)) : AWP P n c st (Qf P n fs Q) := by
 subst e
 intro rd m df w0 S0 M S Fp a w hc hs
 have q := hs.ent k
 unfold xV at q
 simp only [hk] at q
 have q1 := q.1
 simp only [we] at q1
 have ⟨cs, r1, r2⟩ := q1
 simp only [Rep] at r1
 obtain ⟨p, c', rfl, r3, r4, r5, r6⟩ := r1
 have ev : Act.tv a k = .slice p es.length c' := r2
 have hcase : (zaa (Act.tv a k) = some true ∧ es = []) ∨ zaa (Act.tv a k) = some false := by
  rw [ev]
  cases p with
  | none =>
   refine .inl ⟨rfl, ?_⟩
   rcases r6 with r6 | ⟨b, o, l, e, _⟩
   ·exact r6
   ·cases e
  | some p => exact .inr rfl
 refine wpIn_mono (h (Act.tv a k) (by rw [ev]; rfl) hcase rd m df w0 S0 M S Fp a w ⟨hc.nodup, hc.df, hc.rd⟩ (hs.pinned k)) ?_
 rintro e a' w' ⟨df', st1, S1, Fp1, h1, h2, h3⟩
 exact ⟨df', st1, S1, Fp1, h1.unpinned, h2, h3⟩
open Classical in
def nilO (n : Fr) (dst : Option Nat) (v : Value) (b : Bool) (x y : Operand) : SM Unit := do
 let tx ← opnd x
 let ty ← opnd y
 if tx = .d (.atom v) ∧ ty = .d (.atom (.slice none 0 0)) then wrT n dst (.d (.atom (.bool b))) else zt
def zdX (n : Fr) (dst : Option Nat) (v : Value) (b : Bool) (x y : Operand) : HM Unit := yk (opnd x) >>= fun tx => yk (opnd y) >>= fun ty => Zq (tx = .d (.atom v) ∧ ty = .d (.atom (.slice none 0 0))) (yk (wrT n dst (.d (.atom (.bool b)))))
open Classical in
theorem zcH (n : Fr) (dst : Option Nat) (v : Value) (b : Bool) (x y : Operand) : Snd (nilO n dst v b x y) (zdX n dst v b x y) := zk (zo _) fun _ => zk (zo _) fun _ => ue (zo _)
open Classical in
theorem Loc.nilO (n : Fr) (dst : Option Nat) (v : Value) (b : Bool) (x y : Operand) : Loc (nilO n dst v b x y) := by
 unfold Go.Own.nilO
 exact Loc.bind (Loc.opnd _) fun _ => Loc.bind (Loc.opnd _) fun _ => Loc.ite (Loc.wrT _ _ _) Loc.fail
variable {Fp : Nat → List Nat}{x y : Operand}{b : Bool}{w : World}{C : Ctx}{a : Act}
theorem zbE (hT : wG P tt)       (h : Sim C S Fp [] st a w)  {t yt : Nat}   {x y : Operand} (hty : Zh tt t = true) (hv : zaa v = some b) (ho : o.op = .binOp .eql t x y yt)    (e0 : nilO C.n o.dst v b x y st = some (u, R, U)) : qE P C o a w (zl U st) := by
 unfold nilO at e0
 have ⟨tx, _, hx, e1⟩ := bR (zD h) e0
 have ⟨ty, _, hy, e2⟩ := bR (zD h) e1
 split at e2
 ·rename_i hc
  obtain ⟨rfl, rfl⟩ := hc
  have ex := (zw.1 hx).1
  have ey := (zw.1 hy).1
  have ⟨el, hel⟩ := W9 hT hty
  have ⟨Fp', hs⟩ := wJ h e2 (x := .d (.atom (.bool b))) (zw.2 ⟨rfl, rfl⟩)
  refine zr ?_ hs
  have heq : (Op.equal t v (.slice none 0 0)).run P w = .ok b w := by
   unfold Op.equal Op.maxDepth
   show (Op.equalIn (9999 + 1) t v _).run P w = _
   generalize 9999 = q
   unfold Op.equalIn
   simp [Sem.run_bind, run_underlying hel, Result.andThen_ok]
   cases v with
   | slice p l c => cases p <;> (simp [zaa, Option.some.injEq] at hv; subst hv; simp)
   | _ => cases hv
  cases v with
  | slice p l c => simp [execOp, ho, ex, ey, eqGuard, Go.binOp, heq]
  | _ => cases hv
 ·cases e2
def zbO (d t : Nat) (o : Oper) : Option (Operand × Operand) := match o.op with | .binOp .eql t' x y _ => if o.dst = some d then (if t' = t then some (x, y) else none) else none | _ => none
def zdo (hT : wG P tt) (d t : Nat)   (hty : Zh tt t = true) (hv : zaa v = some b) : XH P :=
 xAt P (zbO d t) (fun n o q => nilO n o.dst v b q.1 q.2) (fun n o q => zdX n o.dst v b q.1 q.2)
  (by
   intro C S Fp st a w o q hp h u R U e
   unfold zbO at hp
   split at hp
   ·rename_i ho
    replace hp := z4e hp
    split at hp
    ·rename_i ht; subst ht; cases hp; exact zbE hT h hty hv ho e
    ·cases hp
   ·cases hp)
  (fun n o q => Loc.nilO _ _ _ _ _ _) (fun n o q => zcH _ _ _ _ _ _)
instance (k : IntKind) (x y : Int) : SzA (eI k x) (eI k y) := ⟨rfl⟩
open Classical in
def asO (n : Fr) (dst : Option Nat) (v : Value) (x : Operand) : SM Unit := do
 let tx ← opnd x
 if tx = .d (.atom v) then wrT n dst (.d (.atom v)) else zt
def asH (n : Fr) (dst : Option Nat) (v : Value) (x : Operand) : HM Unit := yk (opnd x) >>= fun tx => Zq (tx = .d (.atom v)) (yk (wrT n dst (.d (.atom v))))
open Classical in
theorem zeN (n : Fr) (dst : Option Nat) (v : Value) (x : Operand) : Snd (asO n dst v x) (asH n dst v x) := zk (zo _) fun _ => ue (zo _)
open Classical in
theorem Loc.asO (n : Fr) (dst : Option Nat) (v : Value) (x : Operand) : Loc (asO n dst v x) := by
 unfold Go.Own.asO
 exact Loc.bind (Loc.opnd _) fun _ => Loc.ite (Loc.wrT _ _ _) Loc.fail
theorem zde (h : Sim C S Fp [] st a w)  {v : Value} {x : Operand} (ho : o.op = .assign x)    (e0 : asO C.n o.dst v x st = some (u, R, U)) : qE P C o a w (zl U st) := by
 unfold asO at e0
 have ⟨tx, _, hx, e1⟩ := bR (zD h) e0
 split at e1
 ·rename_i hc
  subst hc
  have hx' : we S (.atom v) (a.eval x) := hx
  have ⟨Fp', hs⟩ := wJ h e1 (x := .d (.atom v)) (v := a.eval x) hx'
  exact zr (by simp [execOp, ho]) hs
 ·cases e1
def zeb (d : Nat) (o : Oper) : Option Operand := match o.op with | .assign x => if o.dst = some d then some x else none | _ => none
def xAs (P : Program) (d : Nat) (v : Value) : XH P :=
 xAt P (zeb d) (fun n o x => asO n o.dst v x) (fun n o x => asH n o.dst v x)
  (by
   intro C S Fp st a w o x hp h u R U e
   unfold zeb at hp
   split at hp
   ·rename_i ho; cases z4e hp; exact zde h ho e
   ·cases hp)
  (fun n o x => Loc.asO _ _ _ _) (fun n o x => zeN _ _ _ _)
theorem zc4 (k : Nat)  {y : A} (hk : (st k).t = .own y) (ho : z6N y = true) (hp : WO n.pin k = some v) (h : v.oneCell' = true → AWP P n c st Q) : AWP P n c st Q := by
 intro rd m df w0 S0 M S Fp a w hc hs
 have hone : (Act.tv a k).oneCell' = true := by
  have q := hs.ent k
  unfold xV at q
  simp [hk] at q
  have ⟨cs, c1, _, hv⟩ := q
  have hcs := Jy ho c1
  rw [hv]
  exact c1.one1 (Vd ho) _ (by have q := List.mem_singleton_self (yc y cs); rwa [← hcs] at q)
 have hv := hs.pin k v (vL hp)
 exact h (by rw [← hv]; exact hone) rd m df w0 S0 M S Fp a w hc hs
def spR (k : Nat) {α ρ : Type} (enc : α → List A) (encR : ρ → A) (F : α → Option ρ) (gives : List Bool) (inj : ∀ x y, enc x = enc y → x = y) : wI := {
 α := α
 k := k
 raw := true
 gives := gives
 enc := enc
 pre := fun x => ∃ r, F x = some r
 f := fun x => match F x with | some r => encR r | none => .dead 0
 inj := by
  intro x y h _ _
  rw [inj x y h] }
variable {gives : List Bool}{k : Nat}
theorem z4W {α ρ : Type} {enc : α → List A} {encR : ρ → A} {F : α → Option ρ}  {inj : ∀ x y, enc x = enc y → x = y} (h : ∀ x r, F x = some r → XJ P k (enc x) (encR r)) : (spR k enc encR F gives inj).Ok P := by
 rintro x ⟨r, hr⟩
 have := h x r hr
 simpa only [spR, hr] using this
variable {as_ : List A}
theorem zd0 {k : Nat} {α ρ : Type} {enc : α → List A} {encR : ρ → A} {F : α → Option ρ} {gives : List Bool} {inj : ∀ x y, enc x = enc y → x = y} {x : α} {r : ρ} (hr : F x = some r)  (ha : as_ = enc x) :
  (Qt.add (spR k enc encR F gives inj)).run k ((Qt.add (spR k enc encR F gives inj)).norm k as_) = some (encR r) := by
 have h := Ctr.add_has Qt (spR k enc encR F gives inj)
 have h1 := h.run x ⟨r, hr⟩
 have h2 : (Qt.add (spR k enc encR F gives inj)).raw k = true := h.raw
 unfold Ctr.norm
 rw [h2, ha]
 refine Eq.trans h1 ?_
 simp [spR, hr]
theorem zak {α ρ : Type} {enc : α → List A} {encR : ρ → A} {F : α → Option ρ}  {inj : ∀ x y, enc x = enc y → x = y} : (Qt.add (spR k enc encR F gives inj)).gives k = gives := (Ctr.add_has Qt _).gives
mutual
def A.indep : A → Bool
 | .atom _ => true
 | .fn _ caps => A.indeps caps
 | .agg fs => A.indeps fs
 | .osl _ _ es => A.indeps es
 | .box x => x.indep
 | .dead _ => true
 | .sl _ _ xs => xs.isEmpty
 | _ => false
def A.indeps : List A → Bool
 | [] => true
 | a :: as_ => a.indep && A.indeps as_
end
mutual
theorem Rep.indep {S S' : zn} : ∀ {a : A} {cs : List Value}, a.indep = true → Rep S a cs → Rep S' a cs
 | .atom _, _, _, r => by simpa only [Rep] using r
 | .fn _ caps, _, h, r => by
  simp only [A.indep] at h
  simp only [Rep] at r ⊢
  obtain ⟨vs, h1, h2, h3⟩ := r
  exact ⟨vs, yw.indep h h1, h2, h3⟩
 | .agg fs, _, h, r => by simp only [A.indep] at h; simp only [Rep] at r ⊢; exact yw.indep h r
 | .sl _ _ xs, _, h, r => by
  simp only [A.indep, List.isEmpty_iff] at h
  subst h
  simp only [Rep] at r ⊢
  obtain ⟨p, c, h1, h2, h3, h4, _⟩ := r
  exact ⟨p, c, h1, h2, h3, h4, .inl trivial⟩
 | .sptr _, _, h, _ => by simp [A.indep] at h
 | .dop _, _, h, _ => by simp [A.indep] at h
 | .tup _, _, _, r => by simp only [Rep] at r
 | .osl _ _ _, _, _, r => by simp only [Rep] at r
 | .box _, _, _, r => by simp only [Rep] at r
 | .dead _, _, _, r => by simp only [Rep] at r
 | .opq _, _, _, r => by simp only [Rep] at r
theorem yw.indep {S S' : zn} : ∀ {as_ : List A} {cs : List Value}, A.indeps as_ = true → yw S as_ cs → yw S' as_ cs
 | [], _, _, r => by simpa only [yw] using r
 | a :: as_, _, h, r => by
  simp only [A.indeps, Bool.and_eq_true] at h
  simp only [yw] at r ⊢
  obtain ⟨c1, c2, e, r1, r2⟩ := r
  exact ⟨c1, c2, e, Rep.indep h.1 r1, yw.indep h.2 r2⟩
end
variable {h : Array Obj}
mutual
theorem zH.indep {S S' : zn}  : ∀ {a : A} {cs : List Value} {F : List Nat}, a.indep = true → zH S h a cs F → (∀ k ∈ F, ∀ o, S' k o = none) → zH S' h a cs F
 | .osl sz t es, _, _, hi, r, hF => by
  simp only [A.indep] at hi
  simp only [zH] at r ⊢
  obtain ⟨p, c, e, h1, h2, h3, h4, h5⟩ := r
  refine ⟨p, c, e, h1, h2, h3, h4, ?_⟩
  rcases h5 with h5 | ⟨b, arr, ty, l, F', e1, e2, e3, e4, e5, rfl, e7⟩
  ·exact .inl h5
  ·exact .inr ⟨b, arr, ty, l, F', e1, e2, e3, e4, zL.indep hi e5 (fun k hk => hF k (by simp [hk])), rfl, hF b (by simp)⟩
 | .box x, _, _, hi, r, hF => by
  simp only [A.indep] at hi
  simp only [zH] at r ⊢
  obtain ⟨b, ty, l, F', e, e1, e2, rfl, e4⟩ := r
  exact ⟨b, ty, l, F', e, e1, zH.indep hi e2 (fun k hk => hF k (by simp [hk])), rfl, hF b (by simp)⟩
 | .agg fs, _, _, hi, r, hF => by simp only [A.indep] at hi; simp only [zH] at r ⊢; exact zL.indep hi r hF
 | .dead _, _, _, _, r, _ => by simpa only [zH] using r
 | .opq _, _, _, hi, _, _ => by simp [A.indep] at hi
 | .atom _, _, _, hi, r, _ => by simp only [zH] at r ⊢; exact ⟨Rep.indep hi r.1, r.2⟩
 | .fn _ _, _, _, hi, r, _ => by simp only [zH] at r ⊢; exact ⟨Rep.indep hi r.1, r.2⟩
 | .sl _ _ _, _, _, hi, r, _ => by simp only [zH] at r ⊢; exact ⟨Rep.indep hi r.1, r.2⟩
 | .sptr _, _, _, hi, _, _ => by simp [A.indep] at hi
 | .dop _, _, _, hi, _, _ => by simp [A.indep] at hi
 | .tup _, _, _, _, r, _ => by simp only [zH] at r
theorem zL.indep {S S' : zn}  : ∀ {as_ : List A} {cs : List Value} {F : List Nat}, A.indeps as_ = true → zL S h as_ cs F → (∀ k ∈ F, ∀ o, S' k o = none) → zL S' h as_ cs F
 | [], _, _, _, r, _ => by simpa only [zL] using r
 | a :: as_, _, _, hi, r, hF => by
  simp only [A.indeps, Bool.and_eq_true] at hi
  simp only [zL] at r ⊢
  obtain ⟨c1, c2, F1, F2, e1, rfl, r1, r2⟩ := r
  exact ⟨c1, c2, F1, F2, e1, rfl, zH.indep hi.1 r1 (fun k hk => hF k (by simp [hk])), zL.indep hi.2 r2 (fun k hk => hF k (by simp [hk]))⟩
end
theorem we.indep {S S' : zn} {a : A}  (h : a.indep = true) (q : we S a v) : we S' a v := by
 cases a <;> first
  | (simp [A.indep] at h; done)
  | (simp only [we, u6] at q ⊢; obtain ⟨cs, q1, q2⟩ := q; exact ⟨cs, Rep.indep h q1, q2⟩)
section
variable {α : Type}
instance SzA.opS {β : Type} (s s' : Nat) (b b' : Bool) (f : α → A) (g : β → A) (l : List α) (l' : List β) : SzA (eOs s b f l) (eOs s' b' g l') := ⟨rfl⟩
end
abbrev HO := List H × List Ob
def hoH (l : List HO) : List H := List.rec [] (fun x _ r => x.1 ++ r) l
def hoO (l : List HO) : List Prop := List.rec [] (fun x _ r => x.2.map Ob.p ++ r) l
def hoB (l : List HO) : List Ob := List.rec [] (fun x _ r => x.2 ++ r) l
theorem QX (l : List HO) : hoO l = (hoB l).map Ob.p := by
 induction l with
 | nil => rfl
 | cons x l ih =>
  show x.2.map Ob.p ++ hoO l = (x.2 ++ hoB l).map Ob.p
  rw [List.map_append, ih]
def Hq {t b : Bool} (h : t = b) : HO := ([.b b], [ob h])
abbrev qT : HO := Hq (Eq.refl true)
abbrev qF : HO := Hq (Eq.refl false)
def Ha {x y : A} (h : x = y) : HO := ([.a y], [ob h])
def Hs {x : Option A} {y : A} (h : x = some y) : HO := ([.a y], [ob h])
def Hl {x y : List A} (h : x = y) : HO := ([.l y], [ob h])
variable {p : Prop}
def Hm {x y : List A} (h : p ∧ x = y) : HO := ([.l y], [ob h])
def Hx (a : H)  (h : p) : HO := ([a], [ob h])
def Hn (h : p) : HO := ([], [ob h])
def Hh (a : H) : HO := ([a], [])
def Hi (f : α → A) {l : List α} {i : Int} {u : α} (h : idx l i = some u) : HO := ([.a (f u)], [ob (i0 h), ob (iM f h)])
def Hc {c : Ctr}  {α ρ : Type} {enc : α → List A} {encR : ρ → A} {F : α → Option ρ}  {inj : ∀ x y, enc x = enc y → x = y} (h : c.Has (spF k enc encR F gives inj)) {x : α} {r : ρ} (hr : F x = some r)  (ha : as_.map A.loose = enc x) : HO :=
 ([.g gives, .a (encR r)], [ob (Ko h), ob (Kp h hr ha)])
def Hg {c : Ctr}   (h : c.gives k = gives) : HO := ([.g gives], [ob h])
def VP (l : List (Nat × T)) : List Nat := l.map (·.1)
variable {rs : List (Nat × Option Nat)}{E : St → Prop}{keep : Bool}{ls : List A}
section
variable {P : Program} {tt : TT} {ctr : Ctr} {n : Fr} {Q : Exit → St → Prop}
theorem yE6 (X : XH P) (hT : wG P tt) (hC : zO P ctr) (hm : P.follows .mixedOrders = true)  {r : A}   (hE : ∀ st x R U, z5s tt keep rs st = some (x, R, U) → LeV x r → E st) {c : Code} {fs : List Fm} {st : St} (L : List HO)
  (e : zaJ X tt ctr n keep rs 4000 c fs st (hoH L) = some (r, hoO L)) : AWP P n c st (Qf P n fs (z6L E)) :=
 z94 X hT hC hm hE 4000 (hoB L) (by rw [← QX]; exact e) (LeV.refl _)
theorem zet (X : XH P) (hT : wG P tt) (hC : zO P ctr) (hm : P.follows .mixedOrders = true)  {r : A}   (hE : ∀ st x R U, z5s tt keep rs st = some (x, R, U) → LeV x r → E st) {c : Code} {fs : List Fm} {st : St} (L : List HO) (x : A) (hle : LeV x r)
  (e : zaJ X tt ctr n keep rs 4000 c fs st (hoH L) = some (x, hoO L)) : AWP P n c st (Qf P n fs (z6L E)) :=
 z94 X hT hC hm hE 4000 (hoB L) (by rw [← QX]; exact e) hle
theorem yB6 (X : XH P) (hT : wG P tt) (hC : zO P ctr) (hm : P.follows .mixedOrders = true) {τ : Type} {J : St → Prop} {live : List Nat} {S : τ → List (Nat × T)} {Inv : τ → Prop} (hJ : ∀ st' l' z, Inv z → canon live st' = ofL l' → LeL l' (S z) → J st') (z : τ) (hz : Inv z) {c : Code} {fs : List Fm} {st : St} (L : List HO)
  (e : z1u X tt ctr n live 4000 c fs st (hoH L) = some (.back J, ofL (S z), hoO L)) : AWP P n c st (Qf P n fs Q) :=
 zaz X hT hC hm live 4000 (hoH L) J (S z) (hoB L) (by rw [← QX]; exact e) fun st0 h0 => hJ st0 _ z hz h0 (LeL.refl _)
theorem yA6 (X : XH P) (hT : wG P tt) (hC : zO P ctr) (hm : P.follows .mixedOrders = true) {c : Code} {fs : List Fm} {st : St} (bd : Code) (path : List Nat) (Js : List (St → Prop)) (l : List (Nat × T)) (L : List HO)
  (e : z1u X tt ctr n (VP l) 4000 c fs st (hoH L) = some (.at (sub path bd) (frs path Js bd []), ofL l, hoO L)) (h : AWP P n (sub path bd) (ofL l) (Qf P n (frs path Js bd []) Q)) : AWP P n c st (Qf P n fs Q) :=
 z8t X hT hC hm (VP l) 4000 (hoH L) _ _ l (hoB L) (by rw [← QX]; exact e) fun st0 h0 => z1l h0 h
theorem yL6 (X : XH P) (hT : wG P tt) (hC : zO P ctr) (hm : P.follows .mixedOrders = true) {c : Code} {fs : List Fm} {st : St} (bd : Code) (path : List Nat) (Js : List (St → Prop)) {σ τ : Type} (f : σ → Option (LR σ τ)) (S : σ → List (Nat × T)) (x0 : σ) {t : τ} (ht : loop f x0 = some t) (l : List (Nat × T)) (hl : LeL l (S x0)) (L : List HO)
  (hk : ∀ x, VP (S x) = VP l)
  (e : z1u X tt ctr n (VP l) 4000 c fs st (hoH L) = some (.at (sub path bd) (frs path Js bd []), ofL l, hoO L))
  (e2 : sub path bd = .loop (sub (path ++ [0]) bd))
  (round : ∀ x m lr, f x = some lr → zcr f m t lr → ∀ J : St → Prop, (∀ st' l' x', Vo f m x' = some t → canon (VP l) st' = ofL l' → LeL l' (S x') → J st') → AWP P n (sub (path ++ [0]) bd) (ofL (S x)) (Qf P n (.pre J :: frs path Js bd []) Q)) : AWP P n c st (Qf P n fs Q) := by
 refine z8t X hT hC hm (VP l) 4000 (hoH L) _ _ l (hoB L) (by rw [← QX]; exact e) fun st0 h0 => ?_
 refine z8q (X := σ × Nat) e2 (VP l) (fun x => Vo f x.2 x.1 = some t) (fun x => x.2) (fun x => S x.1) (x0, fuel) _ h0 hl ht ?_
 rintro ⟨x, k⟩ hx J hJ
 obtain ⟨m, lr, rfl, hf, hr⟩ := zcR hx
 exact round x m lr hf hr J fun st' l' x' h1 h2 h3 => hJ st' l' (x', m) h1 (Nat.lt_succ_self m) h2 h3
theorem yJ6 (X : XH P) (hT : wG P tt) (hC : zO P ctr) (hm : P.follows .mixedOrders = true) {c : Code} {fs : List Fm} {st : St} (bd : Code) (path : List Nat) (Js : List (St → Prop)) {σ : Type} (live : List Nat) (Inv : σ → Prop) (S : σ → List (Nat × T)) (l : List (Nat × T)) (L : List HO)
  (e : z1u X tt ctr n (VP l) 4000 c fs st (hoH L) = some (.at (sub path bd) (frs path Js bd []), ofL l, hoO L))
  (e2 : sub path bd = .seq (sub (path ++ [2]) bd) (sub (path ++ [1]) bd))
  (h1 : ∀ z, Inv z → AWP P n (sub (path ++ [1]) bd) (ofL (S z)) (Qf P n (frs path Js bd []) Q))
  (h2 : ∀ J : St → Prop, (∀ st' l' z, Inv z → canon live st' = ofL l' → LeL l' (S z) → J st') → AWP P n (sub (path ++ [2]) bd) (ofL l) (Qf P n (.pre J :: frs path Js bd []) Q)) : AWP P n c st (Qf P n fs Q) := by
 refine z8t X hT hC hm (VP l) 4000 (hoH L) _ _ l (hoB L) (by rw [← QX]; exact e) fun st0 h0 => ?_
 exact z8r e2 live (VP l) _ h0 Inv S h1 h2
theorem yF6 (X : XH P) (hT : wG P tt) (hC : zO P ctr) (hm : P.follows .mixedOrders = true) {c : Code} {fs : List Fm} {st : St} (ex : Exit) (l : List (Nat × T)) (L : List HO)
  (e : z1u X tt ctr n (VP l) 4000 c fs st (hoH L) = some (.fin ex, ofL l, hoO L)) (h : ∀ st0, canon (VP l) st0 = ofL l → Q ex st0) : AWP P n c st (Qf P n fs Q) :=
 zc5 X hT hC hm (VP l) 4000 (hoH L) ex l (hoB L) (by rw [← QX]; exact e) h
theorem zeu (X : XH P) (hT : wG P tt) (hC : zO P ctr) (hm : P.follows .mixedOrders = true) {c : Code} {fs : List Fm} {st : St} (c' : Code) (fs' : List Fm) (l : List (Nat × T)) (L : List HO)
  (e : z1u X tt ctr n (VP l) 4000 c fs st (hoH L) = some (.at c' fs', ofL l, hoO L)) (h : ∀ st0, canon (VP l) st0 = ofL l → AWP P n c' st0 (Qf P n fs' Q)) : AWP P n c st (Qf P n fs Q) :=
 z8t X hT hC hm (VP l) 4000 (hoH L) _ _ l (hoB L) (by rw [← QX]; exact e) h
theorem yO6 {fn : Func} {r : A}  (hT : wG P tt) (keep : Bool) (rs : List (Nat × Option Nat)) (body : Code) (nt : Nat) (hf : P.funcs[k]? = some fn) (hb : fn.body = some body) (hn : nt = fn.ntmps) (hr : fn.results = (rs.map z1H).toArray) (hnm : (fn.name == "runtime.NumGoroutine") = false) (ha : Nat.ble ls.length nt = true)
  (h : ∀ E : St → Prop, (∀ st x R U, z5s tt keep rs st = some (x, R, U) → LeV x r → E st) → AWP P ⟨nt, []⟩ body (ofL (z4J 0 ls)) (Qf P ⟨nt, []⟩ [] (z6L E))) : XJ P k ls r := by
 subst hn
 exact z8l (tt := tt) (keep := keep) (rs := rs) (n := ⟨fn.ntmps, []⟩) (body := body) hT hf hnm hb rfl hr (Nat.le_of_ble_eq_true ha) h
end
section
variable {α β γ δ ε ζ η : Type} {f0 : α → A} {f1 : β → A} {f2 : γ → A} {f3 : δ → A} {f4 : ε → A} {f5 : ζ → A} {f6 : η → A}
theorem Q1 [h0 : vD f0] (x y : α) (h : [f0 x] = [f0 y]) : x = y := by simp only [List.cons.injEq, and_true] at h; exact h0.inj _ _ h
theorem Uz [h0 : vD f0] [h1 : vD f1] (x y : α × β) (h : [f0 x.1, f1 x.2] = [f0 y.1, f1 y.2]) : x = y := by
 simp only [List.cons.injEq, and_true] at h
 exact Prod.ext (h0.inj _ _ h.1) (h1.inj _ _ h.2)
theorem zaM [h0 : vD f0] [h1 : vD f1] [h2 : vD f2] (x y : α × β × γ) (h : [f0 x.1, f1 x.2.1, f2 x.2.2] = [f0 y.1, f1 y.2.1, f2 y.2.2]) : x = y := by
 simp only [List.cons.injEq, and_true] at h
 exact Prod.ext (h0.inj _ _ h.1) (Prod.ext (h1.inj _ _ h.2.1) (h2.inj _ _ h.2.2))
theorem zed [h0 : vD f0] [h1 : vD f1] [h2 : vD f2] [h3 : vD f3] (x y : α × β × γ × δ) (h : [f0 x.1, f1 x.2.1, f2 x.2.2.1, f3 x.2.2.2] = [f0 y.1, f1 y.2.1, f2 y.2.2.1, f3 y.2.2.2]) : x = y := by
 simp only [List.cons.injEq, and_true] at h
 exact Prod.ext (h0.inj _ _ h.1) (Prod.ext (h1.inj _ _ h.2.1) (Prod.ext (h2.inj _ _ h.2.2.1) (h3.inj _ _ h.2.2.2)))
end
theorem K1 : ∀ {es : List A} {l : List Value}, (∀ x ∈ es, x.size = sz) → yw S es l → ∀ k, yw S (es.drop k) (l.drop (k * sz))
 | es, l, h, r, 0 => by simpa using r
 | [], l, h, r, k + 1 => by
  simp [yw] at r
  subst r
  simp [yw]
 | x :: es, l, h, r, k + 1 => by
  simp [yw] at r
  obtain ⟨c1, c2, rfl, r1, r2⟩ := r
  have hx : c1.length = sz := by rw [r1.len]; exact h x (by simp)
  have e : (k + 1) * sz = c1.length + k * sz := by rw [hx, Nat.add_mul]; omega
  rw [e, List.drop_append, List.drop_succ_cons, List.drop_eq_nil_of_le (show c1.length ≤ c1.length + k * sz by omega), List.nil_append, Nat.add_sub_cancel_left]
  exact K1 (fun y hy => h y (by simp [hy])) r2 k
def z1o (v : Value) (off l n : Nat) : Value :=
 match v with
 | .pointer (some a) => .slice (some (a.add (off + if n = l then 0 else l))) (n - l) (n - l)
 | v => v
def zcS (l : Nat) : Option Operand → Bool
 | none => l == 0
 | some (.const (.int _ j)) => j == (l : Int)
 | _ => false
def cpA (es : List α) (l : Nat) (ys : List α) : List α := es.take l ++ (ys.take (es.length - l) ++ es.drop (l + min ys.length (es.length - l)))
theorem z6m (es : List α) (l : Nat) (ys : List α) (h : l ≤ es.length) : (cpA es l ys).length = es.length := by
 simp [cpA, List.length_append, List.length_take, List.length_drop]
 omega
theorem z6l {α β : Type} (f : α → β) (es : List α) (l : Nat) (ys : List α) : cpA (es.map f) l (ys.map f) = (cpA es l ys).map f := by
 simp [cpA, List.map_take, List.map_drop]
section
variable {C : Ctx} {S : zn} {Fp : Nat → List Nat} {st : St} {a : Act} {w : World}
theorem z2L {t m e : Nat} (h : z4k tt t = some (m, e)) : ∃ a1 a2 a3 a4, tt t = some ⟨.array m e, a1, a2, a3, a4⟩ := by
 unfold z4k at h
 split at h
 ·rename_i ht; cases h; exact ⟨_, _, _, _, ht⟩
 ·cases h
theorem zav (h : Sim C S Fp [] st a w) {r i : Nat}  {fs es : List A} (hp : WO C.n.pin r = some v) (hr : (st r).t = .own (.box (.agg fs))) (hi : fs[i]? = some (.agg es)) :
  ∃ b, v = .pointer (some ⟨b, 0, none⟩) ∧ Act.tv a r = v ∧ ∀ h', wu h' [.deref, .fld i] (.box (.agg fs)) v = some (b, A.sizes (fs.take i)) := by
 have hq := h.ent r
 unfold xV at hq
 simp only [hr] at hq
 have ⟨cs, c1, c2, c3⟩ := hq
 simp only [zH] at c1
 obtain ⟨b, ty, l, F', rfl, _⟩ := c1
 have hs := h.pin r v (vL hp)
 have hv : v = .pointer (some ⟨b, 0, none⟩) := by rw [← hs, c3]; rfl
 refine ⟨b, hv, hs, fun h' => ?_⟩
 subst hv
 simp [wu, Qo, hi]
open Classical in
def avK (tt : TT) (n : Fr) (dst : Option Nat) (t r i l : Nat) (v : Value) (tx : T) (e : Ent) : SM Unit :=
 match e.t with
 | .own (.box (.agg fs)) =>
  match fs[i]? with
  | some (.agg es) =>
   match z4k tt t with
   | some (m, el) =>
    match tt el with
    | some it => if tx = .ptr r [.deref, .fld i] e.er e.ec ∧ WO n.pin r = some v then (if es.length = m ∧ it.size = 1 ∧ l ≤ m then wrT n dst (.d (.atom (z1o v (A.sizes (fs.take i)) l m))) else zt) else zt
    | none => zt
   | none => zt
  | _ => zt
 | _ => zt
def avO (tt : TT) (n : Fr) (dst : Option Nat) (t r i l : Nat) (v : Value) (x : Operand) : SM Unit := do
 let tx ← opnd x
 let e ← rdE r
 avK tt n dst t r i l v tx e
def avH (tt : TT) (n : Fr) (dst : Option Nat) (t r i l : Nat) (v : Value) (x : Operand) : HM Unit := yk (opnd x) >>= fun tx => yk (rdE r) >>= fun e =>
 match e.t with
 | .own (.box (.agg fs)) =>
  match fs[i]? with
  | some (.agg es) =>
   match z4k tt t with
   | some (m, el) =>
    match tt el with
    | some it => Zq (tx = .ptr r [.deref, .fld i] e.er e.ec ∧ WO n.pin r = some v) (if es.length = m ∧ it.size = 1 ∧ l ≤ m then yk (wrT n dst (.d (.atom (z1o v (A.sizes (fs.take i)) l m)))) else zF)
    | none => zF
   | none => zF
  | _ => zF
 | _ => zF
open Classical in
theorem zeM (tt : TT) (n : Fr) (dst : Option Nat) (t r i l : Nat) (v : Value) (x : Operand) : Snd (avO tt n dst t r i l v x) (avH tt n dst t r i l v x) := by
 refine zk (zo _) fun tx => zk (zo _) fun e => ?_
 unfold avK
 cases e.t with
 | own y =>
  cases y with
  | box z =>
   cases z with
   | agg fs =>
    dsimp only
    cases fs[i]? with
    | none => exact zp _
    | some q =>
     cases q with
     | agg es =>
      dsimp only
      cases z4k tt t with
      | none => exact zp _
      | some q =>
       have ⟨m, el⟩ := q
       dsimp only
       cases tt el with
       | none => exact zp _
       | some it => exact ue (vE (zo _) (zp _))
     | _ => exact zp _
   | _ => exact zp _
  | _ => exact zp _
 | _ => exact zp _
open Classical in
theorem Loc.avO (tt : TT) (n : Fr) (dst : Option Nat) (t r i l : Nat) (v : Value) (x : Operand) : Loc (avO tt n dst t r i l v x) := by
 unfold Go.Own.avO
 refine Loc.bind (Loc.opnd _) fun _ => Loc.bind (Loc.rdE _) fun _ => ?_
 unfold Go.Own.avK
 split
 ·split
  ·split
   ·split
    ·exact Loc.ite (Loc.ite (Loc.wrT _ _ _) Loc.fail) Loc.fail
    ·exact Loc.fail
   ·exact Loc.fail
  ·exact Loc.fail
 ·exact Loc.fail
theorem zdd (hT : wG P tt) (h : Sim C S Fp [] st a w)  {t r i l : Nat} {v : Value} {x : Operand} {lo : Option Operand} (ho : o.op = .slice t x lo none none) (hlo : zcS l lo = true)    (e0 : avO tt C.n o.dst t r i l v x st = some (u, R, U)) : qE P C o a w (zl U st) := by
 unfold avO at e0
 have ⟨tx, _, hx, e1⟩ := bR (zD h) e0
 have ⟨_, e4⟩ := bD e1
 unfold avK at e4
 cases ht : (st r).t with
 | own y0 =>
  cases y0 with
  | box z0 =>
   cases z0 with
   | agg fs =>
    simp only [ht] at e4
    cases hi : fs[i]? with
    | none => simp only [hi] at e4; cases e4
    | some q0 =>
     cases q0 with
     | agg es =>
      simp only [hi] at e4
      cases ha : z4k tt t with
      | none => simp only [ha] at e4; cases e4
      | some q1 =>
       have ⟨m, el⟩ := q1
       simp only [ha] at e4
       cases hel : tt el with
       | none => simp only [hel] at e4; cases e4
       | some it =>
        simp only [hel] at e4
        split at e4
        ·rename_i hc
         obtain ⟨rfl, c2⟩ := hc
         split at e4
         ·rename_i hd
          have ⟨d1, d2, d3⟩ := hd
          have ⟨a1, a2, a3, a4, hta⟩ := z2L ha
          have hk : P.underlying t = some (.array m el) := (hT _ _ hta).kind
          obtain ⟨b, rfl, hs, hloc⟩ := zav h c2 ht hi
          have hx3 := hx.2.2
          simp only [ht] at hx3
          have ⟨_, y, b', o', g1, g2, g3⟩ := hx3 trivial trivial
          rw [hs, hloc] at g2
          cases g2
          have ⟨Fp', hs'⟩ := wJ h e4 (x := .d (.atom (z1o (.pointer (some ⟨b, 0, none⟩)) (A.sizes (fs.take i)) l m))) (v := z1o (.pointer (some ⟨b, 0, none⟩)) (A.sizes (fs.take i)) l m) (zw.2 ⟨rfl, rfl⟩)
          refine zr ?_ hs'
          have hsz : (sizeOf el).run P w = .ok 1 w := by rw [vV hT hel, d2]
          have hlo2 : (lo = none ∧ l = 0) ∨ ∃ k, lo = some (.const (.int k (l : Int))) := by
           unfold zcS at hlo
           split at hlo
           ·left; exact ⟨rfl, by simpa using hlo⟩
           ·rename_i k j
            right
            simp only [beq_iff_eq] at hlo
            subst hlo
            exact ⟨k, rfl⟩
           ·cases hlo
          have hev : ∀ u, a.eval (.const u) = u := fun _ => rfl
          rcases hlo2 with ⟨rfl, rfl⟩ | ⟨k, rfl⟩
          ·have e0 : (if m = 0 then (⟨b, A.sizes (fs.take i), none⟩ : Addr) else Addr.add ⟨b, A.sizes (fs.take i), none⟩ (0 * 1)) = ⟨b, A.sizes (fs.take i), none⟩ := by split <;> simp [Addr.add_lit]
           simp [execOp, ho, g3, Instr.sliceAt, run_underlying hk, Instr.sureAddr, Instr.sliceBounds, hsz, z1o, Addr.add_lit]
          ·by_cases hml : m = l
           ·subst hml
            simp [execOp, ho, g3, hev, Instr.sliceAt, run_underlying hk, Instr.sureAddr, Instr.sliceBounds, Instr.sliceBound, asIntOf, hsz, z1o, Addr.add_lit]
           ·simp [execOp, ho, g3, hev, Instr.sliceAt, run_underlying hk, Instr.sureAddr, Instr.sliceBounds, Instr.sliceBound, asIntOf, hsz, z1o, Addr.add_lit, hml, d3]
         ·cases e4
        ·cases e4
     | _ => simp only [hi] at e4; cases e4
   | _ => simp only [ht] at e4; cases e4
  | _ => simp only [ht] at e4; cases e4
 | _ => simp only [ht] at e4; cases e4
theorem z3M : ∀ {as_ : List A} {cs : List Value} {i : Nat} {x y : A} {cy : List Value}, yw S as_ cs → as_[i]? = some x → Rep S y cy → ∃ c1 ci c2, cs = c1 ++ ci ++ c2 ∧ c1.length = A.sizes (as_.take i) ∧ Rep S x ci ∧ yw S (as_.set i y) (c1 ++ cy ++ c2)
 | [], _, _, _, _, _, _, e, _ => by simp at e
 | a :: as_, cs, 0, x, y, cy, r, e, ry => by
  simp at e; subst e
  simp [yw] at r
  obtain ⟨c1, c2, rfl, r1, r2⟩ := r
  exact ⟨[], c1, c2, rfl, rfl, r1, by simp [List.set_cons_zero, yw, List.nil_append]; exact ⟨cy, c2, rfl, ry, r2⟩⟩
 | a :: as_, cs, i + 1, x, y, cy, r, e, ry => by
  simp at e
  simp [yw] at r
  obtain ⟨c1, c2, rfl, r1, r2⟩ := r
  obtain ⟨d1, di, d2, rfl, hl, hx, hr⟩ := z3M r2 e ry
  exact ⟨c1 ++ d1, di, d2, by simp, by simp [A.sizes, hl, r1.len], hx, by simp [List.set_cons_succ, yw]; exact ⟨c1, d1 ++ cy ++ d2, by simp, r1, hr⟩⟩
open Classical in
def cpS (off m : Nat) (v : Value) (es : List A) (q : Option Nat) (ty : T) : SM (List A) :=
 match q with
 | none => do
  let z ← peek ty
  match z with
  | .sl 1 _ ys | .osl 1 _ ys => pure ys
  | _ => zt
 | some l2 => if ty = .d (.atom (z1o v off l2 m)) ∧ l2 ≤ m then pure (es.drop l2) else zt
def zeh (off m : Nat) (v : Value) (es : List A) (q : Option Nat) (ty : T) : HM (List A) :=
 match q with
 | none => yk (do
  let z ← peek ty
  match z with
  | .sl 1 _ ys | .osl 1 _ ys => pure ys
  | _ => zt)
 | some l2 => Zq (ty = .d (.atom (z1o v off l2 m)) ∧ l2 ≤ m) (yk (pure (es.drop l2)))
open Classical in
theorem zcK (off m : Nat) (v : Value) (es : List A) (q : Option Nat) (ty : T) : Snd (cpS off m v es q ty) (zeh off m v es q ty) := by
 cases q with
 | none => exact zo _
 | some l2 => exact ue (zo _)
open Classical in
def cpK (tt : TT) (n : Fr) (dst : Option Nat) (t r i l : Nat) (v : Value) (q : Option Nat) (tx ty : T) (e : Ent) : SM Unit :=
 match e.t with
 | .own (.box (.agg fs)) =>
  match fs[i]? with
  | some (.agg es) => cpS (A.sizes (fs.take i)) es.length v es q ty >>= fun ys =>
   if tx = .d (.atom (z1o v (A.sizes (fs.take i)) l es.length)) ∧ WO n.pin r = some v then
    if w9 tt t = some 1 ∧ l ≤ es.length ∧ A.areD fs = true ∧ (es.all fun z => z.size == 1) = true then
     if A.areD ys = true then wrE r ⟨.own (.box (.agg (fs.set i (.agg (cpA es l ys))))), e.er, e.ec + 1⟩ >>= fun _ => wrT n dst (.d (.atom (.int .i64 ((min ys.length (es.length - l) : Nat) : Int)))) else zt
    else zt
   else zt
  | _ => zt
 | _ => zt
def cpO (tt : TT) (n : Fr) (dst : Option Nat) (t r i l : Nat) (v : Value) (q : Option Nat) (x y : Operand) : SM Unit := do
 let tx ← opnd x
 let ty ← opnd y
 let e ← rdE r
 cpK tt n dst t r i l v q tx ty e
def cpH (tt : TT) (n : Fr) (dst : Option Nat) (t r i l : Nat) (v : Value) (q : Option Nat) (x y : Operand) : HM Unit := yk (opnd x) >>= fun tx => yk (opnd y) >>= fun ty => yk (rdE r) >>= fun e =>
 match e.t with
 | .own (.box (.agg fs)) =>
  match fs[i]? with
  | some (.agg es) => zeh (A.sizes (fs.take i)) es.length v es q ty >>= fun ys =>
   Zq (tx = .d (.atom (z1o v (A.sizes (fs.take i)) l es.length)) ∧ WO n.pin r = some v)
    (if w9 tt t = some 1 ∧ l ≤ es.length ∧ A.areD fs = true ∧ (es.all fun z => z.size == 1) = true then
     Zq (A.areD ys = true) (eqL (cpA es l ys) >>= fun zs => yk (wrE r ⟨.own (.box (.agg (fs.set i (.agg zs)))), e.er, e.ec + 1⟩ >>= fun _ => wrT n dst (.d (.atom (.int .i64 ((min ys.length (es.length - l) : Nat) : Int))))))
    else zF)
  | _ => zF
 | _ => zF
open Classical in
theorem zeK (tt : TT) (n : Fr) (dst : Option Nat) (t r i l : Nat) (v : Value) (q : Option Nat) (x y : Operand) : Snd (cpO tt n dst t r i l v q x y) (cpH tt n dst t r i l v q x y) := by
 refine zk (zo _) fun tx => zk (zo _) fun ty => zk (zo _) fun e => ?_
 unfold cpK
 cases e.t with
 | own y =>
  cases y with
  | box z =>
   cases z with
   | agg fs =>
    dsimp only
    cases fs[i]? with
    | none => exact zp _
    | some q =>
     cases q with
     | agg es =>
      dsimp only
      refine zk (zcK _ _ _ _ _ _) fun ys => ue (vE (ue ?_) (zp _))
      exact Vx (yd _ fun zs => wrE r ⟨.own (.box (.agg (fs.set i (.agg zs)))), e.er, e.ec + 1⟩ >>= fun _ => wrT n dst (.d (.atom (.int .i64 ((min ys.length (es.length - l) : Nat) : Int))))).symm (zk (z33 _) fun _ => zo _)
     | _ => exact zp _
   | _ => exact zp _
  | _ => exact zp _
 | _ => exact zp _
open Classical in
theorem Loc.cpO (tt : TT) (n : Fr) (dst : Option Nat) (t r i l : Nat) (v : Value) (q : Option Nat) (x y : Operand) : Loc (cpO tt n dst t r i l v q x y) := by
 unfold Go.Own.cpO
 refine Loc.bind (Loc.opnd _) fun _ => Loc.bind (Loc.opnd _) fun ty => Loc.bind (Loc.rdE _) fun _ => ?_
 unfold Go.Own.cpK
 split
 ·split
  ·refine Loc.bind ?_ fun _ => Loc.ite (Loc.ite (Loc.ite (Loc.bind (Loc.wrE _ _) fun _ => Loc.wrT _ _ _) Loc.fail) Loc.fail) Loc.fail
   unfold Go.Own.cpS
   split
   ·refine Loc.bind (Loc.peek _) fun z => ?_
    split
    ·exact Loc.pure _
    ·exact Loc.pure _
    ·exact Loc.fail
   ·exact Loc.ite (Loc.pure _) Loc.fail
  ·exact Loc.fail
 ·exact Loc.fail
theorem z7e {c1 ci c2 : List α} {l : Nat} (hl : l ≤ ci.length) : (c1 ++ ci ++ c2).take (c1.length + l) = c1 ++ ci.take l := by
 rw [List.append_assoc, List.take_length_add_append, List.take_append_of_le_length hl]
theorem z84 {c1 ci c2 : List α} {l : Nat} (hl : l ≤ ci.length) : (c1 ++ ci ++ c2).drop (c1.length + l) = ci.drop l ++ c2 := by
 rw [List.append_assoc, List.drop_length_add_append, List.drop_append_of_le_length hl]
theorem zbW (h : Sim C S Fp [] st a w) {off m : Nat}  {b : Nat}  {q : Option Nat} {ty : T} {vy : Value} (hy : TOk S w.heap st (Act.tv a) ty vy) (hv : v = .pointer (some ⟨b, 0, none⟩)) (hm : es.length = m) {ci : List Value} (hci : yw S es ci) (h1 : ∀ x ∈ es, x.size = 1) (hcell : ∀ j u, ci[j]? = some u → w.cell? ⟨b, off + j, none⟩ = some u)
    {ys : List A} {R : List Nat} {U : List (Nat × Ent)} (e : cpS off m v es q ty st = some (ys, R, U)) (hD : A.areD ys = true) :
    U = [] ∧ ∃ p d news, vy = .slice p ys.length d ∧ yw S ys news ∧ (∀ x ∈ ys, x.size = 1) ∧ ((ys = [] ∧ news = []) ∨ ∃ ad, p = some ad ∧ ∀ j u, news[j]? = some u → w.cell? (ad.add j) = some u) := by
  unfold cpS at e
  cases q with
  | none =>
    simp only at e
    obtain ⟨z, R1, U1, R2, U2, e1, e2, rfl, rfl⟩ := bind_some e
    obtain ⟨rfl, qz⟩ := Ql h hy e1
    have hz : (∃ t, z = .sl 1 t ys) ∨ ∃ t, z = .osl 1 t ys := by
      cases z with
      | sl sz t zs =>
        match sz, e2 with
        | 1, e2 => obtain ⟨rfl, _, _⟩ := wT e2; exact .inl ⟨t, rfl⟩
        | 0, e2 => cases e2
        | _ + 2, e2 => cases e2
      | osl sz t zs =>
        match sz, e2 with
        | 1, e2 => obtain ⟨rfl, _, _⟩ := wT e2; exact .inr ⟨t, rfl⟩
        | 0, e2 => cases e2
        | _ + 2, e2 => cases e2
      | _ => cases e2
    have hU : U2 = [] := by
      rcases hz with ⟨t, rfl⟩ | ⟨t, rfl⟩ <;> exact (wT e2).2.2
    subst hU
    exact ⟨rfl, z1K h hz hD qz⟩
  | some l2 =>
    simp only at e
    split at e
    · rename_i hc
      obtain ⟨rfl, hl⟩ := hc
      obtain ⟨rfl, _, rfl⟩ := wT e
      refine ⟨rfl, ?_⟩
      have hvy := (zw.1 hy).1
      subst hv
      have hr := K1 h1 hci l2
      refine ⟨some ⟨b, off + if m = l2 then 0 else l2, none⟩, m - l2, ci.drop l2, ?_, by simpa using hr, fun x hx => h1 x (List.mem_of_mem_drop hx), ?_⟩
      · rw [hvy, List.length_drop, hm]
        simp [z1o, Addr.add_lit]
      · by_cases hml : m = l2
        · left
          refine ⟨List.drop_eq_nil_of_le (by omega), List.drop_eq_nil_of_le ?_⟩
          rw [hci.len, A.sizes_const h1]
          omega
        · right
          refine ⟨_, rfl, fun j u hj => ?_⟩
          rw [if_neg hml, Addr.add_lit, Nat.add_assoc]
          rw [List.getElem?_drop] at hj
          exact hcell _ _ hj
    · cases e
theorem zd7 {P : Program}  (hT : wG P tt) (h : Sim C S Fp [] st a w)  {t t2 r i l : Nat} {v : Value} {q : Option Nat} {x y : Operand} (ho : o.op = .call ⟨.builtin .copy, ⟨[x, y]⟩, ⟨[t, t2]⟩⟩)    (e0 : cpO tt C.n o.dst t r i l v q x y st = some (u, R, U)) : qE P C o a w (zl U st) := by
 unfold cpO at e0
 have ⟨tx, _, hx, e1⟩ := bR (zD h) e0
 have ⟨ty, _, hy, e2⟩ := bR (zD h) e1
 have ⟨_, e4⟩ := bD e2
 unfold cpK at e4
 cases ht : (st r).t with
 | own y0 =>
  cases y0 with
  | box z0 =>
   cases z0 with
   | agg fs =>
    simp only [ht] at e4
    cases hi : fs[i]? with
    | none => simp only [hi] at e4; cases e4
    | some q0 =>
     cases q0 with
     | agg es =>
      simp only [hi] at e4
      obtain ⟨ys, R9, U9, R10, U10, h9, e5, rfl, rfl⟩ := bind_some e4
      split at e5
      ·rename_i hc
       obtain ⟨rfl, c2⟩ := hc
       split at e5
       ·rename_i hd
        have ⟨d1, d2, d3, d4⟩ := hd
        split at e5
        ·rename_i hD
         have hes : ∀ z ∈ es, z.size = 1 := fun z hz => by simpa using List.all_eq_true.1 d4 z hz
         have hq := h.ent r
         unfold xV at hq
         simp only [ht] at hq
         have ⟨cs, c1, c3, c4⟩ := hq
         simp only [zH] at c1
         obtain ⟨b, bty, lst, F', rfl, k1, k2, k3, k4⟩ := c1
         obtain ⟨hreps, rfl⟩ := zL.areD d3 k2
         have hs := h.pin r v (vL c2)
         have hv : v = .pointer (some ⟨b, 0, none⟩) := by rw [← hs, c4]; rfl
         have ⟨c1', ci, c2', hlst, hoff, hri⟩ := XX hreps hi
         simp only [Rep] at hri
         have hcil : ci.length = es.length := by rw [hri.len, A.sizes_const hes, Nat.mul_one]
         have hcell : ∀ j u, ci[j]? = some u → w.cell? ⟨b, A.sizes (fs.take i) + j, none⟩ = some u := by
          intro j u hj
          rw [Wd]
          have hlt := (List.getElem?_eq_some_iff.1 hj).1
          simp only [yj, k1]
          rw [List.getElem?_toArray, hlst, ← hoff, List.append_assoc, List.getElem?_append_right (by omega), Nat.add_sub_cancel_left, List.getElem?_append_left hlt]
          exact hj
         obtain ⟨rfl, p, d, news, hvy, hry, hsy, hsrc⟩ := zbW h hy hv rfl hri hes hcell h9 hD
         have hnl : news.length = ys.length := by rw [hry.len, A.sizes_const hsy, Nat.mul_one]
         let k := min ys.length (es.length - l)
         let cz := ci.take l ++ (news.take (es.length - l) ++ ci.drop (l + k))
         have hrz : Rep S (.agg (cpA es l ys)) cz := by
          simp only [Rep, cpA]
          have q1 := z20 hri hes l
          have q2 := z20 hry hsy (es.length - l)
          have q3 := K1 hes hri (l + k)
          simp only [Nat.mul_one] at q1 q2 q3
          exact q1.append (q2.append q3)
         have ⟨e1', ei, e2', he, heo, _, hrs⟩ := z3M hreps hi hrz
         have hcut : c1' = e1' := by
          have := congrArg (List.take c1'.length) (hlst.symm.trans he)
          rw [List.append_assoc, List.take_left', List.append_assoc, List.take_left'] at this
          ·exact this
          ·rw [heo, hoff]
          ·rfl
         subst hcut
         have hei : ei.length = ci.length := by
          have q5 : yw S es ei := by
           have ⟨g1, g2, g3, q6, q7, q8⟩ := XX hreps hi
           rename_i q9
           simpa only [Rep] using q9
          rw [q5.len, hri.len]
         have htail : ci ++ c2' = ei ++ e2' := by
          have := hlst.symm.trans he
          rw [List.append_assoc, List.append_assoc] at this
          exact List.append_cancel_left this
         obtain ⟨rfl, rfl⟩ := List.append_inj htail hei.symm
         have hkl : (news.take (es.length - l)).length = k := by rw [List.length_take, hnl, Nat.min_comm]
         have hczl : cz.length = es.length := by
          show (ci.take l ++ (news.take (es.length - l) ++ ci.drop (l + k))).length = _
          rw [List.length_append, List.length_append, hkl, List.length_take, List.length_drop, hcil]
          have : k ≤ es.length - l := Nat.min_le_right _ _
          omega
         have hxv := (zw.1 hx).1
         rw [hv] at hxv
         obtain ⟨el, hel, hsz⟩ : ∃ el, P.underlying t = some (.slice el) ∧ (P.info? el).map (·.size) = some 1 := by
          unfold w9 at d1
          split at d1
          ·rename_i el _ _ _ _ hty
           have ⟨it, hi2, hi3⟩ := Option.map_eq_some_iff.1 d1
           have ⟨f, f1, f2, f3, f4⟩ := (hT _ _ hi2).info
           exact ⟨el, (hT _ _ hty).kind, by rw [f1, Option.map_some, ← hi3, f2]⟩
          ·cases d1
         obtain ⟨y1, R11, U11, R12, U12, h11, e6, rfl, rfl⟩ := bind_some e5
         cases h11
         obtain ⟨w', hrun, hheap, hheapb, hkp⟩ : ∃ w', (Builtin.copy_ #[t, t2] o.type #[a.eval x, a.eval y]).run P w = .ok (goInt k) w' ∧ (∀ j, j ≠ b → w'.heap[j]? = w.heap[j]?) ∧ w'.heap[b]? = some (.cells (c1' ++ cz ++ c2').toArray bty (0, 0)) ∧ (∀ M : Nat → Prop, M b → Xr M w w') := by
          by_cases hk0 : k = 0
          ·refine ⟨w, ?_, fun _ _ => rfl, ?_, fun M _ => Xr.refl _ _⟩
           ·rw [hxv, hvy, hk0]
            exact run_copy_none w t t2 o.type el _ p _ _ _ d hel hsz hk0
           ·have hz : cz = ci := by
             show ci.take l ++ (news.take (es.length - l) ++ ci.drop (l + k)) = ci
             rw [List.eq_nil_of_length_eq_zero (hkl.trans hk0), hk0, List.nil_append, Nat.add_zero, List.take_append_drop]
            rw [hz, ← hlst]
            exact k1
          ·have hlm : l < es.length := by
            rcases Nat.lt_or_ge l es.length with g | g
            ·exact g
            ·exact absurd (show min ys.length (es.length - l) = 0 by omega) hk0
           obtain ⟨ad, rfl, hrd⟩ := hsrc.resolve_left (by rintro ⟨rfl, _⟩; exact hk0 (by simp [k]))
           have hone : ∀ u ∈ news.take (es.length - l), u.oneCell' = true := fun u hu => hry.one u (List.mem_of_mem_take hu)
           have hr1 := run_copy_row (P := P) w t t2 o.type el b (c1'.length + l) (es.length - l) (es.length - l) ad ys.length d lst.toArray bty (news.take (es.length - l)) hel hsz k1 hkl
            (fun j u hj => hrd j u (by rw [List.getElem?_take] at hj; split at hj <;> first | exact hj | cases hj))
            (by rw [hkl, hlst]; simp only [List.size_toArray, List.length_append]; have : k ≤ es.length - l := Nat.min_le_right _ _; omega) hone
           refine ⟨w.setRow b (lst.toArray.toList.take (c1'.length + l) ++ news.take (es.length - l) ++ lst.toArray.toList.drop (c1'.length + l + (news.take (es.length - l)).length)).toArray, ?_, fun j hj => setRow_other w b j _ hj, ?_, fun M hM => ⟨rfl, rfl, rfl, Nat.le_refl _, by simp, fun j hj => setRow_other w b j _ (by rintro rfl; exact hj hM)⟩⟩
           ·rw [hxv, hvy]
            simp only [z1o, if_neg (show ¬ es.length = l by omega), Addr.add_lit, Nat.zero_add]
            rw [← hoff]
            rw [hr1, hkl]
           ·rw [setRow_heap w b lst.toArray _ bty (0, 0) k1]
            congr 2
            rw [hkl, hlst]
            have e1 := z7e (c1 := c1') (ci := ci) (c2 := c2') (l := l) (by omega)
            have hkk : k ≤ es.length - l := Nat.min_le_right _ _
            have e2 := z84 (c1 := c1') (ci := ci) (c2 := c2') (l := l + k) (by omega)
            rw [← Nat.add_assoc] at e2
            show (List.take (c1'.length + l) (c1' ++ ci ++ c2') ++ _ ++ List.drop (c1'.length + l + k) (c1' ++ ci ++ c2')).toArray = _
            rw [e1, e2]
            show _ = (c1' ++ (ci.take l ++ (news.take (es.length - l) ++ ci.drop (l + k))) ++ c2').toArray
            simp
         have hb : b ∈ Fp r := by rw [k3]; simp
         have hconc : zH S w'.heap (.box (.agg (fs.set i (.agg (cpA es l ys))))) [.pointer (some ⟨b, 0, none⟩)] (Fp r) := by
          simp only [zH]
          exact ⟨b, bty, _, [], rfl, hheapb, hrs.concs _, k3, k4⟩
         have hs1 : Sim C S (Qc Fp r (Fp r)) [] (upd st r ⟨.own (.box (.agg (fs.set i (.agg (cpA es l ys))))), (st r).er, (st r).ec + 1⟩) a w' := by
          refine h.change r (.own _) _ _ (Fp r) (h.below.trans (hkp _ (h.base r b hb))) (fun _ _ _ q => q) ?_ h.sbase ?_ ⟨⟨_, hconc, c3, by rw [c4]; rfl⟩, _, ht⟩ (.inl ⟨_, ht⟩) (Nat.le_refl _) (Nat.lt_succ_self _) ?_ ?_ (by simp) (by simp) (by simp) (by simp)
          ·intro b' o'' u hu
           have hne : b' ≠ b := by rintro rfl; rw [k4] at hu; cases hu
           rw [wv (h := w.heap) (h' := w'.heap) (hheap b' hne)]
           exact h.still b' o'' u hu
          ·intro t' k' htr hk
           exact ⟨hheap k' (fun q => htr (h.disj t' r k' hk (q ▸ hb))), (h.free t' k' hk).2.1⟩
          ·intro t' k' htr hk hk'
           exact htr (h.disj t' r k' hk' hk)
          ·intro k' hk
           exact h.base r k' hk
         rw [zz]
         simp only [zl] at e6 ⊢
         have ⟨Fp', hs'⟩ := wJ hs1 e6 (x := .d (.atom (.int .i64 ((k : Nat) : Int)))) (v := .int .i64 ((k : Nat) : Int)) (zw.2 ⟨rfl, rfl⟩)
         refine zr ?_ hs'
         simp [execOp, ho, resolve, invoke, builtin, hrun, goInt]
        ·cases e5
       ·cases e5
      ·cases e5
     | _ => simp only [hi] at e4; cases e4
   | _ => simp only [ht] at e4; cases e4
  | _ => simp only [ht] at e4; cases e4
 | _ => simp only [ht] at e4; cases e4
end
def ze9 (d l : Nat) (o : Oper) : Option (Nat × Operand) := match o.op with | .slice t x lo none none => if o.dst = some d then (if zcS l lo = true then some (t, x) else none) else none | _ => none
def xAv (hT : wG P tt) (d r i l : Nat) (v : Value) : XH P :=
 xAt P (ze9 d l) (fun n o b => avO tt n o.dst b.1 r i l v b.2) (fun n o b => avH tt n o.dst b.1 r i l v b.2)
  (by
   intro C S Fp st a w o b hp h u R U e
   unfold ze9 at hp
   split at hp
   ·rename_i ho
    replace hp := z4e hp
    split at hp
    ·rename_i hl; cases hp; exact zdd hT h ho hl e
    ·cases hp
   ·cases hp)
  (fun n o b => Loc.avO _ _ _ _ _ _ _ _ _) (fun n o b => zeM _ _ _ _ _ _ _ _ _)
def ze6 (d : Nat) (o : Oper) : Option (Nat × Operand × Operand) := match o.op with | .call ⟨.builtin .copy, ⟨[x, y]⟩, ⟨[t, _]⟩⟩ => if o.dst = some d then some (t, x, y) else none | _ => none
def xCp (hT : wG P tt) (d r i l : Nat) (v : Value) (q : Option Nat) : XH P :=
 xAt P (ze6 d) (fun n o b => cpO tt n o.dst b.1 r i l v q b.2.1 b.2.2) (fun n o b => cpH tt n o.dst b.1 r i l v q b.2.1 b.2.2)
  (by
   intro C S Fp st a w o b hp h u R U e
   unfold ze6 at hp
   split at hp
   ·rename_i ho; cases z4e hp; exact zd7 hT h ho e
   ·cases hp)
  (fun n o b => Loc.cpO _ _ _ _ _ _ _ _ _ _ _) (fun n o b => zeK _ _ _ _ _ _ _ _ _ _ _)
instance (g T : Nat) : kX (eEr g T) (eEr g T) := ⟨fun _ => rfl⟩
theorem z3n {g T : Nat}    : (erQ g T b).holds S v ↔ ((b = true → S g 0 = some v ∧ ∃ a, v = .iface T (.pointer (some a))) ∧ (b = false → v = .nilIface)) := Iff.rfl
theorem z91 {g T : Nat}  : (erQ g T b).holds (fun _ _ => none) .nilIface ↔ b = false := by
 rw [z3n]
 cases b <;> simp
instance (g T : Nat) : vD (eEr g T) := ⟨fun a b h => by
 simp only [eEr, A.dop.injEq] at h
 have := z91 (g := g) (T := T) (b := a)
 rw [h, z91] at this
 cases a <;> cases b <;> simp_all⟩
def neO (n : Fr) (dst : Option Nat) (g T : Nat) : SM Unit := wrT n dst (.d (eEr g T false))
def ze3 (d : Nat) (o : Oper) : Option Unit := match o.op with | .assign (.const .nilIface) => if o.dst = some d then some () else none | _ => none
def xNe (P : Program) (d g T : Nat) : XH P := xAt P (ze3 d) (fun n o _ => neO n o.dst g T) (fun n o _ => yk (neO n o.dst g T))
  (by
   intro C S Fp st a w o b hp h u R U e
   unfold ze3 at hp
   split at hp
   ·rename_i ho
    unfold neO at e
    obtain ⟨Fp', hs'⟩ := wJ h e (x := .d (eEr g T false)) (v := .nilIface) (by
     simp only [TOk, eEr, we]
     exact ⟨[.nilIface], by simp only [Rep]; exact ⟨_, rfl, z3n.2 ⟨by simp, by simp⟩⟩, rfl⟩)
    refine zr ?_ hs'
    simp [execOp, ho]
    rfl
   ·cases hp)
  (fun n o b => Loc.wrT _ _ _) (fun n o b => zo _)
theorem z90 {g T : Nat}   (h : u6 S (eEr g T b) v) : (b = true → S g 0 = some v ∧ ∃ a, v = .iface T (.pointer (some a))) ∧ (b = false → v = .nilIface) := by
 obtain ⟨cs, r, rfl⟩ := h
 simp only [eEr, Rep] at r
 obtain ⟨u, rfl, q⟩ := r
 exact z3n.1 q
theorem z1m {n : Fr}    {sz k : Nat} {u v : Value} {ps : List (Nat × Value)} (hn : n = ⟨sz, (k, u) :: ps⟩) (hv : (k, v) ∈ ps) (h : AWP P ⟨sz, ps⟩ c st (Qf P ⟨sz, ps⟩ [] Q)) : AWP P n c st (Qf P n [] Q) := by
 subst hn
 intro rd m df w0 S0 M S Fp a w hc hs
 have e1 : Act.tv a k = u := hs.pin k u List.mem_cons_self
 have e2 : Act.tv a k = v := hs.pin k v (List.mem_cons_of_mem _ hv)
 refine wpIn_mono (h rd m df w0 S0 M S Fp a w ⟨hc.nodup, hc.df, hc.rd⟩ (Sim.unpinned (n := ⟨sz, ps⟩) hs)) ?_
 rintro e a' w' ⟨df', st1, S1, Fp1, h1, h2, h3⟩
 refine ⟨df', st1, S1, Fp1, ?_, h2, h3⟩
 have h4 := h1.pinned k
 have e3 : Act.tv a' k = u := (h1.pin k v hv).trans (e2.symm.trans e1)
 rw [e3] at h4
 exact h4
section
variable {C : Ctx} {S : zn} {Fp : Nat → List Nat} {st : St} {a : Act} {w : World}
open Classical in
def bxQ (n : Fr) (dst : Option Nat) (s : Nat) (v : Value) : SM Unit := do
 let e ← rdE s
 match e.t with
 | .own (.opq o) => if o.multi = false ∧ WO n.pin s = some v then wrT n dst (.own (.box (.atom v))) else zt
 | _ => zt
def zei (n : Fr) (dst : Option Nat) (s : Nat) (v : Value) : HM Unit := yk (rdE s) >>= fun e =>
 match e.t with
 | .own (.opq o) => Zq (o.multi = false ∧ WO n.pin s = some v) (yk (wrT n dst (.own (.box (.atom v)))))
 | _ => zF
open Classical in
theorem zcL (n : Fr) (dst : Option Nat) (s : Nat) (v : Value) : Snd (bxQ n dst s v) (zei n dst s v) := by
 refine zk (zo _) fun e => ?_
 cases e.t with
 | own y =>
  cases y with
  | opq o => exact ue (zo _)
  | _ => exact zp _
 | _ => exact zp _
open Classical in
theorem Loc.bxQ (n : Fr) (dst : Option Nat) (s : Nat) (v : Value) : Loc (bxQ n dst s v) := by
 unfold Go.Own.bxQ
 refine Loc.bind (Loc.rdE _) fun e => ?_
 split
 ·exact Loc.ite (Loc.wrT _ _ _) Loc.fail
 ·exact Loc.fail
theorem zc0 (h : Sim C S Fp [] st a w)  {t s : Nat} {v : Value} (ho : o.op = .box t (.tmp s))    (e : bxQ C.n o.dst s v st = some (u, R, U)) : qE P C o a w (zl U st) := by
 unfold bxQ at e
 obtain ⟨_, e1⟩ := bD e
 cases ht : (st s).t with
 | own y =>
  cases y with
  | opq q =>
   simp [ht] at e1
   split at e1
   ·rename_i hc
    obtain ⟨c1, c2⟩ := hc
    have hs := h.pin s v (vL c2)
    have hq := h.ent s
    unfold xV at hq
    simp [ht, zH] at hq
    obtain ⟨cs, ⟨v0, rfl, k2⟩, k3, k4⟩ := hq
    have hv0 : v = v0 := by rw [← hs, k4]; rfl
    have hone : v.oneCell' = true := by
     rw [hv0]
     exact (q.one k2).resolve_right (fun x => by rw [c1] at x; simp at x)
    have hconc : zH S w.heap (.atom v) [v] [] := by simp [zH, Rep, hone]
    obtain ⟨k1, k2, k3⟩ := z3r (F := []) (by simpa using h) hconc (by simp) t
    obtain ⟨Fp'', hs2⟩ := Xv k1 e1 k2 k3
    refine zr (v := .pointer (some ⟨w.heap.size, 0, none⟩)) ?_ hs2
    have ev : a.eval (.tmp s) = v := hs
    have hcl : v.cells = #[v] := by
     have := Ym (y := .atom v) (cs := [v]) hconc.na (.inr rfl)
     simpa [yc] using this
    simp [execOp, ho, Instr.box, newVar, newRow, ev, hcl]
   ·cases e1
  | _ => simp [ht] at e1; cases e1
 | _ => simp [ht] at e1; cases e1
open Classical in
def lyK (tt : TT) (n : Fr) (dst : Option Nat) (t s r : Nat) (v : Value) (es er : Ent) : SM Unit :=
 if (es.t = .own (.box (.atom v)) ∧ WO n.pin r = some v ∧ ∃ x, er.t = .own x) ∧ Zn tt t (.atom v) = true then wrT n dst (.als r [] er.er er.ec) else zt
def lyO (tt : TT) (n : Fr) (dst : Option Nat) (t s r : Nat) (v : Value) : SM Unit := do
 let es ← rdE s
 let er ← rdE r
 lyK tt n dst t s r v es er
def lyH (tt : TT) (n : Fr) (dst : Option Nat) (t s r : Nat) (v : Value) : HM Unit := yk (rdE s) >>= fun es => yk (rdE r) >>= fun er =>
 if Zn tt t (.atom v) = true then Zq (es.t = .own (.box (.atom v)) ∧ WO n.pin r = some v ∧ ∃ x, er.t = .own x) (yk (wrT n dst (.als r [] er.er er.ec))) else zF
open Classical in
theorem zeG (tt : TT) (n : Fr) (dst : Option Nat) (t s r : Nat) (v : Value) : Snd (lyO tt n dst t s r v) (lyH tt n dst t s r v) :=
 zk (zo _) fun es => zk (zo _) fun er => Jf (fun h1 h2 => ⟨h2, h1⟩) (zo _)
open Classical in
theorem Loc.lyO (tt : TT) (n : Fr) (dst : Option Nat) (t s r : Nat) (v : Value) : Loc (lyO tt n dst t s r v) := by
 unfold Go.Own.lyO
 refine Loc.bind (Loc.rdE _) fun _ => Loc.bind (Loc.rdE _) fun _ => ?_
 unfold Go.Own.lyK
 exact Loc.ite (Loc.wrT _ _ _) Loc.fail
theorem zcQ (hT : wG P tt) (h : Sim C S Fp [] st a w) {o : Oper} {t s r : Nat} {v : Value} (ho : o.op = .load t (.tmp s))    (e : lyO tt C.n o.dst t s r v st = some (u, R, U)) : qE P C o a w (zl U st) := by
 unfold lyO at e
 have ⟨_, e1⟩ := bD e
 have ⟨_, e2⟩ := bD e1
 unfold lyK at e2
 split at e2
 ·rename_i hc
  have ⟨⟨c1, c2, x, c3⟩, c4⟩ := hc
  have hs := h.pin r v (vL c2)
  have hq := h.ent s
  unfold xV at hq
  simp only [c1, zH] at hq
  obtain ⟨cs, ⟨b, ty, l, F', rfl, k1, k2, k3, k4⟩, _, k6⟩ := hq
  obtain ⟨⟨rfl, hone⟩, rfl⟩ := k2
  have ev : a.eval (.tmp s) = .pointer (some ⟨b, 0, none⟩) := k6
  have hld := Zb hT c4 (w := w) (b := b) (o := 0) (cs := [v]) rfl (fun j u hj => by
   simp only [yj, k1, Nat.zero_add]
   simpa using hj)
  have ⟨Fp', hs2⟩ := wJ h e2 (x := .als r [] (st r).er (st r).ec) (v := v) ⟨Nat.le_refl _, Nat.le_refl _, by
   simp only [c3]
   exact fun _ _ => .inl ⟨trivial, hs.symm⟩⟩
  refine zr ?_ hs2
  have hv : yc (.atom v) [v] = v := rfl
  rw [hv] at hld
  simp [execOp, ho, ev, Instr.loadAt, Instr.sureAddr, hld]
 ·cases e2
end
def ze8 (d s : Nat) (o : Oper) : Option Nat := match o.op with | .box t (.tmp s') => if o.dst = some d then (if s' = s then some t else none) else none | _ => none
def xBx (P : Program) (d s : Nat) (v : Value) : XH P :=
 xAt P (ze8 d s) (fun n o _ => bxQ n o.dst s v) (fun n o _ => zei n o.dst s v)
  (by
   intro C S Fp st a w o b hp h u R U e
   unfold ze8 at hp
   split at hp
   ·rename_i ho
    replace hp := z4e hp
    split at hp
    ·rename_i hs; subst hs; exact zc0 h ho e
    ·cases hp
   ·cases hp)
  (fun n o b => Loc.bxQ _ _ _ _) (fun n o b => zcL _ _ _ _)
def ze4 (d s : Nat) (o : Oper) : Option Nat := match o.op with | .load t (.tmp s') => if o.dst = some d then (if s' = s then some t else none) else none | _ => none
def xLy (hT : wG P tt) (d s r : Nat) (v : Value) : XH P :=
 xAt P (ze4 d s) (fun n o t => lyO tt n o.dst t s r v) (fun n o t => lyH tt n o.dst t s r v)
  (by
   intro C S Fp st a w o b hp h u R U e
   unfold ze4 at hp
   split at hp
   ·rename_i ho
    replace hp := z4e hp
    split at hp
    ·rename_i hs; subst hs; cases hp; exact zcQ hT h ho e
    ·cases hp
   ·cases hp)
  (fun n o b => Loc.lyO _ _ _ _ _ _ _) (fun n o b => zeG _ _ _ _ _ _ _)
def z4j (tt : TT) (n : Fr) (dst : Option Nat) (t : Nat) (z : A) (hi : Operand) : SM Unit :=
 match z with
 | .sptr (.agg fs) =>
  match z4k tt t with
  | some (m, e) => match tt e with
   | some i => if fs.length = m ∧ fs.all (fun z => z.size == i.size) = true then (bound m (some hi) >>= fun k => if k ≤ fs.length then wrT n dst (.d (.sl i.size false (fs.take k))) else zt) else zt
   | none => zt
  | none => zt
 | _ => zt
def arrHiO (tt : TT) (n : Fr) (dst : Option Nat) (t : Nat) (x hi : Operand) : SM Unit := do
 let y ← opnd x
 let z ← shutT (fun _ => none) 0 y
 z4j tt n dst t z hi
def z6B (tt : TT) (n : Fr) (dst : Option Nat) (t : Nat) (z : A) (hi : Operand) : HM Unit :=
 match z with
 | .sptr (.agg fs) =>
  match z4k tt t with
  | some (m, e) => match tt e with
   | some i => if fs.length = m ∧ fs.all (fun z => z.size == i.size) = true then (Jb m (some hi) >>= fun k => Zq (k ≤ fs.length) (eqL (fs.take k) >>= fun xs => yk (wrT n dst (.d (.sl i.size false xs))))) else zF
   | none => zF
  | none => zF
 | _ => zF
def z95 (tt : TT) (n : Fr) (dst : Option Nat) (t : Nat) (x hi : Operand) : HM Unit := yk (opnd x) >>= fun y => JR (fun _ => none) 0 y >>= fun z => z6B tt n dst t z hi
theorem z9X (tt : TT) (n : Fr) (dst : Option Nat) (t : Nat) (x hi : Operand) : Snd (arrHiO tt n dst t x hi) (z95 tt n dst t x hi) := by
 refine zk (zo _) fun _ => zk (XU _ _ _) fun z => ?_
 unfold z4j z6B
 cases z with
 | sptr y =>
  cases y with
  | agg fs =>
   dsimp only
   cases z4k tt t with
   | none => exact zp _
   | some q =>
    have ⟨m, e⟩ := q
    dsimp only
    cases tt e with
    | none => exact zp _
    | some i =>
     refine vE (zk (VH _ _) fun k => ue ?_) (zp _)
     exact Vx (yd _ fun xs => wrT n dst (.d (.sl i.size false xs))).symm (zk (z33 _) fun _ => zo _)
  | _ => exact zp _
 | _ => exact zp _
theorem Loc.arrHiO (tt : TT) (n : Fr) (dst : Option Nat) (t : Nat) (x hi : Operand) : Loc (arrHiO tt n dst t x hi) := by
 unfold Go.Own.arrHiO
 refine Loc.bind (Loc.opnd _) fun tx => Loc.bind (Loc.shutT _ _ _) fun z => ?_
 unfold Go.Own.z4j
 split
 ·split
  ·split
   ·exact Loc.ite (Loc.bind (Loc.bound _ _) fun _ => Loc.ite (Loc.wrT _ _ _) Loc.fail) Loc.fail
   ·exact Loc.fail
  ·exact Loc.fail
 ·exact Loc.fail
theorem z8v (hT : wG P tt)       (h : Sim C S Fp [] st a w)  {t : Nat} {x hi : Operand} (ho : o.op = .slice t x none (some hi) none)    (e : arrHiO tt C.n o.dst t x hi st = some (u, R, U)) : qE P C o a w (zl U st) := by
 unfold arrHiO at e
 have ⟨y, _, hx, e1⟩ := bR (zD h) e
 obtain ⟨z, R3, U3, R4, U4, h3, e2, rfl, rfl⟩ := bind_some e1
 have ⟨S1, Fp1, g1, g2, g3, g4⟩ := V9 h hx h3
 rw [zz]
 unfold z4j at e2
 cases z with
 | sptr y =>
  cases y with
  | agg fs =>
   simp only at e2
   cases ha : z4k tt t with
   | none => simp only [ha] at e2; cases e2
   | some q =>
    have ⟨m, el⟩ := q
    simp only [ha] at e2
    cases hi' : tt el with
    | none => simp only [hi'] at e2; cases e2
    | some i =>
     simp only [hi'] at e2
     split at e2
     ·rename_i hc
      have ⟨hm, hall⟩ := hc
      have ⟨k, _, b2, e3⟩ := bR (We g1) e2
      split at e3
      ·rename_i hk
       have ⟨a1, a2, a3, a4, hta⟩ := z2L ha
       have hku : P.underlying t = some (.array m el) := (hT _ _ hta).kind
       have ⟨cs, r1, r2⟩ := g4
       simp only [Rep] at r1
       obtain ⟨b, off, l, rfl, k1, k2⟩ := r1
       have ev : a.eval x = .pointer (some ⟨b, off, none⟩) := r2
       have hsz : ∀ y ∈ fs, y.size = i.size := fun y hy => by simpa using List.all_eq_true.1 hall y hy
       have hlen : (fs.take k).length = k := by simp; omega
       have hrep : we S1 (.sl i.size false (fs.take k)) (.slice (some ⟨b, off, none⟩) k m) := by
        refine u6.repV ⟨[.slice (some ⟨b, off, none⟩) k m], ?_, rfl⟩
        simp only [Rep]
        refine ⟨_, m, by rw [hlen], by simp, by rw [hlen]; omega, fun y hy => hsz y (List.mem_of_mem_take hy), .inr ⟨b, off, l.take (k * i.size), rfl, z20 k1 hsz k, ?_⟩⟩
        intro j v hj
        rw [List.getElem?_take] at hj
        split at hj
        ·exact k2 j v hj
        ·cases hj
       have ⟨Fp', hs⟩ := wJ g1 e3 (x := .d _) hrep
       refine zr ?_ hs
       have hz : (Addr.add ⟨b, off, none⟩ 0) = ⟨b, off, none⟩ := by simp [Addr.add]
       rcases b2 with ⟨q, _⟩ | ⟨o', kk, j, q, eo, hj0, rfl⟩
       ·cases q
       ·cases q
        have hle : j ≤ (m : Int) := by omega
        simp [execOp, ho, ev, eo, Instr.sliceAt, run_underlying hku, Instr.sureAddr, Instr.sliceBounds, Instr.sliceBound, asIntOf, vV hT hi', hz, hj0, hle]
      ·cases e3
     ·cases e2
  | _ => cases e2
 | _ => cases e2
def zec (d : Nat) (o : Oper) : Option (Nat × Operand × Operand) := match o.op with | .slice t x none (some hi) none => if o.dst = some d then some (t, x, hi) else none | _ => none
def xAh (hT : wG P tt) (d : Nat) : XH P :=
 xAt P (zec d) (fun n o b => arrHiO tt n o.dst b.1 b.2.1 b.2.2) (fun n o b => z95 tt n o.dst b.1 b.2.1 b.2.2)
  (by
   intro C S Fp st a w o b hp h u R U e
   unfold zec at hp
   split at hp
   ·rename_i ho; cases z4e hp; exact z8v hT h ho e
   ·cases hp)
  (fun n o b => Loc.arrHiO _ _ _ _ _ _) (fun n o b => z9X _ _ _ _ _ _)
mutual
def A.cellsI : A → Option (List A)
 | .agg fs => A.cellsIs fs
 | .atom (.int k x) => some [.atom (.int k x)]
 | _ => none
def A.cellsIs : List A → Option (List A)
 | [] => some []
 | x :: xs => match x.cellsI, A.cellsIs xs with | some l, some m => some (l ++ m) | _, _ => none
end
mutual
theorem Rep.cells : ∀ {x : A} {cs : List Value} {l : List A}, Rep S x cs → x.cellsI = some l → yw S l cs
 | .agg fs, cs, l, r, e => by
  simp only [A.cellsI] at e
  simp only [Rep] at r
  exact yw.cells r e
 | .atom u, cs, l, r, e => by
  cases u <;> simp only [A.cellsI, Option.some.injEq] at e <;> first | (cases e; done) | skip
  subst e
  simp only [yw]
  exact ⟨cs, [], by simp, r, rfl⟩
 | .fn _ _, _, _, _, e | .sl _ _ _, _, _, _, e | .sptr _, _, _, _, e | .tup _, _, _, _, e | .osl _ _ _, _, _, _, e | .box _, _, _, _, e | .dead _, _, _, _, e | .opq _, _, _, _, e | .dop _, _, _, _, e => by simp [A.cellsI] at e
theorem yw.cells : ∀ {xs : List A} {cs : List Value} {l : List A}, yw S xs cs → A.cellsIs xs = some l → yw S l cs
 | [], cs, l, r, e => by
  simp only [A.cellsIs, Option.some.injEq] at e
  subst e
  exact r
 | x :: xs, cs, l, r, e => by
  simp only [A.cellsIs] at e
  simp only [yw] at r
  obtain ⟨c1, c2, rfl, r1, r2⟩ := r
  cases h1 : x.cellsI with
  | none => simp [h1] at e
  | some l1 =>
   cases h2 : A.cellsIs xs with
   | none => simp [h1, h2] at e
   | some l2 =>
    simp only [h1, h2, Option.some.injEq] at e
    subst e
    exact (Rep.cells r1 h1).append (yw.cells r2 h2)
end
def zcn (tt : TT) (n : Fr) (dst : Option Nat) (op : BinOp) (xt : Nat) (vx vy : A) : SM Unit :=
 match vx, vy with
 | .agg fs, .agg gs =>
  match A.cellsIs fs, A.cellsIs gs with
  | some l, some m => ofO (z92 tt op xt (.agg l) (.agg m)) >>= fun r => wrT n dst (.d r)
  | _, _ => zt
 | _, _ => zt
def eqnO (tt : TT) (n : Fr) (dst : Option Nat) (op : BinOp) (xt : Nat) (x y : Operand) : SM Unit := do
 let tx ← opnd x
 let vx ← val tx
 let ty ← opnd y
 let vy ← val ty
 zcn tt n dst op xt vx vy
def zee (tt : TT) (n : Fr) (dst : Option Nat) (op : BinOp) (xt : Nat) (x y : Operand) : HM Unit := yk (opnd x) >>= fun tx => Q0 tx >>= fun vx => yk (opnd y) >>= fun ty => Q0 ty >>= fun vy => yk (zcn tt n dst op xt vx vy)
theorem zcI (tt : TT) (n : Fr) (dst : Option Nat) (op : BinOp) (xt : Nat) (x y : Operand) : Snd (eqnO tt n dst op xt x y) (zee tt n dst op xt x y) :=
 zk (zo _) fun _ => zk (Za _) fun _ => zk (zo _) fun _ => zk (Za _) fun _ => zo _
theorem Loc.eqnO (tt : TT) (n : Fr) (dst : Option Nat) (op : BinOp) (xt : Nat) (x y : Operand) : Loc (eqnO tt n dst op xt x y) := by
 unfold Go.Own.eqnO
 refine Loc.bind (Loc.opnd _) fun _ => Loc.bind (Loc.val _) fun _ => Loc.bind (Loc.opnd _) fun _ => Loc.bind (Loc.val _) fun _ => ?_
 unfold Go.Own.zcn
 split
 ·split
  ·exact Loc.bind (Loc.ofO _) fun _ => Loc.wrT _ _ _
  ·exact Loc.fail
 ·exact Loc.fail
theorem z0i {l fs : List A}  (h : we S (.agg fs) v) (e : A.cellsIs fs = some l) : we S (.agg l) v := by
 obtain ⟨cs, rfl, r⟩ := z0Z h
 exact u6.repV ⟨cs, by simp [Rep]; exact r.cells e, rfl⟩
theorem zbT (hT : wG P tt)       (h : Sim C S Fp [] st a w)  {op : BinOp} {xt yt : Nat} {x y : Operand} (ho : o.op = .binOp op xt x y yt)    (e0 : eqnO tt C.n o.dst op xt x y st = some (u, R, U)) : qE P C o a w (zl U st) := by
 unfold eqnO at e0
 have ⟨tx, _, hx, e1⟩ := bR (zD h) e0
 have ⟨vx, _, qx, e2⟩ := bR (vO h hx) e1
 have ⟨ty, _, hy, e3⟩ := bR (zD h) e2
 have ⟨vy, _, qy, e4⟩ := bR (vO h hy) e3
 unfold zcn at e4
 split at e4
 ·rename_i fs gs
  cases hl : A.cellsIs fs with
  | none => simp only [hl] at e4; cases e4
  | some l =>
   cases hm : A.cellsIs gs with
   | none => simp only [hl, hm] at e4; cases e4
   | some m =>
    simp only [hl, hm] at e4
    have ⟨r, _, hr, e5⟩ := bO e4
    have ⟨v, hv, hrun⟩ := z6v (x := x) (y := y) hT (z0i qx hl) (z0i qy hm) hr w
    have ⟨Fp', hs⟩ := wJ h e5 (x := .d r) hv
    refine zr (v := v) ?_ hs
    simp only [execOp, ho, Sem.run_bind, Sem.run_pure] at hrun ⊢
    rw [hrun]
    rfl
 ·cases e4
def zbP (d : Nat) (o : Oper) : Option (BinOp × Nat × Operand × Operand) := match o.op with | .binOp op xt x y _ => if o.dst = some d then some (op, xt, x, y) else none | _ => none
def zcy (hT : wG P tt) (d : Nat) : XH P :=
 xAt P (zbP d) (fun n o b => eqnO tt n o.dst b.1 b.2.1 b.2.2.1 b.2.2.2) (fun n o b => zee tt n o.dst b.1 b.2.1 b.2.2.1 b.2.2.2)
  (by
   intro C S Fp st a w o b hp h u R U e
   unfold zbP at hp
   split at hp
   ·rename_i ho; cases z4e hp; exact zbT hT h ho e
   ·cases hp)
  (fun n o b => Loc.eqnO _ _ _ _ _ _ _) (fun n o b => zcI _ _ _ _ _ _ _)
section
variable {P : Program} {C : Ctx} {S : zn} {Fp : Nat → List Nat} {X : List Nat} {st : St} {a : Act} {w : World} {t kt et : Nat} {ok : A → Bool} {z : A}
open Classical in
def updBO (es : List (A × A)) (ok : A → Bool) (x k v : Operand) : SM Unit := do
 let tx ← opnd x
 match tx with
 | .als r [.deref] er ec => do
  let e ← rdE r
  let tk ← opnd k
  let vk ← val tk
  let tv ← opnd v
  let vv ← val tv
  if e.t = .own (.box (.opq (W2 es))) ∧ (e.er = er ∧ e.ec = ec) ∧ ok vk = true ∧ vv.isD = true ∧ ∀ p ∈ es, ok p.1 = true then
   wrE r ⟨.own (.box (.opq (W2 (z3P es vk vv)))), e.er, e.ec + 1⟩
  else zt
 | _ => zt
theorem z6W (mt : z8A P t kt et ok z) (h : Sim C S Fp [] st a w)  {es : List (A × A)} {x k v : Operand} (ho : o.op = .mapUpdate t x k v ∨ o.op = .insert t x k v) (hd : o.dst = none)    (e : updBO es ok x k v st = some (u, R, U)) : qE P C o a w (zl U st) := by
 unfold updBO at e
 obtain ⟨tx, R1, U1, R2, U2, h1, e1, rfl, rfl⟩ := bind_some e
 obtain ⟨rfl, hx⟩ := zD h h1
 simp only [zl, List.nil_append] at e1 ⊢
 split at e1
 ·rename_i r er ec
  obtain ⟨en, R3, U3, R4, U4, h3, e2, rfl, rfl⟩ := bind_some e1
  obtain ⟨rfl, rfl, rfl⟩ := qJ h3
  simp only [zl, List.nil_append] at e2 ⊢
  obtain ⟨tk, R5, U5, R6, U6, h5, e3, rfl, rfl⟩ := bind_some e2
  obtain ⟨rfl, hk⟩ := zD h h5
  obtain ⟨vk, R7, U7, R8, U8, h7, e4, rfl, rfl⟩ := bind_some e3
  obtain ⟨rfl, qk⟩ := vO h hk h7
  simp only [zl, List.nil_append] at e4 ⊢
  obtain ⟨tv, R9, U9, R10, U10, h9, e5, rfl, rfl⟩ := bind_some e4
  obtain ⟨rfl, hv⟩ := zD h h9
  obtain ⟨vv, R11, U11, R12, U12, h11, e6, rfl, rfl⟩ := bind_some e5
  obtain ⟨rfl, qv⟩ := vO h hv h11
  simp only [zl, List.nil_append] at e6 ⊢
  split at e6
  ·rename_i hc
   obtain ⟨c1, c2, c3, c4, c5⟩ := hc
   obtain ⟨rfl, rfl⟩ := z6V e6
   have hr := h.ent r
   unfold xV at hr
   simp only [c1] at hr
   obtain ⟨cs, k1, k2, k3⟩ := hr
   simp only [zH] at k1
   obtain ⟨b0, bty, l0, F0, rfl, m1, k1, hF0, m2⟩ := k1
   obtain ⟨v0, rfl, b, ents, cl, rfl, hF1, g1, g2, g3⟩ := k1
   subst hF1
   have hF : Fp r = [b0, b] := hF0
   have hne0 : b0 ≠ b := by
    rw [hF] at k2
    simp at k2
    exact k2
   have hev : a.eval x = .map (some b) := by
    have := hx.2.2
    simp only [c1] at this
    rcases this c2.1 (.inr c2.2) with ⟨q, _⟩ | ⟨_, y, b', o', cs', q1, q2, q3, q4, q5⟩
    ·cases q
    ·simp only [wF, Option.some.injEq] at q1
     subst q1
     rw [k3] at q2
     simp only [yc, List.headD_cons, wu, Qo, Option.some.injEq, Prod.mk.injEq] at q2
     obtain ⟨rfl, rfl⟩ := q2
     obtain ⟨c, rfl⟩ := List.length_eq_one_iff.1 q3
     have q6 := q4 0 c rfl
     simp only [yj, m1] at q6
     have : c = .map (some b) := by simpa using q6.symm
     rw [q5, this]
     rfl
   obtain ⟨kv, hkv⟩ := mt.key vk c3
   have hkd : a.eval k = kv := by
    refine z18 (S := S) ?_ hkv
    cases vk <;> first | exact qk | (simp only [Jh, z0q, Option.map_none] at hkv; cases hkv)
   have hvd : u6 S vv (a.eval v) := qv.rep1 c4
   have hf := mt.find vk kv c3 hkv ents.toList es c5 (ZW.mono (fun _ _ q => q.1) g3) w
   have hck := mt.check vk kv false w c3 hkv
   have hget : (getObj b).run P w = .ok (.map ents cl) w := by simp [getObj, Sem.run, g1]
   have hset : ∀ o', (setObj b o').run P w = .ok () (w.putObj b o') := by intro o'; simp [setObj, Sem.run, g1, World.putObj]
   have hbM : C.M b := h.base r b (by rw [hF]; simp)
   have hbM0 : C.M b0 := h.base r b0 (by rw [hF]; simp)
   have hoth : ∀ k o', k ≠ b → (w.putObj b o').heap[k]? = w.heap[k]? := fun k o' hk => World.putObj_heap_other hk
   have hlt : b < w.heap.size := (Array.getElem?_eq_some_iff.1 g1).1
   have fin : ∀ ents' cl' es', V8 S es' ents'.toList → ∃ Fp', Sim C S Fp' [] (upd st r ⟨.own (.box (.opq (W2 es'))), (st r).er, (st r).ec + 1⟩) a (w.putObj b (.map ents' cl')) := by
    intro ents' cl' es' he'
    refine ⟨_, h.change r (.own (.box (.opq (W2 es')))) _ _ [b0, b] ?_ (fun _ _ _ q => q) ?_ h.sbase ?_ ⟨⟨[.pointer (some ⟨b0, 0, none⟩)], ?_, by simp [hne0], by rw [k3]; rfl⟩, _, c1⟩ (.inl ⟨_, c1⟩) (Nat.le_refl _) (Nat.lt_succ_self _) ?_ ?_ (by simp) (by simp) (by simp) (by simp)⟩
    ·exact h.below.trans ⟨rfl, rfl, rfl, Nat.le_refl _, by simp [World.putObj], fun k hk => hoth k _ (by rintro rfl; exact hk hbM)⟩
    ·intro b' o' v' hs
     have := h.still b' o' v' hs
     unfold yj at this ⊢
     rw [hoth b' _ (by rintro rfl; rw [g2] at hs; cases hs)]
     exact this
    ·intro t' k' ht' hk'
     exact ⟨hoth k' _ (by rintro rfl; exact ht' (h.disj t' r _ hk' (by rw [hF]; simp))), (h.free t' k' hk').2.1⟩
    ·simp only [zH]
     exact ⟨b0, bty, [.map (some b)], [b], rfl, (hoth b0 _ hne0).trans m1, ⟨_, rfl, b, ents', cl', rfl, rfl, World.putObj_heap_same hlt, g2, he'⟩, rfl, m2⟩
    ·intro t' k' ht' hk' hk2
     exact ht' (h.disj t' r _ hk2 (by rw [hF]; exact hk'))
    ·intro k' hk'
     exact h.base r k' (by rw [hF]; exact hk')
   have run : (Instr.mapUpdate t (.map (some b)) kv (a.eval v)).run P w = (do
     match VV kv ents.toList 0 with
     | some (i, _) => do
      let key ← Instr.keyThatStays (((ents[i]?).map (·.key)).getD kv) kv
      setObj b (.map (ents.modify i fun e => { e with key, val := a.eval v }) cl)
     | none => setObj b (.map (ents.push { key := kv, val := a.eval v, born := cl }) (cl + 1)) : Sem Unit).run P w := by
    unfold Instr.mapUpdate
    rw [Sem.run_bind, run_underlying mt.und, Result.andThen_ok]
    simp only [Sem.run_bind, hget, Result.andThen_ok, hck, hf]
    cases VV kv ents.toList 0 <;> rfl
   simp only [zl]
   have good : ∀ w', (Instr.mapUpdate t (.map (some b)) kv (a.eval v)).run P w = .ok () w' → ∀ es' Fp', Sim C S Fp' [] (upd st r ⟨.own (.box (.opq (W2 es'))), (st r).er, (st r).ec + 1⟩) a w' → qE P C o a w (upd st r ⟨.own (.box (.opq (W2 es'))), (st r).er, (st r).ec + 1⟩) := by
    intro w' hw es' Fp' hs
    refine Ks (w' := w') ?_ hd hs
    rcases ho with ho | ho <;> simp [execOp, ho, hev, hkd, hw]
   rcases JC hkv (i := 0) g3 with ⟨q1, q2⟩ | ⟨j, y, v', q1, q2, q3, q4, q5, q6⟩
   ·have he' : V8 S (z3P es vk vv) (ents.push { key := kv, val := a.eval v, born := cl }).toList := by
     simp only [z3P, q1, Array.toList_push]
     exact JF g3 ⟨⟨hkv, hvd⟩, trivial⟩
    obtain ⟨Fp', hs⟩ := fin _ (cl + 1) _ he'
    exact good _ (by rw [run, q2]; exact hset _) _ _ hs
   ·have hkey : (ents[j]?).map (·.key) = some kv := by
     simp only [Nat.sub_zero] at q6
     rw [← Array.getElem?_toList]; exact q6
    have he' : V8 S (z3P es vk vv) (ents.modify j fun e => { e with key := kv, val := a.eval v }).toList := by
     simp only [z3P, q1]
     rw [Array.toList_modify]
     exact z0T g3 fun _ _ => ⟨hkv, hvd⟩
    obtain ⟨Fp', hs⟩ := fin _ cl _ he'
    refine good _ ?_ _ _ hs
    rw [run, q2]
    simp only [hkey, Option.getD_some, Instr.keyThatStays, mt.bits vk kv c3 hkv, if_true, Sem.run_bind, Sem.run_pure, Result.andThen_ok, hset]
  ·exact (w7 e6).elim
 ·exact (w7 e1).elim
end
def zaV (es es' : List (A × A)) (ok : A → Bool) (x k v : Operand) : HM Unit := yk (opnd x) >>= fun tx =>
 match tx with
 | .als r [.deref] er ec => yk (rdE r) >>= fun e => yk (opnd k) >>= fun tk => Q0 tk >>= fun vk => yk (opnd v) >>= fun tv => Q0 tv >>= fun vv =>
  Zq (e.t = .own (.box (.opq (W2 es))) ∧ (e.er = er ∧ e.ec = ec) ∧ ok vk = true ∧ vv.isD = true ∧ ∀ p ∈ es, ok p.1 = true) (Zq (z3P es vk vv = es') (yk (wrE r ⟨.own (.box (.opq (W2 es'))), e.er, e.ec + 1⟩)))
 | _ => zF
open Classical in
theorem z9L (es es' : List (A × A)) (ok : A → Bool) (x k v : Operand) : Snd (updBO es ok x k v) (zaV es es' ok x k v) := by
 refine zk (zo _) fun tx => ?_
 cases tx with
 | als r p er ec =>
  match p with
  | [.deref] =>
   refine zk (zo _) fun e => zk (zo _) fun tk => zk (Za _) fun vk => zk (zo _) fun tv => zk (Za _) fun vv => ue ?_
   exact Qg fun hq => by rw [hq]; exact zo _
  | [] => exact zp _
  | .fld _ :: _ => exact zp _
  | .idx _ :: _ => exact zp _
  | .deref :: _ :: _ => exact zp _
 | _ => exact zp _
open Classical in
theorem Loc.updBO (es : List (A × A)) (ok : A → Bool) (x k v : Operand) : Loc (updBO es ok x k v) := by
 refine Loc.bind (Loc.opnd _) fun tx => ?_
 split
 ·exact Loc.bind (Loc.rdE _) fun _ => Loc.bind (Loc.opnd _) fun _ => Loc.bind (Loc.val _) fun _ => Loc.bind (Loc.opnd _) fun _ => Loc.bind (Loc.val _) fun _ => Loc.ite (Loc.wrE _ _) Loc.fail
 ·exact Loc.fail
def zag (q t : Nat) (o : Oper) : Option (Operand × Operand) :=
 match o.op with
 | .mapUpdate t' (.tmp x) k v => if x = q ∧ t' = t ∧ o.dst = none then some (k, v) else none
 | .insert t' (.tmp x) k v => if x = q ∧ t' = t ∧ o.dst = none then some (k, v) else none
 | _ => none
theorem z4C {q t : Nat}  {b : Operand × Operand} (h : zag q t o = some b) : (o.op = .mapUpdate t (.tmp q) b.1 b.2 ∨ o.op = .insert t (.tmp q) b.1 b.2) ∧ o.dst = none := by
 unfold zag at h
 split at h
 ·rename_i ho
  split at h
  ·rename_i hc; obtain ⟨rfl, rfl, hd⟩ := hc; cases h; exact ⟨.inl ho, hd⟩
  ·cases h
 ·rename_i ho
  split at h
  ·rename_i hc; obtain ⟨rfl, rfl, hd⟩ := hc; cases h; exact ⟨.inr ho, hd⟩
  ·cases h
 ·cases h
def zcu {t kt et : Nat} {ok : A → Bool} {z : A} (mt : z8A P t kt et ok z) (q : Nat) (es es' : List (A × A)) : XH P :=
 xAt P (zag q t) (fun n o b => updBO es ok (.tmp q) b.1 b.2) (fun n o b => zaV es es' ok (.tmp q) b.1 b.2)
  (by
   intro C S Fp st a w o b hp h u R U e
   obtain ⟨ho, hd⟩ := z4C hp
   exact z6W mt h ho hd e)
  (fun n o b => Loc.updBO _ _ _ _ _) (fun n o b => z9L _ _ _ _ _ _)
abbrev z27 (b : Nat) : Value := .pointer (some ⟨b, 0, none⟩)
theorem z6x {c x y : Code}    (e : c = .seq x y) (k : Nat) (E : St → Prop) (hk : ∃ z, (st k).t = .own (.box z)) (h : ∀ b, AWP P ⟨n.size, (k, z27 b) :: n.pin⟩ x st (Qf P ⟨n.size, (k, z27 b) :: n.pin⟩ [] (fun e st1 => e = .normal ∧ E st1))) (h2 : ∀ st1, E st1 → AWP P n y st1 (Qf P n fs Q)) : AWP P n c st (Qf P n fs Q) := by
 refine z6w e E ?_ h2
 show AWP P n x st _
 intro rd m df w0 S0 M S Fp a w hc hs
 obtain ⟨z, hz⟩ := hk
 have hq := hs.ent k
 unfold xV at hq
 simp only [hz, zH] at hq
 obtain ⟨cs, ⟨b, ty, l, F', rfl, _⟩, _, k3⟩ := hq
 have hv : Act.tv a k = z27 b := k3
 have hs2 := hs.pinned k
 rw [hv] at hs2
 refine wpIn_mono (h b rd m df w0 S0 M S Fp a w ⟨hc.nodup, hc.df, hc.rd⟩ hs2) ?_
 rintro e a' w' ⟨df', st1, S1, Fp1, h1, h2, h3⟩
 exact ⟨df', st1, S1, Fp1, h1.unpinned, h2, h3⟩
def zd3 (tt : TT) (t i : Nat) : Option Nat :=
 match tt t with
 | some ⟨.struct offs, _, _, _, _⟩ => match offs[i]? with | some (off, sz) => if sz ≠ 0 then some off else none | none => none
 | _ => none
section
variable {C : Ctx} {S : zn} {Fp : Nat → List Nat} {st : St} {a : Act} {w : World}
open Classical in
def faO (tt : TT) (n : Fr) (dst : Option Nat) (t i r b : Nat) : SM Unit :=
 if WO n.pin r = some (z27 b) then (ofO (zd3 tt t i) >>= fun off => wrT n dst (.d (.atom (.pointer (some ⟨b, off, none⟩))))) else zt
def faH (tt : TT) (n : Fr) (dst : Option Nat) (t i r b : Nat) : HM Unit := Zq (WO n.pin r = some (z27 b)) (yk (ofO (zd3 tt t i) >>= fun off => wrT n dst (.d (.atom (.pointer (some ⟨b, off, none⟩))))))
open Classical in
theorem zeJ (tt : TT) (n : Fr) (dst : Option Nat) (t i r b : Nat) : Snd (faO tt n dst t i r b) (faH tt n dst t i r b) := ue (zo _)
open Classical in
theorem Loc.faO (tt : TT) (n : Fr) (dst : Option Nat) (t i r b : Nat) : Loc (faO tt n dst t i r b) := by
 unfold Go.Own.faO
 exact Loc.ite (Loc.bind (Loc.ofO _) fun _ => Loc.wrT _ _ _) Loc.fail
theorem zd2 (hT : wG P tt) (h : Sim C S Fp [] st a w)  {t i r b : Nat} (ho : o.op = .fieldAddr t (.tmp r) i)    (e : faO tt C.n o.dst t i r b st = some (u, R, U)) : qE P C o a w (zl U st) := by
 unfold faO at e
 split at e
 ·rename_i hp
  obtain ⟨off, R1, U1, R2, U2, h1, e1, rfl, rfl⟩ := bind_some e
  obtain ⟨hoff, rfl, rfl⟩ := W1 h1
  simp only [zl, List.nil_append] at e1 ⊢
  have hs : a.eval (.tmp r) = z27 b := h.pin r _ (vL hp)
  obtain ⟨Fp', hs'⟩ := wJ h e1 (x := .d (.atom (.pointer (some ⟨b, off, none⟩)))) (v := .pointer (some ⟨b, off, none⟩)) (zw.2 ⟨rfl, rfl⟩)
  refine zr ?_ hs'
  obtain ⟨offs, sz, a1, a2, a3, a4, hty, hof, hsz0⟩ : ∃ offs sz a1 a2 a3 a4, tt t = some ⟨.struct offs, a1, a2, a3, a4⟩ ∧ offs[i]? = some (off, sz) ∧ sz ≠ 0 := by
   unfold zd3 at hoff
   split at hoff
   ·rename_i offs _ _ _ _ hty
    split at hoff
    ·rename_i off' sz hof
     split at hoff
     ·rename_i hne; cases hoff; exact ⟨offs, sz, _, _, _, _, hty, hof, hne⟩
     ·cases hoff
    ·cases hoff
   ·cases hoff
  obtain ⟨fields, g1, g2, g3⟩ := (hT _ _ hty).kind
  rw [← g2, List.getElem?_map] at hof
  cases hfi : fields.toList[i]? with
  | none => simp [hfi] at hof
  | some f =>
   simp only [hfi, Option.map_some, Option.some.injEq, Prod.mk.injEq] at hof
   obtain ⟨rfl, rfl⟩ := hof
   obtain ⟨inf, hinf⟩ := g3 f (List.mem_of_getElem? hfi)
   have hfi' : fields[i]? = some f := by simpa using hfi
   have hsz : inf.size ≠ 0 := by simpa [Program.cellsOf, hinf] using hsz0
   simp [execOp, ho, hs, Instr.fieldAt, run_underlying g1, hfi', Instr.sureAddr, fieldPlace, Go.sizeOf, typeInfo, hinf, hsz, Addr.add_lit]
 ·exact (w7 e).elim
open Classical in
def iaK (tt : TT) (n : Fr) (dst : Option Nat) (t r i b : Nat) (tx : T) (vi : A) (e : Ent) : SM Unit :=
 match e.t with
 | .own (.box (.agg fs)) => if tx = .d (.atom (.pointer (some ⟨b, A.sizes (fs.take i), none⟩))) ∧ WO n.pin r = some (z27 b) then (if i < fs.length then indexArrA tt n dst t (.ptr r [.deref, .fld i] e.er e.ec) vi else zt) else zt
 | _ => zt
def iaO (tt : TT) (n : Fr) (dst : Option Nat) (t r i b : Nat) (x y : Operand) : SM Unit := do
 let tx ← opnd x
 let ty ← opnd y
 let vi ← val ty
 let e ← rdE r
 iaK tt n dst t r i b tx vi e
def iaH (tt : TT) (n : Fr) (dst : Option Nat) (t r i b : Nat) (x y : Operand) : HM Unit := yk (opnd x) >>= fun tx => yk (opnd y) >>= fun ty => Q0 ty >>= fun vi => yk (rdE r) >>= fun e =>
 match e.t with
 | .own (.box (.agg fs)) => Zq (tx = .d (.atom (.pointer (some ⟨b, A.sizes (fs.take i), none⟩))) ∧ WO n.pin r = some (z27 b)) (if i < fs.length then Qp tt n dst t (.ptr r [.deref, .fld i] e.er e.ec) vi else zF)
 | _ => zF
open Classical in
theorem zeI (tt : TT) (n : Fr) (dst : Option Nat) (t r i b : Nat) (x y : Operand) : Snd (iaO tt n dst t r i b x y) (iaH tt n dst t r i b x y) := by
 refine zk (zo _) fun tx => zk (zo _) fun ty => zk (Za _) fun vi => zk (zo _) fun e => ?_
 unfold iaK
 cases e.t with
 | own q =>
  cases q with
  | box z =>
   cases z with
   | agg fs => exact ue (vE (JV _ _ _ _ _ _) (zp _))
   | _ => exact zp _
  | _ => exact zp _
 | _ => exact zp _
open Classical in
theorem Loc.iaO (tt : TT) (n : Fr) (dst : Option Nat) (t r i b : Nat) (x y : Operand) : Loc (iaO tt n dst t r i b x y) := by
 unfold Go.Own.iaO
 refine Loc.bind (Loc.opnd _) fun _ => Loc.bind (Loc.opnd _) fun _ => Loc.bind (Loc.val _) fun _ => Loc.bind (Loc.rdE _) fun _ => ?_
 unfold Go.Own.iaK
 split
 ·exact Loc.ite (Loc.ite (Loc.indexArrA _ _ _ _ _ _) Loc.fail) Loc.fail
 ·exact Loc.fail
theorem zcW (hT : wG P tt) (h : Sim C S Fp [] st a w)  {t r i b : Nat} {x y : Operand} (ho : o.op = .indexAddr t x y)    (e0 : iaO tt C.n o.dst t r i b x y st = some (u, R, U)) : qE P C o a w (zl U st) := by
 unfold iaO at e0
 obtain ⟨tx, R1, U1, R2, U2, h1, e1, rfl, rfl⟩ := bind_some e0
 obtain ⟨rfl, hx⟩ := zD h h1
 obtain ⟨ty, R3, U3, R4, U4, h3, e2, rfl, rfl⟩ := bind_some e1
 obtain ⟨rfl, hy⟩ := zD h h3
 obtain ⟨vi, R5, U5, R6, U6, h5, e3, rfl, rfl⟩ := bind_some e2
 obtain ⟨rfl, qi⟩ := vO h hy h5
 obtain ⟨en, R7, U7, R8, U8, h7, e4, rfl, rfl⟩ := bind_some e3
 obtain ⟨rfl, rfl, rfl⟩ := qJ h7
 simp only [zl, List.nil_append] at e4 ⊢
 unfold iaK at e4
 cases ht : (st r).t with
 | own y0 =>
  cases y0 with
  | box z0 =>
   cases z0 with
   | agg fs =>
    simp only [ht] at e4
    split at e4
    ·rename_i hc
     obtain ⟨rfl, c2⟩ := hc
     split at e4
     ·rename_i hi
      have hs : Act.tv a r = z27 b := h.pin r _ (vL c2)
      obtain ⟨z, hz⟩ : ∃ z, fs[i]? = some z := ⟨_, List.getElem?_eq_getElem hi⟩
      refine Kn hT h ho (y := .ptr r [.deref, .fld i] (st r).er (st r).ec) ⟨Nat.le_refl _, Nat.le_refl _, ?_⟩ qi e4
      simp only [ht]
      rw [(zw.1 hx).1, hs]
      refine fun _ _ => ⟨rfl, z, b, A.sizes (fs.take i), ?_, ?_, rfl⟩
      ·simp [wF, hz]
      ·simp [wu, Qo, hz]
     ·exact (w7 e4).elim
    ·exact (w7 e4).elim
   | _ => simp only [ht] at e4; exact (w7 e4).elim
  | _ => simp only [ht] at e4; exact (w7 e4).elim
 | _ => simp only [ht] at e4; exact (w7 e4).elim
end
def ze5 (d r i : Nat) (o : Oper) : Option Nat := match o.op with | .fieldAddr t (.tmp r') i' => if o.dst = some d then (if r' = r ∧ i' = i then some t else none) else none | _ => none
def xFa (hT : wG P tt) (d r i b : Nat) : XH P :=
 xAt P (ze5 d r i) (fun n o t => faO tt n o.dst t i r b) (fun n o t => faH tt n o.dst t i r b)
  (by
   intro C S Fp st a w o t hp h u R U e
   unfold ze5 at hp
   split at hp
   ·rename_i ho
    replace hp := z4e hp
    split at hp
    ·rename_i hc; obtain ⟨rfl, rfl⟩ := hc; cases hp; exact zd2 hT h ho e
    ·cases hp
   ·cases hp)
  (fun n o b => Loc.faO _ _ _ _ _ _ _) (fun n o b => zeJ _ _ _ _ _ _ _)
def xIa (hT : wG P tt) (d r i b : Nat) : XH P :=
 xAt P (zcl d) (fun n o q => iaO tt n o.dst q.1 r i b q.2.1 q.2.2) (fun n o q => iaH tt n o.dst q.1 r i b q.2.1 q.2.2)
  (by
   intro C S Fp st a w o q hp h u R U e
   unfold zcl at hp
   split at hp
   ·rename_i ho; cases z4e hp; exact zcW hT h ho e
   ·cases hp)
  (fun n o b => Loc.iaO _ _ _ _ _ _ _ _ _) (fun n o b => zeI _ _ _ _ _ _ _ _ _)
class z4O {α : Type} (f : α → A) : Prop where
 ind : ∀ x, (f x).indep = true
instance {k : IntKind} : z4O (eI k) := ⟨fun _ => rfl⟩
theorem z60 {l : List A} (h : ∀ x ∈ l, x.indep = true) : A.indeps l = true := by
 induction l with
 | nil => rfl
 | cons x l ih => simp [A.indeps, h x (by simp), ih fun y hy => h y (by simp [hy]), Bool.and_self]
instance {α : Type} {sz : Nat} {t : Bool} {f : α → A} [h : z4O f] : z4O (eOs sz t f) := ⟨fun l => z60 fun x hx => by obtain ⟨y, _, rfl⟩ := List.mem_map.1 hx; exact h.ind y⟩
theorem Has.indep {S S' : zn}  {a : A}  {F : List Nat} (hi : a.indep = true) (q : Has S h a v F) (hF : ∀ k ∈ F, ∀ o, S' k o = none) : Has S' h a v F := by
 rcases q with ⟨q, e⟩ | ⟨cs, q1, q2, q3⟩
 ·exact .inl ⟨q.indep hi, e⟩
 ·exact .inr ⟨cs, q1.indep hi hF, q2, q3⟩
inductive Wk : A → Option A → Prop where
 | keep {a : A} : a.indep = true → Wk a (some a)
 | drop {a : A} : Wk a none
theorem wkN {f : α → A} [h : z4O f] (x : α) : Wk (f x) (some (f x)) := .keep (h.ind x)
inductive Wks : List A → List (Option A) → Prop where
 | nil : Wks [] []
 | cons {a : A} {b : Option A} {as_ : List A} {bs : List (Option A)} : Wk a b → Wks as_ bs → Wks (a :: as_) (b :: bs)
theorem Wks.tup {S S' : zn}  : ∀ {as_ : List A} {bs : List (Option A)}, Wks as_ bs → ∀ {vs : List Value} {F : List Nat}, Yo S h (as_.map some) vs F → (∀ k ∈ F, ∀ o, S' k o = none) → ∃ F', Yo S' h bs vs F' ∧ (∀ k ∈ F', k ∈ F) ∧ (F.Nodup → F'.Nodup)
 | _, _, .nil, vs, F, q, hF => by
  cases vs with
  | nil => exact ⟨F, q, fun _ hk => hk, id⟩
  | cons v vs => exact q.elim
 | _, _, .cons (a := a) (as_ := as_) hw hs, vs, F, q, hF => by
  cases vs with
  | nil => exact q.elim
  | cons v vs =>
   obtain ⟨F1, F2, rfl, q1, q2⟩ := q
   have ⟨F3, g1, g2, g3⟩ := hs.tup q2 (fun k hk => hF k (by simp [hk]))
   cases hw with
   | keep hi =>
    refine ⟨F3 ++ F1, ⟨F1, F3, rfl, q1.indep hi (fun k hk => hF k (by simp [hk])), g1⟩, fun k hk => ?_, fun hn => ?_⟩
    ·rcases List.mem_append.1 hk with hk | hk
     ·exact List.mem_append.2 (.inl (g2 k hk))
     ·exact List.mem_append.2 (.inr hk)
    ·rw [List.nodup_append] at hn ⊢
     exact ⟨g3 hn.1, hn.2.1, fun k hk k' hk' => hn.2.2 k (g2 k hk) k' hk'⟩
   | drop => exact ⟨F3, g1, fun k hk => List.mem_append.2 (.inl (g2 k hk)), fun hn => g3 (List.nodup_append.1 hn).1⟩
def z8y (r0 r : A) : Prop := ∀ (S S' : zn) (h : Array Obj) (v : Value) (F : List Nat), Has S h r0 v F → F.Nodup → (∀ k ∈ F, ∀ o, S' k o = none) → ∃ F', Has S' h r v F' ∧ F'.Nodup ∧ ∀ k ∈ F', k ∈ F
theorem zaU {bs : List (Option A)} (hs : Wks ls bs) : z8y (.opq (Zm (ls.map some))) (.opq (Zm bs)) := by
 intro S S' h v F q hn hF
 rcases q with ⟨q, _⟩ | ⟨cs, q1, q2, q3⟩
 ·simp only [we, u6, Rep, false_and, exists_false] at q
 ·simp only [zH] at q1
  obtain ⟨v0, rfl, vs, rfl, g1⟩ := q1
  have ⟨F', g2, g3, g4⟩ := hs.tup g1 hF
  refine ⟨F', .inr ⟨[.tuple vs.toArray], ?_, g4 hn, q3⟩, g4 hn, g3⟩
  simp only [zH]
  exact ⟨_, rfl, vs, rfl, g2⟩
open Classical in
def z7f (f : A) (xs : List A) (r : A) : List A → Option A := fun l => if ∃ xs', l = f :: xs' ∧ ∀ S vs, ZW (u6 S) xs' vs → ZW (u6 S) xs vs then some r else none
variable {f : A}{xs : List A}
theorem z9J {r : A} (xs' : List A) (h : KO xs' xs) : z7f f xs r (f :: xs') = some r := by
 unfold z7f
 rw [if_pos ⟨xs', rfl, h.all⟩]
def borQ (tt : TT) (tab : List A → Option A) (n : Fr) (dst : Option Nat) (as_ : List (Operand × Nat)) : SM Unit := do
 let xs ← ghost (shutArgs tt as_)
 match tab xs with
 | some r => wrT n dst (mkT r)
 | none => zt
variable {r0 r : A}{xs0 : List A}
section
variable {C : Ctx} {S : zn} {Fp : Nat → List Nat} {X : List Nat} {st : St} {a : Act} {w : World}
theorem zaw {tt : TT}    (hL : qQ P f xs0 [] r0 []) (hW : z8y r0 r) (h : Sim C S Fp [] st a w) {op : Oper} {fo : Operand} {args : Array Operand} {tys : Array TypeId}
  (ho : op.op = .call { callee := .value fo, args := args, argTypes := tys }) (hsz : args.size = tys.size) {u : Unit} {R : List Nat} {U : List (Nat × Ent)}
  (e : borQ tt (z7f f xs0 r) C.n op.dst ((fo, 0) :: args.toList.zip tys.toList) st = some (u, R, U)) : qE P C op a w (zl U st) := by
 unfold borQ at e
 obtain ⟨xs, R1, U1, R2, U2, e1, e2, rfl, rfl⟩ := bind_some e
 have hmapargs : (args.toList.zip tys.toList).map (fun p => a.eval p.1) = (args.map a.eval).toList := by
  have : (args.toList.zip tys.toList).map (fun p => a.eval p.1) = ((args.toList.zip tys.toList).map (·.1)).map a.eval := by rw [List.map_map]; rfl
  rw [this, List.map_fst_zip (by simp [hsz])]
  simp
 unfold ghost at e1
 cases hs : shutArgs tt ((fo, 0) :: args.toList.zip tys.toList) st with
 | none => simp [hs] at e1
 | some q =>
  have ⟨ys, R3, U3⟩ := q
  simp only [hs, Option.some.injEq, Prod.mk.injEq] at e1
  obtain ⟨rfl, rfl, rfl⟩ := e1
  have ⟨S1, Fp1, g1, g2, _, g3⟩ := wS h hs
  simp only [zl, List.nil_append, List.map_cons, hmapargs] at e2 g3 ⊢
  cases ht : z7f f xs0 r ys with
  | none => simp only [ht] at e2; cases e2
  | some r' =>
   simp only [ht] at e2
   unfold z7f at ht
   split at ht
   ·rename_i hc
    obtain ⟨xs', rfl, hle⟩ := hc
    cases ht
    have hact := hL S1 w (a.eval fo) _ [] g1.still g3.1 (hle _ _ g3.2) (show YO S1 w.heap ([] : List A) ([] : List Value) [] from rfl) List.nodup_nil
    intro rd m K Q hK
    refine z96 ho hact rd m K Q ?_
    rintro v w' ⟨S', F', G, b1, b2, b3, b4, b5, b6, b7, b8⟩
    have hG : G = [] := b6
    subst hG
    simp only [List.nil_append] at b7 b8
    have hnew : ∀ k ∈ F', w.heap.size ≤ k := fun k hk => (b8 k hk).elim id (fun q => by simp at q)
    let S3 : zn := fun b o => if b < w.heap.size then S b o else S' b o
    have hlt : ∀ b o u, S b o = some u → b < w.heap.size := fun b o u q => by
     have := h.still b o u q
     unfold yj at this
     cases hb : w.heap[b]? with
     | none => rw [hb] at this; cases this
     | some _ => exact (Array.getElem?_eq_some_iff.1 hb).1
    have hS3 : ∀ b o u, S b o = some u → S3 b o = some u := fun b o u q => by
     show (if b < w.heap.size then S b o else S' b o) = some u
     rw [if_pos (hlt b o u q)]; exact q
    have ⟨F2, k1, k2, k3⟩ := hW S' S3 w'.heap v F' b5 b7 (fun k hk o => by
     show (if k < w.heap.size then S k o else S' k o) = none
     rw [if_neg (by have := hnew k hk; omega)]
     exact (b5.own k hk).2 o)
    have hs3 : Sim C S3 Fp (F2 ++ []) st a w' := by
     rw [List.append_nil]
     refine h.mem (h.below.trans (b1.mono fun k hk => ?_)) hS3 ?_ ?_ ?_ k2 ?_ ?_
     ·rcases hk with hk | hk
      ·exact h.mine k (Nat.le_trans h.base_le hk)
      ·simp at hk
     ·intro b o u q
      have q' : (if b < w.heap.size then S b o else S' b o) = some u := q
      split at q'
      ·exact b4 b o u (b2 b o u (g2 b o u q'))
      ·exact b4 b o u q'
     ·intro b o hb
      show (if b < w.heap.size then S b o else S' b o) = _
      have : b < w.heap.size := by
       rcases Nat.lt_or_ge b w.heap.size with q | q
       ·exact q
       ·exact (hb (h.mine b (Nat.le_trans h.base_le q))).elim
      rw [if_pos this]
      exact h.sbase b o hb
     ·intro t k hk
      have hf := h.free t k hk
      refine ⟨b1.block k (by rintro (q | q) <;> first | (have := hf.1; omega) | simp at q), fun o => ?_⟩
      show (if k < w.heap.size then S k o else S' k o) = none
      rw [if_pos hf.1]
      exact hf.2.1 o
     ·intro t k hk hkt
      have := hnew k (k3 k hk)
      have := (h.free t k hkt).1
      omega
     ·exact fun k hk => h.mine k (Nat.le_trans h.base_le (hnew k (k3 k hk)))
    have ⟨Fp5, m2⟩ := z0a (X := []) hs3 e2 k1
    exact hK _ _ _ _ m2
   ·cases ht
end
theorem Loc.borQ (tt : TT) (tab : List A → Option A) (n : Fr) (dst : Option Nat) (as_ : List (Operand × Nat)) : Loc (borQ tt tab n dst as_) := by
 unfold Go.Own.borQ
 refine Loc.bind (Loc.shutArgs tt as_).ghost fun xs => ?_
 split
 ·exact Loc.wrT _ _ _
 ·exact Loc.fail
def zdc (tt : TT) (tab : List A → Option A) (r : A) (n : Fr) (dst : Option Nat) (as_ : List (Operand × Nat)) : HM Unit :=
 z49 (uD tt as_) >>= fun xs => z8R (tab xs = some r) >>= fun _ => yk (wrT n dst (mkT r))
theorem zcM (tt : TT) (tab : List A → Option A) (r : A) (n : Fr) (dst : Option Nat) (as_ : List (Operand × Nat)) : Snd (borQ tt tab n dst as_) (zdc tt tab r n dst as_) := by
 unfold borQ zdc
 refine zk (z5a (qI _ _)) fun xs => Qg fun h => ?_
 simp [h]
 exact zo _
def z0w (tt : TT) (tab : List A → Option A) (d : Nat) (n : Fr) (o : Oper) : Option (SM Unit) :=
 match o.op with
 | .call ⟨.value f, args, tys⟩ => if o.dst = some d ∧ args.size = tys.size then some (borQ tt tab n o.dst ((f, 0) :: args.toList.zip tys.toList)) else none
 | _ => none
theorem z6g (hL : qQ P f xs0 [] r0 []) (hW : z8y r0 r) (d : Nat) : KQ P (z0w tt (z7f f xs0 r) d) := by
 refine ⟨?_, ?_⟩
 ·intro C S Fp st a w o m u R U e h h2
  unfold z0w at e
  split at e
  ·rename_i ho
   split at e
   ·rename_i hc
    cases e
    exact zaw hL hW h ho hc.2 h2
   ·cases e
  ·cases e
 ·intro n o m e
  unfold z0w at e
  split at e
  ·split at e
   ·cases e
    exact fun st st' a R U => Loc.borQ _ _ _ _ _ st st' a R U
   ·cases e
  ·cases e
def zex (tt : TT)    (hL : qQ P f xs [] r0 []) (hW : z8y r0 r) (dd : Nat) : XH P := {
 e := z0w tt (z7f f xs r) dd
 h := fun n o => match o.op with
  | .call ⟨.value g, args, tys⟩ => if o.dst = some dd ∧ args.size = tys.size then some (zdc tt (z7f f xs r) r n o.dst ((g, 0) :: args.toList.zip tys.toList)) else none
  | _ => none
 ok := z6g hL hW dd
 none := by
  intro n o e
  unfold z0w at e
  split at e
  ·rename_i ho
   split at e
   ·cases e
   ·rename_i hd; simp [if_neg hd]
  ·rfl
 some := by
  intro n o m e
  unfold z0w at e
  split at e
  ·rename_i ho
   split at e
   ·rename_i hd; cases e
    exact ⟨_, if_pos hd, zcM tt (z7f f xs r) r n o.dst _⟩
   ·cases e
  ·cases e }
end Go.Own
end
