/- -/
import Derived.Test.YthnpknbgpmlbhaaGreatPartG
import Derived.Test.YthnpknbgpmlbhaaGreatPartB
import Derived.Test.YthnpknbgpmlbhaaGreatPartC
import Derived.WalkKit
import Derived.ProofKit
import Derived.OpenShut
import Derived.Carry
import Derived.Test.YthnpknbgpmlbhaaGreatRows
import Derived.Test.YthnpknbgpmlbhaaGreatChecked
set_option linter.unusedVariables false
set_option linter.unusedSimpArgs false
namespace Go.Own
section
open Go Go.ChangeShapes Go.WideShapes Go.ChangeAt Go.RowKit
theorem z5d {P : Program} {H : Type} {enc : TypeId × Value → H} {f : Func} {s : ChangeSpec} {apart fresh handsOn again : Bool} {W W' : World} {args : Array Value} {v : Value} {ds : List (DataW H)} {pa : List MemPlace}
  (hvar : s.vars = []) (hvars2 : (s.fn H (ds ++ [])).vars = []) (hW : DataW.Whole enc P f.params.toList s.vars apart W args.toList ds [] (pa ++ [])) (hb : Below W.heap.size W W')
  (hres : ∀ (b : Nat) (sp : Nat → Bool) (hd : Bool), DataW.TrodAll enc P W' b sp hd f.resultTypes.toList (v.resultList f.resultTypes.size) (s.fn H (ds ++ [])).results [])
  (hargs : ∀ sp : Nat → Bool, (∀ p ∈ pa ++ [], sp p.block = true) → DataW.TrodAll enc P W' 0 sp true f.params.toList args.toList (s.fn H (ds ++ [])).args pa)
  (hok : ∀ (j : Nat) (t : TypeId) (r : Value), f.resultTypes[j]? = some t → (v.resultList f.resultTypes.size)[j]? = some r → Value.okWide P W' .any 0 t r) :
  s.post enc P f apart fresh handsOn again W args v W' := by
 have hlt : ∀ p ∈ pa ++ [], p.block < W.heap.size := fun p hp => by simpa using hW.lt p hp
 have hvr : ∀ sp : Nat → Bool, DataW.TrodVars enc P W' sp s.vars (s.fn H (ds ++ [])).vars [] := fun sp => by rw [hvar, hvars2]; rfl
 refine ⟨ds, [], pa ++ [], [], pa, [], hW, hres _ _ _, hargs _ (fun p hp => by simpa using hlt p hp), hvr _, World.keptBut_mono (fun _ q => q.elim) (hb.frame fun _ => False), fun _ => ?_⟩
 obtain ⟨_, _, _, _, _, hz, hn⟩ := hW
 refine ⟨hok, _, _, ([] ++ pa) ++ [], ⟨[] ++ pa, [], trodAll_append (hargs _ (fun _ _ => rfl)) (hres _ _ _), hvr _, rfl, ?_, ?_⟩, ?_⟩
 ·intro b off hp
  have hp' : MemPlace.cell b off ∈ pa ++ [] := by simpa using hp
  rw [hb.frozen (p := ⟨b, off, none⟩) (hlt _ hp')]
  exact hz b off hp'
 ·intro ha
  simpa using hn ha
 ·intro p hp _
  simpa using hp
end
theorem z79 {P : Program} {k : Nat} {α ρ : Type} {enc : α → List A} {encR : ρ → A} {F : α → Option ρ} {gives : List Bool} {inj : ∀ x y, enc x = enc y → x = y} (h : (spF k enc encR F gives inj).Ok P) {x : α} {r : ρ} (hr : F x = some r) : Yt P k (enc x) (encR r) := by
 have := h x ⟨r, hr⟩
 simpa only [spF, hr] using this
section
variable {P : Program} {w : World} {r : Reach} {base t : Nat} {v : Value}
theorem z11 (h : ∀ cs, v ≠ .agg cs) : v = v.cells.toList.headD undef := by
 cases v <;> first | rfl | exact (h _ rfl).elim
theorem z8H {k : IntKind} (hu : P.underlying t = some (.int k)) (h : Value.okWide P w r base t v) : v = v.cells.toList.headD undef := by
 refine z11 fun cs e => ?_
 subst e
 unfold Value.okWide at h
 rw [hu] at h
 simp only [Cell.okWide, hu, Cell.ok] at h
theorem z4y {e : TypeId} (hu : P.underlying t = some (.slice e)) (h : Value.okWide P w r base t v) : v = v.cells.toList.headD undef := by
 refine z11 fun cs e => ?_
 subst e
 unfold Value.okWide at h
 rw [hu] at h
 simp only [Cell.okWide, hu, Cell.ok] at h
theorem z43 {fs : Array Field} (hu : P.underlying t = some (.struct fs)) (h : Value.okWide P w r base t v) : v = .agg v.cells.toList.toArray := by
 unfold Value.okWide at h
 rw [hu] at h
 obtain ⟨cs, rfl, _⟩ := h
 rfl
theorem z7p {k : IntKind} {S : zg} {a : A} (hu : P.underlying t = some (.int k)) (hr : Rep S a v.cells.toList) (h : Value.okWide P w r base t v) (ha : a.isAgg = false) : v8 S a v := ⟨_, hr, by cases a <;> first | exact z8H hu h | cases ha⟩
theorem z4b {e : TypeId} {S : zg} {a : A} (hu : P.underlying t = some (.slice e)) (hr : Rep S a v.cells.toList) (h : Value.okWide P w r base t v) (ha : a.isAgg = false) : v8 S a v := ⟨_, hr, by cases a <;> first | exact z4y hu h | cases ha⟩
theorem z2p {fs : Array Field} {S : zg} {a : A} (hu : P.underlying t = some (.struct fs)) (hr : Rep S a v.cells.toList) (h : Value.okWide P w r base t v) (ha : a.isAgg = true) : v8 S a v := ⟨_, hr, by cases a <;> first | exact z43 hu h | cases ha⟩
theorem z7L {S : zg} {h : Array Obj} {v : Value} {F : List Nat} (q : Has S h (.atom (.bool true)) v F) : v = .bool true := by
 rcases q with ⟨q, _⟩ | ⟨cs, q, _, rfl⟩
 ·rw [(zq.1 q).1]
 ·simp only [zz, Rep] at q
  obtain ⟨⟨rfl, _⟩, _⟩ := q
  rfl
end
end Go.Own

namespace Go.Own
open Go.Proofs
section
variable {H : Type} {enc : TypeId × Value → H} {w : World} {base : Nat} {spare : Nat → Bool} {held : Bool}
theorem z6c : Tryz.prog.cellsOf 3 = 1 := by kernel_rfl
theorem rd3 {YO : Nat} {cs : List Value} {x : DataW H × List MemPlace} (h : DataW.trod enc Tryz.prog w base spare held YO 3 cs = some x) : ∃ a : Int, Ok3 a ∧ Rep (z0J w) ((eI .i64) a) cs := by
 obtain ⟨n, h1, _, h2⟩ := z9N Tryz.underlying3 (lo := -9223372036854775808) (hi := 9223372036854775807) rfl rfl h
 exact ⟨n, h1, h2⟩
theorem z6b : Tryz.prog.cellsOf 68 = 2 := by kernel_rfl
theorem zfQ {YO : Nat} {cs : List Value} {x : DataW H × List MemPlace} (h : DataW.trod enc Tryz.prog w base spare held YO 68 cs = some x) : ∃ a : zh, zeA a ∧ Rep (z0J w) ((yN (eI .i64) (eI .i64)) a) cs := by
 obtain ⟨hl, hf⟩ := WW Tryz.underlying68 h
 rw [z6b] at hl
 obtain ⟨_, _, q0⟩ := hf 0 _ rfl
 obtain ⟨_, _, q1⟩ := hf 1 _ rfl
 simp only [z6c] at q0 q1
 obtain ⟨a0, k0, r0⟩ := rd3 q0
 obtain ⟨a1, k1, r1⟩ := rd3 q1
 refine ⟨⟨a0, a1⟩, ⟨k0, k1⟩, ?_⟩
 show Rep (z0J w) (.agg [(eI .i64) a0, (eI .i64) a1]) cs
 simp only [Rep]
 refine Xt (n := 1) (by simpa [List.drop_drop] using r0) (Xt (n := 1) (by simpa [List.drop_drop] using r1) ?_)
 simp only [List.drop_drop, zZ]
 exact List.drop_eq_nil_of_le (by omega)
theorem za3 : Tryz.prog.cellsOf 65 = 1 := by kernel_rfl
theorem zfR {YO : Nat} {cs : List Value} {x : DataW H × List MemPlace} (h : DataW.trod enc Tryz.prog w base spare held YO 65 cs = some x) : ∃ a : List zh, zeB a ∧ Rep (z0J w) ((eSl 2 false (yN (eI .i64) (eI .i64))) a) cs := by
 exact WZ (yN (eI .i64) (eI .i64)) zeA Tryz.underlying65 z6b (by omega) (fun _ => rfl) (fun _ _ _ q => zfQ q) h
theorem za5 : Tryz.prog.cellsOf 25 = 1 := by kernel_rfl
theorem zfU {YO : Nat} {cs : List Value} {x : DataW H × List MemPlace} (h : DataW.trod enc Tryz.prog w base spare held YO 25 cs = some x) : ∃ a : List (List zh), zfu a ∧ Rep (z0J w) ((eSl 1 false (eSl 2 false (yN (eI .i64) (eI .i64)))) a) cs := by
 exact WZ (eSl 2 false (yN (eI .i64) (eI .i64))) zeB Tryz.underlying25 za3 (by omega) (fun _ => rfl) (fun _ _ _ q => zfR q) h
theorem za4 : Tryz.prog.cellsOf 27 = 3 := by kernel_rfl
theorem zfT {YO : Nat} {cs : List Value} {x : DataW H × List MemPlace} (h : DataW.trod enc Tryz.prog w base spare held YO 27 cs = some x) : ∃ a : z6, zft a ∧ Rep (z0J w) ((w7 (eI .i64) (eI .i64) (eSl 1 false (eSl 2 false (yN (eI .i64) (eI .i64))))) a) cs := by
 obtain ⟨hl, hf⟩ := WW Tryz.underlying27 h
 rw [za4] at hl
 obtain ⟨_, _, q0⟩ := hf 0 _ rfl
 obtain ⟨_, _, q1⟩ := hf 1 _ rfl
 obtain ⟨_, _, q2⟩ := hf 2 _ rfl
 simp only [za5, z6c] at q0 q1 q2
 obtain ⟨a0, k0, r0⟩ := rd3 q0
 obtain ⟨a1, k1, r1⟩ := rd3 q1
 obtain ⟨a2, k2, r2⟩ := zfU q2
 refine ⟨⟨a0, a1, a2⟩, ⟨k0, k1, k2⟩, ?_⟩
 show Rep (z0J w) (.agg [(eI .i64) a0, (eI .i64) a1, (eSl 1 false (eSl 2 false (yN (eI .i64) (eI .i64)))) a2]) cs
 simp only [Rep]
 refine Xt (n := 1) (by simpa [List.drop_drop] using r0) (Xt (n := 1) (by simpa [List.drop_drop] using r1) (Xt (n := 1) (by simpa [List.drop_drop] using r2) ?_))
 simp only [List.drop_drop, zZ]
 exact List.drop_eq_nil_of_le (by omega)
theorem za2 : Tryz.prog.cellsOf 77 = 1 := by kernel_rfl
theorem zfP {YO : Nat} {cs : List Value} {x : DataW H × List MemPlace} (h : DataW.trod enc Tryz.prog w base spare held YO 77 cs = some x) : ∃ a : List Int, zez a ∧ Rep (z0J w) ((eSl 1 false (eI .i64)) a) cs := by
 exact WZ (eI .i64) Ok3 Tryz.underlying77 z6c (by omega) (fun _ => rfl) (fun _ _ _ q => rd3 q) h
theorem zfS {YO : Nat} {cs : List Value} {x : DataW H × List MemPlace} (h : DataW.trod enc Tryz.prog w base spare held YO 29 cs = some x) : ∃ a : List (List Int), zfs a ∧ Rep (z0J w) ((eSl 1 false (eSl 1 false (eI .i64))) a) cs := by
 exact WZ (eSl 1 false (eI .i64)) zez Tryz.underlying29 za2 (by omega) (fun _ => rfl) (fun _ _ _ q => zfP q) h
end
end Go.Own
namespace Go.Proofs.YthnpknbgpmlbhaaGreat.coversAny
open Go Go.ChangeShapes Go.WideShapes Go.ChangeAt Go.RowKit
theorem own : ownKnob Tryz.prog.godebug = none := by kernel_rfl
theorem z9L : laidOutB Tryz.prog = true := by kernel_rfl
section
variable {H : Type} {enc : TypeId × Value → H} {W : World}
set_option maxRecDepth 100000 in
theorem zfC {base : Nat} {v0 : Value} {d0 : DataW H} {p0 : List MemPlace} {v1 : Value} {d1 : DataW H} {p1 : List MemPlace} {v2 : Value} {d2 : DataW H} {p2 : List MemPlace} (h0 : DataW.Trod enc Tryz.prog W 0 (fun _ => true) true 27 v0 d0 p0) (h1 : DataW.Trod enc Tryz.prog W 0 (fun _ => true) true 29 v1 d1 p1) (h2 : DataW.Trod enc Tryz.prog W 0 (fun _ => true) true 3 v2 d2 p2) (k0 : Value.okWide Tryz.prog W .any base (27 : Nat) v0) (k1 : Value.okWide Tryz.prog W .any base (29 : Nat) v1) (k2 : Value.okWide Tryz.prog W .any base (3 : Nat) v2) :
  Calls Tryz.prog 5 #[v0, v1, v2] W fun e w' => e = .returned (.bool true) ∧ Go.Own.Y6 (fun k => W.heap.size ≤ k) W w' := by
 obtain ⟨n0, h0⟩ := h0
 obtain ⟨x0, o0, r0⟩ := Go.Own.zfT h0
 obtain ⟨n1, h1⟩ := h1
 obtain ⟨x1, o1, r1⟩ := Go.Own.zfS h1
 obtain ⟨n2, h2⟩ := h2
 obtain ⟨x2, o2, r2⟩ := Go.Own.rd3 h2
 have q := (Go.Own.z79 (Go.Own.z4i Go.Own.zc8 List.mem_cons_self : Go.Own.qm.Ok Tryz.prog) (x := (x0, x1, x2)) (r := true) (Go.Own.z7G o0 o1 o2)).2 (Go.Own.z0J W) W [v0, v1, v2] [] (fun _ _ _ h => h) ?_ (by simp)
 ·refine Calls.mono q ?_
  rintro e w' ⟨v, S', F', rfl, hk, _, _, _, hr, _, _⟩
  refine ⟨?_, hk.mono (by rintro k (h | h) <;> simp_all)⟩
  rw [Go.Own.z7L hr]
 ·refine Go.Own.Zh ?_
  have g0 : Go.Own.v8 (Go.Own.z0J W) ((Go.Own.w7 (Go.Own.eI .i64) (Go.Own.eI .i64) (Go.Own.eSl 1 false (Go.Own.eSl 2 false (Go.Own.yN (Go.Own.eI .i64) (Go.Own.eI .i64))))) x0) v0 := Go.Own.z2p (t := (27 : Nat)) Tryz.underlying27 r0 k0 rfl
  have g1 : Go.Own.v8 (Go.Own.z0J W) ((Go.Own.eSl 1 false (Go.Own.eSl 1 false (Go.Own.eI .i64))) x1) v1 := Go.Own.z4b (t := (29 : Nat)) Tryz.underlying29 r1 k1 rfl
  have g2 : Go.Own.v8 (Go.Own.z0J W) ((Go.Own.eI .i64) x2) v2 := Go.Own.z7p (t := (3 : Nat)) Tryz.underlying3 r2 k2 rfl
  exact ⟨g0, g1, g2, trivial⟩
end
set_option maxRecDepth 100000 in
theorem zbq (os : Os) (started : os.Started) (H : Type) (enc : TypeId × Value → H) :
  ReturnsInHanded {} Tryz.checked os 5 .any (Rows.coversAnySpec.pre6 enc Tryz.prog Tryz.f5 Rows.coversAnyRow.domain false) (Rows.coversAnySpec.post enc Tryz.prog Tryz.f5 false true false false) := by
 refine returnsInHanded_of_change (C := Tryz.checked) own started (by kernel_rfl) Tryz.func5
  (ChangeSpec.witness6 (enc := enc) (C := Tryz.checked) false ⟨#[], #[.agg #[.int .i64 0, .int .i64 0, .slice none 0 0], .slice none 0 0, .int .i64 0], []⟩ 8 (by kernel_rfl) (by kernel_rfl) (by kernel_rfl) (by kernel_rfl)) ?_
 intro W base args ds gs before hval0 hW hcnd _
 have hval : ∀ (j : Nat) t v, Tryz.f5.params[j]? = some t → args[j]? = some v → Value.okWide Tryz.prog W .any base t v := hval0
 have hW' := hW
 obtain ⟨p, q, hA0, hV, rfl, hfz, hnd⟩ := hW
 have hA : DataW.TrodAll enc Tryz.prog W 0 (fun _ => true) true Tryz.f5.params.toList args.toList ds p := hA0
 rw [Tryz.params5] at hA hval
 obtain ⟨v0, v1, v2, d0, d1, d2, p0, p1, p2, rfl, rfl, rfl, h0, h1, h2⟩ := trodAll_three hA
 obtain ⟨rfl, rfl⟩ := trodVars_none hV
 clear hA0 hval0
 refine (zfC h0 h1 h2 (hval 0 (27 : Nat) v0 rfl rfl) (hval 1 (29 : Nat) v1 rfl rfl) (hval 2 (3 : Nat) v2 rfl rfl)).mono fun e W' ⟨he, hk⟩ => ?_
 subst he
 have hb : Below W.heap.size W W' := ⟨hk.os, hk.tape, hk.output, hk.size, fun k q => hk.block k (by omega)⟩
 have hlt : ∀ x ∈ p0 ++ p1 ++ p2, x.block < W.heap.size := fun x hx => by simpa using hW'.lt x (by simpa using hx)
 refine ⟨_, rfl, Go.Own.z5d rfl rfl hW' hb (fun _ _ _ => trodAll_cons_mk (shut_bool Tryz.underlying4 _) trodAll_mk0) (fun sp hsp => ?_) (ok_one (by kernel_rfl) rfl (okWide_bool_mk Tryz.underlying4 _))⟩
 have st : ∀ {t : Nat} {v : Value} {d : DataW H} {p' : List MemPlace}, DataW.Trod enc Tryz.prog W 0 (fun _ => true) true t v d p' → Tryz.prog.readableRec t = true → t < Tryz.prog.types.size → (∀ x ∈ p', x ∈ p0 ++ p1 ++ p2) → DataW.Trod enc Tryz.prog W' 0 sp true t v d p' := by
  intro t v d p' hd h1 h2 hp
  exact WideElems.Trod_stays z9L h1 h2 hd (fun x hx => hb.same (hlt x (hp x hx))) (fun x hx => hsp x (by simpa using hp x hx))
 have := trodAll_mk3 (st h0 (by kernel_rfl) (of_decide_eq_true (by kernel_rfl)) (fun x hx => by simp [hx])) (st h1 (by kernel_rfl) (of_decide_eq_true (by kernel_rfl)) (fun x hx => by simp [hx])) (st h2 (by kernel_rfl) (of_decide_eq_true (by kernel_rfl)) (fun x hx => by simp [hx]))
 rw [← List.append_assoc] at this
 rw [Tryz.params5]
 exact this
theorem YM : Rows.coversAnyRow.holds Tryz.pinned (OpenSpec.ofChange Rows.coversAnySpec) :=
 OpenClaim.holds_of_wide 5 Tryz.f5 rfl rfl rfl rfl rfl rfl rfl ⟨rfl, rfl, rfl, rfl, rfl⟩ rfl rfl rfl rfl rfl (by kernel_rfl) Tryz.func5 (by kernel_rfl)
  (of_decide_eq_true (by kernel_rfl)) (by unfold Func.isWrapper; first | (rw [if_pos (by decide +kernel)]; kernel_rfl) | (rw [if_neg (by decide +kernel)]; exact ⟨rfl, rfl⟩))
  (fun os started H enc _ => zbq os started H enc)
theorem proved : Rows.CoversAnySaid :=
 YM
#print axioms proved
end Go.Proofs.YthnpknbgpmlbhaaGreat.coversAny
