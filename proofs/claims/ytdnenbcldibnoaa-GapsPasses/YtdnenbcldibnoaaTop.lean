/- GapsPasses (gauntletlaw18): for every input the law returns true, and its arguments read afterwards as they read before. No condition. -/
import Derived.Test.YtdnenbcldibnoaaJoined
import Derived.Test.YtdnenbcldibnoaaRead
import Derived.Test.YtdnenbcldibnoaaRows
import Derived.Test.YtdnenbcldibnoaaChecked
import Derived.WalkKit
import Derived.ProofKit
import Derived.OpenShut
import Derived.Carry
namespace Go.Proofs.Ytdnenbcldibnoaa.gapsPasses
open Go Go.ChangeShapes Go.WideShapes Go.ChangeAt Go.RowKit
set_option linter.unusedVariables false

theorem own : ownKnob Try.prog.godebug = none := by kernel_rfl
theorem laidOut : laidOutB Try.prog = true := by kernel_rfl

/-- What is asked behind the call: nothing that was there has turned; what is new is not looked at. -/
theorem post_kept {P : Program} {H : Type} {enc : TypeId × Value → H} {f : Func} {s : ChangeSpec} {apart fresh handsOn again : Bool} {W W' : World} {args : Array Value} {v : Value} {ds : List (DataW H)} {pa : List MemPlace}
    (hvar : s.vars = []) (hvars2 : (s.fn H (ds ++ [])).vars = []) (hW : DataW.Whole enc P f.params.toList s.vars apart W args.toList ds [] (pa ++ [])) (hb : Below W.heap.size W W')
    (hres : ∀ (b : Nat) (sp : Nat → Bool) (hd : Bool), DataW.TrodAll enc P W' b sp hd f.resultTypes.toList (v.resultList f.resultTypes.size) (s.fn H (ds ++ [])).results [])
    (hargs : ∀ sp : Nat → Bool, (∀ p ∈ pa ++ [], sp p.block = true) → DataW.TrodAll enc P W' 0 sp true f.params.toList args.toList (s.fn H (ds ++ [])).args pa)
    (hok : ∀ (j : Nat) (t : TypeId) (r : Value), f.resultTypes[j]? = some t → (v.resultList f.resultTypes.size)[j]? = some r → Value.okWide P W' .any 0 t r) :
    s.post enc P f apart fresh handsOn again W args v W' := by
  have hlt : ∀ p ∈ pa ++ [], p.block < W.heap.size := fun p hp => by simpa using hW.lt p hp
  have hvr : ∀ sp : Nat → Bool, DataW.TrodVars enc P W' sp s.vars (s.fn H (ds ++ [])).vars [] := fun sp => by rw [hvar, hvars2]; rfl
  refine ⟨ds, [], pa ++ [], [], pa, [], hW, hres _ _ _, hargs _ (fun p hp => by simpa using hlt p hp), hvr _, World.keptBut_mono (fun _ q => q.elim) (hb.frame fun _ => False), fun _ => ?_⟩
  obtain ⟨_, _, _, _, _, hz, hn⟩ := hW
  refine ⟨hok, _, _, ([] ++ pa) ++ [], ⟨[] ++ pa, [], trodAll_append (hargs _ (fun _ _ => rfl)) (hres _ _ _), hvr _, rfl, ?_, ?_⟩, ?_⟩
  · intro b off hp
    have hp' : MemPlace.cell b off ∈ pa ++ [] := by simpa using hp
    rw [hb.frozen (p := ⟨b, off, none⟩) (hlt _ hp')]
    exact hz b off hp'
  · intro ha
    simpa using hn ha
  · intro p hp _
    simpa using hp

section
variable {H : Type} {enc : TypeId × Value → H} {W : World}

theorem one_has {a : Go.Own.A} {v : Value} {cs : List Value} (hr : Go.Own.Rep (Go.Own.allS W) a cs) (hv : v = Go.Own.valOf a cs) : Go.Own.Has (Go.Own.allS W) W.heap a v [] := by
  refine .inl ⟨Go.Own.Rep1.repV ⟨cs, hr, hv⟩, rfl⟩

theorem walk {v0 v1 v2 : Value} {d0 d1 d2 : DataW H} {p0 p1 p2 : List MemPlace}
    (h0 : DataW.Trod enc Try.prog W 0 (fun _ => true) true 24 v0 d0 p0) (h1 : DataW.Trod enc Try.prog W 0 (fun _ => true) true 28 v1 d1 p1) (h2 : DataW.Trod enc Try.prog W 0 (fun _ => true) true 31 v2 d2 p2)
    (k0 : ∃ cs, v0 = .agg cs) (k1 : ∃ cs, v1 = .agg cs) (k2 : ∃ cs, v2 = .agg cs) :
    Calls Try.prog 3 #[v0, v1, v2] W fun e w' => e = .returned (.bool true) ∧ Go.Own.Kept (fun k => W.heap.size ≤ k) W w' := by
  obtain ⟨n0, h0⟩ := h0
  obtain ⟨n1, h1⟩ := h1
  obtain ⟨n2, h2⟩ := h2
  obtain ⟨x, hx, rx⟩ := Go.Own.read_M h0
  obtain ⟨y, hy, ry⟩ := Go.Own.read_T h1
  obtain ⟨z, hz, rz⟩ := Go.Own.read_L h2
  obtain ⟨c0, rfl⟩ := k0
  obtain ⟨c1, rfl⟩ := k1
  obtain ⟨c2, rfl⟩ := k2
  have q := (Go.Own.law_ok (x, y, z) ⟨hx, hy, hz⟩).2 (Go.Own.allS W) W [.agg c0, .agg c1, .agg c2] [] (fun _ _ _ h => h) ?_ (by simp)
  · refine Calls.mono q ?_
    rintro e w' ⟨v, S', F', rfl, hk, _, _, _, hr, _, _⟩
    refine ⟨?_, hk.mono (by rintro k (h | h) <;> simp_all)⟩
    rcases hr with ⟨hr, _⟩ | ⟨cs, hr, _, hv⟩
    · rw [(Go.Own.repV_atom.1 hr).1]
    · simp only [Go.Own.spLaw, Go.Own.Conc, Go.Own.Rep] at hr
      obtain ⟨⟨rfl, _⟩, _⟩ := hr
      rw [hv]; rfl
  · refine Go.Own.all2_hass ?_
    refine ⟨⟨_, rx, ?_⟩, ⟨_, ry, ?_⟩, ⟨_, rz, ?_⟩, trivial⟩
    · rfl
    · rfl
    · rfl
end

set_option maxRecDepth 100000 in
theorem lifted (os : Os) (started : os.Started) (H : Type) (enc : TypeId × Value → H) :
    ReturnsInHanded {} Try.checked os 3 .any (Rows.gapsPassesSpec.pre6 enc Try.prog Try.f3 Rows.gapsPassesRow.domain false) (Rows.gapsPassesSpec.post enc Try.prog Try.f3 false true false false) := by
  refine returnsInHanded_of_change (C := Try.checked) own started (by kernel_rfl) Try.func3
    (ChangeSpec.witness6 (enc := enc) (C := Try.checked) false ⟨#[], #[.agg #[.int .u8 0, .int .u8 0, .int .u8 0, .bool false, .slice none 0 0], .agg #[.slice none 0 0, .slice none 0 0], .agg #[.int .u8 0, .slice none 0 0]], []⟩ 8 (by kernel_rfl) (by kernel_rfl) (by kernel_rfl) (by kernel_rfl)) ?_
  intro W base args ds gs before hval0 hW hcnd _
  have hval : ∀ (j : Nat) t v, Try.f3.params[j]? = some t → args[j]? = some v → Value.okWide Try.prog W .any base t v := hval0
  have hW' := hW
  obtain ⟨p, q, hA0, hV, rfl, hfz, hnd⟩ := hW
  have hA : DataW.TrodAll enc Try.prog W 0 (fun _ => true) true Try.f3.params.toList args.toList ds p := hA0
  rw [Try.params3] at hA hval
  obtain ⟨v0, v1, v2, d0, d1, d2, p0, p1, p2, rfl, rfl, rfl, h0, h1, h2⟩ := trodAll_three hA
  obtain ⟨rfl, rfl⟩ := trodVars_none hV
  clear hA0 hval0
  have agg : ∀ {t : Nat} {v : Value} {fs : Array Field}, Try.prog.underlying t = some (.struct fs) → Value.okWide Try.prog W .any base t v → ∃ cs, v = .agg cs := by
    intro t v fs hu hk
    unfold Value.okWide at hk
    rw [hu] at hk
    obtain ⟨cs, rfl, _⟩ := hk
    exact ⟨cs, rfl⟩
  refine (walk h0 h1 h2 (agg Try.underlying24 (hval 0 24 v0 rfl rfl)) (agg Try.underlying28 (hval 1 28 v1 rfl rfl)) (agg Try.underlying31 (hval 2 31 v2 rfl rfl))).mono fun e W' ⟨he, hk⟩ => ?_
  subst he
  have hb : Below W.heap.size W W' := ⟨hk.os, hk.tape, hk.output, hk.size, fun k q => hk.block k (by omega)⟩
  have hlt : ∀ x ∈ p0 ++ p1 ++ p2, x.block < W.heap.size := fun x hx => by simpa using hW'.lt x (by simpa using hx)
  refine ⟨_, rfl, post_kept rfl rfl hW' hb (fun _ _ _ => trodAll_cons_mk (shut_bool Try.underlying4 _) trodAll_mk0) (fun sp hsp => ?_) (ok_one (by kernel_rfl) rfl (okWide_bool_mk Try.underlying4 _))⟩
  have st : ∀ {t : Nat} {v : Value} {d : DataW H} {p : List MemPlace}, DataW.Trod enc Try.prog W 0 (fun _ => true) true t v d p → Try.prog.readableRec t = true → t < Try.prog.types.size → (∀ x ∈ p, x ∈ p0 ++ p1 ++ p2) → DataW.Trod enc Try.prog W' 0 sp true t v d p := by
    intro t v d p hd h1 h2 hp
    exact WideElems.Trod_stays laidOut h1 h2 hd (fun x hx => hb.same (hlt x (hp x hx))) (fun x hx => hsp x (by simpa using hp x hx))
  have := trodAll_mk3 (st h0 (by kernel_rfl) (of_decide_eq_true (by kernel_rfl)) (fun x hx => by simp [hx])) (st h1 (by kernel_rfl) (of_decide_eq_true (by kernel_rfl)) (fun x hx => by simp [hx])) (st h2 (by kernel_rfl) (of_decide_eq_true (by kernel_rfl)) (fun x hx => by simp [hx]))
  rw [← List.append_assoc] at this
  rw [Try.params3]
  exact this

theorem over : Rows.gapsPassesRow.holds Try.pinned (OpenSpec.ofChange Rows.gapsPassesSpec) :=
  OpenClaim.holds_of_wide 3 Try.f3 rfl rfl rfl rfl rfl rfl rfl ⟨rfl, rfl, rfl, rfl, rfl⟩ rfl rfl rfl rfl rfl (by kernel_rfl) Try.func3 (by kernel_rfl)
    (of_decide_eq_true (by kernel_rfl)) (by unfold Func.isWrapper; first | (rw [if_pos (by decide +kernel)]; kernel_rfl) | (rw [if_neg (by decide +kernel)]; exact ⟨rfl, rfl⟩))
    (fun os started H enc _ => lifted os started H enc)

/-- The statement. -/
theorem proved : Rows.GapsPassesSaid :=
  over
#print axioms proved
end Go.Proofs.Ytdnenbcldibnoaa.gapsPasses
