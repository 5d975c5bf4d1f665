/- -/
import Derived.Test.YtdnenbcldibnoaaPartG
import Derived.Test.YtdnenbcldibnoaaRows
import Derived.Test.YtdnenbcldibnoaaChecked
import Derived.WalkKit
import Derived.ProofKit
import Derived.OpenShut
import Derived.Carry
set_option linter.unusedVariables false
set_option linter.unusedSimpArgs false
namespace Go.Own
open Go.Proofs
set_option linter.unusedVariables false
section
variable {H : Type} {enc : TypeId × Value → H} {w : World} {base : Nat} {spare : Nat → Bool} {held : Bool}
theorem cells5 : Try.prog.cellsOf 5 = 1 := by kernel_rfl
theorem rd5 {fuel : Nat} {cs : List Value} {x : DataW H × List MemPlace} (h : DataW.trod enc Try.prog w base spare held fuel 5 cs = some x) : ∃ a : Int, Ok5 a ∧ Rep (allS w) ((eI .u8) a) cs := by
  obtain ⟨n, h1, _, h2⟩ := int_rep Try.underlying5 (lo := 0) (hi := 255) rfl rfl h
  exact ⟨n, h1, h2⟩
theorem cells4 : Try.prog.cellsOf 4 = 1 := by kernel_rfl
theorem rd4 {fuel : Nat} {cs : List Value} {x : DataW H × List MemPlace} (h : DataW.trod enc Try.prog w base spare held fuel 4 cs = some x) : ∃ a : Bool, Ok4 a ∧ Rep (allS w) (eB a) cs := by
  obtain ⟨n, h2⟩ := bool_rep Try.underlying4 h
  exact ⟨n, trivial, h2⟩
theorem cells102 : Try.prog.cellsOf 102 = 1 := by kernel_rfl
theorem rd102 {fuel : Nat} {cs : List Value} {x : DataW H × List MemPlace} (h : DataW.trod enc Try.prog w base spare held fuel 102 cs = some x) : ∃ a : Int, Ok102 a ∧ Rep (allS w) ((eI .u16) a) cs := by
  obtain ⟨n, h1, _, h2⟩ := int_rep Try.underlying102 (lo := 0) (hi := 65535) rfl rfl h
  exact ⟨n, h1, h2⟩
theorem cells22 : Try.prog.cellsOf 22 = 1 := by kernel_rfl
theorem rd22 {fuel : Nat} {cs : List Value} {x : DataW H × List MemPlace} (h : DataW.trod enc Try.prog w base spare held fuel 22 cs = some x) : ∃ a : List Int, Ok22 a ∧ Rep (allS w) ((eSl 1 false (eI .u16)) a) cs := by
  exact slice_rep (eI .u16) Ok102 Try.underlying22 cells102 (by omega) (fun _ => rfl) (fun _ _ _ q => rd102 q) h
theorem cells24 : Try.prog.cellsOf 24 = 5 := by kernel_rfl
theorem rd24 {fuel : Nat} {cs : List Value} {x : DataW H × List MemPlace} (h : DataW.trod enc Try.prog w base spare held fuel 24 cs = some x) : ∃ a : S_law04_M, Ok24 a ∧ Rep (allS w) ((e_law04_M (eI .u8) (eI .u8) (eI .u8) eB (eSl 1 false (eI .u16))) a) cs := by
  obtain ⟨hl, hf⟩ := struct_fields Try.underlying24 h
  rw [cells24] at hl
  obtain ⟨_, _, q0⟩ := hf 0 _ rfl
  obtain ⟨_, _, q1⟩ := hf 1 _ rfl
  obtain ⟨_, _, q2⟩ := hf 2 _ rfl
  obtain ⟨_, _, q3⟩ := hf 3 _ rfl
  obtain ⟨_, _, q4⟩ := hf 4 _ rfl
  simp only [cells22, cells4, cells5] at q0 q1 q2 q3 q4
  obtain ⟨a0, k0, r0⟩ := rd5 q0
  obtain ⟨a1, k1, r1⟩ := rd5 q1
  obtain ⟨a2, k2, r2⟩ := rd5 q2
  obtain ⟨a3, k3, r3⟩ := rd4 q3
  obtain ⟨a4, k4, r4⟩ := rd22 q4
  refine ⟨⟨a0, a1, a2, a3, a4⟩, ⟨k0, k1, k2, k3, k4⟩, ?_⟩
  show Rep (allS w) (.agg [(eI .u8) a0, (eI .u8) a1, (eI .u8) a2, eB a3, (eSl 1 false (eI .u16)) a4]) cs
  simp only [Rep]
  refine reps_take (n := 1) (by simpa [List.drop_drop] using r0) (reps_take (n := 1) (by simpa [List.drop_drop] using r1) (reps_take (n := 1) (by simpa [List.drop_drop] using r2) (reps_take (n := 1) (by simpa [List.drop_drop] using r3) (reps_take (n := 1) (by simpa [List.drop_drop] using r4) ?_))))
  simp only [List.drop_drop, Reps]
  exact List.drop_eq_nil_of_le (by omega)
theorem cells65 : Try.prog.cellsOf 65 = 2 := by kernel_rfl
theorem rd65 {fuel : Nat} {cs : List Value} {x : DataW H × List MemPlace} (h : DataW.trod enc Try.prog w base spare held fuel 65 cs = some x) : ∃ a : Arr2 Int, Ok65 a ∧ Rep (allS w) ((eArr2 (eI .u8)) a) cs := by
  obtain ⟨xs, m, _, _, hl, hx, hall⟩ := DataW.trod_array Try.underlying65 h
  rw [cells65] at hl
  rw [cells5] at hall
  have get : ∀ i, i < 2 → ∃ n : Int, Ok5 n ∧ Rep (allS w) ((eI .u8) n) ((cs.drop (i * 1)).take 1) := by
    intro i hi
    have q := hall i hi
    rw [List.getElem?_eq_getElem (by omega)] at q
    exact rd5 q
  obtain ⟨a0, k0, r0⟩ := get 0 (by omega)
  obtain ⟨a1, k1, r1⟩ := get 1 (by omega)
  refine ⟨⟨a0, a1⟩, ⟨k0, k1⟩, ?_⟩
  show Rep (allS w) (.agg [(eI .u8) a0, (eI .u8) a1]) cs
  simp only [Rep]
  refine reps_take (n := 1) (by simpa [List.drop_drop] using r0) (reps_take (n := 1) (by simpa [List.drop_drop] using r1) ?_)
  simp only [List.drop_drop, Reps]
  exact List.drop_eq_nil_of_le (by omega)
theorem cells3 : Try.prog.cellsOf 3 = 1 := by kernel_rfl
theorem rd3 {fuel : Nat} {cs : List Value} {x : DataW H × List MemPlace} (h : DataW.trod enc Try.prog w base spare held fuel 3 cs = some x) : ∃ a : Int, Ok3 a ∧ Rep (allS w) ((eI .i64) a) cs := by
  obtain ⟨n, h1, _, h2⟩ := int_rep Try.underlying3 (lo := -9223372036854775808) (hi := 9223372036854775807) rfl rfl h
  exact ⟨n, h1, h2⟩
theorem cells67 : Try.prog.cellsOf 67 = 2 := by kernel_rfl
theorem rd67 {fuel : Nat} {cs : List Value} {x : DataW H × List MemPlace} (h : DataW.trod enc Try.prog w base spare held fuel 67 cs = some x) : ∃ a : S_api_Edge, Ok67 a ∧ Rep (allS w) ((e_api_Edge (eI .i64) (eI .i64)) a) cs := by
  obtain ⟨hl, hf⟩ := struct_fields Try.underlying67 h
  rw [cells67] at hl
  obtain ⟨_, _, q0⟩ := hf 0 _ rfl
  obtain ⟨_, _, q1⟩ := hf 1 _ rfl
  simp only [cells3] at q0 q1
  obtain ⟨a0, k0, r0⟩ := rd3 q0
  obtain ⟨a1, k1, r1⟩ := rd3 q1
  refine ⟨⟨a0, a1⟩, ⟨k0, k1⟩, ?_⟩
  show Rep (allS w) (.agg [(eI .i64) a0, (eI .i64) a1]) cs
  simp only [Rep]
  refine reps_take (n := 1) (by simpa [List.drop_drop] using r0) (reps_take (n := 1) (by simpa [List.drop_drop] using r1) ?_)
  simp only [List.drop_drop, Reps]
  exact List.drop_eq_nil_of_le (by omega)
theorem cells69 : Try.prog.cellsOf 69 = 17 := by kernel_rfl
theorem rd69 {fuel : Nat} {cs : List Value} {x : DataW H × List MemPlace} (h : DataW.trod enc Try.prog w base spare held fuel 69 cs = some x) : ∃ a : S_law10_D, Ok69 a ∧ Rep (allS w) ((e_law10_D (e_law04_M (eI .u8) (eI .u8) (eI .u8) eB (eSl 1 false (eI .u16))) (e_law04_M (eI .u8) (eI .u8) (eI .u8) eB (eSl 1 false (eI .u16))) eB (eArr2 (eI .u8)) (eArr2 (eI .u8)) (e_api_Edge (eI .i64) (eI .i64))) a) cs := by
  obtain ⟨hl, hf⟩ := struct_fields Try.underlying69 h
  rw [cells69] at hl
  obtain ⟨_, _, q0⟩ := hf 0 _ rfl
  obtain ⟨_, _, q1⟩ := hf 1 _ rfl
  obtain ⟨_, _, q2⟩ := hf 2 _ rfl
  obtain ⟨_, _, q3⟩ := hf 3 _ rfl
  obtain ⟨_, _, q4⟩ := hf 4 _ rfl
  obtain ⟨_, _, q5⟩ := hf 5 _ rfl
  simp only [cells24, cells4, cells65, cells67] at q0 q1 q2 q3 q4 q5
  obtain ⟨a0, k0, r0⟩ := rd24 q0
  obtain ⟨a1, k1, r1⟩ := rd24 q1
  obtain ⟨a2, k2, r2⟩ := rd4 q2
  obtain ⟨a3, k3, r3⟩ := rd65 q3
  obtain ⟨a4, k4, r4⟩ := rd65 q4
  obtain ⟨a5, k5, r5⟩ := rd67 q5
  refine ⟨⟨a0, a1, a2, a3, a4, a5⟩, ⟨k0, k1, k2, k3, k4, k5⟩, ?_⟩
  show Rep (allS w) (.agg [(e_law04_M (eI .u8) (eI .u8) (eI .u8) eB (eSl 1 false (eI .u16))) a0, (e_law04_M (eI .u8) (eI .u8) (eI .u8) eB (eSl 1 false (eI .u16))) a1, eB a2, (eArr2 (eI .u8)) a3, (eArr2 (eI .u8)) a4, (e_api_Edge (eI .i64) (eI .i64)) a5]) cs
  simp only [Rep]
  refine reps_take (n := 5) (by simpa [List.drop_drop] using r0) (reps_take (n := 5) (by simpa [List.drop_drop] using r1) (reps_take (n := 1) (by simpa [List.drop_drop] using r2) (reps_take (n := 2) (by simpa [List.drop_drop] using r3) (reps_take (n := 2) (by simpa [List.drop_drop] using r4) (reps_take (n := 2) (by simpa [List.drop_drop] using r5) ?_)))))
  simp only [List.drop_drop, Reps]
  exact List.drop_eq_nil_of_le (by omega)
end
end Go.Own
namespace Go.Proofs.Ytdnenbcldibnoaa.equalsWithin
open Go Go.ChangeShapes Go.WideShapes Go.ChangeAt Go.RowKit
set_option linter.unusedVariables false
theorem own : ownKnob Try.prog.godebug = none := by kernel_rfl
theorem laidOut : laidOutB Try.prog = true := by kernel_rfl
section
variable {H : Type} {enc : TypeId × Value → H} {W : World}
set_option maxRecDepth 100000 in
theorem walk {base : Nat} {v0 : Value} {d0 : DataW H} {p0 : List MemPlace} {v1 : Value} {d1 : DataW H} {p1 : List MemPlace} (h0 : DataW.Trod enc Try.prog W 0 (fun _ => true) true 69 v0 d0 p0) (h1 : DataW.Trod enc Try.prog W 0 (fun _ => true) true 3 v1 d1 p1) (k0 : Value.okWide Try.prog W .any base (69 : Nat) v0) (k1 : Value.okWide Try.prog W .any base (3 : Nat) v1) :
    Calls Try.prog 7 #[v0, v1] W fun e w' => e = .returned (.bool true) ∧ Go.Own.Kept (fun k => W.heap.size ≤ k) W w' := by
  obtain ⟨n0, h0⟩ := h0
  obtain ⟨x0, o0, r0⟩ := Go.Own.rd69 h0
  obtain ⟨n1, h1⟩ := h1
  obtain ⟨x1, o1, r1⟩ := Go.Own.rd3 h1
  have q := (Go.Own.spF_call (Go.Own.ctrOf_call Go.Own.L38_ok List.mem_cons_self : Go.Own.sp_law10_EqualsWithin.Ok Try.prog) (x := (x0, x1)) (r := true) (Go.Own.law_true o0 o1)).2 (Go.Own.allS W) W [v0, v1] [] (fun _ _ _ h => h) ?_ (by simp)
  · refine Calls.mono q ?_
    rintro e w' ⟨v, S', F', rfl, hk, _, _, _, hr, _, _⟩
    refine ⟨?_, hk.mono (by rintro k (h | h) <;> simp_all)⟩
    rw [Go.Own.has_true hr]
  · refine Go.Own.all2_hass ?_
    have g0 : Go.Own.Rep1 (Go.Own.allS W) ((Go.Own.e_law10_D (Go.Own.e_law04_M (Go.Own.eI .u8) (Go.Own.eI .u8) (Go.Own.eI .u8) Go.Own.eB (Go.Own.eSl 1 false (Go.Own.eI .u16))) (Go.Own.e_law04_M (Go.Own.eI .u8) (Go.Own.eI .u8) (Go.Own.eI .u8) Go.Own.eB (Go.Own.eSl 1 false (Go.Own.eI .u16))) Go.Own.eB (Go.Own.eArr2 (Go.Own.eI .u8)) (Go.Own.eArr2 (Go.Own.eI .u8)) (Go.Own.e_api_Edge (Go.Own.eI .i64) (Go.Own.eI .i64))) x0) v0 := Go.Own.rep1_struct (t := (69 : Nat)) Try.underlying69 r0 k0 rfl
    have g1 : Go.Own.Rep1 (Go.Own.allS W) ((Go.Own.eI .i64) x1) v1 := Go.Own.rep1_int (t := (3 : Nat)) Try.underlying3 r1 k1 rfl
    exact ⟨g0, g1, trivial⟩
end
set_option maxRecDepth 100000 in
theorem lifted (os : Os) (started : os.Started) (H : Type) (enc : TypeId × Value → H) :
    ReturnsInHanded {} Try.checked os 7 .any (Rows.equalsWithinSpec.pre6 enc Try.prog Try.f7 Rows.equalsWithinRow.domain false) (Rows.equalsWithinSpec.post enc Try.prog Try.f7 false true false false) := by
  refine returnsInHanded_of_change (C := Try.checked) own started (by kernel_rfl) Try.func7
    (ChangeSpec.witness6 (enc := enc) (C := Try.checked) false ⟨#[], #[.agg #[.int .u8 0, .int .u8 0, .int .u8 0, .bool false, .slice none 0 0, .int .u8 0, .int .u8 0, .int .u8 0, .bool false, .slice none 0 0, .bool false, .int .u8 0, .int .u8 0, .int .u8 0, .int .u8 0, .int .i64 0, .int .i64 0], .int .i64 0], []⟩ 8 (by kernel_rfl) (by kernel_rfl) (by kernel_rfl) (by kernel_rfl)) ?_
  intro W base args ds gs before hval0 hW hcnd _
  have hval : ∀ (j : Nat) t v, Try.f7.params[j]? = some t → args[j]? = some v → Value.okWide Try.prog W .any base t v := hval0
  have hW' := hW
  obtain ⟨p, q, hA0, hV, rfl, hfz, hnd⟩ := hW
  have hA : DataW.TrodAll enc Try.prog W 0 (fun _ => true) true Try.f7.params.toList args.toList ds p := hA0
  rw [Try.params7] at hA hval
  obtain ⟨v0, v1, d0, d1, p0, p1, rfl, rfl, rfl, h0, h1⟩ := trodAll_two hA
  obtain ⟨rfl, rfl⟩ := trodVars_none hV
  clear hA0 hval0
  refine (walk h0 h1 (hval 0 (69 : Nat) v0 rfl rfl) (hval 1 (3 : Nat) v1 rfl rfl)).mono fun e W' ⟨he, hk⟩ => ?_
  subst he
  have hb : Below W.heap.size W W' := ⟨hk.os, hk.tape, hk.output, hk.size, fun k q => hk.block k (by omega)⟩
  have hlt : ∀ x ∈ p0 ++ p1, x.block < W.heap.size := fun x hx => by simpa using hW'.lt x (by simpa using hx)
  refine ⟨_, rfl, Go.Own.post_kept rfl rfl hW' hb (fun _ _ _ => trodAll_cons_mk (shut_bool Try.underlying4 _) trodAll_mk0) (fun sp hsp => ?_) (ok_one (by kernel_rfl) rfl (okWide_bool_mk Try.underlying4 _))⟩
  have st : ∀ {t : Nat} {v : Value} {d : DataW H} {p' : List MemPlace}, DataW.Trod enc Try.prog W 0 (fun _ => true) true t v d p' → Try.prog.readableRec t = true → t < Try.prog.types.size → (∀ x ∈ p', x ∈ p0 ++ p1) → DataW.Trod enc Try.prog W' 0 sp true t v d p' := by
    intro t v d p' hd h1 h2 hp
    exact WideElems.Trod_stays laidOut h1 h2 hd (fun x hx => hb.same (hlt x (hp x hx))) (fun x hx => hsp x (by simpa using hp x hx))
  have := trodAll_mk2 (st h0 (by kernel_rfl) (of_decide_eq_true (by kernel_rfl)) (fun x hx => by simp [hx])) (st h1 (by kernel_rfl) (of_decide_eq_true (by kernel_rfl)) (fun x hx => by simp [hx]))
  rw [Try.params7]
  exact this
theorem over : Rows.equalsWithinRow.holds Try.pinned (OpenSpec.ofChange Rows.equalsWithinSpec) :=
  OpenClaim.holds_of_wide 7 Try.f7 rfl rfl rfl rfl rfl rfl rfl ⟨rfl, rfl, rfl, rfl, rfl⟩ rfl rfl rfl rfl rfl (by kernel_rfl) Try.func7 (by kernel_rfl)
    (of_decide_eq_true (by kernel_rfl)) (by unfold Func.isWrapper; first | (rw [if_pos (by decide +kernel)]; kernel_rfl) | (rw [if_neg (by decide +kernel)]; exact ⟨rfl, rfl⟩))
    (fun os started H enc _ => lifted os started H enc)
theorem proved : Rows.EqualsWithinSaid :=
  over
#print axioms proved
end Go.Proofs.Ytdnenbcldibnoaa.equalsWithin
