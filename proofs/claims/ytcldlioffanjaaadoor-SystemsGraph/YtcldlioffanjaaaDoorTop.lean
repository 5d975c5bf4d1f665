/- -/
import Derived.Test.YtcldlioffanjaaaDoorPartG
import Derived.Test.YtcldlioffanjaaaDoorPartB
import Derived.Test.YtcldlioffanjaaaDoorPartC
import Derived.WalkKit
import Derived.ProofKit
import Derived.OpenShut
import Derived.Carry
import Derived.Test.YtcldlioffanjaaaDoorRows
import Derived.Test.YtcldlioffanjaaaDoorChecked
import Derived.LaidMore
import Derived.Stop.Joined
import Derived.SevenTiedAt
import Derived.Test.YtcldlioffanjaaaDoorCards
import Derived.Test.YtcldlioffanjaaaDoorTie
import Derived.Stop.LaidErr
import Derived.MakeChecks
set_option linter.unusedVariables false
set_option linter.unusedSimpArgs false
namespace Go.Own
section
open Go Go.ChangeShapes Go.WideShapes Go.ChangeAt Go.RowKit
theorem z35 {P : Program} {H : Type} {enc : TypeId × Value → H} {f : Func} {s : ChangeSpec} {apart fresh handsOn again : Bool} {W W' : World} {args : Array Value} {v : Value} {ds : List (DataW H)} {pa : List MemPlace}
  (hvar : s.vars = []) (hvars2 : (s.fn H (ds ++ [])).vars = []) (hW : DataW.Whole enc P f.params.toList s.vars apart W args.toList ds [] (pa ++ [])) (hb : Below W.heap.size W W')
  (hres : ∀ (b : Nat) (sp : Nat → Bool) (hd : Bool), DataW.TrodAll enc P W' b sp hd f.resultTypes.toList (v.resultList f.resultTypes.size) (s.fn H (ds ++ [])).results [])
  (hargs : ∀ sp : Nat → Bool, (∀ p ∈ pa ++ [], sp p.block = true) → DataW.TrodAll enc P W' 0 sp true f.params.toList args.toList (s.fn H (ds ++ [])).args pa)
  (hok : ∀ (j : Nat) (t : TypeId) (r : Value), f.resultTypes[j]? = some t → (v.resultList f.resultTypes.size)[j]? = some r → Value.okWide P W' .any 0 t r) :
  s.post enc P f apart fresh handsOn again W args v W' := by
 have hlt : ∀ p ∈ pa ++ [], p.block < W.heap.size := fun p hp => by simpa using hW.lt p hp
 have hvr : ∀ sp : Nat → Bool, DataW.TrodVars enc P W' sp s.vars (s.fn H (ds ++ [])).vars [] := fun sp => by rw [hvar, hvars2]; rfl
 refine ⟨ds, [], pa ++ [], [], pa, [], hW, hres _ _ _, hargs _ (fun p hp => by simpa using hlt p hp), hvr _, World.keptBut_mono (fun _ q => q.elim) (hb.frame fun _ => False), fun _ => ?_⟩
 obtain ⟨_, _, _, _, _, hz, hn⟩ := hW
 refine ⟨hok, _, _, ([] ++ pa) ++ [], ⟨[] ++ pa, [], trodAll_append (hargs _ (fun _ _ => rfl)) (hres _ _ _), hvr _, rfl, ?_, ?_⟩, ?_⟩
 ·intro b off hp
  have hp' : MemPlace.cell b off ∈ pa ++ [] := by simpa using hp
  rw [hb.frozen (p := ⟨b, off, none⟩) (hlt _ hp')]
  exact hz b off hp'
 ·intro ha
  simpa using hn ha
 ·intro p hp _
  simpa using hp
end
theorem z4R {P : Program} {k : Nat} {α ρ : Type} {enc : α → List A} {encR : ρ → A} {F : α → Option ρ} {gives : List Bool} {inj : ∀ x y, enc x = enc y → x = y} (h : (spF k enc encR F gives inj).Ok P) {x : α} {r : ρ} (hr : F x = some r) : YN P k (enc x) (encR r) := by
 have := h x ⟨r, hr⟩
 simpa only [spF, hr] using this
section
variable {P : Program} {w : World} {r : Reach} {base t : Nat} {v : Value}
theorem z2f {fs : Array Field} (hu : P.underlying t = some (.struct fs)) (h : Value.okWide P w r base t v) : v = .agg v.cells.toList.toArray := by
 unfold Value.okWide at h
 rw [hu] at h
 obtain ⟨cs, rfl, _⟩ := h
 rfl
theorem z17 {fs : Array Field} {S : zr} {a : A} (hu : P.underlying t = some (.struct fs)) (hr : Rep S a v.cells.toList) (h : Value.okWide P w r base t v) (ha : a.isAgg = true) : vI S a v := ⟨_, hr, by cases a <;> first | exact z2f hu h | cases ha⟩
theorem z5z {S : zr} {h : Array Obj} {v : Value} {F : List Nat} (q : Has S h (.atom (.bool true)) v F) : v = .bool true := by
 rcases q with ⟨q, _⟩ | ⟨cs, q, _, rfl⟩
 ·rw [(zz.1 q).1]
 ·simp only [zP, Rep] at q
  obtain ⟨⟨rfl, _⟩, _⟩ := q
  rfl
end
open Go.Proofs
section
variable {H : Type} {enc : TypeId × Value → H} {w : World} {base : Nat} {spare : Nat → Bool} {held : Bool}
theorem z3T : Tryd.prog.cellsOf 5 = 1 := by kernel_rfl
theorem rd5 {fuel : Nat} {cs : List Value} {x : DataW H × List MemPlace} (h : DataW.trod enc Tryd.prog w base spare held fuel 5 cs = some x) : ∃ a : Int, Ok5 a ∧ Rep (QV w) ((eI .u8) a) cs := by
 obtain ⟨n, h1, _, h2⟩ := z7V Tryd.underlying5 (lo := 0) (hi := 255) rfl rfl h
 exact ⟨n, h1, h2⟩
theorem z3W : Tryd.prog.cellsOf 22 = 2 := by kernel_rfl
theorem zez {fuel : Nat} {cs : List Value} {x : DataW H × List MemPlace} (h : DataW.trod enc Tryd.prog w base spare held fuel 22 cs = some x) : ∃ a : z65 Int, ze5 a ∧ Rep (QV w) ((Jf (eI .u8)) a) cs := by
 obtain ⟨xs, m, _, _, hl, hx, hall⟩ := DataW.trod_array Tryd.underlying22 h
 rw [z3W] at hl
 rw [z3T] at hall
 have get : ∀ i, i < 2 → ∃ n : Int, Ok5 n ∧ Rep (QV w) ((eI .u8) n) ((cs.drop (i * 1)).take 1) := by
  intro i hi
  have q := hall i hi
  rw [List.getElem?_eq_getElem (by omega)] at q
  exact rd5 q
 obtain ⟨a0, k0, r0⟩ := get 0 (by omega)
 obtain ⟨a1, k1, r1⟩ := get 1 (by omega)
 refine ⟨⟨a0, a1⟩, ⟨k0, k1⟩, ?_⟩
 show Rep (QV w) (.agg [(eI .u8) a0, (eI .u8) a1]) cs
 simp only [Rep]
 refine ug (n := 1) (by simpa [List.drop_drop] using r0) (ug (n := 1) (by simpa [List.drop_drop] using r1) ?_)
 simp only [List.drop_drop, yn]
 exact List.drop_eq_nil_of_le (by omega)
theorem z3U : Tryd.prog.cellsOf 48 = 5 := by kernel_rfl
theorem zeu {fuel : Nat} {cs : List Value} {x : DataW H × List MemPlace} (h : DataW.trod enc Tryd.prog w base spare held fuel 48 cs = some x) : ∃ a : z2y Int, zcz a ∧ Rep (QV w) ((YU (eI .u8)) a) cs := by
 obtain ⟨xs, m, _, _, hl, hx, hall⟩ := DataW.trod_array Tryd.underlying48 h
 rw [z3U] at hl
 rw [z3T] at hall
 have get : ∀ i, i < 5 → ∃ n : Int, Ok5 n ∧ Rep (QV w) ((eI .u8) n) ((cs.drop (i * 1)).take 1) := by
  intro i hi
  have q := hall i hi
  rw [List.getElem?_eq_getElem (by omega)] at q
  exact rd5 q
 obtain ⟨a0, k0, r0⟩ := get 0 (by omega)
 obtain ⟨a1, k1, r1⟩ := get 1 (by omega)
 obtain ⟨a2, k2, r2⟩ := get 2 (by omega)
 obtain ⟨a3, k3, r3⟩ := get 3 (by omega)
 obtain ⟨a4, k4, r4⟩ := get 4 (by omega)
 refine ⟨⟨a0, a1, a2, a3, a4⟩, ⟨k0, k1, k2, k3, k4⟩, ?_⟩
 show Rep (QV w) (.agg [(eI .u8) a0, (eI .u8) a1, (eI .u8) a2, (eI .u8) a3, (eI .u8) a4]) cs
 simp only [Rep]
 refine ug (n := 1) (by simpa [List.drop_drop] using r0) (ug (n := 1) (by simpa [List.drop_drop] using r1) (ug (n := 1) (by simpa [List.drop_drop] using r2) (ug (n := 1) (by simpa [List.drop_drop] using r3) (ug (n := 1) (by simpa [List.drop_drop] using r4) ?_))))
 simp only [List.drop_drop, yn]
 exact List.drop_eq_nil_of_le (by omega)
theorem z87 : Tryd.prog.cellsOf 44 = 1 := by kernel_rfl
theorem zew {fuel : Nat} {cs : List Value} {x : DataW H × List MemPlace} (h : DataW.trod enc Tryd.prog w base spare held fuel 44 cs = some x) : ∃ a : List (z2y Int), ze2 a ∧ Rep (QV w) ((eSl 5 false (YU (eI .u8))) a) cs := by
 exact KO (YU (eI .u8)) zcz Tryd.underlying44 z3U (by omega) (fun _ => rfl) (fun _ _ _ q => zeu q) h
theorem z3V : Tryd.prog.cellsOf 46 = 3 := by kernel_rfl
theorem zev {fuel : Nat} {cs : List Value} {x : DataW H × List MemPlace} (h : DataW.trod enc Tryd.prog w base spare held fuel 46 cs = some x) : ∃ a : xx, zcA a ∧ Rep (QV w) ((uk (eI .u8) (eI .u8) (eSl 5 false (YU (eI .u8)))) a) cs := by
 obtain ⟨hl, hf⟩ := WC Tryd.underlying46 h
 rw [z3V] at hl
 obtain ⟨_, _, q0⟩ := hf 0 _ rfl
 obtain ⟨_, _, q1⟩ := hf 1 _ rfl
 obtain ⟨_, _, q2⟩ := hf 2 _ rfl
 simp only [z87, z3T] at q0 q1 q2
 obtain ⟨a0, k0, r0⟩ := rd5 q0
 obtain ⟨a1, k1, r1⟩ := rd5 q1
 obtain ⟨a2, k2, r2⟩ := zew q2
 refine ⟨⟨a0, a1, a2⟩, ⟨k0, k1, k2⟩, ?_⟩
 show Rep (QV w) (.agg [(eI .u8) a0, (eI .u8) a1, (eSl 5 false (YU (eI .u8))) a2]) cs
 simp only [Rep]
 refine ug (n := 1) (by simpa [List.drop_drop] using r0) (ug (n := 1) (by simpa [List.drop_drop] using r1) (ug (n := 1) (by simpa [List.drop_drop] using r2) ?_))
 simp only [List.drop_drop, yn]
 exact List.drop_eq_nil_of_le (by omega)
theorem z89 : Tryd.prog.cellsOf 23 = 1 := by kernel_rfl
theorem zey {fuel : Nat} {cs : List Value} {x : DataW H × List MemPlace} (h : DataW.trod enc Tryd.prog w base spare held fuel 23 cs = some x) : ∃ a : List xx, ze4 a ∧ Rep (QV w) ((eSl 3 false (uk (eI .u8) (eI .u8) (eSl 5 false (YU (eI .u8))))) a) cs := by
 exact KO (uk (eI .u8) (eI .u8) (eSl 5 false (YU (eI .u8)))) zcA Tryd.underlying23 z3V (by omega) (fun _ => rfl) (fun _ _ _ q => zev q) h
theorem z88 : Tryd.prog.cellsOf 25 = 3 := by kernel_rfl
theorem zex {fuel : Nat} {cs : List Value} {x : DataW H × List MemPlace} (h : DataW.trod enc Tryd.prog w base spare held fuel 25 cs = some x) : ∃ a : ya, ze3 a ∧ Rep (QV w) ((kj (Jf (eI .u8)) (eSl 3 false (uk (eI .u8) (eI .u8) (eSl 5 false (YU (eI .u8)))))) a) cs := by
 obtain ⟨hl, hf⟩ := WC Tryd.underlying25 h
 rw [z88] at hl
 obtain ⟨_, _, q0⟩ := hf 0 _ rfl
 obtain ⟨_, _, q1⟩ := hf 1 _ rfl
 simp only [z3W, z89] at q0 q1
 obtain ⟨a0, k0, r0⟩ := zez q0
 obtain ⟨a1, k1, r1⟩ := zey q1
 refine ⟨⟨a0, a1⟩, ⟨k0, k1⟩, ?_⟩
 show Rep (QV w) (.agg [(Jf (eI .u8)) a0, (eSl 3 false (uk (eI .u8) (eI .u8) (eSl 5 false (YU (eI .u8))))) a1]) cs
 simp only [Rep]
 refine ug (n := 2) (by simpa [List.drop_drop] using r0) (ug (n := 1) (by simpa [List.drop_drop] using r1) ?_)
 simp only [List.drop_drop, yn]
 exact List.drop_eq_nil_of_le (by omega)
end
end Go.Own
namespace Go.Proofs.YtcldlioffanjaaaDoor.systemsGraph
open Go Go.ChangeShapes Go.WideShapes Go.ChangeAt Go.RowKit
theorem own : ownKnob Tryd.prog.godebug = none := by kernel_rfl
theorem z7R : laidOutB Tryd.prog = true := by kernel_rfl
section
variable {H : Type} {enc : TypeId × Value → H} {W : World}
theorem z7A (u : TypeId) (h : Tryd.prog.typeName? 3 u = some "*errors.errorString") : u = 181 :=
 typeName_ptr_named (nm := "errors.errorString") (by rw [show "*" ++ "errors.errorString" = "*errors.errorString" by decide]; kernel_rfl) (by kernel_rfl) (by decide) u (by rw [show "*" ++ "errors.errorString" = "*errors.errorString" by decide]; exact h)
theorem z5C {W : World} (hL : laidMetH Tryd.prog Rows.systemsGraphRow.laid W) : Go.Own.Gok (Go.Own.QV W) := by
 rw [MakeChecks.laidMetH_plain _ _ _ (by kernel_rfl)] at hL
 have hg : Tryd.prog.globalNamed "gauntlet/systems.errNo" = some 0 := by kernel_rfl
 obtain ⟨a, _, hv, _⟩ := laid_sentinel hL hg (show (Tryd.prog.globals[0]?).map (·.type) = some 137 by kernel_rfl) Tryd.underlying137 z7A Tryd.underlying181 Tryd.underlying206 rfl rfl Tryd.underlying9 (show Tryd.prog.cellsOf 206 = 1 by kernel_rfl) (show Tryd.prog.cellsOf 9 = 1 by kernel_rfl)
 have hw : W.cell? ⟨0, 0, none⟩ = some (.iface 181 (.pointer (some a))) := by
  have := World.var?_cell hg hv 0
  simpa using this
 have hc : Go.Own.QV W 0 0 = some (.iface 181 (.pointer (some a))) := (Go.Own.z1o hw).2
 intro g x e
 unfold Go.Own.zb0 at e
 split at e
 ·rename_i h0
  subst h0
  cases e
  refine ⟨[.iface 181 (.pointer (some a))], ⟨_, rfl, fun _ => ⟨hc, a, rfl⟩, fun h => by cases h⟩, fun j v hj => ?_⟩
  cases j with
  | zero => cases hj; exact hc
  | succ j => simp at hj
 ·cases e
set_option maxRecDepth 100000 in
theorem zee {base : Nat} (hL : laidMetH Tryd.prog Rows.systemsGraphRow.laid W) {v0 : Value} {d0 : DataW H} {p0 : List MemPlace} (h0 : DataW.Trod enc Tryd.prog W 0 (fun _ => true) true 25 v0 d0 p0) (k0 : Value.okWide Tryd.prog W .any base (25 : Nat) v0) :
  Calls Tryd.prog 3 #[v0] W fun e w' => e = .returned (.bool true) ∧ Go.Own.Zr (fun k => W.heap.size ≤ k) W w' := by
 obtain ⟨n0, h0⟩ := h0
 obtain ⟨x0, o0, r0⟩ := Go.Own.zex h0
 have q := (Go.Own.z4R (Go.Own.z2w Go.Own.za8 List.mem_cons_self : Go.Own.uP.Ok Tryd.prog) (x := x0) (r := true) (Go.Own.z5s o0)).2 (Go.Own.QV W) W [v0] [] ⟨fun _ _ _ h => h, z5C hL⟩ ?_ (by simp)
 ·refine Calls.mono q ?_
  rintro e w' ⟨v, S', F', rfl, hk, _, _, _, hr, _, _⟩
  refine ⟨?_, hk.mono (by rintro k (h | h) <;> simp_all)⟩
  rw [Go.Own.z5z hr]
 ·refine Go.Own.Zl ?_
  have g0 : Go.Own.vI (Go.Own.QV W) ((Go.Own.kj (Go.Own.Jf (Go.Own.eI .u8)) (Go.Own.eSl 3 false (Go.Own.uk (Go.Own.eI .u8) (Go.Own.eI .u8) (Go.Own.eSl 5 false (Go.Own.YU (Go.Own.eI .u8)))))) x0) v0 := Go.Own.z17 (t := (25 : Nat)) Tryd.underlying25 r0 k0 rfl
  exact ⟨g0, trivial⟩
end
set_option maxRecDepth 100000 in
theorem z5E (os : Os) (args : Array Value) : laidMetH Tryd.prog Rows.systemsGraphRow.laid ((World.doorLaid Tryd.prog 400 os).forCall (fun _ _ => 0) ⟨#[], args, []⟩).memory :=
 laidMetH_of_parts3 (fuel := 8) (laidMet_of_run' 8 (by kernel_rfl) (by kernel_rfl)) (by kernel_rfl) (by kernel_rfl)
set_option maxRecDepth 100000 in
theorem z9f (os : Os) (started : os.Started) (H : Type) (enc : TypeId × Value → H) :
  ReturnsInHanded {} Tryd.checked os 3 .any (fun w args => (Rows.systemsGraphSpec.pre enc Tryd.prog Tryd.f3 Rows.systemsGraphRow.domain false w args ∧ laidMetH Tryd.prog Rows.systemsGraphRow.laid w) ∧ sizedMet enc Tryd.prog Tryd.f3 (OpenSpec.ofChange Rows.systemsGraphSpec) false w args) (Rows.systemsGraphSpec.post enc Tryd.prog Tryd.f3 false true false false) := by
 refine returnsInHanded_of_change_and (C := Tryd.checked) (X := fun w _ => laidMetH Tryd.prog Rows.systemsGraphRow.laid w) (fun _ _ _ hh h => h.of_heap hh) own started (by kernel_rfl) Tryd.func3
  (ChangeSpec.witness_shaped (enc := enc) (C := Tryd.checked) (os := os) (X := fun w _ => laidMetH Tryd.prog Rows.systemsGraphRow.laid w) false (World.doorLaid Tryd.prog 400 os) #[.agg #[.int .u8 0, .int .u8 0, .slice none 0 0]] 8 rfl (World.shaped_of_RefB (by kernel_rfl) (by kernel_rfl)) (by kernel_rfl) (by kernel_rfl) (by kernel_rfl) (z5E os _)) ?_
 intro W base args ds gs before hval0 hW hcnd _ hL _
 have hval : ∀ (j : Nat) t v, Tryd.f3.params[j]? = some t → args[j]? = some v → Value.okWide Tryd.prog W .any base t v := hval0
 have hW' := hW
 obtain ⟨p, q, hA0, hV, rfl, hfz, hnd⟩ := hW
 have hA : DataW.TrodAll enc Tryd.prog W 0 (fun _ => true) true Tryd.f3.params.toList args.toList ds p := hA0
 rw [Tryd.params3] at hA hval
 obtain ⟨v0, d0, rfl, rfl, h0⟩ := trodAll_one hA
 obtain ⟨rfl, rfl⟩ := trodVars_none hV
 clear hA0 hval0
 refine (zee hL h0 (hval 0 (25 : Nat) v0 rfl rfl)).mono fun e W' ⟨he, hk⟩ => ?_
 subst he
 have hb : Below W.heap.size W W' := ⟨hk.os, hk.tape, hk.output, hk.size, fun k q => hk.block k (by omega)⟩
 have hlt : ∀ x ∈ p, x.block < W.heap.size := fun x hx => by simpa using hW'.lt x (by simpa using hx)
 refine ⟨_, rfl, Go.Own.z35 rfl rfl hW' hb (fun _ _ _ => trodAll_cons_mk (shut_bool Tryd.underlying4 _) trodAll_mk0) (fun sp hsp => ?_) (ok_one (by kernel_rfl) rfl (okWide_bool_mk Tryd.underlying4 _))⟩
 have st : ∀ {t : Nat} {v : Value} {d : DataW H} {p' : List MemPlace}, DataW.Trod enc Tryd.prog W 0 (fun _ => true) true t v d p' → Tryd.prog.readableRec t = true → t < Tryd.prog.types.size → (∀ x ∈ p', x ∈ p) → DataW.Trod enc Tryd.prog W' 0 sp true t v d p' := by
  intro t v d p' hd h1 h2 hp
  exact WideElems.Trod_stays z7R h1 h2 hd (fun x hx => hb.same (hlt x (hp x hx))) (fun x hx => hsp x (by simpa using hp x hx))
 have := trodAll_mk1 (st h0 (by kernel_rfl) (of_decide_eq_true (by kernel_rfl)) (fun x hx => by simp [hx]))
 rw [Tryd.params3]
 exact this
theorem Xg : Rows.systemsGraphRow.holds Tryd.pinned (OpenSpec.ofChange Rows.systemsGraphSpec) :=
 OpenClaim.holds_of_wide 3 Tryd.f3 rfl rfl rfl rfl rfl rfl rfl ⟨rfl, rfl, rfl, rfl, rfl⟩ rfl rfl rfl rfl rfl (by kernel_rfl) Tryd.func3 (by kernel_rfl)
  (of_decide_eq_true (by kernel_rfl)) (by unfold Func.isWrapper; first | (rw [if_pos (by decide +kernel)]; kernel_rfl) | (rw [if_neg (by decide +kernel)]; exact ⟨rfl, rfl⟩))
  (fun os started H enc _ => z9f os started H enc)
theorem proved : Rows.SystemsGraphCardSaid :=
 Claim7.holds_tied_plain_at .later [] [.sentinel] true (true, "1e8170c8d948f79f1f0fc6f3c3d266bcef5e74b12dfeea5fb754913f3cac7e1d") true
  Xg (fun _ h => by cases h) (by kernel_rfl) (fun _ h => by cases h) systemsGraph_row_tie rfl ⟨rfl, rfl⟩ (by kernel_rfl) rfl
  (fun f fn hf hfn => by
   obtain rfl : f = 3 := Option.some.inj ((show Tryd.prog.funcNamed "gauntlet/gauntletlaw31.SystemsGraph" = some 3 by kernel_rfl).symm.trans hf) |>.symm
   obtain rfl : fn = Tryd.f3 := (Option.some.inj (Tryd.func3.symm.trans hfn)).symm
   exact ⟨by kernel_rfl, fun j t ht => by
    rw [Tryd.params3] at ht
    have hm : t ∈ [25] := by simpa using Array.mem_of_getElem? ht
    have hall : ([25].all fun u => !Tryd.prog.wantsStandIn u) = true := by kernel_rfl
    exact (show Tryd.prog.wantsStandIn t = false by simpa using List.all_eq_true.1 hall t hm)⟩)
  (by kernel_rfl)
#print axioms proved
end Go.Proofs.YtcldlioffanjaaaDoor.systemsGraph
