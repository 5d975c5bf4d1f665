/- The walks joined: the contract of the law. Printed by a program of the prover's. -/
import Derived.Test.YtdnenbcldibnoaaWalk1
import Derived.Test.YtdnenbcldibnoaaWalk2
import Derived.Test.YtdnenbcldibnoaaWalk3
import Derived.Test.YtdnenbcldibnoaaWalk4
import Derived.Test.YtdnenbcldibnoaaWalk5
import Derived.Test.YtdnenbcldibnoaaWalk6
import Derived.Test.YtdnenbcldibnoaaWalk7
import Derived.Test.YtdnenbcldibnoaaWalk8
import Derived.Test.YtdnenbcldibnoaaLives
namespace Go.Own
open Go.Proofs

theorem ks_ne {l : List Spec} {s : Spec} (h : ((l.map Spec.k).contains s.k) = false) : ∀ t ∈ l, t.k ≠ s.k := by
  intro t ht e
  have : (l.map Spec.k).contains s.k = true := by
    rw [List.contains_iff_mem, ← e]
    exact List.mem_map_of_mem ht
  rw [h] at this
  cases this

def L0 : List Spec := spMOf :: []
def L1 : List Spec := spTOf :: L0
def L2 : List Spec := spAlpha :: L1
def L3 : List Spec := spRaw :: L2
def L4 : List Spec := spRCmp :: L3
def L5 : List Spec := spPut :: L4
def L6 : List Spec := spSort :: L5
def L7 : List Spec := spLOf :: L6
def L8 : List Spec := spWithin :: L7
def L9 : List Spec := spNone :: L8
def L10 : List Spec := spFits :: L9
def L11 : List Spec := spNotFits :: L10
def L12 : List Spec := spIndex2 :: L11
def L13 : List Spec := spCont2 :: L12
def L14 : List Spec := spMCheck :: L13
def L15 : List Spec := spBad :: L14
def L16 : List Spec := spIndex1 :: L15
def L17 : List Spec := spCont1 :: L16
def L18 : List Spec := spWCheck :: L17
def L19 : List Spec := spLoose :: L18
def L20 : List Spec := spNaN :: L19
def L21 : List Spec := spCmpI :: L20
def L22 : List Spec := spLex :: L21
def L23 : List Spec := spOr :: L22
def L24 : List Spec := spWCmp :: L23
def L25 : List Spec := spAhead :: L24
def L26 : List Spec := spSteps :: L25
def L27 : List Spec := spTCheck :: L26
def L28 : List Spec := spReady :: L27
def L29 : List Spec := spStep :: L28
def L30 : List Spec := spPasses :: L29
def L31 : List Spec := spNext :: L30
def L32 : List Spec := spRun :: L31
def L33 : List Spec := spRStep :: L32
def L34 : List Spec := spRPasses :: L33
def L35 : List Spec := spClip :: L34
def L36 : List Spec := spFatal :: L35
def L37 : List Spec := spRFatal :: L36
def L38 : List Spec := spSame :: L37
def L39 : List Spec := spInts :: L38
def L40 : List Spec := spLives :: L39
def L41 : List Spec := spLaw :: L40
theorem L0_ok : SpecsOk Try.prog L0 := ⟨fun _ hc _ => wMOf hc Go.Ex.orders , ks_ne rfl, trivial⟩
theorem L1_ok : SpecsOk Try.prog L1 := ⟨fun _ hc _ => wTOf hc Go.Ex.orders , ks_ne rfl, L0_ok⟩
theorem L2_ok : SpecsOk Try.prog L2 := ⟨fun _ hc _ => wAlpha hc Go.Ex.orders , ks_ne rfl, L1_ok⟩
theorem L3_ok : SpecsOk Try.prog L3 := ⟨fun _ hc H => wRaw hc Go.Ex.orders (H _ (List.mem_cons_self)), ks_ne rfl, L2_ok⟩
theorem L4_ok : SpecsOk Try.prog L4 := ⟨fun _ hc _ => wRCmp hc Go.Ex.orders , ks_ne rfl, L3_ok⟩
theorem L5_ok : SpecsOk Try.prog L5 := ⟨fun _ hc H => wPut hc Go.Ex.orders (H _ (List.mem_cons_self)), ks_ne rfl, L4_ok⟩
theorem L6_ok : SpecsOk Try.prog L6 := ⟨fun _ hc H => wSort hc Go.Ex.orders (H _ (List.mem_cons_self)), ks_ne rfl, L5_ok⟩
theorem L7_ok : SpecsOk Try.prog L7 := ⟨fun _ hc H => wLOf hc Go.Ex.orders (H _ (List.mem_cons_of_mem _ (List.mem_cons_of_mem _ (List.mem_cons_of_mem _ (List.mem_cons_self))))) (H _ (List.mem_cons_self)), ks_ne rfl, L6_ok⟩
theorem L8_ok : SpecsOk Try.prog L8 := ⟨fun _ hc H => wWithin hc Go.Ex.orders (H _ (List.mem_cons_of_mem _ (List.mem_cons_self))), ks_ne rfl, L7_ok⟩
theorem L9_ok : SpecsOk Try.prog L9 := ⟨fun _ hc _ => wNone hc Go.Ex.orders , ks_ne rfl, L8_ok⟩
theorem L10_ok : SpecsOk Try.prog L10 := ⟨fun _ hc H => wFits hc Go.Ex.orders (H _ (List.mem_cons_self)), ks_ne rfl, L9_ok⟩
theorem L11_ok : SpecsOk Try.prog L11 := ⟨fun _ hc H => wNotFits hc Go.Ex.orders (H _ (List.mem_cons_self)), ks_ne rfl, L10_ok⟩
theorem L12_ok : SpecsOk Try.prog L12 := ⟨fun _ hc H => wIndex2 hc Go.Ex.orders (H _ (List.mem_cons_self)), ks_ne rfl, L11_ok⟩
theorem L13_ok : SpecsOk Try.prog L13 := ⟨fun _ hc H => wCont2 hc Go.Ex.orders (H _ (List.mem_cons_self)), ks_ne rfl, L12_ok⟩
theorem L14_ok : SpecsOk Try.prog L14 := ⟨fun _ hc H => wMCheck hc Go.Ex.orders (H _ (List.mem_cons_self)), ks_ne rfl, L13_ok⟩
theorem L15_ok : SpecsOk Try.prog L15 := ⟨fun _ hc _ => wBad hc Go.Ex.orders , ks_ne rfl, L14_ok⟩
theorem L16_ok : SpecsOk Try.prog L16 := ⟨fun _ hc H => wIndex1 hc Go.Ex.orders (H _ (List.mem_cons_self)), ks_ne rfl, L15_ok⟩
theorem L17_ok : SpecsOk Try.prog L17 := ⟨fun _ hc H => wCont1 hc Go.Ex.orders (H _ (List.mem_cons_self)), ks_ne rfl, L16_ok⟩
theorem L18_ok : SpecsOk Try.prog L18 := ⟨fun _ hc H => wWCheck hc Go.Ex.orders (H _ (List.mem_cons_self)), ks_ne rfl, L17_ok⟩
theorem L19_ok : SpecsOk Try.prog L19 := ⟨fun _ hc H => wLoose hc Go.Ex.orders (H _ (List.mem_cons_self)), ks_ne rfl, L18_ok⟩
theorem L20_ok : SpecsOk Try.prog L20 := ⟨fun _ hc _ => wNaN hc Go.Ex.orders , ks_ne rfl, L19_ok⟩
theorem L21_ok : SpecsOk Try.prog L21 := ⟨fun _ hc H => wCmpI hc Go.Ex.orders (H _ (List.mem_cons_self)), ks_ne rfl, L20_ok⟩
theorem L22_ok : SpecsOk Try.prog L22 := ⟨fun _ hc H => wLex hc Go.Ex.orders (H _ (List.mem_cons_self)), ks_ne rfl, L21_ok⟩
theorem L23_ok : SpecsOk Try.prog L23 := ⟨fun _ hc _ => wOr hc Go.Ex.orders , ks_ne rfl, L22_ok⟩
theorem L24_ok : SpecsOk Try.prog L24 := ⟨fun _ hc H => wWCmp hc Go.Ex.orders (H _ (List.mem_cons_of_mem _ (List.mem_cons_of_mem _ (List.mem_cons_self)))) (H _ (List.mem_cons_of_mem _ (List.mem_cons_self))) (H _ (List.mem_cons_self)), ks_ne rfl, L23_ok⟩
theorem L25_ok : SpecsOk Try.prog L25 := ⟨fun _ hc H => wAhead hc Go.Ex.orders (H _ (List.mem_cons_self)), ks_ne rfl, L24_ok⟩
theorem L26_ok : SpecsOk Try.prog L26 := ⟨fun _ hc _ => wSteps hc Go.Ex.orders , ks_ne rfl, L25_ok⟩
theorem L27_ok : SpecsOk Try.prog L27 := ⟨fun _ hc H => wTCheck hc Go.Ex.orders (H _ (List.mem_cons_of_mem _ (List.mem_cons_of_mem _ (List.mem_cons_of_mem _ (List.mem_cons_of_mem _ (List.mem_cons_of_mem _ (List.mem_cons_of_mem _ (List.mem_cons_of_mem _ (List.mem_cons_self))))))))) (H _ (List.mem_cons_of_mem _ (List.mem_cons_self))) (H _ (List.mem_cons_self)), ks_ne rfl, L26_ok⟩
theorem L28_ok : SpecsOk Try.prog L28 := ⟨fun _ hc H => wReady hc Go.Ex.orders (H _ (List.mem_cons_of_mem _ (List.mem_cons_of_mem _ (List.mem_cons_of_mem _ (List.mem_cons_of_mem _ (List.mem_cons_of_mem _ (List.mem_cons_of_mem _ (List.mem_cons_of_mem _ (List.mem_cons_of_mem _ (List.mem_cons_of_mem _ (List.mem_cons_of_mem _ (List.mem_cons_of_mem _ (List.mem_cons_of_mem _ (List.mem_cons_of_mem _ (List.mem_cons_self))))))))))))))) (H _ (List.mem_cons_self)), ks_ne rfl, L27_ok⟩
theorem L29_ok : SpecsOk Try.prog L29 := ⟨fun _ hc _ => wStep hc Go.Ex.orders , ks_ne rfl, L28_ok⟩
theorem L30_ok : SpecsOk Try.prog L30 := ⟨fun _ hc H => wPasses hc Go.Ex.orders (H _ (List.mem_cons_of_mem _ (List.mem_cons_self))) (H _ (List.mem_cons_self)), ks_ne rfl, L29_ok⟩
theorem L31_ok : SpecsOk Try.prog L31 := ⟨fun _ hc _ => wNext hc Go.Ex.orders , ks_ne rfl, L30_ok⟩
theorem L32_ok : SpecsOk Try.prog L32 := ⟨fun _ hc H => wRun hc Go.Ex.orders (H _ (List.mem_cons_self)), ks_ne rfl, L31_ok⟩
theorem L33_ok : SpecsOk Try.prog L33 := ⟨fun _ hc H => wRStep hc Go.Ex.orders (H _ (List.mem_cons_self)), ks_ne rfl, L32_ok⟩
theorem L34_ok : SpecsOk Try.prog L34 := ⟨fun _ hc H => wRPasses hc Go.Ex.orders (H _ (List.mem_cons_self)), ks_ne rfl, L33_ok⟩
theorem L35_ok : SpecsOk Try.prog L35 := ⟨fun _ hc _ => wClip hc Go.Ex.orders , ks_ne rfl, L34_ok⟩
theorem L36_ok : SpecsOk Try.prog L36 := ⟨fun _ hc H => wFatal hc Go.Ex.orders (H _ (List.mem_cons_of_mem _ (List.mem_cons_of_mem _ (List.mem_cons_of_mem _ (List.mem_cons_of_mem _ (List.mem_cons_of_mem _ (List.mem_cons_of_mem _ (List.mem_cons_of_mem _ (List.mem_cons_self))))))))) (H _ (List.mem_cons_of_mem _ (List.mem_cons_of_mem _ (List.mem_cons_of_mem _ (List.mem_cons_of_mem _ (List.mem_cons_of_mem _ (List.mem_cons_of_mem _ (List.mem_cons_self)))))))) (H _ (List.mem_cons_self)), ks_ne rfl, L35_ok⟩
theorem L37_ok : SpecsOk Try.prog L37 := ⟨fun _ hc H => wRFatal hc Go.Ex.orders (H _ (List.mem_cons_of_mem _ (List.mem_cons_of_mem _ (List.mem_cons_of_mem _ (List.mem_cons_self))))), ks_ne rfl, L36_ok⟩
theorem L38_ok : SpecsOk Try.prog L38 := ⟨fun _ hc H => wSame hc Go.Ex.orders (H _ (List.mem_cons_of_mem _ (List.mem_cons_of_mem _ (List.mem_cons_of_mem _ (List.mem_cons_of_mem _ (List.mem_cons_of_mem _ (List.mem_cons_of_mem _ (List.mem_cons_of_mem _ (List.mem_cons_of_mem _ (List.mem_cons_of_mem _ (List.mem_cons_of_mem _ (List.mem_cons_of_mem _ (List.mem_cons_of_mem _ (List.mem_cons_of_mem _ (List.mem_cons_of_mem _ (List.mem_cons_of_mem _ (List.mem_cons_of_mem _ (List.mem_cons_of_mem _ (List.mem_cons_of_mem _ (List.mem_cons_of_mem _ (List.mem_cons_of_mem _ (List.mem_cons_of_mem _ (List.mem_cons_of_mem _ (List.mem_cons_of_mem _ (List.mem_cons_of_mem _ (List.mem_cons_of_mem _ (List.mem_cons_of_mem _ (List.mem_cons_of_mem _ (List.mem_cons_of_mem _ (List.mem_cons_of_mem _ (List.mem_cons_of_mem _ (List.mem_cons_of_mem _ (List.mem_cons_of_mem _ (List.mem_cons_of_mem _ (List.mem_cons_self))))))))))))))))))))))))))))))))))), ks_ne rfl, L37_ok⟩
theorem L39_ok : SpecsOk Try.prog L39 := ⟨fun _ hc H => wInts hc Go.Ex.orders (H _ (List.mem_cons_self)), ks_ne rfl, L38_ok⟩
theorem L40_ok : SpecsOk Try.prog L40 := ⟨fun _ _ _ => wLives, ks_ne rfl, L39_ok⟩
theorem L41_ok : SpecsOk Try.prog L41 := ⟨fun _ hc H => wLaw hc Go.Ex.orders (H _ (List.mem_cons_of_mem _ (List.mem_cons_of_mem _ (List.mem_cons_of_mem _ (List.mem_cons_of_mem _ (List.mem_cons_of_mem _ (List.mem_cons_of_mem _ (List.mem_cons_of_mem _ (List.mem_cons_of_mem _ (List.mem_cons_of_mem _ (List.mem_cons_of_mem _ (List.mem_cons_of_mem _ (List.mem_cons_of_mem _ (List.mem_cons_of_mem _ (List.mem_cons_of_mem _ (List.mem_cons_of_mem _ (List.mem_cons_of_mem _ (List.mem_cons_of_mem _ (List.mem_cons_of_mem _ (List.mem_cons_of_mem _ (List.mem_cons_of_mem _ (List.mem_cons_of_mem _ (List.mem_cons_of_mem _ (List.mem_cons_of_mem _ (List.mem_cons_of_mem _ (List.mem_cons_of_mem _ (List.mem_cons_of_mem _ (List.mem_cons_of_mem _ (List.mem_cons_of_mem _ (List.mem_cons_of_mem _ (List.mem_cons_of_mem _ (List.mem_cons_of_mem _ (List.mem_cons_of_mem _ (List.mem_cons_of_mem _ (List.mem_cons_of_mem _ (List.mem_cons_of_mem _ (List.mem_cons_of_mem _ (List.mem_cons_of_mem _ (List.mem_cons_of_mem _ (List.mem_cons_of_mem _ (List.mem_cons_of_mem _ (List.mem_cons_self)))))))))))))))))))))))))))))))))))))))))) (H _ (List.mem_cons_of_mem _ (List.mem_cons_of_mem _ (List.mem_cons_of_mem _ (List.mem_cons_of_mem _ (List.mem_cons_of_mem _ (List.mem_cons_of_mem _ (List.mem_cons_of_mem _ (List.mem_cons_of_mem _ (List.mem_cons_of_mem _ (List.mem_cons_of_mem _ (List.mem_cons_of_mem _ (List.mem_cons_of_mem _ (List.mem_cons_of_mem _ (List.mem_cons_of_mem _ (List.mem_cons_of_mem _ (List.mem_cons_of_mem _ (List.mem_cons_of_mem _ (List.mem_cons_of_mem _ (List.mem_cons_of_mem _ (List.mem_cons_of_mem _ (List.mem_cons_of_mem _ (List.mem_cons_of_mem _ (List.mem_cons_of_mem _ (List.mem_cons_of_mem _ (List.mem_cons_of_mem _ (List.mem_cons_of_mem _ (List.mem_cons_of_mem _ (List.mem_cons_of_mem _ (List.mem_cons_of_mem _ (List.mem_cons_of_mem _ (List.mem_cons_of_mem _ (List.mem_cons_of_mem _ (List.mem_cons_of_mem _ (List.mem_cons_of_mem _ (List.mem_cons_of_mem _ (List.mem_cons_of_mem _ (List.mem_cons_of_mem _ (List.mem_cons_of_mem _ (List.mem_cons_of_mem _ (List.mem_cons_self))))))))))))))))))))))))))))))))))))))))) (H _ (List.mem_cons_of_mem _ (List.mem_cons_of_mem _ (List.mem_cons_of_mem _ (List.mem_cons_of_mem _ (List.mem_cons_of_mem _ (List.mem_cons_of_mem _ (List.mem_cons_of_mem _ (List.mem_cons_of_mem _ (List.mem_cons_of_mem _ (List.mem_cons_of_mem _ (List.mem_cons_of_mem _ (List.mem_cons_of_mem _ (List.mem_cons_of_mem _ (List.mem_cons_of_mem _ (List.mem_cons_of_mem _ (List.mem_cons_of_mem _ (List.mem_cons_of_mem _ (List.mem_cons_of_mem _ (List.mem_cons_of_mem _ (List.mem_cons_of_mem _ (List.mem_cons_of_mem _ (List.mem_cons_of_mem _ (List.mem_cons_of_mem _ (List.mem_cons_of_mem _ (List.mem_cons_of_mem _ (List.mem_cons_of_mem _ (List.mem_cons_of_mem _ (List.mem_cons_of_mem _ (List.mem_cons_of_mem _ (List.mem_cons_of_mem _ (List.mem_cons_of_mem _ (List.mem_cons_of_mem _ (List.mem_cons_of_mem _ (List.mem_cons_self))))))))))))))))))))))))))))))))))) (H _ (List.mem_cons_of_mem _ (List.mem_cons_of_mem _ (List.mem_cons_of_mem _ (List.mem_cons_of_mem _ (List.mem_cons_of_mem _ (List.mem_cons_of_mem _ (List.mem_cons_of_mem _ (List.mem_cons_of_mem _ (List.mem_cons_of_mem _ (List.mem_cons_of_mem _ (List.mem_cons_of_mem _ (List.mem_cons_of_mem _ (List.mem_cons_of_mem _ (List.mem_cons_of_mem _ (List.mem_cons_of_mem _ (List.mem_cons_of_mem _ (List.mem_cons_of_mem _ (List.mem_cons_of_mem _ (List.mem_cons_of_mem _ (List.mem_cons_of_mem _ (List.mem_cons_of_mem _ (List.mem_cons_of_mem _ (List.mem_cons_of_mem _ (List.mem_cons_of_mem _ (List.mem_cons_of_mem _ (List.mem_cons_of_mem _ (List.mem_cons_of_mem _ (List.mem_cons_of_mem _ (List.mem_cons_of_mem _ (List.mem_cons_of_mem _ (List.mem_cons_of_mem _ (List.mem_cons_of_mem _ (List.mem_cons_self)))))))))))))))))))))))))))))))))) (H _ (List.mem_cons_of_mem _ (List.mem_cons_of_mem _ (List.mem_cons_of_mem _ (List.mem_cons_of_mem _ (List.mem_cons_of_mem _ (List.mem_cons_of_mem _ (List.mem_cons_of_mem _ (List.mem_cons_of_mem _ (List.mem_cons_of_mem _ (List.mem_cons_of_mem _ (List.mem_cons_self)))))))))))) (H _ (List.mem_cons_of_mem _ (List.mem_cons_of_mem _ (List.mem_cons_of_mem _ (List.mem_cons_of_mem _ (List.mem_cons_of_mem _ (List.mem_cons_of_mem _ (List.mem_cons_self)))))))) (H _ (List.mem_cons_of_mem _ (List.mem_cons_of_mem _ (List.mem_cons_of_mem _ (List.mem_cons_of_mem _ (List.mem_cons_self)))))) (H _ (List.mem_cons_of_mem _ (List.mem_cons_of_mem _ (List.mem_cons_of_mem _ (List.mem_cons_self))))) (H _ (List.mem_cons_of_mem _ (List.mem_cons_self))) (H _ (List.mem_cons_self)), ks_ne rfl, L40_ok⟩

theorem law_ok : spLaw.Ok Try.prog := ctrOf_call L41_ok List.mem_cons_self

end Go.Own
