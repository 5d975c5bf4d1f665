/- The closed call lives() of law18 (function 20 of seat 1), evaluated in the kernel. -/
import Derived.Test.YtdnenbcldibnoaaExFns
import Derived.Test.YtdnenbcldibnoaaExI
namespace Go.Ex
open Go.Proofs

theorem orders : Try.prog.follows .mixedOrders = true := by kernel_rfl
set_option maxRecDepth 100000
theorem lives20 : isTrue (callD ETab FTab 1000 30 (.fn 20 []) [] ⟨.nil, .nil, 0⟩) = true := by decide +kernel
theorem lives20_calls (w : World) : Calls Try.prog 20 #[] w (fun e w' => e = .returned (.bool true) ∧ Kept (fun B => w.heap.size ≤ B) w w') := closed_true (callD_ok ETab_ok orders FTab_ok 30) lives20 w

end Go.Ex
