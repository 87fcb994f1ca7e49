/-
  A contract, said of all worlds behind a given one.
  Conditions: none.
-/
import Derived.Test.YtnjifahnfmifgaaBase
namespace Go.Proofs.Ytnjifahnfmifgaa
open Go.RowKit
theorem ext_b {f : Nat} {args : Array Value} {r : Ending} (w0 : World) (hc : ∀ w, Calls Try.prog f args w fun e w' => e = r ∧ Below w.heap.size w w') :
    ∀ wx, Below w0.heap.size w0 wx → Calls Try.prog f args wx fun e w' => e = r ∧ Below w0.heap.size w0 w' := fun wx hx =>
  (hc wx).mono fun _ _ h => ⟨h.1, hx.trans (h.2.mono hx.size)⟩
theorem ext_q {f : Nat} {args : Array Value} {r : Ending} (w0 : World) (hc : ∀ w, Calls Try.prog f args w fun e w' => e = r ∧ w = w') :
    ∀ wx, Below w0.heap.size w0 wx → Calls Try.prog f args wx fun e w' => e = r ∧ Below w0.heap.size w0 w' := fun wx hx =>
  (hc wx).mono fun _ _ h => ⟨h.1, h.2 ▸ hx⟩
end Go.Proofs.Ytnjifahnfmifgaa
