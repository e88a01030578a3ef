/- What calendar's laws call, at a plan. -/
import Derived.Test.YtbjnpiaooehmjaaDoorCalMade
import Derived.Test.YtbjnpiaooehmjaaDoorCalAwk
namespace Go.Proofs.YtbjnpiaooehmjaaDoor
open Go.RowKit

/-- what a law calls, at a plan -/
structure LC (w : World) (p : Value) (sh : List Sp) (cl : List Int) : Prop where
  rt : ∀ W, Below w.heap.size w W → Calls Tryd.prog 8 #[p] W (Ret W (.bool (decide (newE sh cl = 0))))
  md : newE sh cl = 0 → ∀ W, Below w.heap.size w W → Calls Tryd.prog 9 #[p] W (PostM W sh cl)
  aw : ∀ W, Below w.heap.size w W → Calls Tryd.prog 5 #[] W (Ret W (.bool true))
theorem LC.of {w : World} {p : Value} {sh : List Sp} {cl : List Int} (h : CalR w p sh cl) (hV : VarsC w) : LC w p sh cl :=
  ⟨fun W hW => right_any p sh cl W (h.keep hW), fun hE W hW => made_yes p sh cl W (h.keep hW) hE, fun W hW => awake_any W (hV.keep hW)⟩

end Go.Proofs.YtbjnpiaooehmjaaDoor
