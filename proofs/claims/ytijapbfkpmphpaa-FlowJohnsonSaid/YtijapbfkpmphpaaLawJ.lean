/- The law FlowJohnson, for any shop. -/
import Derived.Test.YtijapbfkpmphpaaLawB
import Derived.Test.YtijapbfkpmphpaaSortF
namespace Go.Proofs.Ytijapbfkpmphpaa
open Go.RowKit

theorem stableOK_any {n : Nat} (h : n ≤ 100000) : StableOK n := fun fv D c w B g m cap xs hl ho hf hO hD => stable_any fv D c w B g m cap xs ho hf hO hD (by omega)
theorem johnson_any (v : Value) (p : List (List Int)) (w : World) (h : SS w v p) : Calls Try.prog 5 #[v] w (Law w) := johnson_law (fun _ _ => stableOK_any (by omega)) v p w h
end Go.Proofs.Ytijapbfkpmphpaa
