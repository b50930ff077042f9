/- A region that draws its order, walked once for a class of worlds. -/
import Derived.Test.YtfjccjjdgbkbiaaDoorBase
import Derived.BigQuiet
import Derived.Deep.RegionWith
namespace Go.Proofs.YtfjccjjdgbkbiaaDoor
open Go.RowKit
set_option linter.unusedVariables false

/-- A region that draws its order, where all operations yield the same in all worlds of a class, and leave a world of the class: one walk of it. -/
theorem wp_region_class {P : Program} {id : Nat} {Q : Exit → Act → World → Prop} {a : Act} {w : World} {l : List Oper} (C : World → Prop) (hm : P.follows .mixedOrders = true) (hB : Region.lexB .any l.toArray = true) (hC : C w.drew)
    (h : wpQuiet P l.toArray C (fun a' => ∀ w', C w' → Q .normal a' w') l a) : (Code.region id l.toArray true).wp P Q a w :=
  wp_region_quiet (C := C) hm hB hC (by simpa using h)

end Go.Proofs.YtfjccjjdgbkbiaaDoor
