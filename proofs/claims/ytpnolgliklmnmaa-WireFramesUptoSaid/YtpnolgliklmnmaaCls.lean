/- A region that draws its order, whose operations read and call, in a class of worlds; over any program. -/
import Derived.Test.YtpnolgliklmnmaaAgg
import Derived.Test.YtpnolgliklmnmaaRoom
namespace Go.Agg
open Go.RowKit
variable {P : Program}
structure Cls (C : World → Prop) where
  w : World
  h : C w
theorem Calls.cls {C : World → Prop} {f : FuncId} {args : Array Value} {x : Cls C} {v : Value} (h : Calls P f args x.w fun e w' => e = .returned v ∧ C w') :
    Calls P f args x.w fun e w'' => e = .returned v ∧ ∃ y : Cls C, w'' = y.w := h.mono fun _ w' ⟨he, hw⟩ => ⟨he, ⟨w', hw⟩, rfl⟩
theorem Calls.clsB {C : World → Prop} {f : FuncId} {args : Array Value} {x : Cls C} {v : Value} (hC : ∀ w w', C w → Below w.heap.size w w' → C w') (h : Calls P f args x.w fun e w' => e = .returned v ∧ Below x.w.heap.size x.w w') :
    Calls P f args x.w fun e w'' => e = .returned v ∧ ∃ y : Cls C, w'' = y.w := h.mono fun _ w' ⟨he, hw⟩ => ⟨he, ⟨w', hC _ _ x.h hw⟩, rfl⟩
theorem wp_region_cls_lit {id : Nat} {Q : Exit → Act → World → Prop} {a : Act} {w : World} {l : List Oper} (C : World → Prop) (hm : P.follows .mixedOrders = true) (hB : Region.lexB .any l.toArray = true) (hC : C w.drew)
    (h : wpQuiet P l.toArray (fun w' => ∃ x : Cls C, w' = x.w) (fun a' => ∀ w', (∃ x : Cls C, w' = x.w) → Q .normal a' w') l a) : (Code.region id l.toArray true).wp P Q a w :=
  wp_region_quiet (C := fun w' => ∃ x : Cls C, w' = x.w) hm hB ⟨⟨_, hC⟩, rfl⟩ (by simpa using h)
end Go.Agg
