/- A region that draws its order, whose operations read and whose callees may make memory of their own: walked once, in a family of worlds. -/
import Derived.Test.YtlodiibmofeikaaMem
import Derived.BigQuiet
namespace Go.Proofs.Ytlodiibmofeikaa
open Go.RowKit
set_option linter.unusedVariables false
set_option linter.unusedSimpArgs false

/-- all worlds that a world may become by making memory -/
theorem fam_of (w : World) : ∃ (G : Type) (_ : Nonempty G) (F : G → World), (∀ g, Below w.heap.size w (F g)) ∧ (∀ w', Below w.heap.size w w' → ∃ g, w' = F g) :=
  ⟨{w' : World // Below w.heap.size w w'}, ⟨⟨w, Below.refl _ w⟩⟩, Subtype.val, fun g => g.2, fun w' h => ⟨⟨w', h⟩, rfl⟩⟩
theorem wp_region_fam {P : Program} {G : Type} (F : G → World) {id : Nat} {Q : Exit → Act → World → Prop} {a : Act} {w : World} {l : List Oper} (hm : P.follows .mixedOrders = true) (hB : Region.lexB .any l.toArray = true)
    (hC : ∃ g, { w with drawn := w.drawn + 1 } = F g)
    (h : wpQuiet P l.toArray (fun w' => ∃ g, w' = F g) (fun a' => ∀ w', (∃ g, w' = F g) → Q .normal a' w') l a) : (Code.region id l.toArray true).wp P Q a w :=
  wp_region_quiet (C := fun w' => ∃ g, w' = F g) hm hB hC (by simpa using h)
theorem fam_call {P : Program} {G : Type} {F : G → World} {f : FuncId} {args : Array Value} {g : G} {v : Value} {w : World} (hF : ∀ g, Below w.heap.size w (F g)) (hG : ∀ w', Below w.heap.size w w' → ∃ g, w' = F g)
    (h : Calls P f args (F g) fun e w' => e = .returned v ∧ Below (F g).heap.size (F g) w') : Calls P f args (F g) fun e w' => e = .returned v ∧ ∃ g', w' = F g' :=
  h.mono fun _ _ ⟨he, hb⟩ => ⟨he, hG _ (bmore (hF g) hb (hF g).size)⟩
theorem fam_same {P : Program} {G : Type} {F : G → World} {f : FuncId} {args : Array Value} {g : G} {v : Value}
    (h : Calls P f args (F g) fun e w' => e = .returned v ∧ F g = w') : Calls P f args (F g) fun e w' => e = .returned v ∧ ∃ g', w' = F g' :=
  h.mono fun _ _ ⟨he, hw⟩ => ⟨he, g, hw.symm⟩
end Go.Proofs.Ytlodiibmofeikaa
