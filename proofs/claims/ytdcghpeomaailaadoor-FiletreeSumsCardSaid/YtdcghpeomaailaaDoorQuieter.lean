/-
  A region that draws its order and whose callees make memory, walked once: the worlds that meet S as a class ('wp_region_quiet' of the library at the class In S).
-/
import Derived.Test.YtdcghpeomaailaaDoorBase
namespace Go.Proofs.YtdcghpeomaailaaDoor
open Go.RowKit Go.Lib

/-- The worlds that meet S. (No subtype: 'simp' would lay that open.) -/
structure In (S : World → Prop) where
  val : World
  property : S val

theorem wp_region_quiet_sub {P : Program} {S : World → Prop} {id : Nat} {Q : Exit → Act → World → Prop} {a : Act} {w : World} {l : List Oper} (hm : P.follows .mixedOrders = true) (hB : Region.lexB .any l.toArray = true) (hS : S w.drew)
    (h : Nonempty (In S) → wpQuiet P l.toArray (fun w' => ∃ x : In S, w' = x.val) (fun a' => ∀ w', (∃ x : In S, w' = x.val) → Q .normal a' w') l a) : (Code.region id l.toArray true).wp P Q a w :=
  wp_region_quiet (C := fun w' => ∃ x : In S, w' = x.val) hm hB ⟨⟨_, hS⟩, rfl⟩ (by simpa using h ⟨⟨_, hS⟩⟩)

/-- The worlds that have grown out of w0. -/
structure Out (w0 W : World) : Prop where
  below : Below w0.heap.size w0 W

theorem in_call {P : Program} {f : FuncId} {args : Array Value} {v : Value} {w0 : World} (h : ∀ W, Below w0.heap.size w0 W → Calls P f args W fun e w' => e = .returned v ∧ Below W.heap.size W w') (x : In (Out w0)) :
    Calls P f args x.val fun e w' => e = .returned v ∧ ∃ y : In (Out w0), w' = y.val :=
  (h x.val x.property.below).mono (by
    rintro e w' ⟨rfl, hb⟩
    exact ⟨rfl, ⟨w', ⟨below_then x.property.below hb⟩⟩, rfl⟩)

theorem in_cell {w0 : World} {a : Addr} {v : Value} (h : w0.cell? a = some v) (x : In (Out w0)) : x.val.cell? a = some v :=
  (x.property.below.cell (p := a) (World.block_lt_of_cell? _ _ h)).trans h

/- A region is walked so: 'refine wp_region_quiet_sub (S := S) (by kernel_rfl) (by kernel_rfl) hS ?_; intro hne; repeat (go_big_quiet_step (arms)); refine wpQuiet_nil ?_; intro wq hw'; obtain ⟨⟨wq0, hwq⟩, hw2⟩ := hw'; simp only at hw2; subst hw2; clear hne'. hS : S of the world behind the draw. The facts of the worlds of S are laid as '∀ x : In S, x.val.cell? .. = ..'; a callee's contract as 'Calls .. x.val (fun e w' => e = .returned v ∧ ∃ y : In S, w' = y.val)'. Behind it: 'hwq : S wq'. -/

end Go.Proofs.YtdcghpeomaailaaDoor
