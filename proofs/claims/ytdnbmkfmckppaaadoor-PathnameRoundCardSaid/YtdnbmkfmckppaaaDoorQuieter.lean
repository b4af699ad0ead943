/-
  A region that draws its order and whose callees make memory, walked once: the worlds that meet S as a class ('wp_region_quiet' of the library at the class In S).
-/
import Derived.Test.YtdnbmkfmckppaaaDoorBase
namespace Go.Proofs.YtdnbmkfmckppaaaDoor
open Go.RowKit Go.Lib

/-- The worlds that meet S. (No subtype: 'simp' would lay that open.) -/
structure In (S : World → Prop) where
  val : World
  property : S val

theorem wp_region_quiet_sub {P : Program} {S : World → Prop} {id : Nat} {Q : Exit → Act → World → Prop} {a : Act} {w : World} {l : List Oper} (hm : P.follows .mixedOrders = true) (hB : Region.lexB .any l.toArray = true) (hS : S w.drew)
    (h : Nonempty (In S) → wpQuiet P l.toArray (fun w' => ∃ x : In S, w' = x.val) (fun a' => ∀ w', (∃ x : In S, w' = x.val) → Q .normal a' w') l a) : (Code.region id l.toArray true).wp P Q a w :=
  wp_region_quiet (C := fun w' => ∃ x : In S, w' = x.val) hm hB ⟨⟨_, hS⟩, rfl⟩ (by simpa using h ⟨⟨_, hS⟩⟩)

/- A region is walked so: 'refine wp_region_quiet_sub (S := S) (by kernel_rfl) (by kernel_rfl) hS ?_; intro hne; repeat (go_big_quiet_step (arms)); refine wpQuiet_nil ?_; intro wq hw'; obtain ⟨⟨wq0, hwq⟩, hw2⟩ := hw'; simp only at hw2; subst hw2; clear hne'. hS : S of the world behind the draw. The facts of the worlds of S are laid as '∀ x : In S, x.val.cell? .. = ..'; a callee's contract as 'Calls .. x.val (fun e w' => e = .returned v ∧ ∃ y : In S, w' = y.val)'. Behind it: 'hwq : S wq'. -/

end Go.Proofs.YtdnbmkfmckppaaaDoor
