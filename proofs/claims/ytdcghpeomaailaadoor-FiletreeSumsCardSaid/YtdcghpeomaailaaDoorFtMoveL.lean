/-
  Plain laws for moves: entries put in one after the other; an entry with another path.
-/
import Derived.Test.YtdcghpeomaailaaDoorFt2
namespace Go.Proofs.YtdcghpeomaailaaDoor.Ft
open Pn (B cmpP validP withinP parentP)

theorem shift_valid {e : Ent} {a b : B} (h : e.valid = true) (hv : validP (e.shift a b).path = true) : (e.shift a b).valid = true := by
  unfold Ent.valid at *
  simp only [Bool.and_eq_true] at h ⊢
  exact ⟨⟨⟨⟨hv, h.1.1.1.2⟩, h.1.1.2⟩, h.1.2⟩, h.2⟩

theorem fold_sorted : ∀ (l : List Ent) {t : List Ent}, SortedT t → SortedT (l.foldl (fun t e => insE e t) t)
  | [], _, h => h
  | _ :: l, _, h => fold_sorted l (insE_sorted h)

end Go.Proofs.YtdcghpeomaailaaDoor.Ft
