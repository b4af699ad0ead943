/-
  Plain laws for moves.
-/
import Derived.Test.YtdcghpeomaailaaDoorFtMem
import Derived.Test.YtdcghpeomaailaaDoorFt2
import Derived.Test.YtdcghpeomaailaaDoorFtMoveL
import Derived.Lib.Strings
namespace Go.Proofs.YtdcghpeomaailaaDoor.Ft
open Pn (B cmpP validP withinP parentP)

theorem trim_within {a p : B} (h : withinP a p = true) (ha : a ≠ []) : Lib.trimPrefix p a = p.drop a.length := by
  unfold Lib.trimPrefix
  rw [if_pos]
  unfold Lib.hasPrefix
  unfold withinP at h
  simp only [Bool.and_eq_true, Bool.or_eq_true, beq_iff_eq] at h
  rcases h.2 with (h1 | h1) | h1
  · rw [List.isEmpty_iff] at h1; exact absurd h1 ha
  · rw [h1]; simp
  · rw [List.isPrefixOf_iff_prefix] at h1 ⊢
    exact (List.prefix_append a [47]).trans h1

theorem insE_le {e : Ent} {t : List Ent} (h : SortedT t) : (insE e t).length ≤ t.length + 1 := by
  rw [insE_len h]; split <;> omega

theorem fold_le : ∀ (l : List Ent) {t : List Ent}, SortedT t → (l.foldl (fun t e => insE e t) t).length ≤ t.length + l.length
  | [], t, _ => by simp
  | e :: l, t, h => by
    have := fold_le l (insE_sorted (e := e) h)
    have h2 := insE_le (e := e) h
    simp only [List.foldl_cons, List.length_cons]
    omega

theorem fold_take (l : List Ent) (t : List Ent) {i : Nat} (hi : i < l.length) : (l.take (i + 1)).foldl (fun t e => insE e t) t = insE l[i] ((l.take i).foldl (fun t e => insE e t) t) := by
  rw [List.take_succ_eq_append_getElem hi, List.foldl_append]
  rfl

theorem filter_compl {α : Type} (p : α → Bool) : ∀ (l : List α), (l.filter p).length + (l.filter fun x => !p x).length = l.length
  | [] => rfl
  | a :: l => by
    have := filter_compl p l
    cases h : p a <;> simp [h] <;> omega

end Go.Proofs.YtdcghpeomaailaaDoor.Ft
