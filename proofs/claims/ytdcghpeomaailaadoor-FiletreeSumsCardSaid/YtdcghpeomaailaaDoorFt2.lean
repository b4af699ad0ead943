/-
  Plain laws on trees of files: filling in order; the entries at and below a path; sorted lists of paths.
-/
import Derived.Test.YtdcghpeomaailaaDoorFt
namespace Go.Proofs.YtdcghpeomaailaaDoor.Ft
open Pn (B cmpP validP withinP parentP)

theorem insE_last {e : Ent} : ∀ {t : List Ent}, (∀ x ∈ t, cmpP x.path e.path < 0) → insE e t = t ++ [e]
  | [], _ => rfl
  | y :: t, h => by
    have h1 := h y (by simp)
    have h2 : cmpP e.path y.path = -cmpP y.path e.path := Pn.cmp_neg _ _
    rw [insE, if_neg (by omega), if_neg (fun e1 => cmp_lt_ne h1 e1.symm), insE_last (fun x hx => h x (by simp [hx]))]
    rfl

theorem last_less {t : List Ent} (hs : SortedT t) {x e : Ent} (hx : t.getLast? = some x) (h : cmpP x.path e.path < 0) : ∀ y ∈ t, cmpP y.path e.path < 0 := by
  obtain ⟨q, rfl⟩ := List.getLast?_eq_some_iff.1 hx
  intro y hy
  rcases List.mem_append.1 hy with hy | hy
  · have := (List.pairwise_append.1 hs).2.2 y hy x (by simp)
    exact cmp_lt_trans this h
  · simp only [List.mem_singleton] at hy
    subst hy; exact h

theorem none_less {t : List Ent} {e : Ent} (hx : t.getLast? = none) : ∀ y ∈ t, cmpP y.path e.path < 0 := by
  rw [List.getLast?_eq_none_iff] at hx
  subst hx
  intro y hy; cases hy

theorem snoc_sorted {t : List Ent} (hs : SortedT t) {e : Ent} (h : ∀ y ∈ t, cmpP y.path e.path < 0) : SortedT (t ++ [e]) := by
  unfold SortedT
  rw [List.pairwise_append]
  exact ⟨hs, by simp, fun a ha b hb => by simp only [List.mem_singleton] at hb; subst hb; exact h a ha⟩

/-- What Check accepts is the tree itself. -/
theorem fillGo_ok : ∀ (r acc : List Ent), (fillGo acc r).2 = 0 → (fillGo acc r).1 = acc ++ r
  | [], acc, _ => by simp [fillGo]
  | e :: r, acc, h => by
    rw [fillGo] at h ⊢
    split at h
    · simp at h
    · rename_i h1
      rw [if_neg h1]
      split at h
      · rename_i h2
        exact absurd h h2
      · rename_i h2
        rw [if_neg h2, fillGo_ok r _ h]
        simp

/-- Paths in strict order. -/
def SortedB (l : List B) : Prop := l.Pairwise (fun a b => cmpP a b < 0)

theorem sortedB_ext {t u : List B} (ht : SortedB t) (hu : SortedB u) (h : ∀ x, x ∈ t ↔ x ∈ u) : t = u := by
  induction t generalizing u with
  | nil =>
    cases u with
    | nil => rfl
    | cons y u => exact absurd ((h y).2 (by simp)) (by simp)
  | cons a t ih =>
    cases u with
    | nil => exact absurd ((h a).1 (by simp)) (by simp)
    | cons b u =>
      obtain ⟨h1, h2⟩ := List.pairwise_cons.1 ht
      obtain ⟨h3, h4⟩ := List.pairwise_cons.1 hu
      have hab : a = b := by
        rcases List.mem_cons.1 ((h a).1 (by simp)) with e | ha
        · exact e
        · rcases List.mem_cons.1 ((h b).2 (by simp)) with e | hb
          · exact e.symm
          · have e1 := h3 a ha
            have e2 := h1 b hb
            rw [cmp_flip] at e1
            omega
      subst hab
      rw [ih h2 h4 fun x => ?_]
      constructor
      · intro hx
        rcases List.mem_cons.1 ((h x).1 (List.mem_cons_of_mem _ hx)) with rfl | hx2
        · exact absurd rfl (cmp_lt_ne (h1 x hx))
        · exact hx2
      · intro hx
        rcases List.mem_cons.1 ((h x).2 (List.mem_cons_of_mem _ hx)) with rfl | hx2
        · exact absurd rfl (cmp_lt_ne (h3 x hx))
        · exact hx2

theorem paths_sorted {t : List Ent} (h : SortedT t) : SortedB (t.map fun e => e.path) := List.pairwise_map.2 h

/-- Sorted without a strict sign, and no path twice: in strict order. -/
theorem sortedB_of {l : List B} (h : l.Pairwise (fun a b => cmpP a b ≤ 0)) (hn : l.Nodup) : SortedB l := by
  unfold SortedB
  have := List.Pairwise.and h hn
  refine this.imp ?_
  rintro a b ⟨h1, h2⟩
  have h3 : cmpP a b ≠ 0 := fun e => h2 ((Pn.cmp_eq a b).1 e)
  omega

theorem under_eq {t : List Ent} {p : B} (h : find t p ≠ none ∨ p = []) : under t p = t.filter (fun e => withinP p e.path) := by
  unfold under
  rw [if_neg]
  rintro ⟨h1, h2⟩
  rcases h with h | h
  · exact h h1
  · exact h2 h

theorem under_nil {t : List Ent} {p : B} (h1 : find t p = none) (h2 : p ≠ []) : under t p = [] := by
  unfold under
  rw [if_pos ⟨h1, h2⟩]

theorem under_sorted {t : List Ent} (hs : SortedT t) (p : B) : SortedT (under t p) := by
  unfold under
  split
  · exact List.Pairwise.nil
  · exact filter_sorted hs _

theorem under_sub {t : List Ent} {p : B} {e : Ent} (h : e ∈ under t p) : e ∈ t ∧ withinP p e.path = true := by
  unfold under at h
  split at h
  · cases h
  · exact ⟨(List.mem_filter.1 h).1, (List.mem_filter.1 h).2⟩

/-- Deleting one path after the other deletes what lies at them. -/
theorem filter_paths (t : List Ent) : ∀ (l : List B), l.foldl (fun t p => t.filter fun e => e.path != p) t = t.filter fun e => !l.contains e.path
  | [] => by
    rw [List.foldl_nil]
    exact (List.filter_eq_self.2 (by simp)).symm
  | p :: l => by
    rw [List.foldl_cons, filter_paths _ l, List.filter_filter]
    apply List.filter_congr
    intro x _
    simp only [List.contains_cons, Bool.not_or, bne]
    rw [Bool.and_comm]

end Go.Proofs.YtdcghpeomaailaaDoor.Ft
