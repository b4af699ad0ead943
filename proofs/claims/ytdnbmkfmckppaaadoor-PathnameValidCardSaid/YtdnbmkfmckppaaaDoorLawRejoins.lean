/-
  Plain laws on paths: a valid path is cleaned already; a path is its parent and its last component.
-/
import Derived.Test.YtdnbmkfmckppaaaDoorLawText
import Derived.Test.YtdnbmkfmckppaaaDoorCleanW
namespace Go.Proofs.YtdnbmkfmckppaaaDoor
open Go.Lib

theorem fold_keep : ∀ (l st : List Pn.B), (∀ p ∈ l, Pn.componentP p = true) → l.foldl Pn.cleanStep (some st) = some (l.reverse ++ st)
  | [], st, _ => rfl
  | p :: l, st, h => by
    obtain ⟨h1, _, _, h4, h5, _, _⟩ := Pn.component_facts (h p (by simp))
    rw [List.foldl_cons]
    have e : Pn.cleanStep (some st) p = some (p :: st) := by
      unfold Pn.cleanStep
      simp [h1, h4, h5]
    rw [e, fold_keep l (p :: st) (fun q hq => h q (by simp [hq]))]
    simp

theorem clean_valid {t : Pn.B} (h : Pn.validP t = true) : Pn.cleanPath t = some t := by
  have h2 : Pn.cleanParts t = some (Pn.splitS 47 t) := by
    unfold Pn.cleanParts
    rw [fold_keep _ [] (Pn.valid_facts h).2.2]
    simp
  unfold Pn.cleanPath
  rw [h2]
  simp only
  rw [Pn.join_split, if_pos h]

theorem cleaned_valid {t p : Pn.B} (h : Pn.cleanPath t = some p) : Pn.validP p = true := by
  unfold Pn.cleanPath at h
  split at h
  · cases h
  · split at h
    · cases h; assumption
    · cases h

theorem join_snoc (c : UInt8) (x : Pn.B) : ∀ (l : List Pn.B), l ≠ [] → Pn.joinS c (l ++ [x]) = Pn.joinS c l ++ c :: x
  | [], h => absurd rfl h
  | [p], _ => rfl
  | p :: q :: r, _ => by
    have := join_snoc c x (q :: r) (by simp)
    simp only [List.cons_append, Pn.joinS] at this ⊢
    rw [this]; simp

theorem join_ne (c : UInt8) : ∀ (l : List Pn.B), l ≠ [] → (∀ p ∈ l, p ≠ []) → Pn.joinS c l ≠ []
  | [], h, _ => absurd rfl h
  | [p], _, h => by simp only [Pn.joinS]; exact h p (by simp)
  | p :: q :: r, _, h => by simp [Pn.joinS]

/-- A valid path has parts, and ends in its last part: behind its parent and a slash, where it has a parent. -/
theorem path_last {p : Pn.B} (h : Pn.validP p = true) (i : Nat) (hi : i + 1 = (Pn.splitS 47 p).length) :
    (Pn.parentP p = [] ∧ (Pn.splitS 47 p).length = 1) ∨ (Pn.parentP p ≠ [] ∧ (Pn.splitS 47 p).length ≠ 1 ∧ Pn.parentP p ++ 47 :: (Pn.splitS 47 p)[i] = p) := by
  have hne := Pn.splitS_ne 47 p
  have hl := List.dropLast_concat_getLast hne
  have hg : (Pn.splitS 47 p).getLast hne = (Pn.splitS 47 p)[i] := by
    rw [List.getLast_eq_getElem]; congr 1; omega
  by_cases h1 : (Pn.splitS 47 p).dropLast = []
  · left
    refine ⟨by unfold Pn.parentP; rw [h1]; rfl, ?_⟩
    have := List.length_dropLast (xs := Pn.splitS 47 p)
    rw [h1] at this
    have h0 := List.length_pos_iff.2 hne
    simp at this; omega
  · right
    refine ⟨join_ne 47 _ h1 fun q hq => (Pn.component_facts ((Pn.valid_facts h).2.2 q (List.dropLast_subset _ hq))).1, ?_, ?_⟩
    · intro h2
      refine h1 (List.eq_nil_of_length_eq_zero ?_)
      rw [List.length_dropLast, h2]
    · have := join_snoc 47 ((Pn.splitS 47 p).getLast hne) _ h1
      rw [hl, Pn.join_split, hg] at this
      exact this.symm

theorem path_split : ∀ (l : List Pn.B), l ≠ [] → (∀ q ∈ l, (47 : UInt8) ∉ q) → Pn.splitS 47 (Pn.joinS 47 l) = l
  | [], h, _ => absurd rfl h
  | [p], _, h => by simp only [Pn.joinS]; exact Pn.splitS_none (h p (by simp))
  | p :: q :: r, _, h => by
    simp only [Pn.joinS]
    rw [Pn.splitS_append, Pn.splitS_none (h p (by simp)), path_split (q :: r) (by simp) (fun x hx => h x (List.mem_cons_of_mem _ hx))]
    simp

theorem within_parent {p : Pn.B} (h : Pn.validP p = true) : Pn.withinP (Pn.parentP p) p = true := by
  unfold Pn.withinP
  rw [h]
  have hpos := List.length_pos_iff.2 (Pn.splitS_ne 47 p)
  rcases path_last h ((Pn.splitS 47 p).length - 1) (by omega) with ⟨h1, _⟩ | ⟨h1, _, h3⟩
  · rw [h1]; simp
  · have hv : Pn.validP (Pn.parentP p) = true := by
      unfold Pn.validP at *
      simp only [Bool.and_eq_true, decide_eq_true_eq, List.all_eq_true] at *
      obtain ⟨⟨g1, g2⟩, g3⟩ := h
      have hd : (Pn.splitS 47 p).dropLast ≠ [] := by
        intro h0
        exact h1 (by unfold Pn.parentP; rw [h0]; rfl)
      have hsp : Pn.splitS 47 (Pn.parentP p) = (Pn.splitS 47 p).dropLast := by
        have hm : ∀ q ∈ (Pn.splitS 47 p).dropLast, (47 : UInt8) ∉ q := fun q hq => Pn.splitS_mem q (List.dropLast_subset _ hq)
        exact path_split _ hd hm
      rw [hsp]
      refine ⟨⟨?_, by simp; omega⟩, fun q hq => g3 q (List.dropLast_subset _ hq)⟩
      have := congrArg List.length h3
      simp at this; omega
    rw [hv]
    have : ((Pn.parentP p ++ [47]).isPrefixOf p) = true := by
      rw [List.isPrefixOf_iff_prefix]
      exact ⟨_, by rw [List.append_assoc]; exact h3⟩
    rw [this]; simp

/-- What Clean answers. -/
theorem clean_cases (t : Pn.B) : (cleanTop t = ([], 1) ∧ Pn.validP t = false) ∨ ∃ p, cleanTop t = (p, 0) ∧ Pn.validP p = true ∧ cleanTop p = (p, 0) ∧ (Pn.validP t = true → p = t) := by
  unfold cleanTop
  cases hc : Pn.cleanPath t with
  | none =>
    refine .inl ⟨rfl, ?_⟩
    cases hv : Pn.validP t with
    | false => rfl
    | true => rw [clean_valid hv] at hc; cases hc
  | some p =>
    have hp := cleaned_valid hc
    refine .inr ⟨p, rfl, hp, by rw [clean_valid hp], fun hv => ?_⟩
    rw [clean_valid hv] at hc
    exact (Option.some.inj hc).symm

end Go.Proofs.YtdnbmkfmckppaaaDoor
