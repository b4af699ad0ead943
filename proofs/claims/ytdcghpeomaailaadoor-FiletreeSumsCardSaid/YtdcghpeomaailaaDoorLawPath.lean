/-
  Plain laws on paths: parents, lying within, other beginnings.
-/
import Derived.Test.YtdcghpeomaailaaDoorPureU
import Derived.Test.YtdcghpeomaailaaDoorLawOrder
namespace Go.Proofs.YtdcghpeomaailaaDoor.Pn
open Go.Lib

theorem split_joined (c : UInt8) : ∀ (l : List B), l ≠ [] → (∀ p ∈ l, c ∉ p) → splitS c (joinS c l) = l
  | [], h, _ => absurd rfl h
  | [p], _, h => by simp only [joinS]; exact splitS_none (h p (by simp))
  | p :: q :: r, _, h => by
    simp only [joinS]
    rw [splitS_append, splitS_none (h p (by simp)), split_joined c (q :: r) (by simp) (fun x hx => h x (List.mem_cons_of_mem _ hx))]
    simp

theorem ne_of_valid {s : B} (h : validP s = true) : s ≠ [] := by
  rintro rfl
  exact absurd h (by decide)

theorem last_cut : ∀ (s : B), (47 : UInt8) ∈ s → ∃ p q, s = p ++ 47 :: q ∧ (47 : UInt8) ∉ q
  | [], h => by cases h
  | a :: s, h => by
    by_cases hs : (47 : UInt8) ∈ s
    · obtain ⟨p, q, rfl, hq⟩ := last_cut s hs
      exact ⟨a :: p, q, rfl, hq⟩
    · have : a = 47 := by
        rcases List.mem_cons.1 h with h | h
        · exact h.symm
        · exact absurd h hs
      subst this
      exact ⟨[], s, rfl, hs⟩

theorem parent_app (p q : B) : parentP (p ++ 47 :: q) = if (47 : UInt8) ∈ q then p ++ 47 :: parentP q else p := by
  split
  · rename_i h
    obtain ⟨a, b, rfl, hb⟩ := last_cut q h
    rw [parentP_cut a b hb, show p ++ 47 :: (a ++ 47 :: b) = (p ++ 47 :: a) ++ 47 :: b by simp, parentP_cut _ b hb]
  · rename_i h
    exact parentP_cut p q h

theorem parent_short {s : B} (hs : s ≠ []) : (parentP s).length < s.length := by
  by_cases h : (47 : UInt8) ∈ s
  · obtain ⟨p, q, rfl, hq⟩ := last_cut s h
    rw [parentP_cut p q hq]; simp
  · rw [parentP_none s h]; exact List.length_pos_iff.2 hs

theorem parent_valid {s : B} (hv : validP s = true) : parentP s = [] ∨ validP (parentP s) = true := by
  have hs := ne_of_valid hv
  unfold validP at *
  simp only [Bool.and_eq_true, decide_eq_true_eq, List.all_eq_true] at *
  obtain ⟨⟨h1, h2⟩, h3⟩ := hv
  by_cases hd : (splitS 47 s).dropLast = []
  · left; unfold parentP; rw [hd]; rfl
  · right
    have hsp : splitS 47 (parentP s) = (splitS 47 s).dropLast := split_joined 47 _ hd (fun p hp => splitS_mem p (List.dropLast_subset _ hp))
    have hlen : (parentP s).length ≤ 512 := by have := parent_short hs; omega
    rw [hsp]
    refine ⟨⟨hlen, by simp; omega⟩, fun p hp => h3 p (List.dropLast_subset _ hp)⟩

theorem within_iff {d p : B} (hd : d ≠ []) : withinP d p = true ↔ validP p = true ∧ validP d = true ∧ ∃ t, p = d ++ t ∧ (t = [] ∨ ∃ u, t = 47 :: u) := by
  have he : d.isEmpty = false := by cases d <;> simp_all
  unfold withinP
  rw [he]
  simp only [Bool.false_or, Bool.and_eq_true, under_iff, and_assoc]

theorem within_root (p : B) : withinP [] p = validP p := by
  unfold withinP
  simp

theorem within_valid {d p : B} (h : withinP d p = true) : validP p = true := by
  unfold withinP at h
  simp only [Bool.and_eq_true] at h
  exact h.1.1

theorem within_refl {d : B} (h : validP d = true) : withinP d d = true :=
  (within_iff (ne_of_valid h)).2 ⟨h, h, [], by simp, .inl rfl⟩

theorem within_trans {a b c : B} (h1 : withinP a b = true) (h2 : withinP b c = true) : withinP a c = true := by
  by_cases ha : a = []
  · subst ha; rw [within_root]; exact within_valid h2
  · have hb := ne_of_valid (within_valid h1)
    obtain ⟨x1, x2, t, rfl, ht⟩ := (within_iff ha).1 h1
    obtain ⟨y1, y2, s, rfl, hs⟩ := (within_iff hb).1 h2
    refine (within_iff ha).2 ⟨y1, x2, t ++ s, by simp, ?_⟩
    rcases ht with rfl | ⟨u, rfl⟩
    · simpa using hs
    · exact .inr ⟨u ++ s, rfl⟩

theorem within_up {a p : B} (ha : a ≠ []) (h : withinP a p = true) (hne : p ≠ a) : withinP a (parentP p) = true := by
  obtain ⟨x1, x2, t, rfl, ht⟩ := (within_iff ha).1 h
  rcases ht with rfl | ⟨u, rfl⟩
  · exact absurd (by simp) hne
  · have hp : parentP (a ++ 47 :: u) = a ++ (if (47 : UInt8) ∈ u then 47 :: parentP u else []) := by
      rw [parent_app]; split <;> simp
    have hv : validP (parentP (a ++ 47 :: u)) = true := by
      rcases parent_valid x1 with h | h
      · rw [hp] at h; simp [ha] at h
      · exact h
    refine (within_iff ha).2 ⟨hv, x2, _, hp, ?_⟩
    split
    · exact .inr ⟨_, rfl⟩
    · exact .inl rfl

theorem within_len {a p : B} (h : withinP a p = true) : a.length ≤ p.length := by
  by_cases ha : a = []
  · subst ha; simp
  · obtain ⟨_, _, t, rfl, _⟩ := (within_iff ha).1 h
    simp

theorem within_anti {a b : B} (h1 : withinP a b = true) (h2 : withinP b a = true) : a = b := by
  have hb := ne_of_valid (within_valid h1)
  obtain ⟨_, _, t, rfl, _⟩ := (within_iff hb).1 h2
  have h3 := within_len h1
  simp only [List.length_append] at h3
  have : t = [] := List.length_eq_zero_iff.1 (by omega)
  subst this; simp

theorem parent_cut {p : B} (h : validP p = true) (hn : parentP p ≠ []) : ∃ q, p = parentP p ++ 47 :: q ∧ (47 : UInt8) ∉ q := by
  by_cases hs : (47 : UInt8) ∈ p
  · obtain ⟨a, b, rfl, hb⟩ := last_cut p hs
    rw [parentP_cut a b hb]
    exact ⟨b, rfl, hb⟩
  · exact absurd (parentP_none p hs) hn

theorem within_of_parent {p : B} (h : validP p = true) (hn : parentP p ≠ []) : withinP (parentP p) p = true := by
  obtain ⟨q, hq, _⟩ := parent_cut h hn
  refine (within_iff hn).2 ⟨h, ?_, 47 :: q, hq, .inr ⟨q, rfl⟩⟩
  rcases parent_valid h with h | h
  · exact absurd h hn
  · exact h

theorem cmp_app (p x y : B) : cmpP (p ++ x) (p ++ y) = cmpP x y := by
  induction p with
  | nil => rfl
  | cons a p ih => rw [List.cons_append, List.cons_append, cmpP, if_neg (by omega), if_neg (by omega)]; exact ih

theorem cmp_within {a p : B} (h : withinP a p = true) (ha : a ≠ []) (hne : p ≠ a) : cmpP a p < 0 := by
  have h1 := within_le a p h ha
  have h2 : cmpP a p ≠ 0 := fun e => hne ((cmp_eq a p).1 e).symm
  omega

theorem parent_less {p : B} (h : validP p = true) (hn : parentP p ≠ []) : cmpP (parentP p) p < 0 :=
  cmp_within (within_of_parent h hn) hn (fun e => by have := parent_short (ne_of_valid h); rw [← e] at this; omega)

/-- Another beginning: the parent. -/
theorem parent_shift {a b t : B} (ht : ∃ u, t = 47 :: u) : ∃ s, parentP (a ++ t) = a ++ s ∧ parentP (b ++ t) = b ++ s ∧ (s = [] ∨ ∃ u, s = 47 :: u) := by
  obtain ⟨u, rfl⟩ := ht
  rw [parent_app, parent_app]
  split
  · exact ⟨_, rfl, rfl, .inr ⟨_, rfl⟩⟩
  · exact ⟨[], by simp, by simp, .inl rfl⟩

end Go.Proofs.YtdcghpeomaailaaDoor.Pn
