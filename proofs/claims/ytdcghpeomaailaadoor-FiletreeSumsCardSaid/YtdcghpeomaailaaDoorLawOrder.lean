/-
  The plain law of PathnameOrder: the order of paths is total, and what lies within a directory lies together.
-/
import Derived.Test.YtdcghpeomaailaaDoorPureU
namespace Go.Proofs.YtdcghpeomaailaaDoor.Pn
open Go.Lib

theorem rank_inj {a b : UInt8} (h : rankP a = rankP b) : a = b := by
  unfold rankP at h
  split at h <;> split at h
  · simp_all
  · have := b.toNat_lt; omega
  · have := a.toNat_lt; omega
  · exact UInt8.toNat_inj.1 (by omega)

theorem cmp_cases (a b : B) : cmpP a b = -1 ∨ cmpP a b = 0 ∨ cmpP a b = 1 := by
  induction a generalizing b with
  | nil => cases b <;> simp [cmpP]
  | cons x a ih =>
    cases b with
    | nil => simp [cmpP]
    | cons y b =>
      rw [cmpP]
      split
      · exact .inl rfl
      · split
        · exact .inr (.inr rfl)
        · exact ih b

theorem cmp_neg (a b : B) : cmpP b a = -cmpP a b := by
  induction a generalizing b with
  | nil => cases b <;> simp [cmpP]
  | cons x a ih =>
    cases b with
    | nil => simp [cmpP]
    | cons y b =>
      rw [cmpP, cmpP]
      by_cases h1 : rankP x < rankP y
      · rw [if_neg (by omega), if_pos h1, if_pos h1]; rfl
      · by_cases h2 : rankP y < rankP x
        · rw [if_pos h2, if_neg h1, if_pos h2]
        · rw [if_neg h2, if_neg h1, if_neg h1, if_neg h2, ih]

theorem cmp_eq (a b : B) : cmpP a b = 0 ↔ a = b := by
  induction a generalizing b with
  | nil => cases b <;> simp [cmpP]
  | cons x a ih =>
    cases b with
    | nil => simp [cmpP]
    | cons y b =>
      rw [cmpP]
      by_cases h1 : rankP x < rankP y
      · rw [if_pos h1]; constructor
        · intro h; cases h
        · intro h; cases h; omega
      · by_cases h2 : rankP y < rankP x
        · rw [if_neg h1, if_pos h2]; constructor
          · intro h; cases h
          · intro h; cases h; omega
        · rw [if_neg h1, if_neg h2, ih]
          have : x = y := rank_inj (by omega)
          subst this; simp

theorem cmp_trans (a b c : B) (h1 : cmpP a b ≤ 0) (h2 : cmpP b c ≤ 0) : cmpP a c ≤ 0 := by
  induction a generalizing b c with
  | nil => cases c <;> simp [cmpP]
  | cons x a ih =>
    cases b with
    | nil => simp [cmpP] at h1
    | cons y b =>
      cases c with
      | nil => simp [cmpP] at h2
      | cons z c =>
        rw [cmpP] at h1 h2 ⊢
        by_cases e1 : rankP x < rankP y
        · by_cases e2 : rankP y < rankP z
          · rw [if_pos (by omega)]; decide
          · by_cases e3 : rankP z < rankP y
            · rw [if_neg e2, if_pos e3] at h2; omega
            · rw [if_pos (by omega)]; decide
        · by_cases e2 : rankP y < rankP x
          · rw [if_neg e1, if_pos e2] at h1; omega
          · rw [if_neg e1, if_neg e2] at h1
            by_cases e3 : rankP y < rankP z
            · rw [if_pos (by omega)]; decide
            · by_cases e4 : rankP z < rankP y
              · rw [if_neg e3, if_pos e4] at h2; omega
              · rw [if_neg e3, if_neg e4] at h2
                rw [if_neg (by omega), if_neg (by omega)]
                exact ih b c h1 h2

theorem cmp_both (a b c : B) (h1 : cmpP a b ≤ 0) (h2 : cmpP b c ≤ 0) (h3 : cmpP a c = 0) : cmpP a b = 0 ∧ cmpP b c = 0 := by
  have e := (cmp_eq a c).1 h3
  subst e
  have := cmp_neg a b
  omega

theorem cmp_prefix (p q : B) : cmpP p (p ++ q) ≤ 0 := by
  induction p with
  | nil => cases q <;> simp [cmpP]
  | cons x p ih => rw [List.cons_append, cmpP, if_neg (by omega), if_neg (by omega)]; exact ih

theorem cmp_squeeze (d a c b : B) (h1 : cmpP (d ++ a) b ≤ 0) (h2 : cmpP b (d ++ c) ≤ 0) : ∃ b', b = d ++ b' ∧ cmpP a b' ≤ 0 ∧ cmpP b' c ≤ 0 := by
  induction d generalizing b with
  | nil => exact ⟨b, rfl, h1, h2⟩
  | cons x d ih =>
    cases b with
    | nil => simp [cmpP] at h1
    | cons y b =>
      rw [List.cons_append, cmpP] at h1 h2
      by_cases e1 : rankP x < rankP y
      · rw [if_neg (by omega), if_pos e1] at h2; omega
      · by_cases e2 : rankP y < rankP x
        · rw [if_neg e1, if_pos e2] at h1; omega
        · rw [if_neg e1, if_neg e2] at h1
          rw [if_neg e2, if_neg e1] at h2
          obtain ⟨b', h3, h4, h5⟩ := ih b h1 h2
          have : x = y := rank_inj (by omega)
          subst this
          exact ⟨b', by rw [h3]; rfl, h4, h5⟩

theorem under_iff (d p : B) : (p == d || (d ++ [47]).isPrefixOf p) = true ↔ ∃ t, p = d ++ t ∧ (t = [] ∨ ∃ u, t = 47 :: u) := by
  rw [Bool.or_eq_true, beq_iff_eq, List.isPrefixOf_iff_prefix]
  constructor
  · rintro (rfl | ⟨u, rfl⟩)
    · exact ⟨[], by simp, .inl rfl⟩
    · exact ⟨47 :: u, by simp, .inr ⟨u, rfl⟩⟩
  · rintro ⟨t, rfl, rfl | ⟨u, rfl⟩⟩
    · simp
    · exact .inr ⟨u, by simp⟩

theorem within_le (d p : B) (h : withinP d p = true) (hd : d ≠ []) : cmpP d p ≤ 0 := by
  unfold withinP at h
  have he : d.isEmpty = false := by cases d <;> simp_all
  rw [he] at h
  simp only [Bool.false_or, Bool.and_eq_true] at h
  obtain ⟨t, rfl, _⟩ := (under_iff d p).1 h.2
  exact cmp_prefix d t

theorem within_mid (d a b c : B) (hb : validP b = true) (h1 : cmpP a b ≤ 0) (h2 : cmpP b c ≤ 0) (ha : withinP d a = true) (hc : withinP d c = true) : withinP d b = true := by
  unfold withinP at *
  cases hd : d.isEmpty with
  | true => rw [hb]; rfl
  | false =>
    rw [hd] at ha hc
    simp only [Bool.false_or, Bool.and_eq_true] at ha hc ⊢
    obtain ⟨t, rfl, ht⟩ := (under_iff d a).1 ha.2
    obtain ⟨u, rfl, hu⟩ := (under_iff d c).1 hc.2
    obtain ⟨b', rfl, h3, h4⟩ := cmp_squeeze d t u b h1 h2
    refine ⟨⟨hb, ha.1.2⟩, (under_iff d _).2 ⟨b', rfl, ?_⟩⟩
    cases b' with
    | nil => exact .inl rfl
    | cons y b'' =>
      rcases hu with rfl | ⟨u', rfl⟩
      · simp [cmpP] at h4
      · rw [cmpP] at h4
        have h47 : rankP 47 = -1 := by decide
        have hy : -1 ≤ rankP y := by unfold rankP; split <;> omega
        by_cases e1 : rankP y < rankP 47
        · omega
        · by_cases e2 : rankP 47 < rankP y
          · rw [if_neg e1, if_pos e2] at h4; omega
          · have : y = 47 := rank_inj (by omega)
            subst this
            exact .inr ⟨b'', rfl⟩

end Go.Proofs.YtdcghpeomaailaaDoor.Pn
