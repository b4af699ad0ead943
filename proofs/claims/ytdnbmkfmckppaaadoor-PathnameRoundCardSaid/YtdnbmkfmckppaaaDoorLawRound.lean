/-
  Plain law: to read what was printed gives the rules again.
-/
import Derived.Test.YtdnbmkfmckppaaaDoorLawBelow
namespace Go.Proofs.YtdnbmkfmckppaaaDoor
open Go.Lib

theorem compP_nil : Pn.compP [] = none := by decide +kernel

theorem comps_no_nil : ∀ {l : List Pn.B} {x}, Pn.compsP l = some x → [] ∉ l
  | [], _, _ => by simp
  | p :: l, x, h => by
    rw [Pn.compsP] at h
    cases hc : Pn.compP p with
    | none => rw [hc] at h; cases h
    | some c =>
      rw [hc] at h
      simp only [Option.map_eq_some_iff] at h
      obtain ⟨y, hy, _⟩ := h
      have h2 := comps_no_nil hy
      simp only [List.mem_cons, not_or]
      refine ⟨?_, h2⟩
      rintro rfl
      rw [compP_nil] at hc; cases hc

/-- What a valid rule's pattern is. -/
theorem pattern_facts {x : Pn.Rule} (h : x.validP = true) : ∃ c t, x.pattern = c :: t ∧ c ≠ 33 ∧ c ≠ 35 ∧ c ≠ 47 ∧ (c :: t).getLast? ≠ some 47 ∧ (10 : UInt8) ∉ c :: t ∧ (x.rooted = true ∨ x.pattern.contains 47 = false) := by
  unfold Pn.Rule.validP at h
  simp only [Bool.and_eq_true, Bool.not_eq_true', Bool.or_eq_true, beq_eq_false_iff_ne, ne_eq] at h
  obtain ⟨⟨⟨h1, h2⟩, h3⟩, h4⟩ := h
  obtain ⟨y, hy⟩ := Option.isSome_iff_exists.1 h1
  have hc := Pn.compile_comps hy
  have hn := comps_no_nil hc
  have hcl : Pn.cleanP x.pattern = true := by
    unfold Pn.compileP at hy
    split at hy
    · rename_i hh
      simp only [Bool.and_eq_true] at hh
      exact hh.2
    · cases hy
  have h10 : (10 : UInt8) ∉ x.pattern := by
    intro hm
    unfold Pn.cleanP at hcl
    simp only [Bool.and_eq_true, List.all_eq_true] at hcl
    have := hcl.1 10 hm
    revert this; decide
  rcases hp : x.pattern with _ | ⟨c, t⟩
  · rw [hp] at hn; simp [Pn.splitS] at hn
  · rw [hp] at h2 h3 hn h10
    simp only [List.head?_cons, Option.some.injEq] at h2 h3
    have h47 : c ≠ 47 := by
      rintro rfl
      rw [Pn.splitS, if_pos rfl] at hn
      simp at hn
    refine ⟨c, t, rfl, h2, h3, h47, ?_, h10, by rw [← hp]; exact h4⟩
    intro hl
    obtain ⟨q, hq⟩ := List.getLast?_eq_some_iff.1 hl
    rw [hq, Pn.splitS_append] at hn
    simp [Pn.splitS] at hn

theorem ruleOf_line {x : Pn.Rule} (h : x.validP = true) : Pn.ruleOf x.lineP = x := by
  obtain ⟨c, t, hp, h33, h35, h47, hlast, _, hr⟩ := pattern_facts h
  obtain ⟨pat, keep, dir, rooted⟩ := x
  simp only at hp hr
  subst hp
  have hr' : rooted = true ∨ (c :: t).contains 47 = false := hr
  have hgl : ((c :: t).getLast? == some 47) = false := by rw [beq_eq_false_iff_ne]; exact hlast
  have hgd : (c :: (t ++ [47])).dropLast = c :: t := List.dropLast_concat (l₁ := c :: t)
  have hga : ((c :: (t ++ [47])).getLast? == some (47 : UInt8)) = true := by
    rw [show c :: (t ++ [47]) = (c :: t) ++ [47] from rfl, List.getLast?_concat]; rfl
  have e33 : (some c == some (33 : UInt8)) = false := by simp [h33]
  have e47 : (some c == some (47 : UInt8)) = false := by simp [h47]
  have e43 : (some (47 : UInt8) == some 33) = false := by decide
  clear hr h
  unfold Pn.ruleOf Pn.Rule.lineP
  generalize hK : (c :: t).contains 47 = K at *
  cases keep <;> cases dir <;> cases rooted <;> cases K <;>
    simp only [Bool.and_true, Bool.and_false, Bool.not_true, Bool.not_false, Bool.false_eq_true, ↓reduceIte, List.head?_cons, List.cons_append, List.tail_cons, e33, e47, e43, BEq.rfl, Bool.true_or, Bool.false_or, or_false, false_or, reduceCtorEq] at hr' ⊢ <;>
    first
      | (exfalso; simp at hr'; done)
      | (simp only [hgl, hgd, hga, hK, Bool.false_eq_true, ↓reduceIte]; done)
      | (simp only [hgl, hgd, hga, hK, e33, e47, e43, List.head?_cons, List.tail_cons, Bool.false_eq_true, ↓reduceIte, BEq.rfl]; done)
      | trace_state

theorem line_facts {x : Pn.Rule} (h : x.validP = true) : x.lineP ≠ [] ∧ x.lineP.head? ≠ some 35 ∧ (10 : UInt8) ∉ x.lineP ∧ x.lineP.length ≤ x.pattern.length + 3 := by
  obtain ⟨c, t, hp, h33, h35, h47, _, h10, _⟩ := pattern_facts h
  unfold Pn.Rule.lineP
  rw [hp]
  simp only
  have e10 : c ≠ 10 ∧ (10 : UInt8) ∉ t := by simpa [eq_comm] using h10
  split <;> split <;> split <;> (refine ⟨by simp, by simp [h35], ?_, by simp⟩; simp [e10.2, eq_comm]; exact e10.1)

theorem split_lines : ∀ (l : List Pn.B), (∀ p ∈ l, (10 : UInt8) ∉ p) → Pn.splitS 10 ((l.map fun p => p ++ [10]).flatten) = l ++ [[]]
  | [], _ => rfl
  | p :: l, h => by
    rw [List.map_cons, List.flatten_cons, List.append_assoc, List.singleton_append, Pn.splitS_append, Pn.splitS_none (h p (by simp)), split_lines l (fun q hq => h q (by simp [hq]))]
    rfl

theorem parse_lines : ∀ (l acc : List Pn.Rule) (i : Nat), (∀ x ∈ l, x.validP = true) → acc.length + l.length ≤ 256 → Pn.parseGo acc i (l.map Pn.Rule.lineP ++ [[]]) = .inl (acc ++ l)
  | [], acc, i, _, _ => by simp [Pn.parseGo]
  | x :: l, acc, i, h, hl => by
    have hx := h x (by simp)
    obtain ⟨f1, f2, _, _⟩ := line_facts hx
    rw [List.map_cons, List.cons_append, Pn.parseGo, if_neg (by simp [f1, f2]), ruleOf_line hx, hx]
    simp only [List.length_cons] at hl
    rw [if_neg (by simp), if_neg (by omega), parse_lines l _ _ (fun y hy => h y (by simp [hy])) (by simp; omega)]
    simp

/-- The bytes of the parts, with one more for each. -/
def weight' (l : List Pn.B) : Nat := (l.map fun p => p.length + 1).sum

theorem splitS_weight' (c : UInt8) : ∀ l : Pn.B, weight' (Pn.splitS c l) = l.length + 1
  | [] => by simp [Pn.splitS, weight']
  | b :: t => by
    have ih := splitS_weight' c t
    by_cases hb : b = c
    · subst hb
      have : Pn.splitS b (b :: t) = [] :: Pn.splitS b t := by
        have := Pn.splitS_append b [] t
        rw [List.nil_append] at this
        rw [this, Pn.splitS_none (by simp)]; rfl
      rw [this]
      simp only [weight', List.map_cons, List.sum_cons] at ih ⊢
      rw [ih]; simp; omega
    · obtain ⟨p, r, h1, h2⟩ := Pn.splitS_cons_ne hb t
      rw [h1] at ih
      rw [h2]
      simp only [weight', List.map_cons, List.sum_cons, List.length_cons] at ih ⊢
      omega

def patSum (l : List Pn.Rule) : Nat := (l.map fun x => x.pattern.length).sum

theorem parseGo_sum : ∀ (lines : List Pn.B) (acc : List Pn.Rule) (i : Nat) (l : List Pn.Rule), Pn.parseGo acc i lines = .inl l → patSum l ≤ patSum acc + weight' lines
  | [], acc, i, l, h => by
    rw [Pn.parseGo] at h
    injection h with h
    subst h; omega
  | line :: r, acc, i, l, h => by
    rw [Pn.parseGo] at h
    have hw : weight' (line :: r) = line.length + 1 + weight' r := by simp [weight']
    split at h
    · have := parseGo_sum r acc _ l h; omega
    · split at h
      · cases h
      · split at h
        · cases h
        · have h1 := parseGo_sum r _ _ l h
          have h2 := ruleOf_short line
          have h3 : patSum (acc ++ [Pn.ruleOf line]) = patSum acc + (Pn.ruleOf line).pattern.length := by simp [patSum]
          omega

theorem lines_len : ∀ (l : List Pn.Rule), (∀ x ∈ l, x.validP = true) → ((l.map fun x => x.lineP ++ [10]).flatten).length ≤ patSum l + 4 * l.length
  | [], _ => by simp
  | x :: l, h => by
    have h1 := lines_len l fun y hy => h y (by simp [hy])
    have h2 := (line_facts (h x (by simp))).2.2.2
    simp only [List.map_cons, List.flatten_cons, List.length_append, List.length_cons, List.length_nil, patSum, List.sum_cons] at h1 ⊢
    omega

/-- Parse inverts Print. -/
theorem round_trip {s : Pn.B} (h : (Pn.parseP s).2.2 = 0) (hs : s.length ≤ 3000) : ∃ p, Pn.printP (Pn.parseP s).1 = (p, 0) ∧ p.length ≤ 4300 ∧ Pn.parseP p = ((Pn.parseP s).1, 0, 0) := by
  obtain ⟨hg, _, _⟩ := parse_good h
  unfold Pn.goodRules at hg
  simp only [Bool.and_eq_true, decide_eq_true_eq, List.all_eq_true] at hg
  obtain ⟨h256, hv⟩ := hg
  have hsum : patSum (Pn.parseP s).1 ≤ 3001 := by
    unfold Pn.parseP at h ⊢
    rw [if_neg (by omega)] at h ⊢
    cases hgo : Pn.parseGo [] 0 (Pn.splitS 10 s) with
    | inr x => simp [patSum]
    | inl l =>
      have := parseGo_sum _ _ _ _ hgo
      rw [splitS_weight'] at this
      have h0 : patSum [] = 0 := rfl
      simp only; omega
  generalize (Pn.parseP s).1 = l at *
  have hlen := lines_len l hv
  refine ⟨(l.map fun x => x.lineP ++ [10]).flatten, ?_, by omega, ?_⟩
  · unfold Pn.printP
    have : l.all Pn.Rule.validP = true := by rw [List.all_eq_true]; exact hv
    rw [this, if_neg (by simp), if_neg (by omega)]
  · have hm : (l.map fun x => x.lineP ++ [10]) = (l.map Pn.Rule.lineP).map fun p => p ++ [10] := by simp
    unfold Pn.parseP
    rw [if_neg (by omega), hm, split_lines _ (fun p hp => by
      obtain ⟨x, hx, rfl⟩ := List.mem_map.1 hp
      exact (line_facts (hv x hx)).2.2.1), parse_lines l [] 0 hv (by simpa using h256)]
    simp

end Go.Proofs.YtdnbmkfmckppaaaDoor
