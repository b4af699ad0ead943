/-
  Plain laws on ignore rules: what lies within an ignored directory is ignored; a last rule that is a literal path speaks of that path alone.
-/
import Derived.Test.YtdnbmkfmckppaaaDoorLawText
import Derived.Test.YtdnbmkfmckppaaaDoorLeaf
namespace Go.Proofs.YtdnbmkfmckppaaaDoor
open Go.Lib

theorem split_join' (c : UInt8) : ∀ (l : List Pn.B), l ≠ [] → (∀ p ∈ l, c ∉ p) → Pn.splitS c (Pn.joinS c l) = l
  | [], h, _ => absurd rfl h
  | [p], _, h => by simp only [Pn.joinS]; exact Pn.splitS_none (h p (by simp))
  | p :: q :: r, _, h => by
    simp only [Pn.joinS]
    rw [Pn.splitS_append, Pn.splitS_none (h p (by simp)), split_join' c (q :: r) (by simp) (fun x hx => h x (List.mem_cons_of_mem _ hx))]
    simp

theorem parent_len' {s : Pn.B} (hs : s ≠ []) : (Pn.parentP s).length < s.length := by
  rcases Pn.last_slash ⟨s.toArray⟩ with ⟨_, _, h⟩ | ⟨i, hi, _, _, _, h⟩
  · have h' : Pn.parentP s = [] := h
    rw [h']; exact List.length_pos_iff.2 hs
  · have h' : Pn.parentP s = s.take i := h
    have hi' : i < s.length := hi
    rw [h', List.length_take]; omega

theorem parent_valid' {s : Pn.B} (hv : Pn.validP s = true) : Pn.parentP s = [] ∨ Pn.validP (Pn.parentP s) = true := by
  unfold Pn.validP at *
  simp only [Bool.and_eq_true, decide_eq_true_eq, List.all_eq_true] at *
  obtain ⟨⟨h1, h2⟩, h3⟩ := hv
  by_cases hd : (Pn.splitS 47 s).dropLast = []
  · left; unfold Pn.parentP; rw [hd]; rfl
  · right
    have hsp : Pn.splitS 47 (Pn.parentP s) = (Pn.splitS 47 s).dropLast := split_join' 47 _ hd (fun p hp => Pn.splitS_mem p (List.dropLast_subset _ hp))
    have hlen : (Pn.parentP s).length ≤ 512 := by
      by_cases hs : s = []
      · subst hs; exact absurd (by rfl) hd
      · have := parent_len' hs; omega
    rw [hsp]
    refine ⟨⟨hlen, by simp; omega⟩, fun p hp => h3 p (List.dropLast_subset _ hp)⟩

theorem ignoredGo_fuel (l : List Pn.Rule) : ∀ (n m : Nat) (p : Pn.B) (d : Bool), p.length < n → p.length < m → Pn.ignoredGo l n p d = Pn.ignoredGo l m p d := by
  intro n
  induction n with
  | zero => intro m p d h; omega
  | succ n ih =>
    intro m p d h1 h2
    obtain ⟨m, rfl⟩ : ∃ k, m = k + 1 := ⟨m - 1, by omega⟩
    by_cases hp : p = []
    · subst hp; simp [Pn.ignoredGo]
    · have := parent_len' hp
      rw [Pn.ignoredGo, Pn.ignoredGo, if_neg hp, if_neg hp, ih m _ true (by omega) (by omega)]

theorem ignoredP_step (l : List Pn.Rule) (p : Pn.B) (d : Bool) (hp : p ≠ []) : Pn.ignoredP l p d = (Pn.ignored1 l p d || Pn.ignoredP l (Pn.parentP p) true) := by
  have := parent_len' hp
  unfold Pn.ignoredP
  rw [Pn.ignoredGo, if_neg hp, ignoredGo_fuel l _ ((Pn.parentP p).length + 1) _ true (by omega) (by omega)]

theorem ignoredP_nil (l : List Pn.Rule) (d : Bool) : Pn.ignoredP l [] d = false := by simp [Pn.ignoredP, Pn.ignoredGo]

theorem ignored1_snoc (l : List Pn.Rule) (x : Pn.Rule) (p : Pn.B) (d : Bool) : Pn.ignored1 (l ++ [x]) p d = if x.applies p d then !x.keep else Pn.ignored1 l p d := by
  unfold Pn.ignored1
  rw [List.reverse_append, List.reverse_singleton, List.singleton_append, List.find?_cons]
  cases x.applies p d <;> rfl

def litRule (path : Pn.B) (keep : Bool) : Pn.Rule := ⟨Pn.literalP path, keep, false, true⟩

theorem valid_ne {s : Pn.B} (h : Pn.validP s = true) : s ≠ [] := by
  rintro rfl
  revert h; decide +kernel

theorem lit_applies {path p : Pn.B} (hv : Pn.validP path = true) (hl : path.length ≤ 256) (hp : Pn.validP p = true) (keep d : Bool) : (litRule path keep).applies p d = decide (path = p) := by
  unfold Pn.Rule.applies litRule
  simp only [Pn.literal_compile hv hl, if_true, Bool.not_false, Bool.or_true, Bool.true_and]
  exact Pn.literal_match hv hp

theorem lit_valid {path : Pn.B} (hv : Pn.validP path = true) (hl : path.length ≤ 256) (keep : Bool) : (litRule path keep).validP = true := by
  unfold Pn.Rule.validP litRule
  simp only [Pn.literal_compile hv hl, Option.isSome_some, Bool.true_and, Bool.true_or, Bool.and_true]
  have hne := valid_ne hv
  match path, hne with
  | c :: t, _ =>
    unfold Pn.literalP
    rw [Pn.literalGo]
    by_cases h : c = 42 ∨ c = 63 ∨ c = 91 ∨ c = 92 ∨ (0 = 0 ∧ (c = 33 ∨ c = 35))
    · rw [if_pos h]; simp
    · rw [if_neg h]
      simp only [not_or] at h
      have h33 : c ≠ 33 := fun e => h.2.2.2.2 ⟨trivial, .inl e⟩
      have h35 : c ≠ 35 := fun e => h.2.2.2.2 ⟨trivial, .inr e⟩
      simp [h33, h35]

theorem good_snoc {l : List Pn.Rule} (hg : Pn.goodRules l = true) {path : Pn.B} (hv : Pn.validP path = true) (hl : path.length ≤ 256) (keep : Bool) (h : l.length ≤ 255) : Pn.goodRules (l ++ [litRule path keep]) = true := by
  unfold Pn.goodRules at *
  simp only [Bool.and_eq_true, decide_eq_true_eq, List.all_eq_true, List.length_append, List.length_singleton, List.mem_append, List.mem_singleton] at *
  refine ⟨by omega, fun x hx => ?_⟩
  rcases hx with hx | rfl
  · exact hg.2 x hx
  · exact lit_valid hv hl keep

/-- Above a path the rule that is the path itself says nothing. -/
theorem lit_silent {path : Pn.B} (hv : Pn.validP path = true) (hl : path.length ≤ 256) (keep : Bool) (l : List Pn.Rule) : ∀ (n : Nat) (p : Pn.B) (d : Bool), p.length < n → p.length < path.length → (p = [] ∨ Pn.validP p = true) → Pn.ignoredP (l ++ [litRule path keep]) p d = Pn.ignoredP l p d := by
  intro n
  induction n with
  | zero => intro p d h; omega
  | succ n ih =>
    intro p d h1 h2 h3
    rcases h3 with rfl | h3
    · rw [ignoredP_nil, ignoredP_nil]
    · have hne := valid_ne h3
      have := parent_len' hne
      rw [ignoredP_step _ _ _ hne, ignoredP_step l _ _ hne, ih _ true (by omega) (by omega) (parent_valid' h3), ignored1_snoc, lit_applies hv hl h3]
      have hpp : path ≠ p := by rintro rfl; omega
      simp [hpp]

theorem lit_kept {path : Pn.B} (hv : Pn.validP path = true) (hl : path.length ≤ 256) (l : List Pn.Rule) (d : Bool) : Pn.ignoredP (l ++ [litRule path true]) path d = Pn.ignoredP l (Pn.parentP path) true := by
  have hne := valid_ne hv
  have := parent_len' hne
  rw [ignoredP_step _ _ _ hne, ignored1_snoc, lit_applies hv hl hv, lit_silent hv hl true l _ _ true (Nat.lt_succ_self _) this (parent_valid' hv)]
  simp [litRule]

theorem lit_gone {path : Pn.B} (hv : Pn.validP path = true) (hl : path.length ≤ 256) (l : List Pn.Rule) (d : Bool) : Pn.ignoredP (l ++ [litRule path false]) path d = true := by
  have hne := valid_ne hv
  rw [ignoredP_step _ _ _ hne, ignored1_snoc, lit_applies hv hl hv]
  simp [litRule]

theorem below_is (l : List Pn.Rule) {path : Pn.B} (hv : Pn.validP path = true) (d : Bool) (h : Pn.ignoredP l (Pn.parentP path) true = true) : Pn.ignoredP l path d = true := by
  rw [ignoredP_step _ _ _ (valid_ne hv), h, Bool.or_true]

/-! ### what Parse gives -/
theorem ruleOf_short (l : Pn.B) : (Pn.ruleOf l).pattern.length ≤ l.length := by
  unfold Pn.ruleOf
  simp only
  split <;> split <;> split <;> simp <;> omega

theorem parseGo_good : ∀ (lines : List Pn.B) (acc : List Pn.Rule) (i : Nat) (l : List Pn.Rule) (m : Nat), acc.length ≤ 256 → (∀ x ∈ acc, x.validP = true ∧ x.pattern.length ≤ m) → (∀ p ∈ lines, p.length ≤ m) → Pn.parseGo acc i lines = .inl l → l.length ≤ 256 ∧ ∀ x ∈ l, x.validP = true ∧ x.pattern.length ≤ m
  | [], acc, i, l, m, h1, h2, _, h => by
    rw [Pn.parseGo] at h
    injection h with h
    subst h
    exact ⟨h1, h2⟩
  | line :: r, acc, i, l, m, h1, h2, h3, h => by
    rw [Pn.parseGo] at h
    split at h
    · exact parseGo_good r acc _ l m h1 h2 (fun p hp => h3 p (List.mem_cons_of_mem _ hp)) h
    · split at h
      · cases h
      · split at h
        · cases h
        · rename_i hv hn
          refine parseGo_good r _ _ l m (by simp; omega) (fun x hx => ?_) (fun p hp => h3 p (List.mem_cons_of_mem _ hp)) h
          rcases List.mem_append.1 hx with hx | hx
          · exact h2 x hx
          · simp only [List.mem_singleton] at hx
            subst hx
            exact ⟨by simpa using hv, Nat.le_trans (ruleOf_short line) (h3 line List.mem_cons_self)⟩

theorem parse_err : ∀ (lines : List Pn.B) (acc : List Pn.Rule) (i : Nat) (x : Nat × Int), Pn.parseGo acc i lines = .inr x → x.2 = 3 ∨ x.2 = 2
  | [], acc, i, x, h => by rw [Pn.parseGo] at h; cases h
  | line :: r, acc, i, x, h => by
    rw [Pn.parseGo] at h
    split at h
    · exact parse_err r acc _ x h
    · split at h
      · injection h with h; subst h; exact .inl rfl
      · split at h
        · injection h with h; subst h; exact .inr rfl
        · exact parse_err r _ _ x h

theorem parse_good {s : Pn.B} (h : (Pn.parseP s).2.2 = 0) : Pn.goodRules (Pn.parseP s).1 = true ∧ (Pn.parseP s).2.1 = 0 ∧ ∀ x ∈ (Pn.parseP s).1, x.pattern.length ≤ s.length := by
  unfold Pn.parseP at *
  split at h
  · cases h
  · rename_i hs
    rw [if_neg hs]
    cases hg : Pn.parseGo [] 0 (Pn.splitS 10 s) with
    | inr x =>
      exfalso
      rw [hg] at h
      simp only at h
      have hx : x.2 = 3 ∨ x.2 = 2 := parse_err (Pn.splitS 10 s) [] 0 x hg
      omega
    | inl l =>
      simp only
      obtain ⟨h1, h2⟩ := parseGo_good _ [] 0 l s.length (by simp) (by simp) (fun p hp => splitS_part hp) hg
      refine ⟨?_, trivial, fun x hx => (h2 x hx).2⟩
      unfold Pn.goodRules
      simp only [Bool.and_eq_true, decide_eq_true_eq, List.all_eq_true]
      exact ⟨h1, fun x hx => (h2 x hx).1⟩

end Go.Proofs.YtdnbmkfmckppaaaDoor
