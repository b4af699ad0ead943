/-
  Plain laws on valid texts: a valid text is its runes' encodings one after the other; a text with backslashes before some of its bytes reads as the same runes.
-/
import Derived.Test.YtdcghpeomaailaaDoorPureU
namespace Go.Proofs.YtdcghpeomaailaaDoor.Pn
open Go.Lib

theorem decodeN_local (n m b0 b1 b2 b3 c1 c2 c3 : Nat) (hv : ¬ ((decodeN n b0 b1 b2 b3).1 = 65533 ∧ (decodeN n b0 b1 b2 b3).2 = 1)) (hm : (decodeN n b0 b1 b2 b3).2 ≤ m)
    (e1 : 1 < (decodeN n b0 b1 b2 b3).2 → c1 = b1) (e2 : 2 < (decodeN n b0 b1 b2 b3).2 → c2 = b2) (e3 : 3 < (decodeN n b0 b1 b2 b3).2 → c3 = b3) :
    decodeN m b0 c1 c2 c3 = decodeN n b0 b1 b2 b3 := by
  unfold decodeN at *
  by_cases h1 : b0 < 128
  · rw [if_pos h1, if_pos h1]
  · rw [if_neg h1] at *
    rw [if_neg h1]
    by_cases h2 : b0 / 32 = 6 ∧ (1 < n ∧ b1 / 64 = 2)
    · rw [if_pos h2] at *
      split at hv
      · rename_i h3
        rw [if_pos h3] at *
        obtain rfl := e1 (by simp)
        simp only at hm
        rw [if_pos ⟨h2.1, by omega, h2.2.2⟩]
        rw [if_pos h3]
      · exact absurd ⟨rfl, rfl⟩ hv
    · rw [if_neg h2] at *
      by_cases h4 : b0 / 16 = 14 ∧ (1 < n ∧ b1 / 64 = 2) ∧ (2 < n ∧ b2 / 64 = 2)
      · rw [if_pos h4] at *
        rw [if_neg (by omega)]
        split at hv
        · rename_i h3
          rw [if_pos h3] at *
          obtain rfl := e1 (by simp)
          obtain rfl := e2 (by simp)
          simp only at hm
          rw [if_pos ⟨h4.1, ⟨by omega, h4.2.1.2⟩, by omega, h4.2.2.2⟩, if_pos h3]
        · exact absurd ⟨rfl, rfl⟩ hv
      · rw [if_neg h4] at *
        by_cases h5 : b0 / 8 = 30 ∧ (1 < n ∧ b1 / 64 = 2) ∧ (2 < n ∧ b2 / 64 = 2) ∧ (3 < n ∧ b3 / 64 = 2)
        · rw [if_pos h5] at *
          rw [if_neg (by omega), if_neg (by omega)]
          split at hv
          · rename_i h3
            rw [if_pos h3] at *
            obtain rfl := e1 (by simp)
            obtain rfl := e2 (by simp)
            obtain rfl := e3 (by simp)
            simp only at hm
            rw [if_pos ⟨h5.1, ⟨by omega, h5.2.1.2⟩, ⟨by omega, h5.2.2.1.2⟩, by omega, h5.2.2.2.2⟩, if_pos h3]
          · exact absurd ⟨rfl, rfl⟩ hv
        · rw [if_neg h5] at hv
          exact absurd ⟨rfl, rfl⟩ hv

theorem getD_take_append (l t : B) (k i : Nat) (hi : i < k) (hk : k ≤ l.length) : (l.take k ++ t).getD i 0 = l.getD i 0 := by
  simp only [List.getD]
  rw [List.getElem?_append_left (by rw [List.length_take]; omega), List.getElem?_take_of_lt hi]

/-- What follows a whole encoding does not change it. -/
theorem decode_local (l t : B) (hne : l ≠ []) (hv : ¬ ((decodeL l).1 = 65533 ∧ (decodeL l).2 = 1)) : decodeL (l.take (decodeL l).2 ++ t) = decodeL l := by
  have h1 := decodeL_width l
  have h2 := decodeL_le l hne
  rw [decodeL_N (l.take _ ++ t)]
  have h3 := decodeL_N l
  rw [getD_take_append l t _ 0 (by omega) h2]
  rw [h3] at hv h1 h2 ⊢
  refine decodeN_local _ _ _ _ _ _ _ _ _ hv (by rw [List.length_append, List.length_take]; omega) ?_ ?_ ?_
  · intro h; rw [getD_take_append l t _ 1 h h2]
  · intro h; rw [getD_take_append l t _ 2 h h2]
  · intro h; rw [getD_take_append l t _ 3 h h2]

/-- A valid text with its runes. -/
inductive VS : B → List Nat → Prop
  | nil : VS [] []
  | asc (b : UInt8) (t : B) (rs : List Nat) : b.toNat < 128 → VS t rs → VS (b :: t) (b.toNat :: rs)
  | high (e t : B) (r : Nat) (rs : List Nat) : 128 ≤ r → e = encodeRune (r : Int) → e ≠ [] → (∀ u, decodeL (e ++ u) = (r, e.length)) → (∀ b ∈ e, 128 ≤ b.toNat) → ¬ (r = 65533 ∧ e.length = 1) → VS t rs → VS (e ++ t) (r :: rs)

theorem runesGo_nil (n : Nat) : runesGo n [] = [] := by cases n <;> simp [runesGo]

theorem vs_go : ∀ (n : Nat) (s : B), s.length ≤ n → validD s = true → VS s (runesGo n s) := by
  intro n
  induction n with
  | zero => intro s hs _; obtain rfl : s = [] := List.length_eq_zero_iff.1 (by omega); exact .nil
  | succ n ih =>
    intro s hs hv
    by_cases hne : s = []
    · subst hne; simp [runesGo]; exact .nil
    · rw [runesGo, if_neg hne]
      rw [validD_step s hne] at hv
      rcases decode_step s hne with h | ⟨b, t, rfl, hb, h⟩ | ⟨h1, h2, h3, h4, h5, h6⟩
      · rw [h] at hv; simp at hv
      · rw [h] at hv ⊢
        rw [if_neg (by simp; omega)] at hv
        exact .asc b t _ hb (ih t (by simp at hs; omega) (by simpa using hv))
      · rw [if_neg h1] at hv
        have h7 := ih (s.drop (decodeL s).2) (by rw [List.length_drop]; omega) hv
        have h8 : VS (s.take (decodeL s).2 ++ s.drop (decodeL s).2) ((decodeL s).1 :: runesGo n (s.drop (decodeL s).2)) := by
          have hl : (s.take (decodeL s).2).length = (decodeL s).2 := by rw [List.length_take]; omega
          refine .high _ _ _ _ h2 h5.symm ?_ ?_ h6 (by rw [hl]; exact h1) h7
          · intro h0; rw [h0] at hl; simp at hl; omega
          · intro u
            rw [decode_local s u hne h1, hl]
        rwa [List.take_append_drop] at h8

theorem vs_of_valid {s : B} (h : validD s = true) : VS s (runesP s) := vs_go _ s (Nat.le_refl _) h

theorem VS.runes {s : B} {rs : List Nat} (h : VS s rs) : validD s = true ∧ ∀ n, s.length ≤ n → runesGo n s = rs := by
  induction h with
  | nil => exact ⟨rfl, fun n _ => runesGo_nil n⟩
  | asc b t rs hb _ ih =>
    refine ⟨by rw [validD_cons b t hb]; exact ih.1, fun n hn => ?_⟩
    obtain ⟨m, rfl⟩ : ∃ m, n = m + 1 := ⟨n - 1, by simp at hn; omega⟩
    rw [runesGo, if_neg (by simp), decodeL_ascii b t hb]
    simp only [List.drop_succ_cons, List.drop_zero]
    rw [ih.2 m (by simp at hn; omega)]
  | high e t r rs h1 h2 h3 h4 h5 h6 _ ih =>
    have hl : 0 < e.length := List.length_pos_iff.2 h3
    have hne : e ++ t ≠ [] := by simp [h3]
    refine ⟨by rw [validD_step _ hne, h4 t, if_neg h6, List.drop_left]; exact ih.1, fun n hn => ?_⟩
    rw [List.length_append] at hn
    obtain ⟨m, rfl⟩ : ∃ m, n = m + 1 := ⟨n - 1, by omega⟩
    rw [runesGo, if_neg hne, h4 t]
    simp only [List.drop_left]
    rw [ih.2 m (by omega)]

theorem VS.runesP {s : B} {rs : List Nat} (h : VS s rs) : runesP s = rs := h.runes.2 _ (Nat.le_refl _)

theorem VS.inj {s s' : B} {rs : List Nat} (h : VS s rs) (h' : VS s' rs) : s = s' := by
  induction h generalizing s' with
  | nil => cases h'; rfl
  | asc b t rs hb _ ih =>
    generalize hk : b.toNat :: rs = l at h'
    cases h' with
    | nil => cases hk
    | asc b' t' rs' hb' h2 =>
      obtain ⟨h3, rfl⟩ := List.cons.inj hk
      obtain rfl := UInt8.toNat_inj.1 h3
      rw [ih h2]
    | high e t' r rs' h1 =>
      obtain ⟨h3, _⟩ := List.cons.inj hk
      omega
  | high e t r rs h1 h2 h3 h4 h5 h6 _ ih =>
    generalize hk : r :: rs = l at h'
    cases h' with
    | nil => cases hk
    | asc b' t' rs' hb' _ =>
      obtain ⟨h3, _⟩ := List.cons.inj hk
      omega
    | high e' t' r' rs' g1 g2 g3 g4 g5 g6 hv =>
      obtain ⟨h3, rfl⟩ := List.cons.inj hk
      subst h3
      rw [h2, g2, ih hv]

theorem runes_inj {s s' : B} (h : validD s = true) (h' : validD s' = true) (he : runesP s = runesP s') : s = s' := by
  have h1 := vs_of_valid h
  rw [he] at h1
  exact h1.inj (vs_of_valid h')

/-! ### backslashes -/
def special (c : UInt8) : Prop := c = 42 ∨ c = 63 ∨ c = 91 ∨ c = 92

/-- p is s with a backslash before some of its bytes, before each special one at least. -/
inductive Esc : B → B → Prop
  | nil : Esc [] []
  | same (c : UInt8) (s p : B) : ¬ special c → Esc s p → Esc (c :: s) (c :: p)
  | esc (c : UInt8) (s p : B) : c.toNat < 128 → 32 ≤ c.toNat → c ≠ 47 → Esc s p → Esc (c :: s) (92 :: c :: p)

theorem not_special_high {c : UInt8} (h : 128 ≤ c.toNat) : ¬ special c := by
  rintro (rfl | rfl | rfl | rfl) <;> revert h <;> decide

theorem Esc.over {e t p : B} (he : ∀ b ∈ e, 128 ≤ b.toNat) (h : Esc (e ++ t) p) : ∃ q, p = e ++ q ∧ Esc t q := by
  induction e generalizing p with
  | nil => exact ⟨p, rfl, h⟩
  | cons b e ih =>
    have hb := he b (by simp)
    rw [List.cons_append] at h
    cases h with
    | same _ _ q _ h2 =>
      obtain ⟨q', rfl, h3⟩ := ih (fun x hx => he x (by simp [hx])) h2
      exact ⟨q', rfl, h3⟩
    | esc _ _ q h1 => omega

/-- An item that matches one rune. -/
def lit (r : Nat) : Item := ⟨false, false, [(r, r)]⟩

theorem item_plain {r : Nat} (h1 : r ≠ 42) (h2 : r ≠ 63) (h3 : r ≠ 91) (h4 : r ≠ 92) (t : List Nat) : itemP (r :: t) = some (lit r, t) := by
  unfold itemP; simp [h1, h2, h3, h4, lit]
theorem item_esc (r : Nat) (t : List Nat) : itemP (92 :: r :: t) = some (lit r, t) := by
  unfold itemP; simp [lit]

theorem special_num {c : UInt8} (h : ¬ special c) : c.toNat ≠ 42 ∧ c.toNat ≠ 63 ∧ c.toNat ≠ 91 ∧ c.toNat ≠ 92 := by
  refine ⟨fun e => h ?_, fun e => h ?_, fun e => h ?_, fun e => h ?_⟩
  · exact .inl (UInt8.toNat_inj.1 e)
  · exact .inr (.inl (UInt8.toNat_inj.1 e))
  · exact .inr (.inr (.inl (UInt8.toNat_inj.1 e)))
  · exact .inr (.inr (.inr (UInt8.toNat_inj.1 e)))

/-- The escaped text is valid, and its items match the runes of the text. -/
theorem esc_items {s : B} {rs : List Nat} (hv : VS s rs) {p : B} (he : Esc s p) : ∃ ps, VS p ps ∧ ∀ n acc, ps.length < n → itemsGo n acc ps = some (acc ++ rs.map lit) := by
  induction hv generalizing p with
  | nil =>
    cases he
    refine ⟨[], .nil, fun n acc hn => ?_⟩
    obtain ⟨m, rfl⟩ : ∃ m, n = m + 1 := ⟨n - 1, by simp at hn; omega⟩
    simp [itemsGo]
  | asc b t rs hb _ ih =>
    cases he with
    | same _ _ q h1 h2 =>
      obtain ⟨ps, h3, h4⟩ := ih h2
      refine ⟨b.toNat :: ps, .asc b q ps hb h3, fun n acc hn => ?_⟩
      obtain ⟨m, rfl⟩ : ∃ m, n = m + 1 := ⟨n - 1, by omega⟩
      obtain ⟨s1, s2, s3, s4⟩ := special_num h1
      rw [itemsGo, if_neg (by simp), item_plain s1 s2 s3 s4]
      simp only
      rw [h4 m _ (by simp at hn; omega)]
      simp
    | esc _ _ q h1 h2 h3 h4 =>
      obtain ⟨ps, h5, h6⟩ := ih h4
      refine ⟨92 :: b.toNat :: ps, .asc 92 _ _ (by decide) (.asc b q ps hb h5), fun n acc hn => ?_⟩
      obtain ⟨m, rfl⟩ : ∃ m, n = m + 1 := ⟨n - 1, by omega⟩
      rw [itemsGo, if_neg (by simp), item_esc]
      simp only
      rw [h6 m _ (by simp at hn; omega)]
      simp
  | high e t r rs h1 h2 h3 h4 h5 h6 _ ih =>
    obtain ⟨q, rfl, hq⟩ := he.over h5
    obtain ⟨ps, h7, h8⟩ := ih hq
    refine ⟨r :: ps, .high e q r ps h1 h2 h3 h4 h5 h6 h7, fun n acc hn => ?_⟩
    obtain ⟨m, rfl⟩ : ∃ m, n = m + 1 := ⟨n - 1, by omega⟩
    rw [itemsGo, if_neg (by simp), item_plain (by omega) (by omega) (by omega) (by omega)]
    simp only
    rw [h8 m _ (by simp at hn; omega)]
    simp

theorem esc_comp {s p : B} (hne : s ≠ []) (hv : validD s = true) (he : Esc s p) : compP p = some (some ((runesP s).map lit)) := by
  obtain ⟨ps, h1, h2⟩ := esc_items (vs_of_valid hv) he
  have hp : p ≠ [42, 42] := by
    rintro rfl
    cases he with
    | same _ _ _ h _ => exact h (.inl rfl)
  have hr : runesP s ≠ [] := by
    intro h0
    have := vs_of_valid hv
    rw [h0] at this
    cases this
    exact hne rfl
  unfold compP itemsP
  rw [if_neg hp, h1.runesP, h2 _ _ (by omega)]
  simp [hr]

theorem Esc.valid {s p : B} (hv : validD s = true) (he : Esc s p) : validD p = true := by
  obtain ⟨ps, h1, _⟩ := esc_items (vs_of_valid hv) he
  exact h1.runes.1

theorem Esc.len {s p : B} (he : Esc s p) : p.length ≤ 2 * s.length := by
  induction he with
  | nil => simp
  | same c s p _ _ ih => simp; omega
  | esc c s p _ _ _ _ ih => simp; omega

theorem Esc.low {s p : B} (he : Esc s p) (h : s.all (fun b => decide (32 ≤ b.toNat)) = true) : p.all (fun b => decide (32 ≤ b.toNat)) = true := by
  induction he with
  | nil => rfl
  | same c s p _ _ ih => simp only [List.all_cons, Bool.and_eq_true] at h ⊢; exact ⟨h.1, ih h.2⟩
  | esc c s p _ _ _ _ ih => simp only [List.all_cons, Bool.and_eq_true] at h ⊢; exact ⟨by decide, h.1, ih h.2⟩

/-- Parts escaped one by one. -/
inductive EscAll : List B → List B → Prop
  | nil : EscAll [] []
  | cons {s p : B} {l m : List B} : Esc s p → EscAll l m → EscAll (s :: l) (p :: m)

theorem esc_split {s p : B} (he : Esc s p) : EscAll (splitS 47 s) (splitS 47 p) := by
  induction he with
  | nil => exact .cons .nil .nil
  | same c s p hc _ ih =>
    by_cases h : c = 47
    · subst h
      rw [splitS, splitS, if_pos rfl, if_pos rfl]
      exact .cons .nil ih
    · rw [splitS, splitS, if_neg h, if_neg h]
      revert ih
      cases splitS 47 s <;> cases splitS 47 p <;> intro ih
      · exact .cons (.same c _ _ hc .nil) .nil
      · cases ih
      · cases ih
      · cases ih with
        | cons h1 h2 => exact .cons (.same c _ _ hc h1) h2
  | esc c s p h1 h2 h3 _ ih =>
    rw [splitS, splitS, splitS, if_neg h3, if_neg h3, if_neg (by decide)]
    revert ih
    cases splitS 47 s <;> cases splitS 47 p <;> intro ih
    · exact .cons (.esc c _ _ h1 h2 h3 .nil) .nil
    · cases ih
    · cases ih
    · cases ih with
      | cons h4 h5 => exact .cons (.esc c _ _ h1 h2 h3 h4) h5

theorem EscAll.length {l m : List B} (h : EscAll l m) : m.length = l.length := by
  induction h with
  | nil => rfl
  | cons _ _ ih => simp [ih]

theorem esc_comps {l m : List B} (h : EscAll l m) (hl : ∀ s ∈ l, s ≠ [] ∧ validD s = true) : compsP m = some (l.map fun s => some ((runesP s).map lit)) := by
  induction h with
  | nil => rfl
  | cons h1 _ ih =>
    obtain ⟨h2, h3⟩ := hl _ List.mem_cons_self
    rw [compsP, esc_comp h2 h3 h1]
    simp only
    rw [ih (fun s hs => hl s (by simp [hs]))]
    rfl

theorem component_facts {s : B} (h : componentP s = true) : s ≠ [] ∧ validD s = true ∧ (47 : UInt8) ∉ s ∧ s ≠ [46] ∧ s ≠ [46, 46] ∧ s.length ≤ 64 ∧ s.all (fun b => decide (32 ≤ b.toNat)) = true := by
  unfold componentP cleanP at h
  simp only [Bool.and_eq_true, Bool.not_eq_true', decide_eq_true_eq, List.isEmpty_eq_false_iff, List.contains_eq_mem, decide_eq_false_iff_not, beq_eq_false_iff_ne, ne_eq] at h
  obtain ⟨⟨⟨⟨⟨h1, h2⟩, h3, h4⟩, h5⟩, h6⟩, h7⟩ := h
  exact ⟨h1, h4, h5, h6, h7, h2, h3⟩

theorem valid_facts {s : B} (h : validP s = true) : s.length ≤ 512 ∧ (splitS 47 s).length ≤ 16 ∧ ∀ p ∈ splitS 47 s, componentP p = true := by
  unfold validP at h
  simp only [Bool.and_eq_true, decide_eq_true_eq, List.all_eq_true] at h
  exact ⟨h.1.1, h.1.2, h.2⟩

theorem valid_app {s t : B} (hs : validD s = true) (ht : validD t = true) : validD (s ++ t) = true := by
  have h := vs_of_valid hs
  generalize runesP s = rs at h
  induction h with
  | nil => exact ht
  | asc b u rs hb hv ih => rw [List.cons_append, validD_cons b _ hb]; exact ih hv.runes.1
  | high e u r rs h1 h2 h3 h4 h5 h6 hv ih =>
    rw [List.append_assoc, validD_step _ (by simp [h3]), h4, if_neg h6, List.drop_left]
    exact ih hv.runes.1

theorem valid_join : ∀ {l : List B}, (∀ p ∈ l, validD p = true) → validD (joinS 47 l) = true
  | [], _ => rfl
  | [p], h => h p (by simp)
  | p :: q :: r, h => by
    rw [joinS]
    refine valid_app (h p (by simp)) ?_
    rw [validD_cons 47 _ (by decide)]
    exact valid_join (fun x hx => h x (by simp [hx]))

theorem low_join : ∀ {l : List B}, (∀ p ∈ l, p.all (fun b => decide (32 ≤ b.toNat)) = true) → (joinS 47 l).all (fun b => decide (32 ≤ b.toNat)) = true
  | [], _ => rfl
  | [p], h => h p (by simp)
  | p :: q :: r, h => by
    rw [joinS, List.all_append, List.all_cons, Bool.and_eq_true, Bool.and_eq_true]
    exact ⟨h p (by simp), by decide, low_join (fun x hx => h x (by simp [hx]))⟩

theorem valid_clean {s : B} (h : validP s = true) : validD s = true ∧ s.all (fun b => decide (32 ≤ b.toNat)) = true := by
  obtain ⟨_, _, h3⟩ := valid_facts h
  rw [← join_split 47 s]
  exact ⟨valid_join fun p hp => (component_facts (h3 p hp)).2.1, low_join fun p hp => (component_facts (h3 p hp)).2.2.2.2.2.2⟩

/-- The pattern of an escaped path. -/
theorem esc_compile {s p : B} (hv : validP s = true) (hl : p.length ≤ 512) (he : Esc s p) : compileP p = some ((splitS 47 s).map fun c => some ((runesP c).map lit)) := by
  obtain ⟨_, h2, h3⟩ := valid_facts hv
  obtain ⟨h4, h5⟩ := valid_clean hv
  have hsp := esc_split he
  unfold compileP cleanP
  rw [he.valid h4, he.low h5, hsp.length]
  simp only [hl, h2, decide_true, Bool.and_self, if_true]
  exact esc_comps hsp fun c hc => ⟨(component_facts (h3 c hc)).1, (component_facts (h3 c hc)).2.1⟩

theorem literalGo_esc : ∀ (i : Nat) (s : B), s.all (fun b => decide (32 ≤ b.toNat)) = true → Esc s (literalGo i s)
  | _, [], _ => .nil
  | i, c :: t, h => by
    simp only [List.all_cons, Bool.and_eq_true, decide_eq_true_eq] at h
    rw [literalGo]
    split
    · rename_i hc
      refine .esc c t _ ?_ h.1 ?_ (literalGo_esc (i + 1) t h.2)
      · rcases hc with rfl | rfl | rfl | rfl | ⟨_, rfl | rfl⟩ <;> decide
      · rcases hc with rfl | rfl | rfl | rfl | ⟨_, rfl | rfl⟩ <;> decide
    · rename_i hc
      refine .same c t _ ?_ (literalGo_esc (i + 1) t h.2)
      rintro (rfl | rfl | rfl | rfl) <;> simp at hc

theorem literal_compile {s : B} (hv : validP s = true) (hl : s.length ≤ 256) : compileP (literalP s) = some ((splitS 47 s).map fun c => some ((runesP c).map lit)) := by
  have he := literalGo_esc 0 s (valid_clean hv).2
  exact esc_compile hv (by have := he.len; show (literalGo 0 s).length ≤ 512; omega) he

/-! ### what the items of a plain text match -/
theorem reach_go (runes : List Nat) : ∀ (l pre : List Nat) (reach : Nat → Bool), (∀ i, i ≤ runes.length → reach i = decide (i = pre.length ∧ runes.take i = pre)) →
    ∀ i, i ≤ runes.length → (l.map lit).foldl (fun reach x => stepP x runes reach) reach i = decide (i = (pre ++ l).length ∧ runes.take i = pre ++ l)
  | [], pre, reach, h, i, hi => by simpa using h i hi
  | r :: l, pre, reach, h, i, hi => by
    rw [List.map_cons, List.foldl_cons, reach_go runes l (pre ++ [r]) (stepP (lit r) runes reach) ?_ i hi]
    · simp
    · intro i hi
      cases i with
      | zero => simp [stepP, lit]
      | succ i =>
        have hg : runes.getD i 0 = runes[i] := by rw [List.getD_eq_getElem?_getD, List.getElem?_eq_getElem (by omega), Option.getD_some]
        rw [stepP, hg]
        simp only [lit, Bool.false_eq_true, if_false]
        rw [h i (by omega), Bool.eq_iff_iff]
        rw [List.take_succ_eq_append_getElem (by omega)]
        simp only [admitsP, List.any_cons, List.any_nil, Bool.or_false, Bool.and_eq_true, decide_eq_true_eq, bne_iff_ne, ne_eq, Bool.not_eq_false, List.length_append, List.length_singleton, Nat.add_right_cancel_iff]
        constructor
        · rintro ⟨⟨h1, h2⟩, h3, h4⟩
          exact ⟨h1, by rw [h2, Nat.le_antisymm h4 h3]⟩
        · rintro ⟨h1, h2⟩
          have h3 := List.append_inj' h2 rfl
          obtain ⟨h4, h5⟩ := h3
          simp at h5
          exact ⟨⟨h1, h4⟩, by omega, by omega⟩

theorem reach_lit (runes l : List Nat) (i : Nat) (hi : i ≤ runes.length) : reachP runes (l.map lit) i = decide (i = l.length ∧ runes.take i = l) := by
  have := reach_go runes l [] (fun i => i == 0) (fun i _ => by cases i <;> simp) i hi
  rw [List.nil_append] at this
  exact this

theorem single_lit (l : List Nat) (s : B) : singleP (l.map lit) s = decide (runesP s = l) := by
  unfold singleP
  rw [reach_lit _ _ _ (Nat.le_refl _), List.take_length, Bool.eq_iff_iff]
  simp only [decide_eq_true_eq]
  constructor
  · exact fun h => h.2
  · rintro rfl; exact ⟨rfl, rfl⟩

theorem matches_lit : ∀ (l : List (List Nat)) (path : List B), matchesP (l.map fun c => some (c.map lit)) path = decide (path.map runesP = l)
  | [], path => by cases path <;> simp [matchesP]
  | c :: l, [] => by simp [matchesP]
  | c :: l, q :: path => by
    rw [List.map_cons, matchesP, single_lit, matches_lit l path, Bool.eq_iff_iff]
    simp

theorem map_inj : ∀ {l m : List B}, (∀ p ∈ l, validD p = true) → (∀ p ∈ m, validD p = true) → l.map runesP = m.map runesP → l = m
  | [], [], _, _, _ => rfl
  | [], _ :: _, _, _, h => by simp at h
  | _ :: _, [], _, _, h => by simp at h
  | x :: l, y :: m, hl, hm, h => by
    simp only [List.map_cons, List.cons.injEq] at h
    rw [runes_inj (hl x (by simp)) (hm y (by simp)) h.1, map_inj (fun p hp => hl p (by simp [hp])) (fun p hp => hm p (by simp [hp])) h.2]

/-- A literal matches its path, and no other path. -/
theorem literal_match {s t : B} (hs : validP s = true) (ht : validP t = true) : matchP ((splitS 47 s).map fun c => some ((runesP c).map lit)) t = decide (s = t) := by
  have h : ((splitS 47 s).map fun c => some ((runesP c).map lit)) = ((splitS 47 s).map runesP).map fun c => some (c.map lit) := by simp
  unfold matchP
  rw [h, matches_lit, Bool.eq_iff_iff]
  simp only [decide_eq_true_eq]
  constructor
  · intro h1
    have h2 := map_inj (fun p hp => (component_facts ((valid_facts ht).2.2 p hp)).2.1) (fun p hp => (component_facts ((valid_facts hs).2.2 p hp)).2.1) h1
    rw [← join_split 47 s, ← join_split 47 t, h2]
  · rintro rfl; rfl

/-! ### ** and joined patterns -/
theorem any_tail_of {f : List B → Bool} : ∀ (l m : List B), f m = true → anyTail f (l ++ m) = true
  | [], m, h => by cases m <;> simp [anyTail, h]
  | c :: l, m, h => by rw [List.cons_append, anyTail, any_tail_of l m h, Bool.or_true]

theorem any_tail {f : List B → Bool} : ∀ {path : List B}, anyTail f path = true → ∃ l m, path = l ++ m ∧ f m = true
  | [], h => ⟨[], [], rfl, h⟩
  | c :: path, h => by
    rw [anyTail, Bool.or_eq_true] at h
    rcases h with h | h
    · exact ⟨[], c :: path, rfl, h⟩
    · obtain ⟨l, m, rfl, h2⟩ := any_tail h
      exact ⟨c :: l, m, rfl, h2⟩

theorem matches_app (q : List (Option (List Item))) (b : List B) (hb : matchesP q b = true) : ∀ (p : List (Option (List Item))) (a : List B), matchesP p a = true → matchesP (p ++ q) (a ++ b) = true
  | [], a, h => by
    rw [matchesP, List.isEmpty_iff] at h
    subst h; exact hb
  | none :: p, a, h => by
    rw [matchesP] at h
    obtain ⟨l, m, rfl, h2⟩ := any_tail h
    rw [List.cons_append, matchesP, List.append_assoc]
    exact any_tail_of l _ (matches_app q b hb p m h2)
  | some x :: p, [], h => by simp [matchesP] at h
  | some x :: p, c :: a, h => by
    rw [matchesP, Bool.and_eq_true] at h
    rw [List.cons_append, List.cons_append, matchesP, Bool.and_eq_true]
    exact ⟨h.1, matches_app q b hb p a h.2⟩

theorem comps_app : ∀ {l m : List B} {x y : List (Option (List Item))}, compsP l = some x → compsP m = some y → compsP (l ++ m) = some (x ++ y)
  | [], m, x, y, h1, h2 => by simp [compsP] at h1; subst h1; exact h2
  | p :: l, m, x, y, h1, h2 => by
    rw [compsP] at h1
    rw [List.cons_append, compsP]
    cases hc : compP p with
    | none => rw [hc] at h1; cases h1
    | some c =>
      rw [hc] at h1
      simp only [Option.map_eq_some_iff] at h1
      obtain ⟨x', h3, rfl⟩ := h1
      simp only [comps_app h3 h2, Option.map_some, List.cons_append]

theorem compile_comps {s : B} {x} (h : compileP s = some x) : compsP (splitS 47 s) = some x := by
  unfold compileP at h
  split at h
  · exact h
  · cases h

/-- The patterns of two parts of a path match the joined path. -/
theorem joined_match {p q a b : B} {x y z : List (Option (List Item))} (hp : compileP p = some x) (hq : compileP q = some y) (hz : compileP (p ++ 47 :: q) = some z) (ha : matchP x a = true) (hb : matchP y b = true) : matchP z (a ++ 47 :: b) = true := by
  have h1 := comps_app (compile_comps hp) (compile_comps hq)
  have h2 := compile_comps hz
  rw [splitS_append, h1] at h2
  obtain rfl := Option.some.inj h2
  unfold matchP at *
  rw [splitS_append]
  exact matches_app _ _ hb _ _ ha

theorem stars_compile : compileP [42, 42] = some [none] := by decide +kernel
theorem stars_match (s : B) : matchP [none] s = true := by
  unfold matchP
  rw [matchesP]
  have := any_tail_of (f := matchesP []) (splitS 47 s) [] rfl
  simpa using this

end Go.Proofs.YtdcghpeomaailaaDoor.Pn
