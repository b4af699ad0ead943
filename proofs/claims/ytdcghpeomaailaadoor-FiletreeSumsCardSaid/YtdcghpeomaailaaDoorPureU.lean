/-
  Plain laws on UTF-8: what a decoding step gives; 'clean' byte by byte; cutting at one byte is the library's Split.
-/
import Derived.Test.YtdcghpeomaailaaDoorPure
import Derived.Lib.MapLaws
import Derived.Lib.TrimUEq
import Derived.Lib.SplitLaws
import Derived.Lib.IndexLaws
import Derived.Laws.RangeAny
import Derived.Lib.LastIndexByte
namespace Go.Proofs.YtdcghpeomaailaaDoor.Pn
open Go.Lib

theorem encodeZ_high (r : Int) (h : 128 ≤ r) : ∀ x ∈ encodeRuneZ r, 128 ≤ x ∧ x < 256 := by
  intro x hx
  unfold encodeRuneZ at hx
  rw [if_neg (by omega)] at hx
  split at hx
  · simp at hx; omega
  · split at hx
    · simp at hx; omega
    · split at hx
      · simp at hx; omega
      · simp at hx; omega

theorem encode_high (r : Int) (h : 128 ≤ r) : ∀ b ∈ encodeRune r, 128 ≤ b.toNat := by
  intro b hb
  unfold encodeRune at hb
  obtain ⟨x, hx, rfl⟩ := List.mem_map.1 hb
  have := encodeZ_high r h x hx
  simp
  omega

/-- A decoding step: no encoding; one byte below 128; or some bytes from 128 on. -/
theorem decode_step (l : B) (hne : l ≠ []) :
    decodeL l = (65533, 1) ∨ (∃ b t, l = b :: t ∧ b.toNat < 128 ∧ decodeL l = (b.toNat, 1)) ∨
      (¬ ((decodeL l).1 = 65533 ∧ (decodeL l).2 = 1) ∧ 128 ≤ (decodeL l).1 ∧ 1 ≤ (decodeL l).2 ∧ (decodeL l).2 ≤ l.length ∧ encodeRune ((decodeL l).1 : Int) = l.take (decodeL l).2 ∧ ∀ b ∈ l.take (decodeL l).2, 128 ≤ b.toNat) := by
  match l, hne with
  | b :: t, hne =>
    by_cases hb : b.toNat < 128
    · exact .inr (.inl ⟨b, t, rfl, hb, decodeL_ascii b t hb⟩)
    · by_cases hv : (decodeL (b :: t)).1 = 65533 ∧ (decodeL (b :: t)).2 = 1
      · exact .inl (Prod.ext hv.1 hv.2)
      · have he := encode_decode (b :: t) hne hv
        have h1 := decodeL_width (b :: t)
        have h2 := decodeL_le (b :: t) hne
        have hr : 128 ≤ (decodeL (b :: t)).1 := by
          have := (decode_high ⟨(b :: t).toArray⟩ 0 (by simp [ByteArray.size]) (by show 128 ≤ (((b :: t).toArray)[0]'(by simp)).toNat; simp; omega)).1
          exact this
        refine .inr (.inr ⟨hv, hr, h1, h2, he, ?_⟩)
        rw [← he]
        exact encode_high _ (by omega)

def okL : Nat → B → Bool
  | 0, _ => true
  | n + 1, l => if l = [] then true else if (decodeL l).1 < 32 then false else okL n (l.drop (decodeL l).2)

theorem okL_valid : ∀ (n : Nat) (l : B), l.length ≤ n → validD l = true → okL n l = l.all (fun b => decide (32 ≤ b.toNat)) := by
  intro n
  induction n with
  | zero => intro l hl _; obtain rfl : l = [] := List.length_eq_zero_iff.1 (by omega); rfl
  | succ n ih =>
    intro l hl hv
    by_cases hne : l = []
    · subst hne; rfl
    · have hs := validD_step l hne
      rw [hv] at hs
      unfold okL
      rw [if_neg hne]
      rcases decode_step l hne with h | ⟨b, t, rfl, hb, h⟩ | ⟨h0, h1, h2, h3, h4, h5⟩
      · rw [h] at hs; simp at hs
      · rw [h] at hs ⊢
        simp only [List.drop_succ_cons, List.drop_zero] at hs ⊢
        rw [if_neg (by omega)] at hs
        have := ih t (by simpa using hl) hs.symm
        by_cases h32 : b.toNat < 32
        · rw [if_pos h32]; simp only [List.all_cons]; rw [decide_eq_false (by omega)]; rfl
        · rw [if_neg h32, this]; simp only [List.all_cons]; rw [decide_eq_true (by omega : 32 ≤ b.toNat)]; rfl
      · rw [if_neg h0] at hs
        rw [if_neg (by omega), ih _ (by rw [List.length_drop]; omega) hs.symm]
        conv => rhs; rw [← List.take_append_drop (decodeL l).2 l, List.all_append]
        have : (l.take (decodeL l).2).all (fun b => decide (32 ≤ b.toNat)) = true := by
          rw [List.all_eq_true]; intro b hb; have := h5 b hb; simp; omega
        rw [this, Bool.true_and]

/-- Clean is: no rune below 32, and valid. -/
theorem cleanP_eq (l : B) : (okL l.length l && validD l) = cleanP l := by
  unfold cleanP
  cases hv : validD l with
  | false => simp
  | true => rw [okL_valid _ _ (Nat.le_refl _) hv]

theorem indexByte_contains : ∀ (l : B) (c : UInt8), decide (0 ≤ indexByte l c) = l.contains c
  | [], c => by simp [indexByte]
  | x :: l, c => by
    have ih := indexByte_contains l c
    have hge := indexByte_ge l c
    rw [List.contains_cons, ← ih, indexByte]
    by_cases h : x = c
    · subst h; simp
    · have h' : (x == c) = false := beq_eq_false_iff_ne.2 h
      have h'' : (c == x) = false := beq_eq_false_iff_ne.2 (fun e => h e.symm)
      simp only [h', h'', Bool.false_or]
      by_cases h0 : indexByte l c = -1
      · simp [h0]
      · simp [h0]; omega

theorem splitS_ne (c : UInt8) (s : B) : splitS c s ≠ [] := by
  cases s with
  | nil => simp [splitS]
  | cons b t =>
    unfold splitS
    split
    · simp
    · split <;> simp

theorem splitS_cons_ne {c b : UInt8} (h : b ≠ c) (t : B) : ∃ p r, splitS c t = p :: r ∧ splitS c (b :: t) = (b :: p) :: r := by
  rcases hq : splitS c t with _ | ⟨p, r⟩
  · exact absurd hq (splitS_ne c t)
  · refine ⟨p, r, rfl, ?_⟩
    rw [splitS, if_neg h, hq]

/-- Cutting at a joint. -/
theorem splitS_append (c : UInt8) (p q : B) : splitS c (p ++ c :: q) = splitS c p ++ splitS c q := by
  induction p with
  | nil => simp [splitS]
  | cons b p ih =>
    by_cases h : b = c
    · subst h; simp only [List.cons_append, splitS, if_pos]; rw [ih]
    · obtain ⟨x, r, h1, h2⟩ := splitS_cons_ne h p
      obtain ⟨y, u, h3, h4⟩ := splitS_cons_ne h (p ++ c :: q)
      rw [List.cons_append, h4, h2]
      rw [ih, h1] at h3
      simp only [List.cons_append, List.cons.injEq] at h3
      obtain ⟨rfl, rfl⟩ := h3
      rfl

theorem splitS_none {c : UInt8} {s : B} (h : c ∉ s) : splitS c s = [s] := by
  induction s with
  | nil => rfl
  | cons b t ih =>
    simp only [List.mem_cons, not_or] at h
    rw [splitS, if_neg (fun e => h.1 e.symm), ih h.2]

theorem splitS_mem {c : UInt8} : ∀ {s : B}, ∀ p ∈ splitS c s, c ∉ p
  | [], p, h => by simp [splitS] at h; subst h; simp
  | b :: t, p, h => by
    by_cases hb : b = c
    · rw [splitS, if_pos hb] at h
      rcases List.mem_cons.1 h with rfl | h
      · simp
      · exact splitS_mem p h
    · obtain ⟨x, r, h1, h2⟩ := splitS_cons_ne hb t
      rw [h2] at h
      rcases List.mem_cons.1 h with rfl | h
      · have := splitS_mem x (by rw [h1]; simp)
        simp only [List.mem_cons, not_or]; exact ⟨fun e => hb e.symm, this⟩
      · exact splitS_mem p (by rw [h1]; simp [h])

theorem join_split (c : UInt8) : ∀ s : B, joinS c (splitS c s) = s
  | [] => rfl
  | b :: t => by
    have ih := join_split c t
    by_cases hb : b = c
    · subst hb
      rw [splitS, if_pos rfl]
      rcases hq : splitS b t with _ | ⟨p, r⟩
      · exact absurd hq (splitS_ne b t)
      · rw [hq] at ih; rw [joinS, ih]; rfl
    · obtain ⟨x, r, h1, h2⟩ := splitS_cons_ne hb t
      rw [h2]
      rw [h1] at ih
      cases r with
      | nil => simp only [joinS] at ih ⊢; rw [ih]
      | cons y r => simp only [joinS, List.cons_append] at ih ⊢; rw [ih]

theorem splitK_one (c : UInt8) : ∀ (n : Nat) (s : B), s.length ≤ n → splitK [c] 0 (count s [c]) s = splitS c s := by
  intro n
  induction n with
  | zero => intro s hs; obtain rfl : s = [] := List.length_eq_zero_iff.1 (by omega); rfl
  | succ n ih =>
    intro s hs
    by_cases hm : index s [c] = -1
    · rw [count_miss hm]
      have h := hm
      rw [index_one] at h
      have : c ∉ s := by
        have h2 := indexByte_contains s c
        rw [h] at h2
        intro hc
        have : s.contains c = true := by simpa using hc
        rw [this] at h2; simp at h2
      rw [splitS_none this]; rfl
    · obtain ⟨i, hi⟩ : ∃ i : Nat, index s [c] = i := by
        have := indexByte_ge s c
        rw [← index_one] at this
        exact ⟨(index s [c]).toNat, by omega⟩
      rw [count_hit (by simp) hi, Nat.add_comm, splitK, if_neg (by rw [hi]; simp), hi]
      simp only [List.length_cons, List.length_nil, Int.toNat_natCast, Nat.add_zero, Nat.zero_add]
      rw [index_one] at hi
      obtain ⟨h1, h2⟩ := indexByte_some hi
      have hlt : i < s.length := by
        rcases Nat.lt_or_ge i s.length with h | h
        · exact h
        · rw [List.getElem?_eq_none h] at h1; cases h1
      have hsp : s = s.take i ++ c :: s.drop (i + 1) := by
        rw [List.getElem?_eq_getElem hlt] at h1
        have h1 : s[i] = c := by injection h1
        rw [← h1, List.getElem_cons_drop, List.take_append_drop]
      rw [ih _ (by rw [List.length_drop]; omega)]
      conv => rhs; rw [hsp]
      rw [splitS_append, splitS_none (s := s.take i)]
      · rfl
      · intro hc
        obtain ⟨k, hk, he⟩ := List.getElem_of_mem hc
        rw [List.length_take] at hk
        refine h2 k (by omega) ?_
        rw [List.getElem?_eq_getElem (by omega), ← he, List.getElem_take]

/-- The library's Split at one byte. -/
theorem splitB_one (c : UInt8) (s : ByteArray) : (splitB ⟨#[c]⟩ 0 (countB s ⟨#[c]⟩) s).map (·.data.toList) = splitS c s.data.toList := by
  rw [splitB_data]; exact splitK_one c _ _ (Nat.le_refl _)
theorem splitB_cells (c : UInt8) (s : ByteArray) : (splitB ⟨#[c]⟩ 0 (countB s ⟨#[c]⟩) s).map Value.string = (splitS c s.data.toList).map fun l => Value.string ⟨l.toArray⟩ := by
  rw [← splitB_one, List.map_map]
  rfl
theorem splitB_count (c : UInt8) (s : ByteArray) : countB s ⟨#[c]⟩ + 1 = (splitS c s.data.toList).length := by
  rw [← splitB_one, List.length_map, splitB_all ⟨#[c]⟩ (show 1 ≤ ByteArray.size ⟨#[c]⟩ from Nat.le_refl 1) 0 _ s rfl]

theorem dropLast_append_ne {α : Type} {l r : List α} (h : r ≠ []) : (l ++ r).dropLast = l ++ r.dropLast := by
  induction l with
  | nil => rfl
  | cons a l ih =>
    rw [List.cons_append, List.dropLast_cons_of_ne_nil (by simp [h]), ih, List.cons_append]

theorem parentP_cut (p q : B) (h : (47 : UInt8) ∉ q) : parentP (p ++ 47 :: q) = p := by
  unfold parentP
  rw [splitS_append, splitS_none h, dropLast_append_ne (by simp)]
  simp [join_split]
theorem parentP_none (s : B) (h : (47 : UInt8) ∉ s) : parentP s = [] := by
  unfold parentP
  rw [splitS_none h]; rfl

theorem data_bang (s : ByteArray) (j : Nat) (h : j < s.size) : s.data[j]! = s.data.toList[j]'(by rw [← size_eq]; exact h) := by
  rw [getElem!_pos s.data j h]; simp

/-- What strings.LastIndexByte says of a path. -/
theorem last_slash (s : ByteArray) : (lastIndexByte s 47 = -1 ∧ (47 : UInt8) ∉ s.data.toList ∧ parentP s.data.toList = []) ∨
    ∃ i : Nat, i < s.size ∧ lastIndexByte s 47 = i ∧ s.data.toList = s.data.toList.take i ++ 47 :: s.data.toList.drop (i + 1) ∧ (47 : UInt8) ∉ s.data.toList.drop (i + 1) ∧ parentP s.data.toList = s.data.toList.take i := by
  rcases lastIndexByte_spec s 47 with ⟨h, hn⟩ | ⟨i, hi, h, hc, hn⟩
  · have : (47 : UInt8) ∉ s.data.toList := by
      intro hm
      obtain ⟨j, hj, he⟩ := List.getElem_of_mem hm
      rw [← size_eq] at hj
      refine hn j hj ?_
      rw [data_bang s j hj, he]; rfl
    exact .inl ⟨h, this, parentP_none _ this⟩
  · have hi' : i < s.data.toList.length := by rw [← size_eq]; exact hi
    have h1 : s.data.toList = s.data.toList.take i ++ 47 :: s.data.toList.drop (i + 1) := by
      have h1 : s.data.toList[i] = 47 := by
        rw [data_bang s i hi] at hc
        apply UInt8.toNat_inj.1; exact Int.ofNat.inj hc
      rw [← h1, List.getElem_cons_drop, List.take_append_drop]
    have h2 : (47 : UInt8) ∉ s.data.toList.drop (i + 1) := by
      intro hm
      obtain ⟨j, hj, he⟩ := List.getElem_of_mem hm
      rw [List.length_drop, ← size_eq] at hj
      refine hn (i + 1 + j) (by omega) (by omega) ?_
      rw [data_bang s _ (by omega)]
      rw [List.getElem_drop] at he
      rw [he]; rfl
    refine .inr ⟨i, hi, h, h1, h2, ?_⟩
    conv => lhs; rw [h1]
    exact parentP_cut _ _ h2

end Go.Proofs.YtdcghpeomaailaaDoor.Pn
