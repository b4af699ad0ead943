/-
  Plain laws on trees of files: each entry's parent is a directory of the tree; putting, removing, moving keep that; Check accepts it.
-/
import Derived.Test.YtdcghpeomaailaaDoorFt2
import Derived.Test.YtdcghpeomaailaaDoorLawPath
import Derived.Test.YtdcghpeomaailaaDoorFtMoveL
namespace Go.Proofs.YtdcghpeomaailaaDoor.Ft
open Pn (B cmpP validP withinP parentP)

/-- A tree. -/
structure Tree (t : List Ent) : Prop where
  sorted : SortedT t
  good : ∀ e ∈ t, e.valid = true
  up : ∀ e ∈ t, belowE t (parentP e.path) = 0

theorem path_valid {e : Ent} (h : e.valid = true) : validP e.path = true := by
  unfold Ent.valid at h
  simp only [Bool.and_eq_true] at h
  exact h.1.1.1.1

theorem below_zero {t : List Ent} {d : B} : belowE t d = 0 ↔ d = [] ∨ ∃ x, find t d = some x ∧ x.kind = 2 := by
  unfold belowE
  by_cases hd : d = []
  · rw [if_pos hd]; simp [hd]
  · rw [if_neg hd]
    cases hf : find t d with
    | none => simp [hd]
    | some x =>
      simp only [hd, false_or, Option.some.injEq, exists_eq_left']
      by_cases hk : x.kind = 2
      · rw [if_pos hk]; simp [hk]
      · rw [if_neg hk]; simp [hk]

theorem find_mem {t : List Ent} (hs : SortedT t) {x : Ent} {p : B} : find t p = some x ↔ x ∈ t ∧ x.path = p :=
  ⟨find_some, fun ⟨h1, h2⟩ => by rw [← h2]; exact find_of hs h1⟩

theorem find_none_iff {t : List Ent} {p : B} : find t p = none ↔ ∀ x ∈ t, x.path ≠ p := by
  constructor
  · exact find_none
  · intro h
    cases hf : find t p with
    | none => rfl
    | some x => exact absurd (find_some hf).2 (h x (find_some hf).1)

theorem Tree.nil : Tree [] := ⟨List.Pairwise.nil, by simp, by simp⟩

/-- An entry that lies within a: a is an entry; a directory, unless it is the entry itself. -/
theorem Tree.anc {t : List Ent} (h : Tree t) {a : B} (ha : a ≠ []) : ∀ (n : Nat) (e : Ent), e.path.length ≤ n → e ∈ t → withinP a e.path = true → ∃ x ∈ t, x.path = a ∧ (x.kind = 2 ∨ a = e.path)
  | 0, e, hn, he, _ => absurd (List.length_eq_zero_iff.1 (Nat.le_zero.1 hn)) (Pn.ne_of_valid (path_valid (h.good e he)))
  | n + 1, e, hn, he, hw => by
    by_cases hp : e.path = a
    · exact ⟨e, he, hp, .inr hp.symm⟩
    · have hv := path_valid (h.good e he)
      have hup := Pn.within_up ha hw hp
      have hne : parentP e.path ≠ [] := by
        intro h0
        have := Pn.within_len hup
        rw [h0] at this
        exact ha (List.length_eq_zero_iff.1 (Nat.le_zero.1 this))
      rcases below_zero.1 (h.up e he) with h0 | ⟨x, hx, hk⟩
      · exact absurd h0 hne
      · obtain ⟨hx1, hx2⟩ := find_some hx
        have hsh := Pn.parent_short (Pn.ne_of_valid hv)
        obtain ⟨y, hy, hya, hyk⟩ := h.anc ha n x (by rw [hx2]; omega) hx1 (by rw [hx2]; exact hup)
        refine ⟨y, hy, hya, .inl ?_⟩
        rcases hyk with hyk | hyk
        · exact hyk
        · have : y = x := h.sorted.one hy hx1 (by rw [hya, hyk])
          rw [this]; exact hk

theorem Tree.not_in {t : List Ent} (h : Tree t) {a : B} (ha : a ≠ []) (hf : find t a = none) {e : Ent} (he : e ∈ t) : withinP a e.path = false := by
  cases hw : withinP a e.path with
  | false => rfl
  | true =>
    obtain ⟨x, hx, hxa, _⟩ := h.anc ha _ e (Nat.le_refl _) he hw
    exact absurd hxa (find_none hf x hx)

theorem put_tree {t : List Ent} (h : Tree t) (e : Ent) : Tree (put t e).1 := by
  unfold put
  split
  · exact h
  · rename_i hv
    have hv : e.valid = true := by cases hx : e.valid <;> simp_all
    split
    · exact h
    · rename_i hb
      have hb : belowE t (parentP e.path) = 0 := by
        rcases Classical.em (belowE t (parentP e.path) = 0) with h | h
        · exact h
        · exact absurd h hb
      have key : (∀ old, find t e.path = some old → old.kind = e.kind) → Tree (insE e t) := fun hk => by
        refine ⟨insE_sorted h.sorted, fun x hx => ?_, fun x hx => ?_⟩
        · rcases (mem_insE h.sorted x).1 hx with rfl | ⟨hx, _⟩
          · exact hv
          · exact h.good x hx
        · -- a directory stays one
          have dir : ∀ d, belowE t d = 0 → (d = e.path → ∃ o ∈ t, o.path = d ∧ o.kind = 2) → belowE (insE e t) d = 0 := fun d hd hde => by
            rw [below_zero] at hd ⊢
            rcases hd with hd | ⟨y, hy, hyk⟩
            · exact .inl hd
            · obtain ⟨hy1, hy2⟩ := find_some hy
              by_cases hde' : d = e.path
              · refine .inr ⟨e, (find_mem (insE_sorted h.sorted)).2 ⟨(mem_insE h.sorted e).2 (.inl rfl), hde'.symm⟩, ?_⟩
                rw [← hk y (by rw [← hde']; exact hy)]; exact hyk
              · exact .inr ⟨y, (find_mem (insE_sorted h.sorted)).2 ⟨(mem_insE h.sorted y).2 (.inr ⟨hy1, by rw [hy2]; exact hde'⟩), hy2⟩, hyk⟩
          rcases (mem_insE h.sorted x).1 hx with rfl | ⟨hx, _⟩
          · refine dir _ hb fun e1 => ?_
            have := Pn.parent_short (Pn.ne_of_valid (path_valid hv))
            rw [e1] at this; omega
          · refine dir _ (h.up x hx) fun e1 => ?_
            rcases below_zero.1 (h.up x hx) with h0 | ⟨y, hy, hyk⟩
            · exact absurd (by rw [← e1]; exact h0) (Pn.ne_of_valid (path_valid hv))
            · exact ⟨y, (find_some hy).1, (find_some hy).2, hyk⟩
      cases hf : find t e.path with
      | none =>
        simp only
        split
        · exact h
        · exact key (fun old ho => by rw [hf] at ho; cases ho)
      | some old =>
        simp only
        split
        · exact h
        · rename_i hk
          exact key (fun o ho => by rw [hf] at ho; cases ho; exact Classical.not_not.1 hk)

/-- Taking out all within a path. -/
theorem Tree.without {t : List Ent} (h : Tree t) {a : B} : Tree (t.filter fun e => !withinP a e.path) := by
  refine ⟨filter_sorted h.sorted _, fun x hx => h.good x (List.mem_filter.1 hx).1, fun x hx => ?_⟩
  obtain ⟨hx1, hx2⟩ := List.mem_filter.1 hx
  rw [below_zero]
  rcases below_zero.1 (h.up x hx1) with h0 | ⟨y, hy, hyk⟩
  · exact .inl h0
  · obtain ⟨hy1, hy2⟩ := find_some hy
    by_cases h0 : parentP x.path = []
    · exact .inl h0
    · refine .inr ⟨y, (find_mem (filter_sorted h.sorted _)).2 ⟨List.mem_filter.2 ⟨hy1, ?_⟩, hy2⟩, hyk⟩
      cases hw : withinP a y.path with
      | false => rfl
      | true =>
        have h3 := Pn.within_trans hw (by rw [hy2]; exact Pn.within_of_parent (path_valid (h.good x hx1)) h0)
        rw [h3] at hx2; cases hx2

theorem remove_tree {t : List Ent} (h : Tree t) (p : B) (below : Bool) : Tree (remove t p below).1 := by
  unfold remove
  split
  · exact h
  · split
    · exact h
    · split
      · exact h
      · exact h.without

/-- What a possible move has ahead of it. -/
structure CanMove (t : List Ent) (a b : B) : Prop where
  tree : Tree t
  va : validP a = true
  vb : validP b = true
  has : find t a ≠ none
  out : withinP a b = false
  free : find t b = none
  dir : belowE t (parentP b) = 0
  fits : ∀ e ∈ under t a, validP (e.shift a b).path = true

theorem movable_zero {t : List Ent} {a b : B} (h : movable t a b = 0) : validP a = true ∧ validP b = true ∧ find t a ≠ none ∧ withinP a b = false ∧ find t b = none ∧ belowE t (parentP b) = 0 := by
  unfold movable at h
  split at h
  · cases h
  · rename_i h1
    split at h
    · cases h
    · rename_i h2
      split at h
      · cases h
      · rename_i h3
        split at h
        · cases h
        · rename_i h4
          refine ⟨?_, ?_, h2, by simpa using h3, Classical.not_not.1 h4, h⟩
          · cases hx : validP a <;> simp_all
          · cases hx : validP b <;> simp_all

theorem movable_of {t : List Ent} {a b : B} (h1 : validP a = true) (h2 : validP b = true) (h3 : find t a ≠ none) (h4 : withinP a b = false) (h5 : find t b = none) (h6 : belowE t (parentP b) = 0) : movable t a b = 0 := by
  unfold movable
  rw [if_neg (by simp [h1, h2]), if_neg h3, if_neg (by simp [h4]), if_neg (by simp [h5])]
  exact h6

/-- The tree behind a move. -/
def moved (t : List Ent) (a b : B) : List Ent := ((under t a).map fun e => e.shift a b).foldl (fun t e => insE e t) (t.filter fun e => !withinP a e.path)

theorem move_cases {t : List Ent} (h : Tree t) (a b : B) : ((move t a b).1 = t ∧ (move t a b).2 ≠ 0) ∨ (CanMove t a b ∧ move t a b = (moved t a b, 0)) := by
  unfold move
  split
  · rename_i h1
    exact .inl ⟨rfl, h1⟩
  · rename_i h1
    split
    · exact .inl ⟨rfl, by simp⟩
    · rename_i h2
      obtain ⟨m1, m2, m3, m4, m5, m6⟩ := movable_zero (Classical.not_not.1 h1)
      refine .inr ⟨⟨h, m1, m2, m3, m4, m5, m6, fun e he => ?_⟩, rfl⟩
      have h3 : ((under t a).all fun e => validP (e.shift a b).path) = true := by simpa using h2
      exact List.all_eq_true.1 h3 e he

theorem fold_mem : ∀ (l : List Ent) {t : List Ent}, SortedT t → l.Pairwise (fun x y => x.path ≠ y.path) → ∀ x, x ∈ l.foldl (fun t e => insE e t) t ↔ x ∈ l ∨ (x ∈ t ∧ ∀ y ∈ l, x.path ≠ y.path)
  | [], t, _, _, x => by simp
  | e :: l, t, h, hp, x => by
    obtain ⟨h1, h2⟩ := List.pairwise_cons.1 hp
    rw [List.foldl_cons, fold_mem l (insE_sorted h) h2 x, mem_insE h]
    constructor
    · rintro (hx | ⟨rfl | ⟨hx, hne⟩, hall⟩)
      · exact .inl (List.mem_cons_of_mem _ hx)
      · exact .inl (by simp)
      · refine .inr ⟨hx, fun y hy => ?_⟩
        rcases List.mem_cons.1 hy with rfl | hy
        · exact hne
        · exact hall y hy
    · rintro (hx | ⟨hx, hall⟩)
      · rcases List.mem_cons.1 hx with rfl | hx
        · exact .inr ⟨.inl rfl, fun y hy => h1 y hy⟩
        · exact .inl hx
      · exact .inr ⟨.inr ⟨hx, hall e (by simp)⟩, fun y hy => hall y (List.mem_cons_of_mem _ hy)⟩

theorem shift_path {e : Ent} {a b : B} (h : withinP a e.path = true) (ha : a ≠ []) : ∃ r, e.path = a ++ r ∧ (e.shift a b).path = b ++ r ∧ (r = [] ∨ ∃ u, r = 47 :: u) := by
  obtain ⟨_, _, r, hr, hu⟩ := (Pn.within_iff ha).1 h
  refine ⟨r, hr, ?_, hu⟩
  show b ++ e.path.drop a.length = b ++ r
  rw [hr, List.drop_left]

theorem shift_back {e : Ent} {a b : B} (h : withinP a e.path = true) (ha : a ≠ []) : (e.shift a b).shift b a = e := by
  obtain ⟨r, h1, h2, _⟩ := shift_path (b := b) h ha
  unfold Ent.shift at *
  simp only at h2 ⊢
  have : a ++ (b ++ e.path.drop a.length).drop b.length = e.path := by rw [List.drop_left, h1, List.drop_left]
  rw [this]

theorem CanMove.ne {t : List Ent} {a b : B} (h : CanMove t a b) : a ≠ [] := Pn.ne_of_valid h.va
theorem CanMove.ne' {t : List Ent} {a b : B} (h : CanMove t a b) : b ≠ [] := Pn.ne_of_valid h.vb

theorem CanMove.under {t : List Ent} {a b : B} (h : CanMove t a b) : Ft.under t a = t.filter fun e => withinP a e.path := under_eq (.inl h.has)

theorem CanMove.mem_under {t : List Ent} {a b : B} (h : CanMove t a b) {e : Ent} : e ∈ Ft.under t a ↔ e ∈ t ∧ withinP a e.path = true := by
  rw [h.under, List.mem_filter]

/-- The moved entries are in order. -/
theorem CanMove.shifted {t : List Ent} {a b : B} (h : CanMove t a b) : SortedT ((Ft.under t a).map fun e => e.shift a b) := by
  unfold SortedT
  rw [List.pairwise_map]
  refine List.Pairwise.imp_of_mem ?_ (under_sorted h.tree.sorted a)
  intro x y hx hy hxy
  obtain ⟨r, h1, h2, _⟩ := shift_path (b := b) (h.mem_under.1 hx).2 h.ne
  obtain ⟨s, h3, h4, _⟩ := shift_path (b := b) (h.mem_under.1 hy).2 h.ne
  rw [h2, h4, Pn.cmp_app]
  rw [h1, h3, Pn.cmp_app] at hxy
  exact hxy

theorem CanMove.mem {t : List Ent} {a b : B} (h : CanMove t a b) (x : Ent) : x ∈ moved t a b ↔ (∃ e ∈ t, withinP a e.path = true ∧ x = e.shift a b) ∨ (x ∈ t ∧ withinP a x.path = false) := by
  unfold moved
  rw [fold_mem _ (filter_sorted h.tree.sorted _) (h.shifted.ne) x, List.mem_map]
  constructor
  · rintro (⟨e, he, rfl⟩ | ⟨hx, _⟩)
    · exact .inl ⟨e, (h.mem_under.1 he).1, (h.mem_under.1 he).2, rfl⟩
    · obtain ⟨h1, h2⟩ := List.mem_filter.1 hx
      exact .inr ⟨h1, by simpa using h2⟩
  · rintro (⟨e, he, hw, rfl⟩ | ⟨h1, h2⟩)
    · exact .inl ⟨e, h.mem_under.2 ⟨he, hw⟩, rfl⟩
    · refine .inr ⟨List.mem_filter.2 ⟨h1, by simp [h2]⟩, fun y hy e1 => ?_⟩
      obtain ⟨e, he, rfl⟩ := List.mem_map.1 hy
      have hw := h.tree.not_in h.ne' h.free h1
      obtain ⟨r, _, h4, h5⟩ := shift_path (b := b) (h.mem_under.1 he).2 h.ne
      have : withinP b x.path = true := (Pn.within_iff h.ne').2 ⟨path_valid (h.tree.good x h1), h.vb, r, by rw [e1, h4], h5⟩
      rw [hw] at this; cases this

theorem CanMove.sorted' {t : List Ent} {a b : B} (h : CanMove t a b) : SortedT (moved t a b) := fold_sorted _ (filter_sorted h.tree.sorted _)

theorem move_good {t : List Ent} {a b : B} (h : CanMove t a b) : Tree (moved t a b) := by
  refine ⟨h.sorted', fun x hx => ?_, fun x hx => ?_⟩
  · rcases (h.mem x).1 hx with ⟨e, he, hw, rfl⟩ | ⟨hx, _⟩
    · exact shift_valid (h.tree.good e he) (h.fits e (h.mem_under.2 ⟨he, hw⟩))
    · exact h.tree.good x hx
  · -- a directory outside stays one
    have stay : ∀ d, belowE t d = 0 → withinP a d = false → belowE (moved t a b) d = 0 := fun d hd hw => by
      rw [below_zero] at hd ⊢
      rcases hd with hd | ⟨y, hy, hyk⟩
      · exact .inl hd
      · obtain ⟨hy1, hy2⟩ := find_some hy
        exact .inr ⟨y, (find_mem h.sorted').2 ⟨(h.mem y).2 (.inr ⟨hy1, by rw [hy2]; exact hw⟩), hy2⟩, hyk⟩
    rcases (h.mem x).1 hx with ⟨e, he, hw, rfl⟩ | ⟨hx, hwx⟩
    · obtain ⟨r, h1, h2, h3⟩ := shift_path (b := b) hw h.ne
      rcases h3 with rfl | hu
      · rw [h2, List.append_nil]
        refine stay _ h.dir ?_
        cases hwp : withinP a (parentP b) with
        | false => rfl
        | true =>
          have hpb : parentP b ≠ [] := Pn.ne_of_valid (Pn.within_valid hwp)
          have := Pn.within_trans hwp (Pn.within_of_parent h.vb hpb)
          rw [h.out] at this; cases this
      · obtain ⟨s, hs1, hs2, hs3⟩ := Pn.parent_shift (a := a) (b := b) hu
        rw [h2, hs2]
        rcases below_zero.1 (h.tree.up e he) with h0 | ⟨y, hy, hyk⟩
        · rw [h1, hs1] at h0
          simp [h.ne] at h0
        · obtain ⟨hy1, hy2⟩ := find_some hy
          rw [h1, hs1] at hy2
          have hwy : withinP a y.path = true := (Pn.within_iff h.ne).2 ⟨path_valid (h.tree.good y hy1), h.va, s, hy2, hs3⟩
          rw [below_zero]
          refine .inr ⟨y.shift a b, (find_mem h.sorted').2 ⟨(h.mem _).2 (.inl ⟨y, hy1, hwy, rfl⟩), ?_⟩, hyk⟩
          show b ++ y.path.drop a.length = b ++ s
          rw [hy2, List.drop_left]
    · by_cases h0 : parentP x.path = []
      · rw [below_zero]; exact .inl h0
      · refine stay _ (h.tree.up x hx) ?_
        cases hwp : withinP a (parentP x.path) with
        | false => rfl
        | true =>
          have := Pn.within_trans hwp (Pn.within_of_parent (path_valid (h.tree.good x hx)) h0)
          rw [hwx] at this; cases this

theorem move_tree {t : List Ent} (h : Tree t) (a b : B) : Tree (move t a b).1 := by
  rcases move_cases h a b with ⟨h1, _⟩ | ⟨h1, h2⟩
  · rw [h1]; exact h
  · rw [h2]; exact move_good h1

/-- Check accepts a tree. -/
theorem fill_tree {t : List Ent} (h : Tree t) : ∀ (r acc : List Ent), t = acc ++ r → fillGo acc r = (t, 0)
  | [], acc, e => by simp [fillGo, e]
  | x :: r, acc, e => by
    have hx : x ∈ t := by rw [e]; simp
    have hs := h.sorted
    rw [e] at hs
    obtain ⟨s1, s2, s3⟩ := List.pairwise_append.1 hs
    have hl : late acc x = false := by
      unfold late
      cases hg : acc.getLast? with
      | none => rfl
      | some y =>
        have hy : y ∈ acc := List.mem_of_getLast? hg
        have := s3 y hy x (by simp)
        simp; omega
    have hb : belowE acc (parentP x.path) = 0 := by
      rw [below_zero]
      rcases below_zero.1 (h.up x hx) with h0 | ⟨y, hy, hyk⟩
      · exact .inl h0
      · by_cases h0 : parentP x.path = []
        · exact .inl h0
        · obtain ⟨hy1, hy2⟩ := find_some hy
          refine .inr ⟨y, (find_mem s1).2 ⟨?_, hy2⟩, hyk⟩
          have hlt := Pn.parent_less (path_valid (h.good x hx)) h0
          rw [← hy2] at hlt
          rw [e] at hy1
          rcases List.mem_append.1 hy1 with hy1 | hy1
          · exact hy1
          · rcases List.mem_cons.1 hy1 with rfl | hy1
            · exact absurd rfl (cmp_lt_ne hlt)
            · have := (List.pairwise_cons.1 s2).1 y hy1
              exact absurd (cmp_lt_trans hlt this) (fun h => cmp_lt_ne h rfl)
    rw [fillGo, if_neg (by rw [h.good x hx, hl]; simp), if_neg (by rw [hb]; simp)]
    exact fill_tree h r (acc ++ [x]) (by rw [e]; simp)

theorem check_tree {t : List Ent} (h : Tree t) (hl : t.length ≤ 4096) : check t = 0 := by
  unfold check
  rw [if_neg (by omega), fill_tree h t [] rfl]

theorem fillGo_tree : ∀ (r acc : List Ent), Tree acc → (fillGo acc r).2 = 0 → Tree (acc ++ r)
  | [], acc, h, _ => by simpa using h
  | e :: r, acc, h, hz => by
    rw [fillGo] at hz
    split at hz
    · simp at hz
    · rename_i h1
      split at hz
      · rename_i h2
        exact absurd hz h2
      · rename_i h2
        have hv : e.valid = true := by cases hx : e.valid <;> simp_all
        have hl : late acc e = false := by cases hx : late acc e <;> simp_all
        have hless : ∀ x ∈ acc, cmpP x.path e.path < 0 := by
          unfold late at hl
          cases hg : acc.getLast? with
          | none => exact none_less hg
          | some y =>
            rw [hg] at hl
            simp only [decide_eq_false_iff_not, Int.not_le] at hl
            exact last_less h.sorted hg hl
        have hs := snoc_sorted h.sorted hless
        have hT : Tree (acc ++ [e]) := by
          refine ⟨hs, fun x hx => ?_, fun x hx => ?_⟩
          · rcases List.mem_append.1 hx with hx | hx
            · exact h.good x hx
            · simp only [List.mem_singleton] at hx; subst hx; exact hv
          · have stay : ∀ d, belowE acc d = 0 → belowE (acc ++ [e]) d = 0 := fun d hd => by
              rw [below_zero] at hd ⊢
              rcases hd with hd | ⟨y, hy, hyk⟩
              · exact .inl hd
              · obtain ⟨hy1, hy2⟩ := find_some hy
                exact .inr ⟨y, (find_mem hs).2 ⟨List.mem_append_left _ hy1, hy2⟩, hyk⟩
            rcases List.mem_append.1 hx with hx | hx
            · exact stay _ (h.up x hx)
            · simp only [List.mem_singleton] at hx; subst hx
              exact stay _ (Classical.not_not.1 h2)
        have := fillGo_tree r (acc ++ [e]) hT hz
        simpa using this

theorem tree_of_check {t : List Ent} (h : check t = 0) : Tree t := by
  unfold check at h
  split at h
  · cases h
  · exact fillGo_tree t [] Tree.nil h

end Go.Proofs.YtdcghpeomaailaaDoor.Ft
