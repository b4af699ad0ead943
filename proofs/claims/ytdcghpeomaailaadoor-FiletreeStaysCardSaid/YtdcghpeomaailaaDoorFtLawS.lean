/-
  Plain laws: an operation that returns an error leaves the tree; sizes of what lies in a link; moving there and back.
-/
import Derived.Test.YtdcghpeomaailaaDoorFtOps
import Derived.Test.YtdcghpeomaailaaDoorFtSize
namespace Go.Proofs.YtdcghpeomaailaaDoor.Ft
open Pn (B cmpP validP withinP parentP)

theorem put_err {t : List Ent} {e : Ent} (h : (put t e).2 ≠ 0) : (put t e).1 = t := by
  unfold put at *
  split
  · rfl
  · rename_i h1
    rw [if_neg h1] at h
    split
    · rfl
    · rename_i h2
      rw [if_neg h2] at h
      cases hf : find t e.path with
      | none =>
        rw [hf] at h
        simp only at h ⊢
        split
        · rfl
        · rename_i h3
          rw [if_neg h3] at h; exact absurd rfl h
      | some old =>
        rw [hf] at h
        simp only at h ⊢
        split
        · rfl
        · rename_i h3
          rw [if_neg h3] at h; exact absurd rfl h

theorem remove_err {t : List Ent} {p : B} {b : Bool} (h : (remove t p b).2 ≠ 0) : (remove t p b).1 = t := by
  unfold remove at *
  split
  · rfl
  · rename_i h1
    rw [if_neg h1] at h
    split
    · rfl
    · rename_i h2
      rw [if_neg h2] at h
      split
      · rfl
      · rename_i h3
        rw [if_neg h3] at h; exact absurd rfl h

theorem move_err {t : List Ent} {a b : B} (h : (move t a b).2 ≠ 0) : (move t a b).1 = t := by
  unfold move at *
  split
  · rfl
  · rename_i h1
    rw [if_neg h1] at h
    split
    · rfl
    · rename_i h2
      rw [if_neg h2] at h; exact absurd rfl h

theorem do_err {t : List Ent} {x : OpE} (h : (doP t x).2 ≠ 0) : (doP t x).1 = t := by
  unfold doP at *
  split
  · rename_i h1
    rw [if_pos h1] at h; exact put_err h
  · rename_i h1
    rw [if_neg h1] at h
    split
    · rename_i h2
      rw [if_pos h2] at h; exact remove_err h
    · rename_i h2
      rw [if_neg h2] at h
      split
      · rename_i h3
        rw [if_pos h3] at h; exact move_err h
      · rfl

theorem valid_link_len {e : Ent} (h : e.valid = true) : e.link.length ≤ 512 := by
  unfold Ent.valid at h
  simp only [Bool.and_eq_true] at h
  have h2 := h.2
  split at h2
  · simp only [Bool.and_eq_true, List.isEmpty_iff] at h2; rw [h2.2]; simp
  · split at h2
    · simp only [Bool.and_eq_true, List.isEmpty_iff] at h2; rw [h2.2]; simp
    · split at h2
      · simp only [Bool.and_eq_true, decide_eq_true_eq] at h2; exact h2.1.2
      · cases h2

theorem shift_kind (e : Ent) (a b : B) : (e.shift a b).kind = e.kind := rfl
theorem shift_data (e : Ent) (a b : B) : (e.shift a b).data = e.data := rfl

theorem CanMove.under' {t : List Ent} {a b : B} (h : CanMove t a b) : Ft.under (moved t a b) b = (Ft.under t a).map fun e => e.shift a b := by
  have hT := move_good h
  have hb := h.ne'
  have hmb : find (moved t a b) b ≠ none := by
    cases hf : find t a with
    | none => exact absurd hf h.has
    | some e =>
      obtain ⟨h1, h2⟩ := find_some hf
      intro h3
      have hm : e.shift a b ∈ moved t a b := (h.mem _).2 (.inl ⟨e, h1, by rw [h2]; exact Pn.within_refl h.va, rfl⟩)
      refine find_none h3 _ hm ?_
      show b ++ e.path.drop a.length = b
      rw [h2, List.drop_of_length_le (Nat.le_refl _), List.append_nil]
  rw [under_eq (.inl hmb)]
  refine sorted_ext (filter_sorted h.sorted' _) h.shifted fun x => ?_
  rw [List.mem_filter, h.mem x, List.mem_map]
  constructor
  · rintro ⟨⟨e, he, hw, rfl⟩ | ⟨hx, hw⟩, hwb⟩
    · exact ⟨e, h.mem_under.2 ⟨he, hw⟩, rfl⟩
    · rw [h.tree.not_in hb h.free hx] at hwb; cases hwb
  · rintro ⟨e, he, rfl⟩
    obtain ⟨h1, h2⟩ := h.mem_under.1 he
    refine ⟨.inl ⟨e, h1, h2, rfl⟩, ?_⟩
    obtain ⟨r, _, h4, h5⟩ := shift_path (b := b) h2 h.ne
    exact (Pn.within_iff hb).2 ⟨h.fits e he, h.vb, r, h4, h5⟩

theorem files_shift (l : List Ent) (a b : B) : files (l.map fun e => e.shift a b) = files l := by
  unfold files; rw [List.filter_map, List.length_map]; rfl
theorem dirs_shift (l : List Ent) (a b : B) : dirs (l.map fun e => e.shift a b) = dirs l := by
  unfold dirs; rw [List.filter_map, List.length_map]; rfl
theorem links_shift (l : List Ent) (a b : B) : links (l.map fun e => e.shift a b) = links l := by
  unfold links; rw [List.filter_map, List.length_map]; rfl
theorem bytes_shift (l : List Ent) (a b : B) : bytes (l.map fun e => e.shift a b) = bytes l := by
  unfold bytes; rw [List.filter_map, List.map_map]; rfl

/-- What a move does to the two paths. -/
theorem CanMove.ends {t : List Ent} {a b : B} (h : CanMove t a b) : ∃ e, find t a = some e ∧ find (moved t a b) a = none ∧ find (moved t a b) b = some { e with path := b } ∧ moved t a b ≠ t := by
  cases hf : find t a with
  | none => exact absurd hf h.has
  | some e =>
    obtain ⟨h1, h2⟩ := find_some hf
    have hna : find (moved t a b) a = none := by
      rw [find_none_iff]
      intro x hx e1
      rcases (h.mem x).1 hx with ⟨y, hy, hw, rfl⟩ | ⟨hx, hw⟩
      · obtain ⟨r, _, h4, h5⟩ := shift_path (b := b) hw h.ne
        rw [h4] at e1
        have hba : withinP b a = true := (Pn.within_iff h.ne').2 ⟨h.va, h.vb, r, e1.symm, h5⟩
        have := h.tree.not_in h.ne' h.free h1
        rw [h2, hba] at this; cases this
      · rw [e1, Pn.within_refl h.va] at hw; cases hw
    refine ⟨e, rfl, hna, ?_, fun e1 => ?_⟩
    · refine (find_mem h.sorted').2 ⟨?_, rfl⟩
      refine (h.mem _).2 (.inl ⟨e, h1, by rw [h2]; exact Pn.within_refl h.va, ?_⟩)
      unfold Ent.shift
      rw [h2, List.drop_of_length_le (Nat.le_refl _), List.append_nil]
    · rw [e1, hf] at hna; cases hna

theorem move_of {t : List Ent} {a b : B} (h : CanMove t a b) : move t a b = (moved t a b, 0) := by
  rcases move_cases h.tree a b with ⟨_, h2⟩ | ⟨_, h2⟩
  · exfalso
    apply h2
    unfold move
    rw [if_neg (by rw [movable_of h.va h.vb h.has h.out h.free h.dir]; simp), if_neg (by
      have : ((under t a).all fun e => validP (e.shift a b).path) = true := List.all_eq_true.2 h.fits
      rw [this]; simp)]
  · exact h2

/-- Moving back. -/
theorem CanMove.back {t : List Ent} {a b : B} (h : CanMove t a b) : CanMove (moved t a b) b a := by
  obtain ⟨e, hf, hna, hfb, _⟩ := h.ends
  have hba : withinP b a = false := by
    have := h.tree.not_in h.ne' h.free (find_some hf).1
    rw [(find_some hf).2] at this; exact this
  refine ⟨move_good h, h.vb, h.va, by rw [hfb]; simp, hba, hna, ?_, fun x hx => ?_⟩
  · have hup := h.tree.up e (find_some hf).1
    rw [(find_some hf).2] at hup
    rw [below_zero] at hup ⊢
    rcases hup with h0 | ⟨y, hy, hyk⟩
    · exact .inl h0
    · obtain ⟨hy1, hy2⟩ := find_some hy
      refine .inr ⟨y, (find_mem h.sorted').2 ⟨(h.mem y).2 (.inr ⟨hy1, ?_⟩), hy2⟩, hyk⟩
      rw [hy2]
      cases hw : withinP a (parentP a) with
      | false => rfl
      | true =>
        have := Pn.within_len hw
        have := Pn.parent_short h.ne
        omega
  · rw [h.under', List.mem_map] at hx
    obtain ⟨y, hy, rfl⟩ := hx
    obtain ⟨h1, h2⟩ := h.mem_under.1 hy
    rw [shift_back h2 h.ne]
    exact path_valid (h.tree.good y h1)

theorem CanMove.again {t : List Ent} {a b : B} (h : CanMove t a b) : move (moved t a b) b a = (t, 0) := by
  rw [move_of h.back]
  congr 1
  refine sorted_ext h.back.sorted' h.tree.sorted fun x => ?_
  rw [h.back.mem x]
  constructor
  · rintro (⟨y, hy, hw, rfl⟩ | ⟨hx, hw⟩)
    · rcases (h.mem y).1 hy with ⟨z, hz, hwz, rfl⟩ | ⟨hy, _⟩
      · rw [shift_back hwz h.ne]; exact hz
      · rw [h.tree.not_in h.ne' h.free hy] at hw; cases hw
    · rcases (h.mem x).1 hx with ⟨z, hz, hwz, rfl⟩ | ⟨hx, _⟩
      · obtain ⟨r, _, h4, h5⟩ := shift_path (b := b) hwz h.ne
        have : withinP b (z.shift a b).path = true := (Pn.within_iff h.ne').2 ⟨h.fits z (h.mem_under.2 ⟨hz, hwz⟩), h.vb, r, h4, h5⟩
        rw [this] at hw; cases hw
      · exact hx
  · intro hx
    cases hw : withinP a x.path with
    | false => exact .inr ⟨(h.mem x).2 (.inr ⟨hx, hw⟩), h.tree.not_in h.ne' h.free hx⟩
    | true =>
      refine .inl ⟨x.shift a b, (h.mem _).2 (.inl ⟨x, hx, hw, rfl⟩), ?_, (shift_back hw h.ne).symm⟩
      obtain ⟨r, _, h4, h5⟩ := shift_path (b := b) hw h.ne
      exact (Pn.within_iff h.ne').2 ⟨h.fits x (h.mem_under.2 ⟨hx, hw⟩), h.vb, r, h4, h5⟩

end Go.Proofs.YtdcghpeomaailaaDoor.Ft
