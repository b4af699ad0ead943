/-
  A store into an entry's box.
-/
import Derived.Test.YtdcghpeomaailaaDoorFtLawP
namespace Go.Proofs.YtdcghpeomaailaaDoor
open Go.RowKit Go.Lib Ft

theorem EntBox.not_u8 {w : World} {b : Nat} {x : EC} (h : EntBox w b x) (i : Nat) (n : Int) : w.cell? ⟨b, i, none⟩ ≠ some (.int .u8 n) := by
  rw [cell_of_block' h i]
  intro e
  have hi : i < 6 := by
    rcases Nat.lt_or_ge i 6 with h | h
    · exact h
    · rw [Array.getElem?_eq_none (by simpa using h)] at e; cases e
  obtain rfl | rfl | rfl | rfl | rfl | rfl : i = 0 ∨ i = 1 ∨ i = 2 ∨ i = 3 ∨ i = 4 ∨ i = 5 := by omega
  all_goals simp at e

theorem BytesAt.setBox {w : World} {va : Option Addr} {l : Pn.B} (h : BytesAt w va l) {b : Nat} {x : EC} (hb : EntBox w b x) (i : Nat) (v : Value) : BytesAt (w.setCell ⟨b, i, none⟩ v) va l := by
  by_cases hl : l = []
  · exact .inl hl
  · refine h.set v fun a ha e => ?_
    rcases h with h | ⟨g, off, h1, h2, h3⟩
    · exact hl h
    · rw [ha] at h1
      cases h1
      simp only at e
      subst e
      have h0 : 0 < (bytesOf l).length := by rw [bytesOf, List.length_map]; exact List.length_pos_iff.2 hl
      have := h3 0 h0
      obtain ⟨u, _, hu⟩ := List.mem_map.1 (List.getElem_mem h0)
      rw [← hu] at this
      exact hb.not_u8 _ _ this

theorem EntBox.setOther {w : World} {b b' : Nat} {x : EC} (h : EntBox w b x) (hne : b ≠ b') (i : Nat) (v : Value) : EntBox (w.setCell ⟨b', i, none⟩ v) b x := by
  unfold EntBox at *
  rw [Below.heap_setCell _ _ _ _ hne]; exact h

theorem EntBox.setPath {w : World} {b : Nat} {x : Ent} {va : Option Addr} {vc : Nat} (h : EntBox w b (x, va, vc)) (p : Pn.B) : EntBox (w.setCell ⟨b, 0, none⟩ (S p)) b ({ x with path := p }, va, vc) := by
  unfold EntBox at *
  rw [block_set h 0 _]
  rfl

theorem TreeMem.setBox {w : World} {tb mb : Nat} {t : List Ent} (h : TreeMem w tb mb t) {b : Nat} {x : EC} (hb : EntBox w b x) (i : Nat) (v : Value) : TreeMem (w.setCell ⟨b, i, none⟩ v) tb mb t := by
  obtain ⟨es, h1, h2, h3⟩ := h.map
  have hg : w.grownBy (w.setCell ⟨b, i, none⟩ v) (some b) := grown_setCell (grown_refl _ _) _
  have hmb : some mb ≠ some b := by
    rintro e
    cases e
    have := h.noCells ⟨mb, 0, none⟩ rfl
    rw [hb.cells.1] at this; cases this
  have htb : tb ≠ b := by
    rintro rfl
    have := h.cell
    rw [hb.cells.1] at this; cases this
  refine ⟨?_, Nat.lt_of_lt_of_le h.lt hg.size, ⟨es, h1.kept hg hmb, fun p hp => ?_, h3⟩, h.sorted, h.good, h.few⟩
  · rw [cell_grown hg ⟨tb, 0, none⟩ h.lt (fun e => htb (by cases e; rfl))]; exact h.cell
  · obtain ⟨e, h4, h5, va, vc, h6, h7, h8⟩ := h2 p hp
    exact ⟨e, h4, h5, va, vc, h6, h7, h8.setBox hb i v⟩

end Go.Proofs.YtdcghpeomaailaaDoor
