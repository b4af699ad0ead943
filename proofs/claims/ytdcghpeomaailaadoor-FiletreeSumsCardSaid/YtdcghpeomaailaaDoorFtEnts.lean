/-
  Entries in memory as a slice; what stays when one block turns.
-/
import Derived.Test.YtdcghpeomaailaaDoorFtMem
namespace Go.Proofs.YtdcghpeomaailaaDoor
open Go.RowKit Go.Lib Ft

/-- The cells of an entry. -/
abbrev entCells (e : Ent) (da : Option Addr) (dc : Nat) : List Value := [S e.path, .int .i64 e.kind, .int .i64 e.mode, .int .i64 e.time, .slice da e.data.length dc, S e.link]

/-- Entries in memory, wherever they lie. -/
def EntsAt (w : World) (va : Option Addr) (l : List Ent) : Prop :=
  l = [] ∨ ∃ g off, va = some ⟨g, off, none⟩ ∧ g < w.heap.size ∧ ∀ i (h : i < l.length), ∃ da dc, RowAt w g (off + i * 6) (entCells l[i] da dc) ∧ l[i].data.length ≤ dc ∧ BytesAt w da l[i].data

theorem EntsAt.below {w w' : World} {va : Option Addr} {l : List Ent} (h : EntsAt w va l) (hb : Below w.heap.size w w') : EntsAt w' va l := by
  rcases h with h | ⟨g, off, h1, h2, h3⟩
  · exact .inl h
  · refine .inr ⟨g, off, h1, Nat.lt_of_lt_of_le h2 hb.size, fun i hi => ?_⟩
    obtain ⟨da, dc, h4, h5, h6⟩ := h3 i hi
    exact ⟨da, dc, h4.below hb h2, h5, h6.below hb⟩

theorem RowAt.kept {w w' : World} {g off : Nat} {xs : List Value} (h : RowAt w g off xs) (hg : g < w.heap.size) {row : Option Nat} (hgr : w.grownBy w' row) (hr : ∀ r, row = some r → NoCells w r) : RowAt w' g off xs := fun i hi => by
  rw [cell_grown hgr ⟨g, off + i, none⟩ hg (fun e => by
    have := hr g e.symm ⟨g, off + i, none⟩ rfl
    rw [h i hi] at this; cases this)]
  exact h i hi

theorem EntsAt.kept {w w' : World} {va : Option Addr} {l : List Ent} (h : EntsAt w va l) {row : Option Nat} (hgr : w.grownBy w' row) (hr : ∀ r, row = some r → NoCells w r) : EntsAt w' va l := by
  rcases h with h | ⟨g, off, h1, h2, h3⟩
  · exact .inl h
  · refine .inr ⟨g, off, h1, Nat.lt_of_lt_of_le h2 hgr.size, fun i hi => ?_⟩
    obtain ⟨da, dc, h4, h5, h6⟩ := h3 i hi
    exact ⟨da, dc, h4.kept h2 hgr hr, h5, h6.kept hgr hr⟩

theorem EntsAt.get {w : World} {va : Option Addr} {l : List Ent} (h : EntsAt w va l) {i : Nat} (hi : i < l.length) :
    ∃ g off da dc, va = some ⟨g, off, none⟩ ∧ g < w.heap.size ∧ w.cell? ⟨g, off + i * 6, none⟩ = some (S l[i].path) ∧ w.cell? ⟨g, off + i * 6 + 1, none⟩ = some (.int .i64 l[i].kind) ∧ w.cell? ⟨g, off + i * 6 + 2, none⟩ = some (.int .i64 l[i].mode) ∧
      w.cell? ⟨g, off + i * 6 + 3, none⟩ = some (.int .i64 l[i].time) ∧ w.cell? ⟨g, off + i * 6 + 4, none⟩ = some (.slice da l[i].data.length dc) ∧ w.cell? ⟨g, off + i * 6 + 5, none⟩ = some (S l[i].link) ∧ l[i].data.length ≤ dc ∧ BytesAt w da l[i].data := by
  rcases h with rfl | ⟨g, off, h1, h2, h3⟩
  · simp at hi
  · obtain ⟨da, dc, h4, h5, h6⟩ := h3 i hi
    exact ⟨g, off, da, dc, h1, h2, h4 0 (by simp), h4 1 (by simp), h4 2 (by simp), h4 3 (by simp), h4 4 (by simp), h4 5 (by simp), h5, h6⟩

theorem EntsAt.path {w : World} {g off : Nat} {l : List Ent} (h : EntsAt w (some ⟨g, off, none⟩) l) {i : Nat} (hi : i < l.length) : w.cell? ⟨g, off + i * 6, none⟩ = some (S l[i].path) := by
  obtain ⟨g', off', da, dc, h1, _, h3, _⟩ := h.get hi
  cases h1; exact h3

theorem Env.kept {w w' : World} (h : Env w) {row : Option Nat} (hg : w.grownBy w' row) (hr : ∀ r, row = some r → NoCells w r) : Env w' := by
  have lt : ∀ {a : Addr} {v : Value}, w.cell? a = some v → w'.cell? a = some v := fun {a v} hc => by
    rw [cell_grown hg a (World.block_lt_of_cell? _ _ hc) (fun e => by
      have := hr a.block e.symm a rfl
      rw [hc] at this; cases this)]
    exact hc
  obtain ⟨⟨m, hm⟩, ht⟩ := h
  exact ⟨⟨m, lt hm⟩, ⟨fun c hc => lt (ht.1 c hc), fun i hi => ⟨lt (ht.2 i hi).1, lt (ht.2 i hi).2⟩⟩⟩

end Go.Proofs.YtdcghpeomaailaaDoor
