/-
  Plain laws on putting; what boxes keep.
-/
import Derived.Test.YtdcghpeomaailaaDoorFtAwake
import Derived.Test.YtdcghpeomaailaaDoorFtPlay
namespace Go.Proofs.YtdcghpeomaailaaDoor
open Go.RowKit Go.Lib Ft

namespace Ft
theorem find_insE {t : List Ent} (hs : SortedT t) (e : Ent) (p : Pn.B) : find (insE e t) p = if p = e.path then some e else find t p := by
  split
  · rename_i h
    rw [h]
    exact (find_mem (insE_sorted hs)).2 ⟨(mem_insE hs e).2 (.inl rfl), rfl⟩
  · rename_i h
    cases hf : find t p with
    | none =>
      rw [find_none_iff] at hf ⊢
      intro x hx
      rcases (mem_insE hs x).1 hx with rfl | ⟨hx, _⟩
      · exact fun e1 => h e1.symm
      · exact hf x hx
    | some y =>
      obtain ⟨h1, h2⟩ := find_some hf
      exact (find_mem (insE_sorted hs)).2 ⟨(mem_insE hs y).2 (.inr ⟨h1, by rw [h2]; exact h⟩), h2⟩

theorem put_ok {t : List Ent} {e : Ent} (h : (put t e).2 = 0) : (put t e).1 = insE e t := by
  unfold put at *
  split
  · rename_i h1
    rw [if_pos h1] at h; cases h
  · rename_i h1
    rw [if_neg h1] at h
    split
    · rename_i h2
      rw [if_pos h2] at h
      exact absurd h h2
    · rename_i h2
      rw [if_neg h2] at h
      cases hf : find t e.path with
      | none =>
        rw [hf] at h
        simp only at h ⊢
        split
        · rename_i h3
          rw [if_pos h3] at h; cases h
        · rfl
      | some old =>
        rw [hf] at h
        simp only at h ⊢
        split
        · rename_i h3
          rw [if_pos h3] at h; cases h
        · rfl
end Ft

theorem TreeMem.noRow {w : World} {tb mb : Nat} {t : List Ent} (h : TreeMem w tb mb t) : NoRow w (some mb) := by
  rintro r e
  cases e
  obtain ⟨es, h1, _⟩ := h.map
  obtain ⟨ms, c, hb, _⟩ := h1.block
  exact ⟨_, hb, rfl⟩

theorem noRow_cells {w : World} {row : Option Nat} (h : NoRow w row) : ∀ r, row = some r → NoCells w r := fun r e => by
  obtain ⟨o, ho, hc⟩ := h r e
  exact noCells_of ho hc

theorem EntBox.kept {w w' : World} {b : Nat} {x : EC} (h : EntBox w b x) {row : Option Nat} (hg : w.grownBy w' row) (hr : NoRow w row) : EntBox w' b x := by
  unfold EntBox at *
  rw [hg.block b (lt_of_block h) (fun e => by obtain ⟨o, ho, hc⟩ := hr b e.symm; rw [h] at ho; cases ho; cases hc)]
  exact h
theorem EntBox.below {w w' : World} {b : Nat} {x : EC} (h : EntBox w b x) (hb : Below w.heap.size w w') : EntBox w' b x := h.kept (grown_below hb none) (fun r e => by cases e)

/-- A box for an entry. -/
abbrev boxE (x : Ent) (va : Option Addr) (vc : Nat) : Obj := .cells #[S x.path, .int .i64 x.kind, .int .i64 x.mode, .int .i64 x.time, .slice va x.data.length vc, S x.link] 25

theorem entBox_new (w : World) (x : Ent) (va : Option Addr) (vc : Nat) : EntBox (w.alloc (boxE x va vc)) w.heap.size (x, va, vc) := heap_alloc_new w _
theorem box_below (w : World) (x : Ent) (va : Option Addr) (vc : Nat) : Below w.heap.size w (w.alloc (boxE x va vc)) := (Below.refl _ _).alloc (Nat.le_refl _) _

end Go.Proofs.YtdcghpeomaailaaDoor
