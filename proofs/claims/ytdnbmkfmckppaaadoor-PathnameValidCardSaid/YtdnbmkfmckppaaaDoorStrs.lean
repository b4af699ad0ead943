/-
  A call's own slice of strings, and its append.
-/
import Derived.Test.YtdnbmkfmckppaaaDoorParse
namespace Go.Proofs.YtdnbmkfmckppaaaDoor
open Go.RowKit Go.Lib

/-- Strings in memory that a call made. -/
abbrev StrsMem (w : World) (base : Nat) (v : Value) (l : List Pn.B) : Prop := w.ownsRow base 9 1 v l.length (l.map S)

theorem strs_info : (Tryd.prog.info? 9).map (fun i => (i.zero, i.size, i.bytes)) = some (some (.string ⟨#[]⟩), 1, 16) := by kernel_rfl

/-- The append of one string. -/
theorem strs_app {w w2 : World} {base : Nat} {va : Option Addr} {vc : Nat} {l : List Pn.B} (hm : StrsMem w2 base (.slice va l.length vc) l) (hB : Below w.heap.size w w2) (hb : w.heap.size ≤ base) (hb2 : base ≤ w2.heap.size) (x : Pn.B) (hl : l.length + 1 ≤ 4294967290) :
    ∃ va' vc' w5, (Builtin.append_ #[38, 38] 38 #[.slice va l.length vc, .slice (some ⟨w2.heap.size, 0, none⟩) 1 1]).run Tryd.prog (w2.alloc (.cells [S x].toArray 9)) = .ok (.slice va' (l.length + 1) vc') w5 ∧
      StrsMem w5 base (.slice va' (l.length + 1) vc') (l ++ [x]) ∧ Below w.heap.size w w5 := by
  obtain ⟨i0, hi, hz0, hz1, hz2⟩ := info_parts strs_info
  obtain ⟨v', w5, hrun, hown5, hgrow5, hnn⟩ := append_one (t := 38) Tryd.underlying38 hi hz0 hz1 hz2 rfl (by decide) w2 (.slice va l.length vc) l.length (l.map S) hm
    [S x] rfl (by intro u hu; simp at hu; subst hu; rfl) (by unfold maxLen; omega) (by omega) (by omega)
  obtain ⟨va', vc', hv'⟩ := own_form' hown5
  subst hv'
  have hW4 : Below w2.heap.size w2 (w2.alloc (.cells [S x].toArray 9)) := (Below.refl _ _).alloc (Nat.le_refl _) _
  refine ⟨va', vc', w5, hrun, ?_, ?_⟩
  · unfold StrsMem
    rw [List.map_append, List.length_append]
    exact hown5
  · have hB4 := below_then hB hW4
    exact ⟨hgrow5.os.trans hB4.os, hgrow5.tape.trans hB4.tape, hgrow5.output.trans hB4.output, Nat.le_trans hB4.size hgrow5.size, fun i hi => (hgrow5.block i (Nat.lt_of_lt_of_le hi hB4.size) (fun e => by have := (hm.lt _ e.symm).1; omega)).trans (hB4.block i hi)⟩

/-- Strings in memory, to be read. -/
def StrsAt (w : World) (va : Option Addr) (l : List Pn.B) : Prop := l = [] ∨ ∃ g, va = some ⟨g, 0, none⟩ ∧ g < w.heap.size ∧ RowAt w g 0 (l.map S)

theorem strsAt_of {w : World} {base : Nat} {va : Option Addr} {vc : Nat} {l : List Pn.B} (h : StrsMem w base (.slice va l.length vc) l) : StrsAt w va l ∧ l.length ≤ vc := by
  rcases own_slice h with ⟨h1, h0, _⟩ | ⟨g, cap, hv, _, hg, h2, _, hrow⟩
  · have := List.length_eq_zero_iff.1 h0
    subst this
    exact ⟨.inl rfl, Nat.zero_le _⟩
  · injection hv with h1 h3 h4
    exact ⟨.inr ⟨g, h1, hg, hrow⟩, by omega⟩

theorem StrsAt.below {w w' : World} {va : Option Addr} {l : List Pn.B} (h : StrsAt w va l) (hb : Below w.heap.size w w') : StrsAt w' va l := by
  rcases h with h | ⟨g, h1, h2, h3⟩
  · exact .inl h
  · exact .inr ⟨g, h1, Nat.lt_of_lt_of_le h2 hb.size, h3.below hb h2⟩

theorem StrsAt.get {w : World} {va : Option Addr} {l : List Pn.B} (h : StrsAt w va l) {i : Nat} (hi : i < l.length) : ∃ g, va = some ⟨g, 0, none⟩ ∧ w.cell? ⟨g, i, none⟩ = some (S l[i]) := by
  rcases h with h | ⟨g, h1, h2, h3⟩
  · subst h; simp at hi
  · refine ⟨g, h1, ?_⟩
    have := h3 i (by simpa using hi)
    rw [Nat.zero_add] at this
    rw [this]; simp

end Go.Proofs.YtdnbmkfmckppaaaDoor
