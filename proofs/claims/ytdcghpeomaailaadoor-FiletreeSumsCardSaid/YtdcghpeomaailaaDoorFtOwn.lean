/-
  Entries in memory that a call made; the append of one.
-/
import Derived.Test.YtdcghpeomaailaaDoorFtEnts
namespace Go.Proofs.YtdcghpeomaailaaDoor
open Go.RowKit Go.Lib Ft

/-- An entry, and where its bytes lie. -/
abbrev EC := Ent × Option Addr × Nat
def entsCells (l : List EC) : List Value := l.flatMap fun x => entCells x.1 x.2.1 x.2.2
theorem entsCells_len (l : List EC) : (entsCells l).length = l.length * 6 := by
  induction l with
  | nil => rfl
  | cons x r ih => simp only [entsCells, List.flatMap_cons, List.length_append] at *; rw [ih]; simp; omega
theorem entsCells_append (a b : List EC) : entsCells (a ++ b) = entsCells a ++ entsCells b := by simp [entsCells]
theorem entsCells_get (l : List EC) (i : Nat) (h : i < l.length) (j : Nat) (hj : j < 6) : (entsCells l)[i * 6 + j]? = (entCells l[i].1 l[i].2.1 l[i].2.2)[j]? := by
  have hs : l = l.take i ++ l[i] :: l.drop (i + 1) := by simp
  generalize l[i] = x at *
  have hlen : (l.take i).length = i := by simp; omega
  have hl : (entsCells (l.take i)).length = i * 6 := by rw [entsCells_len, hlen]
  have e : entsCells l = entsCells (l.take i) ++ (entCells x.1 x.2.1 x.2.2 ++ entsCells (l.drop (i + 1))) := by
    conv => lhs; rw [hs]
    rw [entsCells_append]; simp [entsCells]
  rw [e, List.getElem?_append_right (by omega), hl, show i * 6 + j - i * 6 = j by omega, List.getElem?_append_left (by simp; omega)]

abbrev EntsMem (w : World) (base : Nat) (v : Value) (l : List EC) : Prop := w.ownsRow base 25 6 v l.length (entsCells l)

theorem ents_info : (Tryd.prog.info? 25).map (fun i => (i.zero, i.size, i.bytes)) = some (some zeroEnt, 6, 80) := by kernel_rfl

/-- The append of one entry. -/
theorem ents_app {w w2 : World} {base : Nat} {va : Option Addr} {vc : Nat} {l : List EC} (hm : EntsMem w2 base (.slice va l.length vc) l) (hB : Below w.heap.size w w2) (hb : w.heap.size ≤ base) (hb2 : base ≤ w2.heap.size) (x : EC) (hl : l.length + 1 ≤ 4294967281) :
    ∃ va' vc' w5, (Builtin.append_ #[29, 29] 29 #[.slice va l.length vc, .slice (some ⟨w2.heap.size, 0, none⟩) 1 1]).run Tryd.prog (w2.alloc (.cells (entCells x.1 x.2.1 x.2.2).toArray 25)) = .ok (.slice va' (l.length + 1) vc') w5 ∧
      EntsMem w5 base (.slice va' (l.length + 1) vc') (l ++ [x]) ∧ Below w.heap.size w w5 ∧ (w2.alloc (.cells (entCells x.1 x.2.1 x.2.2).toArray 25)).grownBy w5 (Value.slice va l.length vc).ownBlock := by
  obtain ⟨i0, hi, hz0, hz1, hz2⟩ := info_parts ents_info
  obtain ⟨v', w5, hrun, hown5, hgrow5, hnn⟩ := append_one (t := 29) Tryd.underlying29 hi hz0 hz1 hz2 rfl (by decide) w2 (.slice va l.length vc) l.length (entsCells l) hm
    (entCells x.1 x.2.1 x.2.2) rfl (by intro u hu; simp at hu; rcases hu with rfl | rfl | rfl | rfl | rfl | rfl <;> rfl) (by unfold maxLen; omega) (by omega) (by omega)
  obtain ⟨va', vc', hv'⟩ := own_form' hown5
  subst hv'
  have hW4 : Below w2.heap.size w2 (w2.alloc (.cells (entCells x.1 x.2.1 x.2.2).toArray 25)) := (Below.refl _ _).alloc (Nat.le_refl _) _
  refine ⟨va', vc', w5, hrun, ?_, ?_, hgrow5⟩
  · unfold EntsMem
    rw [entsCells_append, List.length_append]
    simpa [entsCells] using hown5
  · have hB4 := below_then hB hW4
    exact ⟨hgrow5.os.trans hB4.os, hgrow5.tape.trans hB4.tape, hgrow5.output.trans hB4.output, Nat.le_trans hB4.size hgrow5.size, fun i hi => (hgrow5.block i (Nat.lt_of_lt_of_le hi hB4.size) (fun e => by have := (hm.lt _ e.symm).1; omega)).trans (hB4.block i hi)⟩

theorem EntsMem.get {w : World} {base : Nat} {va : Option Addr} {vc : Nat} {l : List EC} (h : EntsMem w base (.slice va l.length vc) l) {i : Nat} (hi : i < l.length) :
    ∃ g, va = some ⟨g, 0, none⟩ ∧ base ≤ g ∧ g < w.heap.size ∧ RowAt w g (i * 6) (entCells l[i].1 l[i].2.1 l[i].2.2) := by
  rcases own_slice h with ⟨_, h0, _⟩ | ⟨g, cap, hv, hb, hg, _, _, hrow⟩
  · omega
  · injection hv with h1
    refine ⟨g, h1, hb, hg, fun j hj => ?_⟩
    have hlen := entsCells_len l
    have hj6 : j < 6 := by simpa using hj
    have r := hrow (i * 6 + j) (by omega)
    rw [Nat.zero_add] at r
    rw [r, ← List.getElem?_eq_getElem, entsCells_get l i hi j hj6, List.getElem?_eq_getElem]

theorem EntsMem.at {w : World} {base : Nat} {va : Option Addr} {vc : Nat} {l : List EC} (h : EntsMem w base (.slice va l.length vc) l) (hb : ∀ p ∈ l, p.1.data.length ≤ p.2.2 ∧ BytesAt w p.2.1 p.1.data) : EntsAt w va (l.map Prod.fst) := by
  by_cases hl : l = []
  · subst hl; exact .inl rfl
  · have h0 : 0 < l.length := List.length_pos_iff.2 hl
    obtain ⟨g, hva, _, hg, _⟩ := h.get h0
    refine .inr ⟨g, 0, hva, hg, fun i hi => ?_⟩
    rw [List.length_map] at hi
    obtain ⟨g', hva', _, _, hr⟩ := h.get hi
    rw [hva] at hva'
    cases hva'
    rw [List.getElem_map]
    have h2 := hb _ (List.getElem_mem hi)
    exact ⟨l[i].2.1, l[i].2.2, by rw [Nat.zero_add]; exact hr, h2.1, h2.2⟩

end Go.Proofs.YtdcghpeomaailaaDoor
