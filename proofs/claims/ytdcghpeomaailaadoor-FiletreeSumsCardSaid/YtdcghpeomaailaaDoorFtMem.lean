/-
  A tree of files in memory: the block of the Tree, the map's block, the entries' bytes; what a look-up, a store, a deletion, the length, a range say of it.
-/
import Derived.Test.YtdcghpeomaailaaDoorFt
import Derived.Test.YtdcghpeomaailaaDoorMapRange
import Derived.Test.YtdcghpeomaailaaDoorOwn
import Derived.StringKeys
namespace Go.Proofs.YtdcghpeomaailaaDoor
open Go.RowKit Go.Lib Ft
open Go.Maps (Keyed)

/-- Bytes in memory. -/
def BytesAt (w : World) (va : Option Addr) (l : Pn.B) : Prop := l = [] ∨ ∃ g off, va = some ⟨g, off, none⟩ ∧ g < w.heap.size ∧ RowAt w g off (bytesOf l)

theorem BytesAt.below {w w' : World} {va : Option Addr} {l : Pn.B} (h : BytesAt w va l) (hb : Below w.heap.size w w') : BytesAt w' va l := by
  rcases h with h | ⟨g, off, h1, h2, h3⟩
  · exact .inl h
  · exact .inr ⟨g, off, h1, Nat.lt_of_lt_of_le h2 hb.size, h3.below hb h2⟩

/-- A block that is no row of cells. -/
def NoCells (w : World) (b : Nat) : Prop := ∀ p : Addr, p.block = b → w.cell? p = none

theorem BytesAt.kept {w w' : World} {va : Option Addr} {l : Pn.B} (h : BytesAt w va l) {row : Option Nat} (hg : w.grownBy w' row) (hr : ∀ r, row = some r → NoCells w r) : BytesAt w' va l := by
  rcases h with h | ⟨g, off, h1, h2, h3⟩
  · exact .inl h
  · by_cases hl : l = []
    · exact .inl hl
    · refine .inr ⟨g, off, h1, Nat.lt_of_lt_of_le h2 hg.size, fun i hi => ?_⟩
      rw [cell_grown hg ⟨g, off + i, none⟩ h2 (fun e => by
        have := hr g e.symm ⟨g, off + i, none⟩ rfl
        rw [h3 i hi] at this; cases this)]
      exact h3 i hi

/-- An entry as a value. -/
abbrev entV (e : Ent) (va : Option Addr) (vc : Nat) : Value := .agg #[S e.path, .int .i64 e.kind, .int .i64 e.mode, .int .i64 e.time, .slice va e.data.length vc, S e.link]

def EntAt (w : World) (v : Value) (e : Ent) : Prop := ∃ va vc, v = entV e va vc ∧ e.data.length ≤ vc ∧ BytesAt w va e.data

theorem EntAt.below {w w' : World} {v : Value} {e : Ent} (h : EntAt w v e) (hb : Below w.heap.size w w') : EntAt w' v e := by
  obtain ⟨va, vc, h1, h2, h3⟩ := h
  exact ⟨va, vc, h1, h2, h3.below hb⟩

theorem EntAt.kept {w w' : World} {v : Value} {e : Ent} (h : EntAt w v e) {row : Option Nat} (hg : w.grownBy w' row) (hr : ∀ r, row = some r → NoCells w r) : EntAt w' v e := by
  obtain ⟨va, vc, h1, h2, h3⟩ := h
  exact ⟨va, vc, h1, h2, h3.kept hg hr⟩

theorem string_law : Keyed Tryd.prog 9 := Go.Maps.string_keyed Tryd.underlying9

theorem S_key (p : Pn.B) (hp : p.length ≤ 4294967296) : keyOf Tryd.prog 9 (S p) = some (.string p) :=
  Go.WideMaps.keyOf_string_mk Tryd.underlying9 (s := ⟨p.toArray⟩) (by show p.length ≤ maxLen; unfold maxLen; omega)

theorem S_inj {p q : Pn.B} (h : S p = S q) : p = q := by
  injection h with h
  have := congrArg (fun b : ByteArray => b.data.toList) h
  simpa using this

/-- A tree: the block of its struct, its map's block. -/
structure TreeMem (w : World) (tb mb : Nat) (t : List Ent) : Prop where
  cell : w.cell? ⟨tb, 0, none⟩ = some (.map (some mb))
  lt : tb < w.heap.size
  map : ∃ es, MapAt Tryd.prog 9 w mb es ∧ (∀ p ∈ es, ∃ e ∈ t, p.1 = S e.path ∧ EntAt w p.2 e) ∧ ∀ e ∈ t, ∃ v, (S e.path, v) ∈ es
  sorted : SortedT t
  good : ∀ e ∈ t, e.valid = true
  few : t.length ≤ 4096

theorem TreeMem.mb_lt {w : World} {tb mb : Nat} {t : List Ent} (h : TreeMem w tb mb t) : mb < w.heap.size := by
  obtain ⟨es, h1, _⟩ := h.map
  exact h1.lt

theorem TreeMem.noCells {w : World} {tb mb : Nat} {t : List Ent} (h : TreeMem w tb mb t) : NoCells w mb := by
  obtain ⟨es, h1, _⟩ := h.map
  obtain ⟨ms, c, hb, _⟩ := h1.block
  rintro ⟨b, o, s⟩ rfl
  simp only [World.cell?, hb]

theorem TreeMem.ne {w : World} {tb mb : Nat} {t : List Ent} (h : TreeMem w tb mb t) : tb ≠ mb := by
  rintro rfl
  have := h.noCells ⟨tb, 0, none⟩ rfl
  rw [h.cell] at this; cases this

theorem TreeMem.below {w w' : World} {tb mb : Nat} {t : List Ent} (h : TreeMem w tb mb t) (hb : Below w.heap.size w w') : TreeMem w' tb mb t := by
  obtain ⟨es, h1, h2, h3⟩ := h.map
  exact ⟨by rw [hb.cell (p := ⟨tb, 0, none⟩) h.lt]; exact h.cell, Nat.lt_of_lt_of_le h.lt hb.size, ⟨es, h1.below hb, fun p hp => by
    obtain ⟨e, h4, h5, h6⟩ := h2 p hp
    exact ⟨e, h4, h5, h6.below hb⟩, h3⟩, h.sorted, h.good, h.few⟩

/-- Another tree's map may turn. -/
theorem TreeMem.kept {w w' : World} {tb mb : Nat} {t : List Ent} (h : TreeMem w tb mb t) {row : Option Nat} (hg : w.grownBy w' row) (hr : ∀ r, row = some r → NoCells w r ∧ r ≠ mb) : TreeMem w' tb mb t := by
  obtain ⟨es, h1, h2, h3⟩ := h.map
  refine ⟨?_, Nat.lt_of_lt_of_le h.lt hg.size, ⟨es, h1.kept hg (fun e => (hr mb e.symm).2 rfl), fun p hp => ?_, h3⟩, h.sorted, h.good, h.few⟩
  · rw [cell_grown hg ⟨tb, 0, none⟩ h.lt (fun e => by
      have := (hr tb e.symm).1 ⟨tb, 0, none⟩ rfl
      rw [h.cell] at this; cases this)]
    exact h.cell
  · obtain ⟨e, h4, h5, h6⟩ := h2 p hp
    exact ⟨e, h4, h5, h6.kept hg fun r hr2 => (hr r hr2).1⟩

abbrev zeroEnt : Value := .agg #[S [], .int .i64 0, .int .i64 0, .int .i64 0, .slice none 0 0, S []]
theorem zero_ent (w : World) : (zeroValue 25).run Tryd.prog w = .ok zeroEnt w := by kernel_rfl

/-- 't.entries[p]'. -/
theorem TreeMem.look {w : World} {tb mb : Nat} {t : List Ent} (h : TreeMem w tb mb t) (p : Pn.B) (hpl : p.length ≤ 4294967296) :
    (find t p = none ∧ ∀ c : Bool, (Instr.lookup 67 (.map (some mb)) (S p) c).run Tryd.prog w = .ok (if c then .tuple #[zeroEnt, .bool false] else zeroEnt) w) ∨
    ∃ e v, find t p = some e ∧ e.path = p ∧ EntAt w v e ∧ ∀ c : Bool, (Instr.lookup 67 (.map (some mb)) (S p) c).run Tryd.prog w = .ok (if c then .tuple #[v, .bool true] else v) w := by
  obtain ⟨es, h1, h2, h3⟩ := h.map
  by_cases hx : ∃ v, (S p, v) ∈ es
  · obtain ⟨v, hv⟩ := hx
    obtain ⟨e, h4, h5, h6⟩ := h2 _ hv
    have hp := S_inj h5
    refine .inr ⟨e, v, by rw [hp]; exact find_of h.sorted h4, hp.symm, h6, fun c => ?_⟩
    rcases h1.look string_law Tryd.underlying67 (zero_ent w) (S_key p hpl) c with ⟨h7, _⟩ | ⟨v', h7, h8⟩
    · exact absurd hv (h7 v)
    · rw [h1.one h7 hv] at h8; exact h8
  · refine .inl ⟨?_, fun c => ?_⟩
    · cases hf : find t p with
      | none => rfl
      | some e =>
        obtain ⟨h4, h5⟩ := find_some hf
        obtain ⟨v, hv⟩ := h3 e h4
        rw [h5] at hv
        exact absurd ⟨v, hv⟩ hx
    · rcases h1.look string_law Tryd.underlying67 (zero_ent w) (S_key p hpl) c with ⟨_, h8⟩ | ⟨v', h7, _⟩
      · exact h8
      · exact absurd ⟨v', h7⟩ hx

theorem insE_len {e : Ent} : ∀ {t : List Ent}, SortedT t → (insE e t).length = if find t e.path = none then t.length + 1 else t.length
  | [], _ => by simp [insE, find]
  | y :: t, h => by
    obtain ⟨h1, h2⟩ := List.pairwise_cons.1 h
    rw [insE]
    split
    · rename_i hlt
      have hn : find (y :: t) e.path = none := by
        unfold find
        rw [List.find?_eq_none]
        intro z hz
        rcases List.mem_cons.1 hz with rfl | hz
        · simpa using fun e1 => cmp_lt_ne hlt e1.symm
        · simpa using fun e1 => cmp_lt_ne (cmp_lt_trans hlt (h1 z hz)) e1.symm
      rw [hn]; simp
    · split
      · rename_i heq
        have hf : find (y :: t) e.path = some y := by unfold find; simp [heq]
        rw [hf]; simp
      · rename_i hlt hne
        have hf : find (y :: t) e.path = find t e.path := by
          unfold find
          rw [List.find?_cons]
          have : (y.path == e.path) = false := by rw [beq_eq_false_iff_ne]; exact fun e1 => hne e1.symm
          rw [this]
        rw [hf, List.length_cons, insE_len h2]
        split <;> simp

theorem valid_path_len {e : Ent} (h : e.valid = true) : e.path.length ≤ 512 := by
  unfold Ent.valid Pn.validP at h
  simp only [Bool.and_eq_true, decide_eq_true_eq] at h
  exact h.1.1.1.1.1.1

/-- 't.entries[e.Path] = v'. -/
theorem TreeMem.store {w : World} {tb mb : Nat} {t : List Ent} (h : TreeMem w tb mb t) {e : Ent} {v : Value} (hv : EntAt w v e) (hg : e.valid = true) (hf : (insE e t).length ≤ 4096) :
    ∃ w', (Instr.mapUpdate 67 (.map (some mb)) (S e.path) v).run Tryd.prog w = .ok () w' ∧ TreeMem w' tb mb (insE e t) ∧ w.grownBy w' (some mb) := by
  obtain ⟨es, h1, h2, h3⟩ := h.map
  obtain ⟨w', es', hrun, hm, hgr, hmem⟩ := h1.store string_law Tryd.underlying67 (key := S e.path) (val := v) (S_key e.path (by have := valid_path_len hg; omega))
  have hnc : ∀ r, some mb = some r → NoCells w r := by rintro r e; cases e; exact h.noCells
  refine ⟨w', hrun, ⟨?_, Nat.lt_of_lt_of_le h.lt hgr.size, ⟨es', hm, fun p hp => ?_, fun x hx => ?_⟩, insE_sorted h.sorted, fun x hx => ?_, hf⟩, hgr⟩
  · rw [cell_grown hgr ⟨tb, 0, none⟩ h.lt (fun e => h.ne (Option.some.inj e))]; exact h.cell
  · rcases (hmem p).1 hp with rfl | ⟨hp1, hp2⟩
    · exact ⟨e, (mem_insE h.sorted e).2 (.inl rfl), rfl, hv.kept hgr hnc⟩
    · obtain ⟨x, h4, h5, h6⟩ := h2 p hp1
      refine ⟨x, (mem_insE h.sorted x).2 (.inr ⟨h4, fun e1 => hp2 (by rw [h5, e1])⟩), h5, h6.kept hgr hnc⟩
  · rcases (mem_insE h.sorted x).1 hx with rfl | ⟨hx1, hx2⟩
    · exact ⟨v, (hmem _).2 (.inl rfl)⟩
    · obtain ⟨u, hu⟩ := h3 x hx1
      exact ⟨u, (hmem _).2 (.inr ⟨hu, fun e1 => hx2 (S_inj e1)⟩)⟩
  · rcases (mem_insE h.sorted x).1 hx with rfl | ⟨hx1, _⟩
    · exact hg
    · exact h.good x hx1

/-- 'delete(t.entries, p)'. -/
theorem TreeMem.del {w : World} {tb mb : Nat} {t : List Ent} (h : TreeMem w tb mb t) (p : Pn.B) (hpl : p.length ≤ 4294967296) (ty : TypeId) :
    ∃ w', (Builtin.delete_ #[67, 9] ty #[.map (some mb), S p]).run Tryd.prog w = .ok (.tuple #[]) w' ∧ TreeMem w' tb mb (t.filter fun e => e.path != p) ∧ w.grownBy w' (some mb) := by
  obtain ⟨es, h1, h2, h3⟩ := h.map
  obtain ⟨w', es', hrun, hm, hgr, hmem⟩ := h1.del string_law Tryd.underlying67 (key := S p) (S_key p hpl) ty
  have hnc : ∀ r, some mb = some r → NoCells w r := by rintro r e; cases e; exact h.noCells
  refine ⟨w', hrun, ⟨?_, Nat.lt_of_lt_of_le h.lt hgr.size, ⟨es', hm, fun q hq => ?_, fun x hx => ?_⟩, filter_sorted h.sorted _, fun x hx => h.good x (List.mem_filter.1 hx).1, Nat.le_trans (List.length_filter_le _ _) h.few⟩, hgr⟩
  · rw [cell_grown hgr ⟨tb, 0, none⟩ h.lt (fun e => h.ne (Option.some.inj e))]; exact h.cell
  · obtain ⟨hq1, hq2⟩ := (hmem q).1 hq
    obtain ⟨x, h4, h5, h6⟩ := h2 q hq1
    refine ⟨x, List.mem_filter.2 ⟨h4, ?_⟩, h5, h6.kept hgr hnc⟩
    rw [bne_iff_ne]
    intro e1
    exact hq2 (by rw [h5, e1])
  · obtain ⟨hx1, hx2⟩ := List.mem_filter.1 hx
    obtain ⟨u, hu⟩ := h3 x hx1
    refine ⟨u, (hmem _).2 ⟨hu, fun e1 => ?_⟩⟩
    rw [bne_iff_ne] at hx2
    exact hx2 (S_inj e1)

theorem es_len {w : World} {mb : Nat} {t : List Ent} {es : List (Value × Value)} (hs : SortedT t) (h1 : MapAt Tryd.prog 9 w mb es) (h2 : ∀ p ∈ es, ∃ e ∈ t, p.1 = S e.path ∧ EntAt w p.2 e) (h3 : ∀ e ∈ t, ∃ v, (S e.path, v) ∈ es) : es.length = t.length := by
  have n1 : (es.map Prod.fst).Nodup := List.pairwise_map.2 h1.apart
  have n2 : (t.map fun e => S e.path).Nodup := List.pairwise_map.2 (hs.ne.imp fun hne e => hne (S_inj e))
  have hp : (es.map Prod.fst).Perm (t.map fun e => S e.path) := by
    rw [List.perm_ext_iff_of_nodup n1 n2]
    intro x
    constructor
    · intro hx
      obtain ⟨p, hp, rfl⟩ := List.mem_map.1 hx
      obtain ⟨e, h4, h5, _⟩ := h2 p hp
      exact List.mem_map.2 ⟨e, h4, h5.symm⟩
    · intro hx
      obtain ⟨e, he, rfl⟩ := List.mem_map.1 hx
      obtain ⟨v, hv⟩ := h3 e he
      exact List.mem_map.2 ⟨_, hv, rfl⟩
  have := hp.length_eq
  simpa using this

/-- 'len(t.entries)'. -/
theorem TreeMem.len {w : World} {tb mb : Nat} {t : List Ent} (h : TreeMem w tb mb t) (ty : TypeId) : (Builtin.len_ #[67] ty #[.map (some mb)]).run Tryd.prog w = .ok (.int .i64 t.length) w := by
  obtain ⟨es, h1, h2, h3⟩ := h.map
  rw [h1.len (by kernel_rfl) ty, es_len h.sorted h1 h2 h3]
  rfl

end Go.Proofs.YtdcghpeomaailaaDoor
