/-
  A map's block, said plainly, further: deletion, length, and a range over it ('RangeAt': which pairs have come so far; which comes next nobody knows).
-/
import Derived.Test.YtdcghpeomaailaaDoorMap
import Derived.Maps.Range
namespace Go.Proofs.YtdcghpeomaailaaDoor
open Go.RowKit Go.Lib
open Go.Maps (Keyed)
open Go.MapKept (Stamped stamped_push stamped_modify stamped_erase stamped_empty stamped_iff)
open Go.ChangeMaps (setBlock heap_setBlock_same heap_setBlock_other modify_eq_set)

variable {P : Program} {k e t : TypeId} {w w' : World} {b r : Nat} {es : List (Value × Value)}

theorem eraseIdx_mem_key {l : List MapEntry} (hp : l.Pairwise (fun x y => x.key ≠ y.key)) {j : Nat} {e0 : MapEntry} (h2 : l[j]? = some e0) (x : MapEntry) : x ∈ l.eraseIdx j ↔ x ∈ l ∧ x.key ≠ e0.key := by
  obtain ⟨hj, ej⟩ := List.getElem?_eq_some_iff.1 h2
  rw [List.mem_eraseIdx_iff_getElem?]
  constructor
  · rintro ⟨i, hne, hi⟩
    obtain ⟨hi', ei⟩ := List.getElem?_eq_some_iff.1 hi
    refine ⟨List.mem_of_getElem? hi, ?_⟩
    rw [← ej, ← ei]
    rcases Nat.lt_or_gt_of_ne hne with h | h
    · exact List.pairwise_iff_getElem.1 hp i j hi' hj h
    · exact fun e1 => List.pairwise_iff_getElem.1 hp j i hj hi' h e1.symm
  · rintro ⟨hx, hne⟩
    obtain ⟨i, hi⟩ := List.getElem?_of_mem hx
    refine ⟨i, fun e1 => hne ?_, hi⟩
    rw [e1, h2] at hi
    cases hi; rfl

/-- 'delete(m, key)'. -/
theorem MapAt.del (h : MapAt P k w b es) (K : Keyed P k) (ht : P.underlying t = some (.map k e)) {key : Value} {kl : Lit} (hkey : keyOf P k key = some kl) (ty : TypeId) :
    ∃ w' es', (Builtin.delete_ #[t, k] ty #[.map (some b), key]).run P w = .ok (.tuple #[]) w' ∧ MapAt P k w' b es' ∧ w.grownBy w' (some b) ∧ ∀ p, p ∈ es' ↔ p ∈ es ∧ p.1 ≠ key := by
  obtain ⟨ms, clock, hb, hs, rfl⟩ := h.block
  have hks : ∀ x ∈ ms.toList, ∃ l, keyOf P k x.key = some l := fun x hx => h.keys _ (List.mem_map.2 ⟨x, hx, rfl⟩)
  rcases K.find w hkey ms.toList hks with ⟨h1, h2⟩ | ⟨j, e0, h1, h2, h3⟩
  · refine ⟨setBlock w b (.map ms clock), ms.toList.map entPair, ?_, ⟨⟨ms, clock, heap_setBlock_same hb _, hs, rfl⟩, h.keys⟩, grown_setBlock hb _, fun p => ⟨fun hp => ⟨hp, ?_⟩, fun hp => hp.1⟩⟩
    · simp [Builtin.delete_, run_underlying ht, MapKept.run_getObj_map hb, K.check w _ hkey, h1, MapKept.run_setObj_map _ hb, Result.andThen, setBlock]
    · obtain ⟨x, hx, rfl⟩ := List.mem_map.1 hp
      exact h2 x hx
  · have hjl : j < ms.toList.length := (List.getElem?_eq_some_iff.1 h2).1
    have hjs : j < ms.size := by simpa using hjl
    have hsub : (ms.eraseIdxIfInBounds j).toList = ms.toList.eraseIdx j := by
      unfold Array.eraseIdxIfInBounds
      rw [dif_pos hjs]
      simp
    have hpw := ((stamped_iff ms clock).1 hs).2.2
    have hmem : ∀ p, p ∈ (ms.eraseIdxIfInBounds j).toList.map entPair ↔ p ∈ ms.toList.map entPair ∧ p.1 ≠ key := by
      intro p
      rw [hsub]
      constructor
      · intro hp
        obtain ⟨x, hx, rfl⟩ := List.mem_map.1 hp
        obtain ⟨hx1, hx2⟩ := (eraseIdx_mem_key hpw h2 x).1 hx
        exact ⟨List.mem_map.2 ⟨x, hx1, rfl⟩, by rw [h3] at hx2; exact hx2⟩
      · rintro ⟨hp, hne⟩
        obtain ⟨x, hx, rfl⟩ := List.mem_map.1 hp
        exact List.mem_map.2 ⟨x, (eraseIdx_mem_key hpw h2 x).2 ⟨hx, by rw [h3]; exact hne⟩, rfl⟩
    refine ⟨setBlock w b (.map (ms.eraseIdxIfInBounds j) clock), _, ?_, ⟨⟨_, clock, heap_setBlock_same hb _, stamped_erase hs j, rfl⟩, fun p hp => h.keys p ((hmem p).1 hp).1⟩, grown_setBlock hb _, hmem⟩
    simp [Builtin.delete_, run_underlying ht, MapKept.run_getObj_map hb, K.check w _ hkey, h1, MapKept.run_setObj_map _ hb, Result.andThen, setBlock]

/-- 'len(m)'. -/
theorem MapAt.len (h : MapAt P k w b es) (ht : P.underlying t = some (.map (P.mapKeyOf t) (P.mapElemOf t))) (ty : TypeId) : (Builtin.len_ #[t] ty #[.map (some b)]).run P w = .ok (goInt es.length) w := by
  obtain ⟨ms, clock, hb, _, rfl⟩ := h.block
  have := run_len_map (P := P) (w := w) t ty b ms clock ht hb
  simpa using this

/-- A range over map b under way in block r: the pairs that have come. -/
structure RangeAt (P : Program) (k : TypeId) (w : World) (b r : Nat) (es done : List (Value × Value)) : Prop where
  map : MapAt P k w b es
  way : ∃ ms clock since seen c0, w.heap[b]? = some (.map ms clock) ∧ Stamped ms clock ∧ ms.toList.map entPair = es ∧ w.heap[r]? = some (.mapIter (some b) since seen c0) ∧ (∀ x ∈ ms.toList, x.born < since) ∧ since ≤ c0 ∧ since ≤ clock ∧
    (∀ x ∈ ms.toList, entPair x ∈ done ↔ seen.contains x.born = true)
  come : ∀ p ∈ done, p ∈ es
  once : done.Nodup

theorem RangeAt.lt {done : List (Value × Value)} (h : RangeAt P k w b r es done) : r < w.heap.size ∧ r ≠ b := by
  obtain ⟨ms, clock, since, seen, c0, hb, _, _, hr, _⟩ := h.way
  refine ⟨(Array.getElem?_eq_some_iff.1 hr).1, ?_⟩
  rintro rfl
  rw [hb] at hr; cases hr

theorem RangeAt.kept {row : Option Nat} {done : List (Value × Value)} (h : RangeAt P k w b r es done) (hg : w.grownBy w' row) (hb : some b ≠ row) (hr : some r ≠ row) : RangeAt P k w' b r es done := by
  have h1 := h.map.lt
  have h2 := h.lt.1
  obtain ⟨ms, clock, since, seen, c0, x1, x2, x3, x4, rest⟩ := h.way
  exact ⟨h.map.kept hg hb, ⟨ms, clock, since, seen, c0, (hg.block b h1 hb).trans x1, x2, x3, (hg.block r h2 hr).trans x4, rest⟩, h.come, h.once⟩

theorem RangeAt.below {done : List (Value × Value)} (h : RangeAt P k w b r es done) (hb : Below w.heap.size w w') : RangeAt P k w' b r es done := by
  have h1 := h.map.lt
  have h2 := h.lt.1
  obtain ⟨ms, clock, since, seen, c0, x1, x2, x3, x4, rest⟩ := h.way
  exact ⟨h.map.below hb, ⟨ms, clock, since, seen, c0, (hb.block b h1).trans x1, x2, x3, (hb.block r h2).trans x4, rest⟩, h.come, h.once⟩

/-- 'range m'. -/
theorem MapAt.range (h : MapAt P k w b es) (ht : P.underlying t = some (.map k e)) :
    ∃ w', (Instr.range t (.map (some b))).run P w = .ok (.pointer (some ⟨w.heap.size, 0, none⟩)) w' ∧ RangeAt P k w' b w.heap.size es [] ∧ w.grownBy w' none ∧ w'.heap.size = w.heap.size + 1 := by
  have hlt := h.lt
  obtain ⟨ms, clock, hb, hs, hes⟩ := h.block
  have hrun := run_range_map w t k e b ms clock ht hb
  have hg := World.grownBy_alloc w (.mapIter (some b) clock #[] clock) none
  exact ⟨_, hrun, ⟨h.kept hg (by simp), ⟨ms, clock, clock, #[], clock, ((MapKept.heap_alloc w _).2 b hlt).trans hb, hs, hes, (MapKept.heap_alloc w _).1, hs.1, Nat.le_refl _, Nat.le_refl _, fun x _ => by simp⟩, by simp, List.nodup_nil⟩, hg, by simp⟩

/-- The step. -/
theorem RangeAt.next {done : List (Value × Value)} (h : RangeAt P k w b r es done) (ty : TypeId) :
    ((∀ p ∈ es, p ∈ done) ∧ (Instr.next (.pointer (some ⟨r, 0, none⟩)) false ty).run P w = .ok (.tuple #[.bool false]) w) ∨
    ∃ p ∈ es, p ∉ done ∧ ∃ w', (Instr.next (.pointer (some ⟨r, 0, none⟩)) false ty).run P w = .ok (.tuple #[.bool true, p.1, p.2]) w' ∧ RangeAt P k w' b r es (done ++ [p]) ∧ w.grownBy w' (some r) ∧ w'.heap.size = w.heap.size ∧ (Instr.entry (.pointer (some ⟨r, 0, none⟩))).run P w' = .ok (.tuple #[p.1, p.2]) w' := by
  have hne := h.lt.2
  obtain ⟨ms, clock, since, seen, c0, hb, hs, hes, hr, hold, hsc, hsk, hdn⟩ := h.way
  have hst := (stamped_iff ms clock).1 hs
  rcases run_next_at (P := P) w ty r b since c0 seen ms clock hr hb hold hsc with ⟨h0, hrun⟩ | ⟨x, hx, w1, hal, hrun⟩
  · refine .inl ⟨fun p hp => ?_, hrun⟩
    rw [← hes] at hp
    obtain ⟨y, hy, rfl⟩ := List.mem_map.1 hp
    exact (hdn y hy).2 (all_seen ms seen h0 y hy)
  · obtain ⟨hem, hseen⟩ := mem_left hx
    have hr1 : w1.heap[r]? = some (.mapIter (some b) since seen c0) := by rcases hal with rfl | rfl <;> exact hr
    have hb1 : w1.heap[b]? = some (.map ms clock) := by rcases hal with rfl | rfl <;> exact hb
    have hset := MapKept.heap_set (o' := .mapIter (some b) since (seen.push x.born) clock) hr1
    have hb' : (setBlock w1 r (.mapIter (some b) since (seen.push x.born) clock)).heap[b]? = some (.map ms clock) := (hset.2 b (fun e1 => hne e1.symm)).trans hb1
    have hpe : entPair x ∈ es := by rw [← hes]; exact List.mem_map.2 ⟨x, hem, rfl⟩
    have hnd : entPair x ∉ done := fun hd => by
      have := (hdn x hem).1 hd
      rw [hseen] at this; cases this
    have hmb : MapAt P k (setBlock w1 r (.mapIter (some b) since (seen.push x.born) clock)) b es := ⟨⟨ms, clock, hb', hs, hes⟩, h.map.keys⟩
    refine .inr ⟨entPair x, hpe, hnd, _, hrun, ⟨hmb, ⟨ms, clock, since, seen.push x.born, clock, hb', hs, hes, hset.1, hold, hsk, hsk, fun y hy => ?_⟩, fun p hp => ?_, ?_⟩, ?_, ?_, run_entry_at _ r b since seen ms clock x hset.1 hb' hem hst.2.1⟩
    · rw [List.mem_append, List.mem_singleton, hdn y hy, contains_push, Bool.or_eq_true, beq_iff_eq]
      constructor
      · rintro (h1 | h1)
        · exact .inl h1
        · exact .inr (congrArg MapEntry.born (entry_eq_of_key hst.2.2 hy hem (congrArg Prod.fst h1)))
      · rintro (h1 | h1)
        · exact .inl h1
        · exact .inr (by rw [born_inj hst.2.1 hy hem h1])
    · rcases List.mem_append.1 hp with hp | hp
      · exact h.come p hp
      · simp only [List.mem_singleton] at hp
        rw [hp]; exact hpe
    · rw [List.nodup_append]
      refine ⟨h.once, by simp, ?_⟩
      intro a ha c hc
      simp only [List.mem_singleton] at hc
      subst hc
      rintro rfl
      exact hnd ha
    · rcases hal with rfl | rfl <;> exact ⟨rfl, rfl, rfl, by simp [setBlock], fun i _ hi => hset.2 i (fun e1 => hi (by rw [e1]))⟩
    · rcases hal with rfl | rfl <;> simp [setBlock]

end Go.Proofs.YtdcghpeomaailaaDoor
