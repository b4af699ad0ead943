/-
  A map's block, said plainly: its entries as a list of pairs, no key twice; what a look-up, a store, a deletion do to it.
-/
import Derived.Test.YtdcghpeomaailaaDoorBase
import Derived.Maps.OwnSet
import Derived.DeepKeys4
namespace Go.Proofs.YtdcghpeomaailaaDoor
open Go.RowKit Go.Lib
open Go.Maps (Keyed)
open Go.MapKept (Stamped stamped_push stamped_modify stamped_erase stamped_empty)

open Go.ChangeMaps (setBlock heap_setBlock_same heap_setBlock_other modify_eq_set)

def entPair (e : MapEntry) : Value × Value := (e.key, e.val)

/-- Block b is a map whose entries are these pairs. -/
structure MapAt (P : Program) (k : TypeId) (w : World) (b : Nat) (es : List (Value × Value)) : Prop where
  block : ∃ ms clock, w.heap[b]? = some (.map ms clock) ∧ Stamped ms clock ∧ ms.toList.map entPair = es
  keys : ∀ p ∈ es, ∃ l, keyOf P k p.1 = some l

variable {P : Program} {k e t : TypeId} {w w' : World} {b : Nat} {es : List (Value × Value)}

theorem MapAt.apart (h : MapAt P k w b es) : es.Pairwise (fun p q => p.1 ≠ q.1) := by
  obtain ⟨ms, c, _, hs, rfl⟩ := h.block
  exact List.pairwise_map.2 ((MapKept.stamped_iff ms c).1 hs).2.2

theorem MapAt.one (h : MapAt P k w b es) {key v v' : Value} (h1 : (key, v) ∈ es) (h2 : (key, v') ∈ es) : v = v' := by
  have hp := h.apart
  clear h
  induction hp with
  | nil => cases h1
  | cons hx _ ih =>
    rcases List.mem_cons.1 h1 with e1 | h1' <;> rcases List.mem_cons.1 h2 with e2 | h2'
    · exact congrArg Prod.snd (e1.trans e2.symm)
    · subst e1; exact absurd rfl (hx (key, v') h2')
    · subst e2; exact absurd rfl (hx (key, v) h1')
    · exact ih h1' h2'

theorem MapAt.lt (h : MapAt P k w b es) : b < w.heap.size := by
  obtain ⟨ms, c, hb, _⟩ := h.block
  exact (Array.getElem?_eq_some_iff.1 hb).1

theorem MapAt.kept {row : Option Nat} (h : MapAt P k w b es) (hg : w.grownBy w' row) (hne : some b ≠ row) : MapAt P k w' b es := by
  obtain ⟨ms, c, hb, hs⟩ := h.block
  exact ⟨⟨ms, c, by rw [hg.block b h.lt hne]; exact hb, hs⟩, h.keys⟩

theorem MapAt.below (h : MapAt P k w b es) (hb : Below w.heap.size w w') : MapAt P k w' b es := by
  obtain ⟨ms, c, hh, hs⟩ := h.block
  exact ⟨⟨ms, c, by rw [hb.block b h.lt]; exact hh, hs⟩, h.keys⟩

theorem MapAt.drew (h : MapAt P k w b es) : MapAt P k w.drew b es := ⟨h.block, h.keys⟩
theorem MapAt.drewN (h : MapAt P k w b es) (n : Nat) : MapAt P k (w.drewN n) b es := ⟨h.block, h.keys⟩

theorem mapAt_made (w : World) : MapAt P k (w.alloc (.map #[] 0)) w.heap.size [] :=
  ⟨⟨#[], 0, heap_alloc_new w _, stamped_empty 0, rfl⟩, by simp⟩

/-- 'm[key]', 'v, ok := m[key]'. -/
theorem MapAt.look (h : MapAt P k w b es) (K : Keyed P k) (ht : P.underlying t = some (.map k e)) {z : Value} (hz : (zeroValue e).run P w = .ok z w) {key : Value} {kl : Lit} (hkey : keyOf P k key = some kl) (c : Bool) :
    ((∀ v, (key, v) ∉ es) ∧ (Instr.lookup t (.map (some b)) key c).run P w = .ok (if c then .tuple #[z, .bool false] else z) w) ∨
    ∃ v, (key, v) ∈ es ∧ (Instr.lookup t (.map (some b)) key c).run P w = .ok (if c then .tuple #[v, .bool true] else v) w := by
  obtain ⟨ms, clock, hb, hs, rfl⟩ := h.block
  have hks : ∀ x ∈ ms.toList, ∃ l, keyOf P k x.key = some l := fun x hx => h.keys _ (List.mem_map.2 ⟨x, hx, rfl⟩)
  rcases K.find w hkey ms.toList hks with ⟨h1, h2⟩ | ⟨j, e0, h1, h2, h3⟩
  · refine Or.inl ⟨fun v hv => ?_, by simp [Instr.lookup, run_underlying ht, MapKept.run_getObj_map hb, K.check w _ hkey, h1, hz, Result.andThen]⟩
    obtain ⟨x, hx, ex⟩ := List.mem_map.1 hv
    exact h2 x hx (congrArg Prod.fst ex)
  · have hm0 : e0 ∈ ms.toList := List.mem_of_getElem? h2
    refine Or.inr ⟨e0.val, List.mem_map.2 ⟨e0, hm0, by simp [entPair, h3]⟩, by simp [Instr.lookup, run_underlying ht, MapKept.run_getObj_map hb, K.check w _ hkey, h1, Result.andThen]⟩

theorem grown_setBlock {ms : Array MapEntry} {clock : Nat} (hb : w.heap[b]? = some (.map ms clock)) (o : Obj) : w.grownBy (setBlock w b o) (some b) :=
  ⟨rfl, rfl, rfl, by simp [setBlock], fun i _ hi => heap_setBlock_other hb _ (fun e => hi (by rw [e]))⟩

/-- 'm[key] = val'. -/
theorem MapAt.store (h : MapAt P k w b es) (K : Keyed P k) (ht : P.underlying t = some (.map k e)) {key val : Value} {kl : Lit} (hkey : keyOf P k key = some kl) :
    ∃ w' es', (Instr.mapUpdate t (.map (some b)) key val).run P w = .ok () w' ∧ MapAt P k w' b es' ∧ w.grownBy w' (some b) ∧ ∀ p, p ∈ es' ↔ p = (key, val) ∨ (p ∈ es ∧ p.1 ≠ key) := by
  obtain ⟨ms, clock, hb, hs, rfl⟩ := h.block
  have hks : ∀ x ∈ ms.toList, ∃ l, keyOf P k x.key = some l := fun x hx => h.keys _ (List.mem_map.2 ⟨x, hx, rfl⟩)
  rcases K.find w hkey ms.toList hks with ⟨h1, h2⟩ | ⟨j, e0, h1, h2, h3⟩
  · refine ⟨setBlock w b (.map (ms.push ⟨key, val, clock⟩) (clock + 1)), (ms.push ⟨key, val, clock⟩).toList.map entPair, by simp [Instr.mapUpdate, run_underlying ht, MapKept.run_getObj_map hb, K.check w false hkey, h1, MapKept.run_setObj_map _ hb, Result.andThen, setBlock],
      ⟨⟨_, _, heap_setBlock_same hb _, stamped_push hs h2, rfl⟩, ?_⟩, grown_setBlock hb _, fun p => ?_⟩
    · intro p hp
      simp only [Array.toList_push, List.map_append, List.mem_append, List.map_cons, List.map_nil, List.mem_singleton] at hp
      rcases hp with hp | rfl
      · exact h.keys p hp
      · exact ⟨kl, hkey⟩
    · simp only [Array.toList_push, List.map_append, List.mem_append, List.map_cons, List.map_nil, List.mem_singleton]
      constructor
      · rintro (hp | rfl)
        · refine Or.inr ⟨hp, ?_⟩
          obtain ⟨x, hx, rfl⟩ := List.mem_map.1 hp
          exact h2 x hx
        · exact Or.inl rfl
      · rintro (rfl | ⟨hp, _⟩)
        · exact Or.inr rfl
        · exact Or.inl hp
  · have hj : ms[j]? = some e0 := by simpa using h2
    have hkeyf : ∀ e', ms[j]? = some e' → ({ e' with key := key, val := val } : MapEntry).key = e'.key := fun e' he' => by rw [hj] at he'; cases he'; exact h3.symm
    have hlist : (ms.modify j (fun e' => { e' with key := key, val := val })).toList = ms.toList.set j { e0 with key := key, val := val } := by rw [Array.toList_modify, modify_eq_set _ _ _ _ h2]
    have hjl : j < ms.toList.length := (List.getElem?_eq_some_iff.1 h2).1
    have hpw := ((MapKept.stamped_iff ms clock).1 hs).2.2
    refine ⟨setBlock w b (.map (ms.modify j (fun e' => { e' with key := key, val := val })) clock), _, by simp [Instr.mapUpdate, run_underlying ht, MapKept.run_getObj_map hb, K.check w false hkey, h1, hj, h3, K.stays w hkey, MapKept.run_setObj_map _ hb, Result.andThen, setBlock],
      ⟨⟨_, _, heap_setBlock_same hb _, stamped_modify hs _ _ (fun _ _ => rfl) (fun e' _ he' => hkeyf e' he'), rfl⟩, ?_⟩, grown_setBlock hb _, ?_⟩
    all_goals rw [hlist, List.map_set]
    all_goals have hmem : ∀ p, p ∈ (ms.toList.map entPair).set j (entPair { e0 with key := key, val := val }) ↔ p = (key, val) ∨ (p ∈ ms.toList.map entPair ∧ p.1 ≠ key) := by {
        intro p
        constructor
        · intro hp
          obtain ⟨i, hi, ex⟩ := List.getElem_of_mem hp
          rw [List.getElem_set] at ex
          split at ex
          · exact Or.inl ex.symm
          · rename_i hne
            have hi' : i < (ms.toList.map entPair).length := by simpa using hi
            refine Or.inr ⟨ex ▸ List.getElem_mem hi', fun e1 => ?_⟩
            have hi2 : i < ms.toList.length := by simpa using hi
            have e2 : ms.toList[i].key = ms.toList[j].key := by
              rw [(List.getElem?_eq_some_iff.1 h2).2, h3, ← e1, ← ex]; simp [entPair]
            rcases Nat.lt_or_gt_of_ne hne with hlt | hgt
            · exact (List.pairwise_iff_getElem.1 hpw j i hjl hi2 hlt) e2.symm
            · exact (List.pairwise_iff_getElem.1 hpw i j hi2 hjl hgt) e2
        · rintro (rfl | ⟨hp, hne⟩)
          · have := List.mem_set (l := ms.toList.map entPair) (i := j) (by simpa using hjl) (entPair { e0 with key := key, val := val })
            exact this
          · obtain ⟨i, hi, rfl⟩ := List.getElem_of_mem hp
            have hij : j ≠ i := by
              rintro rfl
              apply hne
              rw [List.getElem_map, (List.getElem?_eq_some_iff.1 h2).2]
              exact h3
            exact List.mem_iff_getElem.2 ⟨i, by simpa using hi, by rw [List.getElem_set, if_neg hij]⟩
        }
    · intro p hp
      rcases (hmem p).1 hp with rfl | ⟨hp', _⟩
      · exact ⟨kl, hkey⟩
      · exact h.keys p hp'
    · exact hmem

end Go.Proofs.YtdcghpeomaailaaDoor
