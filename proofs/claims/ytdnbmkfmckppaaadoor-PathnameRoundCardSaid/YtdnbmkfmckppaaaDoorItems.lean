/-
  The walk of pathname.items.
-/
import Derived.Test.YtdnbmkfmckppaaaDoorClassW
namespace Go.Proofs.YtdnbmkfmckppaaaDoor
open Go.RowKit Go.Lib

theorem item_info : (Tryd.prog.info? 106).map (fun i => (i.zero, i.size, i.bytes)) = some (some (.agg #[.bool false, .bool false, .slice none 0 0]), 3, 32) := by kernel_rfl

/-- The cells of items with the slices of their spans. -/
def itemCells (ps : List (Pn.Item × Value)) : List Value := (ps.map fun p => [Value.bool p.1.star, Value.bool p.1.neg, p.2]).flatten

theorem itemCells_snoc (ps : List (Pn.Item × Value)) (p : Pn.Item × Value) : itemCells (ps ++ [p]) = itemCells ps ++ [Value.bool p.1.star, Value.bool p.1.neg, p.2] := by
  simp [itemCells]

/-- A slice of items, with the spans that each bears. -/
structure ItemsMem (w : World) (base : Nat) (v : Value) (ps : List (Pn.Item × Value)) : Prop where
  own : w.ownsRow base 106 3 v ps.length (itemCells ps)
  spans : ∀ p ∈ ps, w.ownsRow base 109 2 p.2 p.1.spans.length (spanCells p.1.spans)

theorem ItemsMem.kept {w w' : World} {base b : Nat} {v : Value} {ps : List (Pn.Item × Value)} (h : ItemsMem w base v ps) (hg : w.grownBy w' (some b)) {cs : Array Value} {t : TypeId} {fr : Nat × Nat} (hb : w.heap[b]? = some (.cells cs t fr))
    (h1 : t ≠ 106) (h2 : t ≠ 109) : ItemsMem w' base v ps :=
  ⟨h.own.kept hg (own_ne h.own hb h1), fun p hp => (h.spans p hp).kept hg (own_ne (h.spans p hp) hb h2)⟩

theorem ItemsMem.below {w w' : World} {base : Nat} {v : Value} {ps : List (Pn.Item × Value)} (h : ItemsMem w base v ps) (hb : Below w.heap.size w w') : ItemsMem w' base v ps :=
  ⟨h.own.kept (grown_below hb none) (by cases v.ownBlock <;> simp), fun p hp => (h.spans p hp).kept (grown_below hb none) (by cases p.2.ownBlock <;> simp)⟩

/-- One item more: behind the append. -/
theorem ItemsMem.snoc {w w4 w' : World} {base : Nat} {v v' : Value} {ps : List (Pn.Item × Value)} {p : Pn.Item × Value} (h : ItemsMem w base v ps) (hw : Below w.heap.size w w4)
    (hp : w4.ownsRow base 109 2 p.2 p.1.spans.length (spanCells p.1.spans))
    (hown : w'.ownsRow base 106 3 v' (ps.length + 1) (itemCells ps ++ [Value.bool p.1.star, Value.bool p.1.neg, p.2])) (hg : w4.grownBy w' v.ownBlock) : ItemsMem w' base v' (ps ++ [p]) := by
  have h4 := h.below hw
  refine ⟨by rw [itemCells_snoc]; simpa using hown, fun q hq => ?_⟩
  rcases List.mem_append.1 hq with hq | hq
  · exact (h4.spans q hq).kept hg (own_apart (h4.spans q hq) h4.own (by decide))
  · simp at hq; subst hq
    exact hp.kept hg (own_apart hp h4.own (by decide))

/-- One span in a block of its own. -/
theorem span_new (w : World) (base : Nat) (r : Nat) (hb : base ≤ w.heap.size) :
    (w.alloc (.cells #[.int .i32 (r : Int), .int .i32 (r : Int)] 109)).ownsRow base 109 2 (.slice (some ⟨w.heap.size, 0, none⟩) 1 1) 1 (spanCells [(r, r)]) :=
  ⟨rfl, .inr ⟨w.heap.size, 1, _, rfl, hb, heap_alloc_new w _, Nat.le_refl _, by decide, rfl, rfl⟩⟩

theorem runesFrom_list (s : ByteArray) : ∀ (n pos : Nat) (acc : Array Value), Conv.runesFrom s n pos acc = acc ++ (runeCells (Pn.runesGo n (s.data.toList.drop pos))).toArray
  | 0, pos, acc => by simp [Conv.runesFrom, Pn.runesGo, runeCells]
  | n + 1, pos, acc => by
    unfold Conv.runesFrom Pn.runesGo
    by_cases h : pos < s.size
    · have hne : s.data.toList.drop pos ≠ [] := by
        intro e; have := congrArg List.length e; rw [List.length_drop, ← size_eq] at this; simp at this; omega
      rw [if_pos h, if_neg hne]
      dsimp only
      rw [runesFrom_list s n, decodeL_drop, List.drop_drop]
      simp [runeCells]
    · rw [if_neg h, if_pos (List.drop_eq_nil_of_le (by rw [← size_eq]; omega))]
      simp [runeCells]

theorem runesGo_le : ∀ (n : Nat) (l : Pn.B), (Pn.runesGo n l).length ≤ n
  | 0, _ => by simp [Pn.runesGo]
  | n + 1, l => by
    unfold Pn.runesGo
    split
    · simp
    · have := runesGo_le n (l.drop (decodeL l).2); simp; omega

/-- '[]rune(s)'. -/
theorem runes_of (s : ByteArray) (w : World) (hs : s.size < 4294967281) : ∃ w1 cap, (convert 9 100 (.string s)).run Tryd.prog w = .ok (.slice (some ⟨w.heap.size, 0, none⟩) (Pn.runesP s.data.toList).length cap) w1 ∧
    Below w.heap.size w w1 ∧ w1.heap.size = w.heap.size + 1 ∧ RowAt w1 w.heap.size 0 (runeCells (Pn.runesP s.data.toList)) ∧ (Pn.runesP s.data.toList).length < 4294967281 := by
  have e : Conv.runesFrom s s.size 0 #[] = (runeCells (Pn.runesP s.data.toList)).toArray := by
    rw [runesFrom_list, List.drop_zero, size_eq]; simp [Pn.runesP]
  have hl : (Pn.runesP s.data.toList).length ≤ s.size := by rw [size_eq]; exact runesGo_le _ _
  have hz : (Conv.runesFrom s s.size 0 #[]).size = (Pn.runesP s.data.toList).length := by rw [e]; simp [runeCells]
  have h := run_runes_of_string (P := Tryd.prog) w 9 100 21 s Tryd.underlying9 Tryd.underlying100 Tryd.underlying21 (by rw [hz]; omega)
  rw [hz, e] at h
  refine ⟨_, _, h, ?_, ?_, ?_, by omega⟩
  · exact ((Below.refl _ w).drew).alloc (Nat.le_refl _) _
  · simp
  · intro i hi
    rw [Nat.zero_add]
    generalize grownCap w (Pn.runesP s.data.toList).length 0 21 = cap
    have h : (w.drew.alloc (.cells ((runeCells (Pn.runesP s.data.toList)).toArray ++ Array.replicate (cap - (Pn.runesP s.data.toList).length) (.int .i32 0)) 21)).heap[w.heap.size]? = some (.cells ((runeCells (Pn.runesP s.data.toList)).toArray ++ Array.replicate (cap - (Pn.runesP s.data.toList).length) (.int .i32 0)) 21) := by
      show (w.heap.push _)[w.heap.size]? = _
      simp
    simp only [World.cell?, h]
    rw [Array.getElem?_append_left (by simpa using hi)]
    simp [hi]

def ItemsOk (s : ByteArray) (w : World) (e : Ending) (w' : World) : Prop :=
  Below w.heap.size w w' ∧ ∃ v : Value, e = .returned (.tuple #[v, .bool (Pn.itemsP s.data.toList).isSome]) ∧ (∃ a n c, v = .slice a n c) ∧
    ∀ l, Pn.itemsP s.data.toList = some l → l ≠ [] ∧ ∃ ps : List (Pn.Item × Value), ps.map Prod.fst = l ∧ ItemsMem w' w.heap.size v ps

theorem ItemsMem.mono {w : World} {base base' : Nat} {v : Value} {ps : List (Pn.Item × Value)} (h : ItemsMem w base v ps) (hb : base' ≤ base) : ItemsMem w base' v ps :=
  ⟨own_mono h.own hb, fun p hp => own_mono (h.spans p hp) hb⟩

/-- The append of one item in the loop of items, whatever its spans are. -/
theorem items_app0 {w w2 W : World} {b R cap : Nat} {rs : List Nat} {k : Nat} {bad : Bool} {va : Option Addr} {vc : Nat} {ps : List (Pn.Item × Value)} (hS : Scan w2 b R cap rs k bad) (hm : ItemsMem w2 (b + 1) (.slice va ps.length vc) ps)
    (hB : Below w.heap.size w w2) (hRb : R < b) (hwb : w.heap.size ≤ b) (hW : Below w2.heap.size w2 W) (st ng : Bool) (sv : Value) (h1 : sv.oneCell' = true) (hps : ps.length + 1 ≤ 4294967281) :
    ∃ va' vc' w5, (Builtin.append_ #[81, 81] 81 #[.slice va ps.length vc, .slice (some ⟨W.heap.size, 0, none⟩) 1 1]).run Tryd.prog (W.alloc (.cells [.bool st, .bool ng, sv].toArray 106)) = .ok (.slice va' (ps.length + 1) vc') w5 ∧
      w5.ownsRow (b + 1) 106 3 (.slice va' (ps.length + 1) vc') (ps.length + 1) (itemCells ps ++ [.bool st, .bool ng, sv]) ∧ (W.alloc (.cells [.bool st, .bool ng, sv].toArray 106)).grownBy w5 (Value.slice va ps.length vc).ownBlock ∧ Scan w5 b R cap rs k bad ∧ Below w.heap.size w w5 := by
  obtain ⟨i0, hi, hz0, hz1, hz2⟩ := info_parts item_info
  have hlb := lt_of_block hS.block
  have hsz := hW.size
  have hmW := hm.below hW
  obtain ⟨v', w5, hrun, hown5, hgrow5, hnn⟩ := append_one (t := 81) Tryd.underlying81 hi hz0 hz1 hz2 rfl (by decide) W (.slice va ps.length vc) ps.length (itemCells ps) hmW.own
    [.bool st, .bool ng, sv] rfl (by intro u hu; simp at hu; rcases hu with rfl | rfl | rfl <;> first | rfl | exact h1) (by unfold maxLen; omega) (by omega) (by omega)
  obtain ⟨va', vc', hv'⟩ := own_form' hown5
  subst hv'
  have hW4 : Below W.heap.size W (W.alloc (.cells [.bool st, .bool ng, sv].toArray 106)) := (Below.refl _ _).alloc (Nat.le_refl _) _
  have hS4 := (hS.grown hW).grown hW4
  refine ⟨va', vc', w5, hrun, hown5, hgrow5, hS4.kept hgrow5 ?_ ?_, ?_⟩
  · intro e; have := (hmW.own.lt _ e.symm).1; omega
  · intro e; have := (hmW.own.lt _ e.symm).1; omega
  · have hB4 : Below w.heap.size w (W.alloc (.cells [.bool st, .bool ng, sv].toArray 106)) := below_then (below_then hB hW) hW4
    exact ⟨hgrow5.os.trans hB4.os, hgrow5.tape.trans hB4.tape, hgrow5.output.trans hB4.output, Nat.le_trans hB4.size hgrow5.size, fun i hi => (hgrow5.block i (Nat.lt_of_lt_of_le hi hB4.size) (fun e => by have := (hmW.own.lt _ e.symm).1; omega)).trans (hB4.block i hi)⟩

/-- The append of one item in the loop of items. -/
theorem items_app {w w2 W : World} {b R cap : Nat} {rs : List Nat} {k : Nat} {bad : Bool} {va : Option Addr} {vc : Nat} {ps : List (Pn.Item × Value)} (hS : Scan w2 b R cap rs k bad) (hm : ItemsMem w2 (b + 1) (.slice va ps.length vc) ps)
    (hB : Below w.heap.size w w2) (hRb : R < b) (hwb : w.heap.size ≤ b) (hW : Below w2.heap.size w2 W) (x : Pn.Item) (sv : Value) (h1 : sv.oneCell' = true) (hsv : W.ownsRow (b + 1) 109 2 sv x.spans.length (spanCells x.spans)) (hps : ps.length + 1 ≤ 4294967281) :
    ∃ va' vc' w5, (Builtin.append_ #[81, 81] 81 #[.slice va ps.length vc, .slice (some ⟨W.heap.size, 0, none⟩) 1 1]).run Tryd.prog (W.alloc (.cells [.bool x.star, .bool x.neg, sv].toArray 106)) = .ok (.slice va' (ps.length + 1) vc') w5 ∧
      ItemsMem w5 (b + 1) (.slice va' (ps.length + 1) vc') (ps ++ [(x, sv)]) ∧ Scan w5 b R cap rs k bad ∧ Below w.heap.size w w5 := by
  obtain ⟨va', vc', w5, hrun, hown5, hgrow5, hS5, hB5⟩ := items_app0 hS hm hB hRb hwb hW x.star x.neg sv h1 hps
  have hW4 : Below W.heap.size W (W.alloc (.cells [.bool x.star, .bool x.neg, sv].toArray 106)) := (Below.refl _ _).alloc (Nat.le_refl _) _
  have hsv4 := hsv.kept (grown_below hW4 none) (by cases sv.ownBlock <;> simp)
  exact ⟨va', vc', w5, hrun, (hm.below hW).snoc (p := (x, sv)) hW4 hsv4 hown5 hgrow5, hS5, hB5⟩

theorem items_end {s : ByteArray} {w W : World} {base : Nat} {v : Value} {ps : List (Pn.Item × Value)} {RES : Option (List Pn.Item)} (hB : Below w.heap.size w W) (hb : w.heap.size ≤ base) (hv : ∃ a n c, v = .slice a n c)
    (hR : Pn.itemsGo ((Pn.runesP s.data.toList).length + 1) [] (Pn.runesP s.data.toList) = RES) (ok : Bool) (hok : (RES = none ∧ ok = false) ∨ (ItemsMem W base v ps ∧ RES = some (ps.map Prod.fst) ∧ ok = decide (0 < ps.length))) :
    ItemsOk s w (.returned (.tuple #[v, .bool ok])) W := by
  rcases hok with ⟨h, rfl⟩ | ⟨hm, h, rfl⟩
  · have : Pn.itemsP s.data.toList = none := by unfold Pn.itemsP; rw [hR, h]
    exact ⟨hB, v, by rw [this]; rfl, hv, fun l hl => by rw [this] at hl; cases hl⟩
  · by_cases hp : ps = []
    · subst hp
      have : Pn.itemsP s.data.toList = none := by unfold Pn.itemsP; rw [hR, h]; rfl
      exact ⟨hB, v, by rw [this]; rfl, hv, fun l hl => by rw [this] at hl; cases hl⟩
    · have : Pn.itemsP s.data.toList = some (ps.map Prod.fst) := by
        unfold Pn.itemsP; rw [hR, h]; dsimp only; rw [if_neg (by simpa using hp)]
      refine ⟨hB, v, by rw [this]; simp [List.length_pos_iff.2 hp], hv, fun l hl => ?_⟩
      rw [this] at hl; cases hl
      exact ⟨by simpa using hp, ps, rfl, hm.mono hb⟩

end Go.Proofs.YtdnbmkfmckppaaaDoor
