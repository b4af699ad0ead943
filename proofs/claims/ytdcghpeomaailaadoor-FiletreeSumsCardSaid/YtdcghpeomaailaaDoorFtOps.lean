/-
  The walks of kinkeeplaw20's large, wide, do, play.
-/
import Derived.Test.YtdcghpeomaailaaDoorFtMove
import Derived.Test.YtdcghpeomaailaaDoorFtTree
namespace Go.Proofs.YtdcghpeomaailaaDoor
open Go.RowKit Go.Lib Ft

namespace Ft
/-- An operation. -/
structure OpE where
  kind : Int
  entry : Ent
  src : Pn.B
  dst : Pn.B
  below : Bool

def bigE (e : Ent) : Bool := decide (600 < e.path.length) || decide (100 < e.data.length) || decide (600 < e.link.length)
def largeP (l : List Ent) (most : Nat) : Bool := l.any bigE || decide (most < l.length)
def bigO (x : OpE) : Bool := decide (600 < x.src.length) || decide (600 < x.dst.length) || bigE x.entry
def wideP (l : List OpE) : Bool := l.any bigO || decide (30 < l.length)
def doP (t : List Ent) (x : OpE) : List Ent × Int :=
  if x.kind = 1 then put t x.entry else if x.kind = 2 then remove t x.src x.below else if x.kind = 3 then move t x.src x.dst else (t, 0)
def playP (l : List OpE) : List Ent := l.foldl (fun t x => (doP t x).1) []

theorem do_tree {t : List Ent} (h : Tree t) (x : OpE) : Tree (doP t x).1 := by
  unfold doP
  split
  · exact put_tree h _
  · split
    · exact remove_tree h _ _
    · split
      · exact move_tree h _ _
      · exact h
theorem fold_tree : ∀ (l : List OpE) {t : List Ent}, Tree t → Tree (l.foldl (fun t x => (doP t x).1) t)
  | [], _, h => h
  | x :: l, _, h => fold_tree l (do_tree h x)
theorem play_tree (l : List OpE) : Tree (playP l) := fold_tree l Tree.nil
theorem play_take (l : List OpE) {i : Nat} (hi : i < l.length) : playP (l.take (i + 1)) = (doP (playP (l.take i)) l[i]).1 := by
  unfold playP
  rw [List.take_succ_eq_append_getElem hi, List.foldl_append]
  rfl
theorem bigO_not {x : OpE} (h : bigO x = false) : x.src.length ≤ 600 ∧ x.dst.length ≤ 600 ∧ x.entry.path.length ≤ 600 ∧ x.entry.data.length ≤ 100 ∧ x.entry.link.length ≤ 600 := by
  unfold bigO bigE at h
  simp only [Bool.or_eq_false_iff, decide_eq_false_iff_not, Nat.not_lt] at h
  exact ⟨h.1.1, h.1.2, h.2.1.1, h.2.1.2, h.2.2⟩
theorem wide_not {l : List OpE} (h : wideP l = false) : l.length ≤ 30 ∧ ∀ x ∈ l, bigO x = false := by
  unfold wideP at h
  simp only [Bool.or_eq_false_iff, decide_eq_false_iff_not, Nat.not_lt, List.any_eq_false] at h
  exact ⟨h.2, fun x hx => by simpa using h.1 x hx⟩
end Ft

theorem gt600 (l : Pn.B) : decide ((600 : Int) < (l.length : Int)) = decide (600 < l.length) := by congr 1; exact propext ⟨fun h => by omega, fun h => by omega⟩
theorem gt100 (l : Pn.B) : decide ((100 : Int) < (l.length : Int)) = decide (100 < l.length) := by congr 1; exact propext ⟨fun h => by omega, fun h => by omega⟩

set_option maxHeartbeats 2000000 in
set_option maxRecDepth 100000 in
theorem large_any (l : List Ent) (va : Option Addr) (vc : Nat) (most : Nat) (w : World) (hl : l.length ≤ 9223372036854775807) (hA : EntsAt w va l) :
    Calls Tryd.prog 12 #[.slice va l.length vc, .int .i64 most] w fun e' w' => e' = .returned (.bool (largeP l most)) ∧ Below w.heap.size w w' := by
  have HA := Lib.hid hA
  clear hA
  go_enter Tryd.func12, Tryd.ntmps12
  go_wp2_with fail
  go_loopg [9] l.length (fun gg v wr => ∃ i : Nat, v = .int .i64 i ∧ i ≤ l.length ∧ l.length - i ≤ gg ∧ Hid (∀ j (h : j < l.length), j < i → bigE l[j] = false) ∧ Below w.heap.size w wr)
  case atStart => exact ⟨0, rfl, Nat.zero_le _, by omega, fun _ _ h => absurd h (Nat.not_lt_zero _), Below.refl _ _⟩
  case round =>
    obtain ⟨i, rfl, hi, hgg, hno, hb⟩ := hrel
    by_cases hlt : i < l.length
    · have hz : (i : Int) < (l.length : Int) := by omega
      obtain ⟨g, off, da, dc, rfl, hg, r0, r1, r2, r3, r4, r5, hdc, hby⟩ := (HA.out.below hb).get hlt
      obtain ⟨e, he⟩ : ∃ e, l[i] = e := ⟨_, rfl⟩
      rw [he] at r0 r1 r2 r3 r4 r5
      have HX := Lib.hid he
      have HB := Lib.hid (below_then hb ((Below.refl _ wr).alloc (Nat.le_refl _) (.cells #[S e.path, .int .i64 e.kind, .int .i64 e.mode, .int .i64 e.time, .slice da e.data.length dc, S e.link] 25)))
      clear he hby hb
      have fin : bigE e = true → largeP l most = true := fun h => by
        unfold largeP
        rw [List.any_eq_true.2 ⟨e, HX.out ▸ List.getElem_mem hlt, h⟩]; rfl
      have FIN := Lib.hid fin
      clear fin
      by_cases h1 : 600 < e.path.length
      · have q1 : (600 : Int) < (e.path.length : Int) := by omega
        have HF := Lib.hid (FIN.out (by unfold bigE; simp [h1]))
        clear h1
        go_wp2_with fail
        go_ret
        exact ⟨by rw [HF.out]; rfl, HB.out⟩
      · have q1 : ¬ (600 : Int) < (e.path.length : Int) := by omega
        by_cases h2 : 100 < e.data.length
        · have q2 : (100 : Int) < (e.data.length : Int) := by omega
          have HF := Lib.hid (FIN.out (by unfold bigE; simp [h2]))
          clear h1 h2
          go_wp2_with fail
          go_ret
          exact ⟨by rw [HF.out]; rfl, HB.out⟩
        · have q2 : ¬ (100 : Int) < (e.data.length : Int) := by omega
          by_cases h3 : 600 < e.link.length
          · have q3 : (600 : Int) < (e.link.length : Int) := by omega
            have HF := Lib.hid (FIN.out (by unfold bigE; simp [h3]))
            clear h1 h2 h3
            go_wp2_with fail
            go_ret
            exact ⟨by rw [HF.out]; rfl, HB.out⟩
          · have q3 : ¬ (600 : Int) < (e.link.length : Int) := by omega
            have HN := Lib.hid (show bigE e = false by unfold bigE; simp [h1, h2, h3])
            clear h1 h2 h3
            go_wp2_with fail
            go_roundg (l.length - (i + 1))
            case measure => omega
            case rel =>
              refine ⟨i + 1, by go_num, by omega, by omega, fun j hj hji => ?_, HB.out⟩
              by_cases e : j = i
              · subst e; rw [HX.out]; exact HN.out
              · exact hno.out j hj (by omega)
    · have hz : ¬ (i : Int) < (l.length : Int) := by omega
      have HN := Lib.hid (show l.any bigE = false from by
        rw [List.any_eq_false]
        intro x hx
        obtain ⟨j, hj, rfl⟩ := List.getElem_of_mem hx
        rw [hno.out j hj (by omega)]; decide)
      by_cases hm : most < l.length
      · have q : (most : Int) < (l.length : Int) := by omega
        have HF := Lib.hid (show largeP l most = true by unfold largeP; simp [hm])
        clear hm
        go_wp2_with fail
        go_ret
        exact ⟨by rw [HF.out]; rfl, hb⟩
      · have q : ¬ (most : Int) < (l.length : Int) := by omega
        have HF := Lib.hid (show largeP l most = false by unfold largeP; rw [HN.out]; simp; omega)
        clear hm
        go_wp2_with fail
        go_ret
        exact ⟨by rw [HF.out]; rfl, hb⟩

/-! ### operations in memory -/
abbrev opCells (x : OpE) (da : Option Addr) (dc : Nat) : List Value :=
  [.int .i64 x.kind, S x.entry.path, .int .i64 x.entry.kind, .int .i64 x.entry.mode, .int .i64 x.entry.time, .slice da x.entry.data.length dc, S x.entry.link, S x.src, S x.dst, .bool x.below]
abbrev opV (x : OpE) (da : Option Addr) (dc : Nat) : Value := .agg #[.int .i64 x.kind, S x.entry.path, .int .i64 x.entry.kind, .int .i64 x.entry.mode, .int .i64 x.entry.time, .slice da x.entry.data.length dc, S x.entry.link, S x.src, S x.dst, .bool x.below]

def OpsAt (w : World) (va : Option Addr) (l : List OpE) : Prop :=
  l = [] ∨ ∃ g off, va = some ⟨g, off, none⟩ ∧ g < w.heap.size ∧ ∀ i (h : i < l.length), ∃ da dc, RowAt w g (off + i * 10) (opCells l[i] da dc) ∧ l[i].entry.data.length ≤ dc ∧ BytesAt w da l[i].entry.data

theorem OpsAt.below {w w' : World} {va : Option Addr} {l : List OpE} (h : OpsAt w va l) (hb : Below w.heap.size w w') : OpsAt w' va l := by
  rcases h with h | ⟨g, off, h1, h2, h3⟩
  · exact .inl h
  · refine .inr ⟨g, off, h1, Nat.lt_of_lt_of_le h2 hb.size, fun i hi => ?_⟩
    obtain ⟨da, dc, h4, h5, h6⟩ := h3 i hi
    exact ⟨da, dc, h4.below hb h2, h5, h6.below hb⟩

theorem OpsAt.get {w : World} {va : Option Addr} {l : List OpE} (h : OpsAt w va l) {i : Nat} (hi : i < l.length) :
    ∃ g off da dc, va = some ⟨g, off, none⟩ ∧ g < w.heap.size ∧ w.cell? ⟨g, off + i * 10, none⟩ = some (.int .i64 l[i].kind) ∧ w.cell? ⟨g, off + i * 10 + 1, none⟩ = some (S l[i].entry.path) ∧ w.cell? ⟨g, off + i * 10 + 2, none⟩ = some (.int .i64 l[i].entry.kind) ∧
      w.cell? ⟨g, off + i * 10 + 3, none⟩ = some (.int .i64 l[i].entry.mode) ∧ w.cell? ⟨g, off + i * 10 + 4, none⟩ = some (.int .i64 l[i].entry.time) ∧ w.cell? ⟨g, off + i * 10 + 5, none⟩ = some (.slice da l[i].entry.data.length dc) ∧ w.cell? ⟨g, off + i * 10 + 6, none⟩ = some (S l[i].entry.link) ∧
      w.cell? ⟨g, off + i * 10 + 7, none⟩ = some (S l[i].src) ∧ w.cell? ⟨g, off + i * 10 + 8, none⟩ = some (S l[i].dst) ∧ w.cell? ⟨g, off + i * 10 + 9, none⟩ = some (.bool l[i].below) ∧ l[i].entry.data.length ≤ dc ∧ BytesAt w da l[i].entry.data := by
  rcases h with rfl | ⟨g, off, h1, h2, h3⟩
  · simp at hi
  · obtain ⟨da, dc, h4, h5, h6⟩ := h3 i hi
    exact ⟨g, off, da, dc, h1, h2, h4 0 (by simp), h4 1 (by simp), h4 2 (by simp), h4 3 (by simp), h4 4 (by simp), h4 5 (by simp), h4 6 (by simp), h4 7 (by simp), h4 8 (by simp), h4 9 (by simp), h5, h6⟩

/-- One entry in a block of its own. -/
theorem one_ent {w : World} (x : Ent) {da : Option Addr} {dc : Nat} (h1 : x.data.length ≤ dc) (h2 : BytesAt w da x.data) : EntsAt (w.alloc (.cells #[S x.path, .int .i64 x.kind, .int .i64 x.mode, .int .i64 x.time, .slice da x.data.length dc, S x.link] 25)) (some ⟨w.heap.size, 0, none⟩) [x] := by
  refine .inr ⟨w.heap.size, 0, rfl, by simp, fun i hi => ?_⟩
  have hi0 : i = 0 := by simp at hi; omega
  subst hi0
  refine ⟨da, dc, fun j hj => ?_, h1, h2.below ((Below.refl _ _).alloc (Nat.le_refl _) _)⟩
  have hj6 : j < 6 := hj
  rw [cell_of_block' (heap_alloc_new w _)]
  obtain rfl | rfl | rfl | rfl | rfl | rfl : j = 0 ∨ j = 1 ∨ j = 2 ∨ j = 3 ∨ j = 4 ∨ j = 5 := by omega
  all_goals rfl

end Go.Proofs.YtdcghpeomaailaaDoor
