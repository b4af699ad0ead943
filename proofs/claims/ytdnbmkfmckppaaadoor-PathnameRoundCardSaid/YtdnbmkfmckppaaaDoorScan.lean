/-
  The walks of pathname's scanner: next, peek, element.
-/
import Derived.Test.YtdnbmkfmckppaaaDoorLeaf2
namespace Go.Proofs.YtdnbmkfmckppaaaDoor
open Go.RowKit Go.Lib

theorem grown_refl (w : World) (r : Option Nat) : w.grownBy w r := ⟨rfl, rfl, rfl, Nat.le_refl _, fun _ _ _ => rfl⟩
theorem grown_trans {a b c : World} {r : Option Nat} (h : a.grownBy b r) (k : b.grownBy c r) : a.grownBy c r :=
  ⟨k.os.trans h.os, k.tape.trans h.tape, k.output.trans h.output, Nat.le_trans h.size k.size, fun i hi hr => (k.block i (Nat.lt_of_lt_of_le hi h.size) hr).trans (h.block i hi hr)⟩
theorem grown_drewN {a b : World} {r : Option Nat} (h : a.grownBy b r) (q : Nat) : a.grownBy (b.drewN q) r := by
  induction q with
  | zero => exact h
  | succ q ih => exact ⟨ih.os, ih.tape, ih.output, ih.size, ih.block⟩
theorem grown_setCell {a w : World} {b i : Nat} (h : a.grownBy w (some b)) (v : Value) : a.grownBy (w.setCell ⟨b, i, none⟩ v) (some b) :=
  grown_trans h ⟨rfl, rfl, rfl, by simp [World.setCell], fun k hk hr => Below.heap_setCell _ _ _ _ (fun e => hr (by rw [e]))⟩
theorem grown_below {w w' : World} (h : Below w.heap.size w w') (r : Option Nat) : w.grownBy w' r := ⟨h.os, h.tape, h.output, h.size, fun k hk _ => h.block k hk⟩
theorem grown_lt {w w' : World} {b : Nat} (h : w.grownBy w' (some b)) (hb : w.heap.size ≤ b) : Below w.heap.size w w' :=
  ⟨h.os, h.tape, h.output, h.size, fun k hk => h.block k hk (fun e => by cases e; omega)⟩

theorem cell_of_block' {w : World} {b : Nat} {cs : Array Value} {t : TypeId} (h : w.heap[b]? = some (.cells cs t)) (i : Nat) : w.cell? ⟨b, i, none⟩ = cs[i]? := by simp [World.cell?, h]
theorem free_of_block {w : World} {b : Nat} {cs : Array Value} {t : TypeId} (h : w.heap[b]? = some (.cells cs t)) (i : Nat) : w.frozen? ⟨b, i, none⟩ = false := by simp [World.frozen?, h]
theorem block_set {w : World} {b : Nat} {cs : Array Value} {t : TypeId} (h : w.heap[b]? = some (.cells cs t)) (i : Nat) (v : Value) : (w.setCell ⟨b, i, none⟩ v).heap[b]? = some (.cells (cs.setIfInBounds i v) t) := by
  have hlt := lt_of_block h
  have h' : w.heap[b] = .cells cs t := by simpa [Array.getElem?_eq_getElem hlt] using h
  show (w.heap.modify b _)[b]? = _
  rw [Array.getElem?_eq_getElem (by simpa using hlt), Array.getElem_modify_self, h']
  rfl
theorem block_drewN {w : World} {b : Nat} {o : Obj} (h : w.heap[b]? = some o) (q : Nat) : (w.drewN q).heap[b]? = some o := by
  induction q with
  | zero => exact h
  | succ q ih => exact ih

/-- A row of cells in a block that is not the written one. -/
theorem RowAt.grown {w w' : World} {b off : Nat} {xs : List Value} {r : Option Nat} (h : RowAt w b off xs) (hg : w.grownBy w' r) (hlt : b < w.heap.size) (hne : some b ≠ r) : RowAt w' b off xs :=
  fun i hi => by rw [World.cell?_of_block (w := w) (hg.block b hlt hne)]; exact h i hi

def runeCells (rs : List Nat) : List Value := rs.map fun (r : Nat) => Value.int .i32 (r : Int)

/-- A scanner in block b, over the runes rs in block R, standing at place k. -/
structure Scan (w : World) (b R cap : Nat) (rs : List Nat) (k : Nat) (bad : Bool) : Prop where
  block : w.heap[b]? = some (.cells #[.slice (some ⟨R, 0, none⟩) rs.length cap, .int .i64 k, .bool bad] 102)
  row : RowAt w R 0 (runeCells rs)
  lt : R < w.heap.size
  ne : R ≠ b
  le : k ≤ rs.length
  small : rs.length < 4294967281

theorem Scan.grown {w w' : World} {b R cap : Nat} {rs : List Nat} {k : Nat} {bad : Bool} (h : Scan w b R cap rs k bad) (hg : Below w.heap.size w w') : Scan w' b R cap rs k bad :=
  ⟨by rw [hg.block b (lt_of_block h.block)]; exact h.block, h.row.below hg h.lt, Nat.lt_of_lt_of_le h.lt hg.size, h.ne, h.le, h.small⟩

theorem Scan.rune {w : World} {b R cap : Nat} {rs : List Nat} {k : Nat} {bad : Bool} (h : Scan w b R cap rs k bad) (hk : k < rs.length) : w.cell? ⟨R, k, none⟩ = some (.int .i32 ((rs[k] : Nat) : Int)) := by
  have hr := h.row k (by simpa [runeCells] using hk)
  rw [Nat.zero_add] at hr
  rw [hr]; simp [runeCells]

/-- next, where a rune is left. -/
def NextOk (b R cap : Nat) (rs : List Nat) (k : Nat) (bad : Bool) (w : World) (e : Ending) (w' : World) : Prop :=
  e = .returned (.int .i32 ((rs.getD k 0 : Nat) : Int)) ∧ Scan w' b R cap rs (k + 1) bad ∧ w.grownBy w' (some b)

set_option maxHeartbeats 400000 in
theorem next_some (b R cap : Nat) (rs : List Nat) (k : Nat) (bad : Bool) (w : World) (h : Scan w b R cap rs k bad) (hk : k < rs.length) :
    Calls Tryd.prog 76 #[.pointer (some ⟨b, 0, none⟩)] w (NextOk b R cap rs k bad w) := by
  have c0 := cell_of_block' h.block 0
  have c1 := cell_of_block' h.block 1
  have c2 := cell_of_block' h.block 2
  have f1 := free_of_block h.block 1
  simp at c0 c1 c2
  have hsm := h.small
  have hr : w.cell? ⟨R, k, none⟩ = some (.int .i32 ((rs.getD k 0 : Nat) : Int)) := by rw [h.rune hk]; simp [List.getD, hk]
  generalize hx : rs.getD k 0 = x at *
  have HX := Lib.hid hx
  clear hx
  have H := Lib.hid h
  clear h
  have hz : ((k : Int) == (rs.length : Int)) = false := by rw [beq_eq_false_iff_ne]; omega
  go_enter Tryd.func76, Tryd.ntmps76
  go_wp2
  go_quiet (fail)
  go_wp2
  have hS1 : Scan ((w.drewN nq).setCell ⟨b, 1, none⟩ (.int .i64 ((k : Int) + 1))) b R cap rs (k + 1) bad :=
    ⟨block_set (block_drewN H.out.block nq) 1 _, (H.out.row.grown (grown_setCell (grown_drewN (grown_refl w (some b)) nq) _) H.out.lt (fun e => H.out.ne (by cases e; rfl))), by simpa [World.setCell] using H.out.lt, H.out.ne, by omega, H.out.small⟩
  have hg1 := grown_setCell (i := 1) (grown_drewN (grown_refl w (some b)) nq) (.int .i64 ((k : Int) + 1))
  have hr1 : ((w.drewN nq).setCell ⟨b, 1, none⟩ (.int .i64 ((k : Int) + 1))).cell? ⟨R, k, none⟩ = some (.int .i32 (x : Int)) := by
    rw [World.cell?_of_block (w := w) (hg1.block R H.out.lt (fun e => H.out.ne (by cases e; rfl)))]; exact hr
  generalize (w.drewN nq).setCell ⟨b, 1, none⟩ (.int .i64 ((k : Int) + 1)) = w1 at *
  have d0 := cell_of_block' hS1.block 0
  have d1 := cell_of_block' hS1.block 1
  simp at d0 d1
  have HS := Lib.hid hS1
  have HG := Lib.hid hg1
  clear hS1 hg1
  go_quiet (fail)
  go_wp2
  go_ret
  exact ⟨by rw [HX.out]; rfl, HS.out.grown (below_drewN (Below.refl _ w1) _), grown_drewN HG.out _⟩

/-- next, where no rune is left. -/
def EndOk (b R cap : Nat) (rs : List Nat) (w : World) (e : Ending) (w' : World) : Prop :=
  e = .returned (.int .i32 0) ∧ Scan w' b R cap rs rs.length true ∧ w.grownBy w' (some b)

set_option maxHeartbeats 400000 in
theorem next_none (b R cap : Nat) (rs : List Nat) (bad : Bool) (w : World) (h : Scan w b R cap rs rs.length bad) :
    Calls Tryd.prog 76 #[.pointer (some ⟨b, 0, none⟩)] w (EndOk b R cap rs w) := by
  have c0 := cell_of_block' h.block 0
  have c1 := cell_of_block' h.block 1
  have c2 := cell_of_block' h.block 2
  have f2 := free_of_block h.block 2
  simp at c0 c1 c2
  have hsm := h.small
  have H := Lib.hid h
  clear h
  go_enter Tryd.func76, Tryd.ntmps76
  go_wp2
  go_quiet (fail)
  go_wp2
  go_ret
  exact ⟨rfl, ⟨block_set (block_drewN H.out.block _) 2 _, (H.out.row.grown (grown_setCell (grown_drewN (grown_refl w (some b)) _) _) H.out.lt (fun e => H.out.ne (by cases e; rfl))), by simpa [World.setCell] using H.out.lt, H.out.ne, Nat.le_refl _, H.out.small⟩,
    grown_setCell (grown_drewN (grown_refl w (some b)) _) _⟩

/-- peek. -/
theorem peek_any (b R cap : Nat) (rs : List Nat) (k : Nat) (bad : Bool) (r : Nat) (w : World) (h : Scan w b R cap rs k bad) :
    Calls Tryd.prog 91 #[.pointer (some ⟨b, 0, none⟩), .int .i32 r] w fun e w' => e = .returned (.bool ((rs.drop k).head? == some r)) ∧ ∃ q, w' = w.drewN q := by
  have c0 := cell_of_block' h.block 0
  have c1 := cell_of_block' h.block 1
  simp at c0 c1
  have hsm := h.small
  have hle := h.le
  by_cases hk : k < rs.length
  · have hr := h.rune hk
    have e : ((rs.drop k).head? == some r) = (((rs[k] : Nat) : Int) == (r : Int)) := by
      rw [List.drop_eq_getElem_cons hk, List.head?_cons, Bool.eq_iff_iff]; simp; omega
    rw [e]
    generalize rs[k] = x at *
    clear e h hle
    have hz : (k : Int) < (rs.length : Int) := by omega
    have hz0 : (0 : Int) ≤ (k : Int) := by omega
    have hd : decide (k < rs.length) = true := decide_eq_true hk
    have hdz : decide ((k : Int) < (rs.length : Int)) = true := decide_eq_true hz
    go_enter Tryd.func91, Tryd.ntmps91
    go_wp2
    go_quiet (fail)
    go_wp2
    go_ret
    exact ⟨rfl, _, rfl⟩
  · have e : ((rs.drop k).head? == some r) = false := by rw [List.drop_eq_nil_of_le (by omega)]; rfl
    rw [e]
    clear e h
    have hz : decide ((k : Int) < (rs.length : Int)) = false := decide_eq_false (by omega)
    have hz2 : ¬ ((k : Int) < (rs.length : Int)) := by omega
    have hz3 : decide (k < rs.length) = false := decide_eq_false hk
    go_enter Tryd.func91, Tryd.ntmps91
    go_wp2
    go_quiet (fail)
    go_wp2
    go_ret
    exact ⟨rfl, _, rfl⟩

/-- element: none where no element stands here. -/
def ElemOk (b R cap : Nat) (rs : List Nat) (k : Nat) (bad : Bool) (w : World) (e : Ending) (w' : World) : Prop :=
  w.grownBy w' (some b) ∧ ∃ r k' : Nat, e = .returned (.int .i32 (r : Int)) ∧ k ≤ k' ∧
    match Pn.elementP (rs.drop k) with
    | some (x, u) => r = x ∧ rs.drop k' = u ∧ k < k' ∧ Scan w' b R cap rs k' bad
    | none => Scan w' b R cap rs k' true

theorem getD_lt {rs : List Nat} {k : Nat} (h : k < rs.length) : rs.drop k = rs.getD k 0 :: rs.drop (k + 1) := by
  rw [List.drop_eq_getElem_cons h]; simp [List.getD, h]

set_option maxHeartbeats 400000 in
theorem element_any (b R cap : Nat) (rs : List Nat) (k : Nat) (bad : Bool) (w : World) (h : Scan w b R cap rs k bad) :
    Calls Tryd.prog 92 #[.pointer (some ⟨b, 0, none⟩)] w (ElemOk b R cap rs k bad w) := by
  by_cases hk : k < rs.length
  · have hn := next_some b R cap rs k bad w h hk
    have hd := getD_lt hk
    unfold NextOk at hn
    generalize rs.getD k 0 = x at hn hd
    have HD := Lib.hid hd
    clear hd
    have hn := Lib.hid hn
    by_cases h92 : x = 92
    · subst h92
      by_cases hk2 : k + 1 < rs.length
      · have hn2 := Lib.hid fun w h => next_some b R cap rs (k + 1) bad w h hk2
        go_enter Tryd.func92, Tryd.ntmps92
        go_wp2_with fail
        refine hn.out.mono ?_
        rintro e w1 ⟨rfl, hS, hg⟩
        go_wp2_with fail
        refine (hn2.out w1 hS).mono ?_
        rintro e w2 ⟨rfl, hS2, hg2⟩
        go_wp2_with fail
        go_ret
        refine ⟨grown_trans hg hg2, _, k + 2, rfl, by omega, ?_⟩
        rw [HD.out, getD_lt hk2]
        exact ⟨by first | rfl | simp [List.getD, hk2], rfl, by omega, hS2⟩
      · have hle := h.le
        obtain hke : k + 1 = rs.length := by omega
        have hn2 := Lib.hid fun w h => next_none b R cap rs bad w h
        have HKE := Lib.hid hke
        clear hke
        go_enter Tryd.func92, Tryd.ntmps92
        go_wp2_with fail
        refine hn.out.mono ?_
        rintro e w1 ⟨rfl, hS, hg⟩
        go_wp2_with fail
        rw [HKE.out] at hS
        refine (hn2.out w1 hS).mono ?_
        rintro e w2 ⟨rfl, hS2, hg2⟩
        go_wp2_with fail
        go_ret
        refine ⟨grown_trans hg hg2, 0, rs.length, rfl, by omega, ?_⟩
        rw [HD.out, List.drop_eq_nil_of_le (by rw [HKE.out]; exact Nat.le_refl _)]
        exact hS2
    · have q92 : (((x : Nat) : Int) == 92) = false := by rw [beq_eq_false_iff_ne]; omega
      by_cases hb : x = 93 ∨ x = 94 ∨ x = 45
      · have hE : Pn.elementP (rs.drop k) = none := by
          rw [HD.out]; unfold Pn.elementP; dsimp only; rw [if_neg h92, if_pos hb]
        have HE := Lib.hid hE
        clear hE HD
        rcases hb with rfl | rfl | rfl
        all_goals
          go_enter Tryd.func92, Tryd.ntmps92
          go_wp2_with fail
          refine hn.out.mono ?_
          rintro e w1 ⟨rfl, hS, hg⟩
          have f2 := free_of_block hS.block 2
          have c2 := cell_of_block' hS.block 2
          simp at c2
          have HS := Lib.hid hS
          clear hS
          go_wp2_with fail
          go_ret
          refine ⟨grown_setCell hg _, _, k + 1, rfl, by omega, ?_⟩
          rw [HE.out]
          exact ⟨block_set HS.out.block 2 _, HS.out.row.grown (grown_setCell (grown_refl _ _) _) HS.out.lt (fun e => HS.out.ne (by cases e; rfl)), by simpa [World.setCell] using HS.out.lt, HS.out.ne, HS.out.le, HS.out.small⟩
      · have hE : Pn.elementP (rs.drop k) = some (x, rs.drop (k + 1)) := by
          rw [HD.out]; unfold Pn.elementP; dsimp only; rw [if_neg h92, if_neg hb]
        have HE := Lib.hid hE
        clear hE HD
        have q93 : (((x : Nat) : Int) == 93) = false := by rw [beq_eq_false_iff_ne]; omega
        have q94 : (((x : Nat) : Int) == 94) = false := by rw [beq_eq_false_iff_ne]; omega
        have q45 : (((x : Nat) : Int) == 45) = false := by rw [beq_eq_false_iff_ne]; omega
        clear hb
        go_enter Tryd.func92, Tryd.ntmps92
        go_wp2_with fail
        refine hn.out.mono ?_
        rintro e w1 ⟨rfl, hS, hg⟩
        have HS := Lib.hid hS
        clear hS
        go_wp2_with fail
        go_ret
        refine ⟨hg, x, k + 1, rfl, by omega, ?_⟩
        rw [HE.out]
        exact ⟨rfl, rfl, by omega, HS.out⟩
  · have hle := h.le
    obtain rfl : k = rs.length := by omega
    have hn := Lib.hid (next_none b R cap rs bad w h)
    have hE : Pn.elementP (rs.drop rs.length) = none := by rw [List.drop_length]; rfl
    have HE := Lib.hid hE
    clear hE
    go_enter Tryd.func92, Tryd.ntmps92
    go_wp2_with fail
    refine hn.out.mono ?_
    rintro e w1 ⟨rfl, hS, hg⟩
    have HS := Lib.hid hS
    clear hS
    go_wp2_with fail
    go_ret
    refine ⟨hg, 0, rs.length, rfl, Nat.le_refl _, ?_⟩
    rw [HE.out]
    exact HS.out

/-- next, whatever is left. -/
def NextAny (b R cap : Nat) (rs : List Nat) (k : Nat) (bad : Bool) (w : World) (e : Ending) (w' : World) : Prop :=
  ∃ (r : Nat) (k' : Nat), e = .returned (.int .i32 (r : Int)) ∧ Scan w' b R cap rs k' (bad || decide (rs.length ≤ k)) ∧ (k < rs.length → k' = k + 1 ∧ r = rs.getD k 0) ∧ k ≤ k' ∧ w.grownBy w' (some b)
theorem next_any (b R cap : Nat) (rs : List Nat) (k : Nat) (bad : Bool) (w : World) (h : Scan w b R cap rs k bad) :
    Calls Tryd.prog 76 #[.pointer (some ⟨b, 0, none⟩)] w (NextAny b R cap rs k bad w) := by
  by_cases hk : k < rs.length
  · refine (next_some b R cap rs k bad w h hk).mono ?_
    rintro e w' ⟨he, hS, hg⟩
    exact ⟨_, k + 1, he, by rw [decide_eq_false (by omega), Bool.or_false]; exact hS, fun _ => ⟨rfl, rfl⟩, by omega, hg⟩
  · have := h.le
    obtain rfl : k = rs.length := by omega
    refine (next_none b R cap rs bad w h).mono ?_
    rintro e w' ⟨he, hS, hg⟩
    exact ⟨0, rs.length, he, by rw [decide_eq_true (Nat.le_refl _), Bool.or_true]; exact hS, fun h => absurd h (by omega), Nat.le_refl _, hg⟩

/-- element, without parting. -/
def ElemAny (b R cap : Nat) (rs : List Nat) (k : Nat) (bad : Bool) (w : World) (e : Ending) (w' : World) : Prop :=
  ∃ r k' : Nat, e = .returned (.int .i32 (r : Int)) ∧ k ≤ k' ∧ Scan w' b R cap rs k' (bad || (Pn.elementP (rs.drop k)).isNone) ∧ w.grownBy w' (some b) ∧
    ∀ x u, Pn.elementP (rs.drop k) = some (x, u) → r = x ∧ rs.drop k' = u ∧ k < k'
theorem element_all (b R cap : Nat) (rs : List Nat) (k : Nat) (bad : Bool) (w : World) (h : Scan w b R cap rs k bad) :
    Calls Tryd.prog 92 #[.pointer (some ⟨b, 0, none⟩)] w (ElemAny b R cap rs k bad w) := by
  refine (element_any b R cap rs k bad w h).mono ?_
  rintro e w' ⟨hg, r, k', he, hk, hm⟩
  rcases hq : Pn.elementP (rs.drop k) with _ | ⟨x, u⟩
  · rw [hq] at hm
    exact ⟨r, k', he, hk, by rw [hq, Option.isNone_none, Bool.or_true]; exact hm, hg, fun x u h => by rw [hq] at h; cases h⟩
  · rw [hq] at hm
    obtain ⟨h1, h2, h3, h4⟩ := hm
    exact ⟨r, k', he, hk, by rw [hq, Option.isNone_some, Bool.or_false]; exact h4, hg, fun y v h => by rw [hq] at h; cases h; exact ⟨h1, h2, h3⟩⟩

end Go.Proofs.YtdnbmkfmckppaaaDoor
