/-
  The walks of filetree's valid, below, parent, New, Get.
-/
import Derived.Test.YtdcghpeomaailaaDoorFtFuncs
namespace Go.Proofs.YtdcghpeomaailaaDoor
open Go.RowKit Go.Lib Ft

theorem len_zero {α : Type} (l : List α) : ((l.length : Int) == 0) = l.isEmpty := by
  cases l with
  | nil => rfl
  | cons a l => rw [beq_eq_false_iff_ne.2 (by simp; omega)]; rfl

theorem valid_code (e : Ent) : e.valid = (Pn.validP e.path && !decide (e.mode < 0) && !decide (511 < e.mode) && !decide (e.time < 0) &&
    (if e.kind == 1 then decide ((e.data.length : Int) ≤ 1048576) && (e.link == []) else if e.kind == 2 then ((e.data.length : Int) == 0) && (e.link == []) else if e.kind == 3 then ((e.data.length : Int) == 0) && !(e.link == []) && decide ((e.link.length : Int) ≤ 512) && !e.link.contains 0 else false)) := by
  have h1 : decide (0 ≤ e.mode) = !decide (e.mode < 0) := by rw [← decide_not]; congr 1; simp
  have h2 : decide (e.mode ≤ 511) = !decide (511 < e.mode) := by rw [← decide_not]; congr 1; simp
  have h3 : decide (0 ≤ e.time) = !decide (e.time < 0) := by rw [← decide_not]; congr 1; simp
  have h4 : decide (e.data.length ≤ 1048576) = decide ((e.data.length : Int) ≤ 1048576) := by congr 1; exact propext ⟨fun h => by omega, fun h => by omega⟩
  have h5 : decide (e.link.length ≤ 512) = decide ((e.link.length : Int) ≤ 512) := by congr 1; exact propext ⟨fun h => by omega, fun h => by omega⟩
  have h6 : e.link.isEmpty = (e.link == []) := by cases e.link <;> rfl
  unfold Ent.valid
  rw [h1, h2, h3, h4, h5, h6, len_zero]
  simp only [beq_iff_eq]

set_option maxHeartbeats 1000000 in
set_option maxRecDepth 100000 in
theorem validEnt_any (e : Ent) (va : Option Addr) (vc : Nat) (w : World) (hE : Env w) (hp : e.path.length < 4294967281) (hl : e.link.length < 4294967281) :
    Calls Tryd.prog 37 #[entV e va vc] w fun e' w' => e' = .returned (.bool e.valid) ∧ Below w.heap.size w w' := by
  have hbA : Below w.heap.size w (w.alloc (.cells #[S e.path, .int .i64 e.kind, .int .i64 e.mode, .int .i64 e.time, .slice va e.data.length vc, S e.link] 25)) := (Below.refl _ w).alloc (Nat.le_refl _) _
  have HV := Lib.hid (valid_any ⟨e.path.toArray⟩ _ hp (hE.below hbA))
  rw [show (⟨e.path.toArray⟩ : ByteArray).data.toList = e.path from rfl] at HV
  have HK := Lib.hid fun w => Tryd.strings_Contains_one ⟨e.link.toArray⟩ 0 w
  simp only [Pn.indexByte_contains] at HK
  rw [valid_code]
  obtain ⟨path, kind, mode, time, data, link⟩ := e
  simp only at *
  generalize Pn.validP path = V at *
  generalize List.contains link 0 = K at *
  have HA := Lib.hid hbA
  have P0 := Lib.hid (heap_alloc_new w (.cells #[S path, .int .i64 kind, .int .i64 mode, .int .i64 time, .slice va data.length vc, S link] 25))
  clear hbA hE hp hl
  go_enter Tryd.func37, Tryd.ntmps37
  go_wp2_with fail
  refine HV.out.mono ?_
  rintro e' w1 ⟨rfl, hb⟩
  have q0 := (hb.block w.heap.size (by simp)).trans P0.out
  have c1 := cell_of_block' q0 1
  have c2 := cell_of_block' q0 2
  have c3 := cell_of_block' q0 3
  have c4 := cell_of_block' q0 4
  have c5 := cell_of_block' q0 5
  simp at c1 c2 c3 c4 c5
  have HB := Lib.hid (below_then HA.out hb)
  clear hb q0
  go_wp2_with (go_at_call 60; refine (HK.out _).mono ?_; rintro e w' ⟨rfl, hw⟩; rw [hw])
  all_goals go_ret
  all_goals refine ⟨retb ?_, HB.out⟩
  all_goals first
    | (simp [*]; done)
    | (by_cases m1 : mode < 0 <;> by_cases m2 : 511 < mode <;> by_cases m3 : time < 0 <;> by_cases m4 : (data.length : Int) ≤ 1048576 <;> by_cases m5 : (link.length : Int) ≤ 512 <;> first
        | (exfalso; omega)
        | (simp [*]; done)
        | (simp_all; done)
        | trace_state)

set_option maxRecDepth 100000 in
/-- below. -/
theorem below_any (t : List Ent) (tb mb : Nat) (dir : Pn.B) (w : World) (hT : TreeMem w tb mb t) (hd : dir.length ≤ 4294967281) :
    Calls Tryd.prog 38 #[.pointer (some ⟨tb, 0, none⟩), S dir] w fun e' w' => e' = .returned (.int .i64 (belowE t dir)) ∧ Below w.heap.size w w' := by
  have hc := hT.cell
  by_cases h0 : dir = []
  · have hq : (dir == []) = true := by rw [h0]; rfl
    have hr : belowE t dir = 0 := by unfold belowE; rw [if_pos h0]
    rw [hr]
    clear h0 hr hT
    go_enter Tryd.func38, Tryd.ntmps38
    go_wp2_with fail
    go_ret
    exact ⟨rfl, Below.refl _ _⟩
  · have hq : (dir == []) = false := by rw [beq_eq_false_iff_ne]; exact h0
    rcases hT.look dir (by omega) with ⟨h1, h2⟩ | ⟨e, v, h1, h2, ⟨va, vc, rfl, _, _⟩, h3⟩
    · have hr : belowE t dir = 4 := by unfold belowE; rw [if_neg h0, h1]
      have hrun := h2 true
      rw [hr]
      clear h0 hr hT h1 h2
      go_enter Tryd.func38, Tryd.ntmps38
      go_wp2_with fail
      go_ret
      exact ⟨rfl, (Below.refl _ _).alloc (Nat.le_refl _) _⟩
    · have hr : belowE t dir = if e.kind = 2 then 0 else 13 := by unfold belowE; rw [if_neg h0, h1]
      have hrun := h3 true
      rw [hr]
      clear h0 hr hT h1 h3
      by_cases hk : e.kind = 2
      · have hk2 : (e.kind == 2) = true := by rw [hk]; rfl
        rw [if_pos hk]
        go_enter Tryd.func38, Tryd.ntmps38
        go_wp2_with fail
        go_ret
        exact ⟨rfl, (Below.refl _ _).alloc (Nat.le_refl _) _⟩
      · have hk2 : (e.kind == 2) = false := by rw [beq_eq_false_iff_ne]; exact hk
        rw [if_neg hk]
        go_enter Tryd.func38, Tryd.ntmps38
        go_wp2_with fail
        go_ret
        exact ⟨rfl, (Below.refl _ _).alloc (Nat.le_refl _) _⟩

set_option maxRecDepth 100000 in
/-- parent. -/
theorem parentP_any (p : Pn.B) (w : World) (hE : Env w) (hp : p.length < 4294967281) :
    Calls Tryd.prog 39 #[S p] w fun e' w' => e' = .returned (S (if Pn.validP p then Pn.parentP p else [])) ∧ Below w.heap.size w w' := by
  have HP := Lib.hid (parent_any ⟨p.toArray⟩ w hp hE)
  unfold ParentOk at HP
  rw [show (⟨p.toArray⟩ : ByteArray).data.toList = p from rfl] at HP
  cases hv : Pn.validP p with
  | false =>
    simp only [hv, Bool.false_eq_true, ↓reduceIte] at HP ⊢
    clear hv
    go_enter Tryd.func39, Tryd.ntmps39
    go_wp2_with fail
    refine HP.out.mono ?_
    rintro e w1 ⟨hb, rfl⟩
    go_wp2_with fail
    go_ret
    exact ⟨rfl, hb⟩
  | true =>
    simp only [hv, ↓reduceIte] at HP ⊢
    clear hv
    go_enter Tryd.func39, Tryd.ntmps39
    go_wp2_with fail
    refine HP.out.mono ?_
    rintro e w1 ⟨hb, rfl⟩
    go_wp2_with fail
    go_ret
    exact ⟨rfl, hb⟩

set_option maxRecDepth 100000 in
/-- New. -/
theorem new_any (w : World) : Calls Tryd.prog 32 #[] w fun e' w' => ∃ tb mb, e' = .returned (.pointer (some ⟨tb, 0, none⟩)) ∧ TreeMem w' tb mb [] ∧ Below w.heap.size w w' ∧ w.heap.size ≤ tb ∧ w.heap.size ≤ mb := by
  go_enter Tryd.func32, Tryd.ntmps32
  have hmm := @run_makeMap Tryd.prog
  have hT : TreeMem ((w.alloc (.map #[] 0)).alloc (.cells #[.map (some w.heap.size)] 69)) (w.heap.size + 1) w.heap.size [] := by
    obtain ⟨_, q1⟩ := two_new (w := w) (.map #[] 0) (.cells #[.map (some w.heap.size)] 69)
    refine ⟨by rw [cell_of_block' q1 0]; rfl, by simp, ⟨[], ?_, by simp, by simp⟩, List.Pairwise.nil, by simp, by simp⟩
    exact (mapAt_made w).below ((Below.refl _ _).alloc (Nat.le_refl _) _)
  have HT := Lib.hid hT
  clear hT
  go_wp2_with fail
  go_ret
  exact ⟨w.heap.size + 1, w.heap.size, rfl, HT.out, ((Below.refl _ w).alloc (Nat.le_refl _) _).alloc (by simp) _, Nat.le_succ _, Nat.le_refl _⟩

def zeroE : Ent := ⟨[], 0, 0, 0, [], []⟩

set_option maxRecDepth 100000 in
/-- Get, at what the look-up gives. -/
theorem get_with (tb mb : Nat) (p : Pn.B) (w : World) (ok : Bool) (x : Ent) (va : Option Addr) (vc : Nat) (hx : x.data.length ≤ 4294967296)
    (hc : (w.alloc (.cells #[S [], .int .i64 0, .int .i64 0, .int .i64 0, .slice none 0 0, S []] 25)).cell? ⟨tb, 0, none⟩ = some (.map (some mb)))
    (hrun : (Instr.lookup 67 (.map (some mb)) (S p) true).run Tryd.prog (w.alloc (.cells #[S [], .int .i64 0, .int .i64 0, .int .i64 0, .slice none 0 0, S []] 25)) = .ok (.tuple #[entV x va vc, .bool ok]) (w.alloc (.cells #[S [], .int .i64 0, .int .i64 0, .int .i64 0, .slice none 0 0, S []] 25)))
    (hby : BytesAt (w.alloc (.cells #[S [], .int .i64 0, .int .i64 0, .int .i64 0, .slice none 0 0, S []] 25)) va x.data) :
    Calls Tryd.prog 14 #[.pointer (some ⟨tb, 0, none⟩), S p] w fun e' w' => ∃ va', e' = .returned (.tuple #[entV x va' x.data.length, .bool ok]) ∧ BytesAt w' va' x.data ∧ NewB w.heap.size w' va' ∧ Below w.heap.size w w' := by
  have hB1 : Below w.heap.size w ((w.alloc (.cells #[S [], .int .i64 0, .int .i64 0, .int .i64 0, .slice none 0 0, S []] 25)).alloc (.cells #[S x.path, .int .i64 x.kind, .int .i64 x.mode, .int .i64 x.time, .slice va x.data.length vc, S x.link] 25)) :=
    ((Below.refl _ w).alloc (Nat.le_refl _) _).alloc (by simp) _
  have hz : ((w.alloc (.cells #[S [], .int .i64 0, .int .i64 0, .int .i64 0, .slice none 0 0, S []] 25)).alloc (.cells #[S x.path, .int .i64 x.kind, .int .i64 x.mode, .int .i64 x.time, .slice va x.data.length vc, S x.link] 25)).heap.size = w.heap.size + 2 := by simp
  have hq := (two_new (w := w) (.cells #[S [], .int .i64 0, .int .i64 0, .int .i64 0, .slice none 0 0, S []] 25) (.cells #[S x.path, .int .i64 x.kind, .int .i64 x.mode, .int .i64 x.time, .slice va x.data.length vc, S x.link] 25)).1
  have HC := Lib.hid (copied_any x va vc _ (hby.below ((Below.refl _ _).alloc (Nat.le_refl _) (.cells #[S x.path, .int .i64 x.kind, .int .i64 x.mode, .int .i64 x.time, .slice va x.data.length vc, S x.link] 25))) hx)
  rw [hz] at HC
  have HB1 := Lib.hid hB1
  have HQ := Lib.hid hq
  have HZ := Lib.hid hz
  clear hB1 hz hq hby hx
  go_enter Tryd.func14, Tryd.ntmps14
  go_wp2_with fail
  refine HC.out.mono ?_
  rintro e' w3 ⟨va', rfl, hby, hge, hb⟩
  have q0 := (hb.block w.heap.size (by omega)).trans HQ.out
  have hbe : Below w.heap.size w w3 := HB1.out.trans (hb.mono (Nat.le_add_right _ 2))
  have d0 := cell_of_block' q0 0
  have d1 := cell_of_block' q0 1
  have d2 := cell_of_block' q0 2
  have d3 := cell_of_block' q0 3
  have d4 := cell_of_block' q0 4
  have d5 := cell_of_block' q0 5
  simp at d0 d1 d2 d3 d4 d5
  have g0 := free_of_block q0 0
  have g1 := free_of_block q0 1
  have g2 := free_of_block q0 2
  have g3 := free_of_block q0 3
  have g4 := free_of_block q0 4
  have g5 := free_of_block q0 5
  have Q0 := Lib.hid q0
  have HBY := Lib.hid hby
  have HGE := Lib.hid hge
  have HBE := Lib.hid hbe
  clear q0 hby hge hbe hb
  go_wp2_with fail
  have hs1 := six_block Q0.out (S x.path) (.int .i64 x.kind) (.int .i64 x.mode) (.int .i64 x.time) (.slice va' x.data.length x.data.length) (S x.link)
  have hs2 := six_bytes (b := w.heap.size) HBY.out (fun a h => by have := (HGE.out a h).1; omega) (S x.path) (.int .i64 x.kind) (.int .i64 x.mode) (.int .i64 x.time) (.slice va' x.data.length x.data.length) (S x.link)
  have hu8 : ∀ a, va' = some a → U8 (six w3 w.heap.size (S x.path) (.int .i64 x.kind) (.int .i64 x.mode) (.int .i64 x.time) (.slice va' x.data.length x.data.length) (S x.link)) a.block := fun a h => ((((((HGE.out a h).2.set _ _).set _ _).set _ _).set _ _).set _ _).set _ _
  have hs3 := six_below (b := w.heap.size) HBE.out (Nat.le_refl _) (S x.path) (.int .i64 x.kind) (.int .i64 x.mode) (.int .i64 x.time) (.slice va' x.data.length x.data.length) (S x.link)
  clear d0 d1 d2 d3 d4 d5 g0 g1 g2 g3 g4 g5
  rw [show ((((((w3.setCell ⟨w.heap.size, 0, none⟩ (S x.path)).setCell ⟨w.heap.size, 1, none⟩ (.int .i64 x.kind)).setCell ⟨w.heap.size, 2, none⟩ (.int .i64 x.mode)).setCell ⟨w.heap.size, 3, none⟩ (.int .i64 x.time)).setCell ⟨w.heap.size, 4, none⟩ (.slice va' x.data.length x.data.length)).setCell ⟨w.heap.size, 5, none⟩ (S x.link)) = six w3 w.heap.size (S x.path) (.int .i64 x.kind) (.int .i64 x.mode) (.int .i64 x.time) (.slice va' x.data.length x.data.length) (S x.link) from rfl]
  generalize six w3 w.heap.size (S x.path) (.int .i64 x.kind) (.int .i64 x.mode) (.int .i64 x.time) (.slice va' x.data.length x.data.length) (S x.link) = Wf at *
  have e0 := cell_of_block' hs1 0
  have e1 := cell_of_block' hs1 1
  have e2 := cell_of_block' hs1 2
  have e3 := cell_of_block' hs1 3
  have e4 := cell_of_block' hs1 4
  have e5 := cell_of_block' hs1 5
  simp at e0 e1 e2 e3 e4 e5
  refine bodyPost_ret (v := .tuple #[entV x va' x.data.length, .bool ok]) (by simp [results, Tryd.results14, go_sem, e0, e1, e2, e3, e4, e5]) rfl ?_
  exact ⟨va', rfl, hs2, fun a h => ⟨by have := (HGE.out a h).1; omega, hu8 a h⟩, hs3⟩

theorem valid_data_len {e : Ent} (h : e.valid = true) : e.data.length ≤ 1048576 := by
  unfold Ent.valid at h
  simp only [Bool.and_eq_true] at h
  have h2 := h.2
  split at h2
  · simp only [Bool.and_eq_true, decide_eq_true_eq] at h2; exact h2.1
  · split at h2
    · simp only [Bool.and_eq_true, List.isEmpty_iff] at h2; rw [h2.1]; simp
    · split at h2
      · simp only [Bool.and_eq_true, List.isEmpty_iff] at h2; rw [h2.1.1.1]; simp
      · cases h2

/-- Get. -/
theorem get_any (t : List Ent) (tb mb : Nat) (p : Pn.B) (w : World) (hT : TreeMem w tb mb t) (hp : p.length ≤ 4294967281) :
    Calls Tryd.prog 14 #[.pointer (some ⟨tb, 0, none⟩), S p] w fun e' w' => ∃ va', e' = .returned (.tuple #[entV ((find t p).getD zeroE) va' ((find t p).getD zeroE).data.length, .bool (find t p).isSome]) ∧ BytesAt w' va' ((find t p).getD zeroE).data ∧ NewB w.heap.size w' va' ∧ Below w.heap.size w w' := by
  have hA : Below w.heap.size w (w.alloc (.cells #[S [], .int .i64 0, .int .i64 0, .int .i64 0, .slice none 0 0, S []] 25)) := (Below.refl _ w).alloc (Nat.le_refl _) _
  have hT1 := hT.below hA
  rcases hT1.look p (by omega) with ⟨h1, h2⟩ | ⟨e, v, h1, _, ⟨va, vc, rfl, _, h5⟩, h3⟩
  · rw [h1]
    exact get_with tb mb p w false zeroE none 0 (by simp [zeroE]) hT1.cell (h2 true) (.inl rfl)
  · rw [h1]
    have hd := valid_data_len (hT.good e (find_some h1).1)
    exact get_with tb mb p w true e va vc (by omega) hT1.cell (h3 true) h5

end Go.Proofs.YtdcghpeomaailaaDoor
