/-
  The walk of kinkeeplaw20.example.
-/
import Derived.Test.YtdcghpeomaailaaDoorFtEnts
import Derived.Test.YtdcghpeomaailaaDoorFtOwn
import Derived.Test.YtdcghpeomaailaaDoorFtFuncs2
import Derived.Lib.SlBytesConst
namespace Go.Proofs.YtdcghpeomaailaaDoor
open Go.RowKit Go.Lib Ft

def exEnts : List Ent := [⟨[97], 2, 493, 0, [], []⟩, ⟨[97, 47, 120], 1, 0, 0, [49, 50], []⟩, ⟨[98], 3, 0, 0, [], [97]⟩]

theorem cell_of_fr {w : World} {b : Nat} {cs : Array Value} {t : TypeId} {fr : Nat × Nat} (h : w.heap[b]? = some (.cells cs t fr)) (i : Nat) : w.cell? ⟨b, i, none⟩ = cs[i]? := by simp [World.cell?, h]

set_option maxHeartbeats 1000000 in
set_option maxRecDepth 100000 in
theorem example_any (w : World) : Calls Tryd.prog 34 #[] w fun e' w' => ∃ va, e' = .returned (.slice va exEnts.length 3) ∧ EntsAt w' va exEnts ∧ Below w.heap.size w w' := by
  have hA : Below w.heap.size w ((w.alloc (.cells #[.int .u8 49, .int .u8 50] 5 (2, 3))).alloc (.cells #[S [97], .int .i64 2, .int .i64 493, .int .i64 0, .slice none 0 0, S [], S [97, 47, 120], .int .i64 1, .int .i64 0, .int .i64 0, .slice (some ⟨w.heap.size, 0, none⟩) 2 2, S [], S [98], .int .i64 3, .int .i64 0, .int .i64 0, .slice none 0 0, S [97]] 25)) :=
    ((Below.refl _ w).alloc (Nat.le_refl _) _).alloc (by simp) _
  obtain ⟨q0, q1⟩ := two_new (w := w) (.cells #[.int .u8 49, .int .u8 50] 5 (2, 3)) (.cells #[S [97], .int .i64 2, .int .i64 493, .int .i64 0, .slice none 0 0, S [], S [97, 47, 120], .int .i64 1, .int .i64 0, .int .i64 0, .slice (some ⟨w.heap.size, 0, none⟩) 2 2, S [], S [98], .int .i64 3, .int .i64 0, .int .i64 0, .slice none 0 0, S [97]] 25)
  have HA := Lib.hid hA
  have Q0 := Lib.hid q0
  have Q1 := Lib.hid q1
  have kc := fun (w : World) (C : Array Value) (n c : Nat) => Lib.run_convert_bytes_const (P := Tryd.prog) w 23 5 C n c Tryd.underlying23 Tryd.underlying5
  clear hA q0 q1
  go_enter Tryd.func34, Tryd.ntmps34
  go_wp2_with fail
  go_ret
  refine ⟨some ⟨w.heap.size + 1, 0, none⟩, rfl, .inr ⟨w.heap.size + 1, 0, rfl, by simp, fun i hi => ?_⟩, HA.out⟩
  have hc := fun j => cell_of_block' Q1.out j
  have hi3 : i < 3 := hi
  obtain rfl | rfl | rfl : i = 0 ∨ i = 1 ∨ i = 2 := by omega
  · refine ⟨none, 0, fun j hj => ?_, Nat.le_refl _, .inl rfl⟩
    have hj6 : j < 6 := hj
    rw [hc]
    obtain rfl | rfl | rfl | rfl | rfl | rfl : j = 0 ∨ j = 1 ∨ j = 2 ∨ j = 3 ∨ j = 4 ∨ j = 5 := by omega
    all_goals rfl
  · refine ⟨some ⟨w.heap.size, 0, none⟩, 2, fun j hj => ?_, Nat.le_refl _, .inr ⟨w.heap.size, 0, rfl, by simp; omega, fun j hj => ?_⟩⟩
    · have hj6 : j < 6 := hj
      rw [hc]
      obtain rfl | rfl | rfl | rfl | rfl | rfl : j = 0 ∨ j = 1 ∨ j = 2 ∨ j = 3 ∨ j = 4 ∨ j = 5 := by omega
      all_goals rfl
    · have hj2 : j < 2 := hj
      rw [cell_of_fr Q0.out]
      obtain rfl | rfl : j = 0 ∨ j = 1 := by omega
      all_goals rfl
  · refine ⟨none, 0, fun j hj => ?_, Nat.le_refl _, .inl rfl⟩
    have hj6 : j < 6 := hj
    rw [hc]
    obtain rfl | rfl | rfl | rfl | rfl | rfl : j = 0 ∨ j = 1 ∨ j = 2 ∨ j = 3 ∨ j = 4 ∨ j = 5 := by omega
    all_goals rfl

end Go.Proofs.YtdcghpeomaailaaDoor
