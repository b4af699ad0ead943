/-
  The walk of pathname.component.
-/
import Derived.Test.YtdcghpeomaailaaDoorClean
namespace Go.Proofs.YtdcghpeomaailaaDoor
open Go.RowKit Go.Lib

set_option maxHeartbeats 400000 in
set_option maxRecDepth 1000000 in
theorem component_walk (s : ByteArray) (w : World) (hs : s.size < 4294967281) (hE : Env w) :
    Calls Tryd.prog 45 #[.string s] w fun e w' => e = .returned (.bool (!s.toList.isEmpty && decide (s.size ≤ 64) && Pn.cleanP s.data.toList && !s.data.toList.contains 47 && !(s.toList == [46]) && !(s.toList == [46, 46]))) ∧ Below w.heap.size w w' := by
  have hK := fun w => Tryd.strings_Contains_one s 47 w
  simp only [Pn.indexByte_contains] at hK
  have hC := clean_any s w hs hE
  generalize Pn.cleanP s.data.toList = B1 at *
  generalize s.data.toList.contains 47 = B2 at *
  have hK := Lib.hid hK
  have hC := Lib.hid hC
  go_enter Tryd.func45, Tryd.ntmps45
  go_wp2_with (first | (go_at_call 66; refine hC.out.mono ?_; rintro e w' ⟨rfl, hb⟩) | (go_at_call 60; refine (hK.out _).mono ?_; rintro e w' ⟨rfl, hw⟩; rw [hw]))
  all_goals go_ret
  all_goals refine ⟨?_, by first | exact Below.refl _ _ | assumption⟩
  all_goals refine congrArg (fun b => Ending.returned (Value.bool b)) ?_
  all_goals first
    | (have h64 : s.size ≤ 64 := by omega
       simp [*]; done)
    | (have h64 : ¬ s.size ≤ 64 := by omega
       simp [*]; done)
    | (simp [*]; done)
    | trace_state

end Go.Proofs.YtdcghpeomaailaaDoor
