/-
  The walks of slices.IndexFunc and slices.ContainsFunc over strings.
-/
import Derived.Test.YtdcghpeomaailaaDoorBase
import Derived.Deep.LoopGhost
import Derived.Shelf.Abstract
namespace Go.Proofs.YtdcghpeomaailaaDoor
open Go.RowKit Go.Lib

/-- An index, or less than nought where no element meets p. -/
def IdxOk (q : Bool) (w : World) (e : Ending) (w' : World) : Prop := ∃ r : Int, e = .returned (.int .i64 r) ∧ decide (0 ≤ r) = q ∧ Below w.heap.size w w'

theorem any_of_hit {α : Type} {l : List α} {p : α → Bool} {i : Nat} (h : i < l.length) (hp : p l[i] = true) : l.any p = true :=
  List.any_eq_true.2 ⟨_, List.getElem_mem h, hp⟩
theorem any_of_miss {α : Type} {l : List α} {p : α → Bool} (h : ∀ j (h : j < l.length), p l[j] = false) : l.any p = false := by
  rw [List.any_eq_false]
  intro x hx
  obtain ⟨j, hj, rfl⟩ := List.getElem_of_mem hx
  rw [h j hj]; simp

set_option maxHeartbeats 400000 in
set_option maxRecDepth 1000000 in
theorem indexFunc_str (g : FuncId) (eg : ∀ args w, (callFunc g args).run Tryd.prog w = .ok (.enter g args) w) (lb : Array Value) (p : ByteArray → Bool) (b off cap : Nat) (ss : List ByteArray) (w : World) (hss : ss.length ≤ 9223372036854775807)
    (hlt : b < w.heap.size) (hr : RowAt w b off (ss.map Value.string))
    (cG : ∀ x W, Below w.heap.size w W → x ∈ ss → Calls Tryd.prog g (#[.string x] ++ lb) W fun e W' => e = .returned (.bool (p x)) ∧ Below W.heap.size W W') :
    Calls Tryd.prog 65 #[.slice (some ⟨b, off, none⟩) ss.length cap, .func (.func g) #[] lb] w (IdxOk (ss.any p) w) := by
  have hG := Lib.hid cG
  have hR := Lib.hid hr
  clear cG hr
  go_enter Tryd.func65, Tryd.ntmps65
  go_wp2
  go_loopg [5, 8] ss.length (fun gg _ v w' => ∃ i : Nat, v = .int .i64 i ∧ i ≤ ss.length ∧ ss.length - i ≤ gg ∧ Hid (∀ j (h : j < ss.length), j < i → p ss[j] = false) ∧ Below w.heap.size w w')
  case atStart => exact ⟨0, rfl, Nat.zero_le _, by omega, fun _ _ h => absurd h (Nat.not_lt_zero _), Below.refl _ _⟩
  case round =>
    obtain ⟨i, rfl, hi, hgg, hno, hb⟩ := hrel
    by_cases hlt2 : i < ss.length
    · have hz : (i : Int) < (ss.length : Int) := by omega
      obtain ⟨x, hx⟩ : ∃ x, ss[i] = x := ⟨_, rfl⟩
      have hX := Lib.hid hx
      have hcell : wr.cell? ⟨b, off + i, none⟩ = some (.string x) := by
        rw [hb.cell (p := ⟨b, _, none⟩) hlt]; have := hR.out i (by simpa using hlt2); simpa [hx] using this
      have hcall := hG.out x wr hb (by rw [← hx]; exact List.getElem_mem hlt2)
      clear hx
      cases hq : p x with
      | true =>
        rw [hq] at hcall
        have hA : ss.any p = true := any_of_hit hlt2 (by rw [hX.out]; exact hq)
        have HA := Lib.hid hA; clear hA hq
        go_wp2_with (go_at_fn g; refine hcall.mono ?_; rintro e w' ⟨rfl, hb1⟩)
        go_ret
        exact ⟨i, rfl, by rw [HA.out]; simp, below_then hb (by first | exact hb1 | exact hb1.mono hb.size)⟩
      | false =>
        rw [hq] at hcall
        have HQ := Lib.hid hq; clear hq
        go_wp2_with (go_at_fn g; refine hcall.mono ?_; rintro e w' ⟨rfl, hb1⟩)
        go_roundg (ss.length - (i + 1))
        case measure => omega
        case rel =>
          refine ⟨i + 1, by go_num, by omega, by omega, fun j hj hji => ?_, below_then hb (by first | exact hb1 | exact hb1.mono hb.size)⟩
          by_cases e : j = i
          · subst e; rw [hX.out]; exact HQ.out
          · exact hno.out j hj (by omega)
    · have hz : ¬ (i : Int) < (ss.length : Int) := by omega
      have hA : ss.any p = false := any_of_miss fun j hj => hno.out j hj (by omega)
      have HA := Lib.hid hA; clear hA
      go_wp2
      go_ret
      exact ⟨-1, rfl, by rw [HA.out]; simp, hb⟩

end Go.Proofs.YtdcghpeomaailaaDoor
