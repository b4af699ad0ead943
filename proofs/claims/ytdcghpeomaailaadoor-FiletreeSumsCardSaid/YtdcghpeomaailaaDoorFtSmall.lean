/-
  The walk of From.
-/
import Derived.Test.YtdcghpeomaailaaDoorFtFill
namespace Go.Proofs.YtdcghpeomaailaaDoor
open Go.RowKit Go.Lib Ft

theorem EntsAt.cases_nil {w : World} {va : Option Addr} : EntsAt w va [] := .inl rfl

/-- What From leaves. -/
def FromOk (l : List Ent) (w : World) (e' : Ending) (w' : World) : Prop :=
  Below w.heap.size w w' ∧ ((check l ≠ 0 ∧ e' = .returned (.tuple #[.pointer none, .int .i64 (check l)])) ∨ (check l = 0 ∧ ∃ tb mb, e' = .returned (.tuple #[.pointer (some ⟨tb, 0, none⟩), .int .i64 0]) ∧ TreeMem w' tb mb l ∧ w.heap.size ≤ tb ∧ w.heap.size ≤ mb))

set_option maxHeartbeats 1000000 in
set_option maxRecDepth 100000 in
theorem from_any (l : List Ent) (va : Option Addr) (vc : Nat) (w : World) (hE : Env w) (hA : EntsAt w va l) (hp : l.length ≤ 4096 → ∀ e ∈ l, e.path.length < 4294967281 ∧ e.link.length < 4294967281) :
    Calls Tryd.prog 22 #[.slice va l.length vc] w (FromOk l w) := by
  have HN := Lib.hid (new_any w)
  have HF := Lib.hid fun tb mb w1 (hT : TreeMem w1 tb mb []) (hb : Below w.heap.size w w1) => fill_any l va vc tb mb w1 hT (hE.below hb) (hA.below hb) hp
  clear hE hA hp
  by_cases hc : check l = 0
  · have hq : (check l == 0) = true := by rw [beq_iff_eq]; exact hc
    have htr : (if 4096 < l.length then [] else (fillGo [] l).1) = l := by
      have h1 : ¬ 4096 < l.length := by
        intro h; unfold check at hc; rw [if_pos h] at hc; cases hc
      unfold check at hc
      rw [if_neg h1] at hc ⊢
      rw [fillGo_ok l [] hc]; rfl
    have HC := Lib.hid hc
    have HTR := Lib.hid htr
    go_enter Tryd.func22, Tryd.ntmps22
    go_wp2_with fail
    refine HN.out.mono ?_
    rintro e' w1 ⟨tb, mb, rfl, hT, hb, h1, h2⟩
    have HB := Lib.hid hb
    have HF1 := Lib.hid (HF.out tb mb w1 hT hb)
    clear hT hb htr hc
    go_wp2_with fail
    refine HF1.out.mono ?_
    rintro e' w2 ⟨rfl, hT, hg⟩
    rw [HTR.out] at hT
    have HG := Lib.hid hg
    have HT := Lib.hid hT
    clear hg hT
    go_wp2_with fail
    go_ret2
    exact ⟨HB.out.grown HG.out HB.out.size (fun k hk => by cases hk; exact h2), .inr ⟨HC.out, tb, mb, rfl, HT.out, h1, h2⟩⟩
  · have hq : (check l == 0) = false := by rw [beq_eq_false_iff_ne]; exact hc
    have HC := Lib.hid hc
    go_enter Tryd.func22, Tryd.ntmps22
    go_wp2_with fail
    refine HN.out.mono ?_
    rintro e' w1 ⟨tb, mb, rfl, hT, hb, h1, h2⟩
    have HB := Lib.hid hb
    have HF1 := Lib.hid (HF.out tb mb w1 hT hb)
    clear hT hb hc
    go_wp2_with fail
    refine HF1.out.mono ?_
    rintro e' w2 ⟨rfl, _, hg⟩
    have HG := Lib.hid hg
    clear hg
    go_wp2_with fail
    go_ret2
    exact ⟨HB.out.grown HG.out HB.out.size (fun k hk => by cases hk; exact h2), .inl ⟨HC.out, rfl⟩⟩

end Go.Proofs.YtdcghpeomaailaaDoor
