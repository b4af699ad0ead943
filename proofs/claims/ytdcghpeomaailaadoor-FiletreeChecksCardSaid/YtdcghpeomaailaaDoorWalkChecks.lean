/-
  The walk of kinkeeplaw20.FiletreeChecks: it answers true.
-/
import Derived.Test.YtdcghpeomaailaaDoorGRef20
import Derived.Test.YtdcghpeomaailaaDoorFtAwake
import Derived.Test.YtdcghpeomaailaaDoorFtOps
namespace Go.Proofs.YtdcghpeomaailaaDoor
open Go.RowKit Go.Lib Ft

theorem large_not {l : List Ent} {n : Nat} (h : largeP l n = false) : l.length ≤ n ∧ ∀ e ∈ l, e.path.length ≤ 600 ∧ e.data.length ≤ 100 ∧ e.link.length ≤ 600 := by
  unfold largeP at h
  simp only [Bool.or_eq_false_iff, decide_eq_false_iff_not, Nat.not_lt, List.any_eq_false] at h
  refine ⟨h.2, fun e he => ?_⟩
  have := h.1 e he
  unfold bigE at this
  simp only [Bool.or_eq_true, decide_eq_true_eq, not_or, Nat.not_lt] at this
  exact ⟨this.1.1, this.1.2, this.2⟩

set_option maxHeartbeats 4000000 in
set_option maxRecDepth 100000 in
theorem checks_any (l : List Ent) (va : Option Addr) (vc : Nat) (w : World) (hlc : l.length ≤ vc) (hvc : vc ≤ 9223372036854775807) (hE : Env w) (hA : EntsAt w va l) :
    Calls Tryd.prog 5 #[.slice va l.length vc] w fun e' w' => e' = .returned (.bool true) ∧ Below w.heap.size w w' := by
  have HAW := Lib.hid (awake_any _ hE)
  have HE := Lib.hid hE
  have HA := Lib.hid hA
  clear hE hA
  by_cases hbig : 4096 < l.length
  · have hbz : (4096 : Int) < (l.length : Int) := by omega
    have hck : check l = 2 := by unfold check; rw [if_pos hbig]
    have HFR := Lib.hid fun W h h2 => from_any l va vc W h h2 (fun h => by omega)
    unfold FromOk at HFR
    rw [hck] at HFR
    have HCK := Lib.hid fun W h h2 => check_any l va vc W h h2 (fun h => by omega)
    rw [hck] at HCK
    clear hck hbig
    go_enter Tryd.func5, Tryd.ntmps5
    go_wp2_with fail
    refine HAW.out.mono ?_
    rintro e' w1 ⟨rfl, hb⟩
    have B1 := Lib.hid hb
    clear hb
    go_wp2_with fail
    refine (HFR.out w1 (HE.out.below B1.out) (HA.out.below B1.out)).mono ?_
    rintro e' w2 ⟨hb, ⟨_, rfl⟩ | ⟨h0, _⟩⟩
    rotate_left
    · cases h0
    have B2 := Lib.hid (below_then B1.out hb)
    clear hb
    go_wp2_with fail
    refine (HCK.out w2 (HE.out.below B2.out) (HA.out.below B2.out)).mono ?_
    rintro e' w3 ⟨rfl, hb⟩
    have B3 := Lib.hid (below_then B2.out hb)
    clear hb
    go_wp2_with fail
    go_ret
    exact ⟨rfl, B3.out⟩
  · have hbz : ¬ (4096 : Int) < (l.length : Int) := by omega
    have HLG := Lib.hid fun w h => large_any l va vc 100 w (Nat.le_trans hlc hvc) h
    rw [show ((100 : Nat) : Int) = 100 from rfl] at HLG
    go_enter Tryd.func5, Tryd.ntmps5
    go_wp2_with fail
    refine HAW.out.mono ?_
    rintro e' w1 ⟨rfl, hb⟩
    have B1 := Lib.hid hb
    clear hb
    go_wp2_with fail
    refine (HLG.out w1 (HA.out.below B1.out)).mono ?_
    rintro e' w2 ⟨rfl, hb⟩
    have B2 := Lib.hid (below_then B1.out hb)
    clear hb
    cases hlg : largeP l 100 with
    | true =>
      go_wp2_with fail
      go_ret
      exact ⟨rfl, B2.out⟩
    | false =>
      obtain ⟨hl100, hsm⟩ := large_not hlg
      have HRC := Lib.hid fun W h => refCheck_any l va vc W hlc hvc h (fun _ e he => by have := hsm e he; exact ⟨by omega, by omega⟩)
      have HFR := Lib.hid fun W h h2 => from_any l va vc W h h2 (fun _ e he => by have := hsm e he; exact ⟨by omega, by omega⟩)
      unfold FromOk at HFR
      have HCK := Lib.hid fun W h h2 => check_any l va vc W h h2 (fun _ e he => by have := hsm e he; exact ⟨by omega, by omega⟩)
      have HGOOD := Lib.hid fun h => tree_of_check (t := l) h
      obtain ⟨c, hc⟩ : ∃ c, check l = c := ⟨_, rfl⟩
      rw [hc] at HRC HFR HCK HGOOD
      clear hlg hc hbig hsm hlc hvc
      go_wp2_with fail
      refine (HRC.out w2 (HA.out.below B2.out)).mono ?_
      rintro e' w3 ⟨rfl, hb⟩
      have B3 := Lib.hid (below_then B2.out hb)
      clear hb
      go_wp2_with fail
      refine (HFR.out w3 (HE.out.below B3.out) (HA.out.below B3.out)).mono ?_
      rintro e' w4 ⟨hb, ⟨hc0, rfl⟩ | ⟨hc0, tb, mb, rfl, hT, _, _⟩⟩
      · have B4 := Lib.hid (below_then B3.out hb)
        have hq : (c == 0) = false := beq_eq_false_iff_ne.2 hc0
        have hqn : (c != 0) = true := by rw [bne_iff_ne]; exact hc0
        have HCK4 := Lib.hid (HCK.out w4 (HE.out.below B4.out) (HA.out.below B4.out))
        have hcc : (c != c) = false := by simp
        clear hb hc0
        go_wp2_with fail
        refine HCK4.out.mono ?_
        rintro e' w5 ⟨rfl, hb⟩
        have B5 := Lib.hid (below_then B4.out hb)
        clear hb
        go_wp2_with fail
        go_ret
        exact ⟨rfl, B5.out⟩
      · subst hc0
        have B4 := Lib.hid (below_then B3.out hb)
        have T4 := Lib.hid hT
        have HCK4 := Lib.hid (HCK.out w4 (HE.out.below B4.out) (HA.out.below B4.out))
        clear hb hT
        go_wp2_with fail
        refine HCK4.out.mono ?_
        rintro e' w5 ⟨rfl, hb⟩
        have B5 := Lib.hid (below_then B4.out hb)
        have T5 := Lib.hid (T4.out.below hb)
        clear hb
        have HEN := Lib.hid (entries_any l tb mb w5 T5.out (HE.out.below B5.out))
        unfold EntsOut at HEN
        go_wp2_with fail
        refine HEN.out.mono ?_
        rintro e' w6 ⟨va6, vc6, l6, rfl, hnew6, hl6, hb⟩
        have hat6 := hnew6.at
        rw [hl6] at hat6
        have B6 := Lib.hid (below_then B5.out hb)
        have hS := sameAll_any l l va6 va vc6 vc w6 (by omega) (by omega) hat6 (HA.out.below B6.out)
        simp only [decide_true] at hS
        have HS := Lib.hid hS
        clear hb hnew6 hl6 hat6 hS
        go_wp2_with fail
        refine HS.out.mono ?_
        rintro e' w7 ⟨rfl, hb⟩
        have B7 := Lib.hid (below_then B6.out hb)
        clear hb
        go_wp2_with fail
        go_ret
        exact ⟨rfl, B7.out⟩

end Go.Proofs.YtdcghpeomaailaaDoor
