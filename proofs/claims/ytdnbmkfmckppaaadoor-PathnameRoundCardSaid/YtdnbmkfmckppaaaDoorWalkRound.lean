/-
  The walk of kinkeeplaw18.PathnameRound: it answers true.
-/
import Derived.Test.YtdnbmkfmckppaaaDoorAwake
import Derived.Test.YtdnbmkfmckppaaaDoorPrint
import Derived.Test.YtdnbmkfmckppaaaDoorLawRound
import Derived.BigQuiet
namespace Go.Proofs.YtdnbmkfmckppaaaDoor
open Go.RowKit Go.Lib

theorem parse_err_nil {s : Pn.B} (h : (Pn.parseP s).2.2 ≠ 0) : (Pn.parseP s).1 = [] := by
  unfold Pn.parseP at *
  split
  · rfl
  · rename_i hs
    rw [if_neg hs] at h
    cases hg : Pn.parseGo [] 0 (Pn.splitS 10 s) with
    | inr x => rfl
    | inl l =>
      rw [hg] at h
      exact absurd rfl h

set_option maxHeartbeats 4000000 in
set_option maxRecDepth 100000 in
theorem round_any (s : ByteArray) (w : World) (hE : Env w) : Calls Tryd.prog 9 #[.string s] w fun e w' => e = .returned (.bool true) ∧ Below w.heap.size w w' := by
  have HA := Lib.hid (awake_any w hE)
  have HE := Lib.hid hE
  have B0 := Lib.hid (Below.refl w.heap.size w)
  clear hE
  by_cases hsz : s.size ≤ 3000
  · have haz : ¬ (3000 : Int) < (s.size : Int) := by omega
    have P1 := Lib.hid fun w h => parse_any s w (by omega) h
    unfold ParseOk at P1
    by_cases hpe : (Pn.parseP s.data.toList).2.2 = 0
    · obtain ⟨hg, hn0, hpl⟩ := parse_good hpe
      have hsl : s.data.toList.length ≤ 3000 := by rw [← size_eq]; exact hsz
      obtain ⟨p, hpr, hplen, hpp⟩ := round_trip hpe hsl
      rw [hpe, hn0] at P1
      have P2 := Lib.hid fun w h => parse_any ⟨p.toArray⟩ w (show p.length < _ by omega) h
      unfold ParseOk at P2
      rw [show (⟨p.toArray⟩ : ByteArray).data.toList = p from rfl, hpp] at P2
      unfold Pn.goodRules at hg
      simp only [Bool.and_eq_true, decide_eq_true_eq] at hg
      obtain ⟨h256, hv⟩ := hg
      generalize (Pn.parseP s.data.toList).1 = l at *
      have hpq : printed l = p := by
        unfold Pn.printP at hpr
        rw [hv, if_neg (by simp), if_neg (by omega)] at hpr
        exact (Prod.mk.inj hpr).1
      have PR := Lib.hid fun va vc w h hr => print_any l va vc w hv h256 (fun x hx => by have := hpl x hx; omega) h hr
      rw [hpq] at PR
      have hnn : ((l.length : Int) == (l.length : Int)) = true := by simp
      clear hpe hn0 hpl hsl hpr hplen hpp hv hpq
      go_enter Tryd.func9, Tryd.ntmps9
      go_wp2_with fail
      refine (HA.out).mono ?_
      rintro e w1 ⟨rfl, hb⟩
      have B1 := Lib.hid (below_then B0.out hb)
      clear hb
      go_wp2_with fail
      refine (P1.out _ (HE.out.below B1.out)).mono ?_
      rintro e w2 ⟨hb, va, vc, rfl, hm⟩
      have B2 := Lib.hid (below_then B1.out hb)
      have R2 := Lib.hid (rulesAt_of hm)
      clear hb hm
      go_wp2_with fail
      refine (PR.out _ _ _ (HE.out.below B2.out) R2.out).mono ?_
      rintro e w3 ⟨rfl, hb⟩
      have B3 := Lib.hid (below_then B2.out hb)
      have R3 := Lib.hid (R2.out.below hb)
      clear hb R2
      go_wp2_with fail
      refine (P2.out _ (HE.out.below B3.out)).mono ?_
      rintro e w4 ⟨hb, vb, vd, rfl, hm⟩
      have B4 := Lib.hid (below_then B3.out hb)
      have R4 := Lib.hid (R3.out.below hb)
      have Q4 := Lib.hid (rulesAt_of hm)
      clear hb R3 hm
      go_wp2_with fail
      go_loopg [11] l.length (fun gg iv wr => ∃ i : Nat, iv = .int .i64 i ∧ i ≤ l.length ∧ l.length - i ≤ gg ∧ ∃ n, wr = w4.drewN n)
      case atStart => exact ⟨0, rfl, Nat.zero_le _, by omega, 0, rfl⟩
      case round =>
        obtain ⟨i, rfl, hi, hgg, n, rfl⟩ := hrel
        by_cases hl : i < l.length
        · have hlz : (i : Int) < (l.length : Int) := by omega
          obtain ⟨g0, rfl, hg0, r0, r1, r2, r3⟩ := R4.out.get hl
          obtain ⟨g1, rfl, hg1, q0, q1, q2, q3⟩ := Q4.out.get hl
          obtain ⟨x, hx⟩ : ∃ x, l[i] = x := ⟨_, rfl⟩
          rw [hx] at r0 r1 r2 r3 q0 q1 q2 q3
          clear hx
          go_wp2_with fail
          go_quiet (fail)
          go_wp2_with fail
          go_roundg (l.length - (i + 1))
          case measure => omega
          case rel => exact ⟨i + 1, by go_num, by omega, Nat.le_refl _, by first | exact ⟨_, rfl⟩ | exact ⟨_, World.drewN_drewN _ _ _⟩⟩
        · have hlz : ¬ (i : Int) < (l.length : Int) := by omega
          go_wp2_with fail
          go_ret
          exact ⟨rfl, below_drewN B4.out n⟩
    · have hnil := parse_err_nil hpe
      have hez : ((Pn.parseP s.data.toList).2.2 == 0) = false := by rw [beq_eq_false_iff_ne]; exact hpe
      generalize Pn.parseP s.data.toList = r at *
      obtain ⟨l, n, ec⟩ := r
      simp only at hnil hez P1
      subst hnil
      clear hpe
      go_enter Tryd.func9, Tryd.ntmps9
      go_wp2_with fail
      refine (HA.out).mono ?_
      rintro e w1 ⟨rfl, hb⟩
      have B1 := Lib.hid (below_then B0.out hb)
      clear hb
      go_wp2_with fail
      refine (P1.out _ (HE.out.below B1.out)).mono ?_
      rintro e w2 ⟨hb, va, vc, rfl, _⟩
      have B2 := Lib.hid (below_then B1.out hb)
      clear hb
      go_wp2_with fail
      go_ret
      exact ⟨rfl, B2.out⟩
  · have haz : (3000 : Int) < (s.size : Int) := by omega
    go_enter Tryd.func9, Tryd.ntmps9
    go_wp2_with fail
    refine (HA.out).mono ?_
    rintro e w1 ⟨rfl, hb⟩
    have B1 := Lib.hid (below_then B0.out hb)
    clear hb
    go_wp2_with fail
    go_ret
    exact ⟨rfl, B1.out⟩

end Go.Proofs.YtdnbmkfmckppaaaDoor
