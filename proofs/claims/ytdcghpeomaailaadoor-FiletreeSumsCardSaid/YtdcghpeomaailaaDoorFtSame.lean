/-
  The walks of filetree.same, kinkeepref20.Same, kinkeepref20.SameAll.
-/
import Derived.Test.YtdcghpeomaailaaDoorFtEnts
import Derived.Test.YtdcghpeomaailaaDoorFtOwn
import Derived.Test.YtdcghpeomaailaaDoorFtFuncs2
import Derived.Test.YtdcghpeomaailaaDoorQuieter
namespace Go.Proofs.YtdcghpeomaailaaDoor
open Go.RowKit Go.Lib Ft

/-- 'string(b)'. -/
theorem string_of {w : World} {va : Option Addr} {l : Pn.B} (vc : Nat) (h : BytesAt w va l) : (convert 23 9 (.slice va l.length vc)).run Tryd.prog w = .ok (S l) w := by
  cases va with
  | none =>
    have h0 : l = [] := by
      rcases h with h | ⟨g, off, h, _⟩
      · exact h
      · cases h
    subst h0
    rw [run_convert_bytes_string w _ _ 5 none _ vc Tryd.underlying23 Tryd.underlying5 Tryd.underlying9]
    rfl
  | some a =>
    refine run_convert_bytes_back w _ _ 5 a vc l Tryd.underlying23 Tryd.underlying5 Tryd.underlying9 (fun j hj => ?_)
    rcases h with h0 | ⟨g, off, h1, _, h3⟩
    · subst h0; simp at hj
    · cases h1
      have ha : (⟨g, off, none⟩ : Addr).add j = ⟨g, off + j, none⟩ := by unfold Addr.add; split <;> simp_all
      rw [ha, h3 j (by simpa [bytesOf] using hj)]
      simp [bytesOf]

theorem same_code (a b : Ent) : decide (a = b) = ((((((a.path == b.path) && (a.kind == b.kind)) && (a.mode == b.mode)) && (a.time == b.time)) && (a.link == b.link)) && (a.data == b.data)) := by
  obtain ⟨p, k, m, t, d, l⟩ := a
  obtain ⟨p', k', m', t', d', l'⟩ := b
  rw [Bool.eq_iff_iff]
  simp [and_assoc]
  intros
  exact and_comm

set_option maxHeartbeats 1000000 in
set_option maxRecDepth 100000 in
theorem sameR_any (a b : Ent) (va vb : Option Addr) (vc vd : Nat) (w : World) (ha : BytesAt w va a.data) (hb : BytesAt w vb b.data) :
    Calls Tryd.prog 17 #[entV a va vc, entV b vb vd] w fun e' w' => e' = .returned (.bool (decide (a = b))) ∧ Below w.heap.size w w' := by
  have hB : Below w.heap.size w ((w.alloc (.cells #[S a.path, .int .i64 a.kind, .int .i64 a.mode, .int .i64 a.time, .slice va a.data.length vc, S a.link] 25)).alloc (.cells #[S b.path, .int .i64 b.kind, .int .i64 b.mode, .int .i64 b.time, .slice vb b.data.length vd, S b.link] 25)) :=
    ((Below.refl _ _).alloc (Nat.le_refl _) _).alloc (by simp) _
  have h1 := string_of vc (ha.below hB)
  have h2 := string_of vd (hb.below hB)
  have HB := Lib.hid hB
  rw [same_code]
  obtain ⟨p, k, m, t, d, l⟩ := a
  obtain ⟨p', k', m', t', d', l'⟩ := b
  simp only at *
  clear ha hb hB
  by_cases h : p = p'
  rotate_left
  · have hq : (p == p') = false := beq_eq_false_iff_ne.2 h
    clear h
    go_enter Tryd.func17, Tryd.ntmps17
    go_wp2_with fail
    go_ret
    exact ⟨retb (by simp [hq]), HB.out⟩
  subst h
  by_cases h : k = k'
  rotate_left
  · have hq : (k == k') = false := beq_eq_false_iff_ne.2 h
    clear h
    go_enter Tryd.func17, Tryd.ntmps17
    go_wp2_with fail
    go_ret
    exact ⟨retb (by simp [hq]), HB.out⟩
  subst h
  by_cases h : m = m'
  rotate_left
  · have hq : (m == m') = false := beq_eq_false_iff_ne.2 h
    clear h
    go_enter Tryd.func17, Tryd.ntmps17
    go_wp2_with fail
    go_ret
    exact ⟨retb (by simp [hq]), HB.out⟩
  subst h
  by_cases h : t = t'
  rotate_left
  · have hq : (t == t') = false := beq_eq_false_iff_ne.2 h
    clear h
    go_enter Tryd.func17, Tryd.ntmps17
    go_wp2_with fail
    go_ret
    exact ⟨retb (by simp [hq]), HB.out⟩
  subst h
  by_cases h : l = l'
  rotate_left
  · have hq : (l == l') = false := beq_eq_false_iff_ne.2 h
    clear h
    go_enter Tryd.func17, Tryd.ntmps17
    go_wp2_with fail
    go_ret
    exact ⟨retb (by simp [hq]), HB.out⟩
  subst h
  by_cases h : d = d'
  rotate_left
  · have hq : (d == d') = false := beq_eq_false_iff_ne.2 h
    clear h
    go_enter Tryd.func17, Tryd.ntmps17
    go_wp2_with fail
    go_ret
    exact ⟨retb (by simp [hq]), HB.out⟩
  subst h
  go_enter Tryd.func17, Tryd.ntmps17
  go_wp2_with fail
  go_ret
  exact ⟨retb (by simp), HB.out⟩

set_option maxHeartbeats 1000000 in
set_option maxRecDepth 100000 in
/-- SameAll. -/
theorem sameAll_any (l m : List Ent) (va vb : Option Addr) (vc vd : Nat) (w : World) (hl : l.length ≤ 4294967281) (hm : m.length ≤ 4294967281) (ha : EntsAt w va l) (hb : EntsAt w vb m) :
    Calls Tryd.prog 21 #[.slice va l.length vc, .slice vb m.length vd] w fun e' w' => e' = .returned (.bool (decide (l = m))) ∧ Below w.heap.size w w' := by
  by_cases hlen : l.length = m.length
  · have hq : ((l.length : Int) == (m.length : Int)) = true := by simp [hlen]
    have HA := Lib.hid ha
    have HB := Lib.hid hb
    have HL := Lib.hid hlen
    have HS := Lib.hid fun a b va vb vc vd w ha hb => sameR_any a b va vb vc vd w ha hb
    clear ha hb hlen
    go_enter Tryd.func21, Tryd.ntmps21
    go_wp2_with fail
    go_loopg [13] l.length (fun gg v wr => ∃ i : Nat, v = .int .i64 i ∧ i ≤ l.length ∧ l.length - i ≤ gg ∧ Hid (∀ j (h : j < l.length), j < i → m[j]? = some l[j]) ∧ Below w.heap.size w wr)
    case atStart => exact ⟨0, rfl, Nat.zero_le _, by omega, fun _ _ h => absurd h (Nat.not_lt_zero _), Below.refl _ _⟩
    case round =>
      obtain ⟨i, rfl, hi, hgg, hno, hbw⟩ := hrel
      by_cases hlt : i < l.length
      · have hz : (i : Int) < (l.length : Int) := by omega
        have hlm : i < m.length := by rw [← HL.out]; exact hlt
        have hzm : (i : Int) < (m.length : Int) := by omega
        obtain ⟨g, off, da, dc, rfl, hg, r0, r1, r2, r3, r4, r5, hdc, hby⟩ := (HA.out.below hbw).get hlt
        obtain ⟨g', off', da', dc', rfl, hg', s0, s1, s2, s3, s4, s5, hdc', hby'⟩ := (HB.out.below hbw).get hlm
        obtain ⟨x, hx⟩ : ∃ x, l[i] = x := ⟨_, rfl⟩
        obtain ⟨y, hy⟩ : ∃ y, m[i] = y := ⟨_, rfl⟩
        rw [hx] at r0 r1 r2 r3 r4 r5 hby
        rw [hy] at s0 s1 s2 s3 s4 s5 hby'
        have HX := Lib.hid hx
        have HY := Lib.hid hy
        have HC := Lib.hid (in_call (w0 := wr) fun W hW => HS.out x y da da' dc dc' W (hby.below hW) (hby'.below hW))
        have HBW := Lib.hid hbw
        have f0 := in_cell r0
        have f1 := in_cell r1
        have f2 := in_cell r2
        have f3 := in_cell r3
        have f4 := in_cell r4
        have f5 := in_cell r5
        have g0 := in_cell s0
        have g1 := in_cell s1
        have g2 := in_cell s2
        have g3 := in_cell s3
        have g4 := in_cell s4
        have g5 := in_cell s5
        clear hx hy hby hby' hbw r0 r1 r2 r3 r4 r5 s0 s1 s2 s3 s4 s5
        by_cases hxy : x = y
        · have hd : decide (x = y) = true := by simp [hxy]
          rw [hd] at HC
          have HXY := Lib.hid hxy
          clear hd hxy
          go_wp2_with fail
          refine wp_region_quiet_sub (S := Out wr) (by kernel_rfl) (by kernel_rfl) ⟨(Below.refl _ _).drew⟩ ?_
          intro hne
          repeat (go_big_quiet_step ((go_at_call 17; exact HC.out _)))
          refine wpQuiet_nil ?_
          intro wq hw'
          obtain ⟨⟨wq0, hwq⟩, hw2⟩ := hw'
          simp only at hw2
          subst hw2
          clear hne
          have hbq := hwq.below
          clear hwq
          clear f0 f1 f2 f3 f4 f5 g0 g1 g2 g3 g4 g5
          have HB1 := Lib.hid (below_then HBW.out hbq)
          clear hbq
          go_wp2_with fail
          go_roundg (l.length - (i + 1))
          case measure => omega
          case rel =>
            refine ⟨i + 1, by go_num, by omega, by omega, fun j hj hji => ?_, HB1.out⟩
            by_cases e : j = i
            · subst e; rw [List.getElem?_eq_getElem hlm, HX.out, HXY.out, HY.out]
            · exact hno.out j hj (by omega)
        · have hd : decide (x = y) = false := by simp [hxy]
          rw [hd] at HC
          have HF := Lib.hid (show decide (l = m) = false by
            rw [decide_eq_false_iff_not]
            rintro rfl
            exact hxy (HX.out.symm.trans HY.out))
          clear hd hxy
          go_wp2_with fail
          refine wp_region_quiet_sub (S := Out wr) (by kernel_rfl) (by kernel_rfl) ⟨(Below.refl _ _).drew⟩ ?_
          intro hne
          repeat (go_big_quiet_step ((go_at_call 17; exact HC.out _)))
          refine wpQuiet_nil ?_
          intro wq hw'
          obtain ⟨⟨wq0, hwq⟩, hw2⟩ := hw'
          simp only at hw2
          subst hw2
          clear hne
          have hbq := hwq.below
          clear hwq
          clear f0 f1 f2 f3 f4 f5 g0 g1 g2 g3 g4 g5
          have HB1 := Lib.hid (below_then HBW.out hbq)
          clear hbq
          go_wp2_with fail
          go_ret
          exact ⟨by rw [HF.out]; rfl, HB1.out⟩
      · have hz : ¬ (i : Int) < (l.length : Int) := by omega
        have HT := Lib.hid (show decide (l = m) = true by
          rw [decide_eq_true_iff]
          apply List.ext_getElem HL.out
          intro j h1 h2
          have := hno.out j h1 (by omega)
          rw [List.getElem?_eq_getElem h2] at this
          exact (Option.some.inj this).symm)
        go_wp2_with fail
        go_ret
        exact ⟨by rw [HT.out]; rfl, hbw⟩
  · have hq : ((l.length : Int) == (m.length : Int)) = false := by simp; omega
    have hd : decide (l = m) = false := by
      rw [decide_eq_false_iff_not]; rintro rfl; exact hlen rfl
    rw [hd]
    clear ha hb hlen hd
    go_enter Tryd.func21, Tryd.ntmps21
    go_wp2_with fail
    go_ret
    exact ⟨rfl, Below.refl _ _⟩

end Go.Proofs.YtdcghpeomaailaaDoor
