/-
  The walk of pathname.items. PRINTED BY A PROGRAM OF THIS REPO (wip/tpl/gen_items.py).
-/
import Derived.Test.YtdnbmkfmckppaaaDoorItems
namespace Go.Proofs.YtdnbmkfmckppaaaDoor
open Go.RowKit Go.Lib

/-- The state at the head of the loop of items. -/
def ItemsRel (w : World) (b R cap : Nat) (rs : List Nat) (RES : Option (List Pn.Item)) (gg : Nat) (out : Value) (wr : World) : Prop :=
  ∃ (k : Nat) (bad : Bool) (va : Option Addr) (vc n : Nat) (ps : List (Pn.Item × Value)), out = .slice va n vc ∧ Scan wr b R cap rs k bad ∧ (bad = false → n = ps.length ∧ ItemsMem wr (b + 1) (.slice va ps.length vc) ps) ∧ Below w.heap.size w wr ∧
    ps.length ≤ k + (if bad then 1 else 0) ∧ (bad = true → RES = none) ∧ (bad = false → ∃ n, (rs.drop k).length < n ∧ Pn.itemsGo n (ps.map Prod.fst) (rs.drop k) = RES) ∧ 2 * (rs.length - k) + (if bad then 0 else 1) ≤ gg

theorem below_own {w wq w2 : World} {b : Nat} (h : Below w.heap.size w wq) (hg : wq.grownBy w2 (some b)) (hb : w.heap.size ≤ b) : Below w.heap.size w w2 :=
  ⟨hg.os.trans h.os, hg.tape.trans h.tape, hg.output.trans h.output, Nat.le_trans h.size hg.size, fun i hi => (hg.block i (Nat.lt_of_lt_of_le hi h.size) (fun e => by have := Option.some.inj e; omega)).trans (h.block i hi)⟩

theorem items_none {RES : Option (List Pn.Item)} {acc : List Pn.Item} {l : List Nat} (h : ∃ n, l.length < n ∧ Pn.itemsGo n acc l = RES) (hl : l ≠ []) (hi : Pn.itemP l = none) : RES = none := by
  obtain ⟨n, hn, rfl⟩ := h
  obtain ⟨m, rfl⟩ : ∃ m, n = m + 1 := ⟨n - 1, by omega⟩
  rw [Pn.itemsGo, if_neg hl, hi]
theorem items_some {RES : Option (List Pn.Item)} {acc : List Pn.Item} {l u : List Nat} {x : Pn.Item} (h : ∃ n, l.length < n ∧ Pn.itemsGo n acc l = RES) (hl : l ≠ []) (hi : Pn.itemP l = some (x, u)) : ∃ n, u.length < n ∧ Pn.itemsGo n (acc ++ [x]) u = RES := by
  obtain ⟨n, hn, rfl⟩ := h
  obtain ⟨m, rfl⟩ : ∃ m, n = m + 1 := ⟨n - 1, by omega⟩
  have := Pn.itemP_lt hi
  exact ⟨m, by omega, by rw [Pn.itemsGo, if_neg hl, hi]⟩
theorem items_done {RES : Option (List Pn.Item)} {acc : List Pn.Item} {l : List Nat} (h : ∃ n, l.length < n ∧ Pn.itemsGo n acc l = RES) (hl : l = []) : RES = some acc := by
  obtain ⟨n, hn, rfl⟩ := h
  obtain ⟨m, rfl⟩ : ∃ m, n = m + 1 := ⟨n - 1, by omega⟩
  rw [Pn.itemsGo, if_pos hl]

set_option maxHeartbeats 4000000 in
set_option maxRecDepth 100000 in
theorem items_any (s : ByteArray) (w : World) (hs : s.size < 4294967281) :
    Calls Tryd.prog 59 #[.string s] w (ItemsOk s w) := by
  obtain ⟨i0, hi, hz0, hz1, hz2⟩ := info_parts item_info
  obtain ⟨w1, cap, hrun, hb1, hz1', hr1, hsm⟩ := runes_of s w hs
  have hS0 : ∀ W, W = w1.alloc (.cells #[.slice (some ⟨w.heap.size, 0, none⟩) (Pn.runesP s.data.toList).length cap, .int .i64 ((0 : Nat) : Int), .bool false] 102) → Scan W (w.heap.size + 1) w.heap.size cap (Pn.runesP s.data.toList) 0 false ∧ Below w.heap.size w W := by
    rintro W rfl
    have hb2 : Below w1.heap.size w1 (w1.alloc (.cells #[.slice (some ⟨w.heap.size, 0, none⟩) (Pn.runesP s.data.toList).length cap, .int .i64 ((0 : Nat) : Int), .bool false] 102)) := (Below.refl _ _).alloc (Nat.le_refl _) _
    refine ⟨⟨?_, hr1.below hb2 (by omega), by simp; omega, by omega, Nat.zero_le _, hsm⟩, below_then hb1 hb2⟩
    rw [← hz1']; exact heap_alloc_new w1 _
  have HRUN := hrun
  have HS0 := Lib.hid hS0
  have HSM := Lib.hid hsm
  clear hS0 hr1 hb1 hrun hsm
  obtain ⟨rs, hrs⟩ : ∃ rs, Pn.runesP s.data.toList = rs := ⟨_, rfl⟩
  rw [hrs] at HRUN HS0 HSM
  have HRS := Lib.hid hrs
  clear hrs
  obtain ⟨RES, hRES⟩ : ∃ RES, Pn.itemsGo (rs.length + 1) [] rs = RES := ⟨_, rfl⟩
  have HRES0 := Lib.hid hRES
  clear hRES
  obtain ⟨b, hbq⟩ : ∃ b, w.heap.size + 1 = b := ⟨_, rfl⟩
  have hbR : w.heap.size < b := by omega
  rw [hbq] at HS0 hz1'
  have HZ := Lib.hid hz1'
  clear hbq hz1'
  go_enter Tryd.func59, Tryd.ntmps59
  go_wp2
  rw [HZ.out]
  go_loopg [5, 6] (2 * rs.length + 1) (fun gg out _ wr => ItemsRel w b w.heap.size cap rs RES gg out wr ∧ True)
  case atStart =>
    obtain ⟨hS, hB⟩ := HS0.out _ rfl
    exact ⟨⟨0, false, none, 0, 0, [], rfl, hS, fun _ => ⟨rfl, World.ownsRow_nil _ _ _ _, fun _ h => by (cases h)⟩, hB, Nat.zero_le _, fun h => by (cases h), fun _ => ⟨rs.length + 1, by simp, by simpa using HRES0.out⟩, by simp⟩, trivial⟩
  case round =>
    obtain ⟨⟨k, bad, va, vc, n, ps, rfl, hS, hm, hB, hps, hR1, hR0, hgg⟩, -⟩ := hrel
    have c0 := cell_of_block' hS.block 0
    have c1 := cell_of_block' hS.block 1
    have c2 := cell_of_block' hS.block 2
    simp at c0 c1 c2
    have HS := Lib.hid hS
    have HM := Lib.hid hm
    have HB := Lib.hid hB
    have HR1 := Lib.hid hR1
    have HR0 := Lib.hid hR0
    have hle := hS.le
    have hsm := hS.small
    clear hS hm hB hR1 hR0
    by_cases hk : k < rs.length
    · have hkz : (k : Int) < (rs.length : Int) := by omega
      have hkd : decide (k < rs.length) = true := decide_eq_true hk
      cases bad with
      | true =>
        go_wp2_with fail
        go_quiet (fail)
        go_wp2_with fail
        go_ret2
        refine items_end (RES := RES) (ps := []) (below_drewN HB.out _) (Nat.le_refl _) ⟨_, _, _, rfl⟩ (by rw [HRS.out, HRES0.out]) _ (.inl ⟨by simpa using HR1.out, rfl⟩)
      | false =>
        have HR0' := Lib.hid (show ∃ n, (rs.drop k).length < n ∧ Pn.itemsGo n (ps.map Prod.fst) (rs.drop k) = RES by simpa using HR0.out)
        have hps : ps.length ≤ k := by simpa using hps
        obtain ⟨rfl, hm⟩ : n = ps.length ∧ ItemsMem wr (b + 1) (.slice va ps.length vc) ps := by simpa using HM.out
        have HMM := Lib.hid hm
        clear hm HM
        have hgg : 2 * (rs.length - k) + 1 ≤ gk := by simpa using hgg
        have HNE := Lib.hid (show rs.drop k ≠ [] by intro e; have := congrArg List.length e; simp at this; omega)
        have HD := Lib.hid (getD_lt hk)
        go_wp2_with fail
        go_quiet (fail)
        obtain ⟨wq, hwq⟩ : ∃ wq, wq = wr.drewN nq := ⟨_, rfl⟩
        rw [← hwq]
        have HSq := Lib.hid (show Scan wq b w.heap.size cap rs k false by rw [hwq]; exact HS.out.grown (below_drewN (Below.refl _ _) nq))
        have HMq := Lib.hid (show ItemsMem wq (b + 1) (.slice va ps.length vc) ps by rw [hwq]; exact HMM.out.below (below_drewN (Below.refl _ _) nq))
        have HBq := Lib.hid (show Below w.heap.size w wq by rw [hwq]; exact below_drewN HB.out nq)
        clear hwq
        have hn := next_some b w.heap.size cap rs k false wq HSq.out hk
        unfold NextOk at hn
        generalize hx : rs.getD k 0 = x at hn
        rw [hx] at HD
        clear hx
        have hn := Lib.hid hn
        go_wp2_with fail
        refine hn.out.mono ?_
        rintro e w2 ⟨rfl, hS2, hg2⟩
        have HS2 := Lib.hid hS2
        have HM2 := Lib.hid (HMq.out.kept hg2 HSq.out.block (by decide) (by decide))
        have HB2 := Lib.hid (below_own HBq.out hg2 (by omega))
        clear hS2 hg2
        by_cases q42 : x = 42
        · subst q42
          have HI := Lib.hid (show Pn.itemP (rs.drop k) = some (⟨true, false, []⟩, rs.drop (k + 1)) by rw [HD.out]; rfl)
          have HSOME := Lib.hid (items_some HR0'.out HNE.out HI.out)

          obtain ⟨va', vc', w5, hrun, hm5, hS5, hB5⟩ := items_app HS2.out HM2.out HB2.out hbR (by omega) (Below.refl _ _) ⟨true, false, []⟩ (.slice none 0 0) rfl (World.ownsRow_nil _ _ _ _) (by have := HS2.out.small; omega)
          have HM5 := Lib.hid hm5
          have HS5 := Lib.hid hS5
          have HB5 := Lib.hid hB5
          have HRUN5 := Lib.hid hrun
          clear hrun hm5 hS5 hB5
          go_wp2_with (at_builtin; refine wpList_append_run rfl _ _ 81 rfl _ _ rfl rfl _ _ rfl HRUN5.out ?_)
          go_roundg (2 * (rs.length - (k + 1)) + (if false then 0 else 1))
          case measure => simp; omega
          case rel => exact ⟨⟨(k + 1), false, va', vc', ps.length + 1, ps ++ [(⟨true, false, []⟩, (.slice none 0 0))], by simp, HS5.out, fun _ => ⟨by simp, by simpa using HM5.out⟩, HB5.out, by simp; omega, fun h => by (cases h), fun _ => by simpa using HSOME.out, by simp⟩, trivial⟩
        · have z42 : ((x : Int) == 42) = false := by rw [beq_eq_false_iff_ne]; omega
          by_cases q63 : x = 63
          · subst q63
            have HI := Lib.hid (show Pn.itemP (rs.drop k) = some (⟨false, true, []⟩, rs.drop (k + 1)) by rw [HD.out]; rfl)
            have HSOME := Lib.hid (items_some HR0'.out HNE.out HI.out)

            obtain ⟨va', vc', w5, hrun, hm5, hS5, hB5⟩ := items_app HS2.out HM2.out HB2.out hbR (by omega) (Below.refl _ _) ⟨false, true, []⟩ (.slice none 0 0) rfl (World.ownsRow_nil _ _ _ _) (by have := HS2.out.small; omega)
            have HM5 := Lib.hid hm5
            have HS5 := Lib.hid hS5
            have HB5 := Lib.hid hB5
            have HRUN5 := Lib.hid hrun
            clear hrun hm5 hS5 hB5
            go_wp2_with (at_builtin; refine wpList_append_run rfl _ _ 81 rfl _ _ rfl rfl _ _ rfl HRUN5.out ?_)
            go_roundg (2 * (rs.length - (k + 1)) + (if false then 0 else 1))
            case measure => simp; omega
            case rel => exact ⟨⟨(k + 1), false, va', vc', ps.length + 1, ps ++ [(⟨false, true, []⟩, (.slice none 0 0))], by simp, HS5.out, fun _ => ⟨by simp, by simpa using HM5.out⟩, HB5.out, by simp; omega, fun h => by (cases h), fun _ => by simpa using HSOME.out, by simp⟩, trivial⟩
          · have z63 : ((x : Int) == 63) = false := by rw [beq_eq_false_iff_ne]; omega
            by_cases q91 : x = 91
            · subst q91
              have HI := Lib.hid (show Pn.itemP (rs.drop k) = Pn.classTop (rs.drop (k + 1)) by rw [HD.out]; rfl)
              go_wp2_with fail
              refine (class_any b w.heap.size cap rs (k + 1) w2 HS2.out).mono ?_
              rintro e w3 ⟨k3, sv, ng, rfl, ⟨sa, sn, sc, rfl⟩, hS3, hg3, hk3, hcl⟩
              have HM3 := Lib.hid (HM2.out.kept hg3 HS2.out.block (by decide) (by decide))
              have HB3 := Lib.hid (below_own HB2.out hg3 (by omega))
              have HS3 := Lib.hid hS3
              have hlb2 := lt_of_block HS2.out.block
              have hle3 := hS3.le
              clear hS3 hg3
              rcases hq : Pn.classTop (rs.drop (k + 1)) with _ | ⟨it, u⟩
              · rw [hq] at HS3 HI
                have HRES := Lib.hid (items_none HR0'.out HNE.out HI.out)
                clear hcl hq
                simp only [Option.isNone_none] at HS3
                have hnil := World.ownsRow_nil w3 (b + 1) 109 2
                obtain ⟨va', vc', w5, hrun, hown5, hgrow5, hS5, hB5⟩ := items_app0 HS3.out HM3.out HB3.out hbR (by omega) (Below.refl _ _) false ng (.slice sa sn sc) rfl (by have := HS2.out.small; omega)
                have HS5 := Lib.hid hS5
                have HB5 := Lib.hid hB5
                have HRUN5 := Lib.hid hrun
                clear hrun hown5 hgrow5 hS5 hB5 hnil
                go_wp2_with (at_builtin; refine wpList_append_run rfl _ _ 81 rfl _ _ rfl rfl _ _ rfl HRUN5.out ?_)
                go_roundg (2 * (rs.length - k3) + 0)
                case measure => omega
                case rel => exact ⟨⟨k3, true, va', vc', ps.length + 1, ps, by simp, HS5.out, fun h => by (cases h), HB5.out, by simp; omega, fun _ => HRES.out, fun h => by (cases h), by simp⟩, trivial⟩
              · obtain ⟨h1, h2, h3, h4⟩ := hcl it u hq
                have hlt3 := Pn.classTop_lt hq
                rw [hq] at HS3 HI
                clear hcl hq
                obtain ⟨st, ng', sps⟩ := it
                simp only at h1 h2
                subst h1 h2 h3
                have HOW := Lib.hid (own_mono h4 (show b + 1 ≤ w2.heap.size by omega))
                clear h4
                have hk4 : k + 1 < k3 ∨ k + 1 = k3 := by omega
                simp at hlt3
                have HSOME := Lib.hid (items_some HR0'.out HNE.out HI.out)

                obtain ⟨va', vc', w5, hrun, hm5, hS5, hB5⟩ := items_app HS3.out HM3.out HB3.out hbR (by omega) (Below.refl _ _) ⟨false, ng', sps⟩ (.slice sa sn sc) rfl HOW.out (by have := HS2.out.small; omega)
                have HM5 := Lib.hid hm5
                have HS5 := Lib.hid hS5
                have HB5 := Lib.hid hB5
                have HRUN5 := Lib.hid hrun
                clear hrun hm5 hS5 hB5
                go_wp2_with (at_builtin; refine wpList_append_run rfl _ _ 81 rfl _ _ rfl rfl _ _ rfl HRUN5.out ?_)
                go_roundg (2 * (rs.length - k3) + (if false then 0 else 1))
                case measure => simp; omega
                case rel => exact ⟨⟨k3, false, va', vc', ps.length + 1, ps ++ [(⟨false, ng', sps⟩, (.slice sa sn sc))], by simp, HS5.out, fun _ => ⟨by simp, by simpa using HM5.out⟩, HB5.out, by simp; omega, fun h => by (cases h), fun _ => by simpa using HSOME.out, by simp⟩, trivial⟩
            · have z91 : ((x : Int) == 91) = false := by rw [beq_eq_false_iff_ne]; omega
              by_cases q92 : x = 92
              · subst q92
                by_cases hk2 : k + 1 < rs.length
                · have hn2 := next_some b w.heap.size cap rs (k + 1) false w2 HS2.out hk2
                  unfold NextOk at hn2
                  have HD2 := Lib.hid (getD_lt hk2)
                  generalize hx2 : rs.getD (k + 1) 0 = x at hn2
                  rw [hx2] at HD2
                  clear hx2
                  have HI := Lib.hid (show Pn.itemP (rs.drop k) = some (⟨false, false, [(x, x)]⟩, rs.drop (k + 1 + 1)) by rw [HD.out, HD2.out]; rfl)
                  have hn2 := Lib.hid hn2
                  go_wp2_with fail
                  refine hn2.out.mono ?_
                  rintro e w3 ⟨rfl, hS3, hg3⟩
                  have HM3 := Lib.hid (HM2.out.kept hg3 HS2.out.block (by decide) (by decide))
                  have HB3 := Lib.hid (below_own HB2.out hg3 (by omega))
                  have HS3 := Lib.hid hS3
                  clear hS3 hg3
                  have HSOME := Lib.hid (items_some HR0'.out HNE.out HI.out)

                  obtain ⟨va', vc', w5, hrun, hm5, hS5, hB5⟩ := items_app HS3.out HM3.out HB3.out hbR (by omega) ((Below.refl _ w3).alloc (Nat.le_refl _) _) ⟨false, false, [(x, x)]⟩ (.slice (some ⟨w3.heap.size, 0, none⟩) 1 1) rfl (span_new w3 (b + 1) x (by have := lt_of_block HS2.out.block; have := lt_of_block HS3.out.block; omega)) (by have := HS2.out.small; omega)
                  have HM5 := Lib.hid hm5
                  have HS5 := Lib.hid hS5
                  have HB5 := Lib.hid hB5
                  rw [World.size_alloc] at hrun
                  have HRUN5 := Lib.hid hrun
                  clear hrun hm5 hS5 hB5
                  go_wp2_with (at_builtin; refine wpList_append_run rfl _ _ 81 rfl _ _ rfl rfl _ _ rfl HRUN5.out ?_)
                  go_roundg (2 * (rs.length - (k + 1 + 1)) + (if false then 0 else 1))
                  case measure => simp; omega
                  case rel => exact ⟨⟨(k + 1 + 1), false, va', vc', ps.length + 1, ps ++ [(⟨false, false, [(x, x)]⟩, (.slice (some ⟨w3.heap.size, 0, none⟩) 1 1))], by simp, HS5.out, fun _ => ⟨by simp, by simpa using HM5.out⟩, HB5.out, by simp; omega, fun h => by (cases h), fun _ => by simpa using HSOME.out, by simp⟩, trivial⟩
                · have hke : rs.length = k + 1 := by omega
                  have HI := Lib.hid (show Pn.itemP (rs.drop k) = none by rw [HD.out, List.drop_eq_nil_of_le (by omega)]; rfl)
                  have HRES := Lib.hid (items_none HR0'.out HNE.out HI.out)
                  have hn2 := Lib.hid fun h => next_none b w.heap.size cap rs false w2 h
                  have HS2' := Lib.hid (show Scan w2 b w.heap.size cap rs rs.length false by rw [hke]; exact HS2.out)
                  clear hke
                  go_wp2_with fail
                  refine (hn2.out HS2'.out).mono ?_
                  rintro e w3 ⟨rfl, hS3, hg3⟩
                  have HM3 := Lib.hid (HM2.out.kept hg3 HS2.out.block (by decide) (by decide))
                  have HB3 := Lib.hid (below_own HB2.out hg3 (by omega))
                  have HS3 := Lib.hid hS3
                  clear hS3 hg3
                  have hnil := World.ownsRow_nil w3 (b + 1) 109 2
                  obtain ⟨va', vc', w5, hrun, hown5, hgrow5, hS5, hB5⟩ := items_app0 HS3.out HM3.out HB3.out hbR (by omega) ((Below.refl _ w3).alloc (Nat.le_refl _) (.cells #[.int .i32 0, .int .i32 0] 109)) false false (.slice (some ⟨w3.heap.size, 0, none⟩) 1 1) rfl (by have := HS2.out.small; omega)
                  have HS5 := Lib.hid hS5
                  have HB5 := Lib.hid hB5
                  rw [World.size_alloc] at hrun
                  have HRUN5 := Lib.hid hrun
                  clear hrun hown5 hgrow5 hS5 hB5 hnil
                  go_wp2_with (at_builtin; refine wpList_append_run rfl _ _ 81 rfl _ _ rfl rfl _ _ rfl HRUN5.out ?_)
                  go_roundg (2 * (rs.length - rs.length) + 0)
                  case measure => omega
                  case rel => exact ⟨⟨rs.length, true, va', vc', ps.length + 1, ps, by simp, HS5.out, fun h => by (cases h), HB5.out, by simp; omega, fun _ => HRES.out, fun h => by (cases h), by simp⟩, trivial⟩
              · have z92 : ((x : Int) == 92) = false := by rw [beq_eq_false_iff_ne]; omega
                have HI := Lib.hid (show Pn.itemP (rs.drop k) = some (⟨false, false, [(x, x)]⟩, rs.drop (k + 1)) by rw [HD.out]; unfold Pn.itemP; dsimp only; rw [if_neg q42, if_neg q63, if_neg q91, if_neg q92])
                have HSOME := Lib.hid (items_some HR0'.out HNE.out HI.out)

                obtain ⟨va', vc', w5, hrun, hm5, hS5, hB5⟩ := items_app HS2.out HM2.out HB2.out hbR (by omega) ((Below.refl _ w2).alloc (Nat.le_refl _) _) ⟨false, false, [(x, x)]⟩ (.slice (some ⟨w2.heap.size, 0, none⟩) 1 1) rfl (span_new w2 (b + 1) x (by have := lt_of_block HS2.out.block; omega)) (by have := HS2.out.small; omega)
                have HM5 := Lib.hid hm5
                have HS5 := Lib.hid hS5
                have HB5 := Lib.hid hB5
                rw [World.size_alloc] at hrun
                have HRUN5 := Lib.hid hrun
                clear hrun hm5 hS5 hB5
                go_wp2_with (at_builtin; refine wpList_append_run rfl _ _ 81 rfl _ _ rfl rfl _ _ rfl HRUN5.out ?_)
                go_roundg (2 * (rs.length - (k + 1)) + (if false then 0 else 1))
                case measure => simp; omega
                case rel => exact ⟨⟨(k + 1), false, va', vc', ps.length + 1, ps ++ [(⟨false, false, [(x, x)]⟩, (.slice (some ⟨w2.heap.size, 0, none⟩) 1 1))], by simp, HS5.out, fun _ => ⟨by simp, by simpa using HM5.out⟩, HB5.out, by simp; omega, fun h => by (cases h), fun _ => by simpa using HSOME.out, by simp⟩, trivial⟩
    · have hkz : ¬ (k : Int) < (rs.length : Int) := by omega
      have hkd : decide (k < rs.length) = false := decide_eq_false hk
      have hke : k = rs.length := by omega
      subst hke
      cases bad with
      | true =>
        go_wp2_with fail
        go_quiet (fail)
        go_wp2_with fail
        go_ret2
        refine items_end (RES := RES) (ps := []) (below_drewN HB.out _) (Nat.le_refl _) ⟨_, _, _, rfl⟩ (by rw [HRS.out, HRES0.out]) _ (.inl ⟨by simpa using HR1.out, rfl⟩)
      | false =>
        obtain ⟨rfl, hm⟩ : n = ps.length ∧ ItemsMem wr (b + 1) (.slice va ps.length vc) ps := by simpa using HM.out
        have HMM := Lib.hid hm
        clear hm HM
        have HR0' := Lib.hid (show ∃ n, (rs.drop rs.length).length < n ∧ Pn.itemsGo n (ps.map Prod.fst) (rs.drop rs.length) = RES by simpa using HR0.out)
        go_wp2_with fail
        go_quiet (fail)
        go_wp2_with fail
        go_ret2
        refine items_end (RES := RES) (ps := ps) (base := b + 1) (below_drewN HB.out _) (by omega) ⟨_, _, _, rfl⟩ (by rw [HRS.out, HRES0.out]) _ (.inr ⟨HMM.out.below (below_drewN (Below.refl _ _) _), items_done HR0'.out (by simp), by simp⟩)

end Go.Proofs.YtdnbmkfmckppaaaDoor
