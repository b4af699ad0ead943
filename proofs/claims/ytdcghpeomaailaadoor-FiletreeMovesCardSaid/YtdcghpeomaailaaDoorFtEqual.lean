/-
  The walks of maps.EqualFunc over entries, (*Tree).Equal.
-/
import Derived.Test.YtdcghpeomaailaaDoorFtClone
namespace Go.Proofs.YtdcghpeomaailaaDoor
open Go.RowKit Go.Lib Ft

theorem same_all {t u : List Ent} (ht : SortedT t) (hu : SortedT u) (hl : t.length = u.length) (h : ∀ e ∈ t, e ∈ u) : t = u := by
  refine sorted_ext ht hu fun x => ⟨h x, fun hx => ?_⟩
  by_cases hm : x ∈ t
  · exact hm
  · have h1 : (x :: t).Nodup := List.nodup_cons.2 ⟨hm, sorted_nodup ht⟩
    have := nodup_len h1 (m := u) (fun y hy => by
      rcases List.mem_cons.1 hy with rfl | hy
      · exact hx
      · exact h y hy)
    simp at this; omega

def EqRel (t u : List Ent) (mb r : Nat) (es : List (Value × Value)) (w : World) (gg : Nat) (wr : World) : Prop :=
  ∃ (done : List (Value × Value)), RangeAt Tryd.prog 9 wr mb r es done ∧ es.length - done.length ≤ gg ∧ (∀ e ∈ t, (∃ v, (S e.path, v) ∈ done) → e ∈ u) ∧ Below w.heap.size w wr

set_option maxHeartbeats 4000000 in
set_option maxRecDepth 100000 in
theorem equalFunc_any (t u : List Ent) (tb1 mb1 tb2 mb2 : Nat) (w : World) (hT : TreeMem w tb1 mb1 t) (hU : TreeMem w tb2 mb2 u) :
    Calls Tryd.prog 55 #[.map (some mb1), .map (some mb2), .func (.func 56) #[] #[]] w fun e' w' => e' = .returned (.bool (decide (t = u))) ∧ Below w.heap.size w w' := by
  have ln1 := hT.len 3
  have ln2 := hU.len 3
  by_cases hlen : t.length = u.length
  · have hq : ((t.length : Int) == (u.length : Int)) = true := by simp [hlen]
    have hqn : ((t.length : Int) != (u.length : Int)) = false := by simp [hlen]
    have HT := Lib.hid hT
    have HU := Lib.hid hU
    have HLEN := Lib.hid hlen
    obtain ⟨es, hm1, hm2, hm3⟩ := hT.map
    obtain ⟨w2, hrng, hra, hgr, hsz⟩ := hm1.range Tryd.underlying67
    have hb12 := grown_none hgr (Nat.le_refl _)
    have HRA := Lib.hid hra
    have HB2 := Lib.hid hb12
    have HM2 := Lib.hid hm2
    have HM3 := Lib.hid hm3
    have HS := Lib.hid fun a b va vb vc vd w ha hb => same_any a b va vb vc vd w ha hb
    have eg := enters_of Tryd.func56 (by kernel_rfl) rfl
    clear hT hU hm1 hm2 hm3 hra hgr hb12 hlen hsz
    go_enter Tryd.func55, Tryd.ntmps55
    go_wp2_with fail
    go_loopg [7, 8] es.length (fun gg _ _ wr => EqRel t u mb1 w.heap.size es w gg wr)
    case atStart => exact ⟨[], HRA.out, by simp, by simp, HB2.out⟩
    case round =>
      obtain ⟨done, hra, hgg, hin, hb⟩ := hrel
      rcases hra.next 0 with ⟨hall, hnx⟩ | ⟨⟨k0, v0⟩, hpe, hpn, w3, hnx, hra3, hg3, hsz3, hent⟩
      · have heq : t = u := same_all HT.out.sorted HU.out.sorted HLEN.out fun e he => by
          obtain ⟨v, hv⟩ := HM3.out e he
          exact hin e he ⟨v, hall _ hv⟩
        have HD := Lib.hid (show decide (t = u) = true by simp [heq])
        have HB := Lib.hid hb
        clear heq hall hra hin hb
        go_wp2_with fail
        go_ret
        exact ⟨by rw [HD.out]; rfl, HB.out⟩
      · obtain ⟨e, he, hk, ⟨va, vc, hv, hvc, hby⟩⟩ := HM2.out _ hpe
        simp only at hk hv
        subst hk hv
        have hdl : (done ++ [(S e.path, entV e va vc)]).length = done.length + 1 := by simp
        have hlen := nodup_len hra3.once hra3.come
        rw [hdl] at hlen
        have hpl := valid_path_len (HT.out.good e he)
        have hb3 : Below w.heap.size w w3 := hb.grown hg3 hb.size (fun k hk => by cases hk; exact Nat.le_refl _)
        have hbx := box_below3 w3 e va vc
        have HQ := Lib.hid (heap_alloc_new w3 (boxC e va vc))
        have HRA3 := Lib.hid hra3
        have HB3 := Lib.hid (below_then hb3 hbx)
        have HIN := Lib.hid hin
        have HBX := Lib.hid hbx
        have hz3 : (w3.alloc (boxC e va vc)).heap.size = w3.heap.size + 1 := by simp
        rcases HU.out.lookB e.path (by omega) with ⟨hf, hlk⟩ | ⟨y, vy, hf, hyp, ⟨vb, vd, rfl, hvd, hby2⟩, hlk⟩
        · have hlk2 := hlk _ HB3.out
          have HD := Lib.hid (show decide (t = u) = false by
            rw [decide_eq_false_iff_not]
            rintro rfl
            exact find_none hf e he rfl)
          have HB4 := Lib.hid (below_then HB3.out (box_below3 _ zeroE none 0))
          clear hra hra3 hg3 hin hb hb3 hbx hlk hf hpe hpn he hby
          go_wp2_with fail
          go_ret
          exact ⟨by rw [HD.out]; rfl, HB4.out⟩
        · have hlk2 := hlk _ HB3.out
          have hbY := box_below3 (w3.alloc (boxC e va vc)) y vb vd
          have HBY := Lib.hid hbY
          have HB4 := Lib.hid (below_then HB3.out hbY)
          have hq2 := (hbY.block w3.heap.size (by rw [hz3]; omega)).trans HQ.out
          have a0 := cell_of_block' hq2 0
          have a1 := cell_of_block' hq2 1
          have a2 := cell_of_block' hq2 2
          have a3 := cell_of_block' hq2 3
          have a4 := cell_of_block' hq2 4
          have a5 := cell_of_block' hq2 5
          simp at a0 a1 a2 a3 a4 a5
          have hC := HS.out e y va vb vc vd _ (hby.below HB4.out) (hby2.below HB4.out)
          have HY := Lib.hid (find_some hf).1
          have HYP := Lib.hid hyp
          have HEE := Lib.hid he
          by_cases hey : e = y
          · have hd : decide (e = y) = true := by simp [hey]
            rw [hd] at hC
            have HC := Lib.hid hC
            have HEY := Lib.hid hey
            clear hra hra3 hg3 hin hb hb3 hbx hlk hf hpe hpn he hby hbY hq2 hC hey hd hyp hby2
            go_wp2_with fail
            refine HC.out.mono ?_
            rintro e' w5 ⟨rfl, hb5⟩
            have HB5 := Lib.hid hb5
            clear hb5
            go_wp2_with fail
            go_roundg (es.length - (done.length + 1))
            case measure => omega
            case rel =>
              have hb5' : Below w3.heap.size w3 w5 := below_then HBX.out (below_then HBY.out HB5.out)
              refine ⟨done ++ [(S e.path, entV e va vc)], HRA3.out.below hb5', by rw [hdl]; exact Nat.le_refl _, fun x hx hv => ?_, below_then HB4.out HB5.out⟩
              obtain ⟨v, hv⟩ := hv
              rcases List.mem_append.1 hv with hv | hv
              · exact HIN.out x hx ⟨v, hv⟩
              · simp only [List.mem_singleton, Prod.mk.injEq] at hv
                have : x = e := HT.out.sorted.one hx HEE.out (S_inj hv.1)
                rw [this, HEY.out]; exact HY.out
          · have hd : decide (e = y) = false := by simp [hey]
            rw [hd] at hC
            have HC := Lib.hid hC
            have HD := Lib.hid (show decide (t = u) = false by
              rw [decide_eq_false_iff_not]
              rintro rfl
              exact hey (HT.out.sorted.one he (find_some hf).1 hyp.symm))
            clear hra hra3 hg3 hin hb hb3 hbx hlk hf hpe hpn he hby hbY hq2 hC hey hd hyp hby2
            go_wp2_with fail
            refine HC.out.mono ?_
            rintro e' w5 ⟨rfl, hb5⟩
            have HB5 := Lib.hid hb5
            clear hb5
            go_wp2_with fail
            go_ret
            exact ⟨by rw [HD.out]; rfl, below_then HB4.out HB5.out⟩
  · have hq : ((t.length : Int) == (u.length : Int)) = false := by simp; omega
    have hd : decide (t = u) = false := by
      rw [decide_eq_false_iff_not]; rintro rfl; exact hlen rfl
    rw [hd]
    clear hlen hd hT hU
    go_enter Tryd.func55, Tryd.ntmps55
    go_wp2_with fail
    go_ret
    exact ⟨rfl, Below.refl _ _⟩

set_option maxHeartbeats 1000000 in
set_option maxRecDepth 100000 in
/-- Equal. -/
theorem equal_any (t u : List Ent) (tb1 mb1 tb2 mb2 : Nat) (w : World) (hT : TreeMem w tb1 mb1 t) (hU : TreeMem w tb2 mb2 u) :
    Calls Tryd.prog 31 #[.pointer (some ⟨tb1, 0, none⟩), .pointer (some ⟨tb2, 0, none⟩)] w fun e' w' => e' = .returned (.bool (decide (t = u))) ∧ Below w.heap.size w w' := by
  have HC := Lib.hid (in_call (w0 := w) fun W hW => equalFunc_any t u tb1 mb1 tb2 mb2 W (hT.below hW) (hU.below hW))
  have f1 := in_cell hT.cell
  have f2 := in_cell hU.cell
  generalize decide (t = u) = d at *
  clear hT hU
  go_enter Tryd.func31, Tryd.ntmps31
  go_wp2_with fail
  refine wp_region_quiet_sub (S := Out w) (by kernel_rfl) (by kernel_rfl) ⟨(Below.refl _ _).drew⟩ ?_
  intro hne
  repeat (go_big_quiet_step ((go_at_call 55; exact HC.out _)))
  refine wpQuiet_nil ?_
  intro wq hw'
  obtain ⟨⟨wq0, hwq⟩, hw2⟩ := hw'
  simp only at hw2
  subst hw2
  clear hne
  have hbq := hwq.below
  clear hwq
  clear f1 f2
  go_wp2_with fail
  go_ret
  exact ⟨rfl, hbq⟩

end Go.Proofs.YtdcghpeomaailaaDoor
