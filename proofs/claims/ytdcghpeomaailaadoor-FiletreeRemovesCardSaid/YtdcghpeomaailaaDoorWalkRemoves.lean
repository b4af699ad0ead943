/-
  The walk of kinkeeplaw20.FiletreeRemoves: it answers true.
-/
import Derived.Test.YtdcghpeomaailaaDoorFtLawP
namespace Go.Proofs.YtdcghpeomaailaaDoor
open Go.RowKit Go.Lib Ft

/-- What the loop over the entries has collected. -/
def RemRel (t : List Ent) (path : Pn.B) (w5 : World) (v8 v9 v30 : Value) (gg : Nat) (wr : World) : Prop :=
  ∃ (i : Nat) (va : Option Addr) (vc : Nat) (l : List EC), v30 = .int .i64 i ∧ i ≤ t.length ∧ t.length - i ≤ gg ∧ v8 = .slice va l.length vc ∧ v9 = .int .i64 ((t.take i).filter fun e => Pn.withinP path e.path).length ∧
    EntsMem wr w5.heap.size (.slice va l.length vc) l ∧ l.map Prod.fst = (t.take i).filter (fun e => !Pn.withinP path e.path) ∧ (∀ p ∈ l, p.1.data.length ≤ p.2.2 ∧ BytesAt w5 p.2.1 p.1.data) ∧ Below w5.heap.size w5 wr

theorem remove_none {t : List Ent} {path : Pn.B} {bl : Bool} (h : find t path = none) (hv : Pn.validP path = true) : Ft.remove t path bl = (t, 4) := by
  have hu : under t path = [] := under_nil h (Pn.ne_of_valid hv)
  unfold Ft.remove
  rw [if_neg (by simp [hv]), hu]
  rfl
theorem remove_bad {t : List Ent} {path : Pn.B} {bl : Bool} (hv : Pn.validP path = false) : Ft.remove t path bl = (t, 1) := by
  unfold Ft.remove
  rw [if_pos hv]
theorem remove_some {t : List Ent} {path : Pn.B} {bl : Bool} {x : Ent} (hT : Tree t) (h : find t path = some x) :
    Ft.remove t path bl = if 1 < (t.filter fun e => Pn.withinP path e.path).length ∧ bl = false then (t, 6) else (t.filter fun e => !Pn.withinP path e.path, 0) := by
  obtain ⟨h1, h2⟩ := find_some h
  have hv : Pn.validP path = true := by rw [← h2]; exact path_valid (hT.good x h1)
  have hu : under t path = t.filter fun e => Pn.withinP path e.path := under_eq (.inl (by rw [h]; simp))
  have hp : (under t path).length ≠ 0 := by
    rw [hu]
    intro h0
    have : x ∈ t.filter fun e => Pn.withinP path e.path := List.mem_filter.2 ⟨h1, by rw [h2]; exact Pn.within_refl hv⟩
    rw [List.length_eq_zero_iff.1 h0] at this; cases this
  unfold Ft.remove
  rw [if_neg (by simp [hv]), if_neg hp, hu]

set_option maxHeartbeats 8000000 in
set_option maxRecDepth 100000 in
theorem removes_any (l : List OpE) (va : Option Addr) (vc : Nat) (path : Pn.B) (bl : Bool) (w : World) (hl : l.length ≤ 9223372036854775807) (hE : Env w) (hA : OpsAt w va l) :
    Calls Tryd.prog 4 #[.slice va l.length vc, S path, .bool bl] w fun e' w' => e' = .returned (.bool true) ∧ Below w.heap.size w w' := by
  have HAW := Lib.hid (awake_any _ hE)
  have HE := Lib.hid hE
  have HA := Lib.hid hA
  have HWD := Lib.hid fun w h => wide_any l va vc w hl h
  clear hE hA
  go_enter Tryd.func4, Tryd.ntmps4
  go_wp2_with fail
  refine HAW.out.mono ?_
  rintro e' w1 ⟨rfl, hb⟩
  have B1 := Lib.hid hb
  clear hb
  go_wp2_with fail
  refine (HWD.out w1 (HA.out.below B1.out)).mono ?_
  rintro e' w2 ⟨rfl, hb⟩
  have B2 := Lib.hid (below_then B1.out hb)
  clear hb
  cases hwd : wideP l with
  | true =>
    go_wp2_with fail
    go_ret
    exact ⟨rfl, B2.out⟩
  | false =>
    obtain ⟨hl30, hbigs⟩ := wide_not hwd
    have HOK := Lib.hid fun x (hx : x ∈ l) => okOp (hbigs x hx)
    clear hwd hbigs
    by_cases hol : 600 < path.length
    · have q : (600 : Int) < (path.length : Int) := by omega
      go_wp2_with fail
      go_ret
      exact ⟨rfl, B2.out⟩
    · have q : ¬ (600 : Int) < (path.length : Int) := by omega
      have HP := Lib.hid (play_any l va vc w2 (by omega) (HE.out.below B2.out) (HA.out.below B2.out) HOK.out)
      unfold PlayOk at HP
      have HT := Lib.hid (play_tree l)
      generalize playP l = t at *
      go_wp2_with fail
      refine HP.out.mono ?_
      rintro e' w3 ⟨tb, mb, rfl, hn⟩
      have B3 := Lib.hid (below_then B2.out hn.below)
      have T3 := Lib.hid hn.tree
      have M3 := Lib.hid (Nat.le_trans B2.out.size hn.mb)
      have htl := hn.tree.few
      clear hn
      have HG := Lib.hid fun w (h : TreeMem w tb mb t) => get_any t tb mb path w h (by omega)
      have HEN := Lib.hid fun (t : List Ent) w (h : TreeMem w tb mb t) (hE : Env w) => entries_any t tb mb w h hE
      unfold EntsOut at HEN
      have HRM := Lib.hid fun w (h : TreeMem w tb mb t) (hE : Env w) => remove_any t tb mb path bl w h hE (by omega)
      unfold OpOk at HRM
      have HWI := Lib.hid fun (q : Pn.B) w (h : Env w) (hq : q.length < 4294967281) => within_any ⟨path.toArray⟩ ⟨q.toArray⟩ w (show path.length < _ by omega) hq h
      have HVA := Lib.hid fun w (h : Env w) => valid_any ⟨path.toArray⟩ w (show path.length < _ by omega) h
      have HSA := Lib.hid fun (l m : List Ent) va vb vc vd w h1 h2 h3 h4 => sameAll_any l m va vb vc vd w h1 h2 h3 h4
      have HPL := Lib.hid fun e (he : e ∈ t) => valid_path_len (HT.out.good e he)
      go_wp2_with fail
      refine (HEN.out t w3 T3.out (HE.out.below B3.out)).mono ?_
      rintro e' w5 ⟨va5, vc5, l5, rfl, hnew5, hl5, hb⟩
      have hat5 := hnew5.at
      rw [hl5] at hat5
      have A5 := Lib.hid hat5
      have B5 := Lib.hid (below_then B3.out hb)
      have T5 := Lib.hid (T3.out.below hb)
      clear hb hnew5 hl5 hat5
      go_wp2_with fail
      go_loopg [8, 9, 30] t.length (fun gg v8 v9 v30 wr => RemRel t path w5 v8 v9 v30 gg wr)
      case atStart => exact ⟨0, none, 0, [], rfl, Nat.zero_le _, by omega, rfl, rfl, World.ownsRow_nil _ _ _ _, rfl, by simp, Below.refl _ _⟩
      case round =>
        obtain ⟨i, va8, vc8, l8, rfl, hi, hgg, rfl, rfl, hmem, hmap, hbys, hbw⟩ := hrel
        by_cases hlt : i < t.length
        · have hz : (i : Int) < (t.length : Int) := by omega
          obtain ⟨g, off, da, dc, rfl, hg, r0, r1, r2, r3, r4, r5, hdc, _⟩ := (A5.out.below hbw).get hlt
          obtain ⟨g', off', da', dc', hva', hg', _, _, _, _, s4, _, _, hby⟩ := A5.out.get hlt
          cases hva'
          have hsame : da' = da ∧ dc' = dc := by
            have := (hbw.cell (p := ⟨g, off + i * 6 + 4, none⟩) hg').trans s4
            rw [r4] at this
            simp only [Option.some.injEq, Value.slice.injEq, true_and] at this
            exact ⟨this.1.symm, this.2.symm⟩
          obtain ⟨rfl, rfl⟩ := hsame
          have htk : t.take (i + 1) = t.take i ++ [t[i]] := by rw [List.take_succ_eq_append_getElem hlt]
          have hpl := HPL.out _ (List.getElem_mem hlt)
          obtain ⟨x, hx⟩ : ∃ x, t[i] = x := ⟨_, rfl⟩
          rw [hx] at r0 r1 r2 r3 r4 r5 hby hdc htk hpl
          have hbx := box_below wr x da' dc'
          have HC := Lib.hid (HWI.out x.path _ (HE.out.below (below_then B5.out (below_then hbw hbx))) (by omega))
          have hQ := entBox_new wr x da' dc'
          have HBW := Lib.hid (below_then hbw hbx)
          have HQ := Lib.hid hQ
          have HMM := Lib.hid (show EntsMem (wr.alloc (boxE x da' dc')) w5.heap.size (.slice va8 l8.length vc8) l8 from hmem.alloc _)
          have HMAP := Lib.hid hmap
          have HBYS := Lib.hid hbys
          have HBY := Lib.hid hby
          have HTK := Lib.hid htk
          have hl8 : l8.length ≤ i := by
            have := congrArg List.length hmap
            rw [List.length_map] at this
            rw [this]
            exact Nat.le_trans (List.length_filter_le _ _) (by simp; omega)
          clear hx hQ hbx hmem hmap hbys hby hbw htk s4
          have hcl : ((List.filter (fun e => Pn.withinP path e.path) (List.take i t)).length : Int) ≤ 4096 := by
            have : (List.filter (fun e => Pn.withinP path e.path) (List.take i t)).length ≤ i := Nat.le_trans (List.length_filter_le _ _) (by simp; omega)
            omega
          cases hwi : Pn.withinP path x.path with
          | true =>
            rw [hwi] at HC
            have HF := Lib.hid (show ((t.take (i + 1)).filter fun e => Pn.withinP path e.path).length = ((t.take i).filter fun e => Pn.withinP path e.path).length + 1 ∧ (t.take (i + 1)).filter (fun e => !Pn.withinP path e.path) = (t.take i).filter (fun e => !Pn.withinP path e.path) by
              rw [HTK.out, List.filter_append, List.filter_append]; simp [hwi])
            clear hwi
            go_wp2_with fail
            refine HC.out.mono ?_
            rintro e' w6 ⟨rfl, hb⟩
            have HB6 := Lib.hid (below_then HBW.out hb)
            have HM6 := Lib.hid (show EntsMem w6 w5.heap.size (.slice va8 l8.length vc8) l8 from HMM.out.kept (grown_below hb none) (by cases (Value.slice va8 l8.length vc8).ownBlock <;> simp))
            clear hb
            go_wp2_with fail
            go_roundg (t.length - (i + 1))
            case measure => omega
            case rel => exact ⟨i + 1, va8, vc8, l8, by go_num, by omega, by omega, rfl, by rw [HF.out.1]; go_num, HM6.out, by rw [HF.out.2]; exact HMAP.out, HBYS.out, HB6.out⟩
          | false =>
            rw [hwi] at HC
            have HF := Lib.hid (show ((t.take (i + 1)).filter fun e => Pn.withinP path e.path).length = ((t.take i).filter fun e => Pn.withinP path e.path).length ∧ (t.take (i + 1)).filter (fun e => !Pn.withinP path e.path) = (t.take i).filter (fun e => !Pn.withinP path e.path) ++ [x] by
              rw [HTK.out, List.filter_append, List.filter_append]; simp [hwi])
            clear hwi
            go_wp2_with fail
            refine HC.out.mono ?_
            rintro e' w6 ⟨rfl, hb⟩
            have HB6 := Lib.hid (below_then HBW.out hb)
            have hM6 : EntsMem w6 w5.heap.size (.slice va8 l8.length vc8) l8 := HMM.out.kept (grown_below hb none) (by cases (Value.slice va8 l8.length vc8).ownBlock <;> simp)
            have hq6 := HQ.out.below hb
            obtain ⟨c0, c1, c2, c3, c4, c5⟩ := hq6.cells
            obtain ⟨va9, vc9, w7, hrun, hM7, hB7, _⟩ := ents_app hM6 HB6.out (Nat.le_refl _) HB6.out.size (x, da', dc') (by omega)
            have HRUN := Lib.hid hrun
            have HM7 := Lib.hid hM7
            have HB7 := Lib.hid hB7
            clear hrun hM6 hq6 hM7 hB7 hb
            go_wp2_with (at_builtin; refine wpList_append_run rfl _ _ 29 rfl _ _ rfl rfl _ _ rfl HRUN.out ?_)
            go_roundg (t.length - (i + 1))
            case measure => omega
            case rel =>
              refine ⟨i + 1, va9, vc9, l8 ++ [(x, da', dc')], by go_num, by omega, by omega, by simp, by rw [HF.out.1], by simpa using HM7.out, by rw [HF.out.2, List.map_append, HMAP.out]; rfl, fun p hp => ?_, HB7.out⟩
              rcases List.mem_append.1 hp with hp | hp
              · exact HBYS.out p hp
              · simp only [List.mem_singleton] at hp
                subst hp
                exact ⟨hdc, HBY.out⟩
        · have hz : ¬ (i : Int) < (t.length : Int) := by omega
          obtain rfl : i = t.length := by omega
          rw [List.take_length] at hmap ⊢
          have hwant := hmem.at fun p hp => ⟨(hbys p hp).1, (hbys p hp).2.below hbw⟩
          rw [hmap] at hwant
          have hwl : l8.length = (t.filter fun e => !Pn.withinP path e.path).length := by rw [← hmap, List.length_map]
          have B6 := Lib.hid (below_then B5.out hbw)
          have T6 := Lib.hid (T5.out.below hbw)
          have W6 := Lib.hid hwant
          have hG := HG.out wr (T5.out.below hbw)
          clear hmem hmap hbys hbw hwant
          rw [hwl]
          clear hwl
          have hf1 : (t.filter fun e => !Pn.withinP path e.path).length ≤ 4096 := Nat.le_trans (List.length_filter_le _ _) htl
          obtain ⟨s7, hs7⟩ : ∃ s, (find t path).isSome = s := ⟨_, rfl⟩
          rw [hs7] at hG
          generalize (find t path).getD zeroE = x7 at *
          have HG7 := Lib.hid hG
          have S7 := Lib.hid hs7
          clear hG hs7
          obtain ⟨want, hwant⟩ : ∃ want, (t.filter fun e => !Pn.withinP path e.path) = want := ⟨_, rfl⟩
          obtain ⟨ins, hins⟩ : ∃ ins, (t.filter fun e => Pn.withinP path e.path).length = ins := ⟨_, rfl⟩
          rw [hwant] at W6 hf1 ⊢
          rw [hins]
          have HW := Lib.hid hwant
          have HI := Lib.hid hins
          clear hwant hins
          go_wp2_with fail
          refine HG7.out.mono ?_
          rintro e' w7 ⟨va7, rfl, _, _, hb⟩
          have hb7 := box_below w7 x7 va7 x7.data.length
          have B7 := Lib.hid (below_then B6.out (below_then hb hb7))
          have T7 := Lib.hid (T6.out.below (below_then hb hb7))
          have W7 := Lib.hid (W6.out.below (below_then hb hb7))
          clear hb hb7
          go_wp2_with fail
          refine (HEN.out t _ T7.out (HE.out.below B7.out)).mono ?_
          rintro e' w8 ⟨vaA, vcA, l8, rfl, hnew8, hl8, hb⟩
          have hat8 := hnew8.at
          rw [hl8] at hat8
          have A8 := Lib.hid hat8
          have B8 := Lib.hid (below_then B7.out hb)
          have T8 := Lib.hid (T7.out.below hb)
          have W8 := Lib.hid (W7.out.below hb)
          clear hb hnew8 hl8 hat8
          go_wp2_with fail
          refine (HRM.out w8 T8.out (HE.out.below B8.out)).mono ?_
          rintro e' w9 ⟨rfl, hT9, hg9⟩
          have B9 := Lib.hid (B8.out.grown hg9 B8.out.size (fun k e => by cases e; exact M3.out))
          have A9 := Lib.hid (A8.out.kept hg9 (noRow_cells T8.out.noRow))
          have W9 := Lib.hid (W8.out.kept hg9 (noRow_cells T8.out.noRow))
          have T9 := Lib.hid hT9
          have HVA9 := Lib.hid (HVA.out w9 (HE.out.below B9.out))
          clear hg9 hT9
          cases s7 with
          | false =>
            have hfn : find t path = none := by simpa using S7.out
            cases hv : Pn.validP path with
            | true =>
              have hr := remove_none (bl := bl) hfn hv
              rw [hr] at T9 ⊢
              dsimp only at T9 ⊢
              have HEN9 := Lib.hid (HEN.out _ w9 T9.out (HE.out.below B9.out))
              clear hfn hv hr
              go_wp2_with fail
              refine HEN9.out.mono ?_
              rintro e' w10 ⟨va10, vc10, l10, rfl, hnew10, hl10, hb⟩
              have hat10 := hnew10.at
              rw [hl10] at hat10
              have B10 := Lib.hid (below_then B9.out hb)
              have HS := Lib.hid (HSA.out t t va10 vaA vc10 vcA w10 (by omega) (by omega) hat10 (A9.out.below hb))
              simp only [decide_true] at HS
              clear hb hnew10 hl10 hat10
              go_wp2_with fail
              refine HS.out.mono ?_
              rintro e' w11 ⟨rfl, hb⟩
              have B11 := Lib.hid (below_then B10.out hb)
              clear hb
              go_wp2_with fail
              go_ret
              exact ⟨rfl, B11.out⟩
            | false =>
              have hr := remove_bad (t := t) (bl := bl) hv
              rw [hr] at T9 ⊢
              dsimp only at T9 ⊢
              rw [hv] at HVA9
              clear hfn hv hr
              go_wp2_with fail
              refine HVA9.out.mono ?_
              rintro e' w10 ⟨rfl, hb⟩
              have B10 := Lib.hid (below_then B9.out hb)
              have T10 := Lib.hid (T9.out.below hb)
              have A10 := Lib.hid (A9.out.below hb)
              have HEN10 := Lib.hid (HEN.out _ w10 T10.out (HE.out.below B10.out))
              clear hb
              go_wp2_with fail
              refine HEN10.out.mono ?_
              rintro e' w11 ⟨va11, vc11, l11, rfl, hnew11, hl11, hb⟩
              have hat11 := hnew11.at
              rw [hl11] at hat11
              have B11 := Lib.hid (below_then B10.out hb)
              have HS := Lib.hid (HSA.out t t va11 vaA vc11 vcA w11 (by omega) (by omega) hat11 (A10.out.below hb))
              simp only [decide_true] at HS
              clear hb hnew11 hl11 hat11
              go_wp2_with fail
              refine HS.out.mono ?_
              rintro e' w12 ⟨rfl, hb⟩
              have B12 := Lib.hid (below_then B11.out hb)
              clear hb
              go_wp2_with fail
              go_ret
              exact ⟨rfl, B12.out⟩
          | true =>
            obtain ⟨x, hx⟩ := Option.isSome_iff_exists.1 S7.out
            have hr := remove_some (bl := bl) HT.out hx
            rw [HI.out, HW.out] at hr
            clear hx
            by_cases hc : 1 < ins ∧ bl = false
            · obtain ⟨h1, rfl⟩ := hc
              have hq : (1 : Int) < (ins : Int) := by omega
              rw [if_pos ⟨h1, rfl⟩] at hr
              rw [hr] at T9 ⊢
              dsimp only at T9 ⊢
              have HEN9 := Lib.hid (HEN.out _ w9 T9.out (HE.out.below B9.out))
              clear hr h1
              go_wp2_with fail
              refine HEN9.out.mono ?_
              rintro e' w10 ⟨va10, vc10, l10, rfl, hnew10, hl10, hb⟩
              have hat10 := hnew10.at
              rw [hl10] at hat10
              have B10 := Lib.hid (below_then B9.out hb)
              have HS := Lib.hid (HSA.out t t va10 vaA vc10 vcA w10 (by omega) (by omega) hat10 (A9.out.below hb))
              simp only [decide_true] at HS
              clear hb hnew10 hl10 hat10
              go_wp2_with fail
              refine HS.out.mono ?_
              rintro e' w11 ⟨rfl, hb⟩
              have B11 := Lib.hid (below_then B10.out hb)
              clear hb
              go_wp2_with fail
              go_ret
              exact ⟨rfl, B11.out⟩
            · rw [if_neg hc] at hr
              rw [hr] at T9 ⊢
              dsimp only at T9 ⊢
              have HEN9 := Lib.hid (HEN.out _ w9 T9.out (HE.out.below B9.out))
              have hq : bl = true ∨ (bl = false ∧ ¬ (1 : Int) < (ins : Int)) := by
                cases bl with
                | true => exact .inl rfl
                | false => exact .inr ⟨rfl, fun h => hc ⟨by omega, rfl⟩⟩
              clear hr hc
              rcases hq with rfl | ⟨rfl, hq⟩
              all_goals go_wp2_with fail
              all_goals refine HEN9.out.mono ?_
              all_goals rintro e' w10 ⟨va10, vc10, l10, rfl, hnew10, hl10, hb⟩
              all_goals have hat10 := hnew10.at
              all_goals rw [hl10] at hat10
              all_goals have B10 := Lib.hid (below_then B9.out hb)
              all_goals have HS := Lib.hid (HSA.out want want va10 _ vc10 vc8 w10 (by omega) (by omega) hat10 (W9.out.below hb))
              all_goals simp only [decide_true] at HS
              all_goals clear hb hnew10 hl10 hat10
              all_goals go_wp2_with fail
              all_goals refine HS.out.mono ?_
              all_goals rintro e' w11 ⟨rfl, hb⟩
              all_goals have B11 := Lib.hid (below_then B10.out hb)
              all_goals clear hb
              all_goals go_wp2_with fail
              all_goals go_ret
              all_goals exact ⟨rfl, B11.out⟩

end Go.Proofs.YtdcghpeomaailaaDoor
