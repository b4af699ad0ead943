/-
  The walks of (*Tree).fill, From, Check.
-/
import Derived.Test.YtdcghpeomaailaaDoorFtPut
import Derived.Test.YtdcghpeomaailaaDoorFtEnts
import Derived.Test.YtdcghpeomaailaaDoorQuieter
namespace Go.Proofs.YtdcghpeomaailaaDoor
open Go.RowKit Go.Lib Ft

theorem late_take {l : List Ent} {j : Nat} (hj : j < l.length) (e : Ent) : late (l.take (j + 1)) e = decide (0 ≤ Pn.cmpP l[j].path e.path) := by
  unfold late
  rw [List.take_succ_eq_append_getElem hj, List.getLast?_append]
  simp

theorem late_less {acc : List Ent} {e : Ent} (hs : SortedT acc) (h : late acc e = false) : ∀ x ∈ acc, Pn.cmpP x.path e.path < 0 := by
  unfold late at h
  cases hl : acc.getLast? with
  | none => exact none_less hl
  | some y =>
    rw [hl] at h
    simp only [decide_eq_false_iff_not, Int.not_le] at h
    exact last_less hs hl h

/-- What fill leaves. -/
def FillOk (l : List Ent) (tb mb : Nat) (w : World) (e' : Ending) (w' : World) : Prop :=
  e' = .returned (.int .i64 (check l)) ∧ TreeMem w' tb mb (if 4096 < l.length then [] else (fillGo [] l).1) ∧ w.grownBy w' (some mb)

def FillRel (l : List Ent) (tb mb : Nat) (w : World) (v : Value) (gg : Nat) (wr : World) : Prop :=
  ∃ i : Nat, v = .int .i64 i ∧ i ≤ l.length ∧ l.length - i ≤ gg ∧ TreeMem wr tb mb (l.take i) ∧ fillGo [] l = fillGo (l.take i) (l.drop i) ∧ w.grownBy wr (some mb)

/-- The worlds behind the region with the calls. -/
structure FMeet (w0 W : World) : Prop where
  below : Below w0.heap.size w0 W

set_option maxHeartbeats 4000000 in
set_option maxRecDepth 100000 in
theorem fill_any (l : List Ent) (va : Option Addr) (vc : Nat) (tb mb : Nat) (w : World) (hT : TreeMem w tb mb []) (hE : Env w) (hA : EntsAt w va l)
    (hp : l.length ≤ 4096 → ∀ e ∈ l, e.path.length < 4294967281 ∧ e.link.length < 4294967281) :
    Calls Tryd.prog 46 #[.pointer (some ⟨tb, 0, none⟩), .slice va l.length vc] w (FillOk l tb mb w) := by
  by_cases hbig : 4096 < l.length
  · have hbz : (4096 : Int) < (l.length : Int) := by omega
    have HR := Lib.hid (show check l = 2 by unfold check; rw [if_pos hbig])
    have HT := Lib.hid hT
    have HBIG := Lib.hid hbig
    clear hT hE hA hp hbig
    go_enter Tryd.func46, Tryd.ntmps46
    go_wp2_with fail
    go_ret
    exact ⟨by rw [HR.out]; rfl, by rw [if_pos HBIG.out]; exact HT.out, grown_below (Below.refl _ _) _⟩
  · have hbz : ¬ (4096 : Int) < (l.length : Int) := by omega
    have HBIG := Lib.hid hbig
    have HR := Lib.hid (show check l = (fillGo [] l).2 by unfold check; rw [if_neg hbig])
    have HT := Lib.hid hT
    have HE := Lib.hid hE
    have HA := Lib.hid hA
    have HP := Lib.hid (hp (by omega))
    have hnc := Lib.hid hT.noCells
    have hmb := hT.mb_lt
    clear hT hE hA hp hbig
    go_enter Tryd.func46, Tryd.ntmps46
    go_wp2_with fail
    go_loopg [13] l.length (fun gg v wr => FillRel l tb mb w v gg wr)
    case atStart => exact ⟨0, rfl, Nat.zero_le _, by omega, by simpa using HT.out, by simp, grown_below (Below.refl _ _) _⟩
    case round =>
      obtain ⟨i, rfl, hi, hgg, hT, hfl, hg⟩ := hrel
      by_cases hlt : i < l.length
      · have hz : (i : Int) < (l.length : Int) := by omega
        have hE := HE.out.kept hg (by rintro r h; cases h; exact hnc.out)
        have hA := HA.out.kept hg (by rintro r h; cases h; exact hnc.out)
        obtain ⟨g, off, da, dc, rfl, hglt, r0, r1, r2, r3, r4, r5, hdc, hby⟩ := hA.get hlt
        obtain ⟨hpl, hll⟩ := HP.out _ (List.getElem_mem hlt)
        have hdrop : l.drop i = l[i] :: l.drop (i + 1) := List.drop_eq_getElem_cons hlt
        have htake : l.take (i + 1) = l.take i ++ [l[i]] := by rw [List.take_succ_eq_append_getElem hlt]
        have HA := Lib.hid hA
        obtain ⟨e, he⟩ : ∃ e, l[i] = e := ⟨_, rfl⟩
        rw [he] at r0 r1 r2 r3 r4 r5 hdc hby hpl hll hdrop htake
        have hW1 : Below wr.heap.size wr (wr.alloc (.cells #[S e.path, .int .i64 e.kind, .int .i64 e.mode, .int .i64 e.time, .slice da e.data.length dc, S e.link] 25)) := (Below.refl _ _).alloc (Nat.le_refl _) _
        have hN := heap_alloc_new wr (.cells #[S e.path, .int .i64 e.kind, .int .i64 e.mode, .int .i64 e.time, .slice da e.data.length dc, S e.link] 25)
        have hs1 : wr.heap.size < (wr.alloc (.cells #[S e.path, .int .i64 e.kind, .int .i64 e.mode, .int .i64 e.time, .slice da e.data.length dc, S e.link] 25)).heap.size := by simp
        have hE1 := hE.below hW1
        have hA1 := HA.out.below hW1
        have hT1 := hT.below hW1
        have hby1 := hby.below hW1
        have HG1 := Lib.hid (show w.grownBy (wr.alloc (.cells #[S e.path, .int .i64 e.kind, .int .i64 e.mode, .int .i64 e.time, .slice da e.data.length dc, S e.link] 25)) (some mb) from hg.trans (grown_below hW1 _))
        have HSTEP : fillGo [] l = if (!e.valid || late (l.take i) e) = true then (l.take i, 1) else if belowE (l.take i) (Pn.parentP e.path) ≠ 0 then (l.take i, belowE (l.take i) (Pn.parentP e.path)) else fillGo (l.take (i + 1)) (l.drop (i + 1)) := by
          rw [hfl, hdrop, htake]; rfl
        have hlate : late (l.take i) e = if h : 0 < i then decide (0 ≤ Pn.cmpP (l[i - 1]'(by omega)).path e.path) else false := by
          by_cases h0 : 0 < i
          · rw [dif_pos h0]
            obtain ⟨j, rfl⟩ : ∃ j, i = j + 1 := ⟨i - 1, by omega⟩
            rw [late_take (by omega)]
            simp
          · obtain rfl : i = 0 := by omega
            rfl
        have HLATE := Lib.hid hlate
        have HST := Lib.hid HSTEP
        have HT := Lib.hid hT
        have HX := Lib.hid htake
        clear HSTEP hlate hfl hdrop htake hT hE hA hby hg
        go_wp2_with fail
        generalize (wr.alloc (.cells #[S e.path, .int .i64 e.kind, .int .i64 e.mode, .int .i64 e.time, .slice da e.data.length dc, S e.link] 25)) = W1 at *
        have HN := Lib.hid hN
        have HS1 := Lib.hid hs1
        have f0 := fun x : In (FMeet W1) => (x.property.below.cell (p := ⟨wr.heap.size, 0, none⟩) hs1).trans (cell_of_block' hN 0)
        have f1 := fun x : In (FMeet W1) => (x.property.below.cell (p := ⟨wr.heap.size, 1, none⟩) hs1).trans (cell_of_block' hN 1)
        have f2 := fun x : In (FMeet W1) => (x.property.below.cell (p := ⟨wr.heap.size, 2, none⟩) hs1).trans (cell_of_block' hN 2)
        have f3 := fun x : In (FMeet W1) => (x.property.below.cell (p := ⟨wr.heap.size, 3, none⟩) hs1).trans (cell_of_block' hN 3)
        have f4 := fun x : In (FMeet W1) => (x.property.below.cell (p := ⟨wr.heap.size, 4, none⟩) hs1).trans (cell_of_block' hN 4)
        have f5 := fun x : In (FMeet W1) => (x.property.below.cell (p := ⟨wr.heap.size, 5, none⟩) hs1).trans (cell_of_block' hN 5)
        simp at f0 f1 f2 f3 f4 f5
        have HV := Lib.hid fun x : In (FMeet W1) => show Calls Tryd.prog 37 #[entV e da dc] x.val (fun e' w' => e' = .returned (.bool e.valid) ∧ ∃ y : In (FMeet W1), w' = y.val) from
          (validEnt_any e da dc x.val (hE1.below x.property.below) hpl hll).mono (by
            rintro e' w' ⟨rfl, hb⟩
            exact ⟨rfl, ⟨w', ⟨below_then x.property.below hb⟩⟩, rfl⟩)
        have hS0 : FMeet W1 W1.drew := ⟨(Below.refl _ _).drew⟩
        cases hv : e.valid with
        | false =>
          rw [hv] at HV
          have HF := Lib.hid (show fillGo [] l = (l.take i, 1) by rw [HST.out, hv]; rfl)
          clear hv
          refine wp_region_quiet_sub (S := FMeet W1) (by kernel_rfl) (by kernel_rfl) hS0 ?_
          intro hne
          repeat (go_big_quiet_step ((go_at_call 37; exact HV.out _)))
          refine wpQuiet_nil ?_
          intro wq hw'
          obtain ⟨⟨wq0, hwq⟩, hw2⟩ := hw'
          simp only at hw2
          subst hw2
          clear hne f0 f1 f2 f3 f4 f5
          have hbq := hwq.below
          go_wp2_with fail
          go_ret
          exact ⟨by rw [HR.out, HF.out]; rfl, by rw [if_neg HBIG.out, HF.out]; exact hT1.below hbq, HG1.out.trans (grown_below hbq _)⟩
        | true =>
          rw [hv] at HV
          have hvp := valid_path hv
          have hdl := valid_data_len hv
          have hppl := parentP_le e.path
          by_cases hi0 : 0 < i
          · obtain ⟨j, rfl⟩ : ∃ j, i = j + 1 := ⟨i - 1, by omega⟩
            have hiz : decide ((0 : Int) < ((j + 1 : Nat) : Int)) = true := by simp
            have hj1 : ((j + 1 : Nat) : Int) - 1 = (j : Int) := by omega
            have hpj := (HP.out _ (List.getElem_mem (show j < l.length by omega))).1
            have f6 := fun x : In (FMeet W1) => (x.property.below.cell (p := ⟨g, off + j * 6, none⟩) (Nat.lt_of_lt_of_le hglt (Nat.le_of_lt HS1.out))).trans (hA1.path (show j < l.length by omega))
            have hlt1 := HLATE.out
            rw [dif_pos hi0] at hlt1
            simp only [Nat.add_sub_cancel] at hlt1
            generalize l[j].path = pj at *
            have HC := Lib.hid fun x : In (FMeet W1) => show Calls Tryd.prog 63 #[S pj, S e.path] x.val (fun e' w' => e' = .returned (.int .i64 (Pn.cmpP pj e.path)) ∧ ∃ y : In (FMeet W1), w' = y.val) from
              (compare_any ⟨pj.toArray⟩ ⟨e.path.toArray⟩ x.val hpj hpl).mono (by
                rintro e' w' ⟨rfl, hb⟩
                exact ⟨rfl, ⟨w', ⟨below_then x.property.below hb⟩⟩, rfl⟩)
            generalize Pn.cmpP pj e.path = cz at *
            cases hcz : decide (0 ≤ cz) with
            | true =>
              rw [hcz] at hlt1
              have HF := Lib.hid (show fillGo [] l = (l.take (j + 1), 1) by rw [HST.out, hv, hlt1]; rfl)
              clear hv hlt1
              refine wp_region_quiet_sub (S := FMeet W1) (by kernel_rfl) (by kernel_rfl) hS0 ?_
              intro hne
              repeat (go_big_quiet_step (first | (go_at_call 37; exact HV.out _) | (go_at_call 63; exact HC.out _)))
              refine wpQuiet_nil ?_
              intro wq hw'
              obtain ⟨⟨wq0, hwq⟩, hw2⟩ := hw'
              simp only at hw2
              subst hw2
              clear hne f0 f1 f2 f3 f4 f5 f6
              have hbq := hwq.below
              go_wp2_with fail
              go_ret
              exact ⟨by rw [HR.out, HF.out]; rfl, by rw [if_neg HBIG.out, HF.out]; exact hT1.below hbq, HG1.out.trans (grown_below hbq _)⟩
            | false =>
              rw [hcz] at hlt1
              have HSTEP2 : fillGo [] l = if belowE (l.take (j + 1)) (Pn.parentP e.path) ≠ 0 then (l.take (j + 1), belowE (l.take (j + 1)) (Pn.parentP e.path)) else fillGo (l.take (j + 1 + 1)) (l.drop (j + 1 + 1)) := by
                rw [HST.out, if_neg (by rw [hv, hlt1]; simp)]
              refine wp_region_quiet_sub (S := FMeet W1) (by kernel_rfl) (by kernel_rfl) hS0 ?_
              intro hne
              repeat (go_big_quiet_step (first | (go_at_call 37; exact HV.out _) | (go_at_call 63; exact HC.out _)))
              refine wpQuiet_nil ?_
              intro wq hw'
              obtain ⟨⟨wq0, hwq⟩, hw2⟩ := hw'
              simp only at hw2
              subst hw2
              clear hne f0 f1 f2 f3 f4 f5 f6
              have hbq := hwq.below
              have HBE := Lib.hid fun W (h : TreeMem W tb mb (l.take (j + 1))) => below_any (l.take (j + 1)) tb mb (Pn.parentP e.path) W h (by omega)
              have HPA := Lib.hid fun W (h : Env W) => parentP_any e.path W h hpl
              simp only [hvp, ↓reduceIte] at HPA
              have HTQ := Lib.hid (hT1.below hbq)
              have HEQ := Lib.hid (hE1.below hbq)
              have HBY := Lib.hid (hby1.below hbq)
              have HAQ := Lib.hid (hA1.below hbq)
              have HGQ := Lib.hid (HG1.out.trans (grown_below hbq _))
              have HQ := Lib.hid ((hbq.block wr.heap.size HS1.out).trans HN.out)
              have hsq : wr.heap.size < wq.heap.size := Nat.lt_of_lt_of_le HS1.out hbq.size
              have HPS := Lib.hid HSTEP2
              have HVV := Lib.hid hv
              have HLT := Lib.hid hlt1
              clear hlt1 HC hbq hT1 hE1 hby1 hA1 hwq hS0 hN hs1 hW1 r0 r1 r2 r3 r4 r5 hvp hv HSTEP2 HV
              have c0 := cell_of_block' HQ.out 0
              simp at c0
              go_wp2_with fail
              refine (HPA.out _ HEQ.out).mono ?_
              rintro e' w2 ⟨rfl, hb⟩
              have HT2 := Lib.hid (HTQ.out.below hb)
              have HQ2 := Lib.hid ((hb.block wr.heap.size hsq).trans HQ.out)
              have HY2 := Lib.hid (HBY.out.below hb)
              have HG2 := Lib.hid (HGQ.out.trans (grown_below hb _))
              have hs2 := Nat.lt_of_lt_of_le hsq hb.size
              clear hb c0
              go_wp2_with fail
              refine (HBE.out _ HT2.out).mono ?_
              rintro e' w3 ⟨rfl, hb⟩
              have HT3 := Lib.hid (HT2.out.below hb)
              have HQ3 := Lib.hid ((hb.block wr.heap.size hs2).trans HQ2.out)
              have HY3 := Lib.hid (HY2.out.below hb)
              have HG3 := Lib.hid (HG2.out.trans (grown_below hb _))
              have hs3 := Nat.lt_of_lt_of_le hs2 hb.size
              clear hb
              by_cases hbz0 : belowE (l.take (j + 1)) (Pn.parentP e.path) = 0
              · have hqz : (belowE (l.take (j + 1)) (Pn.parentP e.path) == 0) = true := by rw [beq_iff_eq]; exact hbz0
                have HFC := Lib.hid (show fillGo [] l = fillGo (l.take (j + 1 + 1)) (l.drop (j + 1 + 1)) by rw [HPS.out, if_neg (by rw [hbz0]; simp)])
                have hins : insE e (l.take (j + 1)) = l.take (j + 1 + 1) := by
                  rw [HX.out]
                  refine insE_last ?_
                  exact late_less HTQ.out.sorted HLT.out
                have hin : (insE e (l.take (j + 1))).length ≤ 4096 := by
                  rw [hins, List.length_take]
                  have := HBIG.out
                  omega
                have hk0 := hbz0
                generalize belowE (l.take (j + 1)) (Pn.parentP e.path) = bz at *
                subst hk0
                clear hqz
                have HINS := Lib.hid hins
                clear hins
                go_wp2_with fail
                have a0 := cell_of_block' HQ3.out 0
                have a1 := cell_of_block' HQ3.out 1
                have a2 := cell_of_block' HQ3.out 2
                have a3 := cell_of_block' HQ3.out 3
                have a4 := cell_of_block' HQ3.out 4
                have a5 := cell_of_block' HQ3.out 5
                simp at a0 a1 a2 a3 a4 a5
                have hD4 : Below w3.heap.size w3 w3.drew := (Below.refl _ _).drew
                have ct3 := HT3.out.cell
                have ct5 := (HT3.out.below hD4).cell
                have HCOP := Lib.hid fun W (h : BytesAt W da e.data) => copied_any e da dc W h (by omega)
                go_region_with (go_at_call 35; refine (HCOP.out _ (HY3.out.below hD4)).mono ?_; rintro e' w5 ⟨va', rfl, hby5, hge5, hb5⟩; have hb5' := hD4.trans hb5; have hT5 := HT3.out.below hb5'; have ct6 := hT5.cell; have b0 := (hb5'.cell (p := ⟨wr.heap.size, 0, none⟩) hs3).trans a0; obtain ⟨w6, hrun6, hT6, hg6⟩ := hT5.store (e := e) (v := entV e va' e.data.length) ⟨va', e.data.length, rfl, Nat.le_refl _, hby5⟩ HVV.out hin; have hg7 := grown_then (Below.refl _ w3) (grown_then hb5' hg6); rw [HINS.out] at hT6; clear hby5 hge5 hb5 hb5' hg6)
                all_goals go_wp2_with fail
                all_goals go_roundg (l.length - (j + 1 + 1))
                all_goals try (case measure => omega)
                all_goals exact ⟨j + 1 + 1, by go_num, by omega, Nat.le_refl _, by assumption, HFC.out, HG3.out.trans (by assumption)⟩
              · have hqz : (belowE (l.take (j + 1)) (Pn.parentP e.path) == 0) = false := by rw [beq_eq_false_iff_ne]; exact hbz0
                have HFC := Lib.hid (show fillGo [] l = (l.take (j + 1), belowE (l.take (j + 1)) (Pn.parentP e.path)) by rw [HPS.out, if_pos hbz0])
                generalize belowE (l.take (j + 1)) (Pn.parentP e.path) = bz at *
                clear hbz0
                go_wp2_with fail
                go_ret
                exact ⟨by rw [HR.out, HFC.out]; rfl, by rw [if_neg HBIG.out, HFC.out]; exact HT3.out, HG3.out⟩
          · obtain rfl : i = 0 := by omega
            have hiz : decide ((0 : Int) < ((0 : Nat) : Int)) = false := by decide
            have HSTEP2 : fillGo [] l = if belowE (l.take 0) (Pn.parentP e.path) ≠ 0 then (l.take 0, belowE (l.take 0) (Pn.parentP e.path)) else fillGo (l.take (0 + 1)) (l.drop (0 + 1)) := by
              rw [HST.out, if_neg (by rw [hv]; rw [show late (l.take 0) e = false from rfl]; simp)]
            refine wp_region_quiet_sub (S := FMeet W1) (by kernel_rfl) (by kernel_rfl) hS0 ?_
            intro hne
            repeat (go_big_quiet_step ((go_at_call 37; exact HV.out _)))
            refine wpQuiet_nil ?_
            intro wq hw'
            obtain ⟨⟨wq0, hwq⟩, hw2⟩ := hw'
            simp only at hw2
            subst hw2
            clear hne f0 f1 f2 f3 f4 f5
            have hbq := hwq.below
            have HBE := Lib.hid fun W (h : TreeMem W tb mb (l.take 0)) => below_any (l.take 0) tb mb (Pn.parentP e.path) W h (by omega)
            have HPA := Lib.hid fun W (h : Env W) => parentP_any e.path W h hpl
            simp only [hvp, ↓reduceIte] at HPA
            have HTQ := Lib.hid (hT1.below hbq)
            have HEQ := Lib.hid (hE1.below hbq)
            have HBY := Lib.hid (hby1.below hbq)
            have HAQ := Lib.hid (hA1.below hbq)
            have HGQ := Lib.hid (HG1.out.trans (grown_below hbq _))
            have HQ := Lib.hid ((hbq.block wr.heap.size HS1.out).trans HN.out)
            have hsq : wr.heap.size < wq.heap.size := Nat.lt_of_lt_of_le HS1.out hbq.size
            have HPS := Lib.hid HSTEP2
            have HVV := Lib.hid hv
            clear hbq hT1 hE1 hby1 hA1 hwq hS0 hN hs1 hW1 r0 r1 r2 r3 r4 r5 hvp hv HSTEP2 HV
            have c0 := cell_of_block' HQ.out 0
            simp at c0
            go_wp2_with fail
            refine (HPA.out _ HEQ.out).mono ?_
            rintro e' w2 ⟨rfl, hb⟩
            have HT2 := Lib.hid (HTQ.out.below hb)
            have HQ2 := Lib.hid ((hb.block wr.heap.size hsq).trans HQ.out)
            have HY2 := Lib.hid (HBY.out.below hb)
            have HG2 := Lib.hid (HGQ.out.trans (grown_below hb _))
            have hs2 := Nat.lt_of_lt_of_le hsq hb.size
            clear hb c0
            go_wp2_with fail
            refine (HBE.out _ HT2.out).mono ?_
            rintro e' w3 ⟨rfl, hb⟩
            have HT3 := Lib.hid (HT2.out.below hb)
            have HQ3 := Lib.hid ((hb.block wr.heap.size hs2).trans HQ2.out)
            have HY3 := Lib.hid (HY2.out.below hb)
            have HG3 := Lib.hid (HG2.out.trans (grown_below hb _))
            have hs3 := Nat.lt_of_lt_of_le hs2 hb.size
            clear hb
            by_cases hbz0 : belowE (l.take 0) (Pn.parentP e.path) = 0
            · have hqz : (belowE (l.take 0) (Pn.parentP e.path) == 0) = true := by rw [beq_iff_eq]; exact hbz0
              have HFC := Lib.hid (show fillGo [] l = fillGo (l.take (0 + 1)) (l.drop (0 + 1)) by rw [HPS.out, if_neg (by rw [hbz0]; simp)])
              have hins : insE e (l.take 0) = l.take (0 + 1) := by
                rw [HX.out]
                refine insE_last ?_
                intro x hx; simp at hx
              have hin : (insE e (l.take 0)).length ≤ 4096 := by
                rw [hins, List.length_take]
                have := HBIG.out
                omega
              have hk0 := hbz0
              generalize belowE (l.take 0) (Pn.parentP e.path) = bz at *
              subst hk0
              clear hqz
              have HINS := Lib.hid hins
              clear hins
              go_wp2_with fail
              have a0 := cell_of_block' HQ3.out 0
              have a1 := cell_of_block' HQ3.out 1
              have a2 := cell_of_block' HQ3.out 2
              have a3 := cell_of_block' HQ3.out 3
              have a4 := cell_of_block' HQ3.out 4
              have a5 := cell_of_block' HQ3.out 5
              simp at a0 a1 a2 a3 a4 a5
              have hD4 : Below w3.heap.size w3 w3.drew := (Below.refl _ _).drew
              have ct3 := HT3.out.cell
              have ct5 := (HT3.out.below hD4).cell
              have HCOP := Lib.hid fun W (h : BytesAt W da e.data) => copied_any e da dc W h (by omega)
              go_region_with (go_at_call 35; refine (HCOP.out _ (HY3.out.below hD4)).mono ?_; rintro e' w5 ⟨va', rfl, hby5, hge5, hb5⟩; have hb5' := hD4.trans hb5; have hT5 := HT3.out.below hb5'; have ct6 := hT5.cell; have b0 := (hb5'.cell (p := ⟨wr.heap.size, 0, none⟩) hs3).trans a0; obtain ⟨w6, hrun6, hT6, hg6⟩ := hT5.store (e := e) (v := entV e va' e.data.length) ⟨va', e.data.length, rfl, Nat.le_refl _, hby5⟩ HVV.out hin; have hg7 := grown_then (Below.refl _ w3) (grown_then hb5' hg6); rw [HINS.out] at hT6; clear hby5 hge5 hb5 hb5' hg6)
              all_goals go_wp2_with fail
              all_goals go_roundg (l.length - (0 + 1))
              all_goals try (case measure => omega)
              all_goals exact ⟨0 + 1, by go_num, by omega, Nat.le_refl _, by assumption, HFC.out, HG3.out.trans (by assumption)⟩
            · have hqz : (belowE (l.take 0) (Pn.parentP e.path) == 0) = false := by rw [beq_eq_false_iff_ne]; exact hbz0
              have HFC := Lib.hid (show fillGo [] l = (l.take 0, belowE (l.take 0) (Pn.parentP e.path)) by rw [HPS.out, if_pos hbz0])
              generalize belowE (l.take 0) (Pn.parentP e.path) = bz at *
              clear hbz0
              go_wp2_with fail
              go_ret
              exact ⟨by rw [HR.out, HFC.out]; rfl, by rw [if_neg HBIG.out, HFC.out]; exact HT3.out, HG3.out⟩
      · have hz : ¬ (i : Int) < (l.length : Int) := by omega
        obtain rfl : i = l.length := by omega
        rw [List.drop_length, List.take_length] at hfl
        rw [List.take_length] at hT
        have hz2 : fillGo [] l = (l, 0) := by rw [hfl]; rfl
        have HZ := Lib.hid hz2
        have HT := Lib.hid hT
        have HG := Lib.hid hg
        clear hz2 hfl hT hg
        go_wp2_with fail
        go_ret
        exact ⟨by rw [HR.out, HZ.out]; rfl, by rw [if_neg HBIG.out, HZ.out]; exact HT.out, HG.out⟩
end Go.Proofs.YtdcghpeomaailaaDoor
