/-
  The walk of kinkeeplaw20.FiletreePuts: it answers true.
-/
import Derived.Test.YtdcghpeomaailaaDoorFtLawP
namespace Go.Proofs.YtdcghpeomaailaaDoor
open Go.RowKit Go.Lib Ft

set_option maxHeartbeats 8000000 in
set_option maxRecDepth 100000 in
theorem puts_any (l : List OpE) (va : Option Addr) (vc : Nat) (e : Ent) (da : Option Addr) (dc : Nat) (other : Pn.B) (w : World) (hl : l.length ≤ 9223372036854775807) (hE : Env w) (hA : OpsAt w va l) (hd : e.data.length ≤ dc) (hby : BytesAt w da e.data) :
    Calls Tryd.prog 3 #[.slice va l.length vc, entV e da dc, S other] w fun e' w' => e' = .returned (.bool true) ∧ Below w.heap.size w w' := by
  have hb0 := box_below w e da dc
  have Q0 := Lib.hid (entBox_new w e da dc)
  have B0 := Lib.hid hb0
  have HAW := Lib.hid (awake_any _ (hE.below hb0))
  have HE := Lib.hid hE
  have HA := Lib.hid hA
  have HBY := Lib.hid hby
  have HWD := Lib.hid fun w h => wide_any l va vc w hl h
  clear hE hA hby hb0
  go_enter Tryd.func3, Tryd.ntmps3
  go_wp2_with fail
  refine HAW.out.mono ?_
  rintro e' w1 ⟨rfl, hb⟩
  have B1 := Lib.hid (below_then B0.out hb)
  have Q1 := Lib.hid (Q0.out.below hb)
  clear hb
  go_wp2_with fail
  refine (HWD.out w1 (HA.out.below B1.out)).mono ?_
  rintro e' w2 ⟨rfl, hb⟩
  have B2 := Lib.hid (below_then B1.out hb)
  have Q2 := Lib.hid (Q1.out.below hb)
  clear hb
  cases hwd : wideP l with
  | true =>
    go_wp2_with fail
    go_ret
    exact ⟨rfl, B2.out⟩
  | false =>
    obtain ⟨hl30, hbigs⟩ := wide_not hwd
    have HOK := Lib.hid fun x (hx : x ∈ l) => okOp (hbigs x hx)
    clear hwd hbigs
    have hb2 := box_below w2 e da dc
    have HL := Lib.hid (large_any [e] _ 1 1 _ (by simp) (one_ent e hd (HBY.out.below B2.out)))
    rw [large_one] at HL
    simp only [List.length_cons, List.length_nil, Nat.reduceAdd] at HL
    have B2' := Lib.hid (below_then B2.out hb2)
    have Q2' := Lib.hid (Q2.out.below hb2)
    obtain ⟨c0, c1, c2, c3, c4, c5⟩ := Q2.out.cells
    clear hb2
    go_wp2_with fail
    refine HL.out.mono ?_
    rintro e' w3 ⟨rfl, hb⟩
    have B3 := Lib.hid (below_then B2'.out hb)
    have Q3 := Lib.hid (Q2'.out.below hb)
    clear hb c0 c1 c2 c3 c4 c5
    cases hbig : bigE e with
    | true =>
      go_wp2_with fail
      go_ret
      exact ⟨rfl, B3.out⟩
    | false =>
      by_cases hol : 600 < other.length
      · have q : (600 : Int) < (other.length : Int) := by omega
        go_wp2_with fail
        go_ret
        exact ⟨rfl, B3.out⟩
      · have q : ¬ (600 : Int) < (other.length : Int) := by omega
        have hel : e.path.length ≤ 600 ∧ e.data.length ≤ 100 ∧ e.link.length ≤ 600 := by
          unfold bigE at hbig
          simp only [Bool.or_eq_false_iff, decide_eq_false_iff_not, Nat.not_lt] at hbig
          exact ⟨hbig.1.1, hbig.1.2, hbig.2⟩
        obtain ⟨hep, hed, hek⟩ := hel
        have HP := Lib.hid (play_any l va vc w3 (by omega) (HE.out.below B3.out) (HA.out.below B3.out) HOK.out)
        unfold PlayOk at HP
        have HT := Lib.hid (play_tree l)
        generalize playP l = t at *
        clear hbig
        go_wp2_with fail
        refine HP.out.mono ?_
        rintro e' w4 ⟨tb, mb, rfl, hn⟩
        have B4 := Lib.hid (below_then B3.out hn.below)
        have Q4 := Lib.hid (Q3.out.below hn.below)
        have T4 := Lib.hid hn.tree
        have M4 := Lib.hid (Nat.le_trans B3.out.size hn.mb)
        clear hn
        have HG := Lib.hid fun (t : List Ent) w (h : TreeMem w tb mb t) => get_any t tb mb other w h (by omega)
        have HGE := Lib.hid fun (t : List Ent) w (h : TreeMem w tb mb t) => get_any t tb mb e.path w h (by omega)
        have HEN := Lib.hid fun (t : List Ent) w (h : TreeMem w tb mb t) (hE : Env w) => entries_any t tb mb w h hE
        unfold EntsOut at HEN
        have HPU := Lib.hid fun w (h : TreeMem w tb mb t) (hE : Env w) (hb : BytesAt w da e.data) => put_any t tb mb e da dc w h hE (by omega) (by omega) hb
        unfold PutOk at HPU
        go_wp2_with fail
        refine (HG.out t w4 T4.out).mono ?_
        rintro e' w5 ⟨va5, rfl, hby5, _, hb⟩
        obtain ⟨x5, hx5⟩ : ∃ x, (find t other).getD zeroE = x := ⟨_, rfl⟩
        obtain ⟨s5, hs5⟩ : ∃ s, (find t other).isSome = s := ⟨_, rfl⟩
        rw [hx5] at hby5
        rw [hx5, hs5]
        have hb5 := box_below w5 x5 va5 x5.data.length
        have R5 := Lib.hid (entBox_new w5 x5 va5 x5.data.length)
        have Y5 := Lib.hid (hby5.below hb5)
        have B5 := Lib.hid (below_then B4.out (below_then hb hb5))
        have Q5 := Lib.hid (Q4.out.below (below_then hb hb5))
        have T5 := Lib.hid (T4.out.below (below_then hb hb5))
        have X5 := Lib.hid hx5
        have S5 := Lib.hid hs5
        clear hb hb5 hby5 hx5 hs5
        go_wp2_with fail
        refine (HEN.out t _ T5.out (HE.out.below B5.out)).mono ?_
        rintro e' w6 ⟨va6, vc6, l6, rfl, _, _, hb⟩
        have B6 := Lib.hid (below_then B5.out hb)
        have Q6 := Lib.hid (Q5.out.below hb)
        have R6 := Lib.hid (R5.out.below hb)
        have Y6 := Lib.hid (Y5.out.below hb)
        have T6 := Lib.hid (T5.out.below hb)
        obtain ⟨c0, c1, c2, c3, c4, c5⟩ := Q6.out.cells
        clear hb c1 c2 c3 c4 c5
        go_wp2_with fail
        refine (HGE.out t w6 T6.out).mono ?_
        rintro e' w7 ⟨va7, rfl, _, _, hb⟩
        obtain ⟨s7, hs7⟩ : ∃ s, (find t e.path).isSome = s := ⟨_, rfl⟩
        rw [hs7]
        generalize (find t e.path).getD zeroE = x7
        have hb7 := box_below w7 x7 va7 x7.data.length
        have B7 := Lib.hid (below_then B6.out (below_then hb hb7))
        have Q7 := Lib.hid (Q6.out.below (below_then hb hb7))
        have R7 := Lib.hid (R6.out.below (below_then hb hb7))
        have Y7 := Lib.hid (Y6.out.below (below_then hb hb7))
        have T7 := Lib.hid (T6.out.below (below_then hb hb7))
        have S7 := Lib.hid hs7
        obtain ⟨c0', c1, c2, c3, c4, c5⟩ := Q7.out.cells
        clear hb hb7 hs7 c0
        go_wp2_with fail
        refine (HPU.out _ T7.out (HE.out.below B7.out) (HBY.out.below B7.out)).mono ?_
        rintro e' w8 ⟨rfl, hT8, hg8⟩
        have B8 := Lib.hid (B7.out.grown hg8 B7.out.size (fun k e => by cases e; exact Nat.le_trans M4.out (Nat.le_refl _)))
        have Q8 := Lib.hid (Q7.out.kept hg8 T7.out.noRow)
        have R8 := Lib.hid (R7.out.kept hg8 T7.out.noRow)
        have Y8 := Lib.hid (Y7.out.kept hg8 (noRow_cells T7.out.noRow))
        have E8 := Lib.hid (HBY.out.below B8.out)
        clear c0' c1 c2 c3 c4 c5
        by_cases hz : (put t e).2 = 0
        · have hq : ((put t e).2 == 0) = true := by rw [hz]; rfl
          rw [put_ok hz] at hT8
          have T8 := Lib.hid hT8
          have hfe := find_insE HT.out.sorted e e.path
          rw [if_pos rfl] at hfe
          have hlen := insE_len (e := e) HT.out.sorted
          have hfo := find_insE HT.out.sorted e other
          obtain ⟨c0, c1, c2, c3, c4, c5⟩ := Q8.out.cells
          have HGE9 := Lib.hid (HGE.out (insE e t) w8 hT8)
          rw [hfe] at HGE9
          simp only [Option.getD_some, Option.isSome_some] at HGE9
          have HLEN := Lib.hid hlen
          have HFO := Lib.hid hfo
          clear hz hT8 hg8 hfe hlen hfo c1 c2 c3 c4 c5
          go_wp2_with fail
          refine HGE9.out.mono ?_
          rintro e' w9 ⟨va9, rfl, hby9, _, hb⟩
          have hb9 := box_below w9 e va9 e.data.length
          have B9 := Lib.hid (below_then B8.out (below_then hb hb9))
          have Q9 := Lib.hid (Q8.out.below (below_then hb hb9))
          have R9 := Lib.hid (R8.out.below (below_then hb hb9))
          have Y9 := Lib.hid (Y8.out.below (below_then hb hb9))
          have T9 := Lib.hid (T8.out.below (below_then hb hb9))
          have P9 := Lib.hid (entBox_new w9 e va9 e.data.length)
          have V9 := Lib.hid (hby9.below hb9)
          clear hb hb9 hby9 c0
          go_wp2_with fail
          refine (HG.out (insE e t) _ T9.out).mono ?_
          rintro e' w10 ⟨va10, rfl, hby10, _, hb⟩
          obtain ⟨x10, hx10⟩ : ∃ x, (find (insE e t) other).getD zeroE = x := ⟨_, rfl⟩
          obtain ⟨s10, hs10⟩ : ∃ s, (find (insE e t) other).isSome = s := ⟨_, rfl⟩
          rw [hx10] at hby10
          rw [hx10, hs10]
          have hb10 := box_below w10 x10 va10 x10.data.length
          have B10 := Lib.hid (below_then B9.out (below_then hb hb10))
          have Q10 := Lib.hid (Q9.out.below (below_then hb hb10))
          have R10 := Lib.hid (R9.out.below (below_then hb hb10))
          have Y10 := Lib.hid (Y9.out.below (below_then hb hb10))
          have T10 := Lib.hid (T9.out.below (below_then hb hb10))
          have P10 := Lib.hid (P9.out.below (below_then hb hb10))
          have V10 := Lib.hid (V9.out.below (below_then hb hb10))
          have O10 := Lib.hid (entBox_new w10 x10 va10 x10.data.length)
          have Z10 := Lib.hid (hby10.below hb10)
          have X10 := Lib.hid hx10
          have S10 := Lib.hid hs10
          obtain ⟨c0, c1, c2, c3, c4, c5⟩ := Q10.out.cells
          obtain ⟨d0, d1, d2, d3, d4, d5⟩ := P10.out.cells
          clear hb hb10 hby10 hx10 hs10
          have HS := Lib.hid (sameR_any e e va9 da e.data.length dc _ V10.out (HBY.out.below B10.out))
          simp only [decide_true] at HS
          have hnz : (if s7 = true then (t.length : Int) else (t.length : Int) + 1) = ((insE e t).length : Int) := by
            rw [HLEN.out]
            have := S7.out
            cases hf : find t e.path with
            | none => rw [hf] at this; simp at this; subst this; simp
            | some y => rw [hf] at this; simp at this; subst this; simp
          have HNZ := Lib.hid hnz
          have htl : (t.length : Int) ≤ 4096 := by have := T7.out.few; omega
          clear hnz
          by_cases hoe : other = e.path
          · have hoq : (other == e.path) = true := by rw [hoe, beq_iff_eq]
            clear hoe
            cases s7
            all_goals simp only [Bool.false_eq_true, ↓reduceIte] at HNZ
            all_goals go_wp2_with fail
            all_goals refine HS.out.mono ?_
            all_goals rintro e' w11 ⟨rfl, hb⟩
            all_goals have B11 := Lib.hid (below_then B10.out hb)
            all_goals have Q11 := Lib.hid (Q10.out.below hb)
            all_goals have R11 := Lib.hid (R10.out.below hb)
            all_goals have Y11 := Lib.hid (Y10.out.below hb)
            all_goals have T11 := Lib.hid (T10.out.below hb)
            all_goals have O11 := Lib.hid (O10.out.below hb)
            all_goals have Z11 := Lib.hid (Z10.out.below hb)
            all_goals clear hb c0 c1 c2 c3 c4 c5 d0 d1 d2 d3 d4 d5
            all_goals obtain ⟨c0, c1, c2, c3, c4, c5⟩ := Q11.out.cells
            all_goals clear c1 c2 c3 c4 c5
            all_goals go_wp2_with fail
            all_goals refine (HEN.out _ w11 T11.out (HE.out.below B11.out)).mono ?_
            all_goals rintro e' w13 ⟨va13, vc13, l13, rfl, _, _, hb⟩
            all_goals have B13 := Lib.hid (below_then B11.out hb)
            all_goals clear hb
            all_goals have hnq := (beq_iff_eq (α := Int)).2 HNZ.out.symm
            all_goals go_wp2_with fail
            all_goals go_ret
            all_goals exact ⟨rfl, B13.out⟩
          · have hoq : (other == e.path) = false := beq_eq_false_iff_ne.2 hoe
            have hfo := HFO.out
            rw [if_neg hoe] at hfo
            have hx : x10 = x5 := by rw [← X10.out, ← X5.out, hfo]
            have hs : s10 = s5 := by rw [← S10.out, ← S5.out, hfo]
            clear hoe hfo
            subst hx hs
            cases s7
            all_goals simp only [Bool.false_eq_true, ↓reduceIte] at HNZ
            all_goals go_wp2_with fail
            all_goals refine HS.out.mono ?_
            all_goals rintro e' w11 ⟨rfl, hb⟩
            all_goals have B11 := Lib.hid (below_then B10.out hb)
            all_goals have Q11 := Lib.hid (Q10.out.below hb)
            all_goals have R11 := Lib.hid (R10.out.below hb)
            all_goals have Y11 := Lib.hid (Y10.out.below hb)
            all_goals have T11 := Lib.hid (T10.out.below hb)
            all_goals have O11 := Lib.hid (O10.out.below hb)
            all_goals have Z11 := Lib.hid (Z10.out.below hb)
            all_goals clear hb c0 c1 c2 c3 c4 c5 d0 d1 d2 d3 d4 d5
            all_goals obtain ⟨c0, c1, c2, c3, c4, c5⟩ := Q11.out.cells
            all_goals clear c1 c2 c3 c4 c5
            all_goals obtain ⟨d0, d1, d2, d3, d4, d5⟩ := R11.out.cells
            all_goals obtain ⟨g0, g1, g2, g3, g4, g5⟩ := O11.out.cells
            all_goals have HS2 := Lib.hid (sameR_any x10 x10 va5 va10 x10.data.length x10.data.length _ Y11.out Z11.out)
            all_goals simp only [decide_true] at HS2
            all_goals go_wp2_with fail
            all_goals refine HS2.out.mono ?_
            all_goals rintro e' w12 ⟨rfl, hb⟩
            all_goals have B12 := Lib.hid (below_then B11.out hb)
            all_goals have T12 := Lib.hid (T11.out.below hb)
            all_goals clear hb c0 d0 d1 d2 d3 d4 d5 g0 g1 g2 g3 g4 g5
            all_goals go_wp2_with fail
            all_goals refine (HEN.out _ w12 T12.out (HE.out.below B12.out)).mono ?_
            all_goals rintro e' w13 ⟨va13, vc13, l13, rfl, _, _, hb⟩
            all_goals have B13 := Lib.hid (below_then B12.out hb)
            all_goals clear hb
            all_goals have hnq := (beq_iff_eq (α := Int)).2 HNZ.out.symm
            all_goals go_wp2_with fail
            all_goals go_ret
            all_goals exact ⟨rfl, B13.out⟩
        · have hq : ((put t e).2 == 0) = false := beq_eq_false_iff_ne.2 hz
          clear hz hT8 hg8
          go_wp2_with fail
          go_ret
          exact ⟨rfl, B8.out⟩

end Go.Proofs.YtdcghpeomaailaaDoor
