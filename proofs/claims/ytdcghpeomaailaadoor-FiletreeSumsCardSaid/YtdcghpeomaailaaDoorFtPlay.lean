/-
  The walks of kinkeeplaw20's wide, do, play.
-/
import Derived.Test.YtdcghpeomaailaaDoorFtOps
import Derived.Test.YtdcghpeomaailaaDoorFtSmall
namespace Go.Proofs.YtdcghpeomaailaaDoor
open Go.RowKit Go.Lib Ft

theorem large_one (e : Ent) : largeP [e] 1 = bigE e := by unfold largeP; simp

set_option maxHeartbeats 2000000 in
set_option maxRecDepth 100000 in
theorem wide_any (l : List OpE) (va : Option Addr) (vc : Nat) (w : World) (hl : l.length ≤ 9223372036854775807) (hA : OpsAt w va l) :
    Calls Tryd.prog 11 #[.slice va l.length vc] w fun e' w' => e' = .returned (.bool (wideP l)) ∧ Below w.heap.size w w' := by
  have HA := Lib.hid hA
  clear hA
  go_enter Tryd.func11, Tryd.ntmps11
  go_wp2_with fail
  go_loopg [7] l.length (fun gg v wr => ∃ i : Nat, v = .int .i64 i ∧ i ≤ l.length ∧ l.length - i ≤ gg ∧ Hid (∀ j (h : j < l.length), j < i → bigO l[j] = false) ∧ Below w.heap.size w wr)
  case atStart => exact ⟨0, rfl, Nat.zero_le _, by omega, fun _ _ h => absurd h (Nat.not_lt_zero _), Below.refl _ _⟩
  case round =>
    obtain ⟨i, rfl, hi, hgg, hno, hb⟩ := hrel
    by_cases hlt : i < l.length
    · have hz : (i : Int) < (l.length : Int) := by omega
      obtain ⟨g, off, da, dc, rfl, hg, r0, r1, r2, r3, r4, r5, r6, r7, r8, r9, hdc, hby⟩ := (HA.out.below hb).get hlt
      obtain ⟨x, hx⟩ : ∃ x, l[i] = x := ⟨_, rfl⟩
      rw [hx] at r0 r1 r2 r3 r4 r5 r6 r7 r8 r9 hdc hby
      have HX := Lib.hid hx
      have hA1 : Below wr.heap.size wr (wr.alloc (.cells #[.int .i64 x.kind, S x.entry.path, .int .i64 x.entry.kind, .int .i64 x.entry.mode, .int .i64 x.entry.time, .slice da x.entry.data.length dc, S x.entry.link, S x.src, S x.dst, .bool x.below] 64)) := (Below.refl _ _).alloc (Nat.le_refl _) _
      have HB := Lib.hid (below_then hb hA1)
      have hone := one_ent x.entry hdc (hby.below hA1)
      have HL := Lib.hid (large_any [x.entry] _ 1 1 _ (by simp) hone)
      rw [large_one] at HL
      simp only [List.length_cons, List.length_nil, Nat.reduceAdd, World.size_alloc] at HL
      have HA2 := Lib.hid (show Below wr.heap.size wr ((wr.alloc (.cells #[.int .i64 x.kind, S x.entry.path, .int .i64 x.entry.kind, .int .i64 x.entry.mode, .int .i64 x.entry.time, .slice da x.entry.data.length dc, S x.entry.link, S x.src, S x.dst, .bool x.below] 64)).alloc (.cells #[S x.entry.path, .int .i64 x.entry.kind, .int .i64 x.entry.mode, .int .i64 x.entry.time, .slice da x.entry.data.length dc, S x.entry.link] 25)) from hA1.alloc (by simp) _)
      have HB0 := Lib.hid hb
      clear hx hby hb hA1 hone hdc
      have fin : bigO x = true → wideP l = true := fun h => by
        unfold wideP
        rw [List.any_eq_true.2 ⟨x, HX.out ▸ List.getElem_mem hlt, h⟩]; rfl
      have FIN := Lib.hid fin
      clear fin
      by_cases h1 : 600 < x.src.length
      · have q1 : (600 : Int) < (x.src.length : Int) := by omega
        have HF := Lib.hid (FIN.out (by unfold bigO; simp [h1]))
        clear h1
        go_wp2_with fail
        go_ret
        exact ⟨by rw [HF.out]; rfl, HB.out⟩
      · have q1 : ¬ (600 : Int) < (x.src.length : Int) := by omega
        by_cases h2 : 600 < x.dst.length
        · have q2 : (600 : Int) < (x.dst.length : Int) := by omega
          have HF := Lib.hid (FIN.out (by unfold bigO; simp [h2]))
          clear h1 h2
          go_wp2_with fail
          go_ret
          exact ⟨by rw [HF.out]; rfl, HB.out⟩
        · have q2 : ¬ (600 : Int) < (x.dst.length : Int) := by omega
          cases h3 : bigE x.entry with
          | true =>
            have HF := Lib.hid (FIN.out (by unfold bigO; simp [h3]))
            rw [h3] at HL
            clear h1 h2 h3
            go_wp2_with fail
            refine HL.out.mono ?_
            rintro e' w1 ⟨rfl, hb1⟩
            have HB1 := Lib.hid (below_then HB0.out (HA2.out.trans (hb1.mono (by omega))))
            clear hb1
            go_wp2_with fail
            go_ret
            exact ⟨by rw [HF.out]; rfl, HB1.out⟩
          | false =>
            have HN := Lib.hid (show bigO x = false by unfold bigO; simp [h1, h2, h3])
            rw [h3] at HL
            clear h1 h2 h3
            go_wp2_with fail
            refine HL.out.mono ?_
            rintro e' w1 ⟨rfl, hb1⟩
            have HB1 := Lib.hid (below_then HB0.out (HA2.out.trans (hb1.mono (by omega))))
            clear hb1
            go_wp2_with fail
            go_roundg (l.length - (i + 1))
            case measure => omega
            case rel =>
              refine ⟨i + 1, by go_num, by omega, by omega, fun j hj hji => ?_, HB1.out⟩
              by_cases e : j = i
              · subst e; rw [HX.out]; exact HN.out
              · exact hno.out j hj (by omega)
    · have hz : ¬ (i : Int) < (l.length : Int) := by omega
      have HN := Lib.hid (show l.any bigO = false from by
        rw [List.any_eq_false]
        intro x hx
        obtain ⟨j, hj, rfl⟩ := List.getElem_of_mem hx
        rw [hno.out j hj (by omega)]; decide)
      by_cases hm : 30 < l.length
      · have q : (30 : Int) < (l.length : Int) := by omega
        have HF := Lib.hid (show wideP l = true by unfold wideP; simp [hm])
        clear hm
        go_wp2_with fail
        go_ret
        exact ⟨by rw [HF.out]; rfl, hb⟩
      · have q : ¬ (30 : Int) < (l.length : Int) := by omega
        have HF := Lib.hid (show wideP l = false by unfold wideP; rw [HN.out]; simp; omega)
        clear hm
        go_wp2_with fail
        go_ret
        exact ⟨by rw [HF.out]; rfl, hb⟩

/-- The sizes of an operation that a call of do can bear. -/
structure OkOp (x : OpE) : Prop where
  path : x.entry.path.length < 4294960000
  link : x.entry.link.length < 4294960000
  src : x.src.length < 4294960000
  dst : x.dst.length < 4294960000

theorem okOp {x : OpE} (h : bigO x = false) : OkOp x := by
  obtain ⟨h1, h2, h3, h4, h5⟩ := bigO_not h
  exact ⟨by omega, by omega, by omega, by omega⟩

set_option maxHeartbeats 2000000 in
set_option maxRecDepth 100000 in
theorem do_any (t : List Ent) (tb mb : Nat) (x : OpE) (da : Option Addr) (dc : Nat) (w : World) (hT : TreeMem w tb mb t) (hE : Env w) (hx : OkOp x) (hby : BytesAt w da x.entry.data) :
    Calls Tryd.prog 33 #[.pointer (some ⟨tb, 0, none⟩), opV x da dc] w (OpOk (doP t x) tb mb w) := by
  have hA : Below w.heap.size w (w.alloc (.cells #[.int .i64 x.kind, S x.entry.path, .int .i64 x.entry.kind, .int .i64 x.entry.mode, .int .i64 x.entry.time, .slice da x.entry.data.length dc, S x.entry.link, S x.src, S x.dst, .bool x.below] 64)) := (Below.refl _ _).alloc (Nat.le_refl _) _
  have hT1 := hT.below hA
  have hE1 := hE.below hA
  have HB := Lib.hid hA
  obtain ⟨p1, p2, p3, p4⟩ := hx
  by_cases h1 : x.kind = 1
  · have q1 : (x.kind == 1) = true := by rw [h1]; rfl
    have HC := Lib.hid (put_any t tb mb x.entry da dc _ hT1 hE1 (by omega) (by omega) (hby.below hA))
    unfold PutOk at HC
    have HR := Lib.hid (show doP t x = put t x.entry by unfold doP; rw [if_pos h1])
    clear hA hT1 hE1 hT hE hby h1
    go_enter Tryd.func33, Tryd.ntmps33
    go_wp2_with fail
    refine HC.out.mono ?_
    rintro e' w1 ⟨rfl, hT, hg⟩
    have HT := Lib.hid hT
    have HG := Lib.hid (grown_then HB.out hg)
    clear hT hg
    go_wp2_with fail
    go_ret
    unfold OpOk
    rw [HR.out]
    exact ⟨rfl, HT.out, HG.out⟩
  · have q1 : (x.kind == 1) = false := beq_eq_false_iff_ne.2 h1
    by_cases h2 : x.kind = 2
    · have q2 : (x.kind == 2) = true := by rw [h2]; rfl
      have HC := Lib.hid (remove_any t tb mb x.src x.below _ hT1 hE1 (by omega))
      unfold OpOk at HC
      have HR := Lib.hid (show doP t x = remove t x.src x.below by unfold doP; rw [if_neg h1, if_pos h2])
      clear hA hT1 hE1 hT hE hby h1 h2
      go_enter Tryd.func33, Tryd.ntmps33
      go_wp2_with fail
      refine HC.out.mono ?_
      rintro e' w1 ⟨rfl, hT, hg⟩
      have HT := Lib.hid hT
      have HG := Lib.hid (grown_then HB.out hg)
      clear hT hg
      go_wp2_with fail
      go_ret
      unfold OpOk
      rw [HR.out]
      exact ⟨rfl, HT.out, HG.out⟩
    · have q2 : (x.kind == 2) = false := beq_eq_false_iff_ne.2 h2
      by_cases h3 : x.kind = 3
      · have q3 : (x.kind == 3) = true := by rw [h3]; rfl
        have HC := Lib.hid (move_any t tb mb x.src x.dst _ hT1 hE1 (by omega) (by omega))
        unfold OpOk at HC
        have HR := Lib.hid (show doP t x = Ft.move t x.src x.dst by unfold doP; rw [if_neg h1, if_neg h2, if_pos h3])
        clear hA hT1 hE1 hT hE hby h1 h2 h3
        go_enter Tryd.func33, Tryd.ntmps33
        go_wp2_with fail
        refine HC.out.mono ?_
        rintro e' w1 ⟨rfl, hT, hg⟩
        have HT := Lib.hid hT
        have HG := Lib.hid (grown_then HB.out hg)
        clear hT hg
        go_wp2_with fail
        go_ret
        unfold OpOk
        rw [HR.out]
        exact ⟨rfl, HT.out, HG.out⟩
      · have q3 : (x.kind == 3) = false := beq_eq_false_iff_ne.2 h3
        have HR := Lib.hid (show doP t x = (t, 0) by unfold doP; rw [if_neg h1, if_neg h2, if_neg h3])
        have HT := Lib.hid hT1
        clear hA hT1 hE1 hT hE hby h1 h2 h3
        go_enter Tryd.func33, Tryd.ntmps33
        go_wp2_with fail
        go_ret
        unfold OpOk
        rw [HR.out]
        exact ⟨rfl, HT.out, grown_below HB.out _⟩

/-- A tree of a call's own. -/
structure NewTree (w w' : World) (tb mb : Nat) (t : List Ent) : Prop where
  tree : TreeMem w' tb mb t
  below : Below w.heap.size w w'
  tb : w.heap.size ≤ tb
  mb : w.heap.size ≤ mb

theorem NewTree.grow {w w1 w2 : World} {tb mb : Nat} {t : List Ent} (h : NewTree w w1 tb mb t) (hb : Below w1.heap.size w1 w2) : NewTree w w2 tb mb t := ⟨h.tree.below hb, below_then h.below hb, h.tb, h.mb⟩
theorem NewTree.op {w w1 w2 : World} {tb mb : Nat} {t t' : List Ent} (h : NewTree w w1 tb mb t) (ht : TreeMem w2 tb mb t') (hg : w1.grownBy w2 (some mb)) : NewTree w w2 tb mb t' :=
  ⟨ht, h.below.grown hg h.below.size (fun k e => by cases e; exact h.mb), h.tb, h.mb⟩

/-- A new tree is handed back. -/
def PlayOk (t : List Ent) (w : World) (e' : Ending) (w' : World) : Prop := ∃ tb mb, e' = .returned (.pointer (some ⟨tb, 0, none⟩)) ∧ NewTree w w' tb mb t

set_option maxHeartbeats 2000000 in
set_option maxRecDepth 100000 in
theorem play_any (l : List OpE) (va : Option Addr) (vc : Nat) (w : World) (hl : l.length ≤ 4294967281) (hE : Env w) (hA : OpsAt w va l) (hx : ∀ x ∈ l, OkOp x) :
    Calls Tryd.prog 13 #[.slice va l.length vc] w (PlayOk (playP l) w) := by
  have HA := Lib.hid hA
  have HE := Lib.hid hE
  have HX := Lib.hid hx
  have HN := Lib.hid (new_any w)
  clear hA hE hx
  go_enter Tryd.func13, Tryd.ntmps13
  go_wp2_with fail
  refine HN.out.mono ?_
  rintro e' w1 ⟨tb, mb, rfl, hT, hb, h1, h2⟩
  have HN1 := Lib.hid (show NewTree w w1 tb mb [] from ⟨hT, hb, h1, h2⟩)
  clear hT hb
  go_wp2_with fail
  go_loopg [9] l.length (fun gg v wr => ∃ i : Nat, v = .int .i64 i ∧ i ≤ l.length ∧ l.length - i ≤ gg ∧ NewTree w wr tb mb (playP (l.take i)))
  case atStart => exact ⟨0, rfl, Nat.zero_le _, by omega, HN1.out⟩
  case round =>
    obtain ⟨i, rfl, hi, hgg, hn⟩ := hrel
    by_cases hlt : i < l.length
    · have hz : (i : Int) < (l.length : Int) := by omega
      obtain ⟨g, off, da, dc, rfl, hg, r0, r1, r2, r3, r4, r5, r6, r7, r8, r9, hdc, hby⟩ := (HA.out.below hn.below).get hlt
      have hpt := play_take l hlt
      have hok := HX.out _ (List.getElem_mem hlt)
      obtain ⟨x, hx⟩ : ∃ x, l[i] = x := ⟨_, rfl⟩
      rw [hx] at r0 r1 r2 r3 r4 r5 r6 r7 r8 r9 hby hpt hok
      have hA1 : Below wr.heap.size wr (wr.alloc (.cells #[.int .i64 x.kind, S x.entry.path, .int .i64 x.entry.kind, .int .i64 x.entry.mode, .int .i64 x.entry.time, .slice da x.entry.data.length dc, S x.entry.link, S x.src, S x.dst, .bool x.below] 64)) := (Below.refl _ _).alloc (Nat.le_refl _) _
      have HD := Lib.hid (do_any (playP (l.take i)) tb mb x da dc _ (hn.tree.below hA1) (HE.out.below (below_then hn.below hA1)) hok (hby.below hA1))
      unfold OpOk at HD
      have HNN := Lib.hid (hn.grow hA1)
      have HPT := Lib.hid hpt
      clear hx hby hn hA1 hpt hok
      go_wp2_with fail
      refine HD.out.mono ?_
      rintro e' w2 ⟨rfl, hT, hg⟩
      rw [← HPT.out] at hT
      have HN2 := Lib.hid (HNN.out.op hT hg)
      clear hT hg
      go_wp2_with fail
      go_roundg (l.length - (i + 1))
      case measure => omega
      case rel => exact ⟨i + 1, by go_num, by omega, by omega, HN2.out⟩
    · have hz : ¬ (i : Int) < (l.length : Int) := by omega
      obtain rfl : i = l.length := by omega
      rw [List.take_length] at hn
      have HN2 := Lib.hid hn
      clear hn
      go_wp2_with fail
      go_ret
      exact ⟨tb, mb, rfl, HN2.out⟩

end Go.Proofs.YtdcghpeomaailaaDoor
