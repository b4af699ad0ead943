/-
  The walk of (*Tree).Remove.
-/
import Derived.Test.YtdcghpeomaailaaDoorFtAt
import Derived.Test.YtdcghpeomaailaaDoorFtEnts
namespace Go.Proofs.YtdcghpeomaailaaDoor
open Go.RowKit Go.Lib Ft

/-- What an operation leaves. -/
def OpOk (r : List Ent × Int) (tb mb : Nat) (w : World) (e' : Ending) (w' : World) : Prop :=
  e' = .returned (.int .i64 r.2) ∧ TreeMem w' tb mb r.1 ∧ w.grownBy w' (some mb)

/-- Deleting the paths of a list, one after the other. -/
def DelRel (t : List Ent) (ps : List Pn.B) (tb mb : Nat) (w : World) (v : Value) (gg : Nat) (wr : World) : Prop :=
  ∃ i : Nat, v = .int .i64 i ∧ i ≤ ps.length ∧ ps.length - i ≤ gg ∧ TreeMem wr tb mb (t.filter fun e => !(ps.take i).contains e.path) ∧ w.grownBy wr (some mb)

theorem del_step (t : List Ent) (ps : List Pn.B) {i : Nat} (hi : i < ps.length) : ((t.filter fun e => !(ps.take i).contains e.path).filter fun e => e.path != ps[i]) = t.filter fun e => !(ps.take (i + 1)).contains e.path := by
  rw [List.filter_filter, List.take_succ_eq_append_getElem hi]
  apply List.filter_congr
  intro x _
  simp only [List.contains_append, List.contains_cons, List.contains_nil, Bool.or_false, Bool.not_or, bne]
  rw [Bool.and_comm]

theorem del_all (t : List Ent) (ps : List Pn.B) (p : Pn.B) (h : ps = (under t p).map fun e => e.path) (hf : find t p ≠ none ∨ p = []) (hs : SortedT t) : (t.filter fun e => !(ps.take ps.length).contains e.path) = t.filter fun e => !Pn.withinP p e.path := by
  apply List.filter_congr
  intro x hx
  rw [List.take_length]
  congr 1
  rw [Bool.eq_iff_iff, List.contains_iff_mem, h, under_eq hf]
  constructor
  · intro h1
    obtain ⟨y, hy, hyx⟩ := List.mem_map.1 h1
    obtain ⟨hy1, hy2⟩ := List.mem_filter.1 hy
    rw [hs.one hy1 hx hyx] at hy2
    exact hy2
  · intro h1
    exact List.mem_map.2 ⟨x, List.mem_filter.2 ⟨hx, h1⟩, rfl⟩

set_option maxHeartbeats 2000000 in
set_option maxRecDepth 100000 in
theorem remove_any (t : List Ent) (tb mb : Nat) (path : Pn.B) (bl : Bool) (w : World) (hT : TreeMem w tb mb t) (hE : Env w) (hp : path.length < 4294967281) :
    Calls Tryd.prog 19 #[.pointer (some ⟨tb, 0, none⟩), S path, .bool bl] w (OpOk (remove t path bl) tb mb w) := by
  have HV := Lib.hid (valid_any ⟨path.toArray⟩ w hp hE)
  rw [show (⟨path.toArray⟩ : ByteArray).data.toList = path from rfl] at HV
  cases hv : Pn.validP path with
  | false =>
    rw [hv] at HV
    have HR := Lib.hid (show remove t path bl = (t, 1) by unfold remove; rw [if_pos hv])
    have HT := Lib.hid hT
    clear hT hE hv
    go_enter Tryd.func19, Tryd.ntmps19
    go_wp2_with fail
    refine HV.out.mono ?_
    rintro e' w1 ⟨rfl, hb⟩
    have HB := Lib.hid hb
    clear hb
    go_wp2_with fail
    go_ret
    exact ⟨by rw [HR.out]; rfl, by rw [HR.out]; exact HT.out.below HB.out, grown_below HB.out _⟩
  | true =>
    rw [hv] at HV
    have HAT := Lib.hid fun W (h : TreeMem W tb mb t) (h2 : Env W) => at_any t tb mb path W h h2 hp
    have HVV := Lib.hid hv
    have HT := Lib.hid hT
    have HE := Lib.hid hE
    clear hT hE hv
    obtain ⟨u, hu⟩ : ∃ u, under t path = u := ⟨_, rfl⟩
    have hul : u.length ≤ 4096 := by
      have h1 := HT.out.few
      have h2 : u.length ≤ t.length := by
        rw [← hu]; unfold under; split
        · simp
        · exact List.length_filter_le _ _
      omega
    by_cases h0 : u.length = 0
    · have HR := Lib.hid (show remove t path bl = (t, 4) by unfold remove; rw [if_neg (by rw [HVV.out]; simp), hu, if_pos h0])
      have hz : ((u.length : Int) == 0) = true := by rw [h0]; rfl
      have HU := Lib.hid hu
      clear hu h0
      go_enter Tryd.func19, Tryd.ntmps19
      go_wp2_with fail
      refine HV.out.mono ?_
      rintro e' w1 ⟨rfl, hb⟩
      have HB := Lib.hid hb
      clear hb
      go_wp2_with fail
      refine (HAT.out w1 (HT.out.below HB.out) (HE.out.below HB.out)).mono ?_
      rintro e' w2 ⟨va, vc, rfl, _, hb⟩
      rw [HU.out]
      have HB2 := Lib.hid (below_then HB.out hb)
      clear hb
      go_wp2_with fail
      go_ret
      exact ⟨by rw [HR.out]; rfl, by rw [HR.out]; exact HT.out.below HB2.out, grown_below HB2.out _⟩
    · have hz : ((u.length : Int) == 0) = false := by rw [beq_eq_false_iff_ne]; omega
      by_cases h1 : 1 < u.length ∧ bl = false
      · obtain ⟨h1, rfl⟩ := h1
        have HR := Lib.hid (show remove t path false = (t, 6) by unfold remove; rw [if_neg (by rw [HVV.out]; simp), hu, if_neg h0, if_pos ⟨h1, rfl⟩])
        have hz1 : decide ((1 : Int) < (u.length : Int)) = true := by rw [decide_eq_true_iff]; omega
        have HU := Lib.hid hu
        clear hu h0 h1
        go_enter Tryd.func19, Tryd.ntmps19
        go_wp2_with fail
        refine HV.out.mono ?_
        rintro e' w1 ⟨rfl, hb⟩
        have HB := Lib.hid hb
        clear hb
        go_wp2_with fail
        refine (HAT.out w1 (HT.out.below HB.out) (HE.out.below HB.out)).mono ?_
        rintro e' w2 ⟨va, vc, rfl, _, hb⟩
        rw [HU.out]
        have HB2 := Lib.hid (below_then HB.out hb)
        clear hb
        go_wp2_with fail
        go_ret
        exact ⟨by rw [HR.out]; rfl, by rw [HR.out]; exact HT.out.below HB2.out, grown_below HB2.out _⟩
      · have HR := Lib.hid (show remove t path bl = (t.filter (fun e => !Pn.withinP path e.path), 0) by unfold remove; rw [if_neg (by rw [HVV.out]; simp), hu, if_neg h0, if_neg h1])
        have hfp : find t path ≠ none ∨ path = [] := Decidable.byContradiction fun h => by
          have h1 : find t path = none := Decidable.byContradiction fun e => h (.inl e)
          have h2 : path ≠ [] := fun e => h (.inr e)
          rw [under_nil h1 h2] at hu
          exact h0 (by rw [← hu]; rfl)
        obtain ⟨ps, hps⟩ : ∃ ps, ps = (under t path).map fun e => e.path := ⟨_, rfl⟩
        have HALL := Lib.hid (del_all t ps path hps hfp HT.out.sorted)
        have hpl : ps.length = u.length := by rw [hps, hu]; simp
        have HPS := Lib.hid hps
        have HLEN := Lib.hid fun p (hp : p ∈ ps) => show p.length ≤ 4294967296 from by
          rw [HPS.out] at hp
          obtain ⟨e, he, rfl⟩ := List.mem_map.1 hp
          have := valid_path_len (HT.out.good e (under_sub he).1)
          omega
        have hcase : decide ((1 : Int) < (u.length : Int)) = false ∨ (decide ((1 : Int) < (u.length : Int)) = true ∧ bl = true) := by
          by_cases hx : 1 < u.length
          · exact .inr ⟨by rw [decide_eq_true_iff]; omega, by
              cases bl with
              | true => rfl
              | false => exact absurd ⟨hx, rfl⟩ h1⟩
          · exact .inl (by rw [decide_eq_false_iff_not]; omega)
        have HU := Lib.hid hu
        clear hu h1 hps hfp
        go_enter Tryd.func19, Tryd.ntmps19
        go_wp2_with fail
        refine HV.out.mono ?_
        rintro e' w1 ⟨rfl, hb⟩
        have HB := Lib.hid hb
        clear hb
        go_wp2_with fail
        refine (HAT.out w1 (HT.out.below HB.out) (HE.out.below HB.out)).mono ?_
        rintro e' w2 ⟨va, vc, rfl, hrow, hb⟩
        have HROW := Lib.hid hrow
        rw [HU.out] at HROW
        rw [HU.out]
        have HB2 := Lib.hid (below_then HB.out hb)
        clear hb hrow
        rcases hcase with hz1 | ⟨hz1, rfl⟩
        all_goals go_wp2_with fail
        all_goals (
          go_loopg [30] u.length (fun gg v wr => DelRel t ps tb mb w2 v gg wr)
          case atStart => exact ⟨0, rfl, Nat.zero_le _, by omega, by simpa [List.filter_eq_self.2] using HT.out.below HB2.out, grown_below (Below.refl _ _) _⟩
          case round =>
            obtain ⟨i, rfl, hi, hgg, hT, hg⟩ := hrel
            by_cases hlt : i < ps.length
            · have hz3 : (i : Int) < (u.length : Int) := by omega
              rcases HROW.out with hnil | ⟨g, rfl, hge, hglt, hrow⟩
              · rw [hnil] at h0; exact absurd rfl h0
              have hrow2 := hrow.kept hglt hg (by rintro r e; cases e; exact (HT.out.below HB2.out).noCells)
              have r0 := hrow2 i (by rw [List.length_map]; omega)
              rw [Nat.zero_add] at r0
              simp only [List.getElem_map] at r0
              have hps2 : ps[i] = (u[i]'(by omega)).path := by
                simp only [HPS.out, HU.out, List.getElem_map]
              rw [← hps2] at r0
              have hct := hT.cell
              obtain ⟨w4, hrun, hT4, hg4⟩ := hT.del ps[i] (HLEN.out _ (List.getElem_mem hlt)) 0
              rw [del_step t ps hlt] at hT4
              generalize ps[i] = pi at *
              have HT4 := Lib.hid hT4
              have HG4 := Lib.hid (hg.trans hg4)
              clear hrow hrow2 hT hg hT4 hg4 hps2
              go_wp2_with fail
              go_roundg (u.length - (i + 1))
              case measure => omega
              case rel => exact ⟨i + 1, by go_num, by omega, by omega, HT4.out, HG4.out⟩
            · have hz3 : ¬ (i : Int) < (u.length : Int) := by omega
              obtain rfl : i = ps.length := by omega
              rw [HALL.out] at hT
              have HT4 := Lib.hid hT
              have HG4 := Lib.hid hg
              clear hT hg
              go_wp2_with fail
              go_ret
              exact ⟨by rw [HR.out]; rfl, by rw [HR.out]; exact HT4.out, grown_then HB2.out HG4.out⟩)

end Go.Proofs.YtdcghpeomaailaaDoor
