import Derived.Test.YtdcghpeomaailaaDoorGRefF
import Derived.Test.YtdcghpeomaailaaDoorFtSame
import Derived.Test.YtdcghpeomaailaaDoorFtSmall
import Derived.Test.YtdcghpeomaailaaDoorQuieter
/-
  The walks of kinkeepref20's Find, Dir, Parent, Valid.
-/
namespace Go.Proofs.YtdcghpeomaailaaDoor
open Go.RowKit Go.Lib Ft

namespace Ft
/-- The place of a path. -/
def place (l : List Ent) (p : Pn.B) : Nat := l.findIdx (fun e => e.path == p)
def placeZ (l : List Ent) (p : Pn.B) : Int := if place l p < l.length then place l p else -1

theorem place_at {l : List Ent} {p : Pn.B} {i : Nat} (hi : i < l.length) (h : l[i].path = p) (hno : ∀ j (h : j < l.length), j < i → l[j].path ≠ p) : placeZ l p = i := by
  have : place l p = i := by
    unfold place
    rw [List.findIdx_eq hi]
    exact ⟨by simp [h], fun j hj => by simpa using hno j (by omega) hj⟩
  unfold placeZ
  rw [this, if_pos hi]
theorem place_none {l : List Ent} {p : Pn.B} (hno : ∀ j (h : j < l.length), l[j].path ≠ p) : placeZ l p = -1 := by
  unfold placeZ
  rw [if_neg]
  intro h
  have := List.findIdx_getElem (w := h)
  simp only [beq_iff_eq] at this
  exact hno _ h this
theorem find_place : ∀ (l : List Ent) (p : Pn.B), find l p = l[place l p]?
  | [], p => rfl
  | e :: l, p => by
    unfold find place
    rw [List.find?_cons, List.findIdx_cons]
    cases h : e.path == p with
    | true => simp
    | false =>
      simp only [cond_false, List.getElem?_cons_succ]
      exact find_place l p
theorem find_placeZ {l : List Ent} {p : Pn.B} : (placeZ l p = -1 ∧ find l p = none) ∨ ∃ i, ∃ h : i < l.length, placeZ l p = i ∧ find l p = some l[i] := by
  have hf := find_place l p
  unfold placeZ
  by_cases h : place l p < l.length
  · right
    exact ⟨place l p, h, by rw [if_pos h], by rw [hf, List.getElem?_eq_getElem h]⟩
  · left
    exact ⟨by rw [if_neg h], by rw [hf, List.getElem?_eq_none (by omega)]⟩
end Ft

set_option maxHeartbeats 1000000 in
set_option maxRecDepth 100000 in
/-- Find. -/
theorem refFind_any (l : List Ent) (va : Option Addr) (vc : Nat) (p : Pn.B) (w : World) (hl : l.length ≤ 4294967281) (hA : EntsAt w va l) :
    Calls Tryd.prog 69 #[.slice va l.length vc, S p] w fun e' w' => e' = .returned (.int .i64 (placeZ l p)) ∧ Below w.heap.size w w' := by
  have HA := Lib.hid hA
  clear hA
  go_enter Tryd.func69, Tryd.ntmps69
  go_wp2_with fail
  go_loopg [9] l.length (fun gg v wr => ∃ i : Nat, v = .int .i64 i ∧ i ≤ l.length ∧ l.length - i ≤ gg ∧ Hid (∀ j (h : j < l.length), j < i → l[j].path ≠ p) ∧ Below w.heap.size w wr)
  case atStart => exact ⟨0, rfl, Nat.zero_le _, by omega, fun _ _ h => absurd h (Nat.not_lt_zero _), Below.refl _ _⟩
  case round =>
    obtain ⟨i, rfl, hi, hgg, hno, hb⟩ := hrel
    by_cases hlt : i < l.length
    · have hz : (i : Int) < (l.length : Int) := by omega
      obtain ⟨g, off, da, dc, rfl, hg, r0, r1, r2, r3, r4, r5, hdc, hby⟩ := (HA.out.below hb).get hlt
      obtain ⟨e, he⟩ : ∃ e, l[i] = e := ⟨_, rfl⟩
      rw [he] at r0 r1 r2 r3 r4 r5
      have HX := Lib.hid he
      have HB := Lib.hid (below_then hb ((Below.refl _ wr).alloc (Nat.le_refl _) (.cells #[S e.path, .int .i64 e.kind, .int .i64 e.mode, .int .i64 e.time, .slice da e.data.length dc, S e.link] 25)))
      clear he hby hb
      by_cases hp : e.path = p
      · have hq : (e.path == p) = true := by rw [beq_iff_eq]; exact hp
        have HF := Lib.hid (place_at hlt (by rw [HX.out]; exact hp) hno.out)
        clear hp
        go_wp2_with fail
        go_ret
        exact ⟨by rw [HF.out]; rfl, HB.out⟩
      · have hq : (e.path == p) = false := beq_eq_false_iff_ne.2 hp
        have HP := Lib.hid hp
        clear hp
        go_wp2_with fail
        go_roundg (l.length - (i + 1))
        case measure => omega
        case rel =>
          refine ⟨i + 1, by go_num, by omega, by omega, fun j hj hji => ?_, HB.out⟩
          by_cases e : j = i
          · subst e; rw [HX.out]; exact HP.out
          · exact hno.out j hj (by omega)
    · have hz : ¬ (i : Int) < (l.length : Int) := by omega
      have HF := Lib.hid (place_none fun j hj => hno.out j hj (by omega))
      go_wp2_with fail
      go_ret
      exact ⟨by rw [HF.out]; rfl, hb⟩

set_option maxHeartbeats 1000000 in
set_option maxRecDepth 100000 in
/-- Dir. -/
theorem refDir_any (l : List Ent) (va : Option Addr) (vc : Nat) (p : Pn.B) (w : World) (hl : l.length ≤ 4294967281) (hA : EntsAt w va l) :
    Calls Tryd.prog 49 #[.slice va l.length vc, S p] w fun e' w' => e' = .returned (.int .i64 (belowE l p)) ∧ Below w.heap.size w w' := by
  have HF := Lib.hid (refFind_any l va vc p w hl hA)
  have HA := Lib.hid hA
  clear hA
  by_cases h0 : p = []
  · have hq : (p == []) = true := by rw [h0]; rfl
    have hr : belowE l p = 0 := by unfold belowE; rw [if_pos h0]
    rw [hr]
    clear h0 hr
    go_enter Tryd.func49, Tryd.ntmps49
    go_wp2_with fail
    go_ret
    exact ⟨rfl, Below.refl _ _⟩
  · have hq : (p == []) = false := by rw [beq_eq_false_iff_ne]; exact h0
    rcases find_placeZ (l := l) (p := p) with ⟨h1, h2⟩ | ⟨i, hi, h1, h2⟩
    · have hr : belowE l p = 4 := by unfold belowE; rw [if_neg h0, h2]
      rw [h1] at HF
      rw [hr]
      clear h0 hr h1 h2
      go_enter Tryd.func49, Tryd.ntmps49
      go_wp2_with fail
      refine HF.out.mono ?_
      rintro e w1 ⟨rfl, hb⟩
      go_wp2_with fail
      go_ret
      exact ⟨rfl, hb⟩
    · have hr : belowE l p = if l[i].kind = 2 then 0 else 13 := by unfold belowE; rw [if_neg h0, h2]
      rw [h1] at HF
      rw [hr]
      have hz : (i : Int) < (l.length : Int) := by omega
      clear h0 hr h1 h2
      obtain ⟨k, hk⟩ : ∃ k, l[i].kind = k := ⟨_, rfl⟩
      rw [hk]
      have HK := Lib.hid hk
      clear hk
      have hcase : (k = 2 ∧ (if k = 2 then (0 : Int) else 13) = 0) ∨ ((k == 2) = false ∧ (if k = 2 then (0 : Int) else 13) = 13) := by
        by_cases hk : k = 2
        · exact .inl ⟨hk, by rw [if_pos hk]⟩
        · exact .inr ⟨beq_eq_false_iff_ne.2 hk, by rw [if_neg hk]⟩
      rcases hcase with ⟨rfl, hr⟩ | ⟨hq2, hr⟩
      all_goals rw [hr]
      all_goals clear hr
      all_goals go_enter Tryd.func49, Tryd.ntmps49
      all_goals go_wp2_with fail
      all_goals refine HF.out.mono ?_
      all_goals rintro e w1 ⟨rfl, hb⟩
      all_goals obtain ⟨g, off, da, dc, rfl, hg, r0, r1, r2, r3, r4, r5, hdc, hby⟩ := (HA.out.below hb).get hi
      all_goals rw [HK.out] at r1
      all_goals have HB := Lib.hid hb
      all_goals clear r0 r2 r3 r4 r5 hby hb
      all_goals go_wp2_with fail
      all_goals go_ret
      all_goals exact ⟨rfl, HB.out⟩

set_option maxHeartbeats 1000000 in
set_option maxRecDepth 100000 in
/-- Parent. -/
theorem refParent_any (p : Pn.B) (w : World) (hp : p.length < 4294967270) :
    Calls Tryd.prog 50 #[S p] w fun e' w' => e' = .returned (S (Pn.parentP p)) ∧ Below w.heap.size w w' := by
  have HD := Lib.hid (divide_any ⟨p.toArray⟩ w (show p.length < _ by omega))
  unfold DivideOk at HD
  rw [show (⟨p.toArray⟩ : ByteArray).data.toList = p from rfl] at HD
  have hpos := List.length_pos_iff.2 (Pn.splitS_ne 47 p)
  have hw : weight (Pn.splitS 47 p).dropLast ≤ 4294967290 := by
    have h1 := splitS_weight 47 p
    have h2 := weight_take (Pn.splitS 47 p) ((Pn.splitS 47 p).length - 1)
    rw [← List.dropLast_eq_take] at h2
    omega
  have hln : (Pn.splitS 47 p).length ≤ 4294967280 := by have := splitS_len 47 p; omega
  have HU := Lib.hid fun va vc w h => unite_any (Pn.splitS 47 p).dropLast va vc w h hw
  have HPP := Lib.hid (show Pn.joinS 47 (Pn.splitS 47 p).dropLast = Pn.parentP p from rfl)
  rw [HPP.out] at HU
  have hdl : (Pn.splitS 47 p).dropLast.length = (Pn.splitS 47 p).length - 1 := List.length_dropLast ..
  obtain ⟨n, hn⟩ : ∃ n, (Pn.splitS 47 p).length = n + 1 := ⟨(Pn.splitS 47 p).length - 1, by omega⟩
  rw [hdl, hn, Nat.add_sub_cancel] at HU
  have HAT : ∀ (w : World) va, StrsAt w va (Pn.splitS 47 p) → StrsAt w va (Pn.splitS 47 p).dropLast := fun w va h => by
    rcases h with h | ⟨g, h1, h2, h3⟩
    · exact .inl (by rw [h]; rfl)
    · refine .inr ⟨g, h1, h2, fun i hi => ?_⟩
      rw [List.length_map, hdl] at hi
      have := h3 i (by rw [List.length_map]; omega)
      rw [this]
      simp [List.getElem_dropLast]
  have HAT := Lib.hid HAT
  rw [hn] at HD
  have hnz : (n : Int) + 1 - 1 = (n : Int) := by omega
  generalize Pn.splitS 47 p = l at *
  generalize Pn.parentP p = q at *
  clear hdl hw hpos
  go_enter Tryd.func50, Tryd.ntmps50
  go_wp2_with fail
  refine HD.out.mono ?_
  rintro e w1 ⟨hb, va, vc, rfl, hm⟩
  have hm2 : StrsMem w1 w.heap.size (.slice va l.length vc) l := by rw [hn]; exact hm
  obtain ⟨hat, hcap⟩ := strsAt_of hm2
  have HU1 := Lib.hid (HU.out va vc w1 (HAT.out w1 va hat))
  have hcz : ((n + 1 : Nat) : Int) ≤ (vc : Int) := by omega
  have hsome : (vc : Int) ≤ 9223372036854775807 ∧ ∃ g, va = some ⟨g, 0, none⟩ := by
    obtain ⟨_, ⟨hv, h0⟩ | ⟨g, cap, cur, hv, _, _, _, hmx, _⟩⟩ := hm2
    · omega
    · injection hv with e1 e2 e3
      subst e1 e3
      unfold maxLen at hmx
      exact ⟨by omega, g, rfl⟩
  obtain ⟨hvm, g, rfl⟩ := hsome
  have HB := Lib.hid hb
  clear hm hm2 hat hb hn
  go_wp2_with fail
  refine HU1.out.mono ?_
  rintro e w2 ⟨rfl, hb⟩
  have HB2 := Lib.hid (below_then HB.out hb)
  clear hb
  go_wp2_with fail
  go_ret
  exact ⟨rfl, HB2.out⟩

end Go.Proofs.YtdcghpeomaailaaDoor

/-
  The walk of kinkeepref20.Valid.
-/
namespace Go.Proofs.YtdcghpeomaailaaDoor
open Go.RowKit Go.Lib Ft

namespace Ft
def linkOk (e : Ent) : Bool := ((e.kind == 3) == (e.link != [])) && decide ((e.link.length : Int) ≤ 512)
theorem validR_eq (e : Ent) : e.valid = (Pn.validP e.path && !decide (e.mode < 0) && !decide (511 < e.mode) && !decide (e.time < 0) && !decide (e.kind < 1) && !decide (3 < e.kind) && !((e.kind != 1) && decide ((0 : Int) < (e.data.length : Int))) && !decide ((1048576 : Int) < (e.data.length : Int)) && (!e.link.contains 0 && linkOk e)) := by
  have hd : e.data.isEmpty = !decide ((0 : Int) < (e.data.length : Int)) := by cases e.data <;> simp
  have hl : e.link.isEmpty = !(e.link != []) := by cases e.link <;> simp
  have d1 : decide (0 ≤ e.mode) = !decide (e.mode < 0) := by rw [← decide_not]; congr 1; simp
  have d2 : decide (e.mode ≤ 511) = !decide (511 < e.mode) := by rw [← decide_not]; congr 1; simp
  have d3 : decide (0 ≤ e.time) = !decide (e.time < 0) := by rw [← decide_not]; congr 1; simp
  have d4 : decide (e.data.length ≤ 1048576) = !decide ((1048576 : Int) < (e.data.length : Int)) := by
    rw [← decide_not]; congr 1; exact propext ⟨fun h => by omega, fun h => by omega⟩
  have d5 : decide (e.link.length ≤ 512) = decide ((e.link.length : Int) ≤ 512) := by congr 1; exact propext ⟨fun h => by omega, fun h => by omega⟩
  have hz : e.link = [] → e.link.contains 0 = false ∧ decide ((e.link.length : Int) ≤ 512) = true := fun h => by rw [h]; exact ⟨rfl, by simp⟩
  unfold Ent.valid linkOk
  rw [hd, hl, d1, d2, d3, d4, d5]
  generalize Pn.validP e.path = V
  generalize decide (e.mode < 0) = M1
  generalize decide (511 < e.mode) = M2
  generalize decide (e.time < 0) = M3
  have hsz : decide ((1048576 : Int) < (e.data.length : Int)) = true → decide ((0 : Int) < (e.data.length : Int)) = true := fun h => by
    simp only [decide_eq_true_eq] at h ⊢; omega
  generalize decide ((0 : Int) < (e.data.length : Int)) = D0 at *
  generalize decide ((1048576 : Int) < (e.data.length : Int)) = D1 at *
  have hlz : (e.link != []) = false → e.link.contains 0 = false ∧ decide ((e.link.length : Int) ≤ 512) = true := fun h => hz (by simpa using h)
  generalize e.link.contains 0 = L0 at *
  generalize decide ((e.link.length : Int) ≤ 512) = L1 at *
  generalize (e.link != []) = L2 at *
  clear hd hl d1 d2 d3 d4 d5 hz
  by_cases k1 : e.kind = 1
  · rw [k1]; clear k1
    rw [if_pos rfl, show decide ((1 : Int) < 1) = false from rfl, show decide ((3 : Int) < 1) = false from rfl, show ((1 : Int) != 1) = false from rfl, show ((1 : Int) == 3) = false from rfl]
    revert hsz hlz
    revert V M1 M2 M3 D0 D1 L0 L1 L2
    decide +kernel
  · by_cases k2 : e.kind = 2
    · rw [k2]; clear k1 k2
      rw [if_neg (by decide), if_pos rfl, show decide ((2 : Int) < 1) = false from rfl, show decide ((3 : Int) < 2) = false from rfl, show ((2 : Int) != 1) = true from rfl, show ((2 : Int) == 3) = false from rfl]
      revert hsz hlz
      revert V M1 M2 M3 D0 D1 L0 L1 L2
      decide +kernel
    · by_cases k3 : e.kind = 3
      · rw [k3]; clear k1 k2 k3
        rw [if_neg (by decide), if_neg (by decide), if_pos rfl, show decide ((3 : Int) < 1) = false from rfl, show decide ((3 : Int) < 3) = false from rfl, show ((3 : Int) != 1) = true from rfl, show ((3 : Int) == 3) = true from rfl]
        revert hsz hlz
        revert V M1 M2 M3 D0 D1 L0 L1 L2
        decide +kernel
      · rw [if_neg k1, if_neg k2, if_neg k3]
        have : decide (e.kind < 1) = true ∨ decide (3 < e.kind) = true := by
          simp only [decide_eq_true_eq]; omega
        rcases this with h | h <;> simp [h]
end Ft

set_option maxHeartbeats 4000000 in
set_option maxRecDepth 100000 in
theorem refValid_any (e : Ent) (va : Option Addr) (vc : Nat) (w : World) (hp : e.path.length < 4294967270) (hlk : e.link.length < 4294967270) :
    Calls Tryd.prog 47 #[entV e va vc] w fun e' w' => e' = .returned (.bool e.valid) ∧ Below w.heap.size w w' := by
  have hbA : Below w.heap.size w (w.alloc (.cells #[S e.path, .int .i64 e.kind, .int .i64 e.mode, .int .i64 e.time, .slice va e.data.length vc, S e.link] 25)) := (Below.refl _ w).alloc (Nat.le_refl _) _
  have HV := Lib.hid (valid_ref ⟨e.path.toArray⟩ (w.alloc (.cells #[S e.path, .int .i64 e.kind, .int .i64 e.mode, .int .i64 e.time, .slice va e.data.length vc, S e.link] 25)) (show e.path.length < _ by omega))
  rw [show (⟨e.path.toArray⟩ : ByteArray).data.toList = e.path from rfl] at HV
  rw [validR_eq e]
  have HA := Lib.hid hbA
  have P0 := Lib.hid (heap_alloc_new w (.cells #[S e.path, .int .i64 e.kind, .int .i64 e.mode, .int .i64 e.time, .slice va e.data.length vc, S e.link] 25))
  unfold linkOk
  obtain ⟨path, kind, mode, time, data, link⟩ := e
  simp only at *
  generalize Pn.validP path = V at *
  obtain ⟨L0, hL0⟩ : ∃ L0, link.contains 0 = L0 := ⟨_, rfl⟩
  obtain ⟨r, hr⟩ : ∃ r, (((kind == 3) == (link != [])) && decide ((link.length : Int) ≤ 512)) = r := ⟨_, rfl⟩
  rw [hL0, hr]
  have HL0 := Lib.hid hL0
  have HRR := Lib.hid hr
  clear hbA hL0 hr
  cases V with
  | false =>
    go_enter Tryd.func47, Tryd.ntmps47
    go_wp2_with fail
    refine HV.out.mono ?_
    rintro e' w1 ⟨rfl, hb⟩
    have q0 := (hb.block w.heap.size (by simp)).trans P0.out
    have c1 := cell_of_block' q0 1
    have c2 := cell_of_block' q0 2
    have c3 := cell_of_block' q0 3
    have c4 := cell_of_block' q0 4
    have c5 := cell_of_block' q0 5
    simp at c1 c2 c3 c4 c5
    have HB := Lib.hid (below_then HA.out hb)
    clear hb q0
    go_wp2_with fail
    go_ret
    exact ⟨retb (by simp), HB.out⟩
  | true =>
    by_cases h : mode < 0
    · have hq : decide (mode < 0) = true := decide_eq_true h
      go_enter Tryd.func47, Tryd.ntmps47
      go_wp2_with fail
      refine HV.out.mono ?_
      rintro e' w1 ⟨rfl, hb⟩
      have q0 := (hb.block w.heap.size (by simp)).trans P0.out
      have c1 := cell_of_block' q0 1
      have c2 := cell_of_block' q0 2
      have c3 := cell_of_block' q0 3
      have c4 := cell_of_block' q0 4
      have c5 := cell_of_block' q0 5
      simp at c1 c2 c3 c4 c5
      have HB := Lib.hid (below_then HA.out hb)
      clear hb q0
      go_wp2_with fail
      go_ret
      exact ⟨retb (by simp [hq]), HB.out⟩
    have n1 : decide (mode < 0) = false := decide_eq_false h
    have n1' := h
    clear h
    by_cases h : 511 < mode
    · have hq : decide (511 < mode) = true := decide_eq_true h
      go_enter Tryd.func47, Tryd.ntmps47
      go_wp2_with fail
      refine HV.out.mono ?_
      rintro e' w1 ⟨rfl, hb⟩
      have q0 := (hb.block w.heap.size (by simp)).trans P0.out
      have c1 := cell_of_block' q0 1
      have c2 := cell_of_block' q0 2
      have c3 := cell_of_block' q0 3
      have c4 := cell_of_block' q0 4
      have c5 := cell_of_block' q0 5
      simp at c1 c2 c3 c4 c5
      have HB := Lib.hid (below_then HA.out hb)
      clear hb q0
      go_wp2_with fail
      go_ret
      exact ⟨retb (by simp [hq]), HB.out⟩
    have n2 : decide (511 < mode) = false := decide_eq_false h
    have n2' := h
    clear h
    by_cases h : time < 0
    · have hq : decide (time < 0) = true := decide_eq_true h
      go_enter Tryd.func47, Tryd.ntmps47
      go_wp2_with fail
      refine HV.out.mono ?_
      rintro e' w1 ⟨rfl, hb⟩
      have q0 := (hb.block w.heap.size (by simp)).trans P0.out
      have c1 := cell_of_block' q0 1
      have c2 := cell_of_block' q0 2
      have c3 := cell_of_block' q0 3
      have c4 := cell_of_block' q0 4
      have c5 := cell_of_block' q0 5
      simp at c1 c2 c3 c4 c5
      have HB := Lib.hid (below_then HA.out hb)
      clear hb q0
      go_wp2_with fail
      go_ret
      exact ⟨retb (by simp [hq]), HB.out⟩
    have n3 : decide (time < 0) = false := decide_eq_false h
    have n3' := h
    clear h
    by_cases h : kind < 1
    · have hq : decide (kind < 1) = true := decide_eq_true h
      go_enter Tryd.func47, Tryd.ntmps47
      go_wp2_with fail
      refine HV.out.mono ?_
      rintro e' w1 ⟨rfl, hb⟩
      have q0 := (hb.block w.heap.size (by simp)).trans P0.out
      have c1 := cell_of_block' q0 1
      have c2 := cell_of_block' q0 2
      have c3 := cell_of_block' q0 3
      have c4 := cell_of_block' q0 4
      have c5 := cell_of_block' q0 5
      simp at c1 c2 c3 c4 c5
      have HB := Lib.hid (below_then HA.out hb)
      clear hb q0
      go_wp2_with fail
      go_ret
      exact ⟨retb (by simp [hq]), HB.out⟩
    have n4 : decide (kind < 1) = false := decide_eq_false h
    have n4' := h
    clear h
    by_cases h : 3 < kind
    · have hq : decide (3 < kind) = true := decide_eq_true h
      go_enter Tryd.func47, Tryd.ntmps47
      go_wp2_with fail
      refine HV.out.mono ?_
      rintro e' w1 ⟨rfl, hb⟩
      have q0 := (hb.block w.heap.size (by simp)).trans P0.out
      have c1 := cell_of_block' q0 1
      have c2 := cell_of_block' q0 2
      have c3 := cell_of_block' q0 3
      have c4 := cell_of_block' q0 4
      have c5 := cell_of_block' q0 5
      simp at c1 c2 c3 c4 c5
      have HB := Lib.hid (below_then HA.out hb)
      clear hb q0
      go_wp2_with fail
      go_ret
      exact ⟨retb (by simp [hq]), HB.out⟩
    have n5 : decide (3 < kind) = false := decide_eq_false h
    have n5' := h
    clear h
    by_cases hk : kind = 1 ∨ ¬ (0 : Int) < (data.length : Int)
    rotate_left
    · have hk1 : (kind != 1) = true := by rw [bne_iff_ne]; exact fun e => hk (.inl e)
      have hd0 : (0 : Int) < (data.length : Int) := by
        by_cases h : (0 : Int) < (data.length : Int)
        · exact h
        · exact absurd (.inr h) hk
      have hd1 : decide ((0 : Int) < (data.length : Int)) = true := decide_eq_true hd0
      have hdN : 0 < data.length := by omega
      clear hk
      go_enter Tryd.func47, Tryd.ntmps47
      go_wp2_with fail
      refine HV.out.mono ?_
      rintro e' w1 ⟨rfl, hb⟩
      have q0 := (hb.block w.heap.size (by simp)).trans P0.out
      have c1 := cell_of_block' q0 1
      have c2 := cell_of_block' q0 2
      have c3 := cell_of_block' q0 3
      have c4 := cell_of_block' q0 4
      have c5 := cell_of_block' q0 5
      simp at c1 c2 c3 c4 c5
      have HB := Lib.hid (below_then HA.out hb)
      clear hb q0
      go_wp2_with fail
      go_ret
      exact ⟨retb (by rw [hk1, hd1]; simp), HB.out⟩
    have hkk : ((kind != 1) && decide ((0 : Int) < (data.length : Int))) = false := by
      rcases hk with h | h
      · rw [h]; rfl
      · rw [decide_eq_false h, Bool.and_false]
    have hks : (kind != 1) = false ∨ ((kind != 1) = true ∧ ¬ (0 : Int) < (data.length : Int)) := by
      by_cases h : kind = 1
      · exact .inl (by rw [h]; rfl)
      · exact .inr ⟨by rw [bne_iff_ne]; exact h, hk.resolve_left h⟩
    have HKK := Lib.hid hkk
    clear hk hkk
    by_cases hbig : (1048576 : Int) < (data.length : Int)
    · have hq : decide ((1048576 : Int) < (data.length : Int)) = true := decide_eq_true hbig
      rcases hks with hks | ⟨hks, hks2⟩
      rotate_left
      · exfalso; omega
      go_enter Tryd.func47, Tryd.ntmps47
      go_wp2_with fail
      refine HV.out.mono ?_
      rintro e' w1 ⟨rfl, hb⟩
      have q0 := (hb.block w.heap.size (by simp)).trans P0.out
      have c1 := cell_of_block' q0 1
      have c2 := cell_of_block' q0 2
      have c3 := cell_of_block' q0 3
      have c4 := cell_of_block' q0 4
      have c5 := cell_of_block' q0 5
      simp at c1 c2 c3 c4 c5
      have HB := Lib.hid (below_then HA.out hb)
      clear hb q0
      go_wp2_with fail
      go_ret
      exact ⟨retb (by simp [hq]), HB.out⟩
    have n6 : decide ((1048576 : Int) < (data.length : Int)) = false := decide_eq_false hbig
    have HE := Lib.hid (show (true && !decide (mode < 0) && !decide (511 < mode) && !decide (time < 0) && !decide (kind < 1) && !decide (3 < kind) && !((kind != 1) && decide ((0 : Int) < (data.length : Int))) && !decide ((1048576 : Int) < (data.length : Int)) && (!L0 && r)) = (!L0 && r) by rw [n1, n2, n3, n4, n5, n6, HKK.out]; simp)
    rw [HE.out]
    have hks : (kind != 1) = false ∨ ((kind != 1) = true ∧ ¬ (0 : Int) < (data.length : Int) ∧ ¬ 0 < data.length) := hks.imp_right fun h => ⟨h.1, h.2, by have := h.2; omega⟩
    rcases hks with hks | ⟨hks, hks2, hks3⟩
    all_goals go_enter Tryd.func47, Tryd.ntmps47
    all_goals go_wp2_with fail
    all_goals refine HV.out.mono ?_
    all_goals rintro e' w1 ⟨rfl, hb⟩
    all_goals have q0 := (hb.block w.heap.size (by simp)).trans P0.out
    all_goals have c1 := cell_of_block' q0 1
    all_goals have c2 := cell_of_block' q0 2
    all_goals have c3 := cell_of_block' q0 3
    all_goals have c4 := cell_of_block' q0 4
    all_goals have c5 := cell_of_block' q0 5
    all_goals simp at c1 c2 c3 c4 c5
    all_goals have HB := Lib.hid (below_then HA.out hb)
    all_goals clear hb q0
    all_goals go_wp2_with fail
    all_goals (
      go_loopg [3] link.length (fun gg v wr => ∃ i : Nat, v = .int .i64 i ∧ i ≤ link.length ∧ link.length - i ≤ gg ∧ (0 : UInt8) ∉ link.take i ∧ wr = w1)
      case atStart => exact ⟨0, rfl, Nat.zero_le _, by omega, by simp, rfl⟩
      case round =>
        obtain ⟨i, rfl, hi, hgg, hno, rfl⟩ := hrel
        by_cases hlt : i < link.length
        · have hz : (i : Int) < (link.length : Int) := by omega
          obtain ⟨b, hb⟩ : ∃ b, link[i] = b := ⟨_, rfl⟩
          have HBB := Lib.hid hb
          have htk : link.take (i + 1) = link.take i ++ [link[i]] := by rw [List.take_succ_eq_append_getElem hlt]
          have HTK := Lib.hid htk
          have e0 : (⟨link.toArray⟩ : ByteArray)[i]'(show i < link.length from hlt) = b := by rw [← hb]; simp [ByteArray.getElem_eq_getElem_data]
          have HNO := Lib.hid hno
          clear hb htk hno
          by_cases h0 : b = 0
          · subst h0
            have HC := Lib.hid (show L0 = true by rw [← HL0.out, List.contains_iff_mem]; exact HBB.out ▸ List.getElem_mem hlt)
            go_wp2_with fail
            go_ret
            exact ⟨retb (by rw [HC.out]; rfl), HB.out⟩
          · have hbn : ((b.toNat : Int) == 0) = false := by
              rw [beq_eq_false_iff_ne]
              intro e
              exact h0 (UInt8.toNat_inj.1 (by simpa using e))
            have H0 := Lib.hid h0
            clear h0
            go_wp2_with fail
            go_roundg (link.length - (i + 1))
            case measure => omega
            case rel =>
              refine ⟨i + 1, by go_num, by omega, by omega, ?_, rfl⟩
              rw [HTK.out, HBB.out]
              intro hm
              rcases List.mem_append.1 hm with hm | hm
              · exact HNO.out hm
              · simp only [List.mem_singleton] at hm
                exact H0.out hm.symm
        · have hz : ¬ (i : Int) < (link.length : Int) := by omega
          have HC := Lib.hid (show L0 = false by
            rw [← HL0.out]
            rw [List.take_of_length_le (by omega)] at hno
            cases hc : link.contains 0 with
            | false => rfl
            | true => exact absurd (List.contains_iff_mem.1 hc) hno)
          clear hno
          have hk3 : (kind == 3) = true ∨ (kind == 3) = false := by cases (kind == 3) <;> simp
          have hl3 : ((link == []) = true ∧ (link != []) = false) ∨ ((link == []) = false ∧ (link != []) = true) := by
            cases hh : (link == []) with
            | true => exact .inl ⟨rfl, by rw [bne, hh]; rfl⟩
            | false => exact .inr ⟨rfl, by rw [bne, hh]; rfl⟩
          have h512 : (decide ((link.length : Int) ≤ 512) = true ∧ (link.length : Int) ≤ 512) ∨ (decide ((link.length : Int) ≤ 512) = false ∧ ¬ (link.length : Int) ≤ 512) := by
            by_cases h : (link.length : Int) ≤ 512
            · exact .inl ⟨decide_eq_true h, h⟩
            · exact .inr ⟨decide_eq_false h, h⟩
          have HR2 := Lib.hid (show ∀ a b c : Bool, (kind == 3) = a → (link != []) = b → decide ((link.length : Int) ≤ 512) = c → ((a == b) && c) = (!L0 && r) from fun a b c h1 h2 h3 => by rw [HC.out, ← HRR.out, h1, h2, h3]; simp)
          rcases hk3 with hk3 | hk3 <;> rcases hl3 with ⟨hl3, hl4⟩ | ⟨hl3, hl4⟩ <;> rcases h512 with ⟨h5, h6⟩ | ⟨h5, h6⟩
          all_goals have HFIN := Lib.hid (HR2.out _ _ _ hk3 hl4 h5)
          all_goals go_wp2_with fail
          all_goals go_ret
          all_goals exact ⟨retb (by first | exact HFIN.out | (rw [← HFIN.out]; rfl) | (rw [← HFIN.out]; simp [*])), HB.out⟩)

end Go.Proofs.YtdcghpeomaailaaDoor

/-
  The walk of kinkeepref20.Check.
-/
namespace Go.Proofs.YtdcghpeomaailaaDoor
open Go.RowKit Go.Lib Ft

theorem EntsAt.take {w : World} {va : Option Addr} {l : List Ent} (h : EntsAt w va l) (i : Nat) : EntsAt w va (l.take i) := by
  rcases h with h | ⟨g, off, h1, h2, h3⟩
  · exact .inl (by rw [h]; simp)
  · refine .inr ⟨g, off, h1, h2, fun j hj => ?_⟩
    have hj2 : j < l.length := by rw [List.length_take] at hj; omega
    have := h3 j hj2
    rw [List.getElem_take]
    exact this

def ChkRel (l : List Ent) (w : World) (v : Value) (gg : Nat) (wr : World) : Prop :=
  ∃ i : Nat, v = .int .i64 i ∧ i ≤ l.length ∧ l.length - i ≤ gg ∧ fillGo [] l = fillGo (l.take i) (l.drop i) ∧ Below w.heap.size w wr

set_option maxHeartbeats 4000000 in
set_option maxRecDepth 100000 in
theorem refCheck_any (l : List Ent) (va : Option Addr) (vc : Nat) (w : World) (hlc : l.length ≤ vc) (hvc : vc ≤ 9223372036854775807) (hA : EntsAt w va l)
    (hp : l.length ≤ 4096 → ∀ e ∈ l, e.path.length < 4294967260 ∧ e.link.length < 4294967260) :
    Calls Tryd.prog 24 #[.slice va l.length vc] w fun e' w' => e' = .returned (.int .i64 (check l)) ∧ Below w.heap.size w w' := by
  by_cases hbig : 4096 < l.length
  · have hbz : (4096 : Int) < (l.length : Int) := by omega
    have HR := Lib.hid (show check l = 2 by unfold check; rw [if_pos hbig])
    clear hA hp hbig
    go_enter Tryd.func24, Tryd.ntmps24
    go_wp2_with fail
    go_ret
    exact ⟨by rw [HR.out]; rfl, Below.refl _ _⟩
  · have hbz : ¬ (4096 : Int) < (l.length : Int) := by omega
    have HR := Lib.hid (show check l = (fillGo [] l).2 by unfold check; rw [if_neg hbig])
    have HA := Lib.hid hA
    have HP := Lib.hid (hp (by omega))
    have hl4 : l.length ≤ 4096 := by omega
    have hvcz : (vc : Int) ≤ 9223372036854775807 := by omega
    have hlcz : (l.length : Int) ≤ (vc : Int) := by omega
    clear hA hp hbig hvc
    go_enter Tryd.func24, Tryd.ntmps24
    go_wp2_with fail
    go_loopg [11] l.length (fun gg v wr => ChkRel l w v gg wr)
    case atStart => exact ⟨0, rfl, Nat.zero_le _, by omega, by simp, Below.refl _ _⟩
    case round =>
      obtain ⟨i, rfl, hi, hgg, hfl, hb⟩ := hrel
      by_cases hlt : i < l.length
      · have hz : (i : Int) < (l.length : Int) := by omega
        have hA := HA.out.below hb
        obtain ⟨g, off, da, dc, rfl, hglt, r0, r1, r2, r3, r4, r5, hdc, hby⟩ := hA.get hlt
        obtain ⟨hpl, hll⟩ := HP.out _ (List.getElem_mem hlt)
        have hdrop : l.drop i = l[i] :: l.drop (i + 1) := List.drop_eq_getElem_cons hlt
        have htake : l.take (i + 1) = l.take i ++ [l[i]] := by rw [List.take_succ_eq_append_getElem hlt]
        obtain ⟨e, he⟩ : ∃ e, l[i] = e := ⟨_, rfl⟩
        rw [he] at r0 r1 r2 r3 r4 r5 hdc hby hpl hll hdrop htake
        have hW1 : Below wr.heap.size wr (wr.alloc (.cells #[S e.path, .int .i64 e.kind, .int .i64 e.mode, .int .i64 e.time, .slice da e.data.length dc, S e.link] 25)) := (Below.refl _ _).alloc (Nat.le_refl _) _
        have hN := heap_alloc_new wr (.cells #[S e.path, .int .i64 e.kind, .int .i64 e.mode, .int .i64 e.time, .slice da e.data.length dc, S e.link] 25)
        have hA1 := hA.below hW1
        have HB1 := Lib.hid (below_then hb hW1)
        have HSTEP : fillGo [] l = if (!e.valid || late (l.take i) e) = true then (l.take i, 1) else if belowE (l.take i) (Pn.parentP e.path) ≠ 0 then (l.take i, belowE (l.take i) (Pn.parentP e.path)) else fillGo (l.take (i + 1)) (l.drop (i + 1)) := by
          rw [hfl, hdrop, htake]; rfl
        have hlate : late (l.take i) e = if h : 0 < i then decide (0 ≤ Pn.cmpP (l[i - 1]'(by omega)).path e.path) else false := by
          by_cases h0 : 0 < i
          · rw [dif_pos h0]
            obtain ⟨j, rfl⟩ : ∃ j, i = j + 1 := ⟨i - 1, by omega⟩
            rw [late_take (by omega)]
            simp
          · obtain rfl : i = 0 := by omega
            rfl
        have HLATE := Lib.hid hlate
        have HST := Lib.hid HSTEP
        clear HSTEP hlate hfl hdrop htake hA hby hb he
        go_wp2_with fail
        generalize (wr.alloc (.cells #[S e.path, .int .i64 e.kind, .int .i64 e.mode, .int .i64 e.time, .slice da e.data.length dc, S e.link] 25)) = W1 at *
        have f0 := in_cell (cell_of_block' hN 0)
        have f1 := in_cell (cell_of_block' hN 1)
        have f2 := in_cell (cell_of_block' hN 2)
        have f3 := in_cell (cell_of_block' hN 3)
        have f4 := in_cell (cell_of_block' hN 4)
        have f5 := in_cell (cell_of_block' hN 5)
        have HN := Lib.hid hN
        have HS1 := Lib.hid (lt_of_block hN)
        have HV := Lib.hid (in_call (w0 := W1) fun W hW => refValid_any e da dc W (by omega) (by omega))
        have fin8 : ∀ wq, Below W1.heap.size W1 wq → belowE (l.take i) (Pn.parentP e.path) = belowE (l.take i) (Pn.parentP e.path) := fun _ _ => rfl
        clear fin8 hN
        have hcase : (e.valid = false ∧ fillGo [] l = (l.take i, 1)) ∨ (e.valid = true ∧ ∃ h0 : 0 < i, decide (0 ≤ Pn.cmpP (l[i - 1]'(by omega)).path e.path) = true ∧ fillGo [] l = (l.take i, 1)) ∨
            (e.valid = true ∧ ((∃ h0 : 0 < i, decide (0 ≤ Pn.cmpP (l[i - 1]'(by omega)).path e.path) = false) ∨ i = 0) ∧ fillGo [] l = if belowE (l.take i) (Pn.parentP e.path) ≠ 0 then (l.take i, belowE (l.take i) (Pn.parentP e.path)) else fillGo (l.take (i + 1)) (l.drop (i + 1))) := by
          have h1 := HST.out
          have h2 := HLATE.out
          cases hv : e.valid with
          | false => rw [hv] at h1; exact .inl ⟨rfl, h1⟩
          | true =>
            rw [hv] at h1
            by_cases h0 : 0 < i
            · rw [dif_pos h0] at h2
              cases hc : decide (0 ≤ Pn.cmpP (l[i - 1]'(by omega)).path e.path) with
              | true =>
                rw [h2, hc] at h1
                exact .inr (.inl ⟨rfl, h0, hc, h1⟩)
              | false =>
                rw [h2, hc] at h1
                exact .inr (.inr ⟨rfl, .inl ⟨h0, hc⟩, h1⟩)
            · rw [dif_neg h0] at h2
              rw [h2] at h1
              exact .inr (.inr ⟨rfl, .inr (by omega), h1⟩)
        clear HLATE HST
        rcases hcase with ⟨hv, hF⟩ | ⟨hv, h0, hcz, hF⟩ | ⟨hv, hi0, hF⟩
        · rw [hv] at HV
          have HF := Lib.hid hF
          clear hv hF
          refine wp_region_quiet_sub (S := Out W1) (by kernel_rfl) (by kernel_rfl) ⟨(Below.refl _ _).drew⟩ ?_
          intro hne
          repeat (go_big_quiet_step (((go_at_call 47; exact HV.out _))))
          refine wpQuiet_nil ?_
          intro wq hw'
          obtain ⟨⟨wq0, hwq⟩, hw2⟩ := hw'
          simp only at hw2
          subst hw2
          clear hne
          have hbq := hwq.below
          clear hwq
          clear f0 f1 f2 f3 f4 f5
          go_wp2_with fail
          go_ret
          exact ⟨by rw [HR.out, HF.out]; rfl, below_then HB1.out hbq⟩
        · obtain ⟨j, rfl⟩ : ∃ j, i = j + 1 := ⟨i - 1, by omega⟩
          rw [hv] at HV
          have hiz : decide ((0 : Int) < ((j + 1 : Nat) : Int)) = true := by simp
          have hj1 : ((j + 1 : Nat) : Int) - 1 = (j : Int) := by omega
          have hpj := (HP.out _ (List.getElem_mem (show j < l.length by omega))).1
          have f6 := in_cell (hA1.path (show j < l.length by omega))
          simp only [Nat.add_sub_cancel] at hcz
          generalize l[j].path = pj at *
          have HC := Lib.hid (in_call (w0 := W1) fun W hW => compare_ref ⟨pj.toArray⟩ ⟨e.path.toArray⟩ W (show pj.length < _ by omega) (show e.path.length < _ by omega))
          simp only at HC
          generalize Pn.cmpP pj e.path = cz at *
          have HF := Lib.hid hF
          clear hv hF h0
          refine wp_region_quiet_sub (S := Out W1) (by kernel_rfl) (by kernel_rfl) ⟨(Below.refl _ _).drew⟩ ?_
          intro hne
          repeat (go_big_quiet_step ((first | (go_at_call 47; exact HV.out _) | (go_at_call 48; exact HC.out _))))
          refine wpQuiet_nil ?_
          intro wq hw'
          obtain ⟨⟨wq0, hwq⟩, hw2⟩ := hw'
          simp only at hw2
          subst hw2
          clear hne
          have hbq := hwq.below
          clear hwq
          clear f0 f1 f2 f3 f4 f5 f6
          go_wp2_with fail
          go_ret
          exact ⟨by rw [HR.out, HF.out]; rfl, below_then HB1.out hbq⟩
        · rw [hv] at HV
          have HF := Lib.hid hF
          have hti : (l.take i).length = i := by rw [List.length_take]; omega
          have hic : (i : Int) ≤ (vc : Int) := by omega
          have HPA := Lib.hid fun W => refParent_any e.path W (by omega)
          have HDI := Lib.hid fun W h => refDir_any (l.take i) (some ⟨g, off, none⟩) vc (Pn.parentP e.path) W (by rw [hti]; omega) h
          rw [hti] at HDI
          have HTI := Lib.hid hti
          have HA1 := Lib.hid (hA1.take i)
          have hcase : (∃ j, Hid (i = j + 1) ∧ ∃ h : j < l.length, (i : Int) - 1 = (j : Int) ∧ decide (0 ≤ Pn.cmpP l[j].path e.path) = false ∧ decide ((0 : Int) < (i : Int)) = true ∧ (0 : Int) < (i : Int)) ∨ (Hid (i = 0) ∧ decide ((0 : Int) < (i : Int)) = false ∧ ¬ (0 : Int) < (i : Int)) := by
            rcases hi0 with ⟨h0, hcz⟩ | h0
            · exact .inl ⟨i - 1, show i = i - 1 + 1 by omega, by omega, by omega, hcz, by simp; omega, by omega⟩
            · exact .inr ⟨h0, by simp [h0], by omega⟩
          obtain ⟨bz, hbz'⟩ : ∃ bz, belowE (l.take i) (Pn.parentP e.path) = bz := ⟨_, rfl⟩
          rw [hbz'] at HF HDI
          have HBZ := Lib.hid hbz'
          obtain ⟨q, hq⟩ : ∃ q, Pn.parentP e.path = q := ⟨_, rfl⟩
          rw [hq] at HPA HDI
          clear hv hF hti hi0 hbz' hq
          rcases hcase with ⟨j, HJ, hjl, hj1, hcz, hiz, hiz2⟩ | ⟨HJ, hiz, hiz2⟩
          · obtain rfl := HJ.out
            clear hj1
            have hj1 : ((j + 1 : Nat) : Int) - 1 = (j : Int) := by omega
            have hiz : decide ((0 : Int) < ((j + 1 : Nat) : Int)) = true := by simp
            have hpj := (HP.out _ (List.getElem_mem hjl)).1
            have hjz : (j : Int) < (l.length : Int) := by omega
            have f6 := in_cell (hA1.path hjl)
            generalize l[j].path = pj at *
            have HC := Lib.hid (in_call (w0 := W1) fun W hW => compare_ref ⟨pj.toArray⟩ ⟨e.path.toArray⟩ W (show pj.length < _ by omega) (show e.path.length < _ by omega))
            simp only at HC
            generalize Pn.cmpP pj e.path = cz at *
            refine wp_region_quiet_sub (S := Out W1) (by kernel_rfl) (by kernel_rfl) ⟨(Below.refl _ _).drew⟩ ?_
            intro hne
            repeat (go_big_quiet_step ((first | (go_at_call 47; exact HV.out _) | (go_at_call 48; exact HC.out _))))
            refine wpQuiet_nil ?_
            intro wq hw'
            obtain ⟨⟨wq0, hwq⟩, hw2⟩ := hw'
            simp only at hw2
            subst hw2
            clear hne
            have hbq := hwq.below
            clear hwq
            clear f0 f1 f2 f3 f4 f5 f6 hcz hj1
            have c0 := cell_of_block' HN.out 0
            simp at c0
            have g0 := in_cell (w0 := wq) ((hbq.cell (p := ⟨wr.heap.size, 0, none⟩) HS1.out).trans c0)
            have HPA2 := Lib.hid (in_call (w0 := wq) fun W _ => HPA.out W)
            have HDI2 := Lib.hid (in_call (w0 := wq) fun W hW => HDI.out W ((HA1.out.below hbq).below hW))
            have HBQ := Lib.hid (below_then HB1.out hbq)
            clear hbq c0
            go_wp2_with fail
            refine wp_region_quiet_sub (S := Out wq) (by kernel_rfl) (by kernel_rfl) ⟨(Below.refl _ _).drew⟩ ?_
            intro hne
            repeat (go_big_quiet_step ((first | (go_at_call 50; exact HPA2.out _) | (go_at_call 49; exact HDI2.out _))))
            refine wpQuiet_nil ?_
            intro wq hw'
            obtain ⟨⟨wq0, hwq⟩, hw2⟩ := hw'
            simp only at hw2
            subst hw2
            clear hne
            have hbq := hwq.below
            clear hwq
            have HB3 := Lib.hid (below_then HBQ.out hbq)
            clear g0 hbq
            by_cases hb0 : bz = 0
            · have HF2 := Lib.hid (show fillGo [] l = fillGo (l.take (j + 1 + 1)) (l.drop (j + 1 + 1)) by rw [HF.out, if_neg (by rw [hb0]; simp)])
              subst hb0
              go_wp2_with fail
              go_roundg (l.length - (j + 1 + 1))
              case measure => omega
              case rel => exact ⟨j + 1 + 1, by go_num, by omega, by omega, HF2.out, HB3.out⟩
            · have HF2 := Lib.hid (show (fillGo [] l).2 = bz by rw [HF.out, if_pos hb0])
              have hqz : (bz == 0) = false := beq_eq_false_iff_ne.2 hb0
              have hqn : (bz != 0) = true := by rw [bne_iff_ne]; exact hb0
              clear hb0
              go_wp2_with fail
              go_ret
              exact ⟨by rw [HR.out, HF2.out]; rfl, HB3.out⟩
          · have hizN : ¬ 0 < i := by have := HJ.out; omega
            have hizD : decide (0 < i) = false := decide_eq_false hizN
            refine wp_region_quiet_sub (S := Out W1) (by kernel_rfl) (by kernel_rfl) ⟨(Below.refl _ _).drew⟩ ?_
            intro hne
            repeat (go_big_quiet_step (((go_at_call 47; exact HV.out _))))
            refine wpQuiet_nil ?_
            intro wq hw'
            obtain ⟨⟨wq0, hwq⟩, hw2⟩ := hw'
            simp only at hw2
            subst hw2
            clear hne
            have hbq := hwq.below
            clear hwq
            clear f0 f1 f2 f3 f4 f5
            have c0 := cell_of_block' HN.out 0
            simp at c0
            have g0 := in_cell (w0 := wq) ((hbq.cell (p := ⟨wr.heap.size, 0, none⟩) HS1.out).trans c0)
            have HPA2 := Lib.hid (in_call (w0 := wq) fun W _ => HPA.out W)
            have HDI2 := Lib.hid (in_call (w0 := wq) fun W hW => HDI.out W ((HA1.out.below hbq).below hW))
            have HBQ := Lib.hid (below_then HB1.out hbq)
            clear hbq c0
            go_wp2_with fail
            refine wp_region_quiet_sub (S := Out wq) (by kernel_rfl) (by kernel_rfl) ⟨(Below.refl _ _).drew⟩ ?_
            intro hne
            repeat (go_big_quiet_step ((first | (go_at_call 50; exact HPA2.out _) | (go_at_call 49; exact HDI2.out _))))
            refine wpQuiet_nil ?_
            intro wq hw'
            obtain ⟨⟨wq0, hwq⟩, hw2⟩ := hw'
            simp only at hw2
            subst hw2
            clear hne
            have hbq := hwq.below
            clear hwq
            have HB3 := Lib.hid (below_then HBQ.out hbq)
            clear g0 hbq
            by_cases hb0 : bz = 0
            · have HF2 := Lib.hid (show fillGo [] l = fillGo (l.take (i + 1)) (l.drop (i + 1)) by rw [HF.out, if_neg (by rw [hb0]; simp)])
              subst hb0
              go_wp2_with fail
              go_roundg (l.length - (i + 1))
              case measure => omega
              case rel => exact ⟨i + 1, by go_num, by omega, by omega, HF2.out, HB3.out⟩
            · have HF2 := Lib.hid (show (fillGo [] l).2 = bz by rw [HF.out, if_pos hb0])
              have hqz : (bz == 0) = false := beq_eq_false_iff_ne.2 hb0
              have hqn : (bz != 0) = true := by rw [bne_iff_ne]; exact hb0
              clear hb0
              go_wp2_with fail
              go_ret
              exact ⟨by rw [HR.out, HF2.out]; rfl, HB3.out⟩
      · have hz : ¬ (i : Int) < (l.length : Int) := by omega
        have HF := Lib.hid (show (fillGo [] l).2 = 0 by rw [hfl, List.drop_eq_nil_of_le (by omega)]; rfl)
        clear hfl
        go_wp2_with fail
        go_ret
        exact ⟨by rw [HR.out, HF.out]; rfl, hb⟩

end Go.Proofs.YtdcghpeomaailaaDoor
