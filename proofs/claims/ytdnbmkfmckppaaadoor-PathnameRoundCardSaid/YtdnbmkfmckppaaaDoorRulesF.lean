/-
  slices.IndexFunc, slices.ContainsFunc over rules, with the closure that asks 'not valid' (Ignored$1, Print$1).
-/
import Derived.Test.YtdnbmkfmckppaaaDoorParse
import Derived.Shelf.Abstract
namespace Go.Proofs.YtdnbmkfmckppaaaDoor
open Go.RowKit Go.Lib

/-- Rules in memory, wherever they lie. -/
def RulesAt (w : World) (va : Option Addr) (_vc : Nat) (l : List Pn.Rule) : Prop :=
  (l = []) ∨ ∃ g, va = some ⟨g, 0, none⟩ ∧ g < w.heap.size ∧ RowAt w g 0 (ruleCells l)

theorem rulesAt_of {w : World} {base : Nat} {va : Option Addr} {vc : Nat} {l : List Pn.Rule} (h : RulesMem w base (.slice va l.length vc) l) : RulesAt w va vc l := by
  rcases own_slice h with ⟨_, h0, _⟩ | ⟨g, cap, hv, _, hg, _, _, hrow⟩
  · exact .inl (List.length_eq_zero_iff.1 h0)
  · injection hv with h1
    exact .inr ⟨g, h1, hg, hrow⟩

theorem RulesAt.below {w w' : World} {va : Option Addr} {vc : Nat} {l : List Pn.Rule} (h : RulesAt w va vc l) (hb : Below w.heap.size w w') : RulesAt w' va vc l := by
  rcases h with h | ⟨g, h1, h2, h3⟩
  · exact .inl h
  · exact .inr ⟨g, h1, Nat.lt_of_lt_of_le h2 hb.size, h3.below hb h2⟩

theorem RulesAt.get {w : World} {va : Option Addr} {vc : Nat} {l : List Pn.Rule} (h : RulesAt w va vc l) {i : Nat} (hi : i < l.length) :
    ∃ g, va = some ⟨g, 0, none⟩ ∧ g < w.heap.size ∧ w.cell? ⟨g, i * 4, none⟩ = some (S l[i].pattern) ∧ w.cell? ⟨g, i * 4 + 1, none⟩ = some (.bool l[i].keep) ∧ w.cell? ⟨g, i * 4 + 2, none⟩ = some (.bool l[i].dir) ∧ w.cell? ⟨g, i * 4 + 3, none⟩ = some (.bool l[i].rooted) := by
  rcases h with rfl | ⟨g, h1, h2, h3⟩
  · simp at hi
  · have hs := ruleCells_get l i hi
    have hlen := ruleCells_len l
    have r0 := h3 (i * 4) (by omega)
    have r1 := h3 (i * 4 + 1) (by omega)
    have r2 := h3 (i * 4 + 2) (by omega)
    have r3 := h3 (i * 4 + 3) (by omega)
    rw [List.getElem?_eq_getElem (by omega), List.getElem?_eq_getElem (by omega), List.getElem?_eq_getElem (by omega), List.getElem?_eq_getElem (by omega)] at hs
    rw [Nat.zero_add] at r0 r1 r2 r3
    exact ⟨g, h1, h2, by rw [r0]; exact hs.1, by rw [r1]; exact hs.2.1, by rw [r2]; exact hs.2.2.1, by rw [r3]; exact hs.2.2.2⟩

set_option maxHeartbeats 1000000 in
set_option maxRecDepth 100000 in
/-- 'func(x Rule) bool { return !x.valid() }'. -/
theorem notvalid_any (x : Pn.Rule) (w : World) (hs : x.pattern.length < 4294967281) (hE : Env w) :
    Calls Tryd.prog 37 #[ruleV x] w fun e w' => e = .returned (.bool (!x.validP)) ∧ Below w.heap.size w w' := by
  have hb0 : Below w.heap.size w (w.alloc (.cells #[S x.pattern, .bool x.keep, .bool x.dir, .bool x.rooted] 36)) := (Below.refl _ _).alloc (Nat.le_refl _) _
  have HV := Lib.hid (valid_rule x _ hs (hE.below hb0))
  have HB := Lib.hid hb0
  clear hb0 hE
  go_enter Tryd.func37, Tryd.ntmps37
  go_wp2_with (go_at_call 38; refine HV.out.mono ?_; rintro e w' ⟨rfl, hb⟩)
  go_ret
  exact ⟨rfl, below_then HB.out (by assumption)⟩
set_option maxHeartbeats 1000000 in
set_option maxRecDepth 100000 in
theorem notvalid_print (x : Pn.Rule) (w : World) (hs : x.pattern.length < 4294967281) (hE : Env w) :
    Calls Tryd.prog 51 #[ruleV x] w fun e w' => e = .returned (.bool (!x.validP)) ∧ Below w.heap.size w w' := by
  have hb0 : Below w.heap.size w (w.alloc (.cells #[S x.pattern, .bool x.keep, .bool x.dir, .bool x.rooted] 36)) := (Below.refl _ _).alloc (Nat.le_refl _) _
  have HV := Lib.hid (valid_rule x _ hs (hE.below hb0))
  have HB := Lib.hid hb0
  clear hb0 hE
  go_enter Tryd.func51, Tryd.ntmps51
  go_wp2_with (go_at_call 38; refine HV.out.mono ?_; rintro e w' ⟨rfl, hb⟩)
  go_ret
  exact ⟨rfl, below_then HB.out (by assumption)⟩

set_option maxHeartbeats 1000000 in
set_option maxRecDepth 100000 in
theorem indexFunc_rule (g : FuncId) (eg : ∀ args w, (callFunc g args).run Tryd.prog w = .ok (.enter g args) w) (l : List Pn.Rule) (va : Option Addr) (vc : Nat) (w : World) (hl : l.length < 4294967281) (hp : ∀ x ∈ l, x.pattern.length < 4294967281) (hE : Env w) (hm : RulesAt w va vc l)
    (hg : ∀ x w1, x.pattern.length < 4294967281 → Env w1 → Calls Tryd.prog g #[ruleV x] w1 fun e w' => e = .returned (.bool (!x.validP)) ∧ Below w1.heap.size w1 w') :
    Calls Tryd.prog 63 #[.slice va l.length vc, .func (.func g) #[] #[]] w fun e w' => ∃ r : Int, e = .returned (.int .i64 r) ∧ (decide (0 ≤ r) = l.any fun x => !x.validP) ∧ Below w.heap.size w w' := by
  have HG := Lib.hid hg
  have HM := Lib.hid hm
  have HE := Lib.hid hE
  have HP := Lib.hid hp
  clear hg hm hE hp
  go_enter Tryd.func63, Tryd.ntmps63
  go_wp2
  go_loopg [5, 8] l.length (fun gg _ v w' => ∃ i : Nat, v = .int .i64 i ∧ i ≤ l.length ∧ l.length - i ≤ gg ∧ Hid (∀ j (h : j < l.length), j < i → (!l[j].validP) = false) ∧ Below w.heap.size w w')
  case atStart => exact ⟨0, rfl, Nat.zero_le _, by omega, fun _ _ h => absurd h (Nat.not_lt_zero _), Below.refl _ _⟩
  case round =>
    obtain ⟨i, rfl, hi, hgg, hno, hb⟩ := hrel
    by_cases hlt2 : i < l.length
    · have hz : (i : Int) < (l.length : Int) := by omega
      obtain ⟨g0, rfl, hg0, r0, r1, r2, r3⟩ := (HM.out.below hb).get hlt2
      have hpx := HP.out _ (List.getElem_mem hlt2)
      obtain ⟨x, hx⟩ : ∃ x, l[i] = x := ⟨_, rfl⟩
      rw [hx] at r0 r1 r2 r3 hpx
      have HX := Lib.hid hx
      have HC := Lib.hid (HG.out x wr hpx (HE.out.below hb))
      have HB := Lib.hid hb
      clear hx hb hpx
      cases hq : (!x.validP) with
      | true =>
        rw [hq] at HC
        have HA := Lib.hid (show (l.any fun x => !x.validP) = true from List.any_eq_true.2 ⟨x, HX.out ▸ List.getElem_mem hlt2, hq⟩)
        clear hq
        go_wp2_with (go_at_fn g; refine HC.out.mono ?_; rintro e w' ⟨rfl, hb1⟩)
        go_ret
        exact ⟨i, rfl, by rw [HA.out]; simp, below_then HB.out (by assumption)⟩
      | false =>
        rw [hq] at HC
        have HQ := Lib.hid hq
        clear hq
        go_wp2_with (go_at_fn g; refine HC.out.mono ?_; rintro e w' ⟨rfl, hb1⟩)
        go_roundg (l.length - (i + 1))
        case measure => omega
        case rel =>
          refine ⟨i + 1, by go_num, by omega, by omega, fun j hj hji => ?_, below_then HB.out (by assumption)⟩
          by_cases e : j = i
          · subst e; rw [HX.out]; exact HQ.out
          · exact hno.out j hj (by omega)
    · have hz : ¬ (i : Int) < (l.length : Int) := by omega
      have HA := Lib.hid (show (l.any fun x => !x.validP) = false from by
        rw [List.any_eq_false]
        intro x hx
        obtain ⟨j, hj, rfl⟩ := List.getElem_of_mem hx
        rw [hno.out j hj (by omega)]; decide)
      go_wp2
      go_ret
      exact ⟨-1, rfl, by rw [HA.out]; simp, hb⟩

set_option maxRecDepth 100000 in
theorem containsFunc_rule (g : FuncId) (eg : ∀ args w, (callFunc g args).run Tryd.prog w = .ok (.enter g args) w) (l : List Pn.Rule) (va : Option Addr) (vc : Nat) (w : World) (hl : l.length < 4294967281) (hp : ∀ x ∈ l, x.pattern.length < 4294967281) (hE : Env w) (hm : RulesAt w va vc l)
    (hg : ∀ x w1, x.pattern.length < 4294967281 → Env w1 → Calls Tryd.prog g #[ruleV x] w1 fun e w' => e = .returned (.bool (!x.validP)) ∧ Below w1.heap.size w1 w') :
    Calls Tryd.prog 36 #[.slice va l.length vc, .func (.func g) #[] #[]] w fun e w' => e = .returned (.bool (!l.all Pn.Rule.validP)) ∧ Below w.heap.size w w' := by
  have hI := Lib.hid (indexFunc_rule g eg l va vc w hl hp hE hm hg)
  have e : (l.any fun x => !x.validP) = !l.all Pn.Rule.validP := by rw [List.any_eq_not_all_not]; simp
  rw [e] at hI
  clear hp hE hm hg
  go_enter Tryd.func36, Tryd.ntmps36
  go_wp2_with (go_at_call 63; refine hI.out.mono ?_; rintro e w' ⟨r, rfl, hq, hb⟩)
  go_ret
  refine ⟨retb ?_, by assumption⟩
  first | assumption | rfl

end Go.Proofs.YtdnbmkfmckppaaaDoor
