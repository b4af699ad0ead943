/-
  The walks of the ignore rules: valid, line, rule.
-/
import Derived.Test.YtdnbmkfmckppaaaDoorMatchT
namespace Go.Proofs.YtdnbmkfmckppaaaDoor
open Go.RowKit Go.Lib

abbrev ruleV (x : Pn.Rule) : Value := .agg #[S x.pattern, .bool x.keep, .bool x.dir, .bool x.rooted]

theorem u8_eq33 (b : UInt8) : ((b.toNat : Int) == 33) = (b == 33) := by
  rw [Bool.eq_iff_iff, beq_iff_eq, beq_iff_eq]
  exact ⟨fun h => UInt8.toNat_inj.1 (show b.toNat = 33 by omega), fun h => by rw [h]; rfl⟩
theorem u8_eq35 (b : UInt8) : ((b.toNat : Int) == 35) = (b == 35) := by
  rw [Bool.eq_iff_iff, beq_iff_eq, beq_iff_eq]
  exact ⟨fun h => UInt8.toNat_inj.1 (show b.toNat = 35 by omega), fun h => by rw [h]; rfl⟩

theorem compile_nil : Pn.compileP [] = none := by decide +kernel

theorem contains_any (s : ByteArray) (w : World) : Calls Tryd.prog 58 #[.string s, .string ⟨#[47]⟩] w fun e w' => e = .returned (.bool (s.data.toList.contains 47)) ∧ w' = w := by
  have h := Tryd.strings_Contains_one s 47 w
  simp only [Pn.indexByte_contains] at h
  exact h

/-- compile, of which only the second result is used. -/
theorem compile_ok (s : ByteArray) (w : World) (hs : s.size < 4294967281) (hE : Env w) : Calls Tryd.prog 33 #[.string s] w fun e w' => ∃ a n c, e = .returned (.tuple #[.slice a n c, .bool (Pn.compileP s.data.toList).isSome]) ∧ Below w.heap.size w w' :=
  (compile_any s w hs hE).mono (by
    rintro e w' ⟨hb, v, rfl, ⟨a, n, c, rfl⟩, _⟩
    exact ⟨a, n, c, rfl, hb⟩)

set_option maxHeartbeats 1000000 in
set_option maxRecDepth 100000 in
theorem valid_rule (x : Pn.Rule) (w : World) (hs : x.pattern.length < 4294967281) (hE : Env w) :
    Calls Tryd.prog 38 #[ruleV x] w fun e w' => e = .returned (.bool x.validP) ∧ Below w.heap.size w w' := by
  obtain ⟨p, keep, dir, rooted⟩ := x
  simp only at hs
  have hb0 : Below w.heap.size w (w.alloc (.cells #[S p, .bool keep, .bool dir, .bool rooted] 36)) := (Below.refl _ _).alloc (Nat.le_refl _) _
  have HC := Lib.hid (compile_ok ⟨p.toArray⟩ _ hs (hE.below hb0))
  have HB0 := Lib.hid hb0
  have hN := heap_alloc_new w (.cells #[S p, .bool keep, .bool dir, .bool rooted] 36)
  have HK := Lib.hid (contains_any ⟨p.toArray⟩)
  have HN := Lib.hid hN
  unfold Pn.Rule.validP
  simp only
  clear hE hb0 hN
  cases hc : (Pn.compileP p).isSome with
  | false =>
    rw [show (⟨p.toArray⟩ : ByteArray).data.toList = p from rfl, hc] at HC
    clear hc
    go_enter Tryd.func38, Tryd.ntmps38
    go_wp2_with fail
    refine HC.out.mono ?_
    rintro e w1 ⟨a, n, c, rfl, hb⟩
    go_wp2_with fail
    go_ret
    exact ⟨rfl, below_then HB0.out hb⟩
  | true =>
    rw [show (⟨p.toArray⟩ : ByteArray).data.toList = p from rfl, hc] at HC
    have hne : p ≠ [] := by rintro rfl; rw [compile_nil] at hc; cases hc
    obtain ⟨b, t, rfl⟩ := List.exists_cons_of_ne_nil hne
    clear hc hne
    go_enter Tryd.func38, Tryd.ntmps38
    go_wp2_with fail
    refine HC.out.mono ?_
    rintro e w1 ⟨a, n, c, rfl, hb⟩
    have c0 : w1.cell? ⟨w.heap.size, 0, none⟩ = some (S (b :: t)) := by rw [hb.cell (p := ⟨w.heap.size, 0, none⟩) (by simp), cell_of_block' HN.out 0]; rfl
    have c3 : w1.cell? ⟨w.heap.size, 3, none⟩ = some (.bool rooted) := by rw [hb.cell (p := ⟨w.heap.size, 3, none⟩) (by simp), cell_of_block' HN.out 3]; rfl
    have HB := Lib.hid (below_then HB0.out hb)
    clear hb
    go_wp2_with fail
    all_goals try (refine (HK.out _).mono ?_; rintro e w' ⟨rfl, hw⟩; rw [hw]; clear hw; go_wp2_with fail)
    all_goals go_ret
    all_goals refine ⟨retb ?_, HB.out⟩
    all_goals have e0 : (⟨(b :: t).toArray⟩ : ByteArray)[0]'(by simp [ByteArray.size]) = b := rfl
    all_goals have k33 : (b.toNat : Int) = 33 ↔ b = 33 := ⟨fun h => UInt8.toNat_inj.1 (show b.toNat = 33 by omega), fun h => by rw [h]; rfl⟩
    all_goals have k35 : (b.toNat : Int) = 35 ↔ b = 35 := ⟨fun h => UInt8.toNat_inj.1 (show b.toNat = 35 by omega), fun h => by rw [h]; rfl⟩
    all_goals clear HC HB0 HK HN c0 c3 HB
    all_goals simp only [e0] at *
    all_goals simp_all [bne]
    all_goals rw [u8_eq33, u8_eq35]

end Go.Proofs.YtdnbmkfmckppaaaDoor
