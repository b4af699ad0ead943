/-
  The walk of pathname.rule.
-/
import Derived.Test.YtdnbmkfmckppaaaDoorRules
import Derived.Deep.RegionWith
namespace Go.Proofs.YtdnbmkfmckppaaaDoor
open Go.RowKit Go.Lib

theorem hasPrefix_one (l : Pn.B) (c : UInt8) : Lib.hasPrefix l [c] = (l.head? == some c) := by
  cases l with
  | nil => rfl
  | cons b t =>
    simp only [Lib.hasPrefix, List.isPrefixOf, List.head?_cons, Bool.and_true]
    rw [Bool.eq_iff_iff, beq_iff_eq, beq_iff_eq]
    exact ⟨fun h => by rw [h], fun h => (Option.some.inj h).symm⟩
theorem trimPrefix_one (l : Pn.B) (c : UInt8) : Lib.trimPrefix l [c] = if (l.head? == some c) then l.tail else l := by
  unfold Lib.trimPrefix
  rw [hasPrefix_one]
  simp
theorem hasSuffix_one (l : Pn.B) (c : UInt8) : Lib.hasSuffix l [c] = (l.getLast? == some c) := by
  unfold Lib.hasSuffix List.isSuffixOf
  have := hasPrefix_one l.reverse c
  unfold Lib.hasPrefix at this
  rw [show [c].reverse = [c] from rfl, this, List.head?_reverse]
theorem trimSuffix_one (l : Pn.B) (c : UInt8) : Lib.trimSuffix l [c] = if (l.getLast? == some c) then l.dropLast else l := by
  unfold Lib.trimSuffix
  rw [hasSuffix_one, List.dropLast_eq_take]; rfl

theorem cutPrefix_any (s : ByteArray) (c : UInt8) (w : World) : Calls Tryd.prog 61 #[.string s, .string ⟨#[c]⟩] w fun e w' => e = .returned (.tuple #[S (if (s.data.toList.head? == some c) then s.data.toList.tail else s.data.toList), .bool (s.data.toList.head? == some c)]) ∧ w' = w := by
  have h := Tryd.strings_CutPrefix s ⟨#[c]⟩ w
  simp only [hasPrefix_one, trimPrefix_one] at h
  exact h
theorem cutSuffix_any (s : ByteArray) (c : UInt8) (w : World) (hs : s.size ≤ 9223372036854775807) : Calls Tryd.prog 62 #[.string s, .string ⟨#[c]⟩] w fun e w' => e = .returned (.tuple #[S (if (s.data.toList.getLast? == some c) then s.data.toList.dropLast else s.data.toList), .bool (s.data.toList.getLast? == some c)]) ∧ w' = w := by
  have h := Tryd.strings_CutSuffix s ⟨#[c]⟩ w hs
  simp only [hasSuffix_one, trimSuffix_one] at h
  exact h

theorem ruleOf_parts (l : Pn.B) : ∃ (k1 : Bool) (l1 : Pn.B) (r1 : Bool) (l2 : Pn.B) (d : Bool) (l3 : Pn.B), (l.head? == some 33) = k1 ∧ (if (l.head? == some 33) then l.tail else l) = l1 ∧ (l1.head? == some 47) = r1 ∧ (if (l1.head? == some 47) then l1.tail else l1) = l2 ∧
    (l2.getLast? == some 47) = d ∧ (if (l2.getLast? == some 47) then l2.dropLast else l2) = l3 ∧ Pn.ruleOf l = ⟨l3, k1, d, r1 || l3.contains 47⟩ ∧ l1.length ≤ l.length ∧ l2.length ≤ l.length ∧ l3.length ≤ l.length := by
  refine ⟨_, _, _, _, _, _, rfl, rfl, rfl, rfl, rfl, rfl, rfl, ?_, ?_, ?_⟩
  · split <;> simp
  · split <;> split <;> simp <;> omega
  · split <;> split <;> split <;> simp <;> omega

set_option maxHeartbeats 1000000 in
set_option maxRecDepth 100000 in
theorem rule_any (s : ByteArray) (w : World) (hs : s.size < 4294967281) (hE : Env w) :
    Calls Tryd.prog 35 #[.string s] w fun e w' => e = .returned (.tuple #[ruleV (Pn.ruleOf s.data.toList), .bool (Pn.ruleOf s.data.toList).validP]) ∧ Below w.heap.size w w' := by
  have hs' : s.data.toList.length < 4294967281 := by rw [← size_eq]; exact hs
  have h1 := cutPrefix_any s 33
  generalize hl : s.data.toList = l at *
  obtain ⟨k1, l1, r1, l2, d, l3, e1, e2, e3, e4, e5, e6, hx, n1, n2, n3⟩ := ruleOf_parts l
  have h2 := cutPrefix_any ⟨l1.toArray⟩ 47
  have h3 := fun w => cutSuffix_any ⟨l2.toArray⟩ 47 w (by simp [ByteArray.size]; omega)
  simp only [e2] at h1
  simp only [e1] at h1
  simp only [e4] at h2
  simp only [e3] at h2
  simp only [e6] at h3
  simp only [e5] at h3
  have H1 := Lib.hid h1
  have H2 := Lib.hid h2
  have H3 := Lib.hid h3
  have H4 := Lib.hid (contains_any ⟨l3.toArray⟩)
  obtain ⟨q, hq⟩ : ∃ q, l3.contains 47 = q := ⟨_, rfl⟩
  rw [show (⟨l3.toArray⟩ : ByteArray).data.toList = l3 from rfl, hq] at H4
  rw [hx, hq]
  have HV := Lib.hid fun w1 (h : Env w1) => valid_rule ⟨l3, k1, d, r1 || q⟩ w1 (by simp; omega) h
  have HE := Lib.hid hE
  generalize hvb : (Pn.Rule.mk l3 k1 d (r1 || q)).validP = vb at *
  clear hx hl hE e1 e2 e3 e4 e5 e6 h1 h2 h3 hq n1 n2 n3 hvb
  cases r1 with
  | true =>
    rw [Bool.true_or] at *
    go_enter Tryd.func35, Tryd.ntmps35
    go_wp2_with fail
    refine (H1.out _).mono ?_
    rintro e w' ⟨rfl, hw⟩
    rw [hw]; clear hw
    go_wp2_with fail
    refine (H2.out _).mono ?_
    rintro e w' ⟨rfl, hw⟩
    rw [hw]; clear hw
    go_wp2_with fail
    refine (H3.out _).mono ?_
    rintro e w' ⟨rfl, hw⟩
    rw [hw]; clear hw
    go_wp2_with fail
    generalize hW : (w.alloc (.cells #[Value.string ⟨#[]⟩, .bool false, .bool false, .bool false] 36)).alloc (.cells #[S l3, .bool k1, .bool d, .bool true] 36) = W
    have htn := two_new (w := w) (.cells #[Value.string ⟨#[]⟩, .bool false, .bool false, .bool false] 36) (.cells #[S l3, .bool k1, .bool d, .bool true] 36)
    rw [hW] at htn
    have hBW : Below w.heap.size w W := by rw [← hW]; exact ((Below.refl _ w).alloc (Nat.le_refl _) _).alloc (by simp) _
    have hsz : W.heap.size = w.heap.size + 2 := by rw [← hW]; simp
    clear hW
    have r0 := cell_of_block' htn.1 0
    have r1 := cell_of_block' htn.1 1
    have r2 := cell_of_block' htn.1 2
    have r3 := cell_of_block' htn.1 3
    have f0 := free_of_block htn.1 0
    have f1 := free_of_block htn.1 1
    have f2 := free_of_block htn.1 2
    have f3 := free_of_block htn.1 3
    have x0 := cell_of_block' htn.2 0
    have x1 := cell_of_block' htn.2 1
    have x2 := cell_of_block' htn.2 2
    have x3 := cell_of_block' htn.2 3
    simp at r0 r1 r2 r3 x0 x1 x2 x3
    have HBW := Lib.hid hBW
    clear htn hBW
    go_region_with (go_at_call 38; refine (HV.out _ ?_).mono ?_; exact HE.out.below (HBW.out.drew); rintro e w2 ⟨rfl, hb2⟩; have r0' := (hb2.cell (p := ⟨w.heap.size, 0, none⟩) (by simp [hsz])).trans r0; have r1' := (hb2.cell (p := ⟨w.heap.size, 1, none⟩) (by simp [hsz])).trans r1; have r2' := (hb2.cell (p := ⟨w.heap.size, 2, none⟩) (by simp [hsz])).trans r2; have r3' := (hb2.cell (p := ⟨w.heap.size, 3, none⟩) (by simp [hsz])).trans r3; have f0' := (hb2.frozen (p := ⟨w.heap.size, 0, none⟩) (by simp [hsz])).trans f0; have f1' := (hb2.frozen (p := ⟨w.heap.size, 1, none⟩) (by simp [hsz])).trans f1; have f2' := (hb2.frozen (p := ⟨w.heap.size, 2, none⟩) (by simp [hsz])).trans f2; have f3' := (hb2.frozen (p := ⟨w.heap.size, 3, none⟩) (by simp [hsz])).trans f3; have x0' := (hb2.cell (p := ⟨w.heap.size + 1, 0, none⟩) (by simp [hsz])).trans x0; have x1' := (hb2.cell (p := ⟨w.heap.size + 1, 1, none⟩) (by simp [hsz])).trans x1; have x2' := (hb2.cell (p := ⟨w.heap.size + 1, 2, none⟩) (by simp [hsz])).trans x2; have x3' := (hb2.cell (p := ⟨w.heap.size + 1, 3, none⟩) (by simp [hsz])).trans x3)
    all_goals go_wp2_with fail
    all_goals refine bodyPost_ret (v := .tuple #[ruleV ⟨l3, k1, d, true⟩, .bool vb]) (by simp [results, Tryd.results35, go_sem, *]) rfl ⟨rfl, ?_⟩
    all_goals repeat (refine Below.setCell ?_ (by simp) _)
    all_goals exact below_then HBW.out.drew (by assumption)
  | false =>
    rw [Bool.false_or] at *
    go_enter Tryd.func35, Tryd.ntmps35
    go_wp2_with fail
    refine (H1.out _).mono ?_
    rintro e w' ⟨rfl, hw⟩
    rw [hw]; clear hw
    go_wp2_with fail
    refine (H2.out _).mono ?_
    rintro e w' ⟨rfl, hw⟩
    rw [hw]; clear hw
    go_wp2_with fail
    refine (H3.out _).mono ?_
    rintro e w' ⟨rfl, hw⟩
    rw [hw]; clear hw
    go_wp2_with fail
    refine (H4.out _).mono ?_
    rintro e w' ⟨rfl, hw⟩
    rw [hw]; clear hw
    go_wp2_with fail
    generalize hW : (w.alloc (.cells #[Value.string ⟨#[]⟩, .bool false, .bool false, .bool false] 36)).alloc (.cells #[S l3, .bool k1, .bool d, .bool q] 36) = W
    have htn := two_new (w := w) (.cells #[Value.string ⟨#[]⟩, .bool false, .bool false, .bool false] 36) (.cells #[S l3, .bool k1, .bool d, .bool q] 36)
    rw [hW] at htn
    have hBW : Below w.heap.size w W := by rw [← hW]; exact ((Below.refl _ w).alloc (Nat.le_refl _) _).alloc (by simp) _
    have hsz : W.heap.size = w.heap.size + 2 := by rw [← hW]; simp
    clear hW
    have r0 := cell_of_block' htn.1 0
    have r1 := cell_of_block' htn.1 1
    have r2 := cell_of_block' htn.1 2
    have r3 := cell_of_block' htn.1 3
    have f0 := free_of_block htn.1 0
    have f1 := free_of_block htn.1 1
    have f2 := free_of_block htn.1 2
    have f3 := free_of_block htn.1 3
    have x0 := cell_of_block' htn.2 0
    have x1 := cell_of_block' htn.2 1
    have x2 := cell_of_block' htn.2 2
    have x3 := cell_of_block' htn.2 3
    simp at r0 r1 r2 r3 x0 x1 x2 x3
    have HBW := Lib.hid hBW
    clear htn hBW
    go_region_with (go_at_call 38; refine (HV.out _ ?_).mono ?_; exact HE.out.below (HBW.out.drew); rintro e w2 ⟨rfl, hb2⟩; have r0' := (hb2.cell (p := ⟨w.heap.size, 0, none⟩) (by simp [hsz])).trans r0; have r1' := (hb2.cell (p := ⟨w.heap.size, 1, none⟩) (by simp [hsz])).trans r1; have r2' := (hb2.cell (p := ⟨w.heap.size, 2, none⟩) (by simp [hsz])).trans r2; have r3' := (hb2.cell (p := ⟨w.heap.size, 3, none⟩) (by simp [hsz])).trans r3; have f0' := (hb2.frozen (p := ⟨w.heap.size, 0, none⟩) (by simp [hsz])).trans f0; have f1' := (hb2.frozen (p := ⟨w.heap.size, 1, none⟩) (by simp [hsz])).trans f1; have f2' := (hb2.frozen (p := ⟨w.heap.size, 2, none⟩) (by simp [hsz])).trans f2; have f3' := (hb2.frozen (p := ⟨w.heap.size, 3, none⟩) (by simp [hsz])).trans f3; have x0' := (hb2.cell (p := ⟨w.heap.size + 1, 0, none⟩) (by simp [hsz])).trans x0; have x1' := (hb2.cell (p := ⟨w.heap.size + 1, 1, none⟩) (by simp [hsz])).trans x1; have x2' := (hb2.cell (p := ⟨w.heap.size + 1, 2, none⟩) (by simp [hsz])).trans x2; have x3' := (hb2.cell (p := ⟨w.heap.size + 1, 3, none⟩) (by simp [hsz])).trans x3)
    all_goals go_wp2_with fail
    all_goals refine bodyPost_ret (v := .tuple #[ruleV ⟨l3, k1, d, q⟩, .bool vb]) (by simp [results, Tryd.results35, go_sem, *]) rfl ⟨rfl, ?_⟩
    all_goals repeat (refine Below.setCell ?_ (by simp) _)
    all_goals exact below_then HBW.out.drew (by assumption)

end Go.Proofs.YtdnbmkfmckppaaaDoor
