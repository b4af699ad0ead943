/-
  The walk of kinkeeplaw18.awake: it answers true.
-/
import Derived.Test.YtdnbmkfmckppaaaDoorCleanW
import Derived.Test.YtdnbmkfmckppaaaDoorIgnoredT
namespace Go.Proofs.YtdnbmkfmckppaaaDoor
open Go.RowKit Go.Lib

theorem aw1 : cleanTop [47, 97, 47, 46, 47, 98, 47, 47, 46, 46, 47, 99] = ([97, 47, 99], 0) := by decide +kernel
theorem aw2 : cleanTop [97, 47, 46, 46] = ([], 1) := by decide +kernel
theorem aw3 : matchTop [42, 46, 116, 63, 116] [97, 46, 116, 120, 116] = (true, 0) := by decide +kernel
theorem aw4 : matchTop [97, 47, 42, 42, 47, 99] [97, 47, 98, 47, 98, 47, 99] = (true, 0) := by decide +kernel
theorem aw5 : matchTop [91, 97] [97] = (false, 1) := by decide +kernel
def awRules : List Pn.Rule := [⟨[42, 46, 116, 109, 112], false, false, false⟩, ⟨[107, 101, 101, 112, 46, 116, 109, 112], true, false, false⟩, ⟨[98, 117, 105, 108, 100], false, true, true⟩, ⟨[98, 47, 99], false, false, true⟩]
theorem aw6 : Pn.parseP [42, 46, 116, 109, 112, 10, 33, 107, 101, 101, 112, 46, 116, 109, 112, 10, 47, 98, 117, 105, 108, 100, 47, 10, 98, 47, 99, 10] = (awRules, 0, 0) := by decide +kernel
theorem aw7 : ignoredTop awRules [98, 47, 99, 47, 100] false = (true, 0) := by decide +kernel
theorem aw8 : ignoredTop awRules [107, 101, 101, 112, 46, 116, 109, 112] false = (false, 0) := by decide +kernel
theorem aw9 : Pn.cmpP [97, 47, 98] [97, 32, 98] = -1 := by decide +kernel
theorem aw10 : Pn.validP [97] = true := by decide +kernel
theorem aw11 : Pn.validP [] = false := by decide +kernel

theorem awRules_small : awRules.length < 4294967281 ∧ ∀ x ∈ awRules, x.pattern.length < 4294967281 := by
  refine ⟨by decide, fun x hx => ?_⟩
  have : ∀ x ∈ awRules, x.pattern.length ≤ 20 := by decide
  have := this x hx; omega

theorem aw_clean (l : Pn.B) (r : Pn.B × Int) (h : cleanTop l = r) (hl : l.length < 4294967280) (w : World) (hE : Env w) : Calls Tryd.prog 26 #[.string ⟨l.toArray⟩] w fun e w' => e = .returned (.tuple #[S r.1, .int .i64 r.2]) ∧ Below w.heap.size w w' := by
  have := clean_top ⟨l.toArray⟩ w hl hE
  rw [show (⟨l.toArray⟩ : ByteArray).data.toList = l from rfl, h] at this; exact this
theorem aw_match (p l : Pn.B) (r : Bool × Int) (h : matchTop p l = r) (hp : p.length < 4294967280) (hl : l.length < 4294967280) (w : World) (hE : Env w) : Calls Tryd.prog 12 #[.string ⟨p.toArray⟩, .string ⟨l.toArray⟩] w fun e w' => e = .returned (.tuple #[.bool r.1, .int .i64 r.2]) ∧ Below w.heap.size w w' := by
  have := match_top ⟨p.toArray⟩ ⟨l.toArray⟩ w (Nat.lt_of_lt_of_le hp (by decide)) hl hE
  rw [show (⟨l.toArray⟩ : ByteArray).data.toList = l from rfl, show (⟨p.toArray⟩ : ByteArray).data.toList = p from rfl, h] at this; exact this
theorem aw_cmp (w : World) : Calls Tryd.prog 22 #[.string ⟨#[97, 47, 98]⟩, .string ⟨#[97, 32, 98]⟩] w fun e w' => e = .returned (.int .i64 (-1)) ∧ Below w.heap.size w w' := by
  have := compare_any ⟨#[97, 47, 98]⟩ ⟨#[97, 32, 98]⟩ w (by decide) (by decide)
  rw [show Pn.cmpP (⟨#[97, 47, 98]⟩ : ByteArray).data.toList (⟨#[97, 32, 98]⟩ : ByteArray).data.toList = -1 from aw9] at this; exact this
theorem aw_valid (l : Pn.B) (r : Bool) (h : Pn.validP l = r) (hl : l.length < 4294967281) (w : World) (hE : Env w) : Calls Tryd.prog 11 #[.string ⟨l.toArray⟩] w fun e w' => e = .returned (.bool r) ∧ Below w.heap.size w w' := by
  have := valid_any ⟨l.toArray⟩ w hl hE
  rw [show (⟨l.toArray⟩ : ByteArray).data.toList = l from rfl, h] at this; exact this
theorem aw_parse (l : Pn.B) (rs : List Pn.Rule) (h : Pn.parseP l = (rs, 0, 0)) (hl : l.length < 4294967280) (w : World) (hE : Env w) : Calls Tryd.prog 14 #[.string ⟨l.toArray⟩] w fun e w' => ∃ va vc, e = .returned (.tuple #[.slice va rs.length vc, .int .i64 0, .int .i64 0]) ∧ Below w.heap.size w w' ∧ RulesAt w' va vc rs := by
  refine (parse_any ⟨l.toArray⟩ w hl hE).mono ?_
  rintro e w' ⟨hb, va, vc, rfl, hm⟩
  rw [show (⟨l.toArray⟩ : ByteArray).data.toList = l from rfl, h] at hm ⊢
  exact ⟨va, vc, rfl, hb, rulesAt_of hm⟩
theorem aw_ignored (rs : List Pn.Rule) (l : Pn.B) (dir : Bool) (r : Bool × Int) (h : ignoredTop rs l dir = r) (h1 : rs.length < 4294967281) (h2 : ∀ x ∈ rs, x.pattern.length < 4294967281) (hl : l.length < 4294967280) (va : Option Addr) (vc : Nat) (w : World) (hE : Env w) (hr : RulesAt w va vc rs) :
    Calls Tryd.prog 15 #[.slice va rs.length vc, .string ⟨l.toArray⟩, .bool dir] w fun e w' => e = .returned (.tuple #[.bool r.1, .int .i64 r.2]) ∧ Below w.heap.size w w' := by
  have := ignored_top rs va vc ⟨l.toArray⟩ dir w h1 h2 hl hE hr
  rw [show (⟨l.toArray⟩ : ByteArray).data.toList = l from rfl, h] at this; exact this

set_option maxHeartbeats 4000000 in
set_option maxRecDepth 100000 in
/-- awake answers true. -/
theorem awake_any (w : World) (hE : Env w) : Calls Tryd.prog 10 #[] w fun e w' => e = .returned (.bool true) ∧ Below w.heap.size w w' := by
  have H1 := Lib.hid fun w h => aw_clean _ _ aw1 (by decide) w h
  have H2 := Lib.hid fun w h => aw_clean _ _ aw2 (by decide) w h
  have H3 := Lib.hid fun w h => aw_match _ _ _ aw3 (by decide) (by decide) w h
  have H4 := Lib.hid fun w h => aw_match _ _ _ aw4 (by decide) (by decide) w h
  have H5 := Lib.hid fun w h => aw_match _ _ _ aw5 (by decide) (by decide) w h
  have H6 := Lib.hid fun w h => aw_parse _ _ aw6 (by decide) w h
  have H7 := Lib.hid fun va vc w h hr => aw_ignored _ _ _ _ aw7 awRules_small.1 awRules_small.2 (by decide) va vc w h hr
  have H8 := Lib.hid fun va vc w h hr => aw_ignored _ _ _ _ aw8 awRules_small.1 awRules_small.2 (by decide) va vc w h hr
  have HC9 := Lib.hid fun w => aw_cmp w
  have HV10 := Lib.hid fun w h => aw_valid [97] _ aw10 (by decide) w h
  have HV11 := Lib.hid fun w h => aw_valid [] _ aw11 (by decide) w h
  have HE := Lib.hid hE
  clear hE
  go_enter Tryd.func10, Tryd.ntmps10
  go_wp2_with fail
  refine (H1.out _ HE.out).mono ?_
  rintro e w1 ⟨rfl, hb⟩
  have B1 := Lib.hid hb
  clear hb
  go_wp2_with fail
  refine (H2.out _ (HE.out.below B1.out)).mono ?_
  rintro e w2 ⟨rfl, hb⟩
  have B2 := Lib.hid (below_then B1.out hb)
  clear hb
  go_wp2_with fail
  refine (H3.out _ (HE.out.below B2.out)).mono ?_
  rintro e w3 ⟨rfl, hb⟩
  have B3 := Lib.hid (below_then B2.out hb)
  clear hb
  go_wp2_with fail
  refine (H4.out _ (HE.out.below B3.out)).mono ?_
  rintro e w4 ⟨rfl, hb⟩
  have B4 := Lib.hid (below_then B3.out hb)
  clear hb
  go_wp2_with fail
  refine (H5.out _ (HE.out.below B4.out)).mono ?_
  rintro e w5 ⟨rfl, hb⟩
  have B5 := Lib.hid (below_then B4.out hb)
  clear hb
  go_wp2_with fail
  refine (H6.out _ (HE.out.below B5.out)).mono ?_
  rintro e w6 ⟨va, vc, rfl, hb, hr⟩
  have B6 := Lib.hid (below_then B5.out hb)
  have HR6 := Lib.hid hr
  clear hb hr
  go_wp2_with fail
  refine (H7.out _ _ _ (HE.out.below B6.out) HR6.out).mono ?_
  rintro e w7 ⟨rfl, hb⟩
  have B7 := Lib.hid (below_then B6.out hb)
  have HR7 := Lib.hid (HR6.out.below hb)
  clear hb
  go_wp2_with fail
  refine (H8.out _ _ _ (HE.out.below B7.out) HR7.out).mono ?_
  rintro e w8 ⟨rfl, hb⟩
  have B8 := Lib.hid (below_then B7.out hb)
  clear hb
  go_wp2_with fail
  refine (HC9.out w8).mono ?_
  rintro e w9 ⟨rfl, hb⟩
  have B9 := Lib.hid (below_then B8.out hb)
  clear hb
  go_wp2_with fail
  refine (HV10.out _ (HE.out.below B9.out)).mono ?_
  rintro e w10 ⟨rfl, hb⟩
  have B10 := Lib.hid (below_then B9.out hb)
  clear hb
  go_wp2_with fail
  refine (HV11.out _ (HE.out.below B10.out)).mono ?_
  rintro e w11 ⟨rfl, hb⟩
  have B11 := Lib.hid (below_then B10.out hb)
  clear hb
  go_wp2_with fail
  go_ret
  exact ⟨rfl, B11.out⟩

end Go.Proofs.YtdnbmkfmckppaaaDoor
