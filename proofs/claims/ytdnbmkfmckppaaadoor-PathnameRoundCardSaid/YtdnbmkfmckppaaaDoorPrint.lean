/-
  The walks of (Rule).line and pathname.Print.
-/
import Derived.Test.YtdnbmkfmckppaaaDoorRulesF
import Derived.Lib.UnsafeStr
import Derived.Lib.AppendStr
namespace Go.Proofs.YtdnbmkfmckppaaaDoor
open Go.RowKit Go.Lib

set_option maxHeartbeats 4000000 in
set_option maxRecDepth 100000 in
theorem line_any (x : Pn.Rule) (w : World) (hs : x.pattern.length ≤ 4294967281) :
    Calls Tryd.prog 53 #[ruleV x] w fun e w' => e = .returned (S x.lineP) ∧ Below w.heap.size w w' := by
  obtain ⟨pat, keep, dir, rooted⟩ := x
  have hs : pat.length ≤ 4294967281 := hs
  have CON := Lib.hid fun w => contains_any ⟨pat.toArray⟩ w
  rw [show (⟨pat.toArray⟩ : ByteArray).data.toList = pat from rfl] at CON
  have n1 : ¬ 9223372036854775807 < 1 + pat.length := by omega
  have n2 : ¬ 9223372036854775807 < 1 + (1 + pat.length) := by omega
  have n3 : ¬ 9223372036854775807 < 1 + (1 + pat.length) + 1 := by omega
  have n4 : ¬ 9223372036854775807 < 1 + pat.length + 1 := by omega
  have n5 : ¬ 9223372036854775807 < pat.length + 1 := by omega
  have hK : ∃ K, pat.contains 47 = K := ⟨_, rfl⟩
  obtain ⟨K, hK⟩ := hK
  rw [hK] at CON
  have HK := Lib.hid hK
  clear hK hs
  cases rooted <;> cases K <;> cases keep <;> cases dir
  all_goals go_enter Tryd.func53, Tryd.ntmps53
  all_goals go_wp2_with (go_at_call 58; refine (CON.out _).mono ?_; rintro e w' ⟨rfl, hw⟩; rw [hw])
  all_goals go_ret
  all_goals refine ⟨?_, (Below.refl _ _).alloc (Nat.le_refl _) _⟩
  all_goals refine congrArg Ending.returned ?_
  all_goals refine congrArg Value.string ?_
  all_goals ext1
  all_goals have hk := HK.out
  all_goals simp at hk
  all_goals simp [Pn.Rule.lineP, ByteArray.data_append, hk]

theorem isBuilder_below {T e : TypeId} {B b : Nat} {bs : List Value} {W W' : World} (h : Lib.IsBuilder T e B b bs W) (hb : Below W.heap.size W W') : Lib.IsBuilder T e B b bs W' := by
  have step : ∀ p, Lib.BuilderAt T e B b p bs W → Lib.BuilderAt T e B b p bs W' := by
    rintro p ⟨h1, v, h2, h3, h4⟩
    exact ⟨h1, v, (hb.block b (lt_of_block h2)).trans h2, h3.kept (grown_below hb none) (by cases v.ownBlock <;> simp), h4⟩
  rcases h with h | h
  · exact .inl (step _ h)
  · exact .inr (step _ h)

def printed (l : List Pn.Rule) : Pn.B := (l.map fun x => x.lineP ++ [10]).flatten

theorem printed_next {l : List Pn.Rule} {i : Nat} (h : i < l.length) : printed (l.take (i + 1)) = printed (l.take i) ++ (l[i].lineP ++ [10]) := by
  unfold printed
  rw [List.take_succ_eq_append_getElem h, List.map_append, List.flatten_append]
  simp

theorem lineP_len (x : Pn.Rule) : x.lineP.length ≤ x.pattern.length + 3 := by
  unfold Pn.Rule.lineP
  simp only
  split <;> split <;> split <;> simp

theorem printed_len (l : List Pn.Rule) (m : Nat) (h : ∀ x ∈ l, x.pattern.length ≤ m) : (printed l).length ≤ l.length * (m + 4) := by
  induction l with
  | nil => simp [printed]
  | cons x l ih =>
    have h1 := ih fun y hy => h y (by simp [hy])
    have h2 := lineP_len x
    have h3 := h x (by simp)
    unfold printed at h1 ⊢
    rw [List.map_cons, List.flatten_cons, List.length_append, List.length_append]
    show _ ≤ (l.length + 1) * (m + 4)
    rw [Nat.add_mul, Nat.one_mul, List.length_singleton]
    omega

set_option maxHeartbeats 4000000 in
set_option maxRecDepth 100000 in
theorem print_any (l : List Pn.Rule) (va : Option Addr) (vc : Nat) (w : World) (hv : l.all Pn.Rule.validP = true) (h256 : l.length ≤ 256) (hp : ∀ x ∈ l, x.pattern.length ≤ 4294967280) (hE : Env w) (hr : RulesAt w va vc l) :
    Calls Tryd.prog 28 #[.slice va l.length vc] w fun e w' => e = .returned (.tuple #[S (printed l), .int .i64 0]) ∧ Below w.heap.size w w' := by
  have eg := enters_of Tryd.func51 (by kernel_rfl) rfl
  have HC := Lib.hid (containsFunc_rule 51 eg l va vc w (by omega) (fun x hx => by have := hp x hx; omega) hE hr (fun x w1 h1 h2 => notvalid_print x w1 h1 h2))
  rw [hv] at HC
  have HR := Lib.hid hr
  have HP := Lib.hid hp
  have HL := Lib.hid fun x (w : World) (h : x.pattern.length ≤ 4294967281) => line_any x w h
  have hz : ¬ (256 : Int) < (l.length : Int) := by omega
  clear hr hp hv hE eg
  go_enter Tryd.func28, Tryd.ntmps28
  go_wp2_with fail
  refine HC.out.mono ?_
  rintro e w1 ⟨rfl, hb⟩
  have B1 := Lib.hid hb
  have R1 := Lib.hid (HR.out.below hb)
  clear hb
  have F1 := Lib.hid (Lib.fresh_isBuilder 73 5 w1)
  go_wp2_with fail
  go_loopg [6, 14] l.length (fun gg _ iv wr => ∃ i : Nat, iv = .int .i64 i ∧ i ≤ l.length ∧ l.length - i ≤ gg ∧ Lib.IsBuilder 73 5 w1.heap.size w1.heap.size (Lib.byteCells (printed (l.take i))) wr ∧ Below w1.heap.size w1 wr ∧ w1.heap.size ≤ wr.heap.size)
  case atStart => exact ⟨0, rfl, Nat.zero_le _, by omega, F1.out, (Below.refl _ w1).alloc (Nat.le_refl _) _, by simp⟩
  case round =>
    obtain ⟨i, rfl, hi, hgg, hbu, hb, hsz⟩ := hrel
    have HB := Lib.hid hb
    have HU := Lib.hid hbu
    clear hb hbu
    by_cases hl : i < l.length
    · have hlz : (i : Int) < (l.length : Int) := by omega
      obtain ⟨g0, rfl, hg0, r0, r1, r2, r3⟩ := (R1.out.below HB.out).get hl
      have hpx := HP.out _ (List.getElem_mem hl)
      have HNX := Lib.hid (printed_next hl)
      have hpl := printed_len (l.take i) 4294967280 (fun x hx => HP.out x (List.mem_of_mem_take hx))
      rw [List.length_take] at hpl
      obtain ⟨x, hx⟩ : ∃ x, l[i] = x := ⟨_, rfl⟩
      rw [hx] at r0 r1 r2 r3 hpx HNX
      clear hx
      have hll := lineP_len x
      have hsum : ¬ 9223372036854775807 < x.lineP.length + 1 := by omega
      have hbA : Below wr.heap.size wr (wr.alloc (.cells #[S x.pattern, .bool x.keep, .bool x.dir, .bool x.rooted] 36)) := (Below.refl _ _).alloc (Nat.le_refl _) _
      have HA := Lib.hid hbA
      clear hbA
      go_wp2_with fail
      refine (HL.out x _ (by omega)).mono ?_
      rintro e w2 ⟨rfl, hb2⟩
      have hb3 := below_then HA.out hb2
      have hW := Tryd.Builder_WriteString w1.heap.size w1.heap.size (Lib.byteCells (printed (l.take i))) (⟨x.lineP.toArray⟩ ++ ⟨#[10]⟩) w2 (isBuilder_below HU.out hb3) (by
        rw [Lib.byteCells_length, ByteArray.size_append]
        show (printed (l.take i)).length + (x.lineP.length + 1) ≤ _
        omega) (Nat.le_trans hsz hb3.size)
      have HW := Lib.hid hW
      have HB2 := Lib.hid (HB.out.trans (hb3.mono HB.out.size))
      have hsz2 := Nat.le_trans hsz hb3.size
      clear hW hb2 hb3 hpl hll
      go_wp2_with fail
      refine HW.out.mono ?_
      rintro e w3 ⟨rfl, hbu, hb3⟩
      have HU3 := Lib.hid hbu
      have HB3 := Lib.hid (HB2.out.trans hb3)
      have hsz3 := Nat.le_trans hsz2 hb3.size
      clear hbu hb3
      go_wp2_with fail
      go_roundg (l.length - (i + 1))
      case measure => omega
      case rel =>
        refine ⟨i + 1, by go_num, by omega, Nat.le_refl _, .inr ?_, HB3.out, hsz3⟩
        have h1 := HU3.out
        rw [Lib.strCells_eq, ← Lib.byteCells_append] at h1
        have e : printed (l.take i) ++ (⟨x.lineP.toArray⟩ ++ ⟨#[10]⟩ : ByteArray).data.toList = printed (l.take (i + 1)) := by
          rw [HNX.out]; simp [ByteArray.data_append]
        rw [e] at h1
        exact h1
    · have hlz : ¬ (i : Int) < (l.length : Int) := by omega
      have ht : l.take i = l := List.take_of_length_le (by omega)
      have hU := HU.out
      rw [ht] at hU
      have HS := Lib.hid (Tryd.Builder_String_any w1.heap.size w1.heap.size (printed l) wr hU hsz)
      clear ht hU
      go_wp2_with fail
      refine HS.out.mono ?_
      rintro e w2 ⟨rfl, hb2⟩
      have HB2 := Lib.hid (HB.out.trans hb2)
      clear hb2
      go_wp2_with fail
      go_ret2
      exact ⟨rfl, below_then B1.out HB2.out⟩

end Go.Proofs.YtdnbmkfmckppaaaDoor
