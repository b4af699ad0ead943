/-
  The walk of pathname.Join at the parts of a valid path.
-/
import Derived.Test.YtdnbmkfmckppaaaDoorJoinS
import Derived.Test.YtdnbmkfmckppaaaDoorLawRejoins
namespace Go.Proofs.YtdnbmkfmckppaaaDoor
open Go.RowKit Go.Lib

theorem split_weight' (p : Pn.B) : weight (Pn.splitS 47 p) = p.length + 1 := splitS_weight 47 p

set_option maxRecDepth 100000 in
theorem join_path (p : Pn.B) (g vc : Nat) (w : World) (hv : Pn.validP p = true) (hE : Env w) (hg : g < w.heap.size) (hr : RowAt w g 0 ((Pn.splitS 47 p).map S)) (hc : (Pn.splitS 47 p).length ≤ vc) :
    Calls Tryd.prog 27 #[.slice (some ⟨g, 0, none⟩) (Pn.splitS 47 p).length vc] w fun e w' => e = .returned (.tuple #[S p, .int .i64 0]) ∧ Below w.heap.size w w' := by
  obtain ⟨h1, h2, h3⟩ := Pn.valid_facts hv
  have hpos := List.length_pos_iff.2 (Pn.splitS_ne 47 p)
  have eg := enters_of Tryd.func50 (by kernel_rfl) rfl
  have hmap : (Pn.splitS 47 p).map S = ((Pn.splitS 47 p).map fun l => (⟨l.toArray⟩ : ByteArray)).map Value.string := by rw [List.map_map]; rfl
  have hC := containsFunc_str 50 eg #[] (fun x => !Pn.componentP x.data.toList) g 0 vc ((Pn.splitS 47 p).map fun l => (⟨l.toArray⟩ : ByteArray)) w
    (by rw [List.length_map]; omega) hg (by rw [← hmap]; exact hr)
    (fun x W hW hx => by
      obtain ⟨l, hl, rfl⟩ := List.mem_map.1 hx
      have := splitS_part hl
      exact notcomp_join _ W (by simp [ByteArray.size]; omega) (hE.below hW))
  rw [List.length_map, List.any_map] at hC
  have hq : (Pn.splitS 47 p).any ((fun x : ByteArray => !Pn.componentP x.data.toList) ∘ fun l => ⟨l.toArray⟩) = false := by
    rw [List.any_eq_false]
    intro q hq
    have := h3 q hq
    simp [this]
  rw [hq] at hC
  have hJ : ∀ W, Below w.heap.size w W → Calls Tryd.prog 49 #[.slice (some ⟨g, 0, none⟩) (Pn.splitS 47 p).length vc, .string ⟨#[47]⟩] W fun e w' => e = .returned (S p) ∧ Below W.heap.size W w' := fun W hW => by
    have := join_any (Pn.splitS 47 p) (some ⟨g, 0, none⟩) vc W (.inr ⟨g, rfl, Nat.lt_of_lt_of_le hg hW.size, hr.below hW hg, hc⟩) (by rw [split_weight']; omega)
    rwa [Pn.join_split] at this
  have hC := Lib.hid hC
  have hJ := Lib.hid hJ
  clear hq hmap hr h3 hE hv
  have hlen : (⟨p.toArray⟩ : ByteArray).size = p.length := rfl
  generalize (Pn.splitS 47 p).length = n at *
  have e1 : ¬ ((n : Int) = 0) := by omega
  have e2 : ¬ ((16 : Int) < (n : Int)) := by omega
  have e3 : ¬ ((512 : Int) < (p.length : Int)) := by omega
  go_enter Tryd.func27, Tryd.ntmps27
  go_wp2_with fail
  refine hC.out.mono ?_
  rintro e w1 ⟨rfl, hb⟩
  have B1 := Lib.hid hb
  clear hb
  go_wp2_with fail
  refine (hJ.out _ B1.out).mono ?_
  rintro e w2 ⟨rfl, hb⟩
  have B2 := Lib.hid (below_then B1.out hb)
  clear hb
  go_wp2_with fail
  go_ret2
  exact ⟨rfl, B2.out⟩

end Go.Proofs.YtdnbmkfmckppaaaDoor
