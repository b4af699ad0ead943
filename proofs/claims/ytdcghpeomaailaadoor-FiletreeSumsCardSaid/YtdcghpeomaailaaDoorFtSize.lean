/-
  The walk of (*Tree).Size.
-/
import Derived.Test.YtdcghpeomaailaaDoorFtAt
import Derived.Test.YtdcghpeomaailaaDoorFtEnts
namespace Go.Proofs.YtdcghpeomaailaaDoor
open Go.RowKit Go.Lib Ft

namespace Ft
theorem files_snoc (l : List Ent) (e : Ent) : files (l ++ [e]) = files l + (if e.kind = 1 then 1 else 0) := by
  unfold files
  rw [List.filter_append, List.length_append]
  by_cases h : e.kind = 1 <;> simp [h]
theorem dirs_snoc (l : List Ent) (e : Ent) : dirs (l ++ [e]) = dirs l + (if e.kind = 2 then 1 else 0) := by
  unfold dirs
  rw [List.filter_append, List.length_append]
  by_cases h : e.kind = 2 <;> simp [h]
theorem links_snoc (l : List Ent) (e : Ent) : links (l ++ [e]) = links l + (if e.kind = 1 ∨ e.kind = 2 then 0 else 1) := by
  unfold links
  rw [List.filter_append, List.length_append]
  by_cases h : e.kind = 1
  · simp [h]
  · by_cases h2 : e.kind = 2 <;> simp [h, h2]
theorem bytes_snoc (l : List Ent) (e : Ent) : bytes (l ++ [e]) = bytes l + (if e.kind = 1 then e.data.length else 0) := by
  unfold bytes
  rw [List.filter_append, List.map_append, List.sum_append]
  by_cases h : e.kind = 1 <;> simp [h]
theorem files_le (l : List Ent) : files l ≤ l.length := List.length_filter_le _ _
theorem dirs_le (l : List Ent) : dirs l ≤ l.length := List.length_filter_le _ _
theorem links_le (l : List Ent) : links l ≤ l.length := List.length_filter_le _ _
theorem sum_le (c : Nat) : ∀ (l : List Nat), (∀ x ∈ l, x ≤ c) → l.sum ≤ l.length * c
  | [], _ => by simp
  | a :: l, h => by
    have h1 := h a (by simp)
    have h2 := sum_le c l fun x hx => h x (List.mem_cons_of_mem _ hx)
    simp only [List.sum_cons, List.length_cons]
    rw [Nat.add_mul]; omega
theorem bytes_le (l : List Ent) (h : ∀ e ∈ l, e.data.length ≤ 1048576) : bytes l ≤ l.length * 1048576 := by
  unfold bytes
  refine Nat.le_trans (sum_le 1048576 _ fun x hx => ?_) ?_
  · obtain ⟨e, he, rfl⟩ := List.mem_map.1 hx
    exact h e (List.mem_filter.1 he).1
  · rw [List.length_map]
    exact Nat.mul_le_mul_right _ (List.length_filter_le _ _)
end Ft

def SizeRel (u : List Ent) (w : World) (v4 v5 v6 v7 v15 : Value) (gg : Nat) (wr : World) : Prop :=
  ∃ i : Nat, v15 = .int .i64 i ∧ i ≤ u.length ∧ u.length - i ≤ gg ∧ v4 = .int .i64 (files (u.take i)) ∧ v5 = .int .i64 (dirs (u.take i)) ∧ v6 = .int .i64 (links (u.take i)) ∧ v7 = .int .i64 (Ft.bytes (u.take i)) ∧ Below w.heap.size w wr

set_option maxHeartbeats 2000000 in
set_option maxRecDepth 100000 in
theorem size_any (t : List Ent) (tb mb : Nat) (path : Pn.B) (w : World) (hT : TreeMem w tb mb t) (hE : Env w) (hp : path.length < 4294967281) :
    Calls Tryd.prog 27 #[.pointer (some ⟨tb, 0, none⟩), S path] w fun e' w' =>
      e' = .returned (.tuple #[.int .i64 (files (under t path)), .int .i64 (dirs (under t path)), .int .i64 (links (under t path)), .int .i64 (Ft.bytes (under t path))]) ∧ Below w.heap.size w w' := by
  have HAT := Lib.hid (at_any t tb mb path w hT hE hp)
  obtain ⟨u, hu⟩ : ∃ u, under t path = u := ⟨_, rfl⟩
  have hul : u.length ≤ 4096 := by
    have h1 := hT.few
    have h2 : u.length ≤ t.length := by
      rw [← hu]; unfold under; split
      · simp
      · exact List.length_filter_le _ _
    omega
  have HUT := Lib.hid fun e (he : e ∈ u) => (under_sub (hu ▸ he : e ∈ under t path)).1
  have HD := Lib.hid fun e (he : e ∈ u) => valid_data_len (hT.good e (HUT.out e he))
  have HPL := Lib.hid fun e (he : e ∈ u) => valid_path_len (hT.good e (HUT.out e he))
  have HT := Lib.hid hT
  unfold AtOk at HAT
  rw [hu] at HAT ⊢
  clear hT hE hu
  go_enter Tryd.func27, Tryd.ntmps27
  go_wp2_with fail
  refine HAT.out.mono ?_
  rintro e' w1 ⟨va, vc, rfl, hrow, hb⟩
  have HROW := Lib.hid hrow
  have HB := Lib.hid hb
  clear hrow hb
  go_wp2_with fail
  go_loopg [4, 5, 6, 7, 15] u.length (fun gg v4 v5 v6 v7 v15 wr => SizeRel u w1 v4 v5 v6 v7 v15 gg wr)
  case atStart => exact ⟨0, rfl, Nat.zero_le _, by omega, rfl, rfl, rfl, rfl, Below.refl _ _⟩
  case round =>
    obtain ⟨i, rfl, hi, hgg, rfl, rfl, rfl, rfl, hb⟩ := hrel
    by_cases hlt : i < u.length
    · have hz : (i : Int) < (u.length : Int) := by omega
      rcases HROW.out with hnil | ⟨g, rfl, hge, hglt, hrow⟩
      · subst hnil; exact absurd hlt (by simp)
      have r0 := (hrow.below (hb.mono (Nat.le_refl _)) hglt) i (by rw [List.length_map]; exact hlt)
      rw [Nat.zero_add] at r0
      simp only [List.getElem_map] at r0
      have heu := List.getElem_mem hlt
      have htk : u.take (i + 1) = u.take i ++ [u[i]] := by rw [List.take_succ_eq_append_getElem hlt]
      have hT2 := HT.out.below (below_then HB.out hb)
      have hfind := find_of HT.out.sorted (HUT.out _ heu)
      have hdl := HD.out _ heu
      have hpl := HPL.out _ heu
      have hby := bytes_le (u.take i) fun e he => HD.out e (List.mem_of_mem_take he)
      have hfi := files_le (u.take i)
      have hdi := dirs_le (u.take i)
      have hli := links_le (u.take i)
      rw [List.length_take] at hby hfi hdi hli
      obtain ⟨e, he⟩ : ∃ e, u[i] = e := ⟨_, rfl⟩
      rw [he] at r0 htk hfind hdl hpl
      have s1 := files_snoc (u.take i) e
      have s2 := dirs_snoc (u.take i) e
      have s3 := links_snoc (u.take i) e
      have s4 := bytes_snoc (u.take i) e
      rw [← htk] at s1 s2 s3 s4
      have hct := hT2.cell
      rcases hT2.look e.path (by omega) with ⟨h1, _⟩ | ⟨e2, v, h1, _, ⟨da, dc, rfl, hdc, _⟩, h3⟩
      · rw [hfind] at h1; cases h1
      rw [hfind] at h1
      cases h1
      have hlk := h3 false
      simp only [Bool.false_eq_true, ↓reduceIte] at hlk
      have HBW := Lib.hid (hb.alloc hb.size (.cells #[S e.path, .int .i64 e.kind, .int .i64 e.mode, .int .i64 e.time, .slice da e.data.length dc, S e.link] 25))
      generalize files (u.take i) = nf at *
      generalize dirs (u.take i) = nd at *
      generalize links (u.take i) = nl at *
      generalize Ft.bytes (u.take i) = nb at *
      have S1 := Lib.hid s1
      have S2 := Lib.hid s2
      have S3 := Lib.hid s3
      have S4 := Lib.hid s4
      have hbb : (nb : Int) + (e.data.length : Int) < 4294967296000 := by
        have : min i u.length * 1048576 ≤ 4096 * 1048576 := Nat.mul_le_mul_right _ (by omega)
        omega
      clear hrow hT2 hfind heu htk h3 hb hby s1 s2 s3 s4
      by_cases hk1 : e.kind = 1
      · have hq : (e.kind == 1) = true := by rw [beq_iff_eq]; exact hk1
        go_wp2_with fail
        go_roundg (u.length - (i + 1))
        case measure => omega
        case rel => exact ⟨i + 1, by go_num, by omega, by omega, by rw [S1.out, if_pos hk1]; go_num, by rw [S2.out, if_neg (by omega)]; rfl, by rw [S3.out, if_pos (.inl hk1)]; rfl, by rw [S4.out, if_pos hk1]; go_num, by have h := HBW.out; rw [hk1] at h; exact h⟩
      · have hq : (e.kind == 1) = false := by rw [beq_eq_false_iff_ne]; exact hk1
        by_cases hk2 : e.kind = 2
        · have hq2 : (e.kind == 2) = true := by rw [beq_iff_eq]; exact hk2
          go_wp2_with fail
          go_roundg (u.length - (i + 1))
          case measure => omega
          case rel => exact ⟨i + 1, by go_num, by omega, by omega, by rw [S1.out, if_neg hk1]; rfl, by rw [S2.out, if_pos hk2]; go_num, by rw [S3.out, if_pos (.inr hk2)]; rfl, by rw [S4.out, if_neg hk1]; rfl, by have h := HBW.out; rw [hk2] at h; exact h⟩
        · have hq2 : (e.kind == 2) = false := by rw [beq_eq_false_iff_ne]; exact hk2
          go_wp2_with fail
          go_roundg (u.length - (i + 1))
          case measure => omega
          case rel => exact ⟨i + 1, by go_num, by omega, by omega, by rw [S1.out, if_neg hk1]; rfl, by rw [S2.out, if_neg hk2]; rfl, by rw [S3.out, if_neg (by omega)]; go_num, by rw [S4.out, if_neg hk1]; rfl, HBW.out⟩
    · have hz : ¬ (i : Int) < (u.length : Int) := by omega
      obtain rfl : i = u.length := by omega
      rw [List.take_length]
      have HB2 := Lib.hid (below_then HB.out hb)
      clear hb
      go_wp2_with fail
      refine bodyPost_ret (v := .tuple #[.int .i64 (files u), .int .i64 (dirs u), .int .i64 (links u), .int .i64 (Ft.bytes u)]) (by simp [results, Tryd.results27, go_sem]) rfl ?_
      exact ⟨rfl, HB2.out⟩

end Go.Proofs.YtdcghpeomaailaaDoor
