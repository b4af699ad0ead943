/-
  The walks of pathname's functions on texts: clean, component, Valid, Split, Parent, Within, Compare.
-/
import Derived.Test.YtdcghpeomaailaaDoorClean
import Derived.Test.YtdcghpeomaailaaDoorComp
import Derived.Test.YtdcghpeomaailaaDoorIdx
import Derived.Test.YtdcghpeomaailaaDoorPureU
import Derived.Test.YtdcghpeomaailaaDoorShelf
namespace Go.Proofs.YtdcghpeomaailaaDoor
open Go.RowKit Go.Lib

/-- component. -/
theorem component_any (s : ByteArray) (w : World) (hs : s.size < 4294967281) (hE : Env w) :
    Calls Tryd.prog 45 #[.string s] w fun e w' => e = .returned (.bool (Pn.componentP s.data.toList)) ∧ Below w.heap.size w w' := by
  refine (component_walk s w hs hE).mono ?_
  rintro e w' ⟨rfl, hb⟩
  refine ⟨?_, hb⟩
  unfold Pn.componentP
  rw [toList_data, size_eq]

/-- The closures of Valid and Join: not a component. -/
theorem notcomp_valid (s : ByteArray) (w : World) (hs : s.size < 4294967281) (hE : Env w) :
    Calls Tryd.prog 44 #[.string s] w fun e w' => e = .returned (.bool (!Pn.componentP s.data.toList)) ∧ Below w.heap.size w w' := by
  have hC := component_any s w hs hE
  generalize Pn.componentP s.data.toList = B at *
  go_enter Tryd.func44, Tryd.ntmps44
  go_wp2_with (go_at_call 45; refine hC.mono ?_; rintro e w' ⟨rfl, hb⟩)
  go_ret
  exact ⟨rfl, by assumption⟩


/-- slices.ContainsFunc over strings: whether an element meets p. -/
theorem containsFunc_str (g : FuncId) (eg : ∀ args w, (callFunc g args).run Tryd.prog w = .ok (.enter g args) w) (lb : Array Value) (p : ByteArray → Bool) (b off cap : Nat) (ss : List ByteArray) (w : World) (hss : ss.length ≤ 9223372036854775807)
    (hlt : b < w.heap.size) (hr : RowAt w b off (ss.map Value.string))
    (cG : ∀ x W, Below w.heap.size w W → x ∈ ss → Calls Tryd.prog g (#[.string x] ++ lb) W fun e W' => e = .returned (.bool (p x)) ∧ Below W.heap.size W W') :
    Calls Tryd.prog 43 #[.slice (some ⟨b, off, none⟩) ss.length cap, .func (.func g) #[] lb] w fun e w' => e = .returned (.bool (ss.any p)) ∧ Below w.heap.size w w' := by
  have hI := indexFunc_str g eg lb p b off cap ss w hss hlt hr cG
  clear cG hr
  go_enter Tryd.func43, Tryd.ntmps43
  go_wp2_with (go_at_call 65; refine hI.mono ?_; rintro e w' ⟨r, rfl, hq, hb⟩)
  go_ret
  exact ⟨rfl, by assumption⟩

/-- The block that Split makes. -/
def pieces (c : UInt8) (s : ByteArray) : Obj := .cells ((Pn.splitS c s.data.toList).map S).toArray 9

/-- strings.Split at one byte. -/
theorem split_any (s : ByteArray) (c : UInt8) (w : World) (hs : s.size < 4294967281) (hE : Env w) :
    Calls Tryd.prog 42 #[.string s, .string ⟨#[c]⟩] w fun e w' =>
      e = .returned (.slice (some ⟨w.heap.size, 0, none⟩) (Pn.splitS c s.data.toList).length (Pn.splitS c s.data.toList).length) ∧ w' = w.alloc (pieces c s) := by
  obtain ⟨m, hm⟩ := hE.maxLen
  have h := Tryd.strings_Split s ⟨#[c]⟩ m w hs hm (Nat.le_refl 1)
  rw [Pn.splitB_count, Pn.splitB_cells] at h
  exact h

theorem rowAt_alloc (w : World) (xs : List Value) (t : TypeId) : RowAt (w.alloc (.cells xs.toArray t)) w.heap.size 0 xs := by
  intro i hi
  have h : (w.alloc (.cells xs.toArray t)).heap[w.heap.size]? = some (.cells xs.toArray t) := by
    show (w.heap.push _)[w.heap.size]? = _
    simp
  simp only [World.cell?, h, Nat.zero_add]
  simp [hi]

theorem pieces_row (c : UInt8) (s : ByteArray) (w : World) : RowAt (w.alloc (pieces c s)) w.heap.size 0 ((Pn.splitS c s.data.toList).map S) := rowAt_alloc _ _ _

theorem splitS_len (c : UInt8) (l : Pn.B) : (Pn.splitS c l).length ≤ l.length + 1 := by
  induction l with
  | nil => simp [Pn.splitS]
  | cons b t ih =>
    by_cases hb : b = c
    · rw [Pn.splitS, if_pos hb]; simp; omega
    · obtain ⟨p, r, h1, h2⟩ := Pn.splitS_cons_ne hb t
      rw [h2]; rw [h1] at ih; simp at ih ⊢; omega

theorem splitS_part {c : UInt8} {l p : Pn.B} (h : p ∈ Pn.splitS c l) : p.length ≤ l.length := by
  induction l generalizing p with
  | nil => simp [Pn.splitS] at h; subst h; simp
  | cons b t ih =>
    by_cases hb : b = c
    · rw [Pn.splitS, if_pos hb] at h
      rcases List.mem_cons.1 h with rfl | h
      · simp
      · have := ih h; simp; omega
    · obtain ⟨x, r, h1, h2⟩ := Pn.splitS_cons_ne hb t
      rw [h2] at h
      rcases List.mem_cons.1 h with rfl | h
      · have := ih (p := x) (by rw [h1]; simp); simp; omega
      · have := ih (p := p) (by rw [h1]; simp [h]); simp; omega

set_option maxHeartbeats 400000 in
/-- Valid. -/
theorem valid_any (s : ByteArray) (w : World) (hs : s.size < 4294967281) (hE : Env w) :
    Calls Tryd.prog 20 #[.string s] w fun e w' => e = .returned (.bool (Pn.validP s.data.toList)) ∧ Below w.heap.size w w' := by
  have hs1 := hs
  have hsz := size_eq s
  have hlen := splitS_len 47 s.data.toList
  have eg := enters_of Tryd.func44 (by kernel_rfl) rfl
  have hS := split_any s 47 w hs hE
  have hb0 : Below w.heap.size w (w.alloc (pieces 47 s)) := (Below.refl _ w).alloc (Nat.le_refl _) _
  have hE0 := hE.below hb0
  have hrow := pieces_row 47 s w
  have hmap : (Pn.splitS 47 s.data.toList).map S = ((Pn.splitS 47 s.data.toList).map fun l => (⟨l.toArray⟩ : ByteArray)).map Value.string := by rw [List.map_map]; rfl
  have hC := containsFunc_str 44 eg #[] (fun x => !Pn.componentP x.data.toList) w.heap.size 0 (Pn.splitS 47 s.data.toList).length ((Pn.splitS 47 s.data.toList).map fun l => (⟨l.toArray⟩ : ByteArray)) (w.alloc (pieces 47 s))
    (by rw [List.length_map]; omega) (by simp) (by rw [← hmap]; exact hrow)
    (fun x W hW hx => by
      obtain ⟨l, hl, rfl⟩ := List.mem_map.1 hx
      have := splitS_part hl
      exact notcomp_valid _ W (by simp [ByteArray.size]; omega) (hE0.below hW))
  rw [List.length_map, List.any_map] at hC
  have hfin : ∀ q : Bool, (Pn.splitS 47 s.data.toList).any ((fun x : ByteArray => !Pn.componentP x.data.toList) ∘ fun l => ⟨l.toArray⟩) = q → (Pn.splitS 47 s.data.toList).all Pn.componentP = !q := by
    rintro q rfl
    rw [List.all_eq_not_any_not]; rfl
  generalize hq : (Pn.splitS 47 s.data.toList).any ((fun x : ByteArray => !Pn.componentP x.data.toList) ∘ fun l => ⟨l.toArray⟩) = q at hC
  have hfin := hfin q hq
  clear hq hrow hmap hE0
  unfold Pn.validP
  rw [hfin, ← hsz]
  generalize (Pn.splitS 47 s.data.toList).length = n at *
  have hn : n ≤ 4294967281 := by omega
  have hS := Lib.hid hS
  have hC := Lib.hid hC
  clear hsz hfin
  go_enter Tryd.func20, Tryd.ntmps20
  go_wp2_with (first | (go_at_call 42; refine hS.out.mono ?_; rintro e w' ⟨rfl, hw⟩; rw [hw]) | (go_at_call 43; refine hC.out.mono ?_; rintro e w' ⟨rfl, hb⟩))
  all_goals go_ret
  all_goals refine ⟨retb ?_, by first | assumption | exact below_then hb0 (by assumption)⟩
  all_goals first
    | (have h1 : s.size ≤ 512 := by omega
       have h2 : n ≤ 16 := by omega
       simp [h1, h2]; done)
    | (have h1 : ¬ s.size ≤ 512 := by omega
       simp [h1]; done)
    | (have h2 : ¬ n ≤ 16 := by omega
       simp [h2]; done)

end Go.Proofs.YtdcghpeomaailaaDoor
