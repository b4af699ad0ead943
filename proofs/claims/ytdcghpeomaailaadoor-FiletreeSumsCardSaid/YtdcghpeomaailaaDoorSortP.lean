/-
  slices.SortFunc over paths with pathname.Compare.
-/
import Derived.Test.YtdcghpeomaailaaDoorOwn
import Derived.Test.YtdcghpeomaailaaDoorFt2
import Derived.Test.YtdcghpeomaailaaDoorShelfS
namespace Go.Proofs.YtdcghpeomaailaaDoor
open Go.RowKit Go.Lib Go.Sort

/-- '[]byte(s)', the world said in full. -/
theorem bytes_grow (s : ByteArray) (w : World) : ∃ o cap, (convert 9 23 (.string s)).run Tryd.prog w = .ok (.slice (some ⟨w.heap.size, 0, none⟩) s.size cap) ((w.drew).alloc o) ∧
    RowAt ((w.drew).alloc o) w.heap.size 0 (bytesOf s.data.toList) := by
  refine ⟨_, _, run_bytes_of_string w _ _ 5 s Tryd.underlying9 Tryd.underlying23 Tryd.underlying5, ?_⟩
  intro i hi
  have hi' : i < s.data.size := by simpa [bytesOf] using hi
  rw [Nat.zero_add]
  generalize grownCap w s.size 0 5 = cap
  have h : ((w.drew).alloc (.cells (bytesRow s cap) 5 ((bytesRow s cap).size, (bytesRow s cap).size + 1))).heap[w.heap.size]? = some (.cells (bytesRow s cap) 5 ((bytesRow s cap).size, (bytesRow s cap).size + 1)) := by
    show (w.heap.push _)[w.heap.size]? = _
    simp
  simp only [World.cell?, h]
  simp only [bytesRow]
  have hj : i < (Array.map (fun b : UInt8 => Value.int IntKind.u8 b.toNat) s.data).size := by simpa using hi'
  rw [Array.getElem?_append_left hj, Array.getElem?_map, Array.getElem?_eq_getElem hi']
  simp [bytesOf]

theorem two_grow (w : World) (o1 o2 : Obj) : (((w.drew).alloc o1).drew).alloc o2 = grow (w.drewN 2) #[o1, o2] := by
  unfold grow World.alloc World.drew World.drewN
  have : ∀ (a : Array Obj), (a.push o1).push o2 = a ++ #[o1, o2] := fun a => by
    apply Array.ext'
    simp
  simp [this]

theorem bytes_gen (s : ByteArray) (w : World) : ∃ o cap w1, w1 = (w.drew).alloc o ∧ (convert 9 23 (.string s)).run Tryd.prog w = .ok (.slice (some ⟨w.heap.size, 0, none⟩) s.size cap) w1 ∧
    RowAt w1 w.heap.size 0 (bytesOf s.data.toList) := by
  obtain ⟨o, c, h1, h2⟩ := bytes_grow s w
  exact ⟨o, c, _, rfl, h1, h2⟩

set_option maxHeartbeats 400000 in
set_option maxRecDepth 100000 in
/-- Compare, the world said in full. -/
theorem compare_grow (a b : ByteArray) (w : World) (ha : a.size < 4294967281) (hb : b.size < 4294967281) :
    Calls Tryd.prog 63 #[.string a, .string b] w fun e w' => e = .returned (.int .i64 (Pn.cmpP a.data.toList b.data.toList)) ∧ ∃ q os', w' = grow (w.drewN q) os' := by
  obtain ⟨o1, c1, w1, hw1, hrun1, hr1⟩ := bytes_gen a w
  obtain ⟨o2, c2, w2, hw2, hrun2, hr2⟩ := bytes_gen b w1
  have hb2 : Below w1.heap.size w1 w2 := by
    rw [hw2]
    have h0 : Below w1.heap.size w1 w1.drew := (Below.refl _ _).drew
    exact h0.alloc (Nat.le_refl _) _
  have hr1' := hr1.below hb2 (by rw [hw1]; show w.heap.size < (w.heap.push o1).size; simp)
  have hC := compareFunc_any a.data.toList b.data.toList w.heap.size w1.heap.size 0 0 c1 c2 w2 (by rw [← size_eq]; omega) (by rw [← size_eq]; omega) hr1' hr2
  rw [← size_eq, ← size_eq] at hC
  generalize Pn.cmpP a.data.toList b.data.toList = r at *
  have hC := Lib.hid hC
  have HG := Lib.hid (show w2 = grow (w.drewN 2) #[o1, o2] by rw [hw2, hw1]; exact two_grow w o1 o2)
  clear hr1 hr1' hr2 hb2 hw1 hw2
  go_enter Tryd.func63, Tryd.ntmps63
  go_wp2_with (go_at_call 77; refine hC.out.mono ?_; rintro e w' ⟨rfl, rfl⟩)
  go_ret
  exact ⟨rfl, 2, _, HG.out⟩

/-- Paths of a bounded length. -/
abbrev Pth := { l : Pn.B // l.length ≤ 1024 }
instance : Inhabited Pth := ⟨⟨[], by simp⟩⟩

def cfP (x y : Pth) : Int := Pn.cmpP x.1 y.1

theorem swoP : SWO (ltOf cfP) where
  irrefl := fun x => by
    unfold ltOf cfP
    rw [(Pn.cmp_eq x.1 x.1).2 rfl]; decide
  trans := fun x y z h1 h2 => by
    unfold ltOf cfP at *
    simp only [decide_eq_true_eq] at *
    exact Ft.cmp_lt_trans h1 h2
  ntrans := fun x y z h1 h2 => by
    unfold ltOf cfP at *
    simp only [decide_eq_false_iff_not, Int.not_lt] at *
    have e1 := Pn.cmp_neg x.1 y.1
    have e2 := Pn.cmp_neg y.1 z.1
    have e3 := Pn.cmp_neg x.1 z.1
    have := Pn.cmp_trans z.1 y.1 x.1 (by omega) (by omega)
    omega

theorem bang_eq {d : Array Pth} {i : Nat} (h : i < d.size) : d[i]! = d[i] := getElem!_pos d i h

theorem grown_sort {α : Type} [Inhabited α] (enc : α → Value) (w : World) (g off n : Nat) (d : Array α) (os : Array Obj) {cs : Array Value} {t : TypeId} (hb : w.heap[g]? = some (.cells cs t)) : w.grownBy (sortWorld enc w g off n d os) (some g) := by
  have hsz : (putRow enc (Go.Sort.ahead w n) g off d).heap.size = w.heap.size := by simp
  have hg : g < w.heap.size := (Array.getElem?_eq_some_iff.1 hb).1
  refine ⟨rfl, rfl, rfl, ?_, fun i hi hne => ?_⟩
  · unfold sortWorld grow
    simp only [Array.size_append, hsz]
    omega
  · unfold sortWorld
    rw [Go.Sort.heap_grow_old _ _ (by rw [hsz]; exact hi)]
    show ((Go.Sort.ahead w n).heap.modify g _)[i]? = _
    rw [Array.getElem?_modify]
    have : ¬ g = i := fun e => hne (by rw [e])
    simp [this]

theorem sort_paths (d : Array Pth) (g cap : Nat) (cs : Array Value) (w : World) (hsz : d.size < 4294967290) (hb : w.heap[g]? = some (.cells cs 9)) (hrow : RowAt w g 0 (d.toList.map fun x => S x.1)) :
    Calls Tryd.prog 62 #[.slice (some ⟨g, 0, none⟩) d.size cap, .func (.func 63) #[] #[]] w fun e w' =>
      e = .returned (.tuple #[]) ∧ ∃ d' : Array Pth, d'.toList.Perm d.toList ∧ d'.size = d.size ∧ d'.toList.Pairwise (fun x y => Pn.cmpP x.1 y.1 ≤ 0) ∧ RowAt w' g 0 (d'.toList.map fun x => S x.1) ∧ w.grownBy w' (some g) := by
  have hg : g < w.heap.size := (Array.getElem?_eq_some_iff.1 hb).1
  have eg := enters_of Tryd.func63 (by kernel_rfl) rfl
  have hH : Holds (fun x : Pth => S x.1) w g 0 d := fun j hj => by
    have h1 := hrow j (by simpa using hj)
    refine ⟨?_, ?_⟩
    · rw [h1, bang_eq hj]; simp
    · simp [World.frozen?, hb]
  have hcmp : CmpLays1 Tryd.prog 63 #[] (fun x : Pth => S x.1) cfP g 0 d.size w := fun m os dk _ x y => by
    have := compare_grow ⟨x.1.toArray⟩ ⟨y.1.toArray⟩ (sortWorld (fun x : Pth => S x.1) w g 0 m dk os) (Nat.lt_of_le_of_lt x.2 (by decide)) (Nat.lt_of_le_of_lt y.2 (by decide))
    exact this
  refine (Any.slices_SortFunc Tryd.sortS (fun x : Pth => S x.1) (fun _ => rfl) cfP swoP 63 #[] g 0 cap d w eg hcmp hH hg (by omega)).mono ?_
  rintro e w' ⟨rfl, d', n, os, ⟨hp1, hp2, hp3⟩, hs, rfl⟩
  have hall : ∀ x : Array Pth, x.size = d.size → x.extract 0 d.size = x := fun x hx => by rw [← hx]; exact Array.extract_size
  rw [hall d' hp1, hall d rfl] at hp3
  refine ⟨rfl, d', hp3, hp1, ?_, ?_, ?_⟩
  · rw [List.pairwise_iff_getElem]
    intro i j hi hj hij
    have hi' : i < d'.size := by simpa using hi
    have hj' : j < d'.size := by simpa using hj
    have := hs i j (Nat.zero_le _) hij (by omega)
    unfold ltOf cfP at this
    rw [bang_eq hi', bang_eq hj'] at this
    simp only [decide_eq_false_iff_not, Int.not_lt] at this
    have e1 := Pn.cmp_neg d'[i].1 d'[j].1
    simp only [Array.getElem_toList]
    omega
  · intro j hj
    have hj' : j < d'.size := by simpa using hj
    unfold sortWorld
    rw [cell?_grow _ _ _ (by simpa using hg)]
    have := cell?_putRow (fun x : Pth => S x.1) (Go.Sort.ahead w n) g 0 d d' (holds_ahead _ _ _ _ _ _ hH) hp1 j hj'
    rw [this, bang_eq hj']
    simp
  · exact grown_sort _ w g 0 n d' os hb

end Go.Proofs.YtdcghpeomaailaaDoor
