/-
  The walks of filetree's small functions: slices.Clone and Clip of bytes, copied, valid, below, parent, New.
-/
import Derived.Test.YtdcghpeomaailaaDoorFtMem
import Derived.Test.YtdcghpeomaailaaDoorShelf
import Derived.Lib.LazyBuf
namespace Go.Proofs.YtdcghpeomaailaaDoor
open Go.RowKit Go.Lib Ft

theorem byte_info : (Tryd.prog.info? 5).map (fun i => (i.zero, i.size, i.bytes)) = some (some (.int .u8 0), 1, 1) := by kernel_rfl

theorem bytes_one (l : Pn.B) : ∀ u ∈ bytesOf l, u.oneCell' = true := by
  intro u hu
  obtain ⟨b, _, rfl⟩ := List.mem_map.1 hu
  rfl

/-- A block of bytes. -/
def U8 (w : World) (b : Nat) : Prop := ∃ cs fr, w.heap[b]? = some (.cells cs 5 fr)

theorem U8.below {w w' : World} {b : Nat} (h : U8 w b) (hb : Below w.heap.size w w') : U8 w' b := by
  obtain ⟨cs, fr, h⟩ := h
  exact ⟨cs, fr, (hb.block b (Array.getElem?_eq_some_iff.1 h).1).trans h⟩

theorem U8.set {w : World} {b : Nat} (h : U8 w b) (p : Addr) (v : Value) : U8 (w.setCell p v) b := by
  obtain ⟨cs, fr, h⟩ := h
  by_cases e : b = p.block
  · subst e
    refine ⟨if p.spot.isSome then cs else cs.setIfInBounds p.off v, fr, ?_⟩
    simp only [World.setCell, Array.getElem?_modify, ↓reduceIte, h, Option.map_some]
  · exact ⟨cs, fr, (Below.heap_setCell w p v b e).trans h⟩

/-- Bytes that are new: where they lie. -/
abbrev NewB (n : Nat) (w : World) (va : Option Addr) : Prop := ∀ a, va = some a → n ≤ a.block ∧ U8 w a.block

theorem empty_bytes (W : World) (base : Nat) (h : base ≤ W.heap.size) : (W.alloc (.cells #[] 5)).ownsRow base 5 1 (.slice (some ⟨W.heap.size, 0, none⟩) 0 0) 0 [] := by
  refine ⟨rfl, .inr ⟨W.heap.size, 0, #[], rfl, h, ?_, Nat.le_refl _, by unfold maxLen; omega, rfl, rfl⟩⟩
  exact heap_alloc_new W _

/-- 'append([]byte{}, s...)'. -/
theorem bytes_copy {W : World} {a : Addr} {vc : Nat} {l : Pn.B} (hm : BytesAt W (some a) l) (hl : l.length ≤ 4294967296) :
    ∃ va' vc' w5, (Builtin.append_ #[23, 23] 23 #[.slice (some ⟨W.heap.size, 0, none⟩) 0 0, .slice (some a) l.length vc]).run Tryd.prog (W.alloc (.cells #[] 5)) = .ok (.slice va' l.length vc') w5 ∧
      BytesAt w5 va' l ∧ l.length ≤ vc' ∧ Below W.heap.size W w5 ∧ NewB W.heap.size w5 va' := by
  obtain ⟨i0, hi, hz0, hz1, hz2⟩ := info_parts byte_info
  have hA : Below W.heap.size W (W.alloc (.cells #[] 5)) := (Below.refl _ W).alloc (Nat.le_refl _) _
  have hm2 := hm.below hA
  obtain ⟨v', w5, hr, h2, h3, h4⟩ := run_append_own (P := Tryd.prog) (W.alloc (.cells #[] 5)) W.heap.size 23 23 5 _ _ 1 1 Tryd.underlying23 hi hz0 hz1 hz2 rfl (by decide) _ 0 [] (empty_bytes W _ (Nat.le_refl _))
    a l.length vc (bytesOf l) (by simp [bytesOf]) (fun j u hu => by
      obtain ⟨hj, rfl⟩ := List.getElem?_eq_some_iff.1 hu
      rcases hm2 with h0 | ⟨g, off, h5, _, h6⟩
      · subst h0; simp [bytesOf] at hj
      · cases h5
        have ha : (⟨g, off, none⟩ : Addr).add j = ⟨g, off + j, none⟩ := by unfold Addr.add; split <;> simp_all
        rw [ha, h6 j hj]) (bytes_one l) (by unfold maxLen; omega) (by omega) (by simp)
  rw [Nat.zero_add, List.nil_append] at h2
  obtain ⟨va', vc', hv'⟩ := own_form' h2
  subst hv'
  refine ⟨va', vc', w5, hr, ?_, ?_, ?_, fun a' ha' => ?_⟩
  · rcases own_slice h2 with ⟨_, h0, _⟩ | ⟨g, cap, hv, _, hg, _, _, hrow⟩
    · exact .inl (List.length_eq_zero_iff.1 h0)
    · injection hv with h1
      exact .inr ⟨g, 0, h1, hg, hrow⟩
  · rcases own_slice h2 with ⟨h1, h0, _⟩ | ⟨g, cap, hv, _, _, h5, _, _⟩
    · omega
    · injection hv with _ _ h6
      omega
  · exact ⟨h3.os.trans hA.os, h3.tape.trans hA.tape, h3.output.trans hA.output, Nat.le_trans hA.size h3.size, fun i hi => (h3.block i (Nat.lt_of_lt_of_le hi hA.size) (fun e => by simp [Value.ownBlock] at e; omega)).trans (hA.block i hi)⟩
  · subst ha'
    refine ⟨(h2.lt a'.block rfl).1, ?_⟩
    obtain ⟨_, ⟨hv, _⟩ | ⟨g, cap, cur, hv, _, hg, _⟩⟩ := h2
    · cases hv
    · injection hv with hv
      injection hv with hv
      subst hv
      exact ⟨cur, _, hg⟩

theorem nil_bytes (W : World) (n c : Nat) : (binOp .eql 23 (.slice none n c) (.slice none 0 0)).run Tryd.prog W = .ok (.bool true) W := run_eql_slice_nil W _ _ none n c Tryd.underlying23
theorem some_bytes (W : World) (a : Addr) (n c : Nat) : (binOp .eql 23 (.slice (some a) n c) (.slice none 0 0)).run Tryd.prog W = .ok (.bool false) W := run_eql_slice_nil W _ _ (some a) n c Tryd.underlying23

set_option maxRecDepth 100000 in
/-- slices.Clone of bytes. -/
theorem clone_any (va : Option Addr) (vc : Nat) (l : Pn.B) (w : World) (hm : BytesAt w va l) (hl : l.length ≤ 4294967296) :
    Calls Tryd.prog 58 #[.slice va l.length vc] w fun e w' => ∃ va' vc', e = .returned (.slice va' l.length vc') ∧ BytesAt w' va' l ∧ l.length ≤ vc' ∧ Below w.heap.size w w' ∧ NewB w.heap.size w' va' := by
  cases va with
  | none =>
    have h0 : l = [] := by
      rcases hm with h | ⟨g, off, h, _⟩
      · exact h
      · cases h
    subst h0
    have hq := nil_bytes w 0 vc
    go_enter Tryd.func58, Tryd.ntmps58
    go_wp2_with fail
    go_ret
    exact ⟨none, 0, rfl, .inl rfl, Nat.zero_le _, Below.refl _ _, fun a' h => by cases h⟩
  | some a =>
    obtain ⟨va', vc', w5, hrun, h1, h2, h3, h4⟩ := bytes_copy (vc := vc) hm hl
    have HRUN := Lib.hid hrun
    have H1 := Lib.hid h1
    have H3 := Lib.hid h3
    have hq := some_bytes w a l.length vc
    clear hrun h1 h3 hm
    go_enter Tryd.func58, Tryd.ntmps58
    go_wp2_with (at_builtin; refine wpList_append_run rfl _ _ 23 rfl _ _ rfl rfl _ _ rfl HRUN.out ?_)
    go_ret
    exact ⟨va', vc', rfl, H1.out, h2, H3.out, h4⟩

/-- slices.Clip of bytes. -/
theorem clip_any (va : Option Addr) (n vc : Nat) (w : World) (h : n ≤ vc) (_hn : n ≤ 4294967296) :
    Calls Tryd.prog 57 #[.slice va n vc] w fun e w' => e = .returned (.slice va n n) ∧ w' = w := by
  go_enter Tryd.func57, Tryd.ntmps57
  go_wp2_with fail
  go_ret
  exact ⟨rfl, rfl⟩

theorem BytesAt.set {w : World} {va : Option Addr} {l : Pn.B} (h : BytesAt w va l) {p : Addr} (v : Value) (hne : ∀ a, va = some a → a.block ≠ p.block) : BytesAt (w.setCell p v) va l := by
  rcases h with h | ⟨g, off, h1, h2, h3⟩
  · exact .inl h
  · refine .inr ⟨g, off, h1, by simpa [World.setCell] using h2, fun i hi => ?_⟩
    rw [show (w.setCell p v).cell? ⟨g, off + i, none⟩ = w.cell? ⟨g, off + i, none⟩ from World.cell?_of_block (w := w) (Below.heap_setCell w p v g (hne _ h1))]
    exact h3 i hi

/-- Six stores, one behind the other, into one block. -/
def six (W : World) (b : Nat) (v0 v1 v2 v3 v4 v5 : Value) : World := ((((((W.setCell ⟨b, 0, none⟩ v0).setCell ⟨b, 1, none⟩ v1).setCell ⟨b, 2, none⟩ v2).setCell ⟨b, 3, none⟩ v3).setCell ⟨b, 4, none⟩ v4).setCell ⟨b, 5, none⟩ v5)

theorem six_block {W : World} {b : Nat} {a0 a1 a2 a3 a4 a5 : Value} {T : TypeId} (h : W.heap[b]? = some (.cells #[a0, a1, a2, a3, a4, a5] T)) (v0 v1 v2 v3 v4 v5 : Value) : (six W b v0 v1 v2 v3 v4 v5).heap[b]? = some (.cells #[v0, v1, v2, v3, v4, v5] T) := by
  have := block_set (block_set (block_set (block_set (block_set (block_set h 0 v0) 1 v1) 2 v2) 3 v3) 4 v4) 5 v5
  simpa [six] using this

theorem six_below {B : Nat} {w W : World} {b : Nat} (h : Below B w W) (hb : B ≤ b) (v0 v1 v2 v3 v4 v5 : Value) : Below B w (six W b v0 v1 v2 v3 v4 v5) :=
  (((((h.setCell (p := ⟨b, 0, none⟩) hb v0).setCell (p := ⟨b, 1, none⟩) hb v1).setCell (p := ⟨b, 2, none⟩) hb v2).setCell (p := ⟨b, 3, none⟩) hb v3).setCell (p := ⟨b, 4, none⟩) hb v4).setCell (p := ⟨b, 5, none⟩) hb v5

theorem six_bytes {W : World} {b : Nat} {va : Option Addr} {l : Pn.B} (h : BytesAt W va l) (hne : ∀ a, va = some a → a.block ≠ b) (v0 v1 v2 v3 v4 v5 : Value) : BytesAt (six W b v0 v1 v2 v3 v4 v5) va l :=
  (((((h.set (p := ⟨b, 0, none⟩) v0 hne).set (p := ⟨b, 1, none⟩) v1 hne).set (p := ⟨b, 2, none⟩) v2 hne).set (p := ⟨b, 3, none⟩) v3 hne).set (p := ⟨b, 4, none⟩) v4 hne).set (p := ⟨b, 5, none⟩) v5 hne

set_option maxRecDepth 100000 in
/-- copied. -/
theorem copied_any (e : Ent) (va : Option Addr) (vc : Nat) (w : World) (hm : BytesAt w va e.data) (hl : e.data.length ≤ 4294967296) :
    Calls Tryd.prog 35 #[entV e va vc] w fun e' w' => ∃ va', e' = .returned (entV e va' e.data.length) ∧ BytesAt w' va' e.data ∧ NewB w.heap.size w' va' ∧ Below w.heap.size w w' := by
  obtain ⟨p0, p1⟩ := two_new (w := w) (.cells #[S e.path, .int .i64 e.kind, .int .i64 e.mode, .int .i64 e.time, .slice va e.data.length vc, S e.link] 25) (.cells #[S [], .int .i64 0, .int .i64 0, .int .i64 0, .slice none 0 0, S []] 25)
  have hB : Below w.heap.size w ((w.alloc (.cells #[S e.path, .int .i64 e.kind, .int .i64 e.mode, .int .i64 e.time, .slice va e.data.length vc, S e.link] 25)).alloc (.cells #[S [], .int .i64 0, .int .i64 0, .int .i64 0, .slice none 0 0, S []] 25)) :=
    ((Below.refl _ w).alloc (Nat.le_refl _) _).alloc (by simp) _
  have hz : ((w.alloc (.cells #[S e.path, .int .i64 e.kind, .int .i64 e.mode, .int .i64 e.time, .slice va e.data.length vc, S e.link] 25)).alloc (.cells #[S [], .int .i64 0, .int .i64 0, .int .i64 0, .slice none 0 0, S []] 25)).heap.size = w.heap.size + 2 := by simp
  have hm2 := hm.below hB
  have HC := Lib.hid (clone_any va vc e.data _ hm2 hl)
  rw [hz] at HC
  have HP := Lib.hid fun va n vc w h hn => clip_any va n vc w h hn
  have P0 := Lib.hid p0
  have P1 := Lib.hid p1
  have HB := Lib.hid hB
  have HZ := Lib.hid hz
  clear hm hm2 p0 p1 hB hz
  go_enter Tryd.func35, Tryd.ntmps35
  go_wp2_with fail
  refine HC.out.mono ?_
  rintro e' w3 ⟨va', vc', rfl, hby, hle, hb3, hge⟩
  have q0 := (hb3.block w.heap.size (by rw [← HZ.out]; exact (Array.getElem?_eq_some_iff.1 P0.out).1)).trans P0.out
  have q1 := (hb3.block (w.heap.size + 1) (by rw [← HZ.out]; exact (Array.getElem?_eq_some_iff.1 P1.out).1)).trans P1.out
  go_wp2_with fail
  refine (HP.out va' _ vc' w3 hle (by omega)).mono ?_
  rintro e' w4 ⟨rfl, hw4⟩
  rw [hw4]
  clear hw4
  have c0 := cell_of_block' q0 0
  have c1 := cell_of_block' q0 1
  have c2 := cell_of_block' q0 2
  have c3 := cell_of_block' q0 3
  have c4 := cell_of_block' q0 4
  have c5 := cell_of_block' q0 5
  have f4 := free_of_block q0 4
  simp at c0 c1 c2 c3 c4 c5
  have d0 := cell_of_block' q1 0
  have d1 := cell_of_block' q1 1
  have d2 := cell_of_block' q1 2
  have d3 := cell_of_block' q1 3
  have d4 := cell_of_block' q1 4
  have d5 := cell_of_block' q1 5
  simp at d0 d1 d2 d3 d4 d5
  have g0 := free_of_block q1 0
  have g1 := free_of_block q1 1
  have g2 := free_of_block q1 2
  have g3 := free_of_block q1 3
  have g4 := free_of_block q1 4
  have g5 := free_of_block q1 5
  have Q0 := Lib.hid q0
  have Q1 := Lib.hid q1
  have HBY := Lib.hid hby
  have HB3 := Lib.hid hb3
  have HGE := Lib.hid hge
  clear q0 q1 hby hb3 hge
  go_wp2_with fail
  have hb1 : (w3.setCell ⟨w.heap.size, 4, none⟩ (.slice va' e.data.length e.data.length)).heap[w.heap.size + 1]? = _ := (Below.heap_setCell w3 ⟨w.heap.size, 4, none⟩ _ (w.heap.size + 1) (by simp)).trans Q1.out
  have hb2 := block_set (block_set (block_set (block_set (block_set (block_set hb1 0 (S e.path)) 1 (.int .i64 e.kind)) 2 (.int .i64 e.mode)) 3 (.int .i64 e.time)) 4 (.slice va' e.data.length e.data.length)) 5 (S e.link)
  have hby2 := ((((((HBY.out.set (p := ⟨w.heap.size, 4, none⟩) (.slice va' e.data.length e.data.length) (fun a' h => by have := (HGE.out a' h).1; show a'.block ≠ w.heap.size; omega)).set (p := ⟨w.heap.size + 1, 0, none⟩) (S e.path) (fun a' h => by have := (HGE.out a' h).1; show a'.block ≠ w.heap.size + 1; omega)).set (p := ⟨w.heap.size + 1, 1, none⟩) (.int .i64 e.kind) (fun a' h => by have := (HGE.out a' h).1; show a'.block ≠ w.heap.size + 1; omega)).set (p := ⟨w.heap.size + 1, 2, none⟩) (.int .i64 e.mode) (fun a' h => by have := (HGE.out a' h).1; show a'.block ≠ w.heap.size + 1; omega)).set (p := ⟨w.heap.size + 1, 3, none⟩) (.int .i64 e.time) (fun a' h => by have := (HGE.out a' h).1; show a'.block ≠ w.heap.size + 1; omega)).set (p := ⟨w.heap.size + 1, 4, none⟩) (.slice va' e.data.length e.data.length) (fun a' h => by have := (HGE.out a' h).1; show a'.block ≠ w.heap.size + 1; omega)).set (p := ⟨w.heap.size + 1, 5, none⟩) (S e.link) (fun a' h => by have := (HGE.out a' h).1; show a'.block ≠ w.heap.size + 1; omega)
  have hbe : Below w.heap.size w w3 := HB.out.trans (HB3.out.mono (Nat.le_add_right _ 2))
  have hbf := ((((((hbe.setCell (p := ⟨w.heap.size, 4, none⟩) (Nat.le_refl _) (.slice va' e.data.length e.data.length)).setCell (p := ⟨w.heap.size + 1, 0, none⟩) (Nat.le_succ _) (S e.path)).setCell (p := ⟨w.heap.size + 1, 1, none⟩) (Nat.le_succ _) (.int .i64 e.kind)).setCell (p := ⟨w.heap.size + 1, 2, none⟩) (Nat.le_succ _) (.int .i64 e.mode)).setCell (p := ⟨w.heap.size + 1, 3, none⟩) (Nat.le_succ _) (.int .i64 e.time)).setCell (p := ⟨w.heap.size + 1, 4, none⟩) (Nat.le_succ _) (.slice va' e.data.length e.data.length)).setCell (p := ⟨w.heap.size + 1, 5, none⟩) (Nat.le_succ _) (S e.link)
  have hu8 := fun a (h : va' = some a) => (((((((HGE.out a h).2.set ⟨w.heap.size, 4, none⟩ (.slice va' e.data.length e.data.length)).set ⟨w.heap.size + 1, 0, none⟩ (S e.path)).set ⟨w.heap.size + 1, 1, none⟩ (.int .i64 e.kind)).set ⟨w.heap.size + 1, 2, none⟩ (.int .i64 e.mode)).set ⟨w.heap.size + 1, 3, none⟩ (.int .i64 e.time)).set ⟨w.heap.size + 1, 4, none⟩ (.slice va' e.data.length e.data.length)).set ⟨w.heap.size + 1, 5, none⟩ (S e.link)
  clear c0 c1 c2 c3 c4 c5 f4 d0 d1 d2 d3 d4 d5 g0 g1 g2 g3 g4 g5 hb1
  generalize (((((((w3.setCell ⟨w.heap.size, 4, none⟩ (.slice va' e.data.length e.data.length)).setCell ⟨w.heap.size + 1, 0, none⟩ (S e.path)).setCell ⟨w.heap.size + 1, 1, none⟩ (.int .i64 e.kind)).setCell ⟨w.heap.size + 1, 2, none⟩ (.int .i64 e.mode)).setCell ⟨w.heap.size + 1, 3, none⟩ (.int .i64 e.time)).setCell ⟨w.heap.size + 1, 4, none⟩ (.slice va' e.data.length e.data.length)).setCell ⟨w.heap.size + 1, 5, none⟩ (S e.link)) = Wf at *
  have e0 := cell_of_block' hb2 0
  have e1 := cell_of_block' hb2 1
  have e2 := cell_of_block' hb2 2
  have e3 := cell_of_block' hb2 3
  have e4 := cell_of_block' hb2 4
  have e5 := cell_of_block' hb2 5
  simp at e0 e1 e2 e3 e4 e5
  refine bodyPost_ret (v := entV e va' e.data.length) (by simp [results, Tryd.results35, go_sem, e0, e1, e2, e3, e4, e5]) rfl ?_
  exact ⟨va', rfl, hby2, fun a h => ⟨by have := (HGE.out a h).1; omega, hu8 a h⟩, hbf⟩

end Go.Proofs.YtdcghpeomaailaaDoor
