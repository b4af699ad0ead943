/-
  What a card's reading of the arguments says of them: entries, lists of entries, lists of operations.
-/
import Derived.Test.YtdcghpeomaailaaDoorFtOps
import Derived.ChangeSlices
import Derived.ChangeArms
import Derived.ChangeMaps5
import Derived.WideShapes
import Derived.ChangeOld
import Derived.Carry
namespace Go.Proofs.YtdcghpeomaailaaDoor
open Go.RowKit Go.Lib Go.ChangeShapes Go.WideShapes Ft

section
variable {H : Type} {enc : TypeId × Value → H} {w : World} {spare : Nat → Bool} {held : Bool} {fuel b0 : Nat} {cs : List Value} {x : DataW H × List MemPlace}

theorem add_zero' {a : Addr} : (a.add 0) = a := by unfold Addr.add; simp

theorem cell_spot {w : World} {a : Addr} {v : Value} (h : w.cell? a = some v) : a = ⟨a.block, a.off, none⟩ := by
  obtain ⟨b, o, s⟩ := a
  cases s with
  | none => rfl
  | some s =>
    unfold World.cell? at h
    split at h
    · simp at h
    · cases h

theorem take_one {l : List Value} {i : Nat} {v : Value} (h : (l.drop i).take 1 = [v]) : l[i]? = some v := by
  have := congrArg (fun l => l[0]?) h
  simpa [List.getElem?_take, List.getElem?_drop] using this

/-- Bytes. -/
theorem open_bytes (h : DataW.trod enc Tryd.prog w 0 spare held fuel 23 cs = some x) :
    ∃ va l vc, cs = [.slice va (l : Pn.B).length vc] ∧ l.length ≤ vc ∧ BytesAt w va l := by
  rcases open_ints Tryd.underlying23 Tryd.underlying5 (by kernel_rfl) h with ⟨rfl, _⟩ | ⟨a, len, cap, zs, rfl, _, hl, _, hz, _, hc, hw⟩
  · exact ⟨none, [], 0, rfl, Nat.le_refl _, .inl rfl⟩
  · have hlz : len ≤ zs.length := by rw [hz]; split <;> omega
    refine ⟨some a, (zs.take len).map (fun n => UInt8.ofNat n.toNat), cap, by simp [Nat.min_eq_left hlz], by simp [Nat.min_eq_left hlz]; exact hl, ?_⟩
    by_cases h0 : len = 0
    · left; simp [h0]
    · right
      have h00 := hc 0 (by omega)
      rw [add_zero'] at h00
      have hsp := cell_spot h00
      refine ⟨a.block, a.off, by rw [← hsp], World.block_lt_of_cell? _ _ h00, fun i hi => ?_⟩
      have hi' : i < len := by simpa [bytesOf, Nat.min_eq_left hlz] using hi
      have hci := hc i (by omega)
      rw [hsp, WideShapes.add_plain] at hci
      rw [hci]
      have hm : zs.getD i 0 ∈ zs := by
        rw [List.getD, List.getElem?_eq_getElem (by omega)]; exact List.getElem_mem _
      have hwf := hw _ hm
      simp only [bytesOf, List.getElem_map, List.getElem_take]
      congr 2
      have hg : zs.getD i 0 = zs[i]'(by omega) := by rw [List.getD, List.getElem?_eq_getElem (by omega)]; rfl
      rw [hg] at hwf ⊢
      have hb : 0 ≤ zs[i]'(by omega) ∧ zs[i]'(by omega) ≤ 255 := by
        simpa [Lit.wf, IntKind.min, IntKind.max, IntKind.signed, IntKind.bits] using hwf
      have : (zs[i]'(by omega)).toNat < 256 := by omega
      rw [UInt8.toNat_ofNat_of_lt' this]
      omega

/-- An entry's cells. -/
theorem open_ent (h : DataW.trod enc Tryd.prog w 0 spare held fuel 25 cs = some x) :
    ∃ e da dc, cs = entCells e da dc ∧ e.data.length ≤ dc ∧ BytesAt w da e.data := by
  obtain ⟨xs, n, rfl, rfl, hlen, hxl, hf⟩ := DataW.trod_struct Tryd.underlying25 h
  have hlen6 : cs.length = 6 := hlen.trans (by kernel_rfl)
  have g : ∀ i, i < xs.length → ∃ y, xs[i]? = some y := fun i hi => ⟨_, List.getElem?_eq_getElem hi⟩
  have hxs : xs.length = 6 := hxl
  have e1 : (Tryd.prog).cellsOf 9 = 1 := by kernel_rfl
  have e2 : (Tryd.prog).cellsOf 3 = 1 := by kernel_rfl
  have e3 : (Tryd.prog).cellsOf 23 = 1 := by kernel_rfl
  obtain ⟨y0, h0⟩ := g 0 (by omega)
  obtain ⟨y1, h1⟩ := g 1 (by omega)
  obtain ⟨y2, h2⟩ := g 2 (by omega)
  obtain ⟨y3, h3⟩ := g 3 (by omega)
  obtain ⟨y4, h4⟩ := g 4 (by omega)
  obtain ⟨y5, h5⟩ := g 5 (by omega)
  have t0 := (hf 0 { name := "Path", type := 9, offset := 0, embedded := false, tag := "", pkgPath := "", byteOffset := 0 } rfl).trans h0
  have t1 := (hf 1 { name := "Kind", type := 3, offset := 1, embedded := false, tag := "", pkgPath := "", byteOffset := 16 } rfl).trans h1
  have t2 := (hf 2 { name := "Mode", type := 3, offset := 2, embedded := false, tag := "", pkgPath := "", byteOffset := 24 } rfl).trans h2
  have t3 := (hf 3 { name := "Time", type := 3, offset := 3, embedded := false, tag := "", pkgPath := "", byteOffset := 32 } rfl).trans h3
  have t4 := (hf 4 { name := "Data", type := 23, offset := 4, embedded := false, tag := "", pkgPath := "", byteOffset := 40 } rfl).trans h4
  have t5 := (hf 5 { name := "Link", type := 9, offset := 5, embedded := false, tag := "", pkgPath := "", byteOffset := 64 } rfl).trans h5
  simp only [e1, e2, e3] at t0 t1 t2 t3 t4 t5
  obtain ⟨p, hp, _, _⟩ := DataW.trod_string Tryd.underlying9 t0
  obtain ⟨k, hk, _, _⟩ := DataW.trod_int Tryd.underlying3 t1
  obtain ⟨m, hm, _, _⟩ := DataW.trod_int Tryd.underlying3 t2
  obtain ⟨t, ht, _, _⟩ := DataW.trod_int Tryd.underlying3 t3
  obtain ⟨va, d, vc, hd, hdc, hby⟩ := open_bytes t4
  obtain ⟨q, hq, _, _⟩ := DataW.trod_string Tryd.underlying9 t5
  refine ⟨⟨p.data.toList, k, m, t, d, q.data.toList⟩, va, vc, ?_, hdc, hby⟩
  have c0 := take_one hp
  have c1 := take_one hk
  have c2 := take_one hm
  have c3 := take_one ht
  have c4 := take_one hd
  have c5 := take_one hq
  apply List.ext_getElem?
  intro i
  rcases Nat.lt_or_ge i 6 with hi | hi
  · obtain rfl | rfl | rfl | rfl | rfl | rfl : i = 0 ∨ i = 1 ∨ i = 2 ∨ i = 3 ∨ i = 4 ∨ i = 5 := by omega
    · rw [c0]; rfl
    · rw [c1]; rfl
    · rw [c2]; rfl
    · rw [c3]; rfl
    · rw [c4]; rfl
    · rw [c5]; rfl
  · rw [List.getElem?_eq_none (by omega), List.getElem?_eq_none (by simpa using hi)]

/-- An operation's cells. -/
theorem open_op (h : DataW.trod enc Tryd.prog w 0 spare held fuel 64 cs = some x) :
    ∃ o da dc, cs = opCells o da dc ∧ o.entry.data.length ≤ dc ∧ BytesAt w da o.entry.data := by
  obtain ⟨xs, n, rfl, rfl, hlen, hxl, hf⟩ := DataW.trod_struct Tryd.underlying64 h
  have hlen10 : cs.length = 10 := hlen.trans (by kernel_rfl)
  have g : ∀ i, i < xs.length → ∃ y, xs[i]? = some y := fun i hi => ⟨_, List.getElem?_eq_getElem hi⟩
  have hxs : xs.length = 5 := hxl
  have e1 : (Tryd.prog).cellsOf 9 = 1 := by kernel_rfl
  have e2 : (Tryd.prog).cellsOf 3 = 1 := by kernel_rfl
  have e3 : (Tryd.prog).cellsOf 25 = 6 := by kernel_rfl
  have e4 : (Tryd.prog).cellsOf 4 = 1 := by kernel_rfl
  obtain ⟨y0, h0⟩ := g 0 (by omega)
  obtain ⟨y1, h1⟩ := g 1 (by omega)
  obtain ⟨y2, h2⟩ := g 2 (by omega)
  obtain ⟨y3, h3⟩ := g 3 (by omega)
  obtain ⟨y4, h4⟩ := g 4 (by omega)
  have t0 := (hf 0 { name := "Kind", type := 3, offset := 0, embedded := false, tag := "", pkgPath := "", byteOffset := 0 } rfl).trans h0
  have t1 := (hf 1 { name := "Entry", type := 25, offset := 1, embedded := false, tag := "", pkgPath := "", byteOffset := 8 } rfl).trans h1
  have t2 := (hf 2 { name := "From", type := 9, offset := 7, embedded := false, tag := "", pkgPath := "", byteOffset := 88 } rfl).trans h2
  have t3 := (hf 3 { name := "To", type := 9, offset := 8, embedded := false, tag := "", pkgPath := "", byteOffset := 104 } rfl).trans h3
  have t4 := (hf 4 { name := "Below", type := 4, offset := 9, embedded := false, tag := "", pkgPath := "", byteOffset := 120 } rfl).trans h4
  simp only [e1, e2, e3, e4] at t0 t1 t2 t3 t4
  obtain ⟨k, hk, _, _⟩ := DataW.trod_int Tryd.underlying3 t0
  obtain ⟨e, da, dc, he, hdc, hby⟩ := open_ent t1
  obtain ⟨p, hp, _, _⟩ := DataW.trod_string Tryd.underlying9 t2
  obtain ⟨q, hq, _, _⟩ := DataW.trod_string Tryd.underlying9 t3
  obtain ⟨b, hb, _⟩ := DataW.trod_bool Tryd.underlying4 t4
  refine ⟨⟨k, e, p.data.toList, q.data.toList, b⟩, da, dc, ?_, hdc, hby⟩
  have c0 := take_one hk
  have c2 := take_one hp
  have c3 := take_one hq
  have c4 := take_one hb
  have ce : ∀ j, j < 6 → cs[1 + j]? = (entCells e da dc)[j]? := fun j hj => by
    rw [← he, List.getElem?_take, if_pos hj, List.getElem?_drop]
  apply List.ext_getElem?
  intro i
  rcases Nat.lt_or_ge i 10 with hi | hi
  · obtain rfl | rfl | rfl | rfl | rfl | rfl | rfl | rfl | rfl | rfl : i = 0 ∨ i = 1 ∨ i = 2 ∨ i = 3 ∨ i = 4 ∨ i = 5 ∨ i = 6 ∨ i = 7 ∨ i = 8 ∨ i = 9 := by omega
    · rw [c0]; rfl
    · rw [ce 0 (by omega)]; rfl
    · rw [ce 1 (by omega)]; rfl
    · rw [ce 2 (by omega)]; rfl
    · rw [ce 3 (by omega)]; rfl
    · rw [ce 4 (by omega)]; rfl
    · rw [ce 5 (by omega)]; rfl
    · rw [c2]; rfl
    · rw [c3]; rfl
    · rw [c4]; rfl
  · rw [List.getElem?_eq_none (by omega), List.getElem?_eq_none (by simpa using hi)]

set_option maxRecDepth 100000 in
/-- A slice's elements, k cells each. -/
theorem open_elems {t e : TypeId} {k : Nat} {v : Value} {d : DataW H} {ps : List MemPlace} (ht : Tryd.prog.underlying t = some (.slice e)) (hk : Tryd.prog.cellsOf e = k) (hk0 : 0 < k) (hval : Value.okWide Tryd.prog w .any b0 t v) (hd : DataW.Trod enc Tryd.prog w 0 spare held t v d ps) :
    ∃ va n vc, v = .slice va n vc ∧ n ≤ vc ∧ vc ≤ maxLen ∧ (n = 0 ∨ ∃ g off, va = some ⟨g, off, none⟩ ∧ g < w.heap.size ∧ ∀ i, i < n → ∃ cs m x, RowAt w g (off + i * k) cs ∧ DataW.trod enc Tryd.prog w 0 spare held m e cs = some x) := by
  obtain ⟨a, len, cap, rfl⟩ := okWide_slice ht hval
  obtain ⟨fuel, hf⟩ := hd
  rcases DataW.trod_slice ht hf with ⟨h1, _⟩ | ⟨a', len', cap', elems, rest, n, _, h1, _, _, hl, hm, hlen, hel, _, _⟩
  · rw [show (Value.slice a len cap).cells.toList = [Value.slice a len cap] from rfl, List.cons.injEq, Value.slice.injEq] at h1
    obtain ⟨⟨rfl, rfl, rfl⟩, _⟩ := h1
    exact ⟨none, 0, 0, rfl, Nat.le_refl _, Nat.zero_le _, .inl rfl⟩
  · rw [show (Value.slice a len cap).cells.toList = [Value.slice a len cap] from rfl, List.cons.injEq, Value.slice.injEq] at h1
    obtain ⟨⟨rfl, rfl, rfl⟩, _⟩ := h1
    refine ⟨some a', len, cap, rfl, hl, hm, ?_⟩
    have each : ∀ i, i < len → ∃ cs x, w.cells? 0 (a'.add (i * k)) k = some cs ∧ DataW.trod enc Tryd.prog w 0 spare held n e cs = some x := fun i hi => by
      have h2 := hel i hi
      rw [hk, List.getElem?_eq_getElem (by omega), Option.bind_eq_some_iff] at h2
      obtain ⟨cs, h3, h4⟩ := h2
      exact ⟨cs, _, h3, h4⟩
    by_cases h0 : len = 0
    · exact .inl h0
    · right
      obtain ⟨cs0, _, h3, _⟩ := each 0 (by omega)
      rw [Nat.zero_mul, add_zero'] at h3
      obtain ⟨_, hl0, hc0⟩ := World.cells?_some h3
      have hc00 := hc0 0 hk0
      rw [add_zero'] at hc00
      have hsome : ∃ u, w.cell? a' = some u := by
        rw [hc00, List.getElem?_eq_getElem (by omega)]
        exact ⟨_, rfl⟩
      obtain ⟨u, hu⟩ := hsome
      have hsp := cell_spot hu
      refine ⟨a'.block, a'.off, by rw [← hsp], World.block_lt_of_cell? _ _ hu, fun i hi => ?_⟩
      obtain ⟨cs, x, h5, h6⟩ := each i hi
      refine ⟨cs, n, x, fun j hj => ?_, h6⟩
      rw [hsp, WideShapes.add_plain] at h5
      obtain ⟨_, hl5, hc5⟩ := World.cells?_some h5
      have := hc5 j (by omega)
      rw [WideShapes.add_plain] at this
      rw [this, List.getElem?_eq_getElem hj]

set_option maxRecDepth 100000 in
theorem open_ops {v : Value} {d : DataW H} {ps : List MemPlace} (hval : Value.okWide Tryd.prog w .any b0 22 v) (hd : DataW.Trod enc Tryd.prog w 0 spare held 22 v d ps) :
    ∃ va l vc, v = .slice va (l : List OpE).length vc ∧ l.length ≤ vc ∧ l.length ≤ maxLen ∧ OpsAt w va l := by
  obtain ⟨va, n, vc, rfl, h1, h2, h3⟩ := open_elems Tryd.underlying22 (k := 10) (by kernel_rfl) (by omega) hval hd
  rcases h3 with rfl | ⟨g, off, rfl, hg, h3⟩
  · exact ⟨va, [], vc, rfl, Nat.zero_le _, Nat.zero_le _, .inl rfl⟩
  · have h4 : ∀ i, ∃ o : OpE, i < n → ∃ da dc, RowAt w g (off + i * 10) (opCells o da dc) ∧ o.entry.data.length ≤ dc ∧ BytesAt w da o.entry.data := fun i => by
      by_cases hi : i < n
      · obtain ⟨cs, m, x, h5, h6⟩ := h3 i hi
        obtain ⟨o, da, dc, rfl, h7, h8⟩ := open_op h6
        exact ⟨o, fun _ => ⟨da, dc, h5, h7, h8⟩⟩
      · exact ⟨⟨0, ⟨[], 0, 0, 0, [], []⟩, [], [], false⟩, fun h => absurd h hi⟩
    obtain ⟨f, hf⟩ := Classical.axiomOfChoice h4
    refine ⟨some ⟨g, off, none⟩, (List.range n).map f, vc, by simp, by simpa using h1, by rw [List.length_map, List.length_range]; exact Nat.le_trans h1 h2, .inr ⟨g, off, rfl, hg, fun i hi => ?_⟩⟩
    have hi' : i < n := by simpa using hi
    simpa using hf i hi'

set_option maxRecDepth 100000 in
theorem open_ents {v : Value} {d : DataW H} {ps : List MemPlace} (hval : Value.okWide Tryd.prog w .any b0 29 v) (hd : DataW.Trod enc Tryd.prog w 0 spare held 29 v d ps) :
    ∃ va l vc, v = .slice va (l : List Ent).length vc ∧ l.length ≤ vc ∧ vc ≤ maxLen ∧ EntsAt w va l := by
  obtain ⟨va, n, vc, rfl, h1, h2, h3⟩ := open_elems Tryd.underlying29 (k := 6) (by kernel_rfl) (by omega) hval hd
  rcases h3 with rfl | ⟨g, off, rfl, hg, h3⟩
  · exact ⟨va, [], vc, rfl, Nat.zero_le _, h2, .inl rfl⟩
  · have h4 : ∀ i, ∃ o : Ent, i < n → ∃ da dc, RowAt w g (off + i * 6) (entCells o da dc) ∧ o.data.length ≤ dc ∧ BytesAt w da o.data := fun i => by
      by_cases hi : i < n
      · obtain ⟨cs, m, x, h5, h6⟩ := h3 i hi
        obtain ⟨o, da, dc, rfl, h7, h8⟩ := open_ent h6
        exact ⟨o, fun _ => ⟨da, dc, h5, h7, h8⟩⟩
      · exact ⟨⟨[], 0, 0, 0, [], []⟩, fun h => absurd h hi⟩
    obtain ⟨f, hf⟩ := Classical.axiomOfChoice h4
    refine ⟨some ⟨g, off, none⟩, (List.range n).map f, vc, by simp, by simpa using h1, h2, .inr ⟨g, off, rfl, hg, fun i hi => ?_⟩⟩
    have hi' : i < n := by simpa using hi
    simpa using hf i hi'

set_option maxRecDepth 100000 in
theorem open_entV {v : Value} {d : DataW H} {ps : List MemPlace} (hval : Value.okWide Tryd.prog w .any b0 25 v) (hd : DataW.Trod enc Tryd.prog w 0 spare held 25 v d ps) :
    ∃ e da dc, v = entV e da dc ∧ e.data.length ≤ dc ∧ BytesAt w da e.data := by
  obtain ⟨cs, rfl, _⟩ := okWide_struct Tryd.underlying25 hval
  obtain ⟨fuel, hf⟩ := hd
  obtain ⟨e, da, dc, h1, h2, h3⟩ := open_ent hf
  refine ⟨e, da, dc, ?_, h2, h3⟩
  have : cs.toList = entCells e da dc := by simpa [Value.cells] using h1
  have h4 : cs = (entCells e da dc).toArray := by rw [← this]
  rw [h4]

set_option maxRecDepth 100000 in
theorem open_opV {v : Value} {d : DataW H} {ps : List MemPlace} (hval : Value.okWide Tryd.prog w .any b0 64 v) (hd : DataW.Trod enc Tryd.prog w 0 spare held 64 v d ps) :
    ∃ o da dc, v = opV o da dc ∧ o.entry.data.length ≤ dc ∧ BytesAt w da o.entry.data := by
  obtain ⟨cs, rfl, _⟩ := okWide_struct Tryd.underlying64 hval
  obtain ⟨fuel, hf⟩ := hd
  obtain ⟨e, da, dc, h1, h2, h3⟩ := open_op hf
  refine ⟨e, da, dc, ?_, h2, h3⟩
  have : cs.toList = opCells e da dc := by simpa [Value.cells] using h1
  have h4 : cs = (opCells e da dc).toArray := by rw [← this]
  rw [h4]

end

/-- The places of a reading lie in the world. -/
theorem trod_lts {H : Type} {enc : TypeId × Value → H} {w : World} {spare : Nat → Bool} {held : Bool} {t : TypeId} {v : Value} {d : DataW H} {ps : List MemPlace} (h : DataW.Trod enc Tryd.prog w 0 spare held t v d ps) : ∀ x ∈ ps, x.block < w.heap.size := by
  obtain ⟨fuel, hf⟩ := h
  exact DataW.trod_lt fuel t _ _ hf

theorem laidOutP : laidOutB Tryd.prog = true := by kernel_rfl

end Go.Proofs.YtdcghpeomaailaaDoor
