/-
  The walk of pathname.single.
-/
import Derived.Test.YtdnbmkfmckppaaaDoorAdmit
import Derived.Deep.RegionWith
namespace Go.Proofs.YtdnbmkfmckppaaaDoor
open Go.RowKit Go.Lib

/-- A row of n bools. -/
def boolRow (f : Nat → Bool) (n : Nat) : Array Value := ((List.range n).map fun i => Value.bool (f i)).toArray

theorem boolRow_size (f : Nat → Bool) (n : Nat) : (boolRow f n).size = n := by simp [boolRow]
theorem boolRow_get (f : Nat → Bool) (n i : Nat) (h : i < n) : (boolRow f n)[i]? = some (.bool (f i)) := by simp [boolRow, h]
theorem boolRow_set (f : Nat → Bool) (n i : Nat) (b : Bool) : (boolRow f n).setIfInBounds i (.bool b) = boolRow (fun j => if j = i then b else f j) n := by
  unfold boolRow
  apply Array.ext
  · simp
  · intro j h1 h2
    by_cases h : i = j
    · subst h; simp
    · have h' : ¬ j = i := fun e => h e.symm
      simp [h, h']
theorem boolRow_congr {f g : Nat → Bool} {n : Nat} (h : ∀ i, i < n → f i = g i) : boolRow f n = boolRow g n := by
  unfold boolRow
  congr 1
  apply List.map_congr_left
  intro i hi
  rw [h i (by simpa using hi)]

theorem bool_info : (Tryd.prog.info? 4).map (fun i => (i.zero, i.size, i.bytes)) = some (some (.bool false), 1, 1) := by kernel_rfl

theorem make_bools (n : Nat) (hn : n < 4294967281) (w : World) :
    (Instr.makeSlice 126 (.int .i64 ((n : Int) + 1)) (.int .i64 ((n : Int) + 1))).run Tryd.prog w = .ok (.slice (some ⟨w.heap.size, 0, none⟩) (n + 1) (n + 1)) (w.alloc (.cells (boolRow (fun _ => false) (n + 1)) 4)) := by
  obtain ⟨i0, hi, hz0, hz1, hz2⟩ := info_parts bool_info
  have h := run_make (P := Tryd.prog) w 126 4 i0 (.bool false) Tryd.underlying126 hi hz0 .i64 .i64 ((n : Int) + 1) ((n : Int) + 1) (by omega) (by omega) (by rw [hz2]; omega) (by omega)
  rw [hz1, show ((n : Int) + 1).toNat = n + 1 by omega] at h
  have e : madeCells (Value.bool false).cells ((n + 1) * 1) = boolRow (fun _ => false) (n + 1) := by
    apply Array.ext
    · simp [madeCells, boolRow]
    · intro j h1 h2; simp [madeCells, boolRow, Value.cells, Nat.mod_one]
  rw [e] at h
  exact h

theorem itemCells_get (ps : List (Pn.Item × Value)) (i : Nat) (h : i < ps.length) : (itemCells ps)[i * 3]? = some (.bool ps[i].1.star) ∧ (itemCells ps)[i * 3 + 1]? = some (.bool ps[i].1.neg) ∧ (itemCells ps)[i * 3 + 2]? = some ps[i].2 := by
  induction ps generalizing i with
  | nil => simp at h
  | cons p r ih =>
    have e : itemCells (p :: r) = [Value.bool p.1.star, Value.bool p.1.neg, p.2] ++ itemCells r := by simp [itemCells]
    cases i with
    | zero => rw [e]; simp
    | succ i =>
      have := ih i (by simpa using h)
      rw [e]
      refine ⟨?_, ?_, ?_⟩
      · rw [List.getElem?_append_right (by simp; omega)]
        simp only [List.length_cons, List.length_nil, List.getElem_cons_succ]
        rw [show (i + 1) * 3 - 3 = i * 3 by omega]; exact this.1
      · rw [List.getElem?_append_right (by simp; omega)]
        simp only [List.length_cons, List.length_nil, List.getElem_cons_succ]
        rw [show (i + 1) * 3 + 1 - 3 = i * 3 + 1 by omega]; exact this.2.1
      · rw [List.getElem?_append_right (by simp; omega)]
        simp only [List.length_cons, List.length_nil, List.getElem_cons_succ]
        rw [show (i + 1) * 3 + 2 - 3 = i * 3 + 2 by omega]; exact this.2.2

/-- The world behind the making of a row of bools. -/
def mkB (n : Nat) (w : World) : World := w.alloc (.cells (boolRow (fun _ => false) (n + 1)) 4)
theorem mkB_below (n : Nat) (w : World) : Below w.heap.size w (mkB n w) := (Below.refl _ w).alloc (Nat.le_refl _) _
theorem mkB_size (n : Nat) (w : World) : (mkB n w).heap.size = w.heap.size + 1 := by simp [mkB]
theorem mkB_block (n : Nat) (w : World) : (mkB n w).heap[w.heap.size]? = some (.cells (boolRow (fun _ => false) (n + 1)) 4) := heap_alloc_new w _

/-- The memory of single's loops: the runes, the row of what is reached. -/
structure SingleMem (w : World) (R rb : Nat) (rs : List Nat) (f : Nat → Bool) (wr : World) : Prop where
  runes : RowAt wr R 0 (runeCells rs)
  ltR : R < wr.heap.size
  newR : w.heap.size ≤ R
  reach : wr.heap[rb]? = some (.cells (boolRow f (rs.length + 1)) 4)
  new : w.heap.size ≤ rb
  ne : R ≠ rb
  below : Below w.heap.size w wr

theorem SingleMem.keep {w : World} {R rb : Nat} {rs : List Nat} {f : Nat → Bool} {wr w2 : World} (h : SingleMem w R rb rs f wr) (hb : Below wr.heap.size wr w2) : SingleMem w R rb rs f w2 :=
  ⟨h.runes.below hb h.ltR, Nat.lt_of_lt_of_le h.ltR hb.size, h.newR, by rw [hb.block rb (lt_of_block h.reach)]; exact h.reach, h.new, h.ne, below_then h.below hb⟩
theorem SingleMem.store {w : World} {R rb : Nat} {rs : List Nat} {f : Nat → Bool} {wr w2 : World} {b : Nat} (h : SingleMem w R rb rs f wr) (hg : wr.grownBy w2 (some b)) (h1 : b ≠ R) (h2 : b ≠ rb) (h3 : w.heap.size ≤ b) : SingleMem w R rb rs f w2 :=
  ⟨h.runes.grown hg h.ltR (fun e => h1 (Option.some.inj e).symm), Nat.lt_of_lt_of_le h.ltR hg.size, h.newR, by rw [hg.block rb (lt_of_block h.reach) (fun e => h2 (Option.some.inj e).symm)]; exact h.reach, h.new, h.ne, below_own h.below hg h3⟩
theorem SingleMem.rune {w : World} {R rb : Nat} {rs : List Nat} {f : Nat → Bool} {wr : World} (h : SingleMem w R rb rs f wr) {k : Nat} (hk : k < rs.length) : wr.cell? ⟨R, k, none⟩ = some (.int .i32 ((rs.getD k 0 : Nat) : Int)) := by
  have hr := h.runes k (by simpa [runeCells] using hk)
  rw [Nat.zero_add] at hr
  rw [hr]; simp [runeCells, List.getD, hk]

/-- The state at the head of the inner loop, at place k: the next row holds what has been stored. -/
def InnerRow (x : Pn.Item) (rs : List Nat) (f : Nat → Bool) (k : Nat) : Nat → Bool := fun j => if j < k then Pn.stepP x rs f j else false

theorem inner_zero (x : Pn.Item) (rs : List Nat) (f : Nat → Bool) (n : Nat) : boolRow (fun _ => false) n = boolRow (InnerRow x rs f 0) n := boolRow_congr fun i _ => by simp [InnerRow]
theorem inner_set (x : Pn.Item) (rs : List Nat) (f : Nat → Bool) (k n : Nat) (b : Bool) (h : Pn.stepP x rs f k = b) : (boolRow (InnerRow x rs f k) n).setIfInBounds k (.bool b) = boolRow (InnerRow x rs f (k + 1)) n := by
  rw [boolRow_set]
  apply boolRow_congr
  intro i _
  unfold InnerRow
  by_cases e : i = k
  · subst e; simp [h]
  · rw [if_neg e]
    by_cases h1 : i < k
    · rw [if_pos h1, if_pos (by omega)]
    · rw [if_neg h1, if_neg (by omega)]
theorem inner_keep (x : Pn.Item) (rs : List Nat) (f : Nat → Bool) (k n : Nat) (h : Pn.stepP x rs f k = false) : boolRow (InnerRow x rs f k) n = boolRow (InnerRow x rs f (k + 1)) n := by
  apply boolRow_congr
  intro i _
  unfold InnerRow
  by_cases e : i = k
  · subst e; simp [h]
  · by_cases h1 : i < k
    · rw [if_pos h1, if_pos (by omega)]
    · rw [if_neg h1, if_neg (by omega)]
theorem inner_full (x : Pn.Item) (rs : List Nat) (f : Nat → Bool) (n : Nat) : boolRow (InnerRow x rs f n) n = boolRow (Pn.stepP x rs f) n := boolRow_congr fun i h => by simp [InnerRow, h]

theorem reach_snoc (rs : List Nat) (l : List Pn.Item) (i : Nat) (h : i < l.length) : Pn.reachP rs (l.take (i + 1)) = Pn.stepP l[i] rs (Pn.reachP rs (l.take i)) := by
  unfold Pn.reachP
  rw [List.take_succ_eq_append_getElem h, List.foldl_append]; rfl

set_option maxHeartbeats 4000000 in
set_option maxRecDepth 100000 in
theorem single_any (s : ByteArray) (w : World) (base : Nat) (va : Option Addr) (vc : Nat) (ps : List (Pn.Item × Value)) (hs : s.size < 4294967281) (hm : ItemsMem w base (.slice va ps.length vc) ps) (hps : ps.length < 4294967281) :
    Calls Tryd.prog 78 #[.slice va ps.length vc, .string s] w fun e w' => e = .returned (.bool (Pn.singleP (ps.map Prod.fst) s.data.toList)) ∧ Below w.heap.size w w' := by
  obtain ⟨w1, cap, hrun, hb1, hz1, hr1, hsm⟩ := runes_of s w hs
  unfold Pn.singleP
  generalize Pn.runesP s.data.toList = rs at *
  have HM := Lib.hid hm
  have hmk : ∀ w, (Instr.makeSlice 126 (.int .i64 ((rs.length : Int) + 1)) (.int .i64 ((rs.length : Int) + 1))).run Tryd.prog w = .ok (.slice (some ⟨w.heap.size, 0, none⟩) (rs.length + 1) (rs.length + 1)) (mkB rs.length w) := make_bools rs.length hsm
  have hbk := mkB_block rs.length w1
  have c0 := cell_of_block' hbk 0
  have f0 := free_of_block hbk 0
  rw [boolRow_get _ _ _ (by omega)] at c0
  have H0 := Lib.hid (show SingleMem w w.heap.size w1.heap.size rs (Pn.reachP rs ((ps.map Prod.fst).take 0)) ((mkB rs.length w1).setCell ⟨w1.heap.size, 0, none⟩ (.bool true)) from by
    have hg : (mkB rs.length w1).grownBy ((mkB rs.length w1).setCell ⟨w1.heap.size, 0, none⟩ (.bool true)) (some w1.heap.size) := grown_setCell (grown_refl _ _) _
    refine ⟨(hr1.below (mkB_below _ _) (by omega)).grown hg (by rw [mkB_size]; omega) (fun e => by have := Option.some.inj e; omega), by simp [World.setCell, mkB_size]; omega, Nat.le_refl _, ?_, hb1.size, by omega, below_own (below_then hb1 (mkB_below _ _)) hg hb1.size⟩
    rw [block_set hbk 0 (.bool true), boolRow_set]
    congr 2)
  clear hr1 hb1 hm hz1 hbk
  have hpsz : (ps.length : Int) < 4294967281 := by omega
  go_enter Tryd.func78, Tryd.ntmps78
  go_wp2
  go_loopg [6, 8, 9, 10, 21] ps.length (fun gg v6 _ _ _ iv wr => ∃ (i rb : Nat), iv = .int .i64 i ∧ i ≤ ps.length ∧ ps.length - i ≤ gg ∧ v6 = .slice (some ⟨rb, 0, none⟩) (rs.length + 1) (rs.length + 1) ∧ SingleMem w w.heap.size rb rs (Pn.reachP rs ((ps.map Prod.fst).take i)) wr)
  case atStart => exact ⟨0, w1.heap.size, rfl, Nat.zero_le _, by omega, rfl, H0.out⟩
  case round =>
    obtain ⟨i, rb, rfl, hi, hgg, rfl, hS⟩ := hrel
    have HS := Lib.hid hS
    clear hS
    by_cases hl : i < ps.length
    · have hlz : (i : Int) < (ps.length : Int) := by omega
      obtain ⟨p, hp⟩ : ∃ p, ps[i] = p := ⟨_, rfl⟩
      have hsn := reach_snoc rs (ps.map Prod.fst) i (by simpa using hl)
      rw [List.getElem_map, hp] at hsn
      obtain ⟨f, hf⟩ : ∃ f, Pn.reachP rs ((ps.map Prod.fst).take i) = f := ⟨_, rfl⟩
      rw [hf] at HS hsn
      clear hf
      have HSN := Lib.hid hsn
      have hmr := HM.out.below HS.out.below
      have hsp := hmr.spans p (by rw [← hp]; exact List.getElem_mem hl)
      obtain ⟨⟨st, ng, sps⟩, sv⟩ := p
      obtain ⟨sa, sc, rfl⟩ : ∃ sa sc, sv = .slice sa sps.length sc := own_form' hsp
      have HSP := Lib.hid hsp
      obtain ⟨g, rfl, q0, q1, q2⟩ : ∃ g, va = some ⟨g, 0, none⟩ ∧ wr.cell? ⟨g, i * 3, none⟩ = some (.bool st) ∧ wr.cell? ⟨g, i * 3 + 1, none⟩ = some (.bool ng) ∧ wr.cell? ⟨g, i * 3 + 2, none⟩ = some (.slice sa sps.length sc) := by
        have hs := itemCells_get ps i hl
        rw [hp] at hs
        have hlen := hmr.own.1
        rcases own_slice hmr.own with ⟨_, h0, _⟩ | ⟨g, cap, hv, _, hg, _, _, hrow⟩
        · omega
        · have r1 := hrow (i * 3) (by omega)
          have r2 := hrow (i * 3 + 1) (by omega)
          have r3 := hrow (i * 3 + 2) (by omega)
          rw [List.getElem?_eq_getElem (by omega), List.getElem?_eq_getElem (by omega), List.getElem?_eq_getElem (by omega)] at hs
          rw [Nat.zero_add] at r1 r2 r3
          injection hv with h1
          exact ⟨g, h1, by rw [r1]; exact hs.1, by rw [r2]; exact hs.2.1, by rw [r3]; exact hs.2.2⟩
      clear hmr hsp hp hsn
      obtain ⟨wo, hwo⟩ : ∃ wo, wo = wr := ⟨_, rfl⟩
      subst hwo
      have hit := HS.out.new
      have HL := Lib.hid hl
      have HII := Lib.hid hi
      have HGG := Lib.hid hgg
      have HPS := Lib.hid hps
      clear hl hi hgg hps hlz hpsz
      have H1 := Lib.hid (show SingleMem w w.heap.size rb rs f (mkB rs.length (wo.alloc (.cells #[.bool st, .bool ng, .slice sa sps.length sc] 106))) from
        (HS.out.keep ((Below.refl _ _).alloc (Nat.le_refl _) _)).keep (mkB_below _ _))
      have H2 := Lib.hid (show (mkB rs.length (wo.alloc (.cells #[.bool st, .bool ng, .slice sa sps.length sc] 106))).heap[wo.heap.size + 1]? = some (.cells (boolRow (InnerRow ⟨st, ng, sps⟩ rs f 0) (rs.length + 1)) 4) from by
        have := mkB_block rs.length (wo.alloc (.cells #[.bool st, .bool ng, .slice sa sps.length sc] 106))
        rw [World.size_alloc] at this
        rw [← inner_zero]; exact this)
      have H3 := Lib.hid (show (mkB rs.length (wo.alloc (.cells #[.bool st, .bool ng, .slice sa sps.length sc] 106))).heap[wo.heap.size]? = some (.cells #[.bool st, .bool ng, .slice sa sps.length sc] 106) from by
        rw [(mkB_below _ _).block _ (by simp)]; exact heap_alloc_new wo _)
      have hlz : (i : Int) < (ps.length : Int) := by have := HL.out; omega
      have hpsz : (ps.length : Int) < 4294967281 := by have := HPS.out; omega
      go_wp2
      clear hlz hpsz
      go_loopg [10, 31] (rs.length + 1) (fun gi _ kv wi => ∃ k : Nat, kv = .int .i64 k ∧ k ≤ rs.length + 1 ∧ rs.length + 1 - k ≤ gi ∧ SingleMem w w.heap.size rb rs f wi ∧
        wi.heap[wo.heap.size + 1]? = some (.cells (boolRow (InnerRow ⟨st, ng, sps⟩ rs f k) (rs.length + 1)) 4) ∧ wi.heap[wo.heap.size]? = some (.cells #[.bool st, .bool ng, .slice sa sps.length sc] 106) ∧ Below wo.heap.size wo wi)
      case atStart => exact ⟨0, rfl, Nat.zero_le _, by omega, H1.out, H2.out, H3.out, below_then ((Below.refl _ _).alloc (Nat.le_refl _) _) (mkB_below _ _)⟩
      case round =>
        obtain ⟨k, rfl, hk, hgi, hS, hn, hx, hB⟩ := hrel
        have x0 := cell_of_block' hx 0
        have x1 := cell_of_block' hx 1
        have x2 := cell_of_block' hx 2
        simp at x0 x1 x2
        have HI := Lib.hid hS
        have HN := Lib.hid hn
        have HX := Lib.hid hx
        have HB := Lib.hid hB
        have hltR := hS.ltR
        have hrbw := hS.new
        have hlb := lt_of_block HS.out.reach
        clear hS hn hx hB
        by_cases hkn : k < rs.length + 1
        · have hknz : (k : Int) < (rs.length : Int) + 1 := by omega
          have cb := cell_of_block' HI.out.reach k
          rw [boolRow_get _ _ _ hkn] at cb
          have cn := cell_of_block' HN.out k
          rw [boolRow_get _ _ _ hkn] at cn
          have fn := free_of_block HN.out k
          have STORE : ∀ bv, Pn.stepP ⟨st, ng, sps⟩ rs f k = bv → ∀ W, Below wr.heap.size wr W → (SingleMem w w.heap.size rb rs f (W.setCell ⟨wo.heap.size + 1, k, none⟩ (.bool bv)) ∧
            (W.setCell ⟨wo.heap.size + 1, k, none⟩ (.bool bv)).heap[wo.heap.size + 1]? = some (.cells (boolRow (InnerRow ⟨st, ng, sps⟩ rs f (k + 1)) (rs.length + 1)) 4) ∧ (W.setCell ⟨wo.heap.size + 1, k, none⟩ (.bool bv)).heap[wo.heap.size]? = some (.cells #[.bool st, .bool ng, .slice sa sps.length sc] 106) ∧ Below wo.heap.size wo (W.setCell ⟨wo.heap.size + 1, k, none⟩ (.bool bv))) := by
            intro bv hbv W hW
            have hg : W.grownBy (W.setCell ⟨wo.heap.size + 1, k, none⟩ (.bool bv)) (some (wo.heap.size + 1)) := grown_setCell (grown_refl _ _) _
            have hN : W.heap[wo.heap.size + 1]? = some (.cells (boolRow (InnerRow ⟨st, ng, sps⟩ rs f k) (rs.length + 1)) 4) := by rw [hW.block _ (lt_of_block HN.out)]; exact HN.out
            have hX : W.heap[wo.heap.size]? = some (.cells #[.bool st, .bool ng, .slice sa sps.length sc] 106) := by rw [hW.block _ (lt_of_block HX.out)]; exact HX.out
            have hsz := HS.out.below.size
            have hR0 := HS.out.ltR
            refine ⟨(HI.out.keep hW).store hg (by omega) (by omega) (by omega), ?_, ?_, below_own (below_then HB.out (hW.mono (by first | omega | exact HB.out.size | exact Nat.le_refl _))) hg (by omega)⟩
            · rw [block_set hN k (.bool bv), inner_set _ _ _ _ _ _ hbv]
            · rw [hg.block _ (lt_of_block hX) (fun e => by have := Option.some.inj e; omega)]; exact hX
          have HSTORE := Lib.hid STORE
          clear STORE
          cases st with
          | true =>
            cases hfk : f k with
            | true =>
              rw [hfk] at cb
              have HV := Lib.hid (show Pn.stepP ⟨true, ng, sps⟩ rs f k = true by cases k with | zero => simp [Pn.stepP, hfk] | succ m => simp [Pn.stepP, hfk])
              go_wp2
              go_roundg (rs.length + 1 - (k + 1))
              case measure => omega
              case rel => exact ⟨k + 1, by go_num, by omega, Nat.le_refl _, HSTORE.out true HV.out _ (Below.refl _ _)⟩
            | false =>
              rw [hfk] at cb
              by_cases hk0 : k = 0
              · have HV := Lib.hid (show Pn.stepP ⟨true, ng, sps⟩ rs f k = false by subst hk0; simp [Pn.stepP, hfk])
                have z0 : (k : Int) ≤ 0 := by omega
                clear hfk hk0
                go_wp2
                go_roundg (rs.length + 1 - (k + 1))
                case measure => omega
                case rel => exact ⟨k + 1, by go_num, by omega, Nat.le_refl _, HSTORE.out false HV.out _ (Below.refl _ _)⟩
              · have z0 : (0 : Int) < (k : Int) := by omega
                have cm := cell_of_block' HN.out (k - 1)
                rw [boolRow_get _ _ _ (by omega)] at cm
                have HV := Lib.hid (show Pn.stepP ⟨true, ng, sps⟩ rs f k = InnerRow ⟨true, ng, sps⟩ rs f k (k - 1) by
                  obtain ⟨m, rfl⟩ : ∃ m, k = m + 1 := ⟨k - 1, by omega⟩
                  simp [Pn.stepP, hfk, InnerRow])
                generalize InnerRow ⟨true, ng, sps⟩ rs f k (k - 1) = bv at cm HV
                clear hfk hk0
                go_wp2
                go_roundg (rs.length + 1 - (k + 1))
                case measure => omega
                case rel => exact ⟨k + 1, by go_num, by omega, Nat.le_refl _, HSTORE.out bv HV.out _ (Below.refl _ _)⟩
          | false =>
            by_cases hk0 : k = 0
            · have HV := Lib.hid (inner_keep ⟨false, ng, sps⟩ rs f k (rs.length + 1) (by subst hk0; simp [Pn.stepP]))
              have z0 : (k : Int) ≤ 0 := by omega
              clear hk0
              go_wp2
              go_roundg (rs.length + 1 - (k + 1))
              case measure => omega
              case rel => exact ⟨k + 1, by go_num, by omega, Nat.le_refl _, HI.out, by rw [← HV.out]; exact HN.out, HX.out, HB.out⟩
            · have z0 : (0 : Int) < (k : Int) := by omega
              have dm := cell_of_block' HI.out.reach (k - 1)
              rw [boolRow_get _ _ _ (by omega)] at dm
              have hru := HI.out.rune (show k - 1 < rs.length by omega)
              have HSTEP := Lib.hid (show Pn.stepP ⟨false, ng, sps⟩ rs f k = (f (k - 1) && Pn.admitsP ⟨false, ng, sps⟩ (rs.getD (k - 1) 0)) by
                obtain ⟨m, rfl⟩ : ∃ m, k = m + 1 := ⟨k - 1, by omega⟩
                simp [Pn.stepP])
              generalize rs.getD (k - 1) 0 = ru at hru HSTEP
              cases hfm : f (k - 1) with
              | false =>
                rw [hfm] at dm HSTEP
                have HV := Lib.hid (show Pn.stepP ⟨false, ng, sps⟩ rs f k = false by rw [HSTEP.out]; rfl)
                clear hfm hk0
                go_wp2
                go_region
                go_wp2
                go_roundg (rs.length + 1 - (k + 1))
                case measure => omega
                case rel => exact ⟨k + 1, by go_num, by omega, Nat.le_refl _, HSTORE.out false HV.out _ ((Below.refl _ _).drew)⟩
              | true =>
                rw [hfm, Bool.true_and] at HSTEP
                rw [hfm] at dm
                clear hfm hk0
                have hl1 := lt_of_block HN.out
                have hlen : sps.length ≤ 9223372036854775807 := by
                  rcases HSP.out.2 with ⟨_, h0⟩ | ⟨g, cap, cur, _, _, _, h1, h2, _⟩
                  · omega
                  · unfold maxLen at h2; omega
                have HA := Lib.hid fun W (hW : Below wr.heap.size wr W) => admits_any ⟨false, ng, sps⟩ ru sa sc base W hlen (HSP.out.kept (grown_below (below_then HB.out hW) none) (by cases (Value.slice sa sps.length sc).ownBlock <;> simp))
                clear hlen
                have y1 : (0 : Int) ≤ (k : Int) - 1 := by omega
                have y2 : (k : Int) - 1 < (rs.length : Int) + 1 := by omega
                have y3 : (k : Int) - 1 < (rs.length : Int) := by omega
                have y4 : IntKind.i64.wrap ((k : Int) - 1) = (k : Int) - 1 := by rw [IntKind.wrap_i64]; omega
                generalize Pn.admitsP ⟨false, ng, sps⟩ ru = ab at HA HSTEP
                go_wp2
                go_region_with (go_at_call 93; refine (HA.out _ ?_).mono ?_; exact (Below.refl _ _).drew; rintro e w2 ⟨rfl, hb2⟩; have cn2 := (hb2.cell (p := ⟨wo.heap.size + 1, k, none⟩) hl1).trans cn; have fn2 := (hb2.frozen (p := ⟨wo.heap.size + 1, k, none⟩) hl1).trans fn)
                · go_wp2
                  go_roundg (rs.length + 1 - (k + 1))
                  case measure => omega
                  case rel => exact ⟨k + 1, by go_num, by omega, Nat.le_refl _, HSTORE.out _ HSTEP.out _ (below_then (Below.refl _ _).drew hb2)⟩
                · go_wp2
                  go_roundg (rs.length + 1 - (k + 1))
                  case measure => omega
                  case rel => exact ⟨k + 1, by go_num, by omega, Nat.le_refl _, HSTORE.out _ HSTEP.out _ (below_then (Below.refl _ _).drew hb2)⟩
        · have hknz : ¬ (k : Int) < (rs.length : Int) + 1 := by omega
          obtain rfl : k = rs.length + 1 := by omega
          have HV := Lib.hid (inner_full ⟨st, ng, sps⟩ rs f (rs.length + 1))
          have hlz : (i : Int) < (ps.length : Int) := by have := HL.out; omega
          have hpsz : (ps.length : Int) < 4294967281 := by have := HPS.out; omega
          go_wp2
          have hl := HL.out
          have hgg := HGG.out
          go_roundg (ps.length - (i + 1))
          case measure => omega
          case rel =>
            have hsz := HS.out.below.size
            refine ⟨i + 1, wo.heap.size + 1, by go_num, by omega, Nat.le_refl _, rfl, ?_⟩
            rw [HSN.out]
            exact ⟨HI.out.runes, HI.out.ltR, HI.out.newR, by rw [← HV.out]; exact HN.out, by omega, by have := HS.out.ltR; omega, HI.out.below⟩
    · have hlz : ¬ (i : Int) < (ps.length : Int) := by omega
      have ce := cell_of_block' HS.out.reach rs.length
      rw [boolRow_get _ _ _ (by omega)] at ce
      have HFIN := Lib.hid (show Pn.reachP rs ((ps.map Prod.fst).take i) = Pn.reachP rs (ps.map Prod.fst) by rw [List.take_of_length_le (by simp; omega)])
      rw [HFIN.out] at ce
      go_wp2
      go_ret
      exact ⟨rfl, HS.out.below⟩

end Go.Proofs.YtdnbmkfmckppaaaDoor
