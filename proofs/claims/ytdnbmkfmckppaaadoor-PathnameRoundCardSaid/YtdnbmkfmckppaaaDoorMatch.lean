/-
  The walk of (*pathname.table).matches: a recursion with a memo.
-/
import Derived.Test.YtdnbmkfmckppaaaDoorSingle
import Derived.Test.YtdnbmkfmckppaaaDoorMap
import Derived.Deep.RegionHeld3
namespace Go.Proofs.YtdnbmkfmckppaaaDoor
open Go.RowKit Go.Lib
open Go.Maps (Keyed)

theorem laid_out : laidOutB Tryd.prog = true := by kernel_rfl
theorem pair_row : (110 : TypeId) < Tryd.prog.types.size := of_decide_eq_true (by kernel_rfl)
theorem pair_wide : (match Tryd.prog.underlying 110 with | some (.array _ _) | some (.struct _) => true | _ => false) = true := by kernel_rfl
set_option maxRecDepth 100000 in
theorem pair_law : Keyed Tryd.prog 110 := Keyed.of_law (deep_law_laid laid_out (m := 3) (by omega) pair_row (by kernel_rfl) pair_wide)
theorem zero_bool (w : World) : (zeroValue 4).run Tryd.prog w = .ok (.bool false) w := by kernel_rfl

abbrev pairV (i k : Nat) : Value := .agg #[.int .i64 i, .int .i64 k]

theorem key_types : Tryd.prog.keyType 110 = true := by kernel_rfl
theorem pair_cells : Tryd.prog.cellsOf 110 = 2 ∧ Tryd.prog.cellsOf 3 = 1 := ⟨by kernel_rfl, by kernel_rfl⟩
theorem pair_under : Tryd.prog.underlying 110 = some (.array 2 3) := Tryd.underlying110

theorem pair_size : ∃ n, Tryd.prog.types.size = n + 1 := ⟨_, (by kernel_rfl : Tryd.prog.types.size = (Tryd.prog.types.size - 1) + 1)⟩

theorem pair_key (i k : Nat) (hi : i < 4294967296) (hk : k < 4294967296) : ∃ l, keyOf Tryd.prog 110 (pairV i k) = some l := by
  obtain ⟨n, hn⟩ := pair_size
  have h1 : (Lit.int .i64 (i : Int)).wf = true := WalkArith.wf_i64 (by omega)
  have h2 : (Lit.int .i64 (k : Int)).wf = true := WalkArith.wf_i64 (by omega)
  have hf : (pairV i k).formed Tryd.prog 110 = true := by simp [Value.formed, pair_cells.1]
  have hkl : ∀ x : Nat, (Lit.int .i64 (x : Int)).wf = true → (Tryd.prog.keyLits (n + 1) 3 [Value.int .i64 (x : Int)]) = some [.int .i64 (x : Int)] := by
    intro x hx
    simp [Program.keyLits, Tryd.underlying3, hx]
  have hkk : Tryd.prog.keyLits (n + 1 + 1) 110 [Value.int .i64 (i : Int), Value.int .i64 (k : Int)] = some [.int .i64 (i : Int), .int .i64 (k : Int)] := by
    rw [Program.keyLits.eq_def]
    simp [pair_cells, List.range_succ, hkl i h1, hkl k h2]
  unfold keyOf
  simp only [pair_under, key_types, hf, Bool.and_self, if_true]
  rw [hn]
  exact ⟨_, by rw [show (pairV i k).cells.toList = [Value.int .i64 (i : Int), Value.int .i64 (k : Int)] from rfl, hkk]; rfl⟩

theorem own_not_map {w : World} {base : Nat} {e : TypeId} {size : Nat} {v : Value} {n : Nat} {xs : List Value} (h : w.ownsRow base e size v n xs) {b : Nat} {ms : Array MapEntry} {c : Nat} (hb : w.heap[b]? = some (.map ms c)) : v.ownBlock = none ∨ v.ownBlock ≠ some b := by
  refine .inr fun he => ?_
  rcases h.2 with ⟨rfl, _⟩ | ⟨g, cap, cur, rfl, _, hg, _⟩
  · cases he
  · simp [Value.ownBlock] at he
    subst he
    rw [hb] at hg; cases hg

theorem PatMem.grown {w w' : World} {base : Nat} {v : Value} {qs : List CompV} (h : PatMem w base v qs) {b : Nat} {ms : Array MapEntry} {c : Nat} (hb : w.heap[b]? = some (.map ms c)) (hg : w.grownBy w' (some b)) : PatMem w' base v qs :=
  ⟨h.own.kept hg (own_not_map h.own hb), fun q hq => by
    have := h.comps q hq
    split at this
    · exact this
    · exact ⟨this.1, ⟨this.2.own.kept hg (own_not_map this.2.own hb), fun p hp => (this.2.spans p hp).kept hg (own_not_map (this.2.spans p hp) hb)⟩⟩⟩

/-- The table in memory: pattern, path, memo. -/
structure TabMem (base : Nat) (va : Option Addr) (vc : Nat) (qs : List CompV) (cs : List Pn.B) (pb tb mb : Nat) (W : World) : Prop where
  pat : PatMem W base (.slice va qs.length vc) qs
  path : RowAt W pb 0 (cs.map S)
  pbLt : pb < W.heap.size
  c0 : W.cell? ⟨tb, 0, none⟩ = some (.slice va qs.length vc)
  c1 : W.cell? ⟨tb, 1, none⟩ = some (.slice (some ⟨pb, 0, none⟩) cs.length cs.length)
  c2 : W.cell? ⟨tb, 2, none⟩ = some (.map (some mb))
  memo : ∃ es, MapAt Tryd.prog 110 W mb es ∧ ∀ p ∈ es, ∃ i k : Nat, p = (pairV i k, .bool (Pn.matchesP ((qs.map CompV.plain).drop i) (cs.drop k)))
  npb : pb ≠ mb
  ntb : tb ≠ mb

variable {base : Nat} {va : Option Addr} {vc : Nat} {qs : List CompV} {cs : List Pn.B} {pb tb mb : Nat} {W W' : World}

theorem TabMem.below (h : TabMem base va vc qs cs pb tb mb W) (hb : Below W.heap.size W W') : TabMem base va vc qs cs pb tb mb W' := by
  obtain ⟨es, hm, he⟩ := h.memo
  have hl := World.block_lt_of_cell? W _ h.c0
  exact ⟨h.pat.below hb, h.path.below hb h.pbLt, Nat.lt_of_lt_of_le h.pbLt hb.size, by rw [hb.cell (p := ⟨tb, 0, none⟩) hl]; exact h.c0, by rw [hb.cell (p := ⟨tb, 1, none⟩) hl]; exact h.c1, by rw [hb.cell (p := ⟨tb, 2, none⟩) hl]; exact h.c2, ⟨es, hm.below hb, he⟩, h.npb, h.ntb⟩

theorem cell_grown {w w' : World} {row : Option Nat} (hg : w.grownBy w' row) (p : Addr) (hl : p.block < w.heap.size) (hne : some p.block ≠ row) : w'.cell? p = w.cell? p := by
  have := hg.block p.block hl hne
  unfold World.cell?
  rw [this]

theorem pairV_inj (i k j l : Nat) (h : pairV i k = pairV j l) : i = j ∧ k = l := by
  simp [pairV] at h
  omega

theorem TabMem.look (h : TabMem base va vc qs cs pb tb mb W) (i k : Nat) (hi : i < 4294967296) (hk : k < 4294967296) :
    (∀ nn, (Instr.lookup 85 (.map (some mb)) (pairV i k) true).run Tryd.prog (W.drewN nn) = .ok (.tuple #[.bool false, .bool false]) (W.drewN nn)) ∨
    (∀ nn, (Instr.lookup 85 (.map (some mb)) (pairV i k) true).run Tryd.prog (W.drewN nn) = .ok (.tuple #[.bool (Pn.matchesP ((qs.map CompV.plain).drop i) (cs.drop k)), .bool true]) (W.drewN nn)) := by
  obtain ⟨es, hm, he⟩ := h.memo
  obtain ⟨l, hl⟩ := pair_key i k hi hk
  by_cases hin : ∃ v, (pairV i k, v) ∈ es
  · refine .inr fun nn => ?_
    rcases (hm.drewN nn).look pair_law Tryd.underlying85 (zero_bool _) hl true with ⟨h0, _⟩ | ⟨v, h1, h2⟩
    · obtain ⟨v, hv⟩ := hin
      exact absurd hv (h0 v)
    · obtain ⟨j, m, e⟩ := he _ h1
      have e1 := congrArg Prod.fst e
      have e2 := congrArg Prod.snd e
      simp only at e1 e2
      obtain ⟨rfl, rfl⟩ := pairV_inj i k j m e1
      rw [e2] at h2
      exact h2
  · refine .inl fun nn => ?_
    rcases (hm.drewN nn).look pair_law Tryd.underlying85 (zero_bool _) hl true with ⟨_, h1⟩ | ⟨v, h1, _⟩
    · exact h1
    · exact absurd ⟨v, h1⟩ hin

theorem TabMem.store (h : TabMem base va vc qs cs pb tb mb W) (i k : Nat) (hi : i < 4294967296) (hk : k < 4294967296) (v : Bool) (hv : Pn.matchesP ((qs.map CompV.plain).drop i) (cs.drop k) = v) :
    ∃ W', (Instr.mapUpdate 85 (.map (some mb)) (pairV i k) (.bool v)).run Tryd.prog W.drew = .ok () W' ∧ TabMem base va vc qs cs pb tb mb W' ∧ W.grownBy W' (some mb) := by
  obtain ⟨es, hm, he⟩ := h.memo
  obtain ⟨l, hl⟩ := pair_key i k hi hk
  obtain ⟨W', es', hrun, hm', hg, hmem⟩ := hm.drew.store pair_law Tryd.underlying85 hl (val := .bool v)
  have hg' : W.grownBy W' (some mb) := ⟨hg.os, hg.tape, hg.output, hg.size, hg.block⟩
  obtain ⟨ms, c, hb, _⟩ := hm.block
  have hlt := World.block_lt_of_cell? W _ h.c0
  have hne : some tb ≠ some mb := fun e => h.ntb (Option.some.inj e)
  refine ⟨W', hrun, ⟨h.pat.grown hb hg', h.path.grown hg' h.pbLt (fun e => h.npb (Option.some.inj e)), Nat.lt_of_lt_of_le h.pbLt hg'.size, ?_, ?_, ?_, ⟨es', hm', fun p hp => ?_⟩, h.npb, h.ntb⟩, hg'⟩
  · rw [cell_grown hg' ⟨tb, 0, none⟩ hlt hne]; exact h.c0
  · rw [cell_grown hg' ⟨tb, 1, none⟩ hlt hne]; exact h.c1
  · rw [cell_grown hg' ⟨tb, 2, none⟩ hlt hne]; exact h.c2
  · rcases (hmem p).1 hp with rfl | ⟨hp', _⟩
    · exact ⟨i, k, by rw [hv]⟩
    · exact he p hp'

end Go.Proofs.YtdnbmkfmckppaaaDoor
