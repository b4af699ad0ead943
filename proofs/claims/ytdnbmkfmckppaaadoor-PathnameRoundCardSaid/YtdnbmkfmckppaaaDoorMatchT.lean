/-
  The walks of pathname.match and pathname.Match.
-/
import Derived.Test.YtdnbmkfmckppaaaDoorMatchW
namespace Go.Proofs.YtdnbmkfmckppaaaDoor
open Go.RowKit Go.Lib

theorem itemsGo_len : ∀ (n : Nat) (acc : List Pn.Item) (l : List Nat) {r}, Pn.itemsGo n acc l = some r → r.length ≤ acc.length + l.length := by
  intro n
  induction n with
  | zero => intro acc l r h; cases h
  | succ n ih =>
    intro acc l r h
    rw [Pn.itemsGo] at h
    split at h
    · cases h; omega
    · split at h
      · cases h
      · rename_i x u hx
        have := ih _ _ h
        have := Pn.itemP_lt hx
        simp at *; omega

theorem itemsP_len {s : Pn.B} {l : List Pn.Item} (h : Pn.itemsP s = some l) : l.length ≤ s.length := by
  unfold Pn.itemsP at h
  split at h
  · cases h
  · rename_i l' hl
    split at h
    · cases h
    · cases h
      have := itemsGo_len _ _ _ hl
      have h2 : (Pn.runesP s).length ≤ s.length := runesGo_le _ _
      simp at this; omega

theorem compsP_len {l : List Pn.B} {pat : List (Option (List Pn.Item))} (h : Pn.compsP l = some pat) : pat.length = l.length ∧ ∀ n, (∀ p ∈ l, p.length ≤ n) → ∀ x ∈ pat, ∀ y, x = some y → y.length ≤ n := by
  induction l generalizing pat with
  | nil => simp [Pn.compsP] at h; subst h; simp
  | cons p r ih =>
    simp only [Pn.compsP] at h
    cases hp : Pn.compP p with
    | none => rw [hp] at h; cases h
    | some c =>
      rw [hp] at h
      cases hr : Pn.compsP r with
      | none => rw [hr] at h; cases h
      | some a =>
        rw [hr] at h; simp at h; subst h
        obtain ⟨h1, h2⟩ := ih hr
        refine ⟨by simp [h1], fun n hn x hx y hy => ?_⟩
        rcases List.mem_cons.1 hx with rfl | hx
        · unfold Pn.compP at hp
          split at hp
          · cases hp; cases hy
          · subst hy
            simp at hp
            exact Nat.le_trans (itemsP_len hp) (hn p (by simp))
        · exact h2 n (fun q hq => hn q (by simp [hq])) x hx y hy

theorem compileP_len {s : Pn.B} {pat : List (Option (List Pn.Item))} (h : Pn.compileP s = some pat) : pat.length ≤ 16 ∧ s.length ≤ 512 ∧ ∀ x ∈ pat, ∀ y, x = some y → y.length ≤ 512 := by
  unfold Pn.compileP at h
  split at h
  · rename_i hc
    simp only [Bool.and_eq_true, decide_eq_true_eq] at hc
    obtain ⟨h1, h2⟩ := compsP_len h
    exact ⟨by omega, hc.1.1, fun x hx y hy => h2 512 (fun p hp => Nat.le_trans (splitS_part hp) hc.1.1) x hx y hy⟩
  · cases h

/-- A pattern in memory that was compiled. -/
structure GoodPat (w : World) (base : Nat) (va : Option Addr) (vc : Nat) (qs : List CompV) : Prop where
  mem : PatMem w base (.slice va qs.length vc) qs
  len : qs.length < 4294967281
  items : ∀ q ∈ qs, ∀ ps, q.1 = some ps → ps.length < 4294967281

theorem goodPat_of {w : World} {base : Nat} {v : Value} {qs : List CompV} {pat : List (Option (List Pn.Item))} {s : Pn.B} (hm : PatMem w base v qs) (hq : qs.map CompV.plain = pat) (hc : Pn.compileP s = some pat) : ∃ va vc, v = .slice va qs.length vc ∧ GoodPat w base va vc qs := by
  obtain ⟨va, vc, rfl⟩ := own_form' hm.own
  obtain ⟨h1, _, h2⟩ := compileP_len hc
  subst hq
  refine ⟨va, vc, rfl, hm, by simp at h1; omega, fun q hq ps hps => ?_⟩
  have := h2 q.plain (List.mem_map.2 ⟨q, hq, rfl⟩) (ps.map Prod.fst) (by simp [CompV.plain, hps])
  simp at this; omega

set_option maxHeartbeats 1000000 in
set_option maxRecDepth 100000 in
theorem match_any (s : ByteArray) (w : World) (base : Nat) (va : Option Addr) (vc : Nat) (qs : List CompV) (hs : s.size < 4294967280) (hE : Env w) (hp : GoodPat w base va vc qs) :
    Calls Tryd.prog 34 #[.slice va qs.length vc, .string s] w fun e w' => e = .returned (.bool (Pn.matchP (qs.map CompV.plain) s.data.toList)) ∧ Below w.heap.size w w' := by
  have hS := Lib.hid (split_any s 47 w (by omega) hE)
  have HP := Lib.hid hp
  have hlen := splitS_len 47 s.data.toList
  rw [← size_eq] at hlen
  have hpr := Lib.hid (pieces_row 47 s w)
  have hpart := Lib.hid fun c (h : c ∈ Pn.splitS 47 s.data.toList) => show c.length < 4294967281 from by have := splitS_part h; rw [← size_eq] at this; omega
  unfold Pn.matchP
  generalize Pn.splitS 47 s.data.toList = cs at *
  have hmm := @run_makeMap Tryd.prog
  clear hp
  have HM := Lib.hid (show ∀ W, W = ((w.alloc (pieces 47 s)).alloc (.map #[] 0)).alloc (.cells #[.slice va qs.length vc, .slice (some ⟨w.heap.size, 0, none⟩) cs.length cs.length, .map (some (w.heap.size + 1))] 87) →
      TabMem base va vc qs cs w.heap.size (w.heap.size + 2) (w.heap.size + 1) W ∧ Below w.heap.size w W from by
    intro W hW
    have b1 : Below w.heap.size w (w.alloc (pieces 47 s)) := (Below.refl _ w).alloc (Nat.le_refl _) _
    have b2 : Below (w.heap.size + 1) (w.alloc (pieces 47 s)) ((w.alloc (pieces 47 s)).alloc (.map #[] 0)) := (Below.refl _ _).alloc (by simp) _
    have b3 : Below (w.heap.size + 2) ((w.alloc (pieces 47 s)).alloc (.map #[] 0)) W := by subst hW; exact (Below.refl _ _).alloc (by simp) _
    have hB : Below w.heap.size w W := b1.trans ((b2.mono (by omega)).trans (b3.mono (by omega)))
    have hcell : ∀ j, W.cell? ⟨w.heap.size + 2, j, none⟩ = #[Value.slice va qs.length vc, .slice (some ⟨w.heap.size, 0, none⟩) cs.length cs.length, .map (some (w.heap.size + 1))][j]? := by
      intro j
      subst hW
      have := heap_alloc_new ((w.alloc (pieces 47 s)).alloc (.map #[] 0)) (.cells #[Value.slice va qs.length vc, .slice (some ⟨w.heap.size, 0, none⟩) cs.length cs.length, .map (some (w.heap.size + 1))] 87)
      simp only [World.size_alloc] at this
      exact cell_of_block' this j
    have hmap : MapAt Tryd.prog 110 W (w.heap.size + 1) [] := by
      have := mapAt_made (P := Tryd.prog) (k := 110) (w.alloc (pieces 47 s))
      rw [World.size_alloc] at this
      exact this.kept (grown_below (b3.mono (B := w.heap.size + 2) (B' := ((w.alloc (pieces 47 s)).alloc (.map #[] 0)).heap.size) (by simp)) none) (by simp)
    refine ⟨⟨HP.out.mem.below hB, ?_, ?_, hcell 0, hcell 1, hcell 2, ⟨[], hmap, by simp⟩, by omega, by omega⟩, hB⟩
    · exact (hpr.out.below (b2.mono (by simp)) (by simp)).below (b3.mono (by simp)) (by simp; omega)
    · have := hB.size; subst hW; simp; omega)
  go_enter Tryd.func34, Tryd.ntmps34
  go_wp2_with fail
  refine hS.out.mono ?_
  rintro e w1 ⟨rfl, rfl⟩
  go_wp2_with fail
  have HG := Lib.hid (HM.out _ rfl)
  have hg := matches_go base va vc qs cs w.heap.size (w.heap.size + 2) (w.heap.size + 1) HP.out.len (by omega) hpart.out HP.out.items _ 0 0 _ (Nat.lt_succ_self _) (Nat.zero_le _) (Nat.zero_le _) HG.out.1
  refine Calls.mono hg ?_
  rintro e W' ⟨rfl, hT, hgr⟩
  have HB := Lib.hid (below_own HG.out.2 hgr (by omega))
  clear hg hT hgr
  go_wp2_with fail
  go_ret
  exact ⟨rfl, HB.out⟩

/-- Match. -/
def matchTop (pattern path : Pn.B) : Bool × Int := match Pn.compileP pattern with
  | none => (false, 1)
  | some p => if Pn.validP path then (Pn.matchP p path, 0) else (false, 1)

set_option maxHeartbeats 1000000 in
set_option maxRecDepth 100000 in
theorem match_top (p s : ByteArray) (w : World) (hp : p.size < 4294967281) (hs : s.size < 4294967280) (hE : Env w) :
    Calls Tryd.prog 12 #[.string p, .string s] w fun e w' => e = .returned (.tuple #[.bool (matchTop p.data.toList s.data.toList).1, .int .i64 (matchTop p.data.toList s.data.toList).2]) ∧ Below w.heap.size w w' := by
  have hC := Lib.hid (compile_any p w hp hE)
  have hE1 := Lib.hid hE
  unfold matchTop
  cases hc : Pn.compileP p.data.toList with
  | none =>
    have hC2 := Lib.hid (show Calls Tryd.prog 33 #[.string p] w fun e w' => (∃ a n c, e = .returned (.tuple #[.slice a n c, .bool false])) ∧ Below w.heap.size w w' from hC.out.mono (by
      rintro e w' ⟨hb, v, rfl, ⟨a, n, c, rfl⟩, _⟩
      exact ⟨⟨a, n, c, by rw [hc]; rfl⟩, hb⟩))
    clear hc hC hE hs hp
    go_enter Tryd.func12, Tryd.ntmps12
    go_wp2_with fail
    refine hC2.out.mono ?_
    rintro e w1 ⟨⟨a, n, c, rfl⟩, hb⟩
    go_wp2_with fail
    go_ret2
    exact ⟨rfl, hb⟩
  | some pat =>
    have hC2 := Lib.hid (show Calls Tryd.prog 33 #[.string p] w fun e w' => ∃ va vc qs, e = .returned (.tuple #[.slice va qs.length vc, .bool true]) ∧ Below w.heap.size w w' ∧ qs.map CompV.plain = pat ∧ GoodPat w' w.heap.size va vc qs from hC.out.mono (by
      rintro e w' ⟨hb, v, rfl, _, hl⟩
      obtain ⟨qs, h1, h2⟩ := hl pat hc
      obtain ⟨va, vc, rfl, h3⟩ := goodPat_of h2 h1 hc
      exact ⟨va, vc, qs, by rw [hc]; rfl, hb, h1, h3⟩))
    cases hv : Pn.validP s.data.toList with
    | false =>
      have hV := Lib.hid fun w1 (h : Env w1) => show Calls Tryd.prog 11 #[.string s] w1 fun e w' => e = .returned (.bool false) ∧ Below w1.heap.size w1 w' from by
        have := valid_any s w1 (by omega) h
        rwa [hv] at this
      clear hc hC hE hs hp hv
      go_enter Tryd.func12, Tryd.ntmps12
      go_wp2_with fail
      refine hC2.out.mono ?_
      rintro e w1 ⟨va, vc, qs, rfl, hb, _, _⟩
      go_wp2_with fail
      refine (hV.out _ (hE1.out.below hb)).mono ?_
      rintro e w2 ⟨rfl, hb2⟩
      have HB := Lib.hid (below_then hb hb2)
      clear hb hb2
      go_wp2_with fail
      go_ret2
      exact ⟨rfl, HB.out⟩
    | true =>
      have hV := Lib.hid fun w1 (h : Env w1) => show Calls Tryd.prog 11 #[.string s] w1 fun e w' => e = .returned (.bool true) ∧ Below w1.heap.size w1 w' from by
        have := valid_any s w1 (by omega) h
        rwa [hv] at this
      have hMt := Lib.hid fun w1 base va vc qs (h : Env w1) (hg : GoodPat w1 base va vc qs) => match_any s w1 base va vc qs hs h hg
      clear hc hC hE hs hp hv
      go_enter Tryd.func12, Tryd.ntmps12
      go_wp2_with fail
      refine hC2.out.mono ?_
      rintro e w1 ⟨va, vc, qs, rfl, hb, hq, hg⟩
      have HQ := Lib.hid hq
      have HG := Lib.hid hg
      have HB := Lib.hid hb
      clear hq hg hb
      go_wp2_with fail
      refine (hV.out _ (hE1.out.below HB.out)).mono ?_
      rintro e w2 ⟨rfl, hb2⟩
      have HB2 := Lib.hid hb2
      clear hb2
      go_wp2_with fail
      refine (hMt.out w2 w.heap.size va vc qs ((hE1.out.below HB.out).below HB2.out) ⟨HG.out.mem.below HB2.out, HG.out.len, HG.out.items⟩).mono ?_
      rintro e w3 ⟨rfl, hb3⟩
      have HB3 := Lib.hid (below_then HB.out (below_then HB2.out hb3))
      clear hb3
      go_wp2_with fail
      go_ret2
      exact ⟨by rw [HQ.out]; rfl, HB3.out⟩

end Go.Proofs.YtdnbmkfmckppaaaDoor
