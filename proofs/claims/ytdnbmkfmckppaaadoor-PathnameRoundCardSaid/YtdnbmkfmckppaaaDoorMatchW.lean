/-
  The walk of (*pathname.table).matches.
-/
import Derived.Test.YtdnbmkfmckppaaaDoorMatch
import Derived.Test.YtdnbmkfmckppaaaDoorQuieter
import Derived.Lib.LazyBuf
namespace Go.Proofs.YtdnbmkfmckppaaaDoor
open Go.RowKit Go.Lib

/-- What a call of matches leaves. -/
def MatchesOk (base : Nat) (va : Option Addr) (vc : Nat) (qs : List CompV) (cs : List Pn.B) (pb tb mb i k : Nat) (W : World) (e : Ending) (W' : World) : Prop :=
  e = .returned (.bool (Pn.matchesP ((qs.map CompV.plain).drop i) (cs.drop k))) ∧ TabMem base va vc qs cs pb tb mb W' ∧ W.grownBy W' (some mb)

theorem pat_slot {w : World} {base : Nat} {va : Option Addr} {vc : Nat} {qs : List CompV} (h : PatMem w base (.slice va qs.length vc) qs) {i : Nat} (hi : i < qs.length) :
    ∃ g, va = some ⟨g, 0, none⟩ ∧ w.cell? ⟨g, i, none⟩ = some qs[i].2 ∧ g < w.heap.size := by
  rcases own_slice h.own with ⟨_, h0, _⟩ | ⟨g, cap, hv, _, hg, _, _, hrow⟩
  · omega
  · have r := hrow i (by simpa using hi)
    rw [Nat.zero_add] at r
    injection hv with h1
    exact ⟨g, h1, by rw [r]; simp, hg⟩

theorem items_slice {w : World} {base : Nat} {v : Value} {ps : List (Pn.Item × Value)} (h : ItemsMem w base v ps) (hne : ps ≠ []) : ∃ g c, v = .slice (some ⟨g, 0, none⟩) ps.length c := by
  rcases own_slice h.own with ⟨_, h0, _⟩ | ⟨g, cap, hv, _⟩
  · exact absurd (List.length_eq_zero_iff.1 h0) hne
  · exact ⟨g, cap, hv⟩

theorem matches_none (p : List (Option (List Pn.Item))) (path : List Pn.B) : Pn.matchesP (none :: p) path = (Pn.matchesP p path || match path with | [] => false | _ :: cs => Pn.matchesP (none :: p) cs) := by
  cases path <;> simp [Pn.matchesP, Pn.anyTail]

theorem below_mono' {B B' : Nat} {w w' : World} (h : Below B w w') (hb : B' ≤ B) : Below B' w w' := h.mono hb

theorem nil_items (w : World) : (binOp .eql 81 (.slice none 0 0) (.slice none 0 0)).run Tryd.prog w = .ok (.bool true) w := run_eql_slice_nil w _ _ none 0 0 Tryd.underlying81
theorem some_items (w : World) (a : Addr) (l c : Nat) : (binOp .eql 81 (.slice (some a) l c) (.slice none 0 0)).run Tryd.prog w = .ok (.bool false) w := run_eql_slice_nil w _ _ (some a) l c Tryd.underlying81

variable {base : Nat} {va : Option Addr} {vc : Nat} {qs : List CompV} {cs : List Pn.B} {pb tb mb : Nat} {W W' : World}

theorem TabMem.str (h : TabMem base va vc qs cs pb tb mb W) {k : Nat} (hk : k < cs.length) : W.cell? ⟨pb, k, none⟩ = some (S cs[k]) := by
  have := h.path k (by simpa using hk)
  rw [Nat.zero_add] at this
  rw [this]; simp

/-- The worlds of region 9: the table, and the two cells that are read. -/
structure SMeet (base g vc : Nat) (qs : List CompV) (cs : List Pn.B) (pb tb mb : Nat) (W1 : World) (i k gi n ci : Nat) (cc : Pn.B) (W2 : World) : Prop where
  tab : TabMem base (some ⟨g, 0, none⟩) vc qs cs pb tb mb W2
  grown : W1.grownBy W2 (some mb)
  item : W2.cell? ⟨g, i, none⟩ = some (.slice (some ⟨gi, 0, none⟩) n ci)
  str : W2.cell? ⟨pb, k, none⟩ = some (.string ⟨cc.toArray⟩)

structure SMeet0 (base g vc : Nat) (qs : List CompV) (cs : List Pn.B) (pb tb mb : Nat) (W1 : World) (i gi n ci : Nat) (W2 : World) : Prop where
  tab : TabMem base (some ⟨g, 0, none⟩) vc qs cs pb tb mb W2
  grown : W1.grownBy W2 (some mb)
  item : W2.cell? ⟨g, i, none⟩ = some (.slice (some ⟨gi, 0, none⟩) n ci)

theorem matches_end (qs : List CompV) (cs : List Pn.B) (k : Nat) (hk : k ≤ cs.length) : Pn.matchesP ((qs.map CompV.plain).drop qs.length) (cs.drop k) = ((k : Int) == (cs.length : Int)) := by
  rw [List.drop_of_length_le (by simp)]
  rw [Pn.matchesP, Bool.eq_iff_iff]
  simp only [List.isEmpty_iff, List.drop_eq_nil_iff, beq_iff_eq]
  constructor <;> intro h <;> omega

theorem grown_then {w w1 w2 : World} {row : Option Nat} (h : Below w.heap.size w w1) (g : w1.grownBy w2 row) : w.grownBy w2 row :=
  ⟨g.os.trans h.os, g.tape.trans h.tape, g.output.trans h.output, Nat.le_trans h.size g.size, fun i hi hr => (g.block i (Nat.lt_of_lt_of_le hi h.size) hr).trans (h.block i hi)⟩

set_option maxHeartbeats 8000000 in
set_option maxRecDepth 100000 in
theorem matches_go (base : Nat) (va : Option Addr) (vc : Nat) (qs : List CompV) (cs : List Pn.B) (pb tb mb : Nat) (hq : qs.length < 4294967281) (hc : cs.length < 4294967281) (hcs : ∀ c ∈ cs, c.length < 4294967281)
    (hps : ∀ q ∈ qs, ∀ ps, q.1 = some ps → ps.length < 4294967281) :
    ∀ n i k W, qs.length - i + (cs.length - k) < n → i ≤ qs.length → k ≤ cs.length → TabMem base va vc qs cs pb tb mb W →
      Calls Tryd.prog 60 #[.pointer (some ⟨tb, 0, none⟩), .int .i64 (i : Int), .int .i64 (k : Int)] W (MatchesOk base va vc qs cs pb tb mb i k W) := by
  intro n
  induction n with
  | zero => intro i k W hn; omega
  | succ n ih =>
    intro i k W hn hi hk hT
    have HT := Lib.hid hT
    have c0 := hT.c0
    have c1 := hT.c1
    have c2 := hT.c2
    have hlt := World.block_lt_of_cell? W _ hT.c0
    have hntb := hT.ntb
    have HIH := Lib.hid ih
    have HCS := Lib.hid hcs
    have HPS := Lib.hid hps
    clear hT ih hcs hps
    have hqz : (qs.length : Int) < 4294967281 := by omega
    have hcz : (cs.length : Int) < 4294967281 := by omega
    by_cases hie : i = qs.length
    · have HE := Lib.hid (matches_end qs cs k hk)
      subst hie
      have hiz : ((qs.length : Int) == (qs.length : Int)) = true := by simp
      clear hn hi
      go_enter Tryd.func60, Tryd.ntmps60
      go_wp2
      go_ret
      exact ⟨retb (by rw [HE.out]), HT.out, grown_refl _ _⟩
    · have hiz : ((i : Int) == (qs.length : Int)) = false := by simp; omega
      have hil : i < qs.length := by omega
      have hilz : (i : Int) < (qs.length : Int) := by omega
      have hW1 : Below W.heap.size W (W.alloc (.cells #[.int .i64 (i : Int), .int .i64 (k : Int)] 110)) := (Below.refl _ _).alloc (Nat.le_refl _) _
      have hT1 := HT.out.below hW1
      have hN := heap_alloc_new W (.cells #[.int .i64 (i : Int), .int .i64 (k : Int)] 110)
      have HB1 := Lib.hid hW1
      clear hW1
      have HT1 := Lib.hid hT1
      rcases hT1.look i k (by omega) (by omega) with HL | HL
      · clear hT1
        obtain ⟨g, hva, c3, hg0⟩ := pat_slot HT.out.pat hil
        subst hva
        have hqi := HT.out.pat.comps qs[i] (List.getElem_mem hil)
        have hdrop : (qs.map CompV.plain).drop i = qs[i].plain :: (qs.map CompV.plain).drop (i + 1) := by rw [List.drop_eq_getElem_cons (by simpa using hil)]; simp
        have HPQ := Lib.hid (HPS.out qs[i] (List.getElem_mem hil))
        clear HPS
        generalize qs[i] = q at *
        obtain ⟨qo, qv⟩ := q
        have hkz : (k : Int) ≤ (cs.length : Int) := by omega
        have k0 : (W.alloc (.cells #[.int .i64 (i : Int), .int .i64 (k : Int)] 110)).cell? ⟨W.heap.size, 0, none⟩ = some (.int .i64 (i : Int)) := by rw [cell_of_block' hN 0]; rfl
        have k1 : (W.alloc (.cells #[.int .i64 (i : Int), .int .i64 (k : Int)] 110)).cell? ⟨W.heap.size, 1, none⟩ = some (.int .i64 (k : Int)) := by rw [cell_of_block' hN 1]; rfl
        have KEY := Lib.hid fun W2 (hg : (W.alloc (.cells #[.int .i64 (i : Int), .int .i64 (k : Int)] 110)).grownBy W2 (some mb)) => show W2.cell? ⟨W.heap.size, 0, none⟩ = some (.int .i64 (i : Int)) ∧ W2.cell? ⟨W.heap.size, 1, none⟩ = some (.int .i64 (k : Int)) from by
          obtain ⟨es, hmm, _⟩ := HT.out.memo
          have := hmm.lt
          exact ⟨by rw [cell_grown hg _ (by simp) (fun e => by have := Option.some.inj e; simp at this; omega)]; exact k0, by rw [cell_grown hg _ (by simp) (fun e => by have := Option.some.inj e; simp at this; omega)]; exact k1⟩
        clear k0 k1 hN
        cases qo with
        | none =>
          simp only at hqi
          subst hqi
          have hi1 : ((i + 1 : Nat) : Int) = (i : Int) + 1 := by omega
          have hk1 : ((k + 1 : Nat) : Int) = (k : Int) + 1 := by omega
          have HA := Lib.hid fun W2 hT2 => show Calls Tryd.prog 60 #[.pointer (some ⟨tb, 0, none⟩), .int .i64 ((i : Int) + 1), .int .i64 (k : Int)] W2 (MatchesOk base (some ⟨g, 0, none⟩) vc qs cs pb tb mb (i + 1) k W2) from by
            have := HIH.out (i + 1) k W2 (by omega) (by omega) hk hT2
            rwa [hi1] at this
          have hmn : Pn.matchesP ((qs.map CompV.plain).drop i) (cs.drop k) = (Pn.matchesP ((qs.map CompV.plain).drop (i + 1)) (cs.drop k) || match cs.drop k with | [] => false | _ :: cs => Pn.matchesP ((qs.map CompV.plain).drop i) cs) := by
            rw [hdrop]; exact matches_none _ _
          have HMN := Lib.hid hmn
          clear hmn hdrop hi1
          cases hb1 : Pn.matchesP ((qs.map CompV.plain).drop (i + 1)) (cs.drop k) with
          | true =>
            have HV := Lib.hid (show Pn.matchesP ((qs.map CompV.plain).drop i) (cs.drop k) = true by rw [HMN.out, hb1]; rfl)
            have HB := Lib.hid hb1
            clear hn hb1 hk1
            have hnil := nil_items
            go_enter Tryd.func60, Tryd.ntmps60
            go_wp2_with fail
            go_quiet (fail)
            go_wp2_with fail
            refine (HA.out _ (HT1.out.below (below_drewN (Below.refl _ _) _))).mono ?_
            rintro e w2 ⟨he, hT2, hg2⟩
            rw [HB.out] at he
            subst he
            have hg2' : (W.alloc (.cells #[.int .i64 (i : Int), .int .i64 (k : Int)] 110)).grownBy w2 (some mb) := grown_then (below_drewN (Below.refl _ _) _) hg2
            have k0 := (KEY.out w2 hg2').1
            have k1 := (KEY.out w2 hg2').2
            have m2 := hT2.c2
            obtain ⟨W4, hrun, hT4, hg4⟩ := hT2.store i k (by omega) (by omega) true HV.out
            have HT2 := Lib.hid hT2
            have HG2 := Lib.hid hg2'
            have HT4 := Lib.hid hT4
            have HG4 := Lib.hid hg4
            clear hT2 hg2' hg2 hT4 hg4
            go_wp2_with fail
            go_region
            go_wp2_with fail
            go_ret
            exact ⟨retb HV.out.symm, HT4.out, grown_then HB1.out (HG2.out.trans HG4.out)⟩
          | false =>
            by_cases hkc : k < cs.length
            · have hkcz : (k : Int) < (cs.length : Int) := by omega
              have hdk : cs.drop k = cs[k] :: cs.drop (k + 1) := List.drop_eq_getElem_cons hkc
              obtain ⟨v, hv⟩ : ∃ v, Pn.matchesP ((qs.map CompV.plain).drop i) (cs.drop (k + 1)) = v := ⟨_, rfl⟩
              have HV := Lib.hid (show Pn.matchesP ((qs.map CompV.plain).drop i) (cs.drop k) = v by rw [HMN.out, hb1, hdk, ← hv]; rfl)
              have HB := Lib.hid hb1
              have HC := Lib.hid hv
              have HA2 := Lib.hid fun W2 hT2 => show Calls Tryd.prog 60 #[.pointer (some ⟨tb, 0, none⟩), .int .i64 (i : Int), .int .i64 ((k : Int) + 1)] W2 (MatchesOk base (some ⟨g, 0, none⟩) vc qs cs pb tb mb i (k + 1) W2) from by
                have := HIH.out i (k + 1) W2 (by omega) (by omega) (by omega) hT2
                rwa [hk1] at this
              clear hn hb1 hk1 hdk hv
              have hnil := nil_items
              go_enter Tryd.func60, Tryd.ntmps60
              go_wp2_with fail
              go_quiet (fail)
              go_wp2_with fail
              refine (HA.out _ (HT1.out.below (below_drewN (Below.refl _ _) _))).mono ?_
              rintro e w1 ⟨he, hT1', hg1⟩
              rw [HB.out] at he
              subst he
              have hg1' : (W.alloc (.cells #[.int .i64 (i : Int), .int .i64 (k : Int)] 110)).grownBy w1 (some mb) := grown_then (below_drewN (Below.refl _ _) _) hg1
              have m1 := hT1'.c1
              have HT1' := Lib.hid hT1'
              have HG1' := Lib.hid hg1'
              clear hT1' hg1 hg1'
              go_wp2_with fail
              refine (HA2.out _ HT1'.out).mono ?_
              rintro e w2 ⟨he, hT2, hg2⟩
              rw [HC.out] at he
              subst he
              have hg2' : (W.alloc (.cells #[.int .i64 (i : Int), .int .i64 (k : Int)] 110)).grownBy w2 (some mb) := HG1'.out.trans hg2
              have k0 := (KEY.out w2 hg2').1
              have k1 := (KEY.out w2 hg2').2
              have m2 := hT2.c2
              obtain ⟨W4, hrun, hT4, hg4⟩ := hT2.store i k (by omega) (by omega) v HV.out
              have HT2 := Lib.hid hT2
              have HG2 := Lib.hid hg2'
              have HT4 := Lib.hid hT4
              have HG4 := Lib.hid hg4
              clear hT2 hg2' hg2 hT4 hg4
              go_wp2_with fail
              go_region
              go_wp2_with fail
              go_ret
              exact ⟨retb HV.out.symm, HT4.out, grown_then HB1.out (HG2.out.trans HG4.out)⟩
            · have hkcz : ¬ (k : Int) < (cs.length : Int) := by omega
              have HV := Lib.hid (show Pn.matchesP ((qs.map CompV.plain).drop i) (cs.drop k) = false by rw [HMN.out, hb1, List.drop_of_length_le (by omega)]; rfl)
              have HB := Lib.hid hb1
              clear hn hb1 hk1
              have hnil := nil_items
              go_enter Tryd.func60, Tryd.ntmps60
              go_wp2_with fail
              go_quiet (fail)
              go_wp2_with fail
              refine (HA.out _ (HT1.out.below (below_drewN (Below.refl _ _) _))).mono ?_
              rintro e w2 ⟨he, hT2, hg2⟩
              rw [HB.out] at he
              subst he
              have hg2' : (W.alloc (.cells #[.int .i64 (i : Int), .int .i64 (k : Int)] 110)).grownBy w2 (some mb) := grown_then (below_drewN (Below.refl _ _) _) hg2
              have k0 := (KEY.out w2 hg2').1
              have k1 := (KEY.out w2 hg2').2
              have m1 := hT2.c1
              have m2 := hT2.c2
              obtain ⟨W4, hrun, hT4, hg4⟩ := hT2.store i k (by omega) (by omega) false HV.out
              have HT2 := Lib.hid hT2
              have HG2 := Lib.hid hg2'
              have HT4 := Lib.hid hT4
              have HG4 := Lib.hid hg4
              clear hT2 hg2' hg2 hT4 hg4
              go_wp2_with fail
              go_region
              go_wp2_with fail
              go_ret
              exact ⟨retb HV.out.symm, HT4.out, grown_then HB1.out (HG2.out.trans HG4.out)⟩
        | some ps =>
          simp only at hqi
          obtain ⟨hne, hitm⟩ := hqi
          obtain ⟨gi, ci, rfl⟩ := items_slice hitm hne
          have hpl := HPQ.out ps rfl
          have hi1 : ((i + 1 : Nat) : Int) = (i : Int) + 1 := by omega
          have hk1 : ((k + 1 : Nat) : Int) = (k : Int) + 1 := by omega
          by_cases hkc : k < cs.length
          · have hkcz : (k : Int) < (cs.length : Int) := by omega
            obtain ⟨cc, hcc⟩ : ∃ cc, cs[k] = cc := ⟨_, rfl⟩
            have hcl : cc.length < 4294967281 := hcc ▸ HCS.out _ (List.getElem_mem hkc)
            have hdk : cs.drop k = cc :: cs.drop (k + 1) := by rw [← hcc]; exact List.drop_eq_getElem_cons hkc
            have hmn : Pn.matchesP ((qs.map CompV.plain).drop i) (cs.drop k) = (Pn.singleP (ps.map Prod.fst) cc && Pn.matchesP ((qs.map CompV.plain).drop (i + 1)) (cs.drop (k + 1))) := by
              rw [hdrop, hdk]; rfl
            have HMN := Lib.hid hmn
            have HIT := Lib.hid hitm
            have hS0 : ∀ nn, (SMeet base g vc qs cs pb tb mb (W.alloc (.cells #[.int .i64 (i : Int), .int .i64 (k : Int)] 110)) i k gi ps.length ci cc) ((W.alloc (.cells #[.int .i64 (i : Int), .int .i64 (k : Int)] 110)).drewN nn) := fun nn => ⟨HT1.out.below (below_drewN (Below.refl _ _) nn), grown_below (below_drewN (Below.refl _ _) nn) _, by
              have hl := World.block_lt_of_cell? W _ c3
              rw [World.cell?_drewN, HB1.out.cell (p := ⟨g, i, none⟩) hl]; exact c3, by rw [HT1.out.below (below_drewN (Below.refl _ _) nn) |>.str hkc, hcc]⟩
            have HS0 := Lib.hid hS0
            have SING := Lib.hid fun x : In (SMeet base g vc qs cs pb tb mb (W.alloc (.cells #[.int .i64 (i : Int), .int .i64 (k : Int)] 110)) i k gi ps.length ci cc) => show Calls Tryd.prog 78 #[.slice (some ⟨gi, 0, none⟩) ps.length ci, .string ⟨cc.toArray⟩] x.val fun e w' => e = .returned (.bool (Pn.singleP (ps.map Prod.fst) cc)) ∧ ∃ y : In (SMeet base g vc qs cs pb tb mb (W.alloc (.cells #[.int .i64 (i : Int), .int .i64 (k : Int)] 110)) i k gi ps.length ci cc), w' = y.val from by
              obtain ⟨W2, hS⟩ := x
              have := single_any ⟨cc.toArray⟩ W2 base (some ⟨gi, 0, none⟩) ci ps (by simpa [ByteArray.size] using hcl) (by
                have hg : W.grownBy W2 (some mb) := grown_then HB1.out hS.grown
                obtain ⟨es, hmm, _⟩ := HT.out.memo
                obtain ⟨ms, c, hb, _⟩ := hmm.block
                exact ⟨HIT.out.own.kept hg (own_not_map HIT.out.own hb), fun p hp => (HIT.out.spans p hp).kept hg (own_not_map (HIT.out.spans p hp) hb)⟩) (by omega)
              refine this.mono ?_
              rintro e w' ⟨rfl, hb⟩
              have hl := World.block_lt_of_cell? W2 _ hS.item
              have hl2 := World.block_lt_of_cell? W2 _ hS.str
              exact ⟨rfl, ⟨w', hS.tab.below hb, hS.grown.trans (grown_below hb _), by rw [hb.cell (p := ⟨g, i, none⟩) hl]; exact hS.item, by rw [hb.cell (p := ⟨pb, k, none⟩) hl2]; exact hS.str⟩, rfl⟩
            have s0 := fun x : In (SMeet base g vc qs cs pb tb mb (W.alloc (.cells #[.int .i64 (i : Int), .int .i64 (k : Int)] 110)) i k gi ps.length ci cc) => x.property.tab.c0
            have s1 := fun x : In (SMeet base g vc qs cs pb tb mb (W.alloc (.cells #[.int .i64 (i : Int), .int .i64 (k : Int)] 110)) i k gi ps.length ci cc) => x.property.tab.c1
            have s3 := fun x : In (SMeet base g vc qs cs pb tb mb (W.alloc (.cells #[.int .i64 (i : Int), .int .i64 (k : Int)] 110)) i k gi ps.length ci cc) => x.property.item
            have s4 := fun x : In (SMeet base g vc qs cs pb tb mb (W.alloc (.cells #[.int .i64 (i : Int), .int .i64 (k : Int)] 110)) i k gi ps.length ci cc) => x.property.str
            clear hS0 hmn hdk hdrop hitm hne
            cases hb1 : Pn.singleP (ps.map Prod.fst) cc with
            | false =>
              have HV := Lib.hid (show Pn.matchesP ((qs.map CompV.plain).drop i) (cs.drop k) = false by rw [HMN.out, hb1]; rfl)
              rw [hb1] at SING
              clear hn hb1 hk1 hi1 hcc hkc
              have hsm := some_items
              go_enter Tryd.func60, Tryd.ntmps60
              go_wp2_with fail
              go_quiet (fail)
              go_wp2_with fail
              refine wp_region_quiet_sub (S := (SMeet base g vc qs cs pb tb mb (W.alloc (.cells #[.int .i64 (i : Int), .int .i64 (k : Int)] 110)) i k gi ps.length ci cc)) (by kernel_rfl) (by kernel_rfl) (HS0.out (nq + 1)) ?_
              intro hne
              repeat (go_big_quiet_step ((go_at_call 78; exact SING.out _)))
              refine wpQuiet_nil ?_
              intro wq hw'
              obtain ⟨⟨wq0, hwq⟩, hw''⟩ := hw'
              simp only at hw''
              subst hw''
              clear hne
              have hT2 := hwq.tab
              have hg2' := hwq.grown
              have k0 := (KEY.out wq hg2').1
              have k1 := (KEY.out wq hg2').2
              have m2 := hT2.c2
              clear s0 s1 s3 s4 hwq
              obtain ⟨W4, hrun, hT4, hg4⟩ := hT2.store i k (by omega) (by omega) false HV.out
              have HT2 := Lib.hid hT2
              have HG2 := Lib.hid hg2'
              have HT4 := Lib.hid hT4
              have HG4 := Lib.hid hg4
              clear hT2 hg2' hT4 hg4
              go_wp2_with fail
              go_region
              go_wp2_with fail
              go_ret
              exact ⟨retb HV.out.symm, HT4.out, grown_then HB1.out (HG2.out.trans HG4.out)⟩
            | true =>
              obtain ⟨v, hv⟩ : ∃ v, Pn.matchesP ((qs.map CompV.plain).drop (i + 1)) (cs.drop (k + 1)) = v := ⟨_, rfl⟩
              have HV := Lib.hid (show Pn.matchesP ((qs.map CompV.plain).drop i) (cs.drop k) = v by rw [HMN.out, hb1, hv]; rfl)
              rw [hb1] at SING
              have hgm : g ≠ mb := by
                obtain ⟨es, hmm, _⟩ := HT.out.memo
                obtain ⟨ms, c, hb, _⟩ := hmm.block
                rcases own_not_map HT.out.pat.own hb with h | h
                · simp [Value.ownBlock] at h
                · intro e; apply h; simp [Value.ownBlock, e]
              have MATC := Lib.hid fun x : In (SMeet base g vc qs cs pb tb mb (W.alloc (.cells #[.int .i64 (i : Int), .int .i64 (k : Int)] 110)) i k gi ps.length ci cc) => show Calls Tryd.prog 60 #[.pointer (some ⟨tb, 0, none⟩), .int .i64 ((i : Int) + 1), .int .i64 ((k : Int) + 1)] x.val fun e w' => e = .returned (.bool v) ∧ ∃ y : In (SMeet base g vc qs cs pb tb mb (W.alloc (.cells #[.int .i64 (i : Int), .int .i64 (k : Int)] 110)) i k gi ps.length ci cc), w' = y.val from by
                obtain ⟨W2, hS⟩ := x
                have hm := HIH.out (i + 1) (k + 1) W2 (by omega) (by omega) (by omega) hS.tab
                rw [hi1, hk1] at hm
                refine hm.mono ?_
                rintro e w' ⟨rfl, hT', hg'⟩
                have hl := World.block_lt_of_cell? W2 _ hS.item
                have hl2 := World.block_lt_of_cell? W2 _ hS.str
                exact ⟨by rw [hv], ⟨w', hT', hS.grown.trans hg', by rw [cell_grown hg' ⟨g, i, none⟩ hl (fun e => hgm (Option.some.inj e))]; exact hS.item, by rw [cell_grown hg' ⟨pb, k, none⟩ hl2 (fun e => HT.out.npb (Option.some.inj e))]; exact hS.str⟩, rfl⟩
              clear hn hb1 hk1 hi1 hcc hkc hv hgm
              have hsm := some_items
              go_enter Tryd.func60, Tryd.ntmps60
              go_wp2_with fail
              go_quiet (fail)
              go_wp2_with fail
              refine wp_region_quiet_sub (S := (SMeet base g vc qs cs pb tb mb (W.alloc (.cells #[.int .i64 (i : Int), .int .i64 (k : Int)] 110)) i k gi ps.length ci cc)) (by kernel_rfl) (by kernel_rfl) (HS0.out (nq + 1)) ?_
              intro hne
              repeat (go_big_quiet_step (first | (go_at_call 78; exact SING.out _) | (go_at_call 60; exact MATC.out _)))
              refine wpQuiet_nil ?_
              intro wq hw'
              obtain ⟨⟨wq0, hwq⟩, hw''⟩ := hw'
              simp only at hw''
              subst hw''
              clear hne
              have hT2 := hwq.tab
              have hg2' := hwq.grown
              have k0 := (KEY.out wq hg2').1
              have k1 := (KEY.out wq hg2').2
              have m2 := hT2.c2
              clear s0 s1 s3 s4 hwq
              obtain ⟨W4, hrun, hT4, hg4⟩ := hT2.store i k (by omega) (by omega) v HV.out
              have HT2 := Lib.hid hT2
              have HG2 := Lib.hid hg2'
              have HT4 := Lib.hid hT4
              have HG4 := Lib.hid hg4
              clear hT2 hg2' hT4 hg4
              go_wp2_with fail
              go_region
              go_wp2_with fail
              go_ret
              exact ⟨retb HV.out.symm, HT4.out, grown_then HB1.out (HG2.out.trans HG4.out)⟩
          · have hkcz : ¬ (k : Int) < (cs.length : Int) := by omega
            have HV := Lib.hid (show Pn.matchesP ((qs.map CompV.plain).drop i) (cs.drop k) = false by rw [hdrop, show cs.drop k = [] from List.drop_of_length_le (by omega)]; rfl)
            have hS0 : ∀ nn, (SMeet0 base g vc qs cs pb tb mb (W.alloc (.cells #[.int .i64 (i : Int), .int .i64 (k : Int)] 110)) i gi ps.length ci) ((W.alloc (.cells #[.int .i64 (i : Int), .int .i64 (k : Int)] 110)).drewN nn) := fun nn => ⟨HT1.out.below (below_drewN (Below.refl _ _) nn), grown_below (below_drewN (Below.refl _ _) nn) _, by
              have hl := World.block_lt_of_cell? W _ c3
              rw [World.cell?_drewN, HB1.out.cell (p := ⟨g, i, none⟩) hl]; exact c3⟩
            have HS0 := Lib.hid hS0
            have s0 := fun x : In (SMeet0 base g vc qs cs pb tb mb (W.alloc (.cells #[.int .i64 (i : Int), .int .i64 (k : Int)] 110)) i gi ps.length ci) => x.property.tab.c0
            have s1 := fun x : In (SMeet0 base g vc qs cs pb tb mb (W.alloc (.cells #[.int .i64 (i : Int), .int .i64 (k : Int)] 110)) i gi ps.length ci) => x.property.tab.c1
            have s3 := fun x : In (SMeet0 base g vc qs cs pb tb mb (W.alloc (.cells #[.int .i64 (i : Int), .int .i64 (k : Int)] 110)) i gi ps.length ci) => x.property.item
            clear hS0 hdrop hitm hne hn hk1 hi1
            have hsm := some_items
            go_enter Tryd.func60, Tryd.ntmps60
            go_wp2_with fail
            go_quiet (fail)
            go_wp2_with fail
            refine wp_region_quiet_sub (S := (SMeet0 base g vc qs cs pb tb mb (W.alloc (.cells #[.int .i64 (i : Int), .int .i64 (k : Int)] 110)) i gi ps.length ci)) (by kernel_rfl) (by kernel_rfl) (HS0.out (nq + 1)) ?_
            intro hne
            repeat (go_big_quiet_step (fail))
            refine wpQuiet_nil ?_
            intro wq hw'
            obtain ⟨⟨wq0, hwq⟩, hw''⟩ := hw'
            simp only at hw''
            subst hw''
            clear hne
            have hT2 := hwq.tab
            have hg2' := hwq.grown
            have k0 := (KEY.out wq hg2').1
            have k1 := (KEY.out wq hg2').2
            have m2 := hT2.c2
            clear s0 s1 s3 hwq
            obtain ⟨W4, hrun, hT4, hg4⟩ := hT2.store i k (by omega) (by omega) false HV.out
            have HT2 := Lib.hid hT2
            have HG2 := Lib.hid hg2'
            have HT4 := Lib.hid hT4
            have HG4 := Lib.hid hg4
            clear hT2 hg2' hT4 hg4
            go_wp2_with fail
            go_region
            go_wp2_with fail
            go_ret
            exact ⟨retb HV.out.symm, HT4.out, grown_then HB1.out (HG2.out.trans HG4.out)⟩
      · clear hT1
        generalize hv : Pn.matchesP ((qs.map CompV.plain).drop i) (cs.drop k) = v at *
        have HV := Lib.hid hv
        clear hv hn
        go_enter Tryd.func60, Tryd.ntmps60
        go_wp2_with fail
        go_quiet (fail)
        go_wp2_with fail
        go_ret
        exact ⟨retb HV.out.symm, HT1.out.below (below_drewN (Below.refl _ _) _), grown_below (below_drewN HB1.out _) _⟩

end Go.Proofs.YtdnbmkfmckppaaaDoor
