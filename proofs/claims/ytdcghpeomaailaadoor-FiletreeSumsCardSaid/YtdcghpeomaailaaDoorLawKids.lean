/-
  Plain laws for (*Tree).List: the entries below a directory are those of its children, in order.
-/
import Derived.Test.YtdcghpeomaailaaDoorFtTree
namespace Go.Proofs.YtdcghpeomaailaaDoor.Ft
open Pn (B cmpP validP withinP parentP)

/-- Whether an entry lies right below a directory. -/
def kidB (dir : B) (e : Ent) : Bool := e.path != dir && parentP e.path == dir
def kidsOf (t : List Ent) (dir : B) : List Ent := (under t dir).filter (kidB dir)
def listE (t : List Ent) (dir : B) : Int := if dir ≠ [] ∧ validP dir = false then 1 else belowE t dir

theorem kid_iff {t : List Ent} (h : Tree t) {dir : B} (hd : belowE t dir = 0) (k : Ent) : k ∈ kidsOf t dir ↔ k ∈ t ∧ parentP k.path = dir := by
  have hun : under t dir = t.filter fun e => withinP dir e.path := by
    refine under_eq ?_
    rcases below_zero.1 hd with h1 | ⟨x, h1, _⟩
    · exact .inr h1
    · exact .inl (by rw [h1]; simp)
  unfold kidsOf kidB
  rw [hun, List.mem_filter, List.mem_filter]
  simp only [Bool.and_eq_true, bne_iff_ne, beq_iff_eq]
  constructor
  · rintro ⟨⟨h1, _⟩, _, h3⟩
    exact ⟨h1, h3⟩
  · rintro ⟨h1, h2⟩
    have hv := path_valid (h.good k h1)
    have hs := Pn.parent_short (Pn.ne_of_valid hv)
    refine ⟨⟨h1, ?_⟩, fun e => by rw [h2, ← e] at hs; omega, h2⟩
    by_cases h0 : dir = []
    · subst h0; rw [Pn.within_root]; exact hv
    · have := Pn.within_of_parent hv (by rw [h2]; exact h0)
      rwa [h2] at this

/-- Every entry below a directory lies within one of its children. -/
theorem kid_of {t : List Ent} (h : Tree t) {dir : B} : ∀ (n : Nat) (x : Ent), x.path.length ≤ n → x ∈ t → withinP dir x.path = true → x.path ≠ dir → ∃ k ∈ t, parentP k.path = dir ∧ withinP k.path x.path = true
  | 0, x, hn, hx, _, _ => absurd (List.length_eq_zero_iff.1 (by omega)) (Pn.ne_of_valid (path_valid (h.good x hx)))
  | n + 1, x, hn, hx, hw, hne => by
    have hv := path_valid (h.good x hx)
    by_cases hp : parentP x.path = dir
    · exact ⟨x, hx, hp, Pn.within_refl hv⟩
    · have hs := Pn.parent_short (Pn.ne_of_valid hv)
      have hne0 : parentP x.path ≠ [] := by
        intro h0
        by_cases hd : dir = []
        · exact hp (by rw [h0, hd])
        · have h1 := Pn.within_up hd hw hne
          rw [h0] at h1
          exact absurd (Pn.within_valid h1) (by decide)
      rcases below_zero.1 (h.up x hx) with h0 | ⟨y, hy, _⟩
      · exact absurd h0 hne0
      · obtain ⟨hyt, hyp⟩ := find_some hy
        have hyv := path_valid (h.good y hyt)
        have hyw : withinP dir y.path = true := by
          rw [hyp]
          by_cases hd : dir = []
          · subst hd; rw [Pn.within_root, ← hyp]; exact hyv
          · exact Pn.within_up hd hw hne
        obtain ⟨k, hk, hkp, hkw⟩ := kid_of h n y (by rw [hyp]; omega) hyt hyw (by rw [hyp]; exact hp)
        refine ⟨k, hk, hkp, Pn.within_trans hkw ?_⟩
        rw [hyp]
        exact Pn.within_of_parent hv hne0

/-- What lies within an elder child comes ahead of what lies within a younger one. -/
theorem kids_apart {a b x y : B} (hav : validP a = true) (hb : validP b = true) (hp : parentP a = parentP b) (hl : cmpP a b < 0) (hx : withinP a x = true) (hy : withinP b y = true) : cmpP x y < 0 := by
  have hane := Pn.ne_of_valid hav
  have hbn := Pn.ne_of_valid hb
  refine Classical.byContradiction fun hn => ?_
  have hyx : cmpP y x ≤ 0 := by rw [cmp_flip]; omega
  have hby := Pn.within_le b y hy hbn
  have hbx := Pn.cmp_trans b y x hby hyx
  have hab : withinP a b = true := Pn.within_mid a a b x hb (by omega) hbx (Pn.within_refl hav) hx
  have hne : b ≠ a := fun e => by rw [e] at hl; have := (Pn.cmp_eq a a).2 rfl; omega
  have h1 := Pn.within_len (Pn.within_up hane hab hne)
  rw [← hp] at h1
  have h2 := Pn.parent_short hane
  omega

theorem flat_sorted {t : List Ent} (h : Tree t) {dir : B} : ∀ (l : List Ent), SortedT l → (∀ k ∈ l, k ∈ t ∧ parentP k.path = dir) → SortedT (l.flatMap fun k => under t k.path)
  | [], _, _ => List.Pairwise.nil
  | k :: l, hs, hk => by
    obtain ⟨h1, h2⟩ := List.pairwise_cons.1 hs
    rw [List.flatMap_cons]
    unfold SortedT
    rw [List.pairwise_append]
    refine ⟨under_sorted h.sorted _, flat_sorted h l h2 (fun x hx => hk x (List.mem_cons_of_mem _ hx)), fun x hx y hy => ?_⟩
    obtain ⟨k2, hk2, hy2⟩ := List.mem_flatMap.1 hy
    have hkk := hk k (by simp)
    have hkk2 := hk k2 (List.mem_cons_of_mem _ hk2)
    exact kids_apart (path_valid (h.good k hkk.1)) (path_valid (h.good k2 hkk2.1)) (by rw [hkk.2, hkk2.2]) (h1 k2 hk2) (under_sub hx).2 (under_sub hy2).2

/-- A directory's entries: itself, then those of its children. -/
theorem under_parts {t : List Ent} (h : Tree t) {dir : B} (hd : belowE t dir = 0) : under t dir = (find t dir).toList ++ (kidsOf t dir).flatMap fun k => under t k.path := by
  have hun : under t dir = t.filter fun e => withinP dir e.path := by
    refine under_eq ?_
    rcases below_zero.1 hd with h1 | ⟨x, h1, _⟩
    · exact .inr h1
    · exact .inl (by rw [h1]; simp)
  have hks : ∀ k ∈ kidsOf t dir, k ∈ t ∧ parentP k.path = dir := fun k hk => (kid_iff h hd k).1 hk
  have hks' : SortedT (kidsOf t dir) := filter_sorted (under_sorted h.sorted _) _
  have hsub : ∀ k ∈ kidsOf t dir, ∀ x, x ∈ under t k.path ↔ x ∈ t ∧ withinP k.path x.path = true := fun k hk x => by
    have hf : find t k.path ≠ none := by rw [find_of h.sorted (hks k hk).1]; simp
    rw [under_eq (.inl hf), List.mem_filter]
  have hkw : ∀ k ∈ kidsOf t dir, withinP dir k.path = true ∧ k.path ≠ dir := fun k hk => by
    have h1 := (List.mem_filter.1 hk).1
    have h2 := (List.mem_filter.1 hk).2
    unfold kidB at h2
    simp only [Bool.and_eq_true, bne_iff_ne] at h2
    exact ⟨(under_sub h1).2, h2.1⟩
  refine sorted_ext (under_sorted h.sorted _) ?_ fun x => ?_
  · unfold SortedT
    rw [List.pairwise_append]
    refine ⟨?_, flat_sorted h _ hks' hks, fun x hx y hy => ?_⟩
    · cases find t dir <;> simp
    · obtain ⟨k, hk, hy⟩ := List.mem_flatMap.1 hy
      obtain ⟨_, hy2⟩ := (hsub k hk y).1 hy
      obtain ⟨hxt, hxp⟩ := find_some (show find t dir = some x by simpa using hx)
      have hdn : dir ≠ [] := by rw [← hxp]; exact Pn.ne_of_valid (path_valid (h.good x hxt))
      have hw := Pn.within_trans (hkw k hk).1 hy2
      rw [hxp]
      refine Pn.cmp_within hw hdn fun e => (hkw k hk).2 ?_
      rw [e] at hy2
      exact (Pn.within_anti (hkw k hk).1 hy2).symm
  · rw [List.mem_append, List.mem_flatMap, hun, List.mem_filter]
    constructor
    · rintro ⟨h1, h2⟩
      by_cases hp : x.path = dir
      · left
        have := find_of h.sorted h1
        rw [hp] at this
        rw [this]; simp
      · right
        obtain ⟨k, hk, hkp, hkx⟩ := kid_of h _ x (Nat.le_refl _) h1 h2 hp
        have hkm := (kid_iff h hd k).2 ⟨hk, hkp⟩
        exact ⟨k, hkm, (hsub k hkm x).2 ⟨h1, hkx⟩⟩
    · rintro (hx | ⟨k, hk, hx⟩)
      · obtain ⟨hxt, hxp⟩ := find_some (show find t dir = some x by simpa using hx)
        refine ⟨hxt, ?_⟩
        rw [← hxp]
        exact Pn.within_refl (path_valid (h.good x hxt))
      · obtain ⟨h1, h2⟩ := (hsub k hk x).1 hx
        exact ⟨h1, Pn.within_trans (hkw k hk).1 h2⟩

/-- The four numbers. -/
def size4 (l : List Ent) : List Int := [(files l : Int), dirs l, links l, bytes l]

theorem files_app (a b : List Ent) : files (a ++ b) = files a + files b := by simp [files]
theorem dirs_app (a b : List Ent) : dirs (a ++ b) = dirs a + dirs b := by simp [dirs]
theorem links_app (a b : List Ent) : links (a ++ b) = links a + links b := by simp [links]
theorem bytes_app (a b : List Ent) : bytes (a ++ b) = bytes a + bytes b := by simp [bytes]

/-- The directory itself. -/
theorem self_size {t : List Ent} {dir : B} (hd : belowE t dir = 0) (h0 : find t [] = none) : files (find t dir).toList = 0 ∧ dirs (find t dir).toList = (if dir = [] then 0 else 1) ∧ links (find t dir).toList = 0 ∧ bytes (find t dir).toList = 0 := by
  rcases below_zero.1 hd with h1 | ⟨x, h1, h2⟩
  · subst h1
    rw [h0]
    simp [files, dirs, links, bytes]
  · have hd0 : dir ≠ [] := by rintro rfl; rw [h0] at h1; cases h1
    rw [h1, if_neg hd0]
    simp [files, dirs, links, bytes, h2]

/-- The entries of the first children. -/
def flat (t ks : List Ent) (i : Nat) : List Ent := (ks.take i).flatMap fun k => under t k.path

theorem flat_next (t ks : List Ent) {i : Nat} (h : i < ks.length) : flat t ks (i + 1) = flat t ks i ++ under t ks[i].path := by
  unfold flat
  rw [List.take_succ_eq_append_getElem h, List.flatMap_append]
  simp

theorem flat_all (t ks : List Ent) {i : Nat} (h : ks.length ≤ i) : flat t ks i = ks.flatMap fun k => under t k.path := by
  unfold flat
  rw [List.take_of_length_le h]

theorem flat_split (t ks : List Ent) (i : Nat) : (ks.flatMap fun k => under t k.path) = flat t ks i ++ (ks.drop i).flatMap fun k => under t k.path := by
  unfold flat
  rw [← List.flatMap_append, List.take_append_drop]

/-- No sum runs over. -/
theorem kids_bound {t : List Ent} (h : Tree t) {dir : B} (hd : belowE t dir = 0) (hf : t.length ≤ 4096) (hb : ∀ e ∈ t, e.data.length ≤ 1048576) (i : Nat) :
    files (flat t (kidsOf t dir) i) ≤ 4096 ∧ dirs (flat t (kidsOf t dir) i) ≤ 4096 ∧ links (flat t (kidsOf t dir) i) ≤ 4096 ∧ bytes (flat t (kidsOf t dir) i) ≤ 4294967296 := by
  have hl : (under t dir).length ≤ 4096 := by
    refine Nat.le_trans ?_ hf
    unfold under; split
    · simp
    · exact List.length_filter_le _ _
  have h1 := under_parts h hd
  rw [flat_split t _ i] at h1
  have hle : ∀ (f : List Ent → Nat), (∀ a b, f (a ++ b) = f a + f b) → f (flat t (kidsOf t dir) i) ≤ f (under t dir) := fun f hf => by
    rw [h1, hf, hf]; omega
  refine ⟨Nat.le_trans (hle files files_app) (Nat.le_trans (List.length_filter_le _ _) hl), Nat.le_trans (hle dirs dirs_app) (Nat.le_trans (List.length_filter_le _ _) hl), Nat.le_trans (hle links links_app) (Nat.le_trans (List.length_filter_le _ _) hl), Nat.le_trans (hle bytes bytes_app) ?_⟩
  unfold bytes
  have : ∀ (l : List Nat), (∀ x ∈ l, x ≤ 1048576) → l.sum ≤ l.length * 1048576 := by
    intro l
    induction l with
    | nil => simp
    | cons a l ih =>
      intro h
      have h1 := h a (by simp)
      have h2 := ih fun x hx => h x (List.mem_cons_of_mem _ hx)
      simp only [List.sum_cons, List.length_cons]
      rw [Nat.add_mul]; omega
  refine Nat.le_trans (this _ fun x hx => ?_) ?_
  · obtain ⟨e, he, rfl⟩ := List.mem_map.1 hx
    exact hb e (under_sub (List.mem_filter.1 he).1).1
  · rw [List.length_map]
    have := List.length_filter_le (fun e : Ent => e.kind == 1) (under t dir)
    omega

end Go.Proofs.YtdcghpeomaailaaDoor.Ft
