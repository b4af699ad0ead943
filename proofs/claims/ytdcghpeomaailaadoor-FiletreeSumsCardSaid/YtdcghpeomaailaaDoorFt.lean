/-
  The plain functions of layer 20 (trees of files): a tree is the list of its entries, in the order of their paths.
-/
import Derived.Test.YtdcghpeomaailaaDoorLawOrder
namespace Go.Proofs.YtdcghpeomaailaaDoor.Ft
open Pn (B cmpP validP withinP parentP)

/-- An entry. -/
structure Ent where
  path : B
  kind : Int
  mode : Int
  time : Int
  data : B
  link : B
  deriving DecidableEq, Inhabited

def Ent.valid (e : Ent) : Bool := validP e.path && decide (0 ≤ e.mode) && decide (e.mode ≤ 511) && decide (0 ≤ e.time) &&
  (if e.kind = 1 then decide (e.data.length ≤ 1048576) && e.link.isEmpty
   else if e.kind = 2 then e.data.isEmpty && e.link.isEmpty
   else if e.kind = 3 then e.data.isEmpty && !e.link.isEmpty && decide (e.link.length ≤ 512) && !e.link.contains 0 else false)

def find (t : List Ent) (p : B) : Option Ent := t.find? (fun e => e.path == p)

/-- The error of a path as that of a directory. -/
def belowE (t : List Ent) (dir : B) : Int := if dir = [] then 0 else match find t dir with
  | none => 4
  | some d => if d.kind = 2 then 0 else 13

/-- An entry added or replaced. -/
def insE (e : Ent) : List Ent → List Ent
  | [] => [e]
  | x :: t => if cmpP e.path x.path < 0 then e :: x :: t else if e.path = x.path then e :: t else x :: insE e t

def put (t : List Ent) (e : Ent) : List Ent × Int :=
  if e.valid = false then (t, 1) else
  if belowE t (parentP e.path) ≠ 0 then (t, belowE t (parentP e.path)) else
  match find t e.path with
  | some old => if old.kind ≠ e.kind then (t, 13) else (insE e t, 0)
  | none => if t.length = 4096 then (t, 7) else (insE e t, 0)

/-- The entries at and below a path. -/
def under (t : List Ent) (p : B) : List Ent := if find t p = none ∧ p ≠ [] then [] else t.filter (fun e => withinP p e.path)

def remove (t : List Ent) (p : B) (below : Bool) : List Ent × Int :=
  if validP p = false then (t, 1) else
  if (under t p).length = 0 then (t, 4) else
  if 1 < (under t p).length ∧ below = false then (t, 6) else (t.filter (fun e => !withinP p e.path), 0)

def movable (t : List Ent) (a b : B) : Int :=
  if validP a = false ∨ validP b = false then 1 else
  if find t a = none then 4 else
  if withinP a b = true then 13 else
  if find t b ≠ none then 5 else belowE t (parentP b)

/-- An entry's path with another beginning. -/
def Ent.shift (e : Ent) (a b : B) : Ent := { e with path := b ++ e.path.drop a.length }

def move (t : List Ent) (a b : B) : List Ent × Int :=
  if movable t a b ≠ 0 then (t, movable t a b) else
  if ((under t a).all fun e => validP (e.shift a b).path) = false then (t, 2) else
  (((under t a).map fun e => e.shift a b).foldl (fun t e => insE e t) (t.filter fun e => !withinP a e.path), 0)

/-- Whether an entry does not come behind the last one. -/
def late (acc : List Ent) (e : Ent) : Bool := match acc.getLast? with
  | none => false
  | some x => decide (0 ≤ cmpP x.path e.path)

/-- Adding entries in order. -/
def fillGo : List Ent → List Ent → List Ent × Int
  | acc, [] => (acc, 0)
  | acc, e :: r =>
    if (!e.valid || late acc e) = true then (acc, 1) else
    if belowE acc (parentP e.path) ≠ 0 then (acc, belowE acc (parentP e.path)) else fillGo (acc ++ [e]) r
def check (l : List Ent) : Int := if 4096 < l.length then 2 else (fillGo [] l).2

def list (t : List Ent) (dir : B) : List Ent × Int :=
  if dir ≠ [] ∧ validP dir = false then ([], 1) else
  if belowE t dir ≠ 0 then ([], belowE t dir) else ((under t dir).filter fun e => e.path != dir && parentP e.path == dir, 0)

def files (l : List Ent) : Nat := (l.filter fun e => e.kind == 1).length
def dirs (l : List Ent) : Nat := (l.filter fun e => e.kind == 2).length
def links (l : List Ent) : Nat := (l.filter fun e => e.kind != 1 && e.kind != 2).length
def bytes (l : List Ent) : Nat := ((l.filter fun e => e.kind == 1).map fun e => e.data.length).sum

/-! ### order -/
def SortedT (t : List Ent) : Prop := t.Pairwise (fun a b => cmpP a.path b.path < 0)

theorem cmp_lt_ne {a b : B} (h : cmpP a b < 0) : a ≠ b := by
  rintro rfl
  have := (Pn.cmp_eq a a).2 rfl
  omega

theorem cmp_lt_trans {a b c : B} (h1 : cmpP a b < 0) (h2 : cmpP b c < 0) : cmpP a c < 0 := by
  have h3 := Pn.cmp_trans a b c (by omega) (by omega)
  have h4 := Pn.cmp_both a b c (by omega) (by omega)
  rcases Pn.cmp_cases a c with h | h | h
  · omega
  · have := h4 h; omega
  · omega

theorem cmp_flip {a b : B} : cmpP b a = -cmpP a b := Pn.cmp_neg a b

theorem SortedT.ne {t : List Ent} (h : SortedT t) : t.Pairwise (fun a b => a.path ≠ b.path) := h.imp fun h1 => cmp_lt_ne h1

theorem SortedT.one {t : List Ent} (h : SortedT t) {x y : Ent} (hx : x ∈ t) (hy : y ∈ t) (e : x.path = y.path) : x = y := by
  induction t with
  | nil => cases hx
  | cons a t ih =>
    obtain ⟨h1, h2⟩ := List.pairwise_cons.1 h
    rcases List.mem_cons.1 hx with rfl | hx' <;> rcases List.mem_cons.1 hy with rfl | hy'
    · rfl
    · exact absurd e (cmp_lt_ne (h1 y hy'))
    · exact absurd e.symm (cmp_lt_ne (h1 x hx'))
    · exact ih h2 hx' hy'

theorem find_some {t : List Ent} {p : B} {e : Ent} (h : find t p = some e) : e ∈ t ∧ e.path = p := by
  unfold find at h
  exact ⟨List.mem_of_find?_eq_some h, by simpa using List.find?_some h⟩

theorem find_none {t : List Ent} {p : B} (h : find t p = none) : ∀ e ∈ t, e.path ≠ p := by
  unfold find at h
  rw [List.find?_eq_none] at h
  intro e he
  have := h e he
  simpa using this

theorem find_of {t : List Ent} (hs : SortedT t) {e : Ent} (he : e ∈ t) : find t e.path = some e := by
  cases h : find t e.path with
  | none => exact absurd rfl (find_none h e he)
  | some x =>
    obtain ⟨h1, h2⟩ := find_some h
    rw [hs.one h1 he h2]

theorem mem_insE {e : Ent} : ∀ {t : List Ent}, SortedT t → ∀ x, x ∈ insE e t ↔ x = e ∨ (x ∈ t ∧ x.path ≠ e.path)
  | [], _, x => by simp [insE]
  | y :: t, h, x => by
    obtain ⟨h1, h2⟩ := List.pairwise_cons.1 h
    rw [insE]
    split
    · rename_i hlt
      have hne : ∀ z ∈ y :: t, z.path ≠ e.path := by
        intro z hz
        rcases List.mem_cons.1 hz with rfl | hz
        · exact fun e1 => cmp_lt_ne hlt e1.symm
        · exact fun e1 => cmp_lt_ne (cmp_lt_trans hlt (h1 z hz)) e1.symm
      rw [List.mem_cons]
      constructor
      · rintro (hx | hx)
        · exact .inl hx
        · exact .inr ⟨hx, hne x hx⟩
      · rintro (hx | hx)
        · exact .inl hx
        · exact .inr hx.1
    · split
      · rename_i heq
        have hne : ∀ z ∈ t, z.path ≠ e.path := by
          intro z hz e1
          exact cmp_lt_ne (h1 z hz) (by rw [e1, heq])
        rw [List.mem_cons, List.mem_cons]
        constructor
        · rintro (hx | hx)
          · exact .inl hx
          · exact .inr ⟨.inr hx, hne x hx⟩
        · rintro (hx | ⟨hx | hx, h3⟩)
          · exact .inl hx
          · subst hx; exact absurd heq.symm h3
          · exact .inr hx
      · rename_i hne
        rw [List.mem_cons, List.mem_cons, mem_insE h2 x]
        constructor
        · rintro (hx | hx | hx)
          · subst hx; exact .inr ⟨.inl rfl, fun e1 => hne e1.symm⟩
          · exact .inl hx
          · exact .inr ⟨.inr hx.1, hx.2⟩
        · rintro (hx | ⟨hx | hx, h3⟩)
          · exact .inr (.inl hx)
          · exact .inl hx
          · exact .inr (.inr ⟨hx, h3⟩)

theorem insE_sorted {e : Ent} : ∀ {t : List Ent}, SortedT t → SortedT (insE e t)
  | [], _ => by unfold SortedT; simp [insE]
  | y :: t, h => by
    obtain ⟨h1, h2⟩ := List.pairwise_cons.1 h
    rw [insE]
    split
    · rename_i hlt
      refine List.pairwise_cons.2 ⟨fun z hz => ?_, h⟩
      rcases List.mem_cons.1 hz with rfl | hz
      · exact hlt
      · exact cmp_lt_trans hlt (h1 z hz)
    · split
      · rename_i heq
        refine List.pairwise_cons.2 ⟨fun z hz => ?_, h2⟩
        rw [heq]; exact h1 z hz
      · rename_i hlt hne
        refine List.pairwise_cons.2 ⟨fun z hz => ?_, insE_sorted h2⟩
        rcases (mem_insE h2 z).1 hz with rfl | hz
        · have h3 : cmpP y.path z.path = -cmpP z.path y.path := Pn.cmp_neg _ _
          have h4 : cmpP z.path y.path ≠ 0 := fun h => hne ((Pn.cmp_eq _ _).1 h)
          omega
        · exact h1 z hz.1

theorem filter_sorted {t : List Ent} (h : SortedT t) (p : Ent → Bool) : SortedT (t.filter p) := List.Pairwise.filter p h

/-- Two trees in order with the same entries are one. -/
theorem sorted_ext {t u : List Ent} (ht : SortedT t) (hu : SortedT u) (h : ∀ x, x ∈ t ↔ x ∈ u) : t = u := by
  induction t generalizing u with
  | nil =>
    cases u with
    | nil => rfl
    | cons y u => exact absurd ((h y).2 (by simp)) (by simp)
  | cons a t ih =>
    cases u with
    | nil => exact absurd ((h a).1 (by simp)) (by simp)
    | cons b u =>
      obtain ⟨h1, h2⟩ := List.pairwise_cons.1 ht
      obtain ⟨h3, h4⟩ := List.pairwise_cons.1 hu
      have hab : a = b := by
        rcases List.mem_cons.1 ((h a).1 (by simp)) with e | ha
        · exact e
        · rcases List.mem_cons.1 ((h b).2 (by simp)) with e | hb
          · exact e.symm
          · have e1 := h3 a ha
            have e2 := h1 b hb
            rw [cmp_flip] at e1
            omega
      subst hab
      rw [ih h2 h4 fun x => ?_]
      constructor
      · intro hx
        rcases List.mem_cons.1 ((h x).1 (List.mem_cons_of_mem _ hx)) with rfl | hx2
        · exact absurd rfl (cmp_lt_ne (h1 x hx))
        · exact hx2
      · intro hx
        rcases List.mem_cons.1 ((h x).2 (List.mem_cons_of_mem _ hx)) with rfl | hx2
        · exact absurd rfl (cmp_lt_ne (h3 x hx))
        · exact hx2

theorem sorted_nodup {t : List Ent} (h : SortedT t) : t.Nodup := h.ne.imp fun hne e => hne (by rw [e])

end Go.Proofs.YtdcghpeomaailaaDoor.Ft
