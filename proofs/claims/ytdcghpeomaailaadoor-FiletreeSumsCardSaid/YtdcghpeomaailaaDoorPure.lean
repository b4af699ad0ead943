/-
  The plain functions of layer 18 (paths, their order, patterns, ignore rules), on lists of bytes: no Go, no memory.
-/
import Derived.Lib.ValidLaws
import Derived.Lib.SplitLaws
namespace Go.Proofs.YtdcghpeomaailaaDoor.Pn

/-- A text as its bytes. -/
abbrev B := List UInt8

/-- Cut at every byte c. -/
def splitS (c : UInt8) : B → List B
  | [] => [[]]
  | b :: t => if b = c then [] :: splitS c t else
    match splitS c t with
    | [] => [[b]]
    | h :: r => (b :: h) :: r

/-- Parts with one byte c between them. -/
def joinS (c : UInt8) : List B → B
  | [] => []
  | [p] => p
  | p :: q :: r => p ++ c :: joinS c (q :: r)

/-- No byte below 32, and valid UTF-8. -/
def cleanP (s : B) : Bool := s.all (fun b => decide (32 ≤ b.toNat)) && Lib.validD s

def componentP (s : B) : Bool := !s.isEmpty && decide (s.length ≤ 64) && cleanP s && !s.contains 47 && !(s == [46]) && !(s == [46, 46])

def validP (s : B) : Bool := decide (s.length ≤ 512) && decide ((splitS 47 s).length ≤ 16) && (splitS 47 s).all componentP

/-- All but the last part, joined. -/
def parentP (s : B) : B := joinS 47 (splitS 47 s).dropLast

def withinP (dir path : B) : Bool := validP path && (dir.isEmpty || validP dir) && (dir.isEmpty || path == dir || (dir ++ [47]).isPrefixOf path)

def rankP (b : UInt8) : Int := if b = 47 then -1 else b.toNat

def cmpP : B → B → Int
  | [], [] => 0
  | [], _ :: _ => -1
  | _ :: _, [] => 1
  | x :: a, y :: b => if rankP x < rankP y then -1 else if rankP y < rankP x then 1 else cmpP a b

/-- The parts that Clean keeps: a stack, the top first. None: a '..' without a part before it. -/
def cleanStep : Option (List B) → B → Option (List B)
  | none, _ => none
  | some st, p => if p = [] ∨ p = [46] then some st else if p = [46, 46] then (match st with | [] => none | _ :: r => some r) else some (p :: st)
def cleanParts (s : B) : Option (List B) := ((splitS 47 s).foldl cleanStep (some [])).map List.reverse
def cleanPath (s : B) : Option B := match cleanParts s with
  | none => none
  | some ps => if validP (joinS 47 ps) then some (joinS 47 ps) else none

/-- An item of a pattern's component. -/
structure Item where
  star : Bool
  neg : Bool
  spans : List (Nat × Nat)
  deriving DecidableEq, Inhabited

def admitsP (x : Item) (r : Nat) : Bool := (x.spans.any fun s => decide (s.1 ≤ r) && decide (r ≤ s.2)) != x.neg

/-- The runes of a text (a byte that opens no valid encoding is U+FFFD). -/
def runesGo : Nat → B → List Nat
  | 0, _ => []
  | n + 1, l => if l = [] then [] else (Lib.decodeL l).1 :: runesGo n (l.drop (Lib.decodeL l).2)
def runesP (l : B) : List Nat := runesGo l.length l

def elementP : List Nat → Option (Nat × List Nat)
  | [] => none
  | r :: t => if r = 92 then (match t with | [] => none | x :: u => some (x, u)) else if r = 93 ∨ r = 94 ∨ r = 45 then none else some (r, t)

/-- One element or range of a class. -/
def spanP (l : List Nat) : Option ((Nat × Nat) × List Nat) :=
  match elementP l with
  | none => none
  | some (lo, t) =>
    if t.head? = some 45 then
      match elementP t.tail with
      | none => none
      | some (hi, u) => if hi < lo then none else some ((lo, hi), u)
    else some ((lo, lo), t)

theorem elementP_lt {l : List Nat} {x u} (h : elementP l = some (x, u)) : u.length < l.length := by
  unfold elementP at h
  split at h
  · cases h
  · split at h
    · split at h
      · cases h
      · cases h; simp; omega
    · split at h
      · cases h
      · cases h; simp

theorem spanP_lt {l : List Nat} {x u} (h : spanP l = some (x, u)) : u.length < l.length := by
  unfold spanP at h
  split at h
  · cases h
  · rename_i lo t e
    have h1 := elementP_lt e
    split at h
    · split at h
      · cases h
      · rename_i hi v e2
        have h2 := elementP_lt e2
        split at h
        · cases h
        · cases h; simp at h2; omega
    · cases h; exact h1

/-- The rest of a class, with what has been read: the spans, and what stands behind the closing bracket. -/
def classGo : Nat → List (Nat × Nat) → List Nat → Option (List (Nat × Nat) × List Nat)
  | 0, _, _ => none
  | n + 1, acc, l =>
    if !acc.isEmpty && l.head? == some 93 then some (acc, l.tail) else
      match spanP l with
      | none => none
      | some (sp, u) => classGo n (acc ++ [sp]) u
def classP (acc : List (Nat × Nat)) (l : List Nat) : Option (List (Nat × Nat) × List Nat) := classGo (l.length + 1) acc l

def classTop (l : List Nat) : Option (Item × List Nat) :=
  if l.head? = some 94 then (classP [] l.tail).map fun r => (⟨false, true, r.1⟩, r.2) else (classP [] l).map fun r => (⟨false, false, r.1⟩, r.2)

theorem classGo_lt : ∀ (n : Nat) (acc : List (Nat × Nat)) (l : List Nat) {x}, classGo n acc l = some x → x.2.length < l.length := by
  intro n
  induction n with
  | zero => intro acc l x h; cases h
  | succ n ih =>
    intro acc l x h
    rw [classGo] at h
    split at h
    · rename_i hc
      cases h
      cases l with
      | nil => simp at hc
      | cons a t => simp
    · split at h
      · cases h
      · rename_i sp u e
        have h1 := spanP_lt e
        have := ih _ u h
        omega
theorem classP_lt {acc : List (Nat × Nat)} {l : List Nat} {x} (h : classP acc l = some x) : x.2.length < l.length := classGo_lt _ _ _ h

theorem classTop_lt {l : List Nat} {x u} (h : classTop l = some (x, u)) : u.length < l.length := by
  unfold classTop at h
  split at h
  · rename_i hc
    cases hq : classP [] l.tail with
    | none => rw [hq] at h; cases h
    | some r =>
      rw [hq] at h; cases h
      have := classP_lt hq
      simp at this; omega
  · cases hq : classP [] l with
    | none => rw [hq] at h; cases h
    | some r =>
      rw [hq] at h; cases h
      exact classP_lt hq

/-- One item of a component. -/
def itemP : List Nat → Option (Item × List Nat)
  | [] => none
  | r :: t =>
    if r = 42 then some (⟨true, false, []⟩, t)
    else if r = 63 then some (⟨false, true, []⟩, t)
    else if r = 91 then classTop t
    else if r = 92 then (match t with | [] => none | x :: u => some (⟨false, false, [(x, x)]⟩, u))
    else some (⟨false, false, [(r, r)]⟩, t)

theorem itemP_lt {l : List Nat} {x u} (h : itemP l = some (x, u)) : u.length < l.length := by
  unfold itemP at h
  split at h
  · cases h
  · split at h
    · cases h; simp
    · split at h
      · cases h; simp
      · split at h
        · have := classTop_lt h; simp; omega
        · split at h
          · split at h
            · cases h
            · cases h; simp; omega
          · cases h; simp

def itemsGo : Nat → List Item → List Nat → Option (List Item)
  | 0, _, _ => none
  | n + 1, acc, l =>
    if l = [] then some acc else
      match itemP l with
      | none => none
      | some (x, u) => itemsGo n (acc ++ [x]) u

/-- The items of a component; none where it is no pattern component. -/
def itemsP (s : B) : Option (List Item) := match itemsGo ((runesP s).length + 1) [] (runesP s) with
  | none => none
  | some l => if l.isEmpty then none else some l

/-- One component: none for '**'. The outer none: no pattern. -/
def compP (s : B) : Option (Option (List Item)) := if s = [42, 42] then some none else (itemsP s).map some

def compsP : List B → Option (List (Option (List Item)))
  | [] => some []
  | p :: r => match compP p with
    | none => none
    | some c => (compsP r).map (c :: ·)

def compileP (s : B) : Option (List (Option (List Item))) :=
  if decide (s.length ≤ 512) && decide ((splitS 47 s).length ≤ 16) && cleanP s then compsP (splitS 47 s) else none

/-- One step of the table of 'single': from 'the items so far match the first i runes' to one item more. -/
def stepP (x : Item) (runes : List Nat) (reach : Nat → Bool) : Nat → Bool
  | 0 => x.star && reach 0
  | i + 1 => if x.star then reach (i + 1) || stepP x runes reach i else reach i && admitsP x (runes.getD i 0)

def reachP (runes : List Nat) (l : List Item) : Nat → Bool := l.foldl (fun reach x => stepP x runes reach) (fun i => i == 0)

def singleP (l : List Item) (s : B) : Bool := reachP (runesP s) l (runesP s).length

/-- Whether f holds of the list or of one of its tails. -/
def anyTail (f : List B → Bool) : List B → Bool
  | [] => f []
  | c :: cs => f (c :: cs) || anyTail f cs

/-- Components of a pattern against components of a path. -/
def matchesP : List (Option (List Item)) → List B → Bool
  | [], path => path.isEmpty
  | none :: p, path => anyTail (matchesP p) path
  | some l :: p, path => match path with
    | [] => false
    | c :: cs => singleP l c && matchesP p cs

def matchP (p : List (Option (List Item))) (path : B) : Bool := matchesP p (splitS 47 path)

/-- An ignore rule. -/
structure Rule where
  pattern : B
  keep : Bool
  dir : Bool
  rooted : Bool
  deriving DecidableEq, Inhabited

def Rule.validP (x : Rule) : Bool := (compileP x.pattern).isSome && !(x.pattern.head? == some 33) && !(x.pattern.head? == some 35) && (x.rooted || !x.pattern.contains 47)

def Rule.lineP (x : Rule) : B :=
  let a := if x.rooted && !x.pattern.contains 47 then 47 :: x.pattern else x.pattern
  let b := if x.keep then 33 :: a else a
  if x.dir then b ++ [47] else b

def ruleOf (line : B) : Rule :=
  let keep := line.head? == some 33
  let l1 := if keep then line.tail else line
  let rooted := l1.head? == some 47
  let l2 := if rooted then l1.tail else l1
  let dir := l2.getLast? == some 47
  let l3 := if dir then l2.dropLast else l2
  ⟨l3, keep, dir, rooted || l3.contains 47⟩

/-- Parse's loop: the rules so far, the number of the line, the lines left. -/
def parseGo : List Rule → Nat → List B → List Rule ⊕ (Nat × Int)
  | acc, _, [] => .inl acc
  | acc, i, line :: r =>
    if line = [] ∨ line.head? = some 35 then parseGo acc (i + 1) r
    else if !(ruleOf line).validP then .inr (i + 1, 3)
    else if acc.length = 256 then .inr (i + 1, 2)
    else parseGo (acc ++ [ruleOf line]) (i + 1) r
def parseP (s : B) : List Rule × Nat × Int :=
  if 65536 < s.length then ([], 0, 2) else
    match parseGo [] 0 (splitS 10 s) with
    | .inl l => (l, 0, 0)
    | .inr (n, e) => ([], n, e)

def printP (l : List Rule) : B × Int :=
  if !l.all Rule.validP then ([], 1) else if 256 < l.length then ([], 2) else ((l.map fun x => x.lineP ++ [10]).flatten, 0)

def lastP (path : B) : B := (splitS 47 path).getLastD []

/-- Whether a rule applies. -/
def Rule.applies (x : Rule) (path : B) (dir : Bool) : Bool :=
  (dir || !x.dir) && match compileP x.pattern with
    | none => false
    | some p => matchP p (if x.rooted then path else lastP path)

/-- The last rule that applies. -/
def ignored1 (rules : List Rule) (path : B) (dir : Bool) : Bool :=
  match rules.reverse.find? (fun x => x.applies path dir) with
  | none => false
  | some x => !x.keep

/-- The path and the directories above it, from the path up. -/
def ignoredGo (rules : List Rule) : Nat → B → Bool → Bool
  | 0, _, _ => false
  | n + 1, path, dir => if path = [] then false else ignored1 rules path dir || ignoredGo rules n (parentP path) true
def ignoredP (rules : List Rule) (path : B) (dir : Bool) : Bool := ignoredGo rules (path.length + 1) path dir

def goodRules (rules : List Rule) : Bool := decide (rules.length ≤ 256) && rules.all Rule.validP

/-- Before each rune that is special, a backslash. -/
def literalGo : Nat → B → B
  | _, [] => []
  | i, c :: t => if c = 42 ∨ c = 63 ∨ c = 91 ∨ c = 92 ∨ (i = 0 ∧ (c = 33 ∨ c = 35)) then 92 :: c :: literalGo (i + 1) t else c :: literalGo (i + 1) t
def literalP (s : B) : B := literalGo 0 s

end Go.Proofs.YtdcghpeomaailaaDoor.Pn
