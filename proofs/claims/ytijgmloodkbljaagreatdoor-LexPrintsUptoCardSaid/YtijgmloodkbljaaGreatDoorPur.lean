namespace Go.Proofs.YtijgmloodkbljaaGreatDoor

/-- A value of the program, as data. -/
inductive Val where
  | mk (kind n : Int) (s : ByteArray) (l : List Val)

def Val.kind : Val → Int | .mk k _ _ _ => k
def Val.n : Val → Int | .mk _ n _ _ => n
def Val.s : Val → ByteArray | .mk _ _ s _ => s
def Val.l : Val → List Val | .mk _ _ _ l => l
def vInt (n : Int) : Val := .mk 1 n ⟨#[]⟩ []
def vStr (s : List UInt8) : Val := .mk 2 0 ⟨s.toArray⟩ []
def vBool (b : Bool) : Val := .mk 3 (if b then 1 else 0) ⟨#[]⟩ []
def vVert (n : Int) : Val := .mk 6 n ⟨#[]⟩ []
def vEdge (n : Int) : Val := .mk 7 n ⟨#[]⟩ []
def vList (l : List Val) : Val := .mk 4 0 ⟨#[]⟩ l
def vMap (l : List Val) : Val := .mk 5 0 ⟨#[]⟩ l
def vNone : Val := .mk 0 0 ⟨#[]⟩ []

/-- How two numbers stand. -/
def cmpI (a b : Int) : Int := if a < b then -1 else if b < a then 1 else 0
/-- How two texts stand. -/
def cmpB : List UInt8 → List UInt8 → Int
  | [], [] => 0
  | [], _ :: _ => -1
  | _ :: _, [] => 1
  | a :: l, b :: m => if a < b then -1 else if b < a then 1 else cmpB l m
/-- The first that is not 0. -/
def orI (a b : Int) : Int := if a = 0 then b else a
mutual
/-- How two values stand. -/
def cmpV : Val → Val → Int
  | .mk k n s l, .mk k' n' s' l' => orI (cmpI k k') (orI (cmpI n n') (orI (cmpB s.data.toList s'.data.toList) (cmpL l l')))
def cmpL : List Val → List Val → Int
  | [], [] => 0
  | [], _ :: _ => -1
  | _ :: _, [] => 1
  | a :: l, b :: m => orI (cmpV a b) (cmpL l m)
end

/-- Do the keys rise? (a list of keys and values by turns) -/
def risesL : List Val → Bool
  | a :: _ :: c :: l => decide (cmpV a c < 0) && risesL (c :: l)
  | _ => true
def bareB (s : ByteArray) (l : List Val) : Bool := decide (s.size = 0) && l.isEmpty
mutual
/-- May a value be that has so many levels left? -/
def mayV : Nat → Val → Bool
  | 0, _ => false
  | d + 1, .mk k n s l =>
    if k = 1 then bareB s l
    else if k = 3 then bareB s l && decide (n = 0 ∨ n = 1)
    else if k = 6 ∨ k = 7 then bareB s l && decide (1 ≤ n ∧ n ≤ 281474976710656)
    else if k = 2 then decide (n = 0) && l.isEmpty && decide (s.size ≤ 128)
    else if k = 4 then decide (n = 0) && decide (s.size = 0) && decide (l.length ≤ 256) && mayL d l
    else if k = 5 then decide (n = 0) && decide (s.size = 0) && decide (l.length ≤ 512) && decide (l.length % 2 = 0) && mayL d l && risesL l
    else false
def mayL : Nat → List Val → Bool
  | _, [] => true
  | d, v :: l => mayV d v && mayL d l
end
def okV (v : Val) : Bool := mayV 8 v

/-- A byte's hexadecimal digit. -/
def hexD (n : Nat) : UInt8 := if n < 10 then UInt8.ofNat (48 + n) else UInt8.ofNat (87 + n)
def qc (c : UInt8) : List UInt8 :=
  if c.toNat < 32 ∨ 126 < c.toNat then [92, 120, hexD (c.toNat / 16), hexD (c.toNat % 16)] else if c = 39 ∨ c = 92 then [92, c] else [c]
def quoteL (l : List UInt8) : List UInt8 := 39 :: (l.flatMap qc ++ [39])

/-- Is a byte a digit? -/
def digU (c : UInt8) : Bool := decide (48 ≤ c.toNat ∧ c.toNat ≤ 57)
/-- What digits come to. -/
def decV (l : List UInt8) : Nat := l.foldl (fun a c => a * 10 + (c.toNat - 48)) 0
/-- A number off a text's beginning. -/
def numP (l : List UInt8) : Option (Int × List UInt8) :=
  let neg := l.head? == some 45
  let d := if neg then l.tail else l
  match d with
  | [] => none
  | c :: r =>
    if digU c = false then none
    else if c = 48 then (if neg then none else some (0, r))
    else
      let m := decV (d.takeWhile digU)
      if neg then (if m ≤ 9223372036854775808 then some (-(m : Int), d.dropWhile digU) else none)
      else if m ≤ 9223372036854775807 then some ((m : Int), d.dropWhile digU) else none
/-- A hexadecimal digit's number. -/
def hexV (c : UInt8) : Option Nat := if digU c then some (c.toNat - 48) else if 97 ≤ c.toNat ∧ c.toNat ≤ 102 then some (c.toNat - 87) else none
/-- What stands behind a backslash. -/
def escP : List UInt8 → Option (UInt8 × List UInt8)
  | [] => none
  | c :: l =>
    if c = 39 ∨ c = 92 then some (c, l)
    else if c = 120 then
      match l with
      | a :: b :: r =>
        match hexV a, hexV b with
        | some h, some o => if (1 < h ∧ h < 7) ∨ (h = 7 ∧ o < 15) then none else some ((16 * h + o).toUInt8, r)
        | _, _ => none
      | _ => none
    else none
theorem escP_lt {l : List UInt8} {c : UInt8} {r : List UInt8} (h : escP l = some (c, r)) : r.length < l.length := by
  unfold escP at h
  split at h
  · cases h
  · rename_i c l
    split at h
    · simp at h; rw [h.2]; simp
    · split at h
      · split at h
        · split at h
          · split at h
            · cases h
            · simp at h; rw [← h.2]; simp; omega
          · cases h
        · cases h
      · cases h
/-- What stands behind a string's first quote. -/
def strP (l : List UInt8) : Option (List UInt8 × List UInt8) :=
  match l with
  | [] => none
  | c :: r =>
    if c = 39 then some ([], r)
    else if c.toNat < 32 ∨ 126 < c.toNat then none
    else if c = 92 then
      match _h : escP r with
      | none => none
      | some (b, r') => (strP r').map fun x => (b :: x.1, x.2)
    else (strP r).map fun x => (c :: x.1, x.2)
termination_by l.length
decreasing_by
  · have := escP_lt _h; simp; omega
  · simp
theorem strP_nil : strP [] = none := by rw [strP.eq_def]
theorem strP_cons (c : UInt8) (r : List UInt8) : strP (c :: r) =
    if c = 39 then some ([], r)
    else if c.toNat < 32 ∨ 126 < c.toNat then none
    else if c = 92 then (escP r).bind fun y => (strP y.2).map fun x => (y.1 :: x.1, x.2)
    else (strP r).map fun x => (c :: x.1, x.2) := by
  rw [strP.eq_def]
  dsimp only
  split
  · rfl
  · split
    · rfl
    · split
      · split
        · rename_i h; rw [h]; rfl
        · rename_i h; rw [h]; rfl
      · rfl
/-- Bytes that must stand at the beginning. -/
def mustP : List UInt8 → List UInt8 → Option (List UInt8)
  | [], l => some l
  | _ :: _, [] => none
  | a :: m, b :: l => if a = b then mustP m l else none
/-- An element behind its letter. -/
def elemP (k : Int) (l : List UInt8) : Option (Val × List UInt8) :=
  (mustP [91] l).bind fun l1 => (numP l1).bind fun x => (mustP [93] x.2).map fun l2 => (.mk k x.1 ⟨#[]⟩ [], l2)
/-- One thing of a list: a value, or two with a colon between. -/
def oneP (p : List UInt8 → Option (Val × List UInt8)) (many : Bool) (l : List UInt8) : Option (List Val × List UInt8) :=
  (p l).bind fun x => if many then (mustP [58, 32] x.2).bind fun l2 => (p l2).map fun y => ([x.1, y.1], y.2) else some ([x.1], x.2)
/-- Values up to an end; at most so many rounds. -/
def itemsP (p : List UInt8 → Option (Val × List UInt8)) (e : UInt8) (many : Bool) : Nat → Bool → List UInt8 → Option (List Val × List UInt8)
  | 0, _, _ => none
  | f + 1, first, l =>
    if l.head? = some e then some ([], l.tail)
    else (if first then some l else mustP [44, 32] l).bind fun l1 => (oneP p many l1).bind fun x =>
      if x.2.head? = some e ∨ x.2.head? = some 44 then (itemsP p e many f false x.2).map fun y => (x.1 ++ y.1, y.2) else none
/-- A value off a text's beginning; so many levels left. -/
def valP : Nat → List UInt8 → Option (Val × List UInt8)
  | 0, _ => none
  | _ + 1, [] => none
  | d + 1, c :: r =>
    if c = 45 ∨ digU c = true then (numP (c :: r)).map fun x => (vInt x.1, x.2)
    else if c = 39 then (strP r).map fun x => (vStr x.1, x.2)
    else if c = 116 then (mustP [116, 114, 117, 101] (c :: r)).map fun x => (vBool true, x)
    else if c = 102 then (mustP [102, 97, 108, 115, 101] (c :: r)).map fun x => (vBool false, x)
    else if c = 118 then elemP 6 r
    else if c = 101 then elemP 7 r
    else if c = 91 then (itemsP (valP d) 93 false (r.length + 1) true r).map fun x => (vList x.1, x.2)
    else if c = 123 then (itemsP (valP d) 125 true (r.length + 1) true r).map fun x => (vMap x.1, x.2)
    else none
/-- A whole text's value. -/
def parseV (l : List UInt8) : Option Val :=
  match valP 8 l with
  | some (v, []) => if okV v then some v else none
  | _ => none

/-- Texts with another one between. -/
def joinB (sep : List UInt8) : List (List UInt8) → List UInt8
  | [] => []
  | [x] => x
  | x :: y :: l => x ++ sep ++ joinB sep (y :: l)
/-- The texts of keys and values as pairs. -/
def pairsB : List (List UInt8) → List (List UInt8)
  | a :: b :: l => (a ++ [58, 32] ++ b) :: pairsB l
  | l => l
end Go.Proofs.YtijgmloodkbljaaGreatDoor
