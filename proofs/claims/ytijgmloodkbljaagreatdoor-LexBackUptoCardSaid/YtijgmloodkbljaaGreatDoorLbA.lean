import Derived.Test.YtijgmloodkbljaaGreatDoorProg
import Derived.WalkKit
import Derived.WalkLawsBesides
import Derived.WalkSpells
import Derived.Below
import Derived.Deep.QuietTactic
import Derived.BigQuiet
import Derived.Deep.Draws
import Derived.Deep.RegionHeld3
import Derived.Lib.FrozenHead2
import Derived.Lib.OthersKept
import Derived.Lib.Walk
import Derived.Lib.Builder
import Derived.Laws.Externs
import Derived.Laws.IdiomCopy
import Derived.KernelRfl
namespace Go.Proofs.YtijgmloodkbljaaGreatDoor

/-- A value of the program, as data. -/
inductive Val where
  | mk (kind n : Int) (s : ByteArray) (l : List Val)

def Val.kind : Val → Int | .mk k _ _ _ => k
def Val.n : Val → Int | .mk _ n _ _ => n
def Val.s : Val → ByteArray | .mk _ _ s _ => s
def Val.l : Val → List Val | .mk _ _ _ l => l
def vInt (n : Int) : Val := .mk 1 n ⟨#[]⟩ []
def vStr (s : List UInt8) : Val := .mk 2 0 ⟨s.toArray⟩ []
def vBool (b : Bool) : Val := .mk 3 (if b then 1 else 0) ⟨#[]⟩ []
def vVert (n : Int) : Val := .mk 6 n ⟨#[]⟩ []
def vEdge (n : Int) : Val := .mk 7 n ⟨#[]⟩ []
def vList (l : List Val) : Val := .mk 4 0 ⟨#[]⟩ l
def vMap (l : List Val) : Val := .mk 5 0 ⟨#[]⟩ l
def vNone : Val := .mk 0 0 ⟨#[]⟩ []

/-- How two numbers stand. -/
def cmpI (a b : Int) : Int := if a < b then -1 else if b < a then 1 else 0
/-- How two texts stand. -/
def cmpB : List UInt8 → List UInt8 → Int
  | [], [] => 0
  | [], _ :: _ => -1
  | _ :: _, [] => 1
  | a :: l, b :: m => if a < b then -1 else if b < a then 1 else cmpB l m
/-- The first that is not 0. -/
def orI (a b : Int) : Int := if a = 0 then b else a
mutual
/-- How two values stand. -/
def cmpV : Val → Val → Int
  | .mk k n s l, .mk k' n' s' l' => orI (cmpI k k') (orI (cmpI n n') (orI (cmpB s.data.toList s'.data.toList) (cmpL l l')))
def cmpL : List Val → List Val → Int
  | [], [] => 0
  | [], _ :: _ => -1
  | _ :: _, [] => 1
  | a :: l, b :: m => orI (cmpV a b) (cmpL l m)
end

/-- Do the keys rise? (a list of keys and values by turns) -/
def risesL : List Val → Bool
  | a :: _ :: c :: l => decide (cmpV a c < 0) && risesL (c :: l)
  | _ => true
def bareB (s : ByteArray) (l : List Val) : Bool := decide (s.size = 0) && l.isEmpty
mutual
/-- May a value be that has so many levels left? -/
def mayV : Nat → Val → Bool
  | 0, _ => false
  | d + 1, .mk k n s l =>
    if k = 1 then bareB s l
    else if k = 3 then bareB s l && decide (n = 0 ∨ n = 1)
    else if k = 6 ∨ k = 7 then bareB s l && decide (1 ≤ n ∧ n ≤ 281474976710656)
    else if k = 2 then decide (n = 0) && l.isEmpty && decide (s.size ≤ 128)
    else if k = 4 then decide (n = 0) && decide (s.size = 0) && decide (l.length ≤ 256) && mayL d l
    else if k = 5 then decide (n = 0) && decide (s.size = 0) && decide (l.length ≤ 512) && decide (l.length % 2 = 0) && mayL d l && risesL l
    else false
def mayL : Nat → List Val → Bool
  | _, [] => true
  | d, v :: l => mayV d v && mayL d l
end
def okV (v : Val) : Bool := mayV 8 v

/-- A byte's hexadecimal digit. -/
def hexD (n : Nat) : UInt8 := if n < 10 then UInt8.ofNat (48 + n) else UInt8.ofNat (87 + n)
def qc (c : UInt8) : List UInt8 :=
  if c.toNat < 32 ∨ 126 < c.toNat then [92, 120, hexD (c.toNat / 16), hexD (c.toNat % 16)] else if c = 39 ∨ c = 92 then [92, c] else [c]
def quoteL (l : List UInt8) : List UInt8 := 39 :: (l.flatMap qc ++ [39])

/-- Is a byte a digit? -/
def digU (c : UInt8) : Bool := decide (48 ≤ c.toNat ∧ c.toNat ≤ 57)
/-- What digits come to. -/
def decV (l : List UInt8) : Nat := l.foldl (fun a c => a * 10 + (c.toNat - 48)) 0
/-- A number off a text's beginning. -/
def numP (l : List UInt8) : Option (Int × List UInt8) :=
  let neg := l.head? == some 45
  let d := if neg then l.tail else l
  match d with
  | [] => none
  | c :: r =>
    if digU c = false then none
    else if c = 48 then (if neg then none else some (0, r))
    else
      let m := decV (d.takeWhile digU)
      if neg then (if m ≤ 9223372036854775808 then some (-(m : Int), d.dropWhile digU) else none)
      else if m ≤ 9223372036854775807 then some ((m : Int), d.dropWhile digU) else none
/-- A hexadecimal digit's number. -/
def hexV (c : UInt8) : Option Nat := if digU c then some (c.toNat - 48) else if 97 ≤ c.toNat ∧ c.toNat ≤ 102 then some (c.toNat - 87) else none
/-- What stands behind a backslash. -/
def escP : List UInt8 → Option (UInt8 × List UInt8)
  | [] => none
  | c :: l =>
    if c = 39 ∨ c = 92 then some (c, l)
    else if c = 120 then
      match l with
      | a :: b :: r =>
        match hexV a, hexV b with
        | some h, some o => if (1 < h ∧ h < 7) ∨ (h = 7 ∧ o < 15) then none else some ((16 * h + o).toUInt8, r)
        | _, _ => none
      | _ => none
    else none
theorem escP_lt {l : List UInt8} {c : UInt8} {r : List UInt8} (h : escP l = some (c, r)) : r.length < l.length := by
  unfold escP at h
  split at h
  · cases h
  · rename_i c l
    split at h
    · simp at h; rw [h.2]; simp
    · split at h
      · split at h
        · split at h
          · split at h
            · cases h
            · simp at h; rw [← h.2]; simp; omega
          · cases h
        · cases h
      · cases h
/-- What stands behind a string's first quote. -/
def strP (l : List UInt8) : Option (List UInt8 × List UInt8) :=
  match l with
  | [] => none
  | c :: r =>
    if c = 39 then some ([], r)
    else if c.toNat < 32 ∨ 126 < c.toNat then none
    else if c = 92 then
      match _h : escP r with
      | none => none
      | some (b, r') => (strP r').map fun x => (b :: x.1, x.2)
    else (strP r).map fun x => (c :: x.1, x.2)
termination_by l.length
decreasing_by
  · have := escP_lt _h; simp; omega
  · simp
theorem strP_nil : strP [] = none := by rw [strP.eq_def]
theorem strP_cons (c : UInt8) (r : List UInt8) : strP (c :: r) =
    if c = 39 then some ([], r)
    else if c.toNat < 32 ∨ 126 < c.toNat then none
    else if c = 92 then (escP r).bind fun y => (strP y.2).map fun x => (y.1 :: x.1, x.2)
    else (strP r).map fun x => (c :: x.1, x.2) := by
  rw [strP.eq_def]
  dsimp only
  split
  · rfl
  · split
    · rfl
    · split
      · split
        · rename_i h; rw [h]; rfl
        · rename_i h; rw [h]; rfl
      · rfl
/-- Bytes that must stand at the beginning. -/
def mustP : List UInt8 → List UInt8 → Option (List UInt8)
  | [], l => some l
  | _ :: _, [] => none
  | a :: m, b :: l => if a = b then mustP m l else none
/-- An element behind its letter. -/
def elemP (k : Int) (l : List UInt8) : Option (Val × List UInt8) :=
  (mustP [91] l).bind fun l1 => (numP l1).bind fun x => (mustP [93] x.2).map fun l2 => (.mk k x.1 ⟨#[]⟩ [], l2)
/-- One thing of a list: a value, or two with a colon between. -/
def oneP (p : List UInt8 → Option (Val × List UInt8)) (many : Bool) (l : List UInt8) : Option (List Val × List UInt8) :=
  (p l).bind fun x => if many then (mustP [58, 32] x.2).bind fun l2 => (p l2).map fun y => ([x.1, y.1], y.2) else some ([x.1], x.2)
/-- Values up to an end; at most so many rounds. -/
def itemsP (p : List UInt8 → Option (Val × List UInt8)) (e : UInt8) (many : Bool) : Nat → Bool → List UInt8 → Option (List Val × List UInt8)
  | 0, _, _ => none
  | f + 1, first, l =>
    if l.head? = some e then some ([], l.tail)
    else (if first then some l else mustP [44, 32] l).bind fun l1 => (oneP p many l1).bind fun x =>
      if x.2.head? = some e ∨ x.2.head? = some 44 then (itemsP p e many f false x.2).map fun y => (x.1 ++ y.1, y.2) else none
/-- A value off a text's beginning; so many levels left. -/
def valP : Nat → List UInt8 → Option (Val × List UInt8)
  | 0, _ => none
  | _ + 1, [] => none
  | d + 1, c :: r =>
    if c = 45 ∨ digU c = true then (numP (c :: r)).map fun x => (vInt x.1, x.2)
    else if c = 39 then (strP r).map fun x => (vStr x.1, x.2)
    else if c = 116 then (mustP [116, 114, 117, 101] (c :: r)).map fun x => (vBool true, x)
    else if c = 102 then (mustP [102, 97, 108, 115, 101] (c :: r)).map fun x => (vBool false, x)
    else if c = 118 then elemP 6 r
    else if c = 101 then elemP 7 r
    else if c = 91 then (itemsP (valP d) 93 false (r.length + 1) true r).map fun x => (vList x.1, x.2)
    else if c = 123 then (itemsP (valP d) 125 true (r.length + 1) true r).map fun x => (vMap x.1, x.2)
    else none
/-- A whole text's value. -/
def parseV (l : List UInt8) : Option Val :=
  match valP 8 l with
  | some (v, []) => if okV v then some v else none
  | _ => none

/-- Texts with another one between. -/
def joinB (sep : List UInt8) : List (List UInt8) → List UInt8
  | [] => []
  | [x] => x
  | x :: y :: l => x ++ sep ++ joinB sep (y :: l)
/-- The texts of keys and values as pairs. -/
def pairsB : List (List UInt8) → List (List UInt8)
  | a :: b :: l => (a ++ [58, 32] ++ b) :: pairsB l
  | l => l
end Go.Proofs.YtijgmloodkbljaaGreatDoor

namespace Go.Proofs.YtijgmloodkbljaaGreatDoor
open Go Go.RowKit

end Go.Proofs.YtijgmloodkbljaaGreatDoor

namespace Go.Proofs.YtijgmloodkbljaaGreatDoor
open Go Go.RowKit

theorem sizeBuilder : (Tryz.prog.info? 101).map (·.size) = some 2 := by kernel_rfl
theorem infoByte : (Tryz.prog.info? 5).map (fun i => (i.zero, i.size, i.bytes)) = some (some (.int .u8 0), 1, 1) := by kernel_rfl

set_option maxHeartbeats 1000000 in
set_option maxRecDepth 100000 in
theorem f159_used (b : Nat) (w : World) (h0 : w.cell? ⟨b, 0, none⟩ = some (.pointer (some ⟨b, 0, none⟩))) :
    Calls Tryz.prog 159 #[.pointer (some ⟨b, 0, none⟩)] w fun e w' => e = .returned (.tuple #[]) ∧ w' = w := by
  obtain ⟨j, hj, _⟩ := Option.map_eq_some_iff.1 sizeBuilder
  go_enter Tryz.func159, Tryz.ntmps159
  go_wp2
  rw [Lib.run_neq_ptr_same w _ Tryz.underlying99 hj]
  go_wp2
  go_end0
  exact ⟨rfl, rfl⟩
theorem liesBuilder : liesAt Tryz.prog Tryz.prog.depth 101 (2 / Tryz.prog.cellsOf 101) 0 101 1 = true := by kernel_rfl
set_option maxHeartbeats 1000000 in
set_option maxRecDepth 100000 in
theorem f159_fresh (b : Nat) (w : World) (h0 : w.cell? ⟨b, 0, none⟩ = some (.pointer none)) (hsh : w.shape? b = some (101, 2)) (hfz : w.frozen? ⟨b, 0, none⟩ = false) :
    Calls Tryz.prog 159 #[.pointer (some ⟨b, 0, none⟩)] w fun e w' => e = .returned (.tuple #[]) ∧ w' = w.setCell ⟨b, 0, none⟩ (.pointer (some ⟨b, 0, none⟩)) := by
  obtain ⟨j, hj, hjs⟩ := Option.map_eq_some_iff.1 sizeBuilder
  go_enter Tryz.func159, Tryz.ntmps159
  go_wp2
  rw [Lib.run_to_unsafe w ⟨b, 0, none⟩ Tryz.underlying99 Tryz.underlying253 hj (by rw [hjs]; decide) hsh (Nat.zero_lt_succ 1)]
  simp only [Result.andThen]
  rw [Oper.upon_value]
  go_wp2
  rw [run_callFunc_extern Tryz.func227 (by kernel_rfl) (by kernel_rfl) (by kernel_rfl) (e := Extern.AbiNoEscape.same) (by kernel_rfl)]
  rw [Lib.run_noEscape]
  simp only [Result.andThen]
  rw [Oper.upon_value]
  go_wp2
  rw [Lib.run_from_unsafe w ⟨b, 0, none⟩ Tryz.underlying253 Tryz.underlying99 hj hsh liesBuilder]
  simp only [Result.andThen]
  rw [Oper.upon_value]
  go_wp2
  go_end0
  exact ⟨rfl, rfl⟩

abbrev BldAt := Lib.BuilderAtF 101 5
abbrev IsBld := Lib.IsBuilderF 101 5

theorem f159_k (B b : Nat) (bs : List Value) (w : World) (h : IsBld B b bs w) :
    Calls Tryz.prog 159 #[.pointer (some ⟨b, 0, none⟩)] w fun e w' => e = .returned (.tuple #[]) ∧ (BldAt B b (.pointer (some ⟨b, 0, none⟩)) bs w' ∧ Below B w w' ∧ Lib.OthersKept 5 (some b) w w') := by
  rcases h with h | h
  · refine (f159_fresh b w h.cell0 h.shape h.frozen0).mono ?_
    rintro e w' ⟨rfl, rfl⟩
    exact ⟨rfl, h.used _, (Below.refl B w).setCell (p := ⟨b, 0, none⟩) h.1 _, (Lib.OthersKept.refl _ _ w).setCell ⟨b, 0, none⟩ rfl _⟩
  · refine (f159_used b w h.cell0).mono ?_
    rintro e w' ⟨rfl, rfl⟩
    exact ⟨rfl, h, Below.refl B _, Lib.OthersKept.refl _ _ _⟩

set_option maxHeartbeats 2000000 in
set_option maxRecDepth 100000 in
theorem f79_k (B b : Nat) (bs : List Value) (c : Int) (w : World) (h : IsBld B b bs w) (hlen : bs.length + 1 ≤ 140737488355328) (hBw : B ≤ w.heap.size) :
    Calls Tryz.prog 79 #[.pointer (some ⟨b, 0, none⟩), .int .u8 c] w fun e w' => e = .returned .nilIface ∧ (BldAt B b (.pointer (some ⟨b, 0, none⟩)) (bs ++ [.int .u8 c]) w' ∧ Below B w w' ∧ Lib.OthersKept 5 (some b) w w') := by
  obtain ⟨i0, hi, hz0, hz1, hz2⟩ := info_parts infoByte
  go_enter Tryz.func79, Tryz.ntmps79
  go_wp2_with (go_at_call 159; refine (f159_k B b bs _ h).mono ?_)
  rintro e w1 ⟨rfl, h1, hb1, hk1⟩
  obtain ⟨hB, v, hbk, hown, hne⟩ := h1
  have c0 : w1.cell? ⟨b, 0, none⟩ = some (.pointer (some ⟨b, 0, none⟩)) := by rw [Lib.cell_of_heap hbk]; rfl
  have c1 : w1.cell? ⟨b, 1, none⟩ = some v := by rw [Lib.cell_of_heap hbk]; rfl
  go_wp2_with (at_builtin; refine wpList_append_ownF _ rfl _ _ 65 rfl B 5 i0 (.int .u8 0) 1 1 Tryz.underlying65 hi hz0 hz1 hz2 rfl (by decide) _ _ _ rfl (hown.alloc _) ⟨w1.heap.size, 0, none⟩ 1 1 [.int .u8 c] rfl rfl ?c1 ?c2 ?c3 ?c4 ?c5 ?_)
  case c1 =>
    intro j u hj
    match j, hj with
    | 0, hj => simp at hj; subst hj; simp [Addr.add]
  case c2 => intro u hu; simp at hu; subst hu; rfl
  case c3 => unfold maxLen; omega
  case c4 => omega
  case c5 => have := hb1.size; simp; omega
  intro v' w2 hown' hgrow _
  have hlt : b < w1.heap.size := by
    rcases Nat.lt_or_ge b w1.heap.size with h' | h'
    · exact h'
    · simp [Array.getElem?_eq_none h'] at hbk
  have hb2 : w2.heap[b]? = some (.cells #[.pointer (some ⟨b, 0, none⟩), v] 101 (0, 0)) := by
    rw [hgrow.block b (by simp; omega) (fun e => hne e.symm), Lib.alloc_old w1 _ b hlt]
    exact hbk
  have d0 : w2.cell? ⟨b, 0, none⟩ = some (.pointer (some ⟨b, 0, none⟩)) := by rw [Lib.cell_of_heap hb2]; rfl
  have d1 : w2.cell? ⟨b, 1, none⟩ = some v := by rw [Lib.cell_of_heap hb2]; rfl
  have f1 : w2.frozen? ⟨b, 1, none⟩ = false := Lib.frozen_of_heap hb2 1
  obtain ⟨g, cap, rfl⟩ : ∃ g cap, v' = .slice (some ⟨g, 0, none⟩) (bs.length + 1) cap := by
    rcases hown'.2 with ⟨_, h0⟩ | ⟨g, cap, cur, fz, hv, _⟩
    · omega
    · exact ⟨g, cap, hv⟩
  go_wp2
  go_ret
  refine ⟨rfl, ?_, ?_, ((hk1.alloc _).grown hgrow (Lib.ownsRowF_kind (hown.alloc _))).setCell ⟨b, 1, none⟩ rfl _⟩
  · exact Lib.BuilderAtF.put (T := 101) (e := 5) hB hb2 (bs' := bs ++ [.int .u8 c]) (by simpa using hown') (by decide)
  · exact ((hb1.alloc (by have := hb1.size; omega) _).grown hgrow (by have := hb1.size; simp; omega) (fun k hk => (hown.lt k hk).1)).setCell (p := ⟨b, 1, none⟩) hB _

set_option maxHeartbeats 2000000 in
set_option maxRecDepth 100000 in
theorem f80_k (B b : Nat) (bs : List Value) (s : ByteArray) (w : World) (h : IsBld B b bs w) (hlen : bs.length + s.size ≤ 140737488355328) (hBw : B ≤ w.heap.size) :
    Calls Tryz.prog 80 #[.pointer (some ⟨b, 0, none⟩), .string s] w fun e w' => e = .returned (.tuple #[.int .i64 s.size, .nilIface]) ∧ (BldAt B b (.pointer (some ⟨b, 0, none⟩)) (bs ++ Lib.strCells s) w' ∧ Below B w w' ∧ Lib.OthersKept 5 (some b) w w') := by
  obtain ⟨i0, hi, hz0, hz1, hz2⟩ := info_parts infoByte
  go_enter Tryz.func80, Tryz.ntmps80
  go_wp2_with (go_at_call 159; refine (f159_k B b bs _ h).mono ?_)
  rintro e w1 ⟨rfl, h1, hb1, hk1⟩
  obtain ⟨hB, v, hbk, hown, hne⟩ := h1
  have c0 : w1.cell? ⟨b, 0, none⟩ = some (.pointer (some ⟨b, 0, none⟩)) := by rw [Lib.cell_of_heap hbk]; rfl
  have c1 : w1.cell? ⟨b, 1, none⟩ = some v := by rw [Lib.cell_of_heap hbk]; rfl
  go_wp2_with (at_builtin; refine Lib.wpList_append_own_stringF _ rfl _ _ 65 9 rfl B 5 i0 Tryz.underlying65 Tryz.underlying9 hi hz0 hz1 hz2 _ _ _ rfl hown s rfl ?c3 ?c4 ?c5 ?_)
  case c3 => unfold maxLen; omega
  case c4 => omega
  case c5 => have := hb1.size; omega
  intro v' w2 hown' hgrow _
  have hlt : b < w1.heap.size := by
    rcases Nat.lt_or_ge b w1.heap.size with h' | h'
    · exact h'
    · simp [Array.getElem?_eq_none h'] at hbk
  have hb2 : w2.heap[b]? = some (.cells #[.pointer (some ⟨b, 0, none⟩), v] 101 (0, 0)) := by
    rw [hgrow.block b hlt (fun e => hne e.symm)]
    exact hbk
  have d0 : w2.cell? ⟨b, 0, none⟩ = some (.pointer (some ⟨b, 0, none⟩)) := by rw [Lib.cell_of_heap hb2]; rfl
  have d1 : w2.cell? ⟨b, 1, none⟩ = some v := by rw [Lib.cell_of_heap hb2]; rfl
  have f1 : w2.frozen? ⟨b, 1, none⟩ = false := Lib.frozen_of_heap hb2 1
  obtain ⟨ao, n', cap, rfl⟩ : ∃ ao n' cap, v' = .slice ao n' cap := by
    rcases hown'.2 with ⟨hv, _⟩ | ⟨g, cap, cur, fz, hv, _⟩
    · exact ⟨_, _, _, hv⟩
    · exact ⟨_, _, _, hv⟩
  go_wp2
  go_ret2
  refine ⟨rfl, ?_, ?_, (hk1.grown hgrow (Lib.ownsRowF_kind hown)).setCell ⟨b, 1, none⟩ rfl _⟩
  · exact Lib.BuilderAtF.put (T := 101) (e := 5) hB hb2 (bs' := bs ++ Lib.strCells s) (by simpa [Lib.strCells_length] using hown') (by decide)
  · exact (hb1.grown hgrow (by have := hb1.size; omega) (fun k hk => (hown.lt k hk).1)).setCell (p := ⟨b, 1, none⟩) hB _
end Go.Proofs.YtijgmloodkbljaaGreatDoor
