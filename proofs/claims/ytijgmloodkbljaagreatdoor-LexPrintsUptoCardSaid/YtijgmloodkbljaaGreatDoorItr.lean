import Derived.RangeFuncNested
import Derived.RangeFuncBound
import Derived.RangeFuncCalls
import Derived.RangeFuncLeaves
import Derived.Shelf.Abstract
import Derived.Shelf.RegionOpen
import Derived.WalkKit
import Derived.OwnWalkIn
import Derived.TacticsInMore
import Derived.LoopNIn
import Derived.LoopIn
import Derived.Test.YtijgmloodkbljaaGreatDoorNxt
namespace Go.Proofs.YtijgmloodkbljaaGreatDoor
open Go Go.RowKit Go.Shelf
attribute [local go_sem] Oper.semAt_some

/-- What the scanner's next step hands back from the place k on. -/
def NextOk (c : Nat) (s : ByteArray) (k : Nat) (r : Option (Tok × Nat)) (stop : Nat) : Prop := ∀ w, ScAt c s k w → Laid w →
  Calls Tryz.prog 161 #[.pointer (some ⟨c, 0, none⟩)] w (match r with | some (t, j) => RetC (.tuple #[t.val, .bool true]) c s j w | none => RetC (.tuple #[zeroV, .bool false]) c s stop w)
inductive Run (nx : Nat → Option (Tok × Nat)) (k : Nat) : List Tok → Nat → Prop
  | nil : Run nx k [] k
  | snoc {xs : List Tok} {j j' : Nat} {t : Tok} : Run nx k xs j → nx j = some (t, j') → Run nx k (xs ++ [t]) j'

set_option maxHeartbeats 4000000 in
set_option maxRecDepth 100000 in
theorem f160_all (n : Nat) (c : Nat) (s : ByteArray) (nx : Nat → Option (Tok × Nat)) (stop : Nat → Nat) (hN : ∀ k, k ≤ s.size → NextOk c s k (nx k) (stop k)) (hP : ∀ k t j, nx k = some (t, j) → k < j ∧ j ≤ s.size)
    (l Bn k0 : Nat) (hk0 : k0 ≤ s.size) (J Jx : List Tok → World → Prop) (hJ : ∀ xs W W', J xs W → W.grownBy W' (some c) → J xs W') (hJL : ∀ xs W, J xs W → Laid W ∧ W.cell? ⟨Bn, 0, none⟩ = some (.pointer (some ⟨c, 0, none⟩)))
    (hY : ∀ pre t W, J pre W → YieldAt Fence.wide (n - 1) Tryz.prog l #[t.val] W fun e W' => (e = .returned (.bool true) ∧ J (pre ++ [t]) W' ∧ W'.heap[c]? = W.heap[c]?) ∨ (e = .returned (.bool false) ∧ Jx (pre ++ [t]) W'))
    (W : World) (h0 : J [] W) (hs0 : ScAt c s k0 W) :
    CallsIn Fence.wide n Tryz.prog 160 #[.func (.yield l) #[] #[], .pointer (some ⟨Bn, 0, none⟩)] W fun e W' => (∃ v, e = .returned v) ∧
      ((∃ xs, (∃ j, Run nx k0 xs j ∧ nx j = none ∧ j ≤ s.size ∧ ScAt c s (stop j) W') ∧ J xs W') ∨ (∃ pre, (∃ j, Run nx k0 pre j) ∧ Jx pre W')) := by
  refine callsIn_of_wp Tryz.func160 rfl trivial ?_ rfl
  simp only [Tryz.ntmps160, List.size_toArray, List.length_cons, List.length_nil, Nat.reduceAdd, Nat.reduceSub, Array.replicate_succ, Array.replicate_zero, List.push_toArray, List.append_toArray, List.nil_append, List.cons_append]
  gi_wp2
  gi_loopw [] (fun wr => ∃ (pre : List Tok) (j : Nat), Run nx k0 pre j ∧ j ≤ s.size ∧ J pre wr ∧ ScAt c s j wr) (fun wr => s.size - posOf c wr)
  case atStart => exact ⟨[], k0, .nil, hk0, h0, hs0⟩
  case round =>
    obtain ⟨pre, j, hrun, hj, hJp, hsc⟩ := hrel
    obtain ⟨hL, hbn⟩ := hJL pre wr hJp
    have hpos := hsc.pos
    have hall := hN j hj wr hsc hL
    cases hnx : nx j with
    | none =>
      have h161 : Calls Tryz.prog 161 #[.pointer (some ⟨c, 0, none⟩)] wr (RetC (.tuple #[zeroV, .bool false]) c s (stop j) wr) := by rw [hnx] at hall; exact hall
      clear hall
      gi_wp2_with fail
      refine ⟨trivial, (by simp [Fence.wide]), (callsIn_wide.2 h161).mono ?_⟩
      rintro e w1 ⟨rfl, hs1, hg1⟩
      gi_wp2
      refine ⟨fun _ h => (by cases h), ?_⟩
      gi_wp2
      refine bodyPost_ret (results_none rfl _ _ _) rfl ?_
      refine ⟨⟨_, rfl⟩, .inl ⟨pre, ⟨j, hrun, hnx, hj, (heap_alloc_old' w1 _ _ (Array.getElem?_eq_some_iff.1 hs1).1).trans hs1⟩, ?_⟩⟩
      exact hJ _ _ _ (hJ _ _ _ hJp hg1) (GC.of_below ((Below.refl _ _).alloc (Nat.le_refl _) _))
    | some r =>
      obtain ⟨t, j'⟩ := r
      obtain ⟨hlt, hj'⟩ := hP j t j' hnx
      have h161 : Calls Tryz.prog 161 #[.pointer (some ⟨c, 0, none⟩)] wr (RetC (.tuple #[t.val, .bool true]) c s j' wr) := by rw [hnx] at hall; exact hall
      clear hall
      gi_wp2_with fail
      refine ⟨trivial, (by simp [Fence.wide]), (callsIn_wide.2 h161).mono ?_⟩
      rintro e w1 ⟨rfl, hs1, hg1⟩
      have hJ1 := hJ _ _ _ (hJ _ _ _ hJp hg1) (GC.of_below ((Below.refl _ _).alloc (Nat.le_refl _) (.cells #[.int .i64 t.kind, .string t.text, .int .i64 t.n, .int .i64 t.pos] 24)))
      obtain ⟨fn, tmps, assign, body, hy, hR⟩ := hY pre t _ hJ1
      have hs2 : ScAt c s j' (w1.alloc (.cells #[.int .i64 t.kind, .string t.text, .int .i64 t.n, .int .i64 t.pos] 24)) := (heap_alloc_old' w1 _ _ (Array.getElem?_eq_some_iff.1 hs1).1).trans hs1
      gi_wp2
      refine ⟨(by simp [Fence.wide]), hR.mono ?_⟩
      rintro e W3 (⟨rfl, hJ3, hk3⟩ | ⟨rfl, hJx3⟩)
      · have hs3 : ScAt c s j' W3 := hk3.trans hs2
        gi_wp2
        go_roundw
        case rel => exact ⟨pre ++ [t], j', .snoc hrun hnx, hj', hJ3, hs3⟩
        case measure => rw [hs3.pos, hpos]; omega
      · gi_wp2
        refine bodyPost_ret (results_none rfl _ _ _) rfl ?_
        exact ⟨⟨_, rfl⟩, .inr ⟨pre ++ [t], ⟨j', .snoc hrun hnx⟩, hJx3⟩⟩
end Go.Proofs.YtijgmloodkbljaaGreatDoor
