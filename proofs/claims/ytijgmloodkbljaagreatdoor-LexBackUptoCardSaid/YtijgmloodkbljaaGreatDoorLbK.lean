import Derived.Test.YtijgmloodkbljaaGreatDoorLbH
import Derived.Test.YtijgmloodkbljaaGreatDoorLbF
import Derived.Laws.AppendOwn
import Derived.Maps.AppendAt
import Derived.Test.YtijgmloodkbljaaGreatDoorLbG
import Derived.Test.YtijgmloodkbljaaGreatDoorLbD
import Derived.Test.YtijgmloodkbljaaGreatDoorLbJ
namespace Go.Proofs.YtijgmloodkbljaaGreatDoor
open Go Go.RowKit

/-- The four cells from o on in block b hold the fields of v. -/
def C4 (w : World) (b o : Nat) (v : Value) : Prop :=
  ∃ c0 c1 c2 c3, v = .agg #[c0, c1, c2, c3] ∧ w.cell? ⟨b, o, none⟩ = some c0 ∧ w.cell? ⟨b, o + 1, none⟩ = some c1 ∧ w.cell? ⟨b, o + 2, none⟩ = some c2 ∧ w.cell? ⟨b, o + 3, none⟩ = some c3
mutual
/-- The aggregate v is the value x; the blocks of its lists are of S. -/
def VR (w : World) (S : Nat → Prop) : Val → Value → Prop
  | .mk k n s l, v => I64n k ∧ I64n n ∧ s.size ≤ 1048576 ∧ l.length ≤ 1048576 ∧ ∃ A c, v = .agg #[.int .i64 k, .int .i64 n, .string s, .slice A l.length c] ∧
      (l ≠ [] → ∃ b o, A = some ⟨b, o, none⟩ ∧ S b ∧ b < w.heap.size ∧ VC w S b o l)
/-- The cells from o on in block b are the values of the list. -/
def VC (w : World) (S : Nat → Prop) (b o : Nat) : List Val → Prop
  | [] => True
  | x :: l => (∃ v, C4 w b o v ∧ VR w S x v) ∧ VC w S b (o + 4) l
end
/-- The aggregate v is the value x, its lists in memory that is there. -/
abbrev VW (w : World) (x : Val) (v : Value) : Prop := VR w (fun _ => True) x v

theorem C4.keep {w w' : World} {b o : Nat} {v : Value} (h : C4 w b o v) (hk : w'.heap[b]? = w.heap[b]?) : C4 w' b o v := by
  obtain ⟨c0, c1, c2, c3, e, h0, h1, h2, h3⟩ := h
  exact ⟨c0, c1, c2, c3, e, (World.cell?_of_block hk).trans h0, (World.cell?_of_block hk).trans h1, (World.cell?_of_block hk).trans h2, (World.cell?_of_block hk).trans h3⟩
mutual
theorem VR.keep {w w' : World} {S : Nat → Prop} (hk : ∀ b, S b → b < w.heap.size → w'.heap[b]? = w.heap[b]?) (hs : w.heap.size ≤ w'.heap.size) : ∀ (x : Val) (v : Value), VR w S x v → VR w' S x v
  | .mk k n s l, v, h => by
    obtain ⟨h1, h2, h3, h4, A, c, h5, h6⟩ := h
    refine ⟨h1, h2, h3, h4, A, c, h5, fun hl => ?_⟩
    obtain ⟨b, o, h7, h8, h9, h10⟩ := h6 hl
    exact ⟨b, o, h7, h8, Nat.lt_of_lt_of_le h9 hs, VC.keep hk hs b o h8 h9 l h10⟩
theorem VC.keep {w w' : World} {S : Nat → Prop} (hk : ∀ b, S b → b < w.heap.size → w'.heap[b]? = w.heap[b]?) (hs : w.heap.size ≤ w'.heap.size) (b o : Nat) (hb : S b) (hlt : b < w.heap.size) : ∀ (l : List Val), VC w S b o l → VC w' S b o l
  | [], _ => trivial
  | x :: l, ⟨⟨v, h1, h2⟩, h3⟩ => ⟨⟨v, h1.keep (hk b hb hlt), VR.keep hk hs x v h2⟩, VC.keep hk hs b (o + 4) hb hlt l h3⟩
end
mutual
theorem VR.mono {w : World} {S S' : Nat → Prop} (hS : ∀ b, S b → b < w.heap.size → S' b) : ∀ (x : Val) (v : Value), VR w S x v → VR w S' x v
  | .mk k n s l, v, h => by
    obtain ⟨h1, h2, h3, h4, A, c, h5, h6⟩ := h
    refine ⟨h1, h2, h3, h4, A, c, h5, fun hl => ?_⟩
    obtain ⟨b, o, h7, h8, h9, h10⟩ := h6 hl
    exact ⟨b, o, h7, hS b h8 h9, h9, VC.mono hS b o l h10⟩
theorem VC.mono {w : World} {S S' : Nat → Prop} (hS : ∀ b, S b → b < w.heap.size → S' b) (b o : Nat) : ∀ (l : List Val), VC w S b o l → VC w S' b o l
  | [], _ => trivial
  | x :: l, ⟨⟨v, h1, h2⟩, h3⟩ => ⟨⟨v, h1, VR.mono hS x v h2⟩, VC.mono hS b (o + 4) l h3⟩
end
theorem VW.below {w w' : World} {x : Val} {v : Value} (h : VW w x v) (hb : Below w.heap.size w w') : VW w' x v :=
  VR.keep (fun b _ hlt => hb.block b hlt) hb.size x v h
theorem VR.below {w w' : World} {S : Nat → Prop} {x : Val} {v : Value} (h : VR w S x v) (hb : Below w.heap.size w w') : VR w' S x v :=
  VR.keep (fun b _ hlt => hb.block b hlt) hb.size x v h
theorem VR.gc {w w' : World} {S : Nat → Prop} {r : Nat} {x : Val} {v : Value} (h : VR w S x v) (hg : GC r w w') (hr : ¬ S r) : VR w' S x v :=
  VR.keep (fun b hb hlt => hg.block b hlt (fun e => hr (by cases e; exact hb))) hg.size x v h
theorem VR.w {w : World} {S : Nat → Prop} {x : Val} {v : Value} (h : VR w S x v) : VW w x v := VR.mono (fun _ _ _ => trivial) x v h

/-- The i-th value of the list. -/
theorem VC.get {w : World} {S : Nat → Prop} {b : Nat} : ∀ {l : List Val} {o : Nat}, VC w S b o l → ∀ (i : Nat) (h : i < l.length), ∃ v, C4 w b (o + i * 4) v ∧ VR w S l[i] v
  | x :: l, o, ⟨h1, h2⟩, 0, _ => by simpa using h1
  | x :: l, o, ⟨h1, h2⟩, i + 1, h => by
    have := VC.get h2 i (by simpa using h)
    rw [show o + (i + 1) * 4 = o + 4 + i * 4 by omega]
    exact this
theorem VC.mk {w : World} {S : Nat → Prop} {b : Nat} : ∀ {l : List Val} {o : Nat}, (∀ (i : Nat) (h : i < l.length), ∃ v, C4 w b (o + i * 4) v ∧ VR w S l[i] v) → VC w S b o l
  | [], _, _ => trivial
  | x :: l, o, h => by
    refine ⟨h 0 (Nat.zero_lt_succ _), VC.mk fun i hi => ?_⟩
    have := h (i + 1) (by simpa using hi)
    rw [show o + (i + 1) * 4 = o + 4 + i * 4 by omega] at this
    exact this

/-- The slice v holds the values of l. -/
structure VSl (w : World) (S : Nat → Prop) (l : List Val) (v : Value) : Prop where
  len : l.length ≤ 1048576
  form : ∃ A c, v = .slice A l.length c ∧ (l ≠ [] → ∃ b o, A = some ⟨b, o, none⟩ ∧ S b ∧ b < w.heap.size ∧ VC w S b o l)
theorem VSl.of_VR {w : World} {S : Nat → Prop} {k n : Int} {s : ByteArray} {l : List Val} {v : Value} (h : VR w S (.mk k n s l) v) :
    ∃ vs, v = .agg #[.int .i64 k, .int .i64 n, .string s, vs] ∧ VSl w S l vs ∧ I64n k ∧ I64n n ∧ s.size ≤ 1048576 := by
  obtain ⟨h1, h2, h3, h4, A, c, h5, h6⟩ := h
  exact ⟨_, h5, ⟨h4, A, c, rfl, h6⟩, h1, h2, h3⟩
theorem VSl.mkVR {w : World} {S : Nat → Prop} {k n : Int} {s : ByteArray} {l : List Val} {vs : Value} (h : VSl w S l vs) (hk : I64n k) (hn : I64n n) (hs : s.size ≤ 1048576) : VR w S (.mk k n s l) (.agg #[.int .i64 k, .int .i64 n, .string s, vs]) := by
  obtain ⟨A, c, h5, h6⟩ := h.form
  exact ⟨hk, hn, hs, h.len, A, c, by rw [h5], h6⟩
theorem VSl.nil (w : World) (S : Nat → Prop) : VSl w S [] (.slice none 0 0) := ⟨by simp, none, 0, rfl, fun h => absurd rfl h⟩
theorem VSl.keep {w w' : World} {S : Nat → Prop} {l : List Val} {v : Value} (h : VSl w S l v) (hk : ∀ b, S b → b < w.heap.size → w'.heap[b]? = w.heap[b]?) (hs : w.heap.size ≤ w'.heap.size) : VSl w' S l v := by
  obtain ⟨A, c, h5, h6⟩ := h.form
  refine ⟨h.len, A, c, h5, fun hl => ?_⟩
  obtain ⟨b, o, h7, h8, h9, h10⟩ := h6 hl
  exact ⟨b, o, h7, h8, Nat.lt_of_lt_of_le h9 hs, VC.keep hk hs b o h8 h9 l h10⟩
theorem VSl.below {w w' : World} {S : Nat → Prop} {l : List Val} {v : Value} (h : VSl w S l v) (hb : Below w.heap.size w w') : VSl w' S l v := h.keep (fun b _ hlt => hb.block b hlt) hb.size
theorem VSl.mono {w : World} {S S' : Nat → Prop} {l : List Val} {v : Value} (h : VSl w S l v) (hS : ∀ b, S b → b < w.heap.size → S' b) : VSl w S' l v := by
  obtain ⟨A, c, h5, h6⟩ := h.form
  refine ⟨h.len, A, c, h5, fun hl => ?_⟩
  obtain ⟨b, o, h7, h8, h9, h10⟩ := h6 hl
  exact ⟨b, o, h7, hS b h8 h9, h9, VC.mono hS b o l h10⟩

theorem vr_flat (k n : Int) (s : ByteArray) (w : World) (S : Nat → Prop) (hk : I64n k) (hn : I64n n) (hs : s.size ≤ 1048576) : VR w S (.mk k n s []) (.agg #[.int .i64 k, .int .i64 n, .string s, .slice none 0 0]) :=
  ⟨hk, hn, hs, by simp, none, 0, rfl, fun h => absurd rfl h⟩
end Go.Proofs.YtijgmloodkbljaaGreatDoor

namespace Go.Proofs.YtijgmloodkbljaaGreatDoor
open Go Go.RowKit

/-- Four fields. -/
abbrev F4 := Value × Value × Value × Value
def F4.cells (p : F4) : List Value := [p.1, p.2.1, p.2.2.1, p.2.2.2]
def F4.agg (p : F4) : Value := .agg #[p.1, p.2.1, p.2.2.1, p.2.2.2]
def cells4 (q : List F4) : List Value := q.flatMap F4.cells
theorem cells4_len (q : List F4) : (cells4 q).length = q.length * 4 := by
  induction q with
  | nil => rfl
  | cons p q ih => show (p.cells ++ cells4 q).length = _; rw [List.length_append, ih]; show 4 + _ = _; simp; omega
theorem cells4_app (q : List F4) (p : F4) : cells4 (q ++ [p]) = cells4 q ++ p.cells := by simp [cells4]
theorem cells4_at : ∀ (q : List F4) (i : Nat) (h : i < q.length) (j : Nat) (_ : j < 4), (cells4 q)[i * 4 + j]? = (q[i]).cells[j]?
  | p :: q, 0, _, j, hj => by
    show (p.cells ++ cells4 q)[0 * 4 + j]? = _
    rw [show 0 * 4 + j = j by omega, List.getElem?_append_left (by show j < 4; exact hj)]
    rfl
  | p :: q, i + 1, h, j, hj => by
    show (p.cells ++ cells4 q)[(i + 1) * 4 + j]? = _
    rw [List.getElem?_append_right (by show 4 ≤ _; omega)]
    show (cells4 q)[(i + 1) * 4 + j - 4]? = _
    rw [show (i + 1) * 4 + j - 4 = i * 4 + j by omega]
    exact cells4_at q i (by simpa using h) j hj
theorem VR.four {w : World} {S : Nat → Prop} {x : Val} {v : Value} (h : VR w S x v) : ∃ p : F4, v = p.agg ∧ ∀ u ∈ p.cells, u.oneCell' = true := by
  obtain ⟨k, n, s, l⟩ := x
  obtain ⟨_, _, _, _, A, c, rfl, _⟩ := h
  refine ⟨(.int .i64 k, .int .i64 n, .string s, .slice A l.length c), rfl, ?_⟩
  intro u hu
  simp only [F4.cells, List.mem_cons, List.mem_nil_iff, or_false] at hu
  rcases hu with rfl | rfl | rfl | rfl <;> rfl

/-- The slice v is a row of the call's own that holds the values vs; their lists lie elsewhere. -/
structure LV (B : Nat) (v : Value) (vs : List Val) (W : World) : Prop where
  own : ∃ q : List F4, q.length = vs.length ∧ W.ownsRow B 38 4 v vs.length (cells4 q) ∧ (∀ (i : Nat) (h : i < vs.length) (h' : i < q.length), VR W (fun b => B ≤ b ∧ v.ownBlock ≠ some b) vs[i] (q[i]).agg)

theorem LV.nil (B : Nat) (W : World) : LV B (.slice none 0 0) [] W := ⟨[], rfl, World.ownsRow_nil _ _ _ _, fun i h => by simp at h⟩
theorem LV.form {B : Nat} {v : Value} {vs : List Val} {W : World} (h : LV B v vs W) : ∃ A c, v = .slice A vs.length c := by
  obtain ⟨q, h1, h2, _⟩ := h.own
  rcases h2.2 with ⟨rfl, h0⟩ | ⟨g, cap, cur, rfl, _⟩
  · exact ⟨none, 0, by rw [h0]⟩
  · exact ⟨_, _, rfl⟩
theorem own_ge {B n : Nat} {v : Value} {xs : List Value} {W : World} (h : W.ownsRow B 38 4 v n xs) : ∀ k, v.ownBlock = some k → B ≤ k ∧ k < W.heap.size := by
  intro k hk
  rcases h.2 with ⟨rfl, _⟩ | ⟨g, cap, cur, rfl, hg, hh, _⟩
  · cases hk
  · simp [Value.ownBlock] at hk; subst hk; exact ⟨hg, (Array.getElem?_eq_some_iff.1 hh).1⟩
theorem LV.gc {B r : Nat} {v : Value} {vs : List Val} {W W' : World} (h : LV B v vs W) (hg : GC r W W') (hr : r < B) : LV B v vs W' := by
  obtain ⟨q, h1, h2, h3⟩ := h.own
  refine ⟨q, h1, World.ownsRow.kept h2 hg ?_, fun i hi hi' => VR.gc (h3 i hi hi') hg (fun hh => by omega)⟩
  cases e : v.ownBlock with
  | none => exact .inl rfl
  | some k => right; intro h5; have := (own_ge h2 k e).1; simp at h5; omega
theorem LV.below {B : Nat} {v : Value} {vs : List Val} {W W' : World} (h : LV B v vs W) (hb : Below W.heap.size W W') : LV B v vs W' := by
  obtain ⟨q, h1, h2, h3⟩ := h.own
  have hg : W.grownBy W' none := ⟨hb.os, hb.tape, hb.output, hb.size, fun k hk _ => hb.block k hk⟩
  exact ⟨q, h1, World.ownsRow.kept h2 hg (by cases v.ownBlock <;> simp), fun i hi hi' => VR.below (h3 i hi hi') hb⟩
/-- One value more. -/
theorem LV.push {B : Nat} {v v' : Value} {vs : List Val} {x : Val} {p : F4} {q : List F4} {W W1 W2 : World} (h2 : q.length = vs.length) (h4 : ∀ (i : Nat) (h : i < vs.length) (h' : i < q.length), VR W (fun b => B ≤ b ∧ v.ownBlock ≠ some b) vs[i] (q[i]).agg)
    (hx : VR W (fun b => B ≤ b ∧ v.ownBlock ≠ some b) x p.agg) (hb : Below W.heap.size W W1)
    (hown : W2.ownsRow B 38 4 v' (vs.length + 1) (cells4 q ++ p.cells)) (hg : W1.grownBy W2 v.ownBlock) (hat : v'.ownBlock = v.ownBlock ∨ v'.ownBlock = some W1.heap.size) :
    LV B v' (vs ++ [x]) W2 := by
  have hlift : ∀ (y : Val) (u : Value), VR W (fun b => B ≤ b ∧ v.ownBlock ≠ some b) y u → VR W2 (fun b => B ≤ b ∧ v'.ownBlock ≠ some b) y u := by
    intro y u hy0
    have hy := VR.below hy0 hb
    have h5 : VR W1 (fun b => (B ≤ b ∧ v'.ownBlock ≠ some b) ∧ v.ownBlock ≠ some b) y u := VR.mono (fun b hb hlt => ⟨⟨hb.1, by
      rcases hat with e | e
      · rw [e]; exact hb.2
      · rw [e]; simp; omega⟩, hb.2⟩) y u hy
    have h6 : VR W2 (fun b => (B ≤ b ∧ v'.ownBlock ≠ some b) ∧ v.ownBlock ≠ some b) y u := VR.keep (fun b hb hlt => hg.block b hlt (fun e => hb.2 e.symm)) hg.size y u h5
    exact VR.mono (fun b hb _ => hb.1) y u h6
  refine ⟨q ++ [p], by simp [h2], ?_, fun i hi hi' => ?_⟩
  · rw [List.length_append, cells4_app]
    exact hown
  · by_cases hlt : i < vs.length
    · have e1 : (vs ++ [x])[i] = vs[i] := List.getElem_append_left hlt
      have e2 : (q ++ [p])[i] = q[i]'(by omega) := List.getElem_append_left (by omega)
      rw [e1, e2]
      exact hlift _ _ (h4 i hlt (by omega))
    · have hi2 : i = vs.length := by simp at hi; omega
      subst hi2
      have e1 : (vs ++ [x])[vs.length] = x := by simp
      have e2 : (q ++ [p])[vs.length] = p := by
        rw [List.getElem_append_right (by omega)]
        simp [h2]
      rw [e1, e2]
      exact hlift _ _ hx
theorem add_zero_off (g n : Nat) : (⟨g, 0, none⟩ : Addr).add n = ⟨g, n, none⟩ := by
  unfold Addr.add
  split
  · rename_i h; rw [h]
  · simp
/-- A row of values is a slice of values. -/
theorem LV.done {B : Nat} {v : Value} {vs : List Val} {W : World} (h : LV B v vs W) (hl : vs.length ≤ 1048576) : VSl W (fun b => B ≤ b) vs v := by
  obtain ⟨q, h1, h2, h3⟩ := h.own
  refine ⟨hl, ?_⟩
  rcases h2.2 with ⟨rfl, h0⟩ | ⟨g, cap, cur, rfl, hg, hh, _⟩
  · exact ⟨none, 0, by rw [h0], fun hne => absurd (List.eq_nil_of_length_eq_zero h0) hne⟩
  · refine ⟨_, cap, rfl, fun _ => ⟨g, 0, rfl, hg, (Array.getElem?_eq_some_iff.1 hh).1, VC.mk fun i hi => ?_⟩⟩
    have hc := World.ownsRow.cells h2 (g := g) rfl
    have hat : ∀ (j : Nat) (u : Value), j < 4 → ((q[i]'(by omega)).cells)[j]? = some u → W.cell? ⟨g, 0 + i * 4 + j, none⟩ = some u := by
      intro j u hj hu
      have := hc (i * 4 + j) u (by rw [cells4_at q i (by omega) j hj]; exact hu)
      rw [add_zero_off] at this
      rw [show 0 + i * 4 + j = i * 4 + j by omega]
      exact this
    refine ⟨(q[i]'(by omega)).agg, ⟨_, _, _, _, rfl, hat 0 _ (by omega) rfl, hat 1 _ (by omega) rfl, hat 2 _ (by omega) rfl, hat 3 _ (by omega) rfl⟩, VR.mono (fun b hb _ => hb.1) _ _ (h3 i hi (by omega))⟩
end Go.Proofs.YtijgmloodkbljaaGreatDoor

namespace Go.Proofs.YtijgmloodkbljaaGreatDoor
open Go Go.RowKit

abbrev vOne : Value := .agg #[.int .i64 1, .int .i64 1, .string ⟨#[]⟩, .slice none 0 0]
abbrev v38 : Value := .agg #[.int .i64 0, .int .i64 0, .string ⟨#[]⟩, .slice none 0 0]
set_option maxHeartbeats 4000000 in
set_option maxRecDepth 100000 in
theorem f236_one (r : Nat) (w : World) (h : RdAt r one1 0 w) : Calls Tryz.prog 236 #[.pointer (some ⟨r, 0, none⟩), .int .i64 1] w (RetR vOne r one1 1 w) := by
  have hrl : r < w.heap.size := (Array.getElem?_eq_some_iff.1 h).1
  have hd49 : digB 49 = true := by decide
  go_enter Tryz.func236, Tryz.ntmps236
  go_wp2_with fail
  have hr0 : RdAt r one1 0 (w.alloc (.cells #[.int .i64 0, .int .i64 0, .string ⟨#[]⟩, .slice none 0 0] 38)) := (heap_alloc_old' w _ _ hrl).trans h
  refine (f309_one r _ hr0).mono ?_
  rintro e w1 ⟨rfl, h1⟩
  have hr1 := hr0.below h1
  have hz1 := alloc_kept h1
  go_wp2_with fail
  refine (f310_digit 49 _).mono ?_
  rintro e w2 ⟨rfl, rfl⟩
  rw [hd49]
  go_wp2_with fail
  refine (f311_one r _ hr1).mono ?_
  rintro e w3 ⟨rfl, hr3, hg3⟩
  go_wp2_with fail
  refine (f75_Int 1 w3).mono ?_
  rintro e w4 ⟨rfl, h4⟩
  have hbr : Hid (w.heap.size ≠ r) := by unfold Hid; omega
  have hz3 : w3.heap[w.heap.size]? = _ := (hg3.block _ (Array.getElem?_eq_some_iff.1 hz1).1 (by simp; omega)).trans hz1
  have hz4 := (h4.block _ (Array.getElem?_eq_some_iff.1 hz3).1).trans hz3
  have hr4 := hr3.below h4
  have hold : ∀ k, k < w.heap.size → k ≠ r → w4.heap[k]? = w.heap[k]? := fun k hk hkr => by
    have e1 : w1.heap[k]? = w.heap[k]? := (h1.block k (by simp; omega)).trans (heap_alloc_old' w _ k hk)
    have s1 : k < w1.heap.size := by have := h1.size; simp at this; omega
    have e2 := (hg3.block k s1 (by simp; omega)).trans e1
    have s2 : k < w3.heap.size := Nat.lt_of_lt_of_le s1 hg3.size
    exact (h4.block k s2).trans e2
  have hos : w4.os = w.os ∧ w4.tape = w.tape ∧ w4.output = w.output ∧ w.heap.size ≤ w4.heap.size := ⟨h4.os.trans (hg3.os.trans h1.os), h4.tape.trans (hg3.tape.trans h1.tape), h4.output.trans (hg3.output.trans h1.output), by have a1 := h1.size; have a2 := hg3.size; have a3 := h4.size; simp at a1; omega⟩
  obtain ⟨⟨z0, z1, z2, z3⟩, y0, y1, y2, y3⟩ := four_of hz4
  obtain ⟨h8, g8⟩ := set4 (v0 := .int .i64 1) (v1 := .int .i64 1) (v2 := .string ⟨#[]⟩) (v3 := .slice none 0 0) hz4
  have hr8 := (g8.block r (Array.getElem?_eq_some_iff.1 hr4).1 (by simp; omega)).trans hr4
  have hfin : GC r w ((((w4.setCell ⟨w.heap.size, 0, none⟩ (.int .i64 1)).setCell ⟨w.heap.size, 1, none⟩ (.int .i64 1)).setCell ⟨w.heap.size, 2, none⟩ (.string ⟨#[]⟩)).setCell ⟨w.heap.size, 3, none⟩ (.slice none 0 0)) :=
    ⟨g8.os.trans hos.1, g8.tape.trans hos.2.1, g8.output.trans hos.2.2.1, Nat.le_trans hos.2.2.2 g8.size, fun k hk hkr => (g8.block k (by omega) (by simp; omega)).trans (hold k hk (fun e => hkr (by rw [e])))⟩
  have H8 := Lib.hid h8
  have HF := Lib.hid hfin
  have HR := Lib.hid hr8
  clear h8 hfin hr8 g8 hold hos
  go_wp2
  refine bodyPost_ret (results_cell_row rfl _ _ w.heap.size 38 #[.int .i64 1, .int .i64 1, .string ⟨#[]⟩, .slice none 0 0] (0, 0) _ rfl H8.out Tryz.underlying38 rfl (by kernel_rfl)) rfl ?_
  exact ⟨rfl, HR.out, HF.out⟩

theorem results_cell3 {P : Program} {fn : Func} {p0 p1 p2 : Tmp} {t0 t1 t2 : TypeId} (h : fn.results = #[.cell p0 t0, .cell p1 t1, .cell p2 t2]) (tmps : Array Value) (w : World) (a0 a1 a2 : Addr) (v0 v1 v2 : Value)
    (hp0 : tmps.getD p0 undef = .pointer (some a0)) (hp1 : tmps.getD p1 undef = .pointer (some a1)) (hp2 : tmps.getD p2 undef = .pointer (some a2))
    (hl0 : (loadVar t0 a0).run P w = .ok v0 w) (hl1 : (loadVar t1 a1).run P w = .ok v1 w) (hl2 : (loadVar t2 a2).run P w = .ok v2 w) : (results fn tmps).run P w = .ok (.tuple #[v0, v1, v2]) w := by
  have q0 : tmps[p0]?.getD undef = .pointer (some a0) := by simpa using hp0
  have q1 : tmps[p1]?.getD undef = .pointer (some a1) := by simpa using hp1
  have q2 : tmps[p2]?.getD undef = .pointer (some a2) := by simpa using hp2
  simp only [results, h]
  simp [Sem.run_bind, Result.andThen, asAddr, q0, q1, q2, hl0, hl1, hl2]
def rdW (s : ByteArray) (w : World) : World := (((w.alloc (.cells #[.int .i64 0, .int .i64 0, .string ⟨#[]⟩, .slice none 0 0] 38)).alloc (.cells #[.int .i64 0] 3)).alloc (.cells #[.bool false] 4)).alloc (.cells #[.string s, .int .i64 0] 265)
def rdR (s : ByteArray) : Array Obj := #[.cells #[.int .i64 0, .int .i64 0, .string ⟨#[]⟩, .slice none 0 0] 38, .cells #[.int .i64 0] 3, .cells #[.bool false] 4, .cells #[.string s, .int .i64 0] 265]
theorem rdW_heap (s : ByteArray) (w : World) : (rdW s w).heap = w.heap ++ rdR s := by
  unfold rdW rdR
  show (((w.heap.push _).push _).push _).push _ = _
  apply Array.ext'
  simp
theorem rdW_row (s : ByteArray) (w : World) (i : Nat) (h : i < 4) : (rdW s w).heap[w.heap.size + i]? = (rdR s)[i]? := by
  rw [rdW_heap, Array.getElem?_append_right (by omega)]
  congr 1
  omega
set_option maxHeartbeats 4000000 in
set_option maxRecDepth 100000 in
theorem f175_one (w : World) : Calls Tryz.prog 175 #[.string one1] w (Ret (.tuple #[vOne, .int .i64 0, .bool true]) w) := by
  have hmf : ∀ (fn : Fn) (first cap : Array Value) (w : World), (Instr.makeFunc fn first cap).run Tryz.prog w = .ok (.func fn first cap) w := fun _ _ _ _ => rfl
  go_enter_defers Tryz.func175, Tryz.ntmps175
  go_wp2_with fail
  simp only [Nat.add_assoc, Nat.reduceAdd]
  have hW : rdW one1 w = rdW one1 w := rfl
  conv at hW => lhs; unfold rdW
  rw [hW]
  obtain ⟨W0, hW0⟩ : ∃ W0, rdW one1 w = W0 := ⟨_, rfl⟩
  rw [hW0]
  have q0 : W0.heap[w.heap.size]? = some (.cells #[.int .i64 0, .int .i64 0, .string ⟨#[]⟩, .slice none 0 0] 38) := by rw [← hW0]; exact rdW_row _ _ 0 (by decide)
  have q1 : W0.heap[w.heap.size + 1]? = some (.cells #[.int .i64 0] 3) := by rw [← hW0]; exact rdW_row _ _ 1 (by decide)
  have q2 : W0.heap[w.heap.size + 2]? = some (.cells #[.bool false] 4) := by rw [← hW0]; exact rdW_row _ _ 2 (by decide)
  have q3 : RdAt (w.heap.size + 3) one1 0 W0 := by rw [← hW0]; exact rdW_row _ _ 3 (by decide)
  have hsz : W0.heap.size = w.heap.size + 4 := by rw [← hW0, rdW_heap]; simp [rdR]
  have hbw : Below w.heap.size w W0 := by
    rw [← hW0]
    exact ((((Below.refl _ w).alloc (Nat.le_refl _) _).alloc (by simp) _).alloc (by simp; omega) _).alloc (by simp; omega) _
  clear hW hW0
  refine (f236_one (w.heap.size + 3) W0 q3).mono ?_
  rintro e w1 ⟨rfl, hr1, hg1⟩
  generalize hb : w.heap.size = b at *
  have HB := Lib.hid hb
  clear hb
  have p0 := (hg1.block b (by omega) (by simp)).trans q0
  have p1 := (hg1.block (b + 1) (by omega) (by simp)).trans q1
  have p2 := (hg1.block (b + 2) (by omega) (by simp)).trans q2
  obtain ⟨⟨z0, z1, z2, z3⟩, y0, y1, y2, y3⟩ := four_of p0
  have k1 : w1.cell? ⟨b + 3, 1, none⟩ = some (.int .i64 1) := Lib.cell_of_heap hr1 1
  have e1 : w1.cell? ⟨b + 1, 0, none⟩ = some (.int .i64 0) := Lib.cell_of_heap p1 0
  have f1 : w1.frozen? ⟨b + 1, 0, none⟩ = false := Lib.frozen_of_heap p1 0
  have e2 : w1.cell? ⟨b + 2, 0, none⟩ = some (.bool false) := Lib.cell_of_heap p2 0
  have f2 : w1.frozen? ⟨b + 2, 0, none⟩ = false := Lib.frozen_of_heap p2 0
  obtain ⟨hA, gA⟩ := set4 (v0 := .int .i64 1) (v1 := .int .i64 1) (v2 := .string ⟨#[]⟩) (v3 := .slice none 0 0) p0
  obtain ⟨hB, gB⟩ := set4 (v0 := .int .i64 1) (v1 := .int .i64 1) (v2 := .string ⟨#[]⟩) (v3 := .slice none 0 0) hA
  have gAB := GC.trans (c := b) gA gB
  have s1 : w1.heap.size = w1.heap.size := rfl
  have l1 : b + 1 < w1.heap.size := (Array.getElem?_eq_some_iff.1 p1).1
  have l2 : b + 2 < w1.heap.size := (Array.getElem?_eq_some_iff.1 p2).1
  have m1 := (gAB.block (b + 1) l1 (by simp)).trans p1
  have m2 := (gAB.block (b + 2) l2 (by simp)).trans p2
  have hos : w1.os = w.os ∧ w1.tape = w.tape ∧ w1.output = w.output := ⟨hg1.os.trans hbw.os, hg1.tape.trans hbw.tape, hg1.output.trans hbw.output⟩
  have hold : ∀ k, k < b → w1.heap[k]? = w.heap[k]? := fun k hk => (hg1.block k (by omega) (by simp; omega)).trans (hbw.block k hk)
  generalize hX : ((((((((w1.setCell ⟨b, 0, none⟩ (.int .i64 1)).setCell ⟨b, 1, none⟩ (.int .i64 1)).setCell ⟨b, 2, none⟩ (.string ⟨#[]⟩)).setCell ⟨b, 3, none⟩ (.slice none 0 0)).setCell ⟨b, 0, none⟩ (.int .i64 1)).setCell ⟨b, 1, none⟩ (.int .i64 1)).setCell ⟨b, 2, none⟩ (.string ⟨#[]⟩)).setCell ⟨b, 3, none⟩ (.slice none 0 0)) = X at *
  obtain ⟨n1, g1⟩ := setCell_block X (b + 1) 0 (.int .i64 0) _ _ m1
  have n2 := (g1.block (b + 2) (Array.getElem?_eq_some_iff.1 m2).1 (by simp)).trans m2
  have n0 := (g1.block b (Array.getElem?_eq_some_iff.1 hB).1 (by simp)).trans hB
  obtain ⟨o2, g2⟩ := setCell_block _ (b + 2) 0 (.bool true) _ _ n2
  have o0 := (g2.block b (Array.getElem?_eq_some_iff.1 n0).1 (by simp)).trans n0
  have o1 := (g2.block (b + 1) (Array.getElem?_eq_some_iff.1 n1).1 (by simp)).trans n1
  have hfin : Below b w ((X.setCell ⟨b + 1, 0, none⟩ (.int .i64 0)).setCell ⟨b + 2, 0, none⟩ (.bool true)) := by
    have a1 := gAB.size
    have a2 := g1.size
    have a3 := g2.size
    exact ⟨g2.os.trans (g1.os.trans (gAB.os.trans hos.1)), g2.tape.trans (g1.tape.trans (gAB.tape.trans hos.2.1)), g2.output.trans (g1.output.trans (gAB.output.trans hos.2.2)), by have := HB.out; omega,
      fun k hk => (g2.block k (by omega) (by simp; omega)).trans ((g1.block k (by omega) (by simp; omega)).trans ((gAB.block k (by omega) (by simp; omega)).trans (hold k hk)))⟩
  have O0 := Lib.hid o0
  have O1 := Lib.hid o1
  have O2 := Lib.hid o2
  have HF := Lib.hid hfin
  have HX := Lib.hid hX
  clear hX hfin o0 o1 o2 g1 g2 n1 n2 n0 m1 m2 gAB gA gB hA hB
  go_wp2
  refine leaves_cons (f := 235) (args := #[.pointer (some ⟨b, 0, none⟩), .pointer (some ⟨b + 1, 0, none⟩), .pointer (some ⟨b + 2, 0, none⟩)]) (by simp) (by simp [go_sem]) ?_
  refine (f235_idle ⟨b, 0, none⟩ ⟨b + 1, 0, none⟩ ⟨b + 2, 0, none⟩ _).mono ?_
  rintro e u' w'' ⟨rfl, rfl, rfl⟩
  rw [HX.out]
  refine ⟨.tuple #[vOne, .int .i64 0, .bool true], ?_, ⟨rfl, by rw [HB.out]; exact HF.out⟩⟩
  refine results_cell3 rfl _ _ ⟨b, 0, none⟩ ⟨b + 1, 0, none⟩ ⟨b + 2, 0, none⟩ _ _ _ rfl rfl rfl (run_loadVar_row _ b 38 38 _ (0, 0) _ O0.out Tryz.underlying38 rfl (by kernel_rfl)) ?_ ?_
  · have c := Lib.cell_of_heap O1.out 0
    generalize (X.setCell ⟨b + 1, 0, none⟩ (.int .i64 0)).setCell ⟨b + 2, 0, none⟩ (.bool true) = W9 at *
    go_simp
  · have c := Lib.cell_of_heap O2.out 0
    generalize (X.setCell ⟨b + 1, 0, none⟩ (.int .i64 0)).setCell ⟨b + 2, 0, none⟩ (.bool true) = W9 at *
    go_simp
end Go.Proofs.YtijgmloodkbljaaGreatDoor

namespace Go.Proofs.YtijgmloodkbljaaGreatDoor
open Go Go.RowKit

/-- Since w only block r has turned, and block A, which is newer, holds o. -/
def EF (r A : Nat) (o : Obj) (w W : World) : Prop := GC r w W ∧ W.heap[A]? = some o ∧ A ≠ r
theorem EF.start (r : Nat) (o : Obj) (w : World) (hr : r < w.heap.size) : EF r w.heap.size o w (w.alloc o) :=
  ⟨GC.of_below ((Below.refl _ _).alloc (Nat.le_refl _) _), heap_alloc_new w o, by omega⟩
theorem EF.gc {r A : Nat} {o : Obj} {w W W' : World} (h : EF r A o w W) (hg : GC r W W') : EF r A o w W' :=
  ⟨h.1.trans hg, (hg.block A (Array.getElem?_eq_some_iff.1 h.2.1).1 (by simp; exact h.2.2)).trans h.2.1, h.2.2⟩
theorem EF.below {r A : Nat} {o : Obj} {w W W' : World} (h : EF r A o w W) (hb : Below W.heap.size W W') : EF r A o w W' := h.gc (GC.of_below hb)
theorem EF.alloc {r A : Nat} {o : Obj} {w W : World} (h : EF r A o w W) (o' : Obj) : EF r A o w (W.alloc o') := h.below ((Below.refl _ _).alloc (Nat.le_refl _) _)
abbrev set4W (W : World) (A : Nat) (v0 v1 v2 v3 : Value) : World := (((W.setCell ⟨A, 0, none⟩ v0).setCell ⟨A, 1, none⟩ v1).setCell ⟨A, 2, none⟩ v2).setCell ⟨A, 3, none⟩ v3
theorem EF.set {r A : Nat} {t : TypeId} {a0 a1 a2 a3 : Value} {w W : World} (h : EF r A (.cells #[a0, a1, a2, a3] t) w W) (hA : w.heap.size ≤ A) (v0 v1 v2 v3 : Value) :
    (set4W W A v0 v1 v2 v3).heap[A]? = some (.cells #[v0, v1, v2, v3] t) ∧ GC r w (set4W W A v0 v1 v2 v3) ∧ GC A W (set4W W A v0 v1 v2 v3) := by
  obtain ⟨h1, h2⟩ := set4 (v0 := v0) (v1 := v1) (v2 := v2) (v3 := v3) h.2.1
  have g := h.1
  exact ⟨h1, ⟨h2.os.trans g.os, h2.tape.trans g.tape, h2.output.trans g.output, Nat.le_trans g.size h2.size, fun k hk hr => (h2.block k (Nat.lt_of_lt_of_le hk g.size) (by simp; omega)).trans (g.block k hk hr)⟩, h2⟩
theorem EF.rd {r A k : Nat} {s : ByteArray} {t : TypeId} {a0 a1 a2 a3 : Value} {w W : World} (h : EF r A (.cells #[a0, a1, a2, a3] t) w W) (hr : RdAt r s k W) (v0 v1 v2 v3 : Value) : RdAt r s k (set4W W A v0 v1 v2 v3) := by
  obtain ⟨h1, h2⟩ := set4 (v0 := v0) (v1 := v1) (v2 := v2) (v3 := v3) h.2.1
  exact (h2.block r (Array.getElem?_eq_some_iff.1 hr).1 (by simp; exact fun e => h.2.2 e.symm)).trans hr
def flatV : Val → Value | .mk k n s _ => .agg #[.int .i64 k, .int .i64 n, .string s, .slice none 0 0]
def ElR (x : Option (Val × List UInt8)) (r : Nat) (s : ByteArray) (w : World) (e : Ending) (w' : World) : Prop :=
  match x with | some y => RetD (flatV y.1) r s y.2 w e w' | none => Gave r w e w'
theorem ElR.none {r : Nat} {s : ByteArray} {w : World} {x : Option (Val × List UInt8)} (hx : x = none) {e : Ending} {w' : World} (h : Gave r w e w') : ElR x r s w e w' := by subst hx; exact h
theorem ElR.some {r : Nat} {s : ByteArray} {w : World} {x : Option (Val × List UInt8)} {y : Val} {l : List UInt8} (hx : x = some (y, l)) {v : Value} (hv : v = flatV y) {j : Nat} (hj : j ≤ s.size) (hl : s.data.toList.drop j = l) {w' : World} (h1 : RdAt r s j w') (h2 : GC r w w') : ElR x r s w (.returned v) w' := by
  subst hx hv; exact ⟨j, hj, hl, rfl, h1, h2⟩

theorem f92_Bool (b : Bool) (w : World) : Calls Tryz.prog 92 #[.bool b] w (Ret (.agg #[.int .i64 3, .int .i64 (if b = true then 1 else 0), .string ⟨#[]⟩, .slice none 0 0]) w) := by
  cases b
  all_goals
    go_enter Tryz.func92, Tryz.ntmps92
    go_wp2
    go_returns
    exact ⟨rfl, by go_grown⟩
theorem must_at {m l l1 : List UInt8} {s : ByteArray} {k : Nat} (hk : k ≤ s.size) (hl : s.data.toList.drop k = l) (h : mustP m l = some l1) : s.data.toList.drop (k + m.length) = l1 ∧ k + m.length ≤ s.size := by
  have h1 := mustP_inv h
  rw [h1] at hl
  refine ⟨?_, ?_⟩
  · rw [← List.drop_drop, hl]
    simp
  · have := congrArg List.length hl
    simp at this
    omega
set_option maxHeartbeats 4000000 in
set_option maxRecDepth 100000 in
theorem f314_element (r : Nat) (s : ByteArray) (k : Nat) (kind : Int) (w : World) (h : RdAt r s k w) (c : UInt8) (l : List UInt8) (hl : s.data.toList.drop k = c :: l) (hs : s.size ≤ 1048576) (hL : LdE w) (hr8 : 8 ≤ r) :
    Calls Tryz.prog 314 #[.pointer (some ⟨r, 0, none⟩), .int .i64 kind] w (ElR (elemP kind l) r s w) := by
  generalize hR : elemP kind l = R
  have HR := Lib.hid hR
  clear hR
  obtain ⟨hD, hkl⟩ := drop_succ_of hl
  have hrl : r < w.heap.size := (Array.getElem?_eq_some_iff.1 h).1
  have hE0 := EF.start r (.cells #[.int .i64 0, .int .i64 0, .string ⟨#[]⟩, .slice none 0 0] 38) w hrl
  have hr0 : RdAt r s k (w.alloc (.cells #[.int .i64 0, .int .i64 0, .string ⟨#[]⟩, .slice none 0 0] 38)) := (heap_alloc_old' w _ _ hrl).trans h
  have hw0 := hide (EF.rd (t := 38) hE0 hr0)
  have hL0 := hL.alloc (.cells #[.int .i64 0, .int .i64 0, .string ⟨#[]⟩, .slice none 0 0] 38)
  have HL := hide hL0
  have HD := Lib.hid hD
  clear hD hl h hL hL0 hw0
  obtain ⟨A, hA⟩ : ∃ A, w.heap.size = A := ⟨_, rfl⟩
  have HA := Lib.hid hA
  have c1 : (w.alloc (.cells #[.int .i64 0, .int .i64 0, .string ⟨#[]⟩, .slice none 0 0] 38)).cell? ⟨r, 1, none⟩ = some (.int .i64 k) := Lib.cell_of_heap hr0 1
  have cf : (w.alloc (.cells #[.int .i64 0, .int .i64 0, .string ⟨#[]⟩, .slice none 0 0] 38)).frozen? ⟨r, 1, none⟩ = false := Lib.frozen_of_heap hr0 1
  obtain ⟨hr1, hg1⟩ := hr0.set (k + 1)
  have hE1 := hE0.gc hg1
  have hL1 := (unhide HL).gc hg1 hr8
  have ek : ((k + 1 : Nat) : Int) = (k : Int) + 1 := by omega
  rw [ek] at hr1 hE1 hL1
  clear ek hg1 hE0 hr0 HL
  have HR1 := hide hr1
  have HE1 := hide hE1
  have HL1 := hide hL1
  clear hr1 hE1 hL1
  go_enter Tryz.func314, Tryz.ntmps314
  go_wp2_with fail
  have hr1 := unhide HR1
  have hE1 := unhide HE1
  have hL1 := unhide HL1
  clear HR1 HE1 HL1 c1 cf
  generalize World.setCell _ _ _ = w1 at hr1 hE1 hL1 ⊢
  rw [hA] at hE1
  clear hA
  refine (f313_must r s (k + 1) ⟨#[91]⟩ _ hr1 (by omega) hs (by decide)).mono ?_
  rintro e w2 hm2
  have hm3 : MustR (mustP [91] (s.data.toList.drop (k + 1))) r s (k + 1 + 1) w1 e w2 := hm2
  rw [HD.out] at hm3
  clear hm2
  cases hm : mustP [91] l with
  | none =>
    rw [hm] at hm3
    have hRn : Hid (R = none) := by unfold Hid; rw [← HR.out]; unfold elemP; rw [hm]; rfl
    obtain ⟨q, rfl, hg2⟩ := hm3
    exact ⟨rfl, ElR.none hRn.out ⟨q, rfl, (hE1.gc hg2).1⟩⟩
  | some l1 =>
    rw [hm] at hm3
    obtain ⟨rfl, hr2, hg2⟩ := hm3
    have hE2 := hE1.gc hg2
    have hL2 := hL1.gc hg2 hr8
    obtain ⟨hD2, hk2⟩ := must_at (by omega) HD.out hm
    have HM := Lib.hid hm
    have HD2 := Lib.hid hD2
    clear hm hD2 hg2 hE1 hL1 hr1
    have hk2' : k + 1 + 1 ≤ s.size := hk2
    go_wp2_with fail
    refine (f311_number r s (k + 1 + 1) w2 hr2 hk2' hs hL2 hr8).mono ?_
    rintro e w3 hn
    have hD2' : s.data.toList.drop (k + 1 + 1) = l1 := HD2.out
    rw [hD2'] at hn
    cases hnm : numP l1 with
    | none =>
      rw [hnm] at hn
      have hRn : Hid (R = none) := by unfold Hid; rw [← HR.out]; unfold elemP; rw [HM.out, Option.bind_some, hnm]; rfl
      obtain ⟨q, rfl, hg3⟩ := hn
      exact ⟨rfl, ElR.none hRn.out ⟨q, rfl, (hE2.gc hg3).1⟩⟩
    | some y =>
      obtain ⟨n, l2⟩ := y
      rw [hnm] at hn
      obtain ⟨j, hj, hjl, rfl, hr3, hg3⟩ := hn
      have hE3 := hE2.gc hg3
      have HN := Lib.hid hnm
      have HJ := Lib.hid hjl
      clear hnm hjl hg3 hE2 hL2 hr2 hD2'
      have hE4 := hE3.alloc (.cells #[.int .i64 kind, .int .i64 n, .string ⟨#[]⟩, .slice none 0 0] 38)
      have hr4 : RdAt r s j (w3.alloc (.cells #[.int .i64 kind, .int .i64 n, .string ⟨#[]⟩, .slice none 0 0] 38)) := (heap_alloc_old' w3 _ _ (Array.getElem?_eq_some_iff.1 hr3).1).trans hr3
      have hV4 := heap_alloc_new w3 (.cells #[.int .i64 kind, .int .i64 n, .string ⟨#[]⟩, .slice none 0 0] 38)
      have hAne : w3.heap.size ≠ r := by have := (Array.getElem?_eq_some_iff.1 hr3).1; omega
      obtain ⟨V, hV⟩ : ∃ V, w3.heap.size = V := ⟨_, rfl⟩
      rw [hV] at hV4 hAne
      have HAV : Hid (A ≠ V) := by
        unfold Hid
        have := (Array.getElem?_eq_some_iff.1 hE3.2.1).1
        omega
      go_wp2_with fail
      clear hV hE3 hr3
      generalize w3.alloc (.cells #[.int .i64 kind, .int .i64 n, .string ⟨#[]⟩, .slice none 0 0] 38) = w4 at hE4 hr4 hV4 ⊢
      refine (f313_must r s j ⟨#[93]⟩ _ hr4 hj hs (by decide)).mono ?_
      rintro e w5 hm2
      have hm3 : MustR (mustP [93] (s.data.toList.drop j)) r s (j + 1) w4 e w5 := hm2
      rw [HJ.out] at hm3
      clear hm2
      cases hm : mustP [93] l2 with
      | none =>
        rw [hm] at hm3
        have hRn : Hid (R = none) := by unfold Hid; rw [← HR.out]; unfold elemP; rw [HM.out, Option.bind_some, HN.out, Option.bind_some]; dsimp only; rw [hm]; rfl
        obtain ⟨q, rfl, hg5⟩ := hm3
        exact ⟨rfl, ElR.none hRn.out ⟨q, rfl, (hE4.gc hg5).1⟩⟩
      | some l3 =>
        rw [hm] at hm3
        obtain ⟨rfl, hr5, hg5⟩ := hm3
        have hRs : Hid (R = some (.mk kind n ⟨#[]⟩ [], l3)) := by unfold Hid; rw [← HR.out]; unfold elemP; rw [HM.out, Option.bind_some, HN.out, Option.bind_some]; dsimp only; rw [hm]; rfl
        obtain ⟨hD5, hk5⟩ := must_at hj HJ.out hm
        have hE5 := hE4.gc hg5
        have hV5 := (hg5.block V (Array.getElem?_eq_some_iff.1 hV4).1 (by simp; exact hAne)).trans hV4
        obtain ⟨⟨x0, x1, x2, x3⟩, _⟩ := four_of hV5
        obtain ⟨⟨z0, z1, z2, z3⟩, y0, y1, y2, y3⟩ := four_of hE5.2.1
        obtain ⟨hA6, hg6, _⟩ := hE5.set (by have := HA.out; omega) (.int .i64 kind) (.int .i64 n) (.string ⟨#[]⟩) (.slice none 0 0)
        have hr6 := hE5.rd hr5 (.int .i64 kind) (.int .i64 n) (.string ⟨#[]⟩) (.slice none 0 0)
        have HD5 := Lib.hid hD5
        have HA6 := hide hA6
        have HG6 := hide hg6
        have HR6 := hide hr6
        clear hD5 hA6 hg6 hr6 hm hg5 hE4 hr4 hV4
        go_wp2
        refine bodyPost_ret (results_cell_row rfl _ _ A 38 #[.int .i64 kind, .int .i64 n, .string ⟨#[]⟩, .slice none 0 0] (0, 0) _ rfl (unhide HA6) Tryz.underlying38 rfl (by kernel_rfl)) rfl ?_
        exact ElR.some hRs.out rfl hk5 HD5.out (unhide HR6) (unhide HG6)
end Go.Proofs.YtijgmloodkbljaaGreatDoor

namespace Go.Proofs.YtijgmloodkbljaaGreatDoor
open Go Go.RowKit

def ValRd (x : Option (Val × List UInt8)) (r : Nat) (s : ByteArray) (w : World) (e : Ending) (w' : World) : Prop :=
  match x with
  | some y => ∃ v j, j ≤ s.size ∧ s.data.toList.drop j = y.2 ∧ e = .returned v ∧ VR w' (fun b => w.heap.size ≤ b) y.1 v ∧ RdAt r s j w' ∧ GC r w w'
  | none => Gave r w e w'
def LstRd (x : Option (List Val × List UInt8)) (r : Nat) (s : ByteArray) (w : World) (e : Ending) (w' : World) : Prop :=
  match x with
  | some y => ∃ v j, j ≤ s.size ∧ s.data.toList.drop j = y.2 ∧ e = .returned v ∧ VSl w' (fun b => w.heap.size ≤ b) y.1 v ∧ RdAt r s j w' ∧ GC r w w'
  | none => Gave r w e w'
theorem ValRd.none {r : Nat} {s : ByteArray} {w : World} {x : Option (Val × List UInt8)} (hx : x = none) {e : Ending} {w' : World} (h : Gave r w e w') : ValRd x r s w e w' := by subst hx; exact h
theorem LstRd.none {r : Nat} {s : ByteArray} {w : World} {x : Option (List Val × List UInt8)} (hx : x = none) {e : Ending} {w' : World} (h : Gave r w e w') : LstRd x r s w e w' := by subst hx; exact h
theorem ValRd.some {r : Nat} {s : ByteArray} {w : World} {x : Option (Val × List UInt8)} {y : Val} {l : List UInt8} (hx : x = some (y, l)) {v : Value} {j : Nat} (hj : j ≤ s.size) (hl : s.data.toList.drop j = l) {w' : World} (hv : VR w' (fun b => w.heap.size ≤ b) y v) (h1 : RdAt r s j w') (h2 : GC r w w') : ValRd x r s w (.returned v) w' := by
  subst hx; exact ⟨v, j, hj, hl, rfl, hv, h1, h2⟩
theorem LstRd.some {r : Nat} {s : ByteArray} {w : World} {x : Option (List Val × List UInt8)} {y : List Val} {l : List UInt8} (hx : x = some (y, l)) {v : Value} {j : Nat} (hj : j ≤ s.size) (hl : s.data.toList.drop j = l) {w' : World} (hv : VSl w' (fun b => w.heap.size ≤ b) y v) (h1 : RdAt r s j w') (h2 : GC r w w') : LstRd x r s w (.returned v) w' := by
  subst hx; exact ⟨v, j, hj, hl, rfl, hv, h1, h2⟩
/-- What (*reader).value promises, so many levels left. -/
def ValOk (d : Nat) : Prop := ∀ (r : Nat) (s : ByteArray) (k : Nat) (w : World), RdAt r s k w → k ≤ s.size → s.size ≤ 1048576 → LdE w → 8 ≤ r →
  Calls Tryz.prog 236 #[.pointer (some ⟨r, 0, none⟩), .int .i64 (9 - (d : Int))] w (ValRd (valP d (s.data.toList.drop k)) r s w)

theorem textV_ne (d : Nat) (v : Val) : textV d v ≠ [] := by
  cases d with
  | zero => cases v; simp [textV]
  | succ d =>
    obtain ⟨k, n, s, l⟩ := v
    unfold textV
    split
    · obtain ⟨c, x, h1, _⟩ := itoa_head n []
      rw [List.append_nil] at h1
      rw [h1]; simp
    · split
      · unfold quoteL; simp
      · split
        · split <;> simp
        · split
          · simp
          · split
            · simp
            · split
              · simp
              · split <;> simp
theorem valP_lt {d : Nat} {l r : List UInt8} {v : Val} (h : valP d l = some (v, r)) : r.length < l.length := by
  obtain ⟨h1, _⟩ := valP_inv d l v r h
  have : 0 < (textV d v).length := List.length_pos_iff.2 (textV_ne d v)
  rw [h1, List.length_append]
  omega
theorem drop_pos {s : ByteArray} {i j : Nat} {a b : List UInt8} (hi : i ≤ s.size) (hj : j ≤ s.size) (ha : s.data.toList.drop i = a) (hb : s.data.toList.drop j = b) (h : b.length < a.length) : i < j := by
  have a1 := congrArg List.length ha
  have b1 := congrArg List.length hb
  simp at a1 b1
  omega
theorem drop_pos_le {s : ByteArray} {i j : Nat} {a b : List UInt8} (hi : i ≤ s.size) (hj : j ≤ s.size) (ha : s.data.toList.drop i = a) (hb : s.data.toList.drop j = b) (h : b.length ≤ a.length) : i ≤ j := by
  have a1 := congrArg List.length ha
  have b1 := congrArg List.length hb
  simp at a1 b1
  omega
theorem mustP_le {m l l1 : List UInt8} (h : mustP m l = some l1) : l1.length ≤ l.length := by
  rw [mustP_inv h, List.length_append]; omega
theorem here_eq {e : UInt8} (he : e ≠ 0) (l : List UInt8) : ((hereU l).toNat : Int) = e.toNat ↔ l.head? = some e := by
  cases l with
  | nil =>
    have : ¬ e.toNat = 0 := fun h => he (UInt8.toNat_inj.1 h)
    show ((0 : UInt8).toNat : Int) = _ ↔ _
    simp; omega
  | cons c t =>
    show (c.toNat : Int) = _ ↔ _
    simp
    constructor
    · intro h; exact UInt8.toNat_inj.1 (by omega)
    · intro h; rw [h]
theorem infoVal : (Tryz.prog.info? 38).map (fun i => (i.zero, i.size, i.bytes)) = some (some (.agg #[.int .i64 0, .int .i64 0, .string ⟨#[]⟩, .slice none 0 0]), 4, 56) := by kernel_rfl

/-- What stands behind 'l = append(l, v)': the row with one value more. -/
theorem LV.step {B r j : Nat} {s : ByteArray} {w W W2 : World} {v v' : Value} {vs : List Val} {x : Val} {p : F4} {q : List F4} (hB : w.heap.size = B) (h1 : q.length = vs.length) (h2 : W.ownsRow B 38 4 v vs.length (cells4 q))
    (h3 : ∀ (i : Nat) (h : i < vs.length) (h' : i < q.length), VR W (fun b => B ≤ b ∧ v.ownBlock ≠ some b) vs[i] (q[i]).agg) (hx : VR W (fun b => B ≤ b ∧ v.ownBlock ≠ some b) x p.agg)
    (hr : RdAt r s j W) (hg : GC r w W) (hrl : r < B)
    (hown : W2.ownsRow B 38 4 v' (vs.length + 1) (cells4 q ++ p.cells))
    (hgr : (W.alloc (.cells #[p.1, p.2.1, p.2.2.1, p.2.2.2] 38)).grownBy W2 v.ownBlock) (hat : v'.ownBlock = v.ownBlock ∨ v'.ownBlock = some (W.alloc (.cells #[p.1, p.2.1, p.2.2.1, p.2.2.2] 38)).heap.size) :
    LV B v' (vs ++ [x]) W2 ∧ RdAt r s j W2 ∧ GC r w W2 := by
  have hb : Below W.heap.size W (W.alloc (.cells #[p.1, p.2.1, p.2.2.1, p.2.2.2] 38)) := (Below.refl _ _).alloc (Nat.le_refl _) _
  have h9 := LV.push h1 h3 hx hb hown hgr hat
  have hne : ∀ k, k < B → v.ownBlock ≠ some k := fun k hk e => by have := (own_ge h2 k e).1; omega
  have hrW : r < W.heap.size := (Array.getElem?_eq_some_iff.1 hr).1
  have hs1 : (W.alloc (.cells #[p.1, p.2.1, p.2.2.1, p.2.2.2] 38)).heap.size = W.heap.size + 1 := by simp
  refine ⟨h9, ?_, ?_⟩
  · exact (hgr.block r (by omega) (fun e => hne r hrl e.symm)).trans ((heap_alloc_old' W _ r hrW).trans hr)
  · refine ⟨hgr.os.trans hg.os, hgr.tape.trans hg.tape, hgr.output.trans hg.output, by have := hgr.size; have := hg.size; omega, fun k hk hkr => ?_⟩
    have := hg.size
    exact (hgr.block k (by omega) (fun e => hne k (by omega) e.symm)).trans ((heap_alloc_old' W _ k (by omega)).trans (hg.block k hk hkr))
theorem valIn {B : Nat} {v : Value} {vs : List Val} {W W' : World} {x : Val} {u : Value} (h : LV B v vs W) (hB : B ≤ W.heap.size) (hx : VR W' (fun b => W.heap.size ≤ b) x u) : VR W' (fun b => B ≤ b ∧ v.ownBlock ≠ some b) x u := by
  obtain ⟨q, _, h2, _⟩ := h.own
  refine VR.mono (fun b hb _ => ⟨by omega, fun e => ?_⟩) x u hx
  have := (own_ge h2 b e).2
  omega
end Go.Proofs.YtijgmloodkbljaaGreatDoor
