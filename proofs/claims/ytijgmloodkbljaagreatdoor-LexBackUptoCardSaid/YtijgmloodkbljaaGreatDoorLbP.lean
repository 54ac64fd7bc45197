import Derived.Test.YtijgmloodkbljaaGreatDoorLbO
import Derived.Maps.AppendAt
import Derived.Maps.OwnIn
namespace Go.Proofs.YtijgmloodkbljaaGreatDoor
open Go Go.RowKit Go.Shelf

variable {F : Fence} {n : Nat} {P : Program}

/-- The blocks c, D and D + 1 lie as they lay. -/
def KF (c D : Nat) (W W' : World) : Prop := ∀ r, (r = c ∨ r = D ∨ r = D + 1) → W'.heap[r]? = W.heap[r]?
def postB {α : Type} (c D : Nat) (I Ix : List α → World → Prop) (xs : List α) (W : World) : Exit → Act → World → Prop
  | .normal, _, W' => KF c D W W' ∧ I xs W'
  | .ret, _, W' => KF c D W W' ∧ Ix xs W'
  | _, _, _ => False

/-- 'for x := range g' over an iterator that writes block c between two rounds: the caller owes an invariant that does not read block c. -/
theorem wpIn_rangeC {α : Type} {g : Operand} {ps : Array Tmp} {assign body : Code} {Q : Exit → Act → World → Prop} {a : Act} {w : World}
    (hro : F.round = none) (h1 : F.depth.isSome = true → 1 ≤ n) {gf : Nat} {lb : Array Value} (hg : a.eval g = .func (.func gf) #[] lb) (hFg : F.fn gf) (eg : ∀ args w, (callFunc gf args).run P w = .ok (.enter gf args) w)
    {encs : α → Array Value} (hps : ∀ x, (encs x).size = ps.size) (c D : Nat) (hD : w.heap.size = D) (hc : c < D)
    (S : List α → World → Prop) (Sp : List α → Prop) (I Ix : List α → World → Prop)
    (hIc : ∀ pre A B, I pre A → A.grownBy B (some c) → I pre B) (hIr : ∀ pre A o', I pre A → I pre (A.putObj (D + 1) o')) (hxr : ∀ pre A o', Ix pre A → Ix pre (A.putObj (D + 1) o')) (hSr : ∀ pre A o', S pre A → S pre (A.putObj (D + 1) o'))
    (hseq : ∀ (l : Nat) (J Jx : List α → World → Prop) (W : World), (∀ xs A B, J xs A → A.grownBy B (some c) → J xs B) → (∀ xs A, J xs A → I xs A) →
      (∀ pre x W1, J pre W1 → YieldAt F (n - 1 - 1) P l (encs x) W1 fun e W' => (e = .returned (.bool true) ∧ J (pre ++ [x]) W' ∧ W'.heap[c]? = W1.heap[c]?) ∨ (e = .returned (.bool false) ∧ Jx (pre ++ [x]) W')) →
      Below w.heap.size w W → J [] W → CallsIn F (n - 1) P gf (#[.func (.yield l) #[] #[]] ++ lb) W fun e W' => (∃ v, e = .returned v) ∧ ((∃ xs, S xs W' ∧ J xs W') ∨ (∃ pre, Sp pre ∧ Jx pre W')))
    (h0 : ∀ W, Below w.heap.size w W → D + 2 ≤ W.heap.size → I [] W) (Ax : α → Act → World → Prop) (hAx : ∀ x b A o', Ax x b A → Ax x b (A.putObj (D + 1) o'))
    (hassign : ∀ (l : Nat) (pre : List α) (x : α) (W : World) (K : Act → World → Prop), I pre W → (∀ a₁ W₁, Ax x a₁ W₁ → I pre W₁ → KF c D W W₁ → K a₁ W₁) →
      assign.wpIn (F.inRound l) (n - 1 - 1) P (Exit.then K (fun _ _ _ => False)) { tmps := (ps.zip (encs x)).foldl (fun t (p, v) => t.setIfInBounds p v) a.tmps, defers := [] } W)
    (hbody : ∀ (l : Nat) (pre : List α) (x : α) (a₁ : Act) (W : World), Ax x a₁ W → I pre W → body.wpIn (F.inRound l) (n - 1 - 1) P (postB c D I Ix (pre ++ [x]) W) a₁ W)
    (hdone : ∀ (xs : List α) (W : World), S xs W → I xs W → W.heap[D]? = some (.deferred (some [])) → Q .normal { a with defers := { target := .collected D, args := #[] } :: a.defers } W)
    (hstop : ∀ (pre : List α) (W : World), Sp pre → Ix pre W → W.heap[D]? = some (.deferred (some [])) → Code.ret.wpIn F n P Q { a with defers := { target := .collected D, args := #[] } :: a.defers } W) :
    (Code.rangeFunc g ps assign body).wpIn F n P Q a w := by
  subst hD
  refine wpIn_rangeFunc ?_
  intro fn hfn
  rw [hro]
  obtain ⟨rec, hrec⟩ : ∃ rec : LoopState → Option Code → Loop, rec = fun st pe => { state := st, pending := pe, fn, tmps := a.tmps, params := ps, assign, body, defers := w.heap.size } := ⟨_, rfl⟩
  obtain ⟨W1, hW1⟩ : ∃ W1, (w.alloc (.deferred (some []))).alloc (.loop (rec .ready none)) = W1 := ⟨_, rfl⟩
  have hL1 : W1.heap[w.heap.size + 1]? = some (.loop (rec .ready none)) := by
    rw [← hW1]; have := World.alloc_heap_new (w.alloc (.deferred (some []))) (.loop (rec .ready none)); rwa [World.size_alloc] at this
  have hK1 : W1.heap[w.heap.size]? = some (.deferred (some [])) := by
    rw [← hW1]; exact (Below.heap_alloc _ _ _ (by simp)).trans (World.alloc_heap_new w _)
  have hb1 : Below w.heap.size w W1 := by
    rw [← hW1]; exact ((Below.refl _ w).alloc (Nat.le_refl _) _).alloc (by simp) _
  refine ⟨w.heap.size + 1, [{ target := .collected w.heap.size, args := #[] }], W1, { target := .fn (.func gf) lb, args := #[.func (.yield (w.heap.size + 1)) #[] #[]] }, W1, gf,
    #[.func (.yield (w.heap.size + 1)) #[] #[]] ++ lb, W1, ?_, ?_, ?_, ?_, h1, ?_⟩
  · rw [← hW1, hrec]; exact run_enterLoop_outer _ _ _ _ _
  · simp only [resolve, hg]
    simp [go_sem]
  · intro f' hf'; simp [Target.leads] at hf'; subst hf'; exact hFg
  · simp [invoke, go_sem, eg]
  · refine (hseq (w.heap.size + 1)
      (fun pre W => I pre W ∧ W.heap[w.heap.size + 1]? = some (.loop (rec .ready none)) ∧ W.heap[w.heap.size]? = some (.deferred (some [])))
      (fun pre W => Ix pre W ∧ W.heap[w.heap.size + 1]? = some (.loop (rec .done (some .ret))) ∧ W.heap[w.heap.size]? = some (.deferred (some [])))
      W1 ?_ (fun _ _ h => h.1) ?_ hb1 ⟨h0 W1 hb1 (by rw [← hW1]; simp), hL1, hK1⟩).mono ?_
    · rintro xs A B ⟨hi, hl, hk⟩ hgr
      exact ⟨hIc xs A B hi hgr, (hgr.block _ (Array.getElem?_eq_some_iff.1 hl).1 (by simp; omega)).trans hl, (hgr.block _ (Array.getElem?_eq_some_iff.1 hk).1 (by simp; omega)).trans hk⟩
    · rintro pre x W ⟨hi, hl, hk⟩
      have hlt : w.heap.size + 1 < W.heap.size := (Array.getElem?_eq_some_iff.1 hl).1
      have hy := run_yield (P := P) (args := encs x) hl (by rw [hrec]; exact hps x)
      rw [hrec] at hy
      refine ⟨fn, _, assign, body, hy, roundIn_of_wpIn hfn (hassign _ pre x W _ hi fun a₁ W₁ hax hi1 hkf => ?_)⟩
      have hl1 : W₁.heap[w.heap.size + 1]? = some (.loop (rec .ready none)) := (hkf _ (.inr (.inr rfl))).trans hl
      have hk1 : W₁.heap[w.heap.size]? = some (.deferred (some [])) := (hkf _ (.inr (.inl rfl))).trans hk
      have hlt1 := (Array.getElem?_eq_some_iff.1 hl1).1
      refine ⟨_, run_beginRound hl1 (by rw [hrec]), ?_⟩
      have hl2 : (W₁.putObj (w.heap.size + 1) (.loop { rec .ready none with state := .busy })).heap[w.heap.size + 1]? = some (.loop { rec .ready none with state := .busy }) := World.putObj_heap_same hlt1
      have hk2 : (W₁.putObj (w.heap.size + 1) (.loop { rec .ready none with state := .busy })).heap[w.heap.size]? = some (.deferred (some [])) := (World.putObj_heap_other (by omega)).trans hk1
      have hc2 : (W₁.putObj (w.heap.size + 1) (.loop { rec .ready none with state := .busy })).heap[c]? = W.heap[c]? := (World.putObj_heap_other (by omega)).trans (hkf _ (.inl rfl))
      refine wpIn_mono (hbody _ pre x a₁ _ (hAx _ _ _ _ hax) (hIr _ _ _ hi1)) ?_
      rintro e a3 W3 hp
      cases e with
      | normal =>
        obtain ⟨hk3, hi3⟩ := hp
        have hl3 := (hk3 _ (.inr (.inr rfl))).trans hl2
        have hr := run_endRound (P := P) none hl3
        refine ⟨_, _, hr, .inl ⟨rfl, ⟨hIr _ _ _ hi3, ?_, (World.putObj_heap_other (by omega)).trans ((hk3 _ (.inr (.inl rfl))).trans hk2)⟩, (World.putObj_heap_other (by omega)).trans ((hk3 _ (.inl rfl)).trans hc2)⟩⟩
        have := World.putObj_heap_same (o := .loop { ({ rec .ready none with state := .busy } : Loop) with state := (if (none : Option Code).isNone = true then .ready else .done), pending := none }) (Array.getElem?_eq_some_iff.1 hl3).1
        rw [hrec] at this ⊢
        exact this
      | ret =>
        obtain ⟨hk3, hi3⟩ := hp
        have hl3 := (hk3 _ (.inr (.inr rfl))).trans hl2
        have hr := run_endRound (P := P) (some .ret) hl3
        refine ⟨_, _, hr, .inr ⟨rfl, hxr _ _ _ hi3, ?_, (World.putObj_heap_other (by omega)).trans ((hk3 _ (.inr (.inl rfl))).trans hk2)⟩⟩
        have := World.putObj_heap_same (o := .loop { ({ rec .ready none with state := .busy } : Loop) with state := (if (some Code.ret : Option Code).isNone = true then .ready else .done), pending := some .ret }) (Array.getElem?_eq_some_iff.1 hl3).1
        rw [hrec] at this ⊢
        exact this
      | exit id => exact hp.elim
      | goto t => exact hp.elim
      | panic ch => exact hp.elim
      | outgrown => exact hp.elim
    · rintro e W2 ⟨⟨v, rfl⟩, (⟨xs, hS, hi, hl, hk⟩ | ⟨pre, hsp, hi, hl, hk⟩)⟩
      · exact ⟨none, _, by have := run_endLoop (P := P) hl (by rw [hrec]; simp); rw [hrec] at this; exact this, hdone xs _ (hSr _ _ _ hS) (hIr _ _ _ hi) ((World.putObj_heap_other (by omega)).trans hk)⟩
      · exact ⟨some .ret, _, by have := run_endLoop (P := P) hl (by rw [hrec]; simp); rw [hrec] at this; exact this, hstop pre _ hsp (hxr _ _ _ hi) ((World.putObj_heap_other (by omega)).trans hk)⟩
end Go.Proofs.YtijgmloodkbljaaGreatDoor

namespace Go.Proofs.YtijgmloodkbljaaGreatDoor
open Go Go.RowKit Go.Shelf
attribute [local go_sem] Oper.semAt_some

theorem infoTok : (Tryz.prog.info? 24).map (fun i => (i.zero, i.size, i.bytes)) = some (some zeroV, 4, 40) := by kernel_rfl
def tcells (t : Tok) : List Value := [.int .i64 t.kind, .string t.text, .int .i64 t.n, .int .i64 t.pos]
theorem tcells_one (t : Tok) : ∀ u ∈ tcells t, u.oneCell' = true := by
  intro u hu
  simp only [tcells, List.mem_cons, List.not_mem_nil, or_false] at hu
  rcases hu with rfl | rfl | rfl | rfl <;> rfl
/-- The slice v is a row of the call's own that holds the tokens. -/
def OwnT (B : Nat) (v : Value) (ts : List Tok) (W : World) : Prop := W.ownsRow B 24 4 v ts.length (ts.flatMap tcells)

theorem f82_all (c : Nat) (w : World) : Calls Tryz.prog 82 #[.pointer (some ⟨c, 0, none⟩)] w fun e w' => e = .returned (.func (.func 160) #[] #[.pointer (some ⟨w.heap.size, 0, none⟩)]) ∧ w' = w.alloc (.cells #[.pointer (some ⟨c, 0, none⟩)] 108) := by
  go_enter Tryz.func82, Tryz.ntmps82
  go_wp2
  go_ret
  exact ⟨rfl, rfl⟩

def lexW (s : ByteArray) (w : World) : World := (((((w.alloc (.cells #[.slice none 0 0] 22)).alloc (.cells #[.int .i64 0] 3)).alloc (.cells #[.int .i64 0] 25)).alloc (.cells #[.string s, .int .i64 0] 110)).alloc (.cells #[.slice none 0 0] 22)).alloc (.cells #[.pointer (some ⟨w.heap.size + 3, 0, none⟩)] 108)

/-- Between two rounds: what was there lies as it lay; the results, the iterator's box; the list. b is the heap's size at the call. -/
structure LI (w : World) (b : Nat) (pre : List Tok) (W : World) : Prop where
  len : pre.length ≤ 4096
  os : W.os = w.os
  tape : W.tape = w.tape
  output : W.output = w.output
  size : b + 8 ≤ W.heap.size
  old : ∀ k, k < b → W.heap[k]? = w.heap[k]?
  r0 : W.heap[b]? = some (.cells #[.slice none 0 0] 22)
  r1 : W.heap[b + 1]? = some (.cells #[.int .i64 0] 3)
  r2 : W.heap[b + 2]? = some (.cells #[.int .i64 0] 25)
  box : W.heap[b + 5]? = some (.cells #[.pointer (some ⟨b + 3, 0, none⟩)] 108)
  list : ∃ v, W.heap[b + 4]? = some (.cells #[v] 22) ∧ OwnT (b + 8) v pre W
structure LX (w : World) (b : Nat) (pre : List Tok) (W : World) : Prop where
  len : pre.length = 4097
  os : W.os = w.os
  tape : W.tape = w.tape
  output : W.output = w.output
  size : b + 8 ≤ W.heap.size
  old : ∀ k, k < b → W.heap[k]? = w.heap[k]?
  r0 : W.heap[b]? = some (.cells #[.slice none 0 0] 22)
  r1 : ∃ x : Int, W.heap[b + 1]? = some (.cells #[.int .i64 x] 3)
  r2 : W.heap[b + 2]? = some (.cells #[.int .i64 3] 25)

theorem alloc_push (w : World) (o : Obj) : (w.alloc o).heap = w.heap.push o := rfl
def lexR (s : ByteArray) (b : Nat) : Array Obj := #[.cells #[.slice none 0 0] 22, .cells #[.int .i64 0] 3, .cells #[.int .i64 0] 25, .cells #[.string s, .int .i64 0] 110, .cells #[.slice none 0 0] 22, .cells #[.pointer (some ⟨b + 3, 0, none⟩)] 108]
theorem lexW_heap (s : ByteArray) (w : World) : (lexW s w).heap = w.heap ++ lexR s w.heap.size := by
  unfold lexW lexR
  simp only [alloc_push]
  apply Array.ext'
  simp
theorem lexW_row (s : ByteArray) (w : World) (i : Nat) (h : i < 6) : (lexW s w).heap[w.heap.size + i]? = (lexR s w.heap.size)[i]? := by
  rw [lexW_heap, Array.getElem?_append_right (by omega)]
  congr 1
  omega
theorem OwnT.kept {B r : Nat} {v : Value} {ts : List Tok} {A A' : World} (h : OwnT B v ts A) (hg : A.grownBy A' (some r)) (hr : r < B) : OwnT B v ts A' := by
  refine World.ownsRow.kept h hg ?_
  rcases h.2 with ⟨rfl, _⟩ | ⟨g, cap, cur, rfl, hgB, _⟩
  · exact .inl rfl
  · exact .inr (by simp [Value.ownBlock]; omega)
theorem OwnT_kept' {B r n : Nat} {v : Value} {xs : List Value} {A A' : World} (h : A.ownsRow B 24 4 v n xs) (hg : A.grownBy A' (some r)) (hr : r < B) : A'.ownsRow B 24 4 v n xs := by
  refine World.ownsRow.kept h hg ?_
  rcases h.2 with ⟨rfl, _⟩ | ⟨g, cap, cur, rfl, hgB, _⟩
  · exact .inl rfl
  · exact .inr (by simp [Value.ownBlock]; omega)
theorem LI.turn {w : World} {b r : Nat} {pre : List Tok} {A A' : World} (h : LI w b pre A) (hg : A.grownBy A' (some r)) (hr : r = b + 3 ∨ r = b + 6 ∨ r = b + 7) : LI w b pre A' := by
  have hs := h.size
  have e : ∀ k, k < b + 8 → k ≠ r → A'.heap[k]? = A.heap[k]? := fun k hk hkr => hg.block k (by omega) (by simp; omega)
  obtain ⟨v, h1, h2⟩ := h.list
  exact ⟨h.len, hg.os.trans h.os, hg.tape.trans h.tape, hg.output.trans h.output, Nat.le_trans hs hg.size, fun k hk => (e k (by omega) (by omega)).trans (h.old k hk), (e _ (by omega) (by omega)).trans h.r0, (e _ (by omega) (by omega)).trans h.r1, (e _ (by omega) (by omega)).trans h.r2, (e _ (by omega) (by omega)).trans h.box, v, (e _ (by omega) (by omega)).trans h1, h2.kept hg (by omega)⟩
theorem LX.turn {w : World} {b r : Nat} {pre : List Tok} {A A' : World} (h : LX w b pre A) (hg : A.grownBy A' (some r)) (hr : r = b + 6 ∨ r = b + 7) : LX w b pre A' := by
  have hs := h.size
  have e : ∀ k, k < b + 8 → k ≠ r → A'.heap[k]? = A.heap[k]? := fun k hk hkr => hg.block k (by omega) (by simp; omega)
  obtain ⟨x, h1⟩ := h.r1
  exact ⟨h.len, hg.os.trans h.os, hg.tape.trans h.tape, hg.output.trans h.output, Nat.le_trans hs hg.size, fun k hk => (e k (by omega) (by omega)).trans (h.old k hk), (e _ (by omega) (by omega)).trans h.r0, ⟨x, (e _ (by omega) (by omega)).trans h1⟩, (e _ (by omega) (by omega)).trans h.r2⟩

def W3 (b : Nat) (v0 v1 v2 : Value) (W : World) : World := ((W.setCell ⟨b, 0, none⟩ v0).setCell ⟨b + 1, 0, none⟩ v1).setCell ⟨b + 2, 0, none⟩ v2
theorem w3_facts {W : World} {b : Nat} {v0 v1 v2 a0 a1 a2 : Value} {t0 t1 t2 : TypeId} (h0 : W.heap[b]? = some (.cells #[a0] t0)) (h1 : W.heap[b + 1]? = some (.cells #[a1] t1)) (h2 : W.heap[b + 2]? = some (.cells #[a2] t2)) :
    (W3 b v0 v1 v2 W).heap[b]? = some (.cells #[v0] t0) ∧ (W3 b v0 v1 v2 W).heap[b + 1]? = some (.cells #[v1] t1) ∧ (W3 b v0 v1 v2 W).heap[b + 2]? = some (.cells #[v2] t2) ∧
    (∀ k, k ≠ b → k ≠ b + 1 → k ≠ b + 2 → (W3 b v0 v1 v2 W).heap[k]? = W.heap[k]?) ∧ (W3 b v0 v1 v2 W).heap.size = W.heap.size := by
  have e : ∀ (X : World) (c o : Nat) (v : Value) (k : Nat), k ≠ c → (X.setCell ⟨c, o, none⟩ v).heap[k]? = X.heap[k]? := fun X c o v k hk => by
    show (X.heap.modify c _)[k]? = _
    rw [Array.getElem?_modify, if_neg (fun e => hk e.symm)]
  have f : ∀ (X : World) (c : Nat) (v a : Value) (t : TypeId), X.heap[c]? = some (.cells #[a] t) → (X.setCell ⟨c, 0, none⟩ v).heap[c]? = some (.cells #[v] t) := fun X c v a t h => (setCell_block X c 0 v _ _ h).1
  have g : ∀ (X : World) (c : Nat) (v : Value), (X.setCell ⟨c, 0, none⟩ v).heap.size = X.heap.size := fun X c v => by
    show (X.heap.modify c _).size = _
    simp
  unfold W3
  refine ⟨?_, ?_, ?_, ?_, ?_⟩
  · rw [e _ _ _ _ _ (by omega), e _ _ _ _ _ (by omega)]; exact f _ _ _ _ _ h0
  · rw [e _ _ _ _ _ (by omega)]; exact f _ _ _ _ _ ((e _ _ _ _ _ (by omega)).trans h1)
  · exact f _ _ _ _ _ ((e _ _ _ _ _ (by omega)).trans ((e _ _ _ _ _ (by omega)).trans h2))
  · intro k k0 k1 k2; rw [e _ _ _ _ _ k2, e _ _ _ _ _ k1, e _ _ _ _ _ k0]
  · rw [g, g, g]

def LexPost (s : ByteArray) (nx : Nat → Option (Tok × Nat)) (stop : Nat → Nat) (w : World) (e : Ending) (W' : World) : Prop :=
  ∃ v at_ code, e = .returned (.tuple #[v, .int .i64 at_, .int .i64 code]) ∧ Below w.heap.size w W' ∧
    ((code = 0 ∧ at_ = s.size ∧ ∃ xs j, Run nx 0 xs j ∧ nx j = none ∧ j ≤ s.size ∧ ¬ skip s (stop j) < s.size ∧ xs.length ≤ 4096 ∧ OwnT w.heap.size v xs W') ∨
     (code = 3 ∧ ∃ xs j, Run nx 0 xs j ∧ xs.length = 4097) ∨
     (code = 150 ∧ ∃ xs j, Run nx 0 xs j ∧ nx j = none ∧ j ≤ s.size ∧ skip s (stop j) < s.size))

set_option maxHeartbeats 4000000 in
set_option maxRecDepth 100000 in
theorem f22_Lex (n : Nat) (s : ByteArray) (w : World) (hs : s.size ≤ 16384) (hL : Laid w) (nx : Nat → Option (Tok × Nat)) (stop : Nat → Nat) (hN : ∀ c k, 8 ≤ c → k ≤ s.size → NextOk c s k (nx k) (stop k)) (hP : ∀ k t j, nx k = some (t, j) → k < j ∧ j ≤ s.size) (hst : ∀ k, k ≤ s.size → stop k ≤ s.size) :
    CallsIn Fence.wide n Tryz.prog 22 #[.string s] w (LexPost s nx stop w) := by
  refine callsIn_of_wp_marks Tryz.func22 rfl trivial ?_ rfl
  simp only [Tryz.ntmps22, List.size_toArray, List.length_cons, List.length_nil, Nat.reduceAdd, Nat.reduceSub, Array.replicate_succ, Array.replicate_zero, List.push_toArray, List.append_toArray, List.nil_append, List.cons_append]
  have hs' : ((s.size : Int) ≤ 16384) := by omega
  gi_wp2_with fail
  refine ⟨trivial, (by simp [Fence.wide]), (callsIn_wide.2 (f82_all _ _)).mono ?_⟩
  rintro e w1 ⟨rfl, rfl⟩
  gi_wp2
  simp only [Nat.add_assoc, Nat.reduceAdd]
  have hW : lexW s w = lexW s w := rfl
  conv at hW => lhs; unfold lexW
  rw [hW]
  obtain ⟨W0, hW0⟩ : ∃ W0, lexW s w = W0 := ⟨_, rfl⟩
  rw [hW0]
  have hsz : W0.heap.size = w.heap.size + 6 := by rw [← hW0]; simp [lexW]
  have hbw : Below w.heap.size w W0 := by
    rw [← hW0]
    exact ((((((Below.refl _ w).alloc (Nat.le_refl _) _).alloc (by simp) _).alloc (by simp; omega) _).alloc (by simp; omega) _).alloc (by simp; omega) _).alloc (by simp; omega) _
  have row : ∀ i o, (lexW s w).heap[w.heap.size + i]? = some o → W0.heap[w.heap.size + i]? = some o := fun i o h => by rw [← hW0]; exact h
  have q0 : W0.heap[w.heap.size]? = some (.cells #[.slice none 0 0] 22) := by rw [← hW0]; exact lexW_row _ _ 0 (by decide)
  have q1 : W0.heap[w.heap.size + 1]? = some (.cells #[.int .i64 0] 3) := by rw [← hW0]; exact lexW_row _ _ 1 (by decide)
  have q2 : W0.heap[w.heap.size + 2]? = some (.cells #[.int .i64 0] 25) := by rw [← hW0]; exact lexW_row _ _ 2 (by decide)
  have q3 : W0.heap[w.heap.size + 3]? = some (.cells #[.string s, .int .i64 0] 110) := by rw [← hW0]; exact lexW_row _ _ 3 (by decide)
  have q4 : W0.heap[w.heap.size + 4]? = some (.cells #[.slice none 0 0] 22) := by rw [← hW0]; exact lexW_row _ _ 4 (by decide)
  have q5 : W0.heap[w.heap.size + 5]? = some (.cells #[.pointer (some ⟨w.heap.size + 3, 0, none⟩)] 108) := by rw [← hW0]; exact lexW_row _ _ 5 (by decide)
  clear row hW hW0
  generalize hb : w.heap.size = b at *
  have hb100 : 8 ≤ b := by rw [← hb]; exact hL.size
  have HB := Lib.hid hb
  clear hb
  have hLI : ∀ pre W, LI w b pre W → Laid W := fun pre W h => hL.below (⟨h.os, h.tape, h.output, by have := h.size; have := HB.out; omega, fun k hk => h.old k (by have := HB.out; omega)⟩ : Below w.heap.size w W) hL.size
  refine wpIn_rangeC (α := Tok) (encs := fun t => #[t.val]) rfl (by simp [Fence.wide]) (gf := 160) (lb := #[.pointer (some ⟨b + 5, 0, none⟩)]) rfl trivial (enters_of Tryz.func160 (by kernel_rfl) rfl) (fun _ => rfl) (b + 3) (b + 6) (by rw [hsz]) (by omega)
    (fun xs W => ∃ j, Run nx 0 xs j ∧ nx j = none ∧ j ≤ s.size ∧ ScAt (b + 3) s (stop j) W) (fun pre => ∃ j, Run nx 0 pre j) (LI w b) (LX w b)
    (fun pre A B h hg => h.turn hg (.inl rfl)) (fun pre A o' h => h.turn (grownBy_putObj' A _ o') (.inr (.inr rfl))) (fun pre A o' h => h.turn (grownBy_putObj' A _ o') (.inr rfl))
    (fun pre A o' ⟨j, h1, h2, h3, h4⟩ => ⟨j, h1, h2, h3, (World.putObj_heap_other (by omega)).trans h4⟩)
    ?seq ?start (fun t a₁ W => ∃ Bx, b + 8 ≤ Bx ∧ W.heap[Bx]? = some (.cells (tcells t).toArray 24) ∧ a₁ = { tmps := #[.string s, undef, .pointer (some ⟨b, 0, none⟩), .pointer (some ⟨b + 1, 0, none⟩), .pointer (some ⟨b + 2, 0, none⟩), .pointer (some ⟨b + 3, 0, none⟩), .pointer (some ⟨b + 4, 0, none⟩), .pointer (some ⟨Bx, 0, none⟩), .string s, .int .i64 s.size, .bool (decide (16384 < (s.size : Int))), .string s, .agg #[.string s, .int .i64 0], .pointer (some ⟨b + 3, 0, none⟩), .pointer (some ⟨b + 3, 0, none⟩), .func (.func 160) #[] #[.pointer (some ⟨b + 5, 0, none⟩)], t.val, undef, undef, undef, undef, undef, undef, undef, undef, undef, undef, undef, undef, undef, undef, undef, undef, undef, undef], defers := [] })
    ?ax ?assign ?body ?done ?stop
  case seq =>
    intro l J Jx W hJ hJI hY hbW h0
    have hs3 : ScAt (b + 3) s 0 W := (hbW.block (b + 3) (by omega)).trans q3
    refine (f160_all (n - 1) (b + 3) s nx stop (fun k hk => hN (b + 3) k (by omega) hk) hP l (b + 5) 0 (Nat.zero_le _) J Jx hJ ?_ hY W h0 hs3).mono ?_
    · intro xs A hA
      exact ⟨hLI xs A (hJI xs A hA), Lib.cell_of_heap (hJI xs A hA).box 0⟩
    · rintro e W' ⟨hv, (⟨xs, hS, hJx⟩ | ⟨pre, hr, hx⟩)⟩
      · exact ⟨hv, .inl ⟨xs, hS, hJx⟩⟩
      · exact ⟨hv, .inr ⟨pre, hr, hx⟩⟩
  case start =>
    intro W hbW hsW
    have e : ∀ k, k < b + 6 → W.heap[k]? = W0.heap[k]? := fun k hk => hbW.block k (by omega)
    exact ⟨by simp, hbW.os.trans hbw.os, hbW.tape.trans hbw.tape, hbW.output.trans hbw.output, hsW, fun k hk => (e k (by omega)).trans (hbw.block k hk), (e _ (by omega)).trans q0, (e _ (by omega)).trans q1, (e _ (by omega)).trans q2, (e _ (by omega)).trans q5, _, (e _ (by omega)).trans q4, World.ownsRow_nil _ _ _ _⟩
  case ax =>
    rintro t a₁ A o' ⟨Bx, h1, h2, h3⟩
    exact ⟨Bx, h1, (World.putObj_heap_other (by omega)).trans h2, h3⟩
  case assign =>
    intro l pre x W K hi hK
    have hi8 := hi.size
    gi_wp2
    exact hK _ _ ⟨W.heap.size, hi8, heap_alloc_new W _, rfl⟩ (hi.turn (GC.of_below (c := b + 3) ((Below.refl _ _).alloc (Nat.le_refl _) _)) (.inl rfl)) (fun r hr => heap_alloc_old' W _ r (by omega))
  case body =>
    rintro l pre x a₁ W ⟨Bx, hBx, hx, rfl⟩ hi
    obtain ⟨v, hv, hown⟩ := hi.list
    have hi8 := hi.size
    have hpl := hi.len
    obtain ⟨⟨x0, x1, x2, x3⟩, _⟩ := four_of (v0 := .int .i64 x.kind) (v1 := .string x.text) (v2 := .int .i64 x.n) (v3 := .int .i64 x.pos) (t := 24) hx
    have hv0 : W.cell? ⟨b + 4, 0, none⟩ = some v := Lib.cell_of_heap hv 0
    obtain ⟨bb, cc, hvv⟩ : ∃ bb cc, v = .slice bb pre.length cc := by
      rcases hown.2 with ⟨rfl, h0⟩ | ⟨g, cap, cur, rfl, _⟩
      · exact ⟨none, 0, by rw [h0]⟩
      · exact ⟨_, _, rfl⟩
    by_cases hp : pre.length = 4096
    · have hpe : ((pre.length : Int) == 4096) = true := by simp; omega
      obtain ⟨⟨a0, af0⟩, ⟨a1, af1⟩, a2, af2⟩ : (W.cell? ⟨b, 0, none⟩ = some (.slice none 0 0) ∧ W.frozen? ⟨b, 0, none⟩ = false) ∧ (W.cell? ⟨b + 1, 0, none⟩ = some (.int .i64 0) ∧ W.frozen? ⟨b + 1, 0, none⟩ = false) ∧ (W.cell? ⟨b + 2, 0, none⟩ = some (.int .i64 0) ∧ W.frozen? ⟨b + 2, 0, none⟩ = false) :=
        ⟨⟨Lib.cell_of_heap hi.r0 0, Lib.frozen_of_heap hi.r0 0⟩, ⟨Lib.cell_of_heap hi.r1 0, Lib.frozen_of_heap hi.r1 0⟩, ⟨Lib.cell_of_heap hi.r2 0, Lib.frozen_of_heap hi.r2 0⟩⟩
      have hfin : KF (b + 3) (b + 6) W (W3 b (.slice none 0 0) (.int .i64 x.pos) (.int .i64 3) W).drew ∧ LX w b (pre ++ [x]) (W3 b (.slice none 0 0) (.int .i64 x.pos) (.int .i64 3) W).drew := by
        obtain ⟨g0, g1, g2, g3, g4⟩ := w3_facts (v0 := .slice none 0 0) (v1 := .int .i64 x.pos) (v2 := .int .i64 3) hi.r0 hi.r1 hi.r2
        refine ⟨fun r hr => g3 r (by omega) (by omega) (by omega), ⟨by simp; omega, hi.os, hi.tape, hi.output, ?_, fun k hk => (g3 k (by omega) (by omega) (by omega)).trans (hi.old k hk), g0, ⟨_, g1⟩, g2⟩⟩
        show b + 8 ≤ (W3 b _ _ _ W).heap.size
        omega
      subst hvv
      gi_wp2
      gi_region
      all_goals gi_wp2
      all_goals exact hfin
    · have hpe : ((pre.length : Int) == 4096) = false := by simp; omega
      obtain ⟨i0, hi0, hz0, hz1, hz2⟩ := info_parts infoTok
      subst hvv
      gi_wp2_with (gi_at_builtin; refine wpListIn_append_own _ rfl _ _ 22 rfl (b + 8) 24 i0 zeroV 4 40 Tryz.underlying22 hi0 hz0 hz1 hz2 rfl (by decide) _ _ _ rfl (World.ownsRow.alloc hown _) ⟨W.heap.size, 0, none⟩ 1 1 (tcells x) rfl rfl ?_ (tcells_one x) ?_ ?_ ?_ ?_)
      · intro j u hj
        have : (⟨W.heap.size, 0, none⟩ : Addr).add j = ⟨W.heap.size, j, none⟩ := by unfold Addr.add; split <;> simp_all
        rw [this, Lib.cell_of_heap (heap_alloc_new W _) j]
        simpa [tcells] using hj
      · unfold maxLen; omega
      · omega
      · simp; omega
      · intro v' w1 hown' hgrow _
        obtain ⟨g', cap', rfl⟩ := ownsRow_succ hown'
        have hrow : ∀ r, (Value.slice bb pre.length cc).ownBlock = some r → b + 8 ≤ r := by
          intro r hr
          rcases hown.2 with ⟨h, _⟩ | ⟨g, cap, cur, h, hg, _⟩
          · rw [h] at hr; cases hr
          · rw [h] at hr; simp [Value.ownBlock] at hr; omega
        have hk8 : ∀ k, k < b + 8 → w1.heap[k]? = W.heap[k]? := fun k hk => (hgrow.block k (by simp; omega) (fun e => by have := hrow k e.symm; omega)).trans (heap_alloc_old' W _ k (by omega))
        have hv1 : w1.heap[b + 4]? = some (.cells #[.slice bb pre.length cc] 22) := (hk8 _ (by omega)).trans hv
        have hc1 : w1.cell? ⟨b + 4, 0, none⟩ = some (.slice bb pre.length cc) := Lib.cell_of_heap hv1 0
        have hf1 : w1.frozen? ⟨b + 4, 0, none⟩ = false := Lib.frozen_of_heap hv1 0
        have hw8 : b + 8 ≤ w1.heap.size := by have := hgrow.size; simp at this; omega
        obtain ⟨hv2, hg2⟩ := setCell_block w1 (b + 4) 0 (.slice (some ⟨g', 0, none⟩) (pre.length + 1) cap') _ _ hv1
        have hk82 : ∀ k, k < b + 8 → k ≠ b + 4 → (w1.setCell ⟨b + 4, 0, none⟩ (.slice (some ⟨g', 0, none⟩) (pre.length + 1) cap')).heap[k]? = W.heap[k]? := fun k hk hk4 => (hg2.block k (by omega) (by simp; omega)).trans (hk8 k hk)
        have hfin : KF (b + 3) (b + 6) W (w1.setCell ⟨b + 4, 0, none⟩ (.slice (some ⟨g', 0, none⟩) (pre.length + 1) cap')) ∧ LI w b (pre ++ [x]) (w1.setCell ⟨b + 4, 0, none⟩ (.slice (some ⟨g', 0, none⟩) (pre.length + 1) cap')) := by
          refine ⟨fun r hr => hk82 r (by omega) (by omega), ?_⟩
          refine ⟨by simp; omega, hg2.os.trans (hgrow.os.trans hi.os), hg2.tape.trans (hgrow.tape.trans hi.tape), hg2.output.trans (hgrow.output.trans hi.output), by have := hg2.size; omega, fun k hk => (hk82 k (by omega) (by omega)).trans (hi.old k hk), (hk82 _ (by omega) (by omega)).trans hi.r0, (hk82 _ (by omega) (by omega)).trans hi.r1, (hk82 _ (by omega) (by omega)).trans hi.r2, (hk82 _ (by omega) (by omega)).trans hi.box, _, hv2, ?_⟩
          unfold OwnT
          rw [List.length_append, List.flatMap_append]
          have h2 : ([x] : List Tok).flatMap tcells = tcells x := by simp
          rw [h2]
          exact OwnT_kept' hown' hg2 (by omega)
        have HF := Lib.hid hfin
        clear hfin hk82 hg2 hv2
        gi_wp2
        exact HF.out
  case done =>
    rintro xs W ⟨j, hrun, hnx, hj, hsc⟩ hi hD
    obtain ⟨v, hv, hown⟩ := hi.list
    have hi8 := hi.size
    have h83 := f83_blanks (b + 3) s (stop j) W hsc (hst j hj) (by omega)
    obtain ⟨K, hK⟩ : ∃ K, skip s (stop j) = K := ⟨_, rfl⟩
    rw [hK] at h83
    have hKs : K ≤ s.size := by rw [← hK]; exact (skip_le s (stop j) (hst j hj)).2
    by_cases hlt : K < s.size
    · rw [decide_eq_true hlt] at h83
      gi_wp2_with fail
      refine ⟨trivial, (by simp [Fence.wide]), (callsIn_wide.2 h83).mono ?_⟩
      rintro e w1 ⟨rfl, hs1, hg1⟩
      have hi1 := hi.turn hg1 (.inl rfl)
      have hD1 : w1.heap[b + 6]? = some (.deferred (some [])) := (hg1.block _ (Array.getElem?_eq_some_iff.1 hD).1 (by simp)).trans hD
      have c1 : w1.cell? ⟨b + 3, 1, none⟩ = some (.int .i64 K) := Lib.cell_of_heap hs1 1
      obtain ⟨⟨a0, af0⟩, ⟨a1, af1⟩, a2, af2⟩ : (w1.cell? ⟨b, 0, none⟩ = some (.slice none 0 0) ∧ w1.frozen? ⟨b, 0, none⟩ = false) ∧ (w1.cell? ⟨b + 1, 0, none⟩ = some (.int .i64 0) ∧ w1.frozen? ⟨b + 1, 0, none⟩ = false) ∧ (w1.cell? ⟨b + 2, 0, none⟩ = some (.int .i64 0) ∧ w1.frozen? ⟨b + 2, 0, none⟩ = false) :=
        ⟨⟨Lib.cell_of_heap hi1.r0 0, Lib.frozen_of_heap hi1.r0 0⟩, ⟨Lib.cell_of_heap hi1.r1 0, Lib.frozen_of_heap hi1.r1 0⟩, ⟨Lib.cell_of_heap hi1.r2 0, Lib.frozen_of_heap hi1.r2 0⟩⟩
      obtain ⟨g0, g1, g2, g3, g4⟩ := w3_facts (v0 := .slice none 0 0) (v1 := .int .i64 (K : Int)) (v2 := .int .i64 150) hi1.r0 hi1.r1 hi1.r2
      have hDX : (W3 b (.slice none 0 0) (.int .i64 (K : Int)) (.int .i64 150) w1).drew.heap[b + 6]? = some (.deferred (some [])) := (g3 _ (by omega) (by omega) (by omega)).trans hD1
      have e0 : ((W3 b (.slice none 0 0) (.int .i64 (K : Int)) (.int .i64 150) w1).drew.putObj (b + 6) (.deferred none)).cell? ⟨b, 0, none⟩ = _ := Lib.cell_of_heap ((World.putObj_heap_other (by omega)).trans g0) 0
      have e1 : ((W3 b (.slice none 0 0) (.int .i64 (K : Int)) (.int .i64 150) w1).drew.putObj (b + 6) (.deferred none)).cell? ⟨b + 1, 0, none⟩ = _ := Lib.cell_of_heap ((World.putObj_heap_other (by omega)).trans g1) 0
      have e2 : ((W3 b (.slice none 0 0) (.int .i64 (K : Int)) (.int .i64 150) w1).drew.putObj (b + 6) (.deferred none)).cell? ⟨b + 2, 0, none⟩ = _ := Lib.cell_of_heap ((World.putObj_heap_other (by omega)).trans g2) 0
      have hbel : Below w.heap.size w ((W3 b (.slice none 0 0) (.int .i64 (K : Int)) (.int .i64 150) w1).drew.putObj (b + 6) (.deferred none)) := by
        refine ⟨hi1.os, hi1.tape, hi1.output, ?_, fun k hk => ?_⟩
        · have h1 := hi1.size
          have h2 := HB.out
          have h3 : (W3 b (.slice none 0 0) (.int .i64 (K : Int)) (.int .i64 150) w1).drew.heap.size = w1.heap.size := g4
          rw [World.putObj_size]
          omega
        · have h2 := HB.out
          exact (World.putObj_heap_other (by omega)).trans ((g3 k (by omega) (by omega) (by omega)).trans (hi1.old k (by omega)))
      gi_wp2
      gi_region
      all_goals
        gi_wp2
        refine ⟨by simp, .inl ⟨_, _, rfl, run_takeDeferred hDX, ?_⟩⟩
        refine ⟨.tuple #[.slice none 0 0, .int .i64 K, .int .i64 150], ?_, ?_⟩
        · change Sem.run Tryz.prog _ ((W3 b (.slice none 0 0) (.int .i64 (K : Int)) (.int .i64 150) w1).drew.putObj (b + 6) (.deferred none)) = Result.ok _ ((W3 b (.slice none 0 0) (.int .i64 (K : Int)) (.int .i64 150) w1).drew.putObj (b + 6) (.deferred none))
          generalize (W3 b (.slice none 0 0) (.int .i64 (K : Int)) (.int .i64 150) w1).drew.putObj (b + 6) (.deferred none) = W9 at *
          simp [results, Tryz.f22]
          go_simp
        · exact ⟨_, _, _, rfl, hbel, .inr (.inr ⟨rfl, xs, j, hrun, hnx, hj, by rw [hK]; exact hlt⟩)⟩
    · rw [decide_eq_false hlt] at h83
      gi_wp2_with fail
      refine ⟨trivial, (by simp [Fence.wide]), (callsIn_wide.2 h83).mono ?_⟩
      rintro e w1 ⟨rfl, hs1, hg1⟩
      have hi1 := hi.turn hg1 (.inl rfl)
      have hD1 : w1.heap[b + 6]? = some (.deferred (some [])) := (hg1.block _ (Array.getElem?_eq_some_iff.1 hD).1 (by simp)).trans hD
      obtain ⟨v, hv1, hown1⟩ := hi1.list
      obtain ⟨bb, cc, hvv⟩ : ∃ bb cc, v = .slice bb xs.length cc := by
        rcases hown1.2 with ⟨rfl, h0⟩ | ⟨g, cap, cur, rfl, _⟩
        · exact ⟨none, 0, by rw [h0]⟩
        · exact ⟨_, _, rfl⟩
      subst hvv
      have hv0 : w1.cell? ⟨b + 4, 0, none⟩ = some (.slice bb xs.length cc) := Lib.cell_of_heap hv1 0
      obtain ⟨⟨a0, af0⟩, ⟨a1, af1⟩, a2, af2⟩ : (w1.cell? ⟨b, 0, none⟩ = some (.slice none 0 0) ∧ w1.frozen? ⟨b, 0, none⟩ = false) ∧ (w1.cell? ⟨b + 1, 0, none⟩ = some (.int .i64 0) ∧ w1.frozen? ⟨b + 1, 0, none⟩ = false) ∧ (w1.cell? ⟨b + 2, 0, none⟩ = some (.int .i64 0) ∧ w1.frozen? ⟨b + 2, 0, none⟩ = false) :=
        ⟨⟨Lib.cell_of_heap hi1.r0 0, Lib.frozen_of_heap hi1.r0 0⟩, ⟨Lib.cell_of_heap hi1.r1 0, Lib.frozen_of_heap hi1.r1 0⟩, ⟨Lib.cell_of_heap hi1.r2 0, Lib.frozen_of_heap hi1.r2 0⟩⟩
      obtain ⟨g0, g1, g2, g3, g4⟩ := w3_facts (v0 := .slice bb xs.length cc) (v1 := .int .i64 (s.size : Int)) (v2 := .int .i64 0) hi1.r0 hi1.r1 hi1.r2
      have hDX : (W3 b (.slice bb xs.length cc) (.int .i64 (s.size : Int)) (.int .i64 0) w1).heap[b + 6]? = some (.deferred (some [])) := (g3 _ (by omega) (by omega) (by omega)).trans hD1
      have e0 : ((W3 b (.slice bb xs.length cc) (.int .i64 (s.size : Int)) (.int .i64 0) w1).putObj (b + 6) (.deferred none)).cell? ⟨b, 0, none⟩ = _ := Lib.cell_of_heap ((World.putObj_heap_other (by omega)).trans g0) 0
      have e1 : ((W3 b (.slice bb xs.length cc) (.int .i64 (s.size : Int)) (.int .i64 0) w1).putObj (b + 6) (.deferred none)).cell? ⟨b + 1, 0, none⟩ = _ := Lib.cell_of_heap ((World.putObj_heap_other (by omega)).trans g1) 0
      have e2 : ((W3 b (.slice bb xs.length cc) (.int .i64 (s.size : Int)) (.int .i64 0) w1).putObj (b + 6) (.deferred none)).cell? ⟨b + 2, 0, none⟩ = _ := Lib.cell_of_heap ((World.putObj_heap_other (by omega)).trans g2) 0
      have hbel : Below w.heap.size w ((W3 b (.slice bb xs.length cc) (.int .i64 (s.size : Int)) (.int .i64 0) w1).putObj (b + 6) (.deferred none)) := by
        refine ⟨hi1.os, hi1.tape, hi1.output, ?_, fun k hk => ?_⟩
        · have h1 := hi1.size
          have h2 := HB.out
          have h3 : (W3 b (.slice bb xs.length cc) (.int .i64 (s.size : Int)) (.int .i64 0) w1).heap.size = w1.heap.size := g4
          rw [World.putObj_size]
          omega
        · have h2 := HB.out
          exact (World.putObj_heap_other (by omega)).trans ((g3 k (by omega) (by omega) (by omega)).trans (hi1.old k (by omega)))
      have hownX : OwnT w.heap.size (.slice bb xs.length cc) xs ((W3 b (.slice bb xs.length cc) (.int .i64 (s.size : Int)) (.int .i64 0) w1).putObj (b + 6) (.deferred none)) := by
        have h2 := HB.out
        refine ⟨hown1.1, ?_⟩
        rcases hown1.2 with h | ⟨g, cap, cur, h3, h4, h5, h6⟩
        · exact .inl h
        · exact .inr ⟨g, cap, cur, h3, by omega, (World.putObj_heap_other (by omega)).trans ((g3 g (by omega) (by omega) (by omega)).trans h5), h6⟩
      gi_wp2
      refine ⟨by simp, .inl ⟨_, _, rfl, run_takeDeferred hDX, ?_⟩⟩
      refine ⟨.tuple #[.slice bb xs.length cc, .int .i64 s.size, .int .i64 0], ?_, ?_⟩
      · change Sem.run Tryz.prog _ ((W3 b (.slice bb xs.length cc) (.int .i64 (s.size : Int)) (.int .i64 0) w1).putObj (b + 6) (.deferred none)) = Result.ok _ ((W3 b (.slice bb xs.length cc) (.int .i64 (s.size : Int)) (.int .i64 0) w1).putObj (b + 6) (.deferred none))
        generalize (W3 b (.slice bb xs.length cc) (.int .i64 (s.size : Int)) (.int .i64 0) w1).putObj (b + 6) (.deferred none) = W9 at *
        simp [results, Tryz.f22]
        go_simp
      · exact ⟨_, _, _, rfl, hbel, .inl ⟨rfl, rfl, xs, j, hrun, hnx, hj, by rw [hK]; exact hlt, hi1.len, hownX⟩⟩
  case stop =>
    rintro pre W ⟨j, hrun⟩ hx hD
    obtain ⟨xx, hx1⟩ := hx.r1
    have ht := hx.turn (grownBy_putObj' W (b + 6) (.deferred none)) (.inl rfl)
    have t1 : (W.putObj (b + 6) (.deferred none)).heap[b + 1]? = some (.cells #[.int .i64 xx] 3) := (World.putObj_heap_other (by omega)).trans hx1
    have e0 := Lib.cell_of_heap ht.r0 0
    have e1 := Lib.cell_of_heap t1 0
    have e2 := Lib.cell_of_heap ht.r2 0
    gi_wp2
    refine ⟨by simp, .inl ⟨_, _, rfl, run_takeDeferred hD, ?_⟩⟩
    refine ⟨.tuple #[.slice none 0 0, .int .i64 xx, .int .i64 3], ?_, ?_⟩
    · generalize W.putObj (b + 6) (.deferred none) = W9 at *
      simp [results, Tryz.f22]
      go_simp
    · refine ⟨_, _, _, rfl, ⟨ht.os, ht.tape, ht.output, ?_, fun k hk => ht.old k (by have := HB.out; omega)⟩, .inr (.inl ⟨rfl, pre, j, hrun, hx.len⟩)⟩
      have h1 := ht.size
      have h2 := HB.out
      omega
end Go.Proofs.YtijgmloodkbljaaGreatDoor
