import Derived.Test.YtijgmloodkbljaaGreatDoorItr
namespace Go.Proofs.YtijgmloodkbljaaGreatDoor
open Go Go.RowKit Go.Shelf

variable {F : Fence} {n : Nat} {P : Program}

/-- The blocks c, D and D + 1 lie as they lay. -/
def KF (c D : Nat) (W W' : World) : Prop := ∀ r, (r = c ∨ r = D ∨ r = D + 1) → W'.heap[r]? = W.heap[r]?
def postB {α : Type} (c D : Nat) (I Ix : List α → World → Prop) (xs : List α) (W : World) : Exit → Act → World → Prop
  | .normal, _, W' => KF c D W W' ∧ I xs W'
  | .ret, _, W' => KF c D W W' ∧ Ix xs W'
  | _, _, _ => False

/-- 'for x := range g' over an iterator that writes block c between two rounds: the caller owes an invariant that does not read block c. -/
theorem wpIn_rangeC {α : Type} {g : Operand} {ps : Array Tmp} {assign body : Code} {Q : Exit → Act → World → Prop} {a : Act} {w : World}
    (hro : F.round = none) (h1 : F.depth.isSome = true → 1 ≤ n) {gf : Nat} {lb : Array Value} (hg : a.eval g = .func (.func gf) #[] lb) (hFg : F.fn gf) (eg : ∀ args w, (callFunc gf args).run P w = .ok (.enter gf args) w)
    {encs : α → Array Value} (hps : ∀ x, (encs x).size = ps.size) (c D : Nat) (hD : w.heap.size = D) (hc : c < D)
    (S : List α → World → Prop) (Sp : List α → Prop) (I Ix : List α → World → Prop)
    (hIc : ∀ pre A B, I pre A → A.grownBy B (some c) → I pre B) (hIr : ∀ pre A o', I pre A → I pre (A.putObj (D + 1) o')) (hxr : ∀ pre A o', Ix pre A → Ix pre (A.putObj (D + 1) o')) (hSr : ∀ pre A o', S pre A → S pre (A.putObj (D + 1) o'))
    (hseq : ∀ (l : Nat) (J Jx : List α → World → Prop) (W : World), (∀ xs A B, J xs A → A.grownBy B (some c) → J xs B) → (∀ xs A, J xs A → I xs A) →
      (∀ pre x W1, J pre W1 → YieldAt F (n - 1 - 1) P l (encs x) W1 fun e W' => (e = .returned (.bool true) ∧ J (pre ++ [x]) W' ∧ W'.heap[c]? = W1.heap[c]?) ∨ (e = .returned (.bool false) ∧ Jx (pre ++ [x]) W')) →
      Below w.heap.size w W → J [] W → CallsIn F (n - 1) P gf (#[.func (.yield l) #[] #[]] ++ lb) W fun e W' => (∃ v, e = .returned v) ∧ ((∃ xs, S xs W' ∧ J xs W') ∨ (∃ pre, Sp pre ∧ Jx pre W')))
    (h0 : ∀ W, Below w.heap.size w W → D + 2 ≤ W.heap.size → I [] W) (Ax : α → Act → World → Prop) (hAx : ∀ x b A o', Ax x b A → Ax x b (A.putObj (D + 1) o'))
    (hassign : ∀ (l : Nat) (pre : List α) (x : α) (W : World) (K : Act → World → Prop), I pre W → (∀ a₁ W₁, Ax x a₁ W₁ → I pre W₁ → KF c D W W₁ → K a₁ W₁) →
      assign.wpIn (F.inRound l) (n - 1 - 1) P (Exit.then K (fun _ _ _ => False)) { tmps := (ps.zip (encs x)).foldl (fun t (p, v) => t.setIfInBounds p v) a.tmps, defers := [] } W)
    (hbody : ∀ (l : Nat) (pre : List α) (x : α) (a₁ : Act) (W : World), Ax x a₁ W → I pre W → body.wpIn (F.inRound l) (n - 1 - 1) P (postB c D I Ix (pre ++ [x]) W) a₁ W)
    (hdone : ∀ (xs : List α) (W : World), S xs W → I xs W → W.heap[D]? = some (.deferred (some [])) → Q .normal { a with defers := { target := .collected D, args := #[] } :: a.defers } W)
    (hstop : ∀ (pre : List α) (W : World), Sp pre → Ix pre W → W.heap[D]? = some (.deferred (some [])) → Code.ret.wpIn F n P Q { a with defers := { target := .collected D, args := #[] } :: a.defers } W) :
    (Code.rangeFunc g ps assign body).wpIn F n P Q a w := by
  subst hD
  refine wpIn_rangeFunc ?_
  intro fn hfn
  rw [hro]
  obtain ⟨rec, hrec⟩ : ∃ rec : LoopState → Option Code → Loop, rec = fun st pe => { state := st, pending := pe, fn, tmps := a.tmps, params := ps, assign, body, defers := w.heap.size } := ⟨_, rfl⟩
  obtain ⟨W1, hW1⟩ : ∃ W1, (w.alloc (.deferred (some []))).alloc (.loop (rec .ready none)) = W1 := ⟨_, rfl⟩
  have hL1 : W1.heap[w.heap.size + 1]? = some (.loop (rec .ready none)) := by
    rw [← hW1]; have := World.alloc_heap_new (w.alloc (.deferred (some []))) (.loop (rec .ready none)); rwa [World.size_alloc] at this
  have hK1 : W1.heap[w.heap.size]? = some (.deferred (some [])) := by
    rw [← hW1]; exact (Below.heap_alloc _ _ _ (by simp)).trans (World.alloc_heap_new w _)
  have hb1 : Below w.heap.size w W1 := by
    rw [← hW1]; exact ((Below.refl _ w).alloc (Nat.le_refl _) _).alloc (by simp) _
  refine ⟨w.heap.size + 1, [{ target := .collected w.heap.size, args := #[] }], W1, { target := .fn (.func gf) lb, args := #[.func (.yield (w.heap.size + 1)) #[] #[]] }, W1, gf,
    #[.func (.yield (w.heap.size + 1)) #[] #[]] ++ lb, W1, ?_, ?_, ?_, ?_, h1, ?_⟩
  · rw [← hW1, hrec]; exact run_enterLoop_outer _ _ _ _ _
  · simp only [resolve, hg]
    simp [go_sem]
  · intro f' hf'; simp [Target.leads] at hf'; subst hf'; exact hFg
  · simp [invoke, go_sem, eg]
  · refine (hseq (w.heap.size + 1)
      (fun pre W => I pre W ∧ W.heap[w.heap.size + 1]? = some (.loop (rec .ready none)) ∧ W.heap[w.heap.size]? = some (.deferred (some [])))
      (fun pre W => Ix pre W ∧ W.heap[w.heap.size + 1]? = some (.loop (rec .done (some .ret))) ∧ W.heap[w.heap.size]? = some (.deferred (some [])))
      W1 ?_ (fun _ _ h => h.1) ?_ hb1 ⟨h0 W1 hb1 (by rw [← hW1]; simp), hL1, hK1⟩).mono ?_
    · rintro xs A B ⟨hi, hl, hk⟩ hgr
      exact ⟨hIc xs A B hi hgr, (hgr.block _ (Array.getElem?_eq_some_iff.1 hl).1 (by simp; omega)).trans hl, (hgr.block _ (Array.getElem?_eq_some_iff.1 hk).1 (by simp; omega)).trans hk⟩
    · rintro pre x W ⟨hi, hl, hk⟩
      have hlt : w.heap.size + 1 < W.heap.size := (Array.getElem?_eq_some_iff.1 hl).1
      have hy := run_yield (P := P) (args := encs x) hl (by rw [hrec]; exact hps x)
      rw [hrec] at hy
      refine ⟨fn, _, assign, body, hy, roundIn_of_wpIn hfn (hassign _ pre x W _ hi fun a₁ W₁ hax hi1 hkf => ?_)⟩
      have hl1 : W₁.heap[w.heap.size + 1]? = some (.loop (rec .ready none)) := (hkf _ (.inr (.inr rfl))).trans hl
      have hk1 : W₁.heap[w.heap.size]? = some (.deferred (some [])) := (hkf _ (.inr (.inl rfl))).trans hk
      have hlt1 := (Array.getElem?_eq_some_iff.1 hl1).1
      refine ⟨_, run_beginRound hl1 (by rw [hrec]), ?_⟩
      have hl2 : (W₁.putObj (w.heap.size + 1) (.loop { rec .ready none with state := .busy })).heap[w.heap.size + 1]? = some (.loop { rec .ready none with state := .busy }) := World.putObj_heap_same hlt1
      have hk2 : (W₁.putObj (w.heap.size + 1) (.loop { rec .ready none with state := .busy })).heap[w.heap.size]? = some (.deferred (some [])) := (World.putObj_heap_other (by omega)).trans hk1
      have hc2 : (W₁.putObj (w.heap.size + 1) (.loop { rec .ready none with state := .busy })).heap[c]? = W.heap[c]? := (World.putObj_heap_other (by omega)).trans (hkf _ (.inl rfl))
      refine wpIn_mono (hbody _ pre x a₁ _ (hAx _ _ _ _ hax) (hIr _ _ _ hi1)) ?_
      rintro e a3 W3 hp
      cases e with
      | normal =>
        obtain ⟨hk3, hi3⟩ := hp
        have hl3 := (hk3 _ (.inr (.inr rfl))).trans hl2
        have hr := run_endRound (P := P) none hl3
        refine ⟨_, _, hr, .inl ⟨rfl, ⟨hIr _ _ _ hi3, ?_, (World.putObj_heap_other (by omega)).trans ((hk3 _ (.inr (.inl rfl))).trans hk2)⟩, (World.putObj_heap_other (by omega)).trans ((hk3 _ (.inl rfl)).trans hc2)⟩⟩
        have := World.putObj_heap_same (o := .loop { ({ rec .ready none with state := .busy } : Loop) with state := (if (none : Option Code).isNone = true then .ready else .done), pending := none }) (Array.getElem?_eq_some_iff.1 hl3).1
        rw [hrec] at this ⊢
        exact this
      | ret =>
        obtain ⟨hk3, hi3⟩ := hp
        have hl3 := (hk3 _ (.inr (.inr rfl))).trans hl2
        have hr := run_endRound (P := P) (some .ret) hl3
        refine ⟨_, _, hr, .inr ⟨rfl, hxr _ _ _ hi3, ?_, (World.putObj_heap_other (by omega)).trans ((hk3 _ (.inr (.inl rfl))).trans hk2)⟩⟩
        have := World.putObj_heap_same (o := .loop { ({ rec .ready none with state := .busy } : Loop) with state := (if (some Code.ret : Option Code).isNone = true then .ready else .done), pending := some .ret }) (Array.getElem?_eq_some_iff.1 hl3).1
        rw [hrec] at this ⊢
        exact this
      | exit id => exact hp.elim
      | goto t => exact hp.elim
      | panic ch => exact hp.elim
      | outgrown => exact hp.elim
    · rintro e W2 ⟨⟨v, rfl⟩, (⟨xs, hS, hi, hl, hk⟩ | ⟨pre, hsp, hi, hl, hk⟩)⟩
      · exact ⟨none, _, by have := run_endLoop (P := P) hl (by rw [hrec]; simp); rw [hrec] at this; exact this, hdone xs _ (hSr _ _ _ hS) (hIr _ _ _ hi) ((World.putObj_heap_other (by omega)).trans hk)⟩
      · exact ⟨some .ret, _, by have := run_endLoop (P := P) hl (by rw [hrec]; simp); rw [hrec] at this; exact this, hstop pre _ hsp (hxr _ _ _ hi) ((World.putObj_heap_other (by omega)).trans hk)⟩
end Go.Proofs.YtijgmloodkbljaaGreatDoor
