import Derived.Test.YtijgmloodkbljaaGreatDoorLbO
import Derived.Test.YtijgmloodkbljaaGreatDoorLbP
namespace Go.Proofs.YtijgmloodkbljaaGreatDoor
open Go Go.RowKit Go.Shelf
attribute [local go_sem] Oper.semAt_some

/-- What the scanner's next step hands back from the place k on. -/
def NextE (c : Nat) (s : ByteArray) (k : Nat) (r : Option (Tok × Nat)) (stop : Nat) : Prop := ∀ w, ScAt c s k w → LdE w →
  Calls Tryz.prog 161 #[.pointer (some ⟨c, 0, none⟩)] w (match r with | some (t, j) => RetC (.tuple #[t.val, .bool true]) c s j w | none => RetC (.tuple #[zeroV, .bool false]) c s stop w)

set_option maxHeartbeats 4000000 in
set_option maxRecDepth 100000 in
theorem f160_E (n : Nat) (c : Nat) (s : ByteArray) (nx : Nat → Option (Tok × Nat)) (stop : Nat → Nat) (hN : ∀ k, k ≤ s.size → NextE c s k (nx k) (stop k)) (hP : ∀ k t j, nx k = some (t, j) → k < j ∧ j ≤ s.size)
    (l Bn k0 : Nat) (hk0 : k0 ≤ s.size) (J Jx : List Tok → World → Prop) (hJ : ∀ xs W W', J xs W → W.grownBy W' (some c) → J xs W') (hJL : ∀ xs W, J xs W → LdE W ∧ W.cell? ⟨Bn, 0, none⟩ = some (.pointer (some ⟨c, 0, none⟩)))
    (hY : ∀ pre t W, J pre W → YieldAt Fence.wide (n - 1) Tryz.prog l #[t.val] W fun e W' => (e = .returned (.bool true) ∧ J (pre ++ [t]) W' ∧ W'.heap[c]? = W.heap[c]?) ∨ (e = .returned (.bool false) ∧ Jx (pre ++ [t]) W'))
    (W : World) (h0 : J [] W) (hs0 : ScAt c s k0 W) :
    CallsIn Fence.wide n Tryz.prog 160 #[.func (.yield l) #[] #[], .pointer (some ⟨Bn, 0, none⟩)] W fun e W' => (∃ v, e = .returned v) ∧
      ((∃ xs, (∃ j, Run nx k0 xs j ∧ nx j = none ∧ j ≤ s.size ∧ ScAt c s (stop j) W') ∧ J xs W') ∨ (∃ pre, (∃ j, Run nx k0 pre j) ∧ Jx pre W')) := by
  refine callsIn_of_wp Tryz.func160 rfl trivial ?_ rfl
  simp only [Tryz.ntmps160, List.size_toArray, List.length_cons, List.length_nil, Nat.reduceAdd, Nat.reduceSub, Array.replicate_succ, Array.replicate_zero, List.push_toArray, List.append_toArray, List.nil_append, List.cons_append]
  gi_wp2
  gi_loopw [] (fun wr => ∃ (pre : List Tok) (j : Nat), Run nx k0 pre j ∧ j ≤ s.size ∧ J pre wr ∧ ScAt c s j wr) (fun wr => s.size - posOf c wr)
  case atStart => exact ⟨[], k0, .nil, hk0, h0, hs0⟩
  case round =>
    obtain ⟨pre, j, hrun, hj, hJp, hsc⟩ := hrel
    obtain ⟨hL, hbn⟩ := hJL pre wr hJp
    have hpos := hsc.pos
    have hall := hN j hj wr hsc hL
    cases hnx : nx j with
    | none =>
      have h161 : Calls Tryz.prog 161 #[.pointer (some ⟨c, 0, none⟩)] wr (RetC (.tuple #[zeroV, .bool false]) c s (stop j) wr) := by rw [hnx] at hall; exact hall
      clear hall
      gi_wp2_with fail
      refine ⟨trivial, (by simp [Fence.wide]), (callsIn_wide.2 h161).mono ?_⟩
      rintro e w1 ⟨rfl, hs1, hg1⟩
      gi_wp2
      refine ⟨fun _ h => (by cases h), ?_⟩
      gi_wp2
      refine bodyPost_ret (results_none rfl _ _ _) rfl ?_
      refine ⟨⟨_, rfl⟩, .inl ⟨pre, ⟨j, hrun, hnx, hj, (heap_alloc_old' w1 _ _ (Array.getElem?_eq_some_iff.1 hs1).1).trans hs1⟩, ?_⟩⟩
      exact hJ _ _ _ (hJ _ _ _ hJp hg1) (GC.of_below ((Below.refl _ _).alloc (Nat.le_refl _) _))
    | some r =>
      obtain ⟨t, j'⟩ := r
      obtain ⟨hlt, hj'⟩ := hP j t j' hnx
      have h161 : Calls Tryz.prog 161 #[.pointer (some ⟨c, 0, none⟩)] wr (RetC (.tuple #[t.val, .bool true]) c s j' wr) := by rw [hnx] at hall; exact hall
      clear hall
      gi_wp2_with fail
      refine ⟨trivial, (by simp [Fence.wide]), (callsIn_wide.2 h161).mono ?_⟩
      rintro e w1 ⟨rfl, hs1, hg1⟩
      have hJ1 := hJ _ _ _ (hJ _ _ _ hJp hg1) (GC.of_below ((Below.refl _ _).alloc (Nat.le_refl _) (.cells #[.int .i64 t.kind, .string t.text, .int .i64 t.n, .int .i64 t.pos] 24)))
      obtain ⟨fn, tmps, assign, body, hy, hR⟩ := hY pre t _ hJ1
      have hs2 : ScAt c s j' (w1.alloc (.cells #[.int .i64 t.kind, .string t.text, .int .i64 t.n, .int .i64 t.pos] 24)) := (heap_alloc_old' w1 _ _ (Array.getElem?_eq_some_iff.1 hs1).1).trans hs1
      gi_wp2
      refine ⟨(by simp [Fence.wide]), hR.mono ?_⟩
      rintro e W3 (⟨rfl, hJ3, hk3⟩ | ⟨rfl, hJx3⟩)
      · have hs3 : ScAt c s j' W3 := hk3.trans hs2
        gi_wp2
        go_roundw
        case rel => exact ⟨pre ++ [t], j', .snoc hrun hnx, hj', hJ3, hs3⟩
        case measure => rw [hs3.pos, hpos]; omega
      · gi_wp2
        refine bodyPost_ret (results_none rfl _ _ _) rfl ?_
        exact ⟨⟨_, rfl⟩, .inr ⟨pre ++ [t], ⟨j', .snoc hrun hnx⟩, hJx3⟩⟩
set_option maxHeartbeats 4000000 in
set_option maxRecDepth 100000 in
theorem f22_E (n : Nat) (s : ByteArray) (w : World) (hs : s.size ≤ 16384) (hL : LdE w) (nx : Nat → Option (Tok × Nat)) (stop : Nat → Nat) (hN : ∀ c k, 8 ≤ c → k ≤ s.size → NextE c s k (nx k) (stop k)) (hP : ∀ k t j, nx k = some (t, j) → k < j ∧ j ≤ s.size) (hst : ∀ k, k ≤ s.size → stop k ≤ s.size) :
    CallsIn Fence.wide n Tryz.prog 22 #[.string s] w (LexPost s nx stop w) := by
  refine callsIn_of_wp_marks Tryz.func22 rfl trivial ?_ rfl
  simp only [Tryz.ntmps22, List.size_toArray, List.length_cons, List.length_nil, Nat.reduceAdd, Nat.reduceSub, Array.replicate_succ, Array.replicate_zero, List.push_toArray, List.append_toArray, List.nil_append, List.cons_append]
  have hs' : ((s.size : Int) ≤ 16384) := by omega
  gi_wp2_with fail
  refine ⟨trivial, (by simp [Fence.wide]), (callsIn_wide.2 (f82_all _ _)).mono ?_⟩
  rintro e w1 ⟨rfl, rfl⟩
  gi_wp2
  simp only [Nat.add_assoc, Nat.reduceAdd]
  have hW : lexW s w = lexW s w := rfl
  conv at hW => lhs; unfold lexW
  rw [hW]
  obtain ⟨W0, hW0⟩ : ∃ W0, lexW s w = W0 := ⟨_, rfl⟩
  rw [hW0]
  have hsz : W0.heap.size = w.heap.size + 6 := by rw [← hW0]; simp [lexW]
  have hbw : Below w.heap.size w W0 := by
    rw [← hW0]
    exact ((((((Below.refl _ w).alloc (Nat.le_refl _) _).alloc (by simp) _).alloc (by simp; omega) _).alloc (by simp; omega) _).alloc (by simp; omega) _).alloc (by simp; omega) _
  have row : ∀ i o, (lexW s w).heap[w.heap.size + i]? = some o → W0.heap[w.heap.size + i]? = some o := fun i o h => by rw [← hW0]; exact h
  have q0 : W0.heap[w.heap.size]? = some (.cells #[.slice none 0 0] 22) := by rw [← hW0]; exact lexW_row _ _ 0 (by decide)
  have q1 : W0.heap[w.heap.size + 1]? = some (.cells #[.int .i64 0] 3) := by rw [← hW0]; exact lexW_row _ _ 1 (by decide)
  have q2 : W0.heap[w.heap.size + 2]? = some (.cells #[.int .i64 0] 25) := by rw [← hW0]; exact lexW_row _ _ 2 (by decide)
  have q3 : W0.heap[w.heap.size + 3]? = some (.cells #[.string s, .int .i64 0] 110) := by rw [← hW0]; exact lexW_row _ _ 3 (by decide)
  have q4 : W0.heap[w.heap.size + 4]? = some (.cells #[.slice none 0 0] 22) := by rw [← hW0]; exact lexW_row _ _ 4 (by decide)
  have q5 : W0.heap[w.heap.size + 5]? = some (.cells #[.pointer (some ⟨w.heap.size + 3, 0, none⟩)] 108) := by rw [← hW0]; exact lexW_row _ _ 5 (by decide)
  clear row hW hW0
  generalize hb : w.heap.size = b at *
  have hb100 : 8 ≤ b := by rw [← hb]; exact hL.laid.size
  have HB := Lib.hid hb
  clear hb
  have hLI : ∀ pre W, LI w b pre W → LdE W := fun pre W h => hL.below (⟨h.os, h.tape, h.output, by have := h.size; have := HB.out; omega, fun k hk => h.old k (by have := HB.out; omega)⟩ : Below w.heap.size w W) hL.laid.size
  refine wpIn_rangeC (α := Tok) (encs := fun t => #[t.val]) rfl (by simp [Fence.wide]) (gf := 160) (lb := #[.pointer (some ⟨b + 5, 0, none⟩)]) rfl trivial (enters_of Tryz.func160 (by kernel_rfl) rfl) (fun _ => rfl) (b + 3) (b + 6) (by rw [hsz]) (by omega)
    (fun xs W => ∃ j, Run nx 0 xs j ∧ nx j = none ∧ j ≤ s.size ∧ ScAt (b + 3) s (stop j) W) (fun pre => ∃ j, Run nx 0 pre j) (LI w b) (LX w b)
    (fun pre A B h hg => h.turn hg (.inl rfl)) (fun pre A o' h => h.turn (grownBy_putObj' A _ o') (.inr (.inr rfl))) (fun pre A o' h => h.turn (grownBy_putObj' A _ o') (.inr rfl))
    (fun pre A o' ⟨j, h1, h2, h3, h4⟩ => ⟨j, h1, h2, h3, (World.putObj_heap_other (by omega)).trans h4⟩)
    ?seq ?start (fun t a₁ W => ∃ Bx, b + 8 ≤ Bx ∧ W.heap[Bx]? = some (.cells (tcells t).toArray 24) ∧ a₁ = { tmps := #[.string s, undef, .pointer (some ⟨b, 0, none⟩), .pointer (some ⟨b + 1, 0, none⟩), .pointer (some ⟨b + 2, 0, none⟩), .pointer (some ⟨b + 3, 0, none⟩), .pointer (some ⟨b + 4, 0, none⟩), .pointer (some ⟨Bx, 0, none⟩), .string s, .int .i64 s.size, .bool (decide (16384 < (s.size : Int))), .string s, .agg #[.string s, .int .i64 0], .pointer (some ⟨b + 3, 0, none⟩), .pointer (some ⟨b + 3, 0, none⟩), .func (.func 160) #[] #[.pointer (some ⟨b + 5, 0, none⟩)], t.val, undef, undef, undef, undef, undef, undef, undef, undef, undef, undef, undef, undef, undef, undef, undef, undef, undef, undef], defers := [] })
    ?ax ?assign ?body ?done ?stop
  case seq =>
    intro l J Jx W hJ hJI hY hbW h0
    have hs3 : ScAt (b + 3) s 0 W := (hbW.block (b + 3) (by omega)).trans q3
    refine (f160_E (n - 1) (b + 3) s nx stop (fun k hk => hN (b + 3) k (by omega) hk) hP l (b + 5) 0 (Nat.zero_le _) J Jx hJ ?_ hY W h0 hs3).mono ?_
    · intro xs A hA
      exact ⟨hLI xs A (hJI xs A hA), Lib.cell_of_heap (hJI xs A hA).box 0⟩
    · rintro e W' ⟨hv, (⟨xs, hS, hJx⟩ | ⟨pre, hr, hx⟩)⟩
      · exact ⟨hv, .inl ⟨xs, hS, hJx⟩⟩
      · exact ⟨hv, .inr ⟨pre, hr, hx⟩⟩
  case start =>
    intro W hbW hsW
    have e : ∀ k, k < b + 6 → W.heap[k]? = W0.heap[k]? := fun k hk => hbW.block k (by omega)
    exact ⟨by simp, hbW.os.trans hbw.os, hbW.tape.trans hbw.tape, hbW.output.trans hbw.output, hsW, fun k hk => (e k (by omega)).trans (hbw.block k hk), (e _ (by omega)).trans q0, (e _ (by omega)).trans q1, (e _ (by omega)).trans q2, (e _ (by omega)).trans q5, _, (e _ (by omega)).trans q4, World.ownsRow_nil _ _ _ _⟩
  case ax =>
    rintro t a₁ A o' ⟨Bx, h1, h2, h3⟩
    exact ⟨Bx, h1, (World.putObj_heap_other (by omega)).trans h2, h3⟩
  case assign =>
    intro l pre x W K hi hK
    have hi8 := hi.size
    gi_wp2
    exact hK _ _ ⟨W.heap.size, hi8, heap_alloc_new W _, rfl⟩ (hi.turn (GC.of_below (c := b + 3) ((Below.refl _ _).alloc (Nat.le_refl _) _)) (.inl rfl)) (fun r hr => heap_alloc_old' W _ r (by omega))
  case body =>
    rintro l pre x a₁ W ⟨Bx, hBx, hx, rfl⟩ hi
    obtain ⟨v, hv, hown⟩ := hi.list
    have hi8 := hi.size
    have hpl := hi.len
    obtain ⟨⟨x0, x1, x2, x3⟩, _⟩ := four_of (v0 := .int .i64 x.kind) (v1 := .string x.text) (v2 := .int .i64 x.n) (v3 := .int .i64 x.pos) (t := 24) hx
    have hv0 : W.cell? ⟨b + 4, 0, none⟩ = some v := Lib.cell_of_heap hv 0
    obtain ⟨bb, cc, hvv⟩ : ∃ bb cc, v = .slice bb pre.length cc := by
      rcases hown.2 with ⟨rfl, h0⟩ | ⟨g, cap, cur, rfl, _⟩
      · exact ⟨none, 0, by rw [h0]⟩
      · exact ⟨_, _, rfl⟩
    by_cases hp : pre.length = 4096
    · have hpe : ((pre.length : Int) == 4096) = true := by simp; omega
      obtain ⟨⟨a0, af0⟩, ⟨a1, af1⟩, a2, af2⟩ : (W.cell? ⟨b, 0, none⟩ = some (.slice none 0 0) ∧ W.frozen? ⟨b, 0, none⟩ = false) ∧ (W.cell? ⟨b + 1, 0, none⟩ = some (.int .i64 0) ∧ W.frozen? ⟨b + 1, 0, none⟩ = false) ∧ (W.cell? ⟨b + 2, 0, none⟩ = some (.int .i64 0) ∧ W.frozen? ⟨b + 2, 0, none⟩ = false) :=
        ⟨⟨Lib.cell_of_heap hi.r0 0, Lib.frozen_of_heap hi.r0 0⟩, ⟨Lib.cell_of_heap hi.r1 0, Lib.frozen_of_heap hi.r1 0⟩, ⟨Lib.cell_of_heap hi.r2 0, Lib.frozen_of_heap hi.r2 0⟩⟩
      have hfin : KF (b + 3) (b + 6) W (W3 b (.slice none 0 0) (.int .i64 x.pos) (.int .i64 3) W).drew ∧ LX w b (pre ++ [x]) (W3 b (.slice none 0 0) (.int .i64 x.pos) (.int .i64 3) W).drew := by
        obtain ⟨g0, g1, g2, g3, g4⟩ := w3_facts (v0 := .slice none 0 0) (v1 := .int .i64 x.pos) (v2 := .int .i64 3) hi.r0 hi.r1 hi.r2
        refine ⟨fun r hr => g3 r (by omega) (by omega) (by omega), ⟨by simp; omega, hi.os, hi.tape, hi.output, ?_, fun k hk => (g3 k (by omega) (by omega) (by omega)).trans (hi.old k hk), g0, ⟨_, g1⟩, g2⟩⟩
        show b + 8 ≤ (W3 b _ _ _ W).heap.size
        omega
      subst hvv
      gi_wp2
      gi_region
      all_goals gi_wp2
      all_goals exact hfin
    · have hpe : ((pre.length : Int) == 4096) = false := by simp; omega
      obtain ⟨i0, hi0, hz0, hz1, hz2⟩ := info_parts infoTok
      subst hvv
      gi_wp2_with (gi_at_builtin; refine wpListIn_append_own _ rfl _ _ 22 rfl (b + 8) 24 i0 zeroV 4 40 Tryz.underlying22 hi0 hz0 hz1 hz2 rfl (by decide) _ _ _ rfl (World.ownsRow.alloc hown _) ⟨W.heap.size, 0, none⟩ 1 1 (tcells x) rfl rfl ?_ (tcells_one x) ?_ ?_ ?_ ?_)
      · intro j u hj
        have : (⟨W.heap.size, 0, none⟩ : Addr).add j = ⟨W.heap.size, j, none⟩ := by unfold Addr.add; split <;> simp_all
        rw [this, Lib.cell_of_heap (heap_alloc_new W _) j]
        simpa [tcells] using hj
      · unfold maxLen; omega
      · omega
      · simp; omega
      · intro v' w1 hown' hgrow _
        obtain ⟨g', cap', rfl⟩ := ownsRow_succ hown'
        have hrow : ∀ r, (Value.slice bb pre.length cc).ownBlock = some r → b + 8 ≤ r := by
          intro r hr
          rcases hown.2 with ⟨h, _⟩ | ⟨g, cap, cur, h, hg, _⟩
          · rw [h] at hr; cases hr
          · rw [h] at hr; simp [Value.ownBlock] at hr; omega
        have hk8 : ∀ k, k < b + 8 → w1.heap[k]? = W.heap[k]? := fun k hk => (hgrow.block k (by simp; omega) (fun e => by have := hrow k e.symm; omega)).trans (heap_alloc_old' W _ k (by omega))
        have hv1 : w1.heap[b + 4]? = some (.cells #[.slice bb pre.length cc] 22) := (hk8 _ (by omega)).trans hv
        have hc1 : w1.cell? ⟨b + 4, 0, none⟩ = some (.slice bb pre.length cc) := Lib.cell_of_heap hv1 0
        have hf1 : w1.frozen? ⟨b + 4, 0, none⟩ = false := Lib.frozen_of_heap hv1 0
        have hw8 : b + 8 ≤ w1.heap.size := by have := hgrow.size; simp at this; omega
        obtain ⟨hv2, hg2⟩ := setCell_block w1 (b + 4) 0 (.slice (some ⟨g', 0, none⟩) (pre.length + 1) cap') _ _ hv1
        have hk82 : ∀ k, k < b + 8 → k ≠ b + 4 → (w1.setCell ⟨b + 4, 0, none⟩ (.slice (some ⟨g', 0, none⟩) (pre.length + 1) cap')).heap[k]? = W.heap[k]? := fun k hk hk4 => (hg2.block k (by omega) (by simp; omega)).trans (hk8 k hk)
        have hfin : KF (b + 3) (b + 6) W (w1.setCell ⟨b + 4, 0, none⟩ (.slice (some ⟨g', 0, none⟩) (pre.length + 1) cap')) ∧ LI w b (pre ++ [x]) (w1.setCell ⟨b + 4, 0, none⟩ (.slice (some ⟨g', 0, none⟩) (pre.length + 1) cap')) := by
          refine ⟨fun r hr => hk82 r (by omega) (by omega), ?_⟩
          refine ⟨by simp; omega, hg2.os.trans (hgrow.os.trans hi.os), hg2.tape.trans (hgrow.tape.trans hi.tape), hg2.output.trans (hgrow.output.trans hi.output), by have := hg2.size; omega, fun k hk => (hk82 k (by omega) (by omega)).trans (hi.old k hk), (hk82 _ (by omega) (by omega)).trans hi.r0, (hk82 _ (by omega) (by omega)).trans hi.r1, (hk82 _ (by omega) (by omega)).trans hi.r2, (hk82 _ (by omega) (by omega)).trans hi.box, _, hv2, ?_⟩
          unfold OwnT
          rw [List.length_append, List.flatMap_append]
          have h2 : ([x] : List Tok).flatMap tcells = tcells x := by simp
          rw [h2]
          exact OwnT_kept' hown' hg2 (by omega)
        have HF := Lib.hid hfin
        clear hfin hk82 hg2 hv2
        gi_wp2
        exact HF.out
  case done =>
    rintro xs W ⟨j, hrun, hnx, hj, hsc⟩ hi hD
    obtain ⟨v, hv, hown⟩ := hi.list
    have hi8 := hi.size
    have h83 := f83_blanks (b + 3) s (stop j) W hsc (hst j hj) (by omega)
    obtain ⟨K, hK⟩ : ∃ K, skip s (stop j) = K := ⟨_, rfl⟩
    rw [hK] at h83
    have hKs : K ≤ s.size := by rw [← hK]; exact (skip_le s (stop j) (hst j hj)).2
    by_cases hlt : K < s.size
    · rw [decide_eq_true hlt] at h83
      gi_wp2_with fail
      refine ⟨trivial, (by simp [Fence.wide]), (callsIn_wide.2 h83).mono ?_⟩
      rintro e w1 ⟨rfl, hs1, hg1⟩
      have hi1 := hi.turn hg1 (.inl rfl)
      have hD1 : w1.heap[b + 6]? = some (.deferred (some [])) := (hg1.block _ (Array.getElem?_eq_some_iff.1 hD).1 (by simp)).trans hD
      have c1 : w1.cell? ⟨b + 3, 1, none⟩ = some (.int .i64 K) := Lib.cell_of_heap hs1 1
      obtain ⟨⟨a0, af0⟩, ⟨a1, af1⟩, a2, af2⟩ : (w1.cell? ⟨b, 0, none⟩ = some (.slice none 0 0) ∧ w1.frozen? ⟨b, 0, none⟩ = false) ∧ (w1.cell? ⟨b + 1, 0, none⟩ = some (.int .i64 0) ∧ w1.frozen? ⟨b + 1, 0, none⟩ = false) ∧ (w1.cell? ⟨b + 2, 0, none⟩ = some (.int .i64 0) ∧ w1.frozen? ⟨b + 2, 0, none⟩ = false) :=
        ⟨⟨Lib.cell_of_heap hi1.r0 0, Lib.frozen_of_heap hi1.r0 0⟩, ⟨Lib.cell_of_heap hi1.r1 0, Lib.frozen_of_heap hi1.r1 0⟩, ⟨Lib.cell_of_heap hi1.r2 0, Lib.frozen_of_heap hi1.r2 0⟩⟩
      obtain ⟨g0, g1, g2, g3, g4⟩ := w3_facts (v0 := .slice none 0 0) (v1 := .int .i64 (K : Int)) (v2 := .int .i64 150) hi1.r0 hi1.r1 hi1.r2
      have hDX : (W3 b (.slice none 0 0) (.int .i64 (K : Int)) (.int .i64 150) w1).drew.heap[b + 6]? = some (.deferred (some [])) := (g3 _ (by omega) (by omega) (by omega)).trans hD1
      have e0 : ((W3 b (.slice none 0 0) (.int .i64 (K : Int)) (.int .i64 150) w1).drew.putObj (b + 6) (.deferred none)).cell? ⟨b, 0, none⟩ = _ := Lib.cell_of_heap ((World.putObj_heap_other (by omega)).trans g0) 0
      have e1 : ((W3 b (.slice none 0 0) (.int .i64 (K : Int)) (.int .i64 150) w1).drew.putObj (b + 6) (.deferred none)).cell? ⟨b + 1, 0, none⟩ = _ := Lib.cell_of_heap ((World.putObj_heap_other (by omega)).trans g1) 0
      have e2 : ((W3 b (.slice none 0 0) (.int .i64 (K : Int)) (.int .i64 150) w1).drew.putObj (b + 6) (.deferred none)).cell? ⟨b + 2, 0, none⟩ = _ := Lib.cell_of_heap ((World.putObj_heap_other (by omega)).trans g2) 0
      have hbel : Below w.heap.size w ((W3 b (.slice none 0 0) (.int .i64 (K : Int)) (.int .i64 150) w1).drew.putObj (b + 6) (.deferred none)) := by
        refine ⟨hi1.os, hi1.tape, hi1.output, ?_, fun k hk => ?_⟩
        · have h1 := hi1.size
          have h2 := HB.out
          have h3 : (W3 b (.slice none 0 0) (.int .i64 (K : Int)) (.int .i64 150) w1).drew.heap.size = w1.heap.size := g4
          rw [World.putObj_size]
          omega
        · have h2 := HB.out
          exact (World.putObj_heap_other (by omega)).trans ((g3 k (by omega) (by omega) (by omega)).trans (hi1.old k (by omega)))
      gi_wp2
      gi_region
      all_goals
        gi_wp2
        refine ⟨by simp, .inl ⟨_, _, rfl, run_takeDeferred hDX, ?_⟩⟩
        refine ⟨.tuple #[.slice none 0 0, .int .i64 K, .int .i64 150], ?_, ?_⟩
        · change Sem.run Tryz.prog _ ((W3 b (.slice none 0 0) (.int .i64 (K : Int)) (.int .i64 150) w1).drew.putObj (b + 6) (.deferred none)) = Result.ok _ ((W3 b (.slice none 0 0) (.int .i64 (K : Int)) (.int .i64 150) w1).drew.putObj (b + 6) (.deferred none))
          generalize (W3 b (.slice none 0 0) (.int .i64 (K : Int)) (.int .i64 150) w1).drew.putObj (b + 6) (.deferred none) = W9 at *
          simp [results, Tryz.f22]
          go_simp
        · exact ⟨_, _, _, rfl, hbel, .inr (.inr ⟨rfl, xs, j, hrun, hnx, hj, by rw [hK]; exact hlt⟩)⟩
    · rw [decide_eq_false hlt] at h83
      gi_wp2_with fail
      refine ⟨trivial, (by simp [Fence.wide]), (callsIn_wide.2 h83).mono ?_⟩
      rintro e w1 ⟨rfl, hs1, hg1⟩
      have hi1 := hi.turn hg1 (.inl rfl)
      have hD1 : w1.heap[b + 6]? = some (.deferred (some [])) := (hg1.block _ (Array.getElem?_eq_some_iff.1 hD).1 (by simp)).trans hD
      obtain ⟨v, hv1, hown1⟩ := hi1.list
      obtain ⟨bb, cc, hvv⟩ : ∃ bb cc, v = .slice bb xs.length cc := by
        rcases hown1.2 with ⟨rfl, h0⟩ | ⟨g, cap, cur, rfl, _⟩
        · exact ⟨none, 0, by rw [h0]⟩
        · exact ⟨_, _, rfl⟩
      subst hvv
      have hv0 : w1.cell? ⟨b + 4, 0, none⟩ = some (.slice bb xs.length cc) := Lib.cell_of_heap hv1 0
      obtain ⟨⟨a0, af0⟩, ⟨a1, af1⟩, a2, af2⟩ : (w1.cell? ⟨b, 0, none⟩ = some (.slice none 0 0) ∧ w1.frozen? ⟨b, 0, none⟩ = false) ∧ (w1.cell? ⟨b + 1, 0, none⟩ = some (.int .i64 0) ∧ w1.frozen? ⟨b + 1, 0, none⟩ = false) ∧ (w1.cell? ⟨b + 2, 0, none⟩ = some (.int .i64 0) ∧ w1.frozen? ⟨b + 2, 0, none⟩ = false) :=
        ⟨⟨Lib.cell_of_heap hi1.r0 0, Lib.frozen_of_heap hi1.r0 0⟩, ⟨Lib.cell_of_heap hi1.r1 0, Lib.frozen_of_heap hi1.r1 0⟩, ⟨Lib.cell_of_heap hi1.r2 0, Lib.frozen_of_heap hi1.r2 0⟩⟩
      obtain ⟨g0, g1, g2, g3, g4⟩ := w3_facts (v0 := .slice bb xs.length cc) (v1 := .int .i64 (s.size : Int)) (v2 := .int .i64 0) hi1.r0 hi1.r1 hi1.r2
      have hDX : (W3 b (.slice bb xs.length cc) (.int .i64 (s.size : Int)) (.int .i64 0) w1).heap[b + 6]? = some (.deferred (some [])) := (g3 _ (by omega) (by omega) (by omega)).trans hD1
      have e0 : ((W3 b (.slice bb xs.length cc) (.int .i64 (s.size : Int)) (.int .i64 0) w1).putObj (b + 6) (.deferred none)).cell? ⟨b, 0, none⟩ = _ := Lib.cell_of_heap ((World.putObj_heap_other (by omega)).trans g0) 0
      have e1 : ((W3 b (.slice bb xs.length cc) (.int .i64 (s.size : Int)) (.int .i64 0) w1).putObj (b + 6) (.deferred none)).cell? ⟨b + 1, 0, none⟩ = _ := Lib.cell_of_heap ((World.putObj_heap_other (by omega)).trans g1) 0
      have e2 : ((W3 b (.slice bb xs.length cc) (.int .i64 (s.size : Int)) (.int .i64 0) w1).putObj (b + 6) (.deferred none)).cell? ⟨b + 2, 0, none⟩ = _ := Lib.cell_of_heap ((World.putObj_heap_other (by omega)).trans g2) 0
      have hbel : Below w.heap.size w ((W3 b (.slice bb xs.length cc) (.int .i64 (s.size : Int)) (.int .i64 0) w1).putObj (b + 6) (.deferred none)) := by
        refine ⟨hi1.os, hi1.tape, hi1.output, ?_, fun k hk => ?_⟩
        · have h1 := hi1.size
          have h2 := HB.out
          have h3 : (W3 b (.slice bb xs.length cc) (.int .i64 (s.size : Int)) (.int .i64 0) w1).heap.size = w1.heap.size := g4
          rw [World.putObj_size]
          omega
        · have h2 := HB.out
          exact (World.putObj_heap_other (by omega)).trans ((g3 k (by omega) (by omega) (by omega)).trans (hi1.old k (by omega)))
      have hownX : OwnT w.heap.size (.slice bb xs.length cc) xs ((W3 b (.slice bb xs.length cc) (.int .i64 (s.size : Int)) (.int .i64 0) w1).putObj (b + 6) (.deferred none)) := by
        have h2 := HB.out
        refine ⟨hown1.1, ?_⟩
        rcases hown1.2 with h | ⟨g, cap, cur, h3, h4, h5, h6⟩
        · exact .inl h
        · exact .inr ⟨g, cap, cur, h3, by omega, (World.putObj_heap_other (by omega)).trans ((g3 g (by omega) (by omega) (by omega)).trans h5), h6⟩
      gi_wp2
      refine ⟨by simp, .inl ⟨_, _, rfl, run_takeDeferred hDX, ?_⟩⟩
      refine ⟨.tuple #[.slice bb xs.length cc, .int .i64 s.size, .int .i64 0], ?_, ?_⟩
      · change Sem.run Tryz.prog _ ((W3 b (.slice bb xs.length cc) (.int .i64 (s.size : Int)) (.int .i64 0) w1).putObj (b + 6) (.deferred none)) = Result.ok _ ((W3 b (.slice bb xs.length cc) (.int .i64 (s.size : Int)) (.int .i64 0) w1).putObj (b + 6) (.deferred none))
        generalize (W3 b (.slice bb xs.length cc) (.int .i64 (s.size : Int)) (.int .i64 0) w1).putObj (b + 6) (.deferred none) = W9 at *
        simp [results, Tryz.f22]
        go_simp
      · exact ⟨_, _, _, rfl, hbel, .inl ⟨rfl, rfl, xs, j, hrun, hnx, hj, by rw [hK]; exact hlt, hi1.len, hownX⟩⟩
  case stop =>
    rintro pre W ⟨j, hrun⟩ hx hD
    obtain ⟨xx, hx1⟩ := hx.r1
    have ht := hx.turn (grownBy_putObj' W (b + 6) (.deferred none)) (.inl rfl)
    have t1 : (W.putObj (b + 6) (.deferred none)).heap[b + 1]? = some (.cells #[.int .i64 xx] 3) := (World.putObj_heap_other (by omega)).trans hx1
    have e0 := Lib.cell_of_heap ht.r0 0
    have e1 := Lib.cell_of_heap t1 0
    have e2 := Lib.cell_of_heap ht.r2 0
    gi_wp2
    refine ⟨by simp, .inl ⟨_, _, rfl, run_takeDeferred hD, ?_⟩⟩
    refine ⟨.tuple #[.slice none 0 0, .int .i64 xx, .int .i64 3], ?_, ?_⟩
    · generalize W.putObj (b + 6) (.deferred none) = W9 at *
      simp [results, Tryz.f22]
      go_simp
    · refine ⟨_, _, _, rfl, ⟨ht.os, ht.tape, ht.output, ?_, fun k hk => ht.old k (by have := HB.out; omega)⟩, .inr (.inl ⟨rfl, pre, j, hrun, hx.len⟩)⟩
      have h1 := ht.size
      have h2 := HB.out
      omega
end Go.Proofs.YtijgmloodkbljaaGreatDoor

namespace Go.Proofs.YtijgmloodkbljaaGreatDoor
open Go Go.RowKit

theorem str_small {v : Val} (h : okV v = true) (hk : v.kind = 2) : v.s.size ≤ 128 := by
  obtain ⟨k, n, s, l⟩ := v
  have hk : k = 2 := hk
  subst hk
  simp [okV, mayV] at h
  exact h.2
theorem n_fine {v : Val} (h : i64V v) : I64n v.n := by obtain ⟨k, n, s, l⟩ := v; exact h.1
theorem i64_zero : I64n 0 := ⟨by decide, by decide⟩
theorem lexOne_facts {l : List UInt8} {t : Tok} {n : Nat} (h : lexOne l = some (t, n)) : n ≤ l.length ∧ I64n t.n ∧ t.text.size ≤ max l.length 128 ∧ t.pos = 0 := by
  unfold lexOne at h
  split at h
  · cases h
  · rename_i c r
    split at h
    · simp only [Option.some.injEq, Prod.mk.injEq] at h
      obtain ⟨rfl, rfl⟩ := h
      refine ⟨by simp, i64_zero, ?_, rfl⟩
      show 1 ≤ _
      omega
    · split at h
      · simp only [Option.some.injEq, Prod.mk.injEq] at h
        obtain ⟨rfl, rfl⟩ := h
        refine ⟨run_le _, i64_zero, ?_, rfl⟩
        show (ByteArray.mk ((c :: r).take (run (c :: r))).toArray).size ≤ _
        rw [size_arr, List.length_take]
        omega
      · split at h
        · have hle := closedL_le r.length r 1 (Nat.le_refl _)
          split at h
          · rename_i v hv
            split at h
            · rename_i hk
              simp only [Option.some.injEq, Prod.mk.injEq] at h
              obtain ⟨rfl, rfl⟩ := h
              obtain ⟨_, hok, hi⟩ := parseV_inv hv
              have := str_small hok hk
              exact ⟨by simp only [List.length_cons]; omega, i64_zero, by show v.s.size ≤ _; omega, rfl⟩
            · cases h
          · cases h
        · split at h
          · rename_i v hv
            split at h
            · simp only [Option.some.injEq, Prod.mk.injEq] at h
              obtain ⟨rfl, rfl⟩ := h
              obtain ⟨_, hok, hi⟩ := parseV_inv hv
              have h1 := run_le r
              have h2 := run_le (c :: r)
              refine ⟨?_, n_fine hi, Nat.zero_le _, rfl⟩
              simp only [List.length_cons] at h2 ⊢
              split <;> omega
            · cases h
          · cases h
theorem ext_drop (s : ByteArray) (k : Nat) (h : k ≤ s.size) : (s.extract k s.size).data.toList = s.data.toList.drop k := by
  rw [ext_list s k s.size (Nat.le_refl _)]
  apply List.take_of_length_le
  have := data_len s
  simp
theorem f161_next (c : Nat) (s : ByteArray) (k : Nat) (hc : 8 ≤ c) (hk : k ≤ s.size) (hs : s.size ≤ 1048576) : NextE c s k (nextT s k) (skip s k) := by
  intro w h hL
  obtain ⟨K, hK⟩ : ∃ K, skip s k = K := ⟨_, rfl⟩
  have hle := skip_le s k hk
  by_cases hlt : K < s.size
  · have hx := ext_drop s K (Nat.le_of_lt hlt)
    have hsz : (s.extract K s.size).size ≤ s.size := ext_size s K s.size (Nat.le_refl _)
    have hpos : 0 < (s.extract K s.size).size := by rw [← data_len, hx, List.length_drop, data_len]; omega
    have h228 := fun W (hW : LdE W) => f228_any (s.extract K s.size) hpos (Nat.le_trans hsz hs) W hW
    rw [hx] at h228
    have hlen : (s.data.toList.drop K).length ≤ s.size := by rw [List.length_drop, data_len]; omega
    have hnx : nextT s k = match lexOne (s.data.toList.drop K) with
      | some y => if y.2 ≠ 0 ∧ (y.1.put K).ok = true then some (y.1.put K, K + y.2) else none
      | none => none := by unfold nextT; rw [hK, if_pos hlt]; rfl
    cases hL1 : lexOne (s.data.toList.drop K) with
    | none =>
      rw [hL1] at h228 hnx
      rw [hnx, hK]
      exact f161_any c s k K 0 ⟨0, ⟨#[]⟩, 0, K⟩ w h hk hs hL hc hK hlt (fun W hW => h228 W hW) (Nat.zero_le _) rfl (by decide) _ (fun h => absurd rfl h) (fun _ e w' h => h)
    | some y =>
      obtain ⟨t, n⟩ := y
      obtain ⟨f1, f2, f3, f4⟩ := lexOne_facts hL1
      rw [hL1] at h228 hnx
      dsimp only at hnx
      rw [hK]
      have hgo := fun Q => f161_any c s k K n (t.put K) w h hk hs hL hc hK hlt (fun W hW => h228 W hW) (by show t.text.size ≤ _; omega) rfl (by omega) Q
      by_cases hy : n ≠ 0 ∧ (t.put K).ok = true
      · rw [if_pos hy] at hnx
        rw [hnx]
        exact hgo _ (fun _ _ e w' h => h) (fun h => absurd hy h)
      · rw [if_neg hy] at hnx
        rw [hnx]
        exact hgo _ (fun a b => absurd ⟨a, b⟩ hy) (fun _ e w' h => h)
  · have hnx : nextT s k = none := by unfold nextT; rw [hK, if_neg hlt]
    rw [hnx, hK]
    exact f161_end c s k K w h hk hs hK hlt
theorem nextT_facts {s : ByteArray} {k : Nat} {t : Tok} {j : Nat} (hk : k ≤ s.size) (h : nextT s k = some (t, j)) : k < j ∧ j ≤ s.size ∧ t.ok = true ∧ I64n t.n ∧ t.text.size ≤ max s.size 128 ∧ t.pos = skip s k := by
  have hle := skip_le s k hk
  unfold nextT at h
  split at h
  · rename_i hlt
    split at h
    · rename_i y hy
      obtain ⟨t', n⟩ := y
      obtain ⟨f1, f2, f3, f4⟩ := lexOne_facts hy
      rw [List.length_drop, data_len] at f1 f3
      dsimp only at h
      split at h
      · rename_i hc
        simp only [Option.some.injEq, Prod.mk.injEq] at h
        obtain ⟨rfl, rfl⟩ := h
        exact ⟨by omega, by omega, hc.2, f2, by show t'.text.size ≤ _; omega, rfl⟩
      · cases h
    · cases h
  · cases h
theorem nextT_le {s : ByteArray} (k : Nat) (t : Tok) (j : Nat) (h : nextT s k = some (t, j)) : k < j ∧ j ≤ s.size := by
  by_cases hk : k ≤ s.size
  · exact ⟨(nextT_facts hk h).1, (nextT_facts hk h).2.1⟩
  · exfalso
    have : skip s k = k := by rw [skip, dif_neg (by omega)]
    unfold nextT at h
    rw [this, if_neg (by omega)] at h
    cases h
set_option maxHeartbeats 2000000 in
set_option maxRecDepth 100000 in
theorem f22_long (s : ByteArray) (w : World) (hs : ¬ s.size ≤ 16384) (hs2 : s.size ≤ 5000000000000) :
    Calls Tryz.prog 22 #[.string s] w (Ret (.tuple #[.slice none 0 0, .int .i64 0, .int .i64 3]) w) := by
  have hs' : ¬ ((s.size : Int) ≤ 16384) := by omega
  have hs3 : ((s.size : Int) ≤ 5000000000000) := by omega
  go_enter Tryz.func22, Tryz.ntmps22
  go_wp2
  refine bodyPost_ret (v := .tuple #[.slice none 0 0, .int .i64 0, .int .i64 3]) ?_ rfl ⟨rfl, (((Below.refl _ w).alloc (Nat.le_refl _) _).alloc (by simp) _).alloc (by simp; omega) _⟩
  simp [results, Tryz.f22]
  go_simp
theorem f22_fine (s : ByteArray) (w : World) (hs : s.size ≤ 16384) (hL : LdE w) : Calls Tryz.prog 22 #[.string s] w (LexPost s (nextT s) (skip s) w) :=
  callsIn_wide.1 (f22_E 3 s w hs hL (nextT s) (skip s) (fun c k hc hk => f161_next c s k hc hk (by omega)) nextT_le (fun k hk => (skip_le s k hk).2))
end Go.Proofs.YtijgmloodkbljaaGreatDoor

namespace Go.Proofs.YtijgmloodkbljaaGreatDoor
open Go Go.RowKit

/-- Steps behind one another, from the place k to the place e. -/
inductive Ch (nx : Nat → Option (Tok × Nat)) : Nat → List Tok → Nat → Prop
  | nil {k : Nat} : Ch nx k [] k
  | cons {k j e : Nat} {t : Tok} {l : List Tok} : nx k = some (t, j) → Ch nx j l e → Ch nx k (t :: l) e
theorem Ch.snoc {nx : Nat → Option (Tok × Nat)} {k j j' : Nat} {l : List Tok} {t : Tok} (h : Ch nx k l j) (hn : nx j = some (t, j')) : Ch nx k (l ++ [t]) j' := by
  induction h with
  | nil => exact .cons hn .nil
  | cons h1 _ ih => exact .cons h1 (ih hn)
theorem Run.ch {nx : Nat → Option (Tok × Nat)} {k j : Nat} {l : List Tok} (h : Run nx k l j) : Ch nx k l j := by
  induction h with
  | nil => exact .nil
  | snoc _ hn ih => exact ih.snoc hn
theorem Ch.split {nx : Nat → Option (Tok × Nat)} {k j : Nat} {xs : List Tok} (h : Ch nx k xs j) {ys : List Tok} {e : Nat} (h2 : Ch nx k ys e) (he : nx e = none) : ∃ zs, ys = xs ++ zs ∧ Ch nx j zs e := by
  induction h generalizing ys with
  | nil => exact ⟨ys, rfl, h2⟩
  | cons h1 _ ih =>
    cases h2 with
    | nil => rw [h1] at he; cases he
    | cons g1 g2 =>
      rw [h1] at g1
      simp only [Option.some.injEq, Prod.mk.injEq] at g1
      obtain ⟨rfl, rfl⟩ := g1
      obtain ⟨zs, rfl, hz⟩ := ih g2
      exact ⟨zs, rfl, hz⟩
theorem Ch.whole {nx : Nat → Option (Tok × Nat)} {k j : Nat} {xs : List Tok} (h : Ch nx k xs j) {ys : List Tok} {e : Nat} (h2 : Ch nx k ys e) (he : nx e = none) (hj : nx j = none) : xs = ys ∧ j = e := by
  obtain ⟨zs, rfl, hz⟩ := h.split h2 he
  cases hz with
  | nil => exact ⟨(List.append_nil _).symm, rfl⟩
  | cons g _ => rw [hj] at g; cases g

/-- A token without its place. -/
def Tok.bare (t : Tok) : Tok := t.put 0
theorem bare_put (t : Tok) (k : Int) : (t.put k).bare = t.bare := rfl
theorem put_ok (t : Tok) (k : Nat) (h : t.ok = true) : (t.put k).ok = true := by
  obtain ⟨h1, h2, h3⟩ := ok_parts h
  unfold Tok.ok
  simp only [Bool.and_eq_true, decide_eq_true_eq]
  exact ⟨⟨by show (0:Int) ≤ (k : Int); omega, h2⟩, h3⟩
theorem skip_at (s : ByteArray) (k : Nat) (h : k < s.size) (hb : isBl s[k] = false) : skip s k = k := by
  rw [skip, dif_pos h, hb]; rfl
theorem skip_blank (s : ByteArray) (k : Nat) (h : k < s.size) (hb : isBl s[k] = true) : skip s k = skip s (k + 1) := by
  rw [skip, dif_pos h, if_pos hb]
theorem skip_end (s : ByteArray) : skip s s.size = s.size := by rw [skip, dif_neg (by omega)]
theorem drop_head {s : ByteArray} {k : Nat} {c : UInt8} {x : List UInt8} (h : s.data.toList.drop k = c :: x) : ∃ hk : k < s.size, s[k] = c ∧ s.data.toList.drop (k + 1) = x := by
  have hk : k < s.size := by
    rw [← data_len]
    by_cases hk : k < s.data.toList.length
    · exact hk
    · rw [List.drop_eq_nil_of_le (by omega)] at h; cases h
  rw [drop_cons s k hk] at h
  obtain ⟨h1, h2⟩ := List.cons.inj h
  exact ⟨hk, h1, h2⟩
/-- Behind a separator the scanner stands on the token. -/
theorem skip_sep {s : ByteArray} {k : Nat} {last kd : Int} {c : UInt8} {x : List UInt8} (h : s.data.toList.drop k = sepL last kd ++ c :: x) (hc : isBl c = false) :
    skip s k = k + (sepL last kd).length ∧ skip s k < s.size ∧ s.data.toList.drop (skip s k) = c :: x := by
  unfold sepL at h ⊢
  by_cases hs : last ≠ 4 ∧ kd ≠ 4
  · rw [if_pos hs] at h ⊢
    obtain ⟨hk, h1, h2⟩ := drop_head h
    obtain ⟨hk2, h3, _⟩ := drop_head h2
    have e : skip s k = k + 1 := by rw [skip_blank s k hk (by rw [h1]; decide), skip_at s (k + 1) hk2 (by rw [h3]; exact hc)]
    exact ⟨e, by omega, by rw [e]; exact h2⟩
  · rw [if_neg hs] at h ⊢
    obtain ⟨hk, h1, _⟩ := drop_head h
    have e : skip s k = k := skip_at s k hk (by rw [h1]; exact hc)
    exact ⟨e, by omega, by rw [e]; exact h⟩
theorem txt_mark {t : Tok} (h : t.ok = true) (hk : t.kind = 4) : ∃ c, t.txt.data.toList = [c] ∧ markB c.toNat = true := by
  obtain ⟨_, _, hx⟩ := ok_parts h
  rcases kindOk_cases hx with ⟨h1, _⟩ | ⟨h1, _⟩ | ⟨h1, _⟩ | ⟨_, c, h1, hm⟩
  · omega
  · omega
  · omega
  · refine ⟨c, ?_, hm⟩
    unfold Tok.txt
    rw [if_pos h, hk]
    simpa using h1
theorem follows_rest (t : Tok) (l : List Tok) (hl : ∀ u ∈ l, u.ok = true) : follows t.kind (restP t.kind l) := by
  intro hk c x hr
  cases l with
  | nil => cases hr
  | cons u l =>
    have hu := hl u (by simp)
    unfold restP sepL at hr
    by_cases h4 : u.kind = 4
    · obtain ⟨d, hd, hm⟩ := txt_mark hu h4
      rw [if_neg (fun h => h.2 h4), hd] at hr
      obtain ⟨rfl, _⟩ := List.cons.inj hr
      exact mark_not_word d hm
    · rw [if_pos ⟨by omega, h4⟩] at hr
      obtain ⟨rfl, _⟩ := List.cons.inj hr
      decide
theorem rest_chain (s : ByteArray) : ∀ (ts : List Tok) (last : Int) (k : Nat), k ≤ s.size → s.data.toList.drop k = restP last ts → (∀ t ∈ ts, t.ok = true ∧ I64n t.n) →
    ∃ ys, Ch (nextT s) k ys s.size ∧ ys.map Tok.bare = ts.map Tok.bare := by
  intro ts
  induction ts with
  | nil =>
    intro last k hk h _
    have : (s.data.toList.drop k).length = 0 := by rw [h]; rfl
    rw [List.length_drop, data_len] at this
    obtain rfl : k = s.size := by omega
    exact ⟨[], .nil, rfl⟩
  | cons t l ih =>
    intro last k hk h hok
    obtain ⟨h1, h2⟩ := hok t (by simp)
    have hl : ∀ u ∈ l, u.ok = true ∧ I64n u.n := fun u hu => hok u (by simp [hu])
    obtain ⟨hx, c, x, hc, hb⟩ := lexOne_txt t h1 h2 (restP t.kind l) (follows_rest t l (fun u hu => (hl u hu).1))
    have h' : s.data.toList.drop k = sepL last t.kind ++ c :: (x ++ restP t.kind l) := by rw [h]; show sepL last t.kind ++ t.txt.data.toList ++ _ = _; rw [hc]; simp
    obtain ⟨e1, e2, e3⟩ := skip_sep h' hb
    have e3' : s.data.toList.drop (skip s k) = t.txt.data.toList ++ restP t.kind l := by rw [e3, hc]; rfl
    have hn : nextT s k = some (t.put (skip s k), skip s k + t.txt.data.toList.length) := by
      unfold nextT
      rw [if_pos e2, e3', hx]
      show (if t.txt.data.toList.length ≠ 0 ∧ (t.put (skip s k)).ok = true then _ else _) = _
      rw [if_pos ⟨by rw [hc]; simp, put_ok t _ h1⟩]
      rfl
    have hle := (nextT_facts hk hn).2.1
    obtain ⟨ys, hch, hy⟩ := ih t.kind (skip s k + t.txt.data.toList.length) hle (by rw [← List.drop_drop, e3']; simp) hl
    exact ⟨_, .cons hn hch, by rw [List.map_cons, List.map_cons, hy, bare_put]⟩
theorem nextT_end (s : ByteArray) : nextT s s.size = none := by unfold nextT; rw [skip_end, if_neg (by omega)]
/-- What comes of the text of tokens: the tokens. -/
theorem lex_back (s : ByteArray) (ts : List Tok) (hs : s = printS ts) (hok : ∀ t ∈ ts, t.ok = true ∧ I64n t.n) (hlen : ts.length ≤ 4096) {w : World} {e : Ending} {W' : World} (h : LexPost s (nextT s) (skip s) w e W') :
    ∃ v xs, e = .returned (.tuple #[v, .int .i64 s.size, .int .i64 0]) ∧ Below w.heap.size w W' ∧ xs.map Tok.bare = ts.map Tok.bare ∧ OwnT w.heap.size v xs W' ∧ Ch (nextT s) 0 xs s.size := by
  have hr : s.data.toList.drop 0 = restP 4 ts := by rw [List.drop_zero, hs, printS_rest ts (fun t ht => (hok t ht).1)]
  obtain ⟨ys, hch, hy⟩ := rest_chain s ts 4 0 (Nat.zero_le _) hr hok
  have hl2 : ys.length = ts.length := by simpa using congrArg List.length hy
  obtain ⟨v, at_, code, rfl, hb, hc⟩ := h
  rcases hc with ⟨rfl, rfl, xs, j, hrun, hnx, hj, _, _, hown⟩ | ⟨_, xs, j, hrun, hx⟩ | ⟨_, xs, j, hrun, hnx, hj, hsk⟩
  · obtain ⟨rfl, rfl⟩ := hrun.ch.whole hch (nextT_end s) hnx
    exact ⟨v, xs, rfl, hb, hy, hown, hch⟩
  · exfalso
    obtain ⟨zs, rfl, _⟩ := hrun.ch.split hch (nextT_end s)
    rw [List.length_append] at hl2
    omega
  · exfalso
    obtain ⟨_, rfl⟩ := hrun.ch.whole hch (nextT_end s) hnx
    rw [skip_end, skip_end] at hsk
    omega
/-- The tokens of any text are tokens. -/
theorem ch_fine {s : ByteArray} {k e : Nat} {l : List Tok} (h : Ch (nextT s) k l e) (hk : k ≤ s.size) : ∀ t ∈ l, t.ok = true ∧ I64n t.n ∧ t.text.size ≤ max s.size 128 := by
  induction h with
  | nil => intro t ht; cases ht
  | cons h1 _ ih =>
    obtain ⟨a, b, c, d, f, _⟩ := nextT_facts hk h1
    intro t ht
    rcases List.mem_cons.1 ht with rfl | ht
    · exact ⟨c, d, f⟩
    · exact ih b t ht
theorem txt_bare {t u : Tok} (ht : t.ok = true) (hu : u.ok = true) (h : t.bare = u.bare) : t.kind = u.kind ∧ t.txt = u.txt := by
  obtain ⟨a, b, c, d⟩ := t
  obtain ⟨a', b', c', d'⟩ := u
  simp only [Tok.bare, Tok.put, Tok.mk.injEq] at h
  obtain ⟨rfl, rfl, rfl, _⟩ := h
  refine ⟨rfl, ?_⟩
  unfold Tok.txt
  rw [if_pos ht, if_pos hu]
theorem rest_bare : ∀ (xs ys : List Tok) (last : Int), (∀ t ∈ xs, t.ok = true) → (∀ t ∈ ys, t.ok = true) → xs.map Tok.bare = ys.map Tok.bare → restP last xs = restP last ys := by
  intro xs
  induction xs with
  | nil => intro ys last _ _ h; cases ys with | nil => rfl | cons a b => cases h
  | cons t l ih =>
    intro ys last h1 h2 h
    cases ys with
    | nil => cases h
    | cons u m =>
      obtain ⟨e1, e2⟩ := List.cons.inj h
      obtain ⟨f1, f2⟩ := txt_bare (h1 t (by simp)) (h2 u (by simp)) e1
      unfold restP
      rw [f1, f2, ih m u.kind (fun x hx => h1 x (by simp [hx])) (fun x hx => h2 x (by simp [hx])) e2]
theorem print_bare (xs ys : List Tok) (h1 : ∀ t ∈ xs, t.ok = true) (h2 : ∀ t ∈ ys, t.ok = true) (h : xs.map Tok.bare = ys.map Tok.bare) : printS xs = printS ys := by
  apply ByteArray.ext
  apply Array.toList_inj.1
  rw [printS_rest xs h1, printS_rest ys h2, rest_bare xs ys 4 h1 h2 h]
theorem flat4 : ∀ (ts : List Tok) (i : Nat) (h : i < ts.length) (j : Nat), j < 4 → (ts.flatMap tcells)[i * 4 + j]? = (tcells ts[i])[j]? := by
  intro ts
  induction ts with
  | nil => intro i h; simp at h
  | cons t l ih =>
    intro i h j hj
    have hl : (tcells t).length = 4 := rfl
    rw [List.flatMap_cons]
    cases i with
    | zero => rw [List.getElem?_append_left (by rw [hl]; omega)]; simp
    | succ i =>
      rw [List.getElem?_append_right (by rw [hl]; omega), hl, show (i + 1) * 4 + j - 4 = i * 4 + j by omega, ih i (by simp at h; omega) j hj]
      rfl
theorem OwnT.toks {B : Nat} {v : Value} {ts : List Tok} {W : World} (h : OwnT B v ts W) (hf : ∀ t ∈ ts, t.fine) (hl : ts.length ≤ 1048576) : Toks W v ts := by
  refine ⟨?_, hf, hl⟩
  rcases h.2 with ⟨rfl, h0⟩ | ⟨g, cap, cur, hv, _⟩
  · refine ⟨none, 0, by rw [h0], fun i hi => by omega⟩
  · refine ⟨some ⟨g, 0, none⟩, cap, hv, fun i hi => ⟨g, 0, rfl, ?_, ?_⟩⟩
    · exact (World.ownsRow.lt h g (by rw [hv]; rfl)).2
    · have hc : ∀ j u, (ts.flatMap tcells)[j]? = some u → W.cell? ⟨g, j, none⟩ = some u := by
        intro j u hu
        have hx := World.ownsRow.cells h (g := g) (by rw [hv]; rfl) j u hu
        have ha : (⟨g, 0, none⟩ : Addr).add j = ⟨g, 0 + j, none⟩ := by unfold Addr.add; split <;> simp_all
        rwa [ha, Nat.zero_add] at hx
      have h4 := flat4 ts i hi
      simp only [Nat.zero_add]
      exact ⟨hc _ _ (h4 0 (by decide)), hc _ _ (h4 1 (by decide)), hc _ _ (h4 2 (by decide)), hc _ _ (h4 3 (by decide))⟩
end Go.Proofs.YtijgmloodkbljaaGreatDoor
