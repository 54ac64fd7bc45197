import Derived.Test.YtijgmloodkbljaaGreatDoorLbI
import Derived.IntWalk
import Derived.Deep.Cut
namespace Go.Proofs.YtijgmloodkbljaaGreatDoor
open Go Go.RowKit

/-- The rounds of the reader of a number: what is read, what it comes to, what is left. -/
def loopN : List UInt8 → Int → List UInt8 → Option (Int × List UInt8)
  | _, n, [] => some (n, [])
  | pre, n, d :: l => if digU d = true then (if (numR (pre ++ [d])).2 = 7 then none else if (numR (pre ++ [d])).2 = 0 then loopN (pre ++ [d]) (numR (pre ++ [d])).1 l else some (n, d :: l)) else some (n, d :: l)
theorem loopN_nil (pre : List UInt8) (n : Int) : loopN pre n [] = some (n, []) := rfl
theorem loopN_cons (pre : List UInt8) (n : Int) (d : UInt8) (l : List UInt8) : loopN pre n (d :: l) = if digU d = true then (if (numR (pre ++ [d])).2 = 7 then none else if (numR (pre ++ [d])).2 = 0 then loopN (pre ++ [d]) (numR (pre ++ [d])).1 l else some (n, d :: l)) else some (n, d :: l) := rfl
def sgnP (neg : Bool) : List UInt8 := if neg = true then [45] else []
def sgnI (neg : Bool) (m : Nat) : Int := if neg = true then -(m : Int) else m
theorem decV_app_ge (a b : List UInt8) : decV a ≤ decV (a ++ b) := by
  unfold decV
  rw [List.foldl_append]
  exact decV_cons_ge b _
theorem inI_mono {neg : Bool} {a b : Nat} (h : inI neg a = false) (hab : a ≤ b) : inI neg b = false := by
  unfold inI at *
  cases neg <;> simp at * <;> omega
theorem numR_dig (neg : Bool) (c : UInt8) (ds : List UInt8) (h : (c :: ds).all digU = true) (h48 : c ≠ 48) :
    numR (sgnP neg ++ c :: ds) = if inI neg (decV (c :: ds)) = true then (sgnI neg (decV (c :: ds)), 0) else (0, 7) := by
  have hc : digU c = true := by rw [List.all_cons, Bool.and_eq_true] at h; exact h.1
  have hs : sgnL (sgnP neg ++ c :: ds) = neg := by
    cases neg
    · show (some c == some 45) = false
      cases e : (some c == some (45 : UInt8))
      · rfl
      · have : c = 45 := by simpa using e
        rw [this] at hc; exact absurd hc (by decide)
    · rfl
  have hm : magL (sgnP neg ++ c :: ds) = c :: ds := by
    unfold magL
    rw [hs]
    cases neg <;> rfl
  unfold numR
  rw [hm, hs, if_neg]
  · rfl
  · rintro (h1 | h1 | ⟨h1, _⟩)
    · cases h1
    · rw [h] at h1; cases h1
    · exact h48 (by simpa using h1)
theorem loopN_dig (neg : Bool) (c : UInt8) (h48 : c ≠ 48) : ∀ (l ds : List UInt8), (c :: ds).all digU = true →
    loopN (sgnP neg ++ c :: ds) (sgnI neg (decV (c :: ds))) l = if inI neg (decV (c :: ds ++ l.takeWhile digU)) = true ∨ l.takeWhile digU = [] then some (sgnI neg (decV (c :: ds ++ l.takeWhile digU)), l.dropWhile digU) else none := by
  intro l
  induction l with
  | nil => intro ds _; simp [loopN_nil]
  | cons d l ih =>
    intro ds hds
    rw [loopN_cons]
    cases hd : digU d
    · simp [hd]
    · have hds2 : (c :: (ds ++ [d])).all digU = true := by
        rw [← List.cons_append, List.all_append, hds]; simp [hd]
      have e1 : sgnP neg ++ c :: ds ++ [d] = sgnP neg ++ c :: (ds ++ [d]) := by simp
      have e2 : c :: ds ++ (d :: l).takeWhile digU = c :: (ds ++ [d]) ++ l.takeWhile digU := by simp [hd]
      have e3 : (d :: l).takeWhile digU ≠ [] := by simp [hd]
      have e4 : (d :: l).dropWhile digU = l.dropWhile digU := by simp [hd]
      rw [if_pos rfl, e1, numR_dig neg c (ds ++ [d]) hds2 h48, e2, e4]
      cases hi : inI neg (decV (c :: (ds ++ [d])))
      · have := inI_mono hi (decV_app_ge _ (l.takeWhile digU))
        rw [this]
        simp [e3]
      · simp only [if_true]
        rw [if_neg (by decide), ih _ hds2]
        by_cases ht : l.takeWhile digU = []
        · rw [ht]; simp [hi, e3]
        · simp [ht, e3]
/-- The reader of a number reads off what 'numP' tells. -/
theorem numP_loop (neg : Bool) (c : UInt8) (l : List UInt8) (hc : digU c = true) (hz : ¬ (neg = true ∧ c = 48)) : numP (sgnP neg ++ c :: l) = loopN (sgnP neg) 0 (c :: l) := by
  have h45 : (some c == some (45 : UInt8)) = false := by
    cases e : (some c == some (45 : UInt8))
    · rfl
    · have : c = 45 := by simpa using e
      rw [this] at hc; exact absurd hc (by decide)
  have hn : numP (sgnP neg ++ c :: l) = if c = 48 then (if neg = true then none else some (0, l)) else
      (if inI neg (decV ((c :: l).takeWhile digU)) = true then some (sgnI neg (decV ((c :: l).takeWhile digU)), (c :: l).dropWhile digU) else none) := by
    unfold numP
    cases neg
    · show (let neg := (some c == some 45); _) = _
      dsimp only [sgnP]
      simp only [Bool.false_eq_true, if_false, List.nil_append, List.head?_cons, h45, hc, Bool.true_eq_false]
      simp [inI, sgnI]
    · simp only [sgnP, if_true, List.cons_append, List.nil_append, List.head?_cons, beq_self_eq_true, List.tail_cons, hc, Bool.true_eq_false, if_false]
      simp [inI, sgnI]
  rw [hn]
  by_cases h48 : c = 48
  · subst h48
    have hneg : neg = false := by
      cases neg
      · rfl
      · exact absurd ⟨rfl, rfl⟩ hz
    subst hneg
    have e1 : numR (sgnP false ++ [48]) = (0, 0) := by decide
    have hr : loopN (sgnP false) 0 (48 :: l) = loopN (sgnP false ++ [48]) 0 l := by
      rw [loopN_cons, hc, if_pos rfl, e1, if_neg (by decide), if_pos rfl]
    rw [hr, if_pos rfl, if_neg (by decide)]
    cases l with
    | nil => rfl
    | cons d l =>
      rw [loopN_cons]
      cases hd : digU d
      · simp
      · have e2 : numR (sgnP false ++ [48] ++ [d]) = (0, 10) := by
          unfold numR
          rw [if_pos]
          right; right
          exact ⟨rfl, by simp [sgnP]⟩
        rw [if_pos rfl, e2, if_neg (by decide), if_neg (by decide)]
  · rw [if_neg h48]
    have hall : [c].all digU = true := by simp [hc]
    have e2 : (c :: l).takeWhile digU = [c] ++ l.takeWhile digU := by simp [hc]
    have e4 : (c :: l).dropWhile digU = l.dropWhile digU := by simp [hc]
    have hb := digU_bd hc
    have hi : inI neg (decV [c]) = true := by
      have : decV [c] = c.toNat - 48 := by simp [decV]
      rw [this]
      unfold inI
      cases neg <;> simp <;> omega
    have hr : loopN (sgnP neg) 0 (c :: l) = loopN (sgnP neg ++ [c]) (sgnI neg (decV [c])) l := by
      rw [loopN_cons, hc, if_pos rfl, numR_dig neg c [] hall h48, hi, if_pos rfl, if_neg (show ¬ (0 : Int) = 7 by decide), if_pos rfl]
    rw [hr, loopN_dig neg c h48 l [] hall, e2, e4]
    by_cases ht : l.takeWhile digU = []
    · rw [ht]
      have hi2 : inI neg (decV ([c] ++ [])) = true := hi
      rw [if_pos hi2, if_pos (.inr rfl)]
    · simp [ht]
end Go.Proofs.YtijgmloodkbljaaGreatDoor

namespace Go.Proofs.YtijgmloodkbljaaGreatDoor
open Go Go.RowKit

def NumRd (x : Option (Int × List UInt8)) (r : Nat) (s : ByteArray) (w : World) (e : Ending) (w' : World) : Prop :=
  match x with | some y => RetD (.int .i64 y.1) r s y.2 w e w' | none => Gave r w e w'
theorem NumRd.none {r : Nat} {s : ByteArray} {w : World} {x : Option (Int × List UInt8)} (hx : x = none) {e : Ending} {w' : World} (h : Gave r w e w') : NumRd x r s w e w' := by subst hx; exact h
theorem NumRd.some {r : Nat} {s : ByteArray} {w : World} {x : Option (Int × List UInt8)} {n : Int} {l : List UInt8} (hx : x = some (n, l)) {v : Value} (hv : v = .int .i64 n) {j : Nat} (hj : j ≤ s.size) (hl : s.data.toList.drop j = l) {w' : World} (h1 : RdAt r s j w') (h2 : GC r w w') : NumRd x r s w (.returned v) w' := by
  subst hx hv; exact ⟨j, hj, hl, rfl, h1, h2⟩
def hereU (l : List UInt8) : UInt8 := l.headD 0
theorem f309_any (r : Nat) (s : ByteArray) (k : Nat) (w : World) (h : RdAt r s k w) (l : List UInt8) (hl : s.data.toList.drop k = l) : Calls Tryz.prog 309 #[.pointer (some ⟨r, 0, none⟩)] w (Ret (.int .u8 (hereU l).toNat) w) := by
  subst hl
  by_cases hk : k < s.size
  · rw [drop_cons s k hk]
    exact f309_in r s k w h hk
  · rw [drop_end s k (by omega)]
    exact f309_end r s k w h (by omega)
theorem RdAt.pos {c : Nat} {s : ByteArray} {k : Nat} {w : World} (h : RdAt c s k w) : posOf c w = k := by unfold posOf; rw [h]; rfl
theorem ext_list (s : ByteArray) (k j : Nat) (hj : j ≤ s.size) : (s.extract k j).data.toList = (s.data.toList.drop k).take (j - k) := by
  rw [ByteArray.data_extract, Array.toList_extract]
theorem ext_snoc (s : ByteArray) (k j : Nat) (hk : k ≤ j) (hj : j < s.size) : (s.data.toList.drop k).take (j + 1 - k) = (s.data.toList.drop k).take (j - k) ++ [s[j]] := by
  have hlt : j - k < (s.data.toList.drop k).length := by simp; omega
  rw [show j + 1 - k = (j - k) + 1 by omega, List.take_succ_eq_append_getElem hlt]
  congr 2
  rw [List.getElem_drop]
  have e : k + (j - k) = j := by omega
  simp only [e]
  rfl
theorem numR_code (l : List UInt8) : (numR l).2 = 10 ∨ (numR l).2 = 0 ∨ (numR l).2 = 7 := by
  unfold numR
  split
  · exact .inl rfl
  · split
    · exact .inr (.inl rfl)
    · exact .inr (.inr rfl)
theorem ext_size (s : ByteArray) (k j : Nat) (hj : j ≤ s.size) : (s.extract k j).size ≤ s.size := by
  simp; omega
theorem numP_nil : numP [] = none := rfl
theorem numP_none (neg : Bool) (l : List UInt8) (h : ∀ c t, l = c :: t → digU c = false ∨ (neg = true ∧ c = 48)) (h45 : neg = false → l.head? ≠ some 45) : numP (sgnP neg ++ l) = none := by
  unfold numP
  cases neg
  · have hh : ((sgnP false ++ l).head? == some 45) = false := by
      have := h45 rfl
      show (l.head? == some 45) = false
      cases e : (l.head? == some 45)
      · rfl
      · exact absurd (by simpa using e) this
    rw [hh]
    simp only [Bool.false_eq_true, if_false]
    show (match l with | [] => none | c :: r => _) = none
    cases l with
    | nil => rfl
    | cons c t =>
      dsimp only
      rcases h c t rfl with h1 | ⟨h1, _⟩
      · rw [if_pos h1]
      · cases h1
  · have hh : ((sgnP true ++ l).head? == some 45) = true := rfl
    rw [hh]
    simp only [if_true]
    show (match l with | [] => none | c :: r => _) = none
    cases l with
    | nil => rfl
    | cons c t =>
      dsimp only
      rcases h c t rfl with h1 | ⟨_, h1⟩
      · rw [if_pos h1]
      · by_cases hd : digU c = false
        · rw [if_pos hd]
        · rw [if_neg hd, if_pos h1]

theorem digB_here (c : UInt8) (l : List UInt8) : digB (hereU (c :: l)).toNat = digU c := digU_B c
theorem drop_succ_of {s : ByteArray} {k : Nat} {a : UInt8} {D : List UInt8} (h : s.data.toList.drop k = a :: D) : s.data.toList.drop (k + 1) = D ∧ k < s.size := by
  have hlt : k < s.size := by
    apply Nat.lt_of_not_le
    intro hge
    rw [drop_end s k hge] at h
    cases h
  rw [drop_cons s k hlt] at h
  exact ⟨(List.cons.inj h).2, hlt⟩
/-- How a text begins in which a number is looked for. -/
theorem num_cases (L : List UInt8) : (∃ neg c l, L = sgnP neg ++ c :: l ∧ digU c = true ∧ ¬ (neg = true ∧ c = 48)) ∨
    (∃ D, L = 45 :: D ∧ (∀ c t, D = c :: t → digU c = false)) ∨ (∃ t, L = 45 :: 48 :: t) ∨ (L.head? ≠ some 45 ∧ ∀ c t, L = c :: t → digU c = false) := by
  cases L with
  | nil => exact .inr (.inr (.inr ⟨by simp, fun c t h => by cases h⟩))
  | cons a t =>
    by_cases ha : a = 45
    · subst ha
      cases t with
      | nil => exact .inr (.inl ⟨[], rfl, fun c t h => by cases h⟩)
      | cons b t =>
        by_cases hb : digU b = true
        · by_cases h48 : b = 48
          · subst h48; exact .inr (.inr (.inl ⟨t, rfl⟩))
          · exact .inl ⟨true, b, t, rfl, hb, fun h => h48 h.2⟩
        · refine .inr (.inl ⟨b :: t, rfl, fun c x h => ?_⟩)
          obtain ⟨rfl, _⟩ := List.cons.inj h
          simpa using hb
    · by_cases hb : digU a = true
      · exact .inl ⟨false, a, t, rfl, hb, fun h => by cases h.1⟩
      · refine .inr (.inr (.inr ⟨by simpa using ha, fun c x h => ?_⟩))
        obtain ⟨rfl, _⟩ := List.cons.inj h
        simpa using hb
theorem numP_bad {L : List UInt8} (h : (∃ D, L = 45 :: D ∧ (∀ c t, D = c :: t → digU c = false)) ∨ (∃ t, L = 45 :: 48 :: t) ∨ (L.head? ≠ some 45 ∧ ∀ c t, L = c :: t → digU c = false)) : numP L = none := by
  rcases h with ⟨D, rfl, h⟩ | ⟨t, rfl⟩ | ⟨h1, h2⟩
  · exact numP_none true D (fun c t e => .inl (h c t e)) (fun e => by cases e)
  · exact numP_none true (48 :: t) (fun c x e => by obtain ⟨rfl, _⟩ := List.cons.inj e; exact .inr ⟨rfl, rfl⟩) (fun e => by cases e)
  · exact numP_none false L (fun c t e => .inl (h2 c t e)) (fun _ => h1)
theorem here_dig {l : List UInt8} (h : ∀ c t, l = c :: t → digU c = false) : digB (hereU l).toNat = false := by
  cases l with
  | nil => rfl
  | cons c t => rw [digB_here, h c t rfl]
set_option maxHeartbeats 8000000 in
set_option maxRecDepth 100000 in
theorem f311_number (r : Nat) (s : ByteArray) (k : Nat) (w : World) (h : RdAt r s k w) (hk : k ≤ s.size) (hs : s.size ≤ 1048576) (hL : LdE w) (hr8 : 8 ≤ r) :
    Calls Tryz.prog 311 #[.pointer (some ⟨r, 0, none⟩)] w (NumRd (numP (s.data.toList.drop k)) r s w) := by
  generalize hR : numP (s.data.toList.drop k) = R
  have HR := Lib.hid hR
  clear hR
  have HLE := hide hL
  clear hL
  have c1 : w.cell? ⟨r, 1, none⟩ = some (.int .i64 k) := Lib.cell_of_heap h 1
  have hlt1 : decide ((k : Int) < (k : Int) + 1) = true := by simp; omega
  obtain ⟨L, hL⟩ : ∃ L, s.data.toList.drop k = L := ⟨_, rfl⟩
  have hfirst := (f309_any r s k _ h L hL)
  rw [hL] at HR
  have HLL := Lib.hid hL
  clear hL
  have hcase := num_cases L
  go_enter Tryz.func311, Tryz.ntmps311
  go_wp2_with fail
  refine hfirst.mono ?_
  clear hfirst
  rintro e w1 ⟨rfl, h1⟩
  have hr1 := h.below h1
  have hg1 := GC.of_below (c := r) h1
  clear h1 c1 h
  have c1 : w1.cell? ⟨r, 1, none⟩ = some (.int .i64 k) := Lib.cell_of_heap hr1 1
  have cf : w1.frozen? ⟨r, 1, none⟩ = false := Lib.frozen_of_heap hr1 1
  rcases hcase with ⟨neg, c, l, rfl, hdc, hz⟩ | hbad
  · have HRL : Hid (loopN (sgnP neg) 0 (c :: l) = R) := by unfold Hid; rw [← numP_loop neg c l hdc hz]; exact HR.out
    have HZ := Lib.hid hz
    clear HR hz
    cases neg
    case' true =>
      obtain ⟨hD, hkl⟩ := drop_succ_of HLL.out
      have e45 : ((hereU (sgnP true ++ c :: l)).toNat : Int) = 45 := rfl
      rw [e45]
      obtain ⟨hr2, hg2⟩ := hr1.set (k + 1)
      have hg2' := hg1.trans hg2
      have ek : ((k + 1 : Nat) : Int) = (k : Int) + 1 := by omega
      rw [ek] at hg2' hr2
      clear ek e45 hg2
      have HR2 := Lib.hid hr2
      have HG2 := Lib.hid hg2'
      have HD : Hid (s.data.toList.drop (k + 1) = c :: l) := hD
      have h48 : ((c.toNat : Int) == 48) = false := by
        simp only [beq_eq_false_iff_ne, ne_eq]; intro h; exact HZ.out ⟨rfl, UInt8.toNat_inj.1 (by simp; omega)⟩
      clear hr2 hg2' hD
      go_wp2_with fail
      have hr2 := HR2.out
      have hg2 := HG2.out
      clear HR2 HG2 hr1 hg1 c1 cf
      generalize w1.setCell ⟨r, 1, none⟩ (.int .i64 ((k : Int) + 1)) = w2 at hr2 hg2 ⊢
      refine (f309_any r s (k + 1) _ hr2 (c :: l) HD.out).mono ?_
      rintro e w3 ⟨rfl, h3⟩
      have hr3 := hr2.below h3
      have hg3 := hg2.trans (GC.of_below h3)
      clear h3 hr2 hg2
      go_wp2_with fail
      refine (f310_digit _ _).mono ?_
      rintro e w4 ⟨rfl, rfl⟩
      rw [digB_here c l, hdc]
      go_wp2_with fail
      refine (f309_any r s (k + 1) _ hr3 (c :: l) HD.out).mono ?_
      rintro e w4 ⟨rfl, h4⟩
      have hrS := hr3.below h4
      have hgS := hg3.trans (GC.of_below h4)
      clear h4 hr3 hg3
      have ehc : hereU (c :: l) = c := rfl
      rw [ehc]
      clear ehc
      go_wp2
      obtain ⟨p, hp⟩ : ∃ p, k + 1 = p := ⟨_, rfl⟩
      have hps : p ≤ s.size := by omega
      have hkp : k ≤ p := by omega
      have HT : Hid ((s.data.toList.drop k).take (p - k) = sgnP true) := by
        unfold Hid; rw [HLL.out, ← hp, show k + 1 - k = 1 by omega]; rfl
      rw [hp] at hrS HD
      clear hp hlt1 h48
    case' false =>
      have hc45 : ((c.toNat : Int) == 45) = false := by
        have := digU_bd hdc
        simp; omega
      have ehc : hereU (sgnP false ++ c :: l) = c := rfl
      rw [ehc]
      have HD : Hid (s.data.toList.drop k = c :: l) := HLL
      clear ehc
      go_wp2_with fail
      refine (f309_any r s k _ hr1 (c :: l) HD.out).mono ?_
      rintro e w3 ⟨rfl, h3⟩
      have hrS := hr1.below h3
      have hgS := hg1.trans (GC.of_below h3)
      clear h3 hr1 hg1 c1 cf
      go_wp2_with fail
      refine (f310_digit _ _).mono ?_
      rintro e w4 ⟨rfl, rfl⟩
      rw [digB_here c l, hdc]
      go_wp2
      obtain ⟨p, hp⟩ : ∃ p, k = p := ⟨_, rfl⟩
      have hps : p ≤ s.size := by omega
      have hkp : k ≤ p := by omega
      have HT : Hid ((s.data.toList.drop k).take (p - k) = sgnP false) := by
        unfold Hid; rw [← hp, show k - k = 0 by omega]; rfl
      have HD : Hid (s.data.toList.drop p = c :: l) := by rw [← hp]; exact HD
      rw [hp] at hrS
      clear hp hlt1 hc45
    all_goals
      go_loopw [5] (fun v wr => ∃ (j : Nat) (n : Int) (pre : List UInt8), v = .int .i64 n ∧ j ≤ s.size ∧ k ≤ j ∧ Hid ((s.data.toList.drop k).take (j - k) = pre) ∧ Hid (loopN pre n (s.data.toList.drop j) = R) ∧ RdAt r s j wr ∧ GC r w wr) (fun _ wr => s.size - posOf r wr)
      case atStart => exact ⟨p, 0, _, rfl, hps, hkp, HT, by unfold Hid; rw [HD.out]; exact HRL.out, hrS, hgS⟩
      case round =>
        clear HT HD hrS hgS HRL HLL
        obtain ⟨j, n, pre, rfl, hj, hkj, HT, HLO, hrj, hgj⟩ := hrel
        have hpos := hrj.pos
        obtain ⟨T, hT⟩ : ∃ T, s.data.toList.drop j = T := ⟨_, rfl⟩
        have h309 := f309_any r s j _ hrj T hT
        have HTT := Lib.hid hT
        clear hT
        go_wp2_with fail
        refine h309.mono ?_
        clear h309
        rintro e w5 ⟨rfl, h5⟩
        have hr5 := hrj.below h5
        have hg5 := hgj.trans (GC.of_below h5)
        clear h5 hrj hgj
        go_wp2_with fail
        refine (f310_digit _ _).mono ?_
        rintro e w6 ⟨rfl, rfl⟩
        cases hdt : digB (hereU T).toNat
        · have hRs : Hid (R = some (n, T)) := by
            unfold Hid
            rw [← HLO.out, HTT.out]
            cases T with
            | nil => rfl
            | cons d T => rw [loopN_cons, if_neg (by rw [← digB_here d T, hdt]; decide)]
          go_wp2
          go_ret
          exact NumRd.some hRs.out rfl hj HTT.out hr5 hg5
        · obtain ⟨d, T', rfl⟩ : ∃ d T', T = d :: T' := by
            cases T with
            | nil => exact absurd hdt (by decide)
            | cons d T' => exact ⟨d, T', rfl⟩
          obtain ⟨hD1, hjl⟩ := drop_succ_of HTT.out
          have hdj : s[j] = d := by
            have := HTT.out
            rw [drop_cons s j hjl] at this
            exact (List.cons.inj this).1
          have hdd : digU d = true := by rw [← digB_here d T']; exact hdt
          have hext : (s.extract k (j + 1)).data.toList = pre ++ [d] := by
            rw [ext_list s k (j + 1) (by omega), ext_snoc s k j hkj hjl, HT.out, hdj]
          have hRx : R = if (numR (pre ++ [d])).2 = 7 then none else if (numR (pre ++ [d])).2 = 0 then loopN (pre ++ [d]) (numR (pre ++ [d])).1 T' else some (n, d :: T') := by
            rw [← HLO.out, HTT.out, loopN_cons, if_pos hdd]
          have hxs := ext_size s k (j + 1) (by omega)
          have hcode := numR_code (pre ++ [d])
          have hHT : (s.data.toList.drop k).take (j + 1 - k) = pre ++ [d] := by rw [ext_snoc s k j hkj hjl, HT.out, hdj]
          have h113 : ∀ W, LdE W → Calls Tryz.prog 113 #[.string (s.extract k (j + 1))] W (Ret (numT (numR (pre ++ [d]))) W) := by
            intro W hW
            rw [← hext]
            exact f113_Parse _ W (by omega) hW
          generalize numR (pre ++ [d]) = nr at hRx hcode h113
          obtain ⟨x, code⟩ := nr
          have H113 := hide h113
          have HRX := Lib.hid hRx
          have HHT := Lib.hid hHT
          have HDD := Lib.hid hD1
          clear h113 hRx hext hdj hdd hxs hHT HT HLO hdt hD1
          have c0 : w5.cell? ⟨r, 0, none⟩ = some (.string s) := Lib.cell_of_heap hr5 0
          have c1 : w5.cell? ⟨r, 1, none⟩ = some (.int .i64 j) := Lib.cell_of_heap hr5 1
          have hLE5 : LdE w5.drew := ((unhide HLE).gc hg5 hr8).below (Below.refl 8 w5).drew (Nat.le_refl _)
          have HL5 := hide hLE5
          clear hLE5
          have q1 : (0 : Int) ≤ (j : Int) + 1 := by omega
          have q2 : (j : Int) + 1 ≤ s.size := by omega
          have q3 : (k : Int) ≤ (j : Int) + 1 := by omega
          have q4 : ((j : Int) + 1).toNat = j + 1 := by omega
          have q5 : IntKind.i64.wrap ((j : Int) + 1) = (j : Int) + 1 := IntWalk.i64_in _ (by omega)
          rcases hcode with rfl | rfl | rfl
          · have hRs : Hid (R = some (n, d :: T')) := HRX
            go_wp2
            go_region_with (go_at_call 113; refine ((unhide H113) _ (unhide HL5)).mono ?_; rintro e w6 ⟨rfl, h6⟩)
            all_goals
              have hr6 : RdAt r s j w6 := RdAt.below (w := w5.drew) hr5 h6
              have hg6 : GC r w w6 := hg5.trans ⟨h6.os, h6.tape, h6.output, h6.size, fun k hk _ => h6.block k hk⟩
              clear q1 q2 q3 q4 q5
              go_wp2
              go_ret
              exact NumRd.some hRs.out rfl hj HTT.out hr6 hg6
          · have hRs : Hid (R = loopN (pre ++ [d]) x T') := HRX
            go_wp2
            go_region_with (go_at_call 113; refine ((unhide H113) _ (unhide HL5)).mono ?_; rintro e w6 ⟨rfl, h6⟩)
            all_goals
              have hr6 : RdAt r s j w6 := RdAt.below (w := w5.drew) hr5 h6
              have hg6 : GC r w w6 := hg5.trans ⟨h6.os, h6.tape, h6.output, h6.size, fun k hk _ => h6.block k hk⟩
              clear q1 q2 q3 q4 q5
              have c1 : w6.cell? ⟨r, 1, none⟩ = some (.int .i64 j) := Lib.cell_of_heap hr6 1
              have cf : w6.frozen? ⟨r, 1, none⟩ = false := Lib.frozen_of_heap hr6 1
              obtain ⟨h7, h8⟩ := hr6.set (j + 1)
              have h9 := hg6.trans h8
              have hp9 := h7.pos
              have ej : ((j + 1 : Nat) : Int) = (j : Int) + 1 := by omega
              rw [ej] at h7 h9 hp9
              have H7 := hide h7
              have H9 := hide h9
              have HP9 := Lib.hid hp9
              clear h7 h8 h9 hp9 ej
              go_wp2
              go_roundw
              case rel => exact ⟨j + 1, x, _, rfl, by omega, by omega, HHT, by unfold Hid; rw [HDD.out, hRs.out], unhide H7, unhide H9⟩
              case measure => rw [HP9.out, hpos]; omega
          · have hRs : Hid (R = none) := HRX
            go_wp2
            go_region_with (go_at_call 113; refine ((unhide H113) _ (unhide HL5)).mono ?_; rintro e w6 ⟨rfl, h6⟩)
            all_goals
              have hr6 : RdAt r s j w6 := RdAt.below (w := w5.drew) hr5 h6
              have hg6 : GC r w w6 := hg5.trans ⟨h6.os, h6.tape, h6.output, h6.size, fun k hk _ => h6.block k hk⟩
              clear q1 q2 q3 q4 q5
              go_wp2_with fail
              refine (f237_at hr6 hg6).mono ?_
              rintro e w7 ⟨q, rfl, hg7⟩
              exact ⟨rfl, NumRd.none hRs.out ⟨q, rfl, hg7⟩⟩
  · have hRn : Hid (R = none) := by unfold Hid; rw [← HR.out]; exact numP_bad hbad
    clear HR
    rcases hbad with ⟨D, rfl, hDb⟩ | ⟨t, rfl⟩ | ⟨h45, hLb⟩
    · -- a minus, no digit behind it
      obtain ⟨hD, hkl⟩ := drop_succ_of HLL.out
      have hdg := here_dig hDb
      have e45 : ((hereU (45 :: D)).toNat : Int) = 45 := rfl
      rw [e45]
      obtain ⟨hr2, hg2⟩ := hr1.set (k + 1)
      have hg2' := hg1.trans hg2
      have ek : ((k + 1 : Nat) : Int) = (k : Int) + 1 := by omega
      rw [ek] at hg2' hr2
      clear ek e45 hg2 hDb
      have HR2 := Lib.hid hr2
      have HG2 := Lib.hid hg2'
      have HD := Lib.hid hD
      clear hr2 hg2' hD
      go_wp2_with fail
      have hr2 := HR2.out
      have hg2 := HG2.out
      clear HR2 HG2 hr1 hg1 c1 cf
      generalize w1.setCell ⟨r, 1, none⟩ (.int .i64 ((k : Int) + 1)) = w2 at hr2 hg2 ⊢
      refine (f309_any r s (k + 1) _ hr2 D HD.out).mono ?_
      rintro e w3 ⟨rfl, h3⟩
      have hr3 := hr2.below h3
      have hg3 := hg2.trans (GC.of_below h3)
      clear h3 hr2 hg2
      go_wp2_with fail
      refine (f310_digit _ _).mono ?_
      rintro e w4 ⟨rfl, rfl⟩
      rw [hdg]
      go_wp2_with fail
      refine (f237_at hr3 hg3).mono ?_
      rintro e w7 ⟨q, rfl, hg7⟩
      exact ⟨rfl, NumRd.none hRn.out ⟨q, rfl, hg7⟩⟩
    · -- a minus, and a 0 behind it
      obtain ⟨hD, hkl⟩ := drop_succ_of HLL.out
      have e45 : ((hereU (45 :: 48 :: t)).toNat : Int) = 45 := rfl
      rw [e45]
      obtain ⟨hr2, hg2⟩ := hr1.set (k + 1)
      have hg2' := hg1.trans hg2
      have ek : ((k + 1 : Nat) : Int) = (k : Int) + 1 := by omega
      rw [ek] at hg2' hr2
      clear ek e45 hg2
      have HR2 := Lib.hid hr2
      have HG2 := Lib.hid hg2'
      have HD := Lib.hid hD
      clear hr2 hg2' hD
      go_wp2_with fail
      have hr2 := HR2.out
      have hg2 := HG2.out
      clear HR2 HG2 hr1 hg1 c1 cf
      generalize w1.setCell ⟨r, 1, none⟩ (.int .i64 ((k : Int) + 1)) = w2 at hr2 hg2 ⊢
      refine (f309_any r s (k + 1) _ hr2 _ HD.out).mono ?_
      rintro e w3 ⟨rfl, h3⟩
      have hr3 := hr2.below h3
      have hg3 := hg2.trans (GC.of_below h3)
      clear h3 hr2 hg2
      have e48 : ((hereU (48 :: t)).toNat : Int) = 48 := rfl
      have hd48 : digB 48 = true := by decide
      rw [e48]
      go_wp2_with fail
      refine (f310_digit _ _).mono ?_
      rintro e w4 ⟨rfl, rfl⟩
      rw [hd48]
      go_wp2_with fail
      refine (f309_any r s (k + 1) _ hr3 _ HD.out).mono ?_
      rintro e w4 ⟨rfl, h4⟩
      have hr4 := hr3.below h4
      have hg4 := hg3.trans (GC.of_below h4)
      rw [e48]
      clear e48 hd48
      go_wp2_with fail
      refine (f237_at hr4 hg4).mono ?_
      rintro e w7 ⟨q, rfl, hg7⟩
      exact ⟨rfl, NumRd.none hRn.out ⟨q, rfl, hg7⟩⟩
    · -- no minus and no digit
      have hdg := here_dig hLb
      have hc45 : (((hereU L).toNat : Int) == 45) = false := by
        cases L with
        | nil => rfl
        | cons c t =>
          have : c ≠ 45 := by simpa using h45
          simp only [beq_eq_false_iff_ne, ne_eq]
          intro h
          exact this (UInt8.toNat_inj.1 (by have : (hereU (c :: t)).toNat = c.toNat := rfl; simp; omega))
      clear h45 hLb
      go_wp2_with fail
      refine (f309_any r s k _ hr1 L HLL.out).mono ?_
      rintro e w3 ⟨rfl, h3⟩
      have hr3 := hr1.below h3
      have hg3 := hg1.trans (GC.of_below h3)
      clear h3 hr1 hg1 c1 cf
      go_wp2_with fail
      refine (f310_digit _ _).mono ?_
      rintro e w4 ⟨rfl, rfl⟩
      rw [hdg]
      go_wp2_with fail
      refine (f237_at hr3 hg3).mono ?_
      rintro e w7 ⟨q, rfl, hg7⟩
      exact ⟨rfl, NumRd.none hRn.out ⟨q, rfl, hg7⟩⟩
end Go.Proofs.YtijgmloodkbljaaGreatDoor

namespace Go.Proofs.YtijgmloodkbljaaGreatDoor
open Go Go.RowKit

def StrRd (x : Option (List UInt8 × List UInt8)) (r : Nat) (s : ByteArray) (w : World) (e : Ending) (w' : World) : Prop :=
  match x with | some y => RetD (.string ⟨y.1.toArray⟩) r s y.2 w e w' | none => Gave r w e w'
theorem StrRd.none {r : Nat} {s : ByteArray} {w : World} {x : Option (List UInt8 × List UInt8)} (hx : x = none) {e : Ending} {w' : World} (h : Gave r w e w') : StrRd x r s w e w' := by subst hx; exact h
theorem StrRd.some {r : Nat} {s : ByteArray} {w : World} {x : Option (List UInt8 × List UInt8)} {b l : List UInt8} (hx : x = some (b, l)) {v : Value} (hv : v = .string ⟨b.toArray⟩) {j : Nat} (hj : j ≤ s.size) (hl : s.data.toList.drop j = l) {w' : World} (h1 : RdAt r s j w') (h2 : GC r w w') : StrRd x r s w (.returned v) w' := by
  subst hx hv; exact ⟨j, hj, hl, rfl, h1, h2⟩
theorem OwnB.gc {B r : Nat} {v : Value} {L : List UInt8} {A A' : World} (h : OwnB B v L A) (hg : GC r A A') (hr : r < B) : OwnB B v L A' := by
  refine World.ownsRow.kept h hg ?_
  rcases h.2 with ⟨rfl, _⟩ | ⟨g, cap, cur, rfl, hgB, _⟩
  · exact .inl rfl
  · exact .inr (by simp [Value.ownBlock]; omega)
theorem below_gc {r B : Nat} {w W W' : World} (h : GC r w W) (hb : Below B W W') (hB : w.heap.size ≤ B) : GC r w W' :=
  ⟨hb.os.trans h.os, hb.tape.trans h.tape, hb.output.trans h.output, Nat.le_trans h.size hb.size, fun k hk hr => (hb.block k (by omega)).trans (h.block k hk hr)⟩
theorem below_rd {r B k : Nat} {s : ByteArray} {W W' : World} (h : RdAt r s k W) (hb : Below B W W') (hr : r < B) : RdAt r s k W' := (hb.block r hr).trans h

set_option maxHeartbeats 8000000 in
set_option maxRecDepth 100000 in
theorem f312_str (r : Nat) (s : ByteArray) (k : Nat) (w : World) (h : RdAt r s k w) (l : List UInt8) (hl : s.data.toList.drop k = 39 :: l) (hs : s.size ≤ 1048576) :
    Calls Tryz.prog 312 #[.pointer (some ⟨r, 0, none⟩)] w (StrRd (strP l) r s w) := by
  generalize hR : strP l = R
  have HR := Lib.hid hR
  clear hR
  obtain ⟨hD, hkl⟩ := drop_succ_of hl
  have hm : mustP [39] (s.data.toList.drop k) = some l := by rw [hl]; exact mustP_app [39] l
  have hmust := f313_must r s k ⟨#[39]⟩
  have hrl : r < w.heap.size := (Array.getElem?_eq_some_iff.1 h).1
  have HD := Lib.hid hD
  have HM := Lib.hid hm
  clear hD hm hl
  go_enter Tryz.func312, Tryz.ntmps312
  go_wp2_with fail
  refine (hmust _ h (by omega) hs (by decide)).mono ?_
  rintro e w1 hm2
  have hm3 : MustR (mustP [39] (s.data.toList.drop k)) r s (k + 1) w e w1 := hm2
  rw [HM.out] at hm3
  obtain ⟨rfl, hr1, hg1⟩ := hm3
  clear hm2 hmust
  have hO0 : OwnB w.heap.size (.slice none 0 0) [] w1 := World.ownsRow_nil _ _ _ _
  obtain ⟨B, hB⟩ : ∃ B, w.heap.size = B := ⟨_, rfl⟩
  rw [hB] at hO0 hrl
  have HB := Lib.hid hB
  clear hB
  go_wp2_with fail
  go_loopw [3] (fun v wr => ∃ (j : Nat) (bs : List UInt8), j ≤ s.size ∧ bs.length ≤ j ∧ OwnB B v bs wr ∧ Hid ((strP (s.data.toList.drop j)).map (fun x => (bs ++ x.1, x.2)) = R) ∧ RdAt r s j wr ∧ GC r w wr) (fun _ wr => s.size - posOf r wr)
  case atStart =>
    refine ⟨k + 1, [], by omega, by simp, hO0, ?_, hr1, hg1⟩
    unfold Hid
    rw [HD.out, ← HR.out]
    cases strP l <;> rfl
  case round =>
    clear hO0 hr1 hg1 HD HM HR
    obtain ⟨j, bs, hj, hbl, hO, H, hrj, hgj⟩ := hrel
    have hpos := hrj.pos
    obtain ⟨T, hT⟩ : ∃ T, s.data.toList.drop j = T := ⟨_, rfl⟩
    have h309 := f309_any r s j _ hrj T hT
    have HTT := Lib.hid hT
    clear hT
    go_wp2_with fail
    refine h309.mono ?_
    clear h309
    rintro e w2 ⟨rfl, h2⟩
    have hr2 := hrj.below h2
    have hg2 := hgj.trans (GC.of_below h2)
    have hO2 := hO.gc (GC.of_below (c := r) h2) hrl
    clear h2 hrj hgj hO
    rcases hTc : T with _ | ⟨c, T'⟩
    · -- the text ends
      subst hTc
      have hRn : Hid (R = none) := by unfold Hid; rw [← H.out, HTT.out, strP_nil]; rfl
      have e0 : ((hereU []).toNat : Int) = 0 := rfl
      rw [e0]
      clear e0
      go_wp2_with fail
      refine (f309_any r s j _ hr2 [] HTT.out).mono ?_
      rintro e w3 ⟨rfl, h3⟩
      have hr3 := hr2.below h3
      have hg3 := hg2.trans (GC.of_below h3)
      have e0 : ((hereU []).toNat : Int) = 0 := rfl
      rw [e0]
      clear e0
      go_wp2_with fail
      refine (f237_at hr3 hg3).mono ?_
      rintro e w4 ⟨q, rfl, hg4⟩
      exact ⟨rfl, StrRd.none hRn.out ⟨q, rfl, hg4⟩⟩
    · subst hTc
      obtain ⟨hD1, hjl⟩ := drop_succ_of HTT.out
      have HD1 := Lib.hid hD1
      clear hD1
      have e0 : hereU (c :: T') = c := rfl
      rw [e0]
      clear e0
      by_cases h39 : c = 39
      · have hRs : Hid (R = some (bs, T')) := by
          unfold Hid; rw [← H.out, HTT.out, strP_cons, if_pos h39]; simp
        subst h39
        have e39 : (((39 : UInt8).toNat : Nat) : Int) = 39 := rfl
        rw [e39]
        clear e39
        have c0 : w2.cell? ⟨r, 0, none⟩ = some (.string s) := Lib.cell_of_heap hr2 0
        have c1 : w2.cell? ⟨r, 1, none⟩ = some (.int .i64 j) := Lib.cell_of_heap hr2 1
        have cf : w2.frozen? ⟨r, 1, none⟩ = false := Lib.frozen_of_heap hr2 1
        obtain ⟨h4, h5⟩ := hr2.set (j + 1)
        have ej : ((j + 1 : Nat) : Int) = (j : Int) + 1 := by omega
        rw [ej] at h4 h5
        have hcv := run_ownB (hO2.gc h5 hrl)
        have H4 := Lib.hid h4
        have H5 := Lib.hid (hg2.trans h5)
        clear h4 h5 ej
        go_wp2
        go_ret
        exact StrRd.some hRs.out rfl (by omega) HD1.out H4.out H5.out
      · have hc39 : ((c.toNat : Int) == 39) = false := by
          simp only [beq_eq_false_iff_ne, ne_eq]; intro h; exact h39 (UInt8.toNat_inj.1 (by simp; omega))
        go_wp2_with fail
        refine (f309_any r s j _ hr2 (c :: T') HTT.out).mono ?_
        rintro e w3 ⟨rfl, h3⟩
        have hr3 := hr2.below h3
        have hg3 := hg2.trans (GC.of_below h3)
        have hO3 := hO2.gc (GC.of_below (c := r) h3) hrl
        clear h3 hr2 hg2 hO2
        have e0 : hereU (c :: T') = c := rfl
        rw [e0]
        clear e0
        by_cases hbad : c.toNat < 32 ∨ 126 < c.toNat
        · have hRn : Hid (R = none) := by unfold Hid; rw [← H.out, HTT.out, strP_cons, if_neg h39, if_pos hbad]; rfl
          have hor : (c.toNat : Int) < 32 ∨ (32 ≤ (c.toNat : Int) ∧ 126 < (c.toNat : Int)) := by omega
          clear hbad
          rcases hor with e1 | ⟨e1, e2⟩
          all_goals
            go_wp2_with fail
            refine (f237_at hr3 hg3).mono ?_
            rintro e w4 ⟨q, rfl, hg4⟩
            exact ⟨rfl, StrRd.none hRn.out ⟨q, rfl, hg4⟩⟩
        · have e1 : 32 ≤ (c.toNat : Int) := by omega
          have e2 : (c.toNat : Int) ≤ 126 := by omega
          have c0 : w3.cell? ⟨r, 0, none⟩ = some (.string s) := Lib.cell_of_heap hr3 0
          have c1 : w3.cell? ⟨r, 1, none⟩ = some (.int .i64 j) := Lib.cell_of_heap hr3 1
          have cf : w3.frozen? ⟨r, 1, none⟩ = false := Lib.frozen_of_heap hr3 1
          obtain ⟨h4, h5⟩ := hr3.set (j + 1)
          have ej : ((j + 1 : Nat) : Int) = (j : Int) + 1 := by omega
          rw [ej] at h4 h5
          have hO4 := hO3.gc h5 hrl
          have hg4 := hg3.trans h5
          clear ej h5
          by_cases h92 : c = 92
          · have hRe : Hid (R = ((escP T').bind fun y => (strP y.2).map fun x => (y.1 :: x.1, x.2)).map fun x => (bs ++ x.1, x.2)) := by
              unfold Hid; rw [← H.out, HTT.out, strP_cons, if_neg h39, if_neg hbad, if_pos h92]
            subst h92
            have e92 : (((92 : UInt8).toNat : Nat) : Int) = 92 := rfl
            rw [e92]
            clear e92 h39 hbad hc39 e1 e2
            have HO4 := hide hO4
            have HG4 := hide hg4
            have HR4 := hide h4
            clear hO4 hg4 h4
            go_wp2_with fail
            have hO4 := unhide HO4
            have hg4 := unhide HG4
            have hr4 := unhide HR4
            clear HO4 HG4 HR4 c0 c1 cf
            generalize w3.setCell ⟨r, 1, none⟩ (.int .i64 ((j : Int) + 1)) = w4 at hO4 hg4 hr4 ⊢
            have hesc := f349_escaped r s (j + 1) w4 hr4 (by omega) hs
            rw [HD1.out] at hesc
            refine hesc.mono ?_
            clear hesc
            cases hee : escP T' with
            | none =>
              have hRn : Hid (R = none) := by unfold Hid; rw [hRe.out, hee]; rfl
              rintro e w5 ⟨q, rfl, hg5⟩
              exact ⟨rfl, StrRd.none hRn.out ⟨q, rfl, hg4.trans hg5⟩⟩
            | some y =>
              obtain ⟨b, l2⟩ := y
              have hlt := escP_lt hee
              have HRE : Hid (R = (strP l2).map fun x => (bs ++ [b] ++ x.1, x.2)) := by
                unfold Hid; rw [hRe.out, hee, Option.bind_some]
                cases strP l2 <;> simp
              have HEE := Lib.hid hee
              clear hee hRe
              rintro e w5 ⟨j2, hj2, hl2, rfl, hr5, hg5⟩
              have hj2j : j + 1 ≤ j2 := by
                have a1 : (s.data.toList.drop j2).length = l2.length := by rw [hl2]
                have a2 : (s.data.toList.drop (j + 1)).length = T'.length := by rw [HD1.out]
                simp at a1 a2
                omega
              have HL2 := Lib.hid hl2
              have hO5 := hO4.gc hg5 hrl
              have hg55 := hg4.trans hg5
              have hBW : B ≤ w5.heap.size := by have := hg55.size; have := HB.out; omega
              clear hl2 hO4 hg4 hr4 hlt hg5
              go_wp2_with (at_builtin; refine wp_appB rfl _ _ rfl rfl hO5 (Below.refl B w5) [b] _ rfl rfl (by simp; omega) hBW ?_; intro v1 w6 hO6 hB6)
              have hr6 := below_rd hr5 hB6 hrl
              have hg6 := below_gc hg55 hB6 (by have := HB.out; omega)
              have hp6 := hr6.pos
              go_roundw
              case rel => exact ⟨j2, _, hj2, by simp; omega, hO6, by unfold Hid; rw [HL2.out, HRE.out], hr6, hg6⟩
              case measure => rw [hp6, hpos]; omega
          · have HRE : Hid (R = (strP T').map fun x => (bs ++ [c] ++ x.1, x.2)) := by
              unfold Hid; rw [← H.out, HTT.out, strP_cons, if_neg h39, if_neg hbad, if_neg h92]
              cases strP T' <;> simp
            have hc92 : ((c.toNat : Int) == 92) = false := by
              simp only [beq_eq_false_iff_ne, ne_eq]; intro h; exact h92 (UInt8.toNat_inj.1 (by simp; omega))
            have HR4 := hide h4
            have HO4 := hide hO4
            have HG4 := hide hg4
            clear h4 hO4 hg4 h39 hbad h92
            go_upto_if 28 with fail
            have hr4 := unhide HR4
            have hO4 := unhide HO4
            have hg4 := unhide HG4
            clear HR4 HO4 HG4 c0 c1 cf hr3 hg3 hO3
            generalize w3.setCell ⟨r, 1, none⟩ (.int .i64 ((j : Int) + 1)) = w4 at hr4 hO4 hg4 ⊢
            have hBW : B ≤ w4.heap.size := by have := hg4.size; have := HB.out; omega
            go_wp2_with (at_builtin; refine wp_appB rfl _ _ rfl rfl hO4 (Below.refl B _) [c] _ rfl rfl (by simp; omega) hBW ?_; intro v1 w6 hO6 hB6)
            have hr6 := below_rd hr4 hB6 hrl
            have hg6 := below_gc hg4 hB6 (by have := HB.out; omega)
            have hp6 := hr6.pos
            go_roundw
            case rel => exact ⟨j + 1, _, by omega, by simp; omega, hO6, by unfold Hid; rw [HD1.out, HRE.out], hr6, hg6⟩
            case measure => rw [hp6, hpos]; omega
end Go.Proofs.YtijgmloodkbljaaGreatDoor
