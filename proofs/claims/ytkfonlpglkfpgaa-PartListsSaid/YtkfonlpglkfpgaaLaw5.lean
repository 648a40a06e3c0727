/- The plain law: Words, Back, Take, Given, Give, Len. -/
import Derived.Test.YtkfonlpglkfpgaaLaw4
namespace Go.Proofs.Ytkfonlpglkfpgaa
set_option linter.unusedSimpArgs false
set_option linter.unusedVariables false
open Go.RowKit (wrap64)

/-- A queue at 18, its nodes one behind the other from s on. -/
structure QW (s : Nat) (os : List UInt64) (f : Nat → UInt64) : Prop where
  first : f 18 = if os.length = 0 then 0 else A (s + 1)
  last : f 19 = if os.length = 0 then 0 else A (s + 2 * os.length - 1)
  count : f 20 = A os.length
  seg : Seg s os f
theorem QSt.qw {N s : Nat} {os : List UInt64} {f : Nat → UInt64} (h : QSt N s os f) : QW s os f := ⟨h.first, h.last, h.count, h.word, h.next⟩

theorem qnodesL_is {N s n : Nat} {f : Nat → UInt64} {os : List UInt64} (hq : Seg s os f) (hn : n = os.length) (hs : 21 ≤ s) (hr : s + 2 * n ≤ N) (hN : N < 100000) :
    ∀ (k i : Nat) (acc : List UInt64) {m : Mach} {b : Nat}, i + k = n → acc = (List.range i).map (fun i => A (s + 2 * i)) → Is N m (b + k) f →
      ∃ m', qnodesL k m 0 (if k = 0 then 0 else A (s + 2 * i + 1)) (if n = 0 then 0 else A (s + 2 * n - 1)) (if i = 0 then 0 else A (s + 2 * i - 1)) (A n) acc = ((List.range n).map (fun i => A (s + 2 * i)), 0, m') ∧ Is N m' b f
  | 0, i, acc, m, b, hi, ha, h => by
    obtain rfl : i = n := by omega
    subst ha
    refine ⟨m, ?_, h⟩
    rw [qnodesL.eq_def]
    have hl : UInt64.ofNat ((List.range i).map (fun i => A (s + 2 * i))).length = A i := by simp [A]
    simp only [if_true, bne_self_eq_false, Bool.false_and, Bool.false_eq_true, if_false, qnodesE, hl, Bool.or_false]
  | k + 1, i, acc, m, b, hi, ha, h => by
    have h1 : Is N m (b + k + 1) f := h
    obtain ⟨m1, q1, i1⟩ := get_is' h1 (k := s + 2 * i + 1) (by omega) hN
    obtain ⟨m2, q2, i2⟩ := qnodesL_is hq hn hs hr hN k (i + 1) (acc ++ [A (s + 2 * i)]) (by omega) (by rw [ha, List.range_succ, List.map_append]; rfl) i1
    refine ⟨m2, ?_, i2⟩
    rw [if_neg (by omega), qnodesL, A_ne0 (by omega)]
    have hx := hq.next i (by omega)
    rw [hx] at q1
    simp only [ne_eq, Nat.add_eq_zero_iff, Nat.succ_ne_self, and_false, not_false_eq_true, decide_true, beq_self_eq_true, Bool.and_self, if_true, bget, bne_self_eq_false, Bool.false_eq_true, if_false, q1, A_sub1]
    have e : (if i + 1 = os.length then (0 : UInt64) else A (s + 2 * i + 3)) = if k = 0 then 0 else A (s + 2 * (i + 1) + 1) := by
      by_cases hc : i + 1 = os.length
      · rw [if_pos hc, if_pos (by omega)]
      · rw [if_neg hc, if_neg (by omega)]; congr 1
    rw [e]
    rw [show (if i + 1 = 0 then (0 : UInt64) else A (s + 2 * (i + 1) - 1)) = A (s + 2 * i + 1) by rw [if_neg (by omega)]; congr 1] at q2
    exact q2

theorem qnodes_is {N s : Nat} {os : List UInt64} {m : Mach} {b : Nat} {f : Nat → UInt64} (h : Is N m (b + os.length + 3) f) (hq : QW s os f) (hs : 21 ≤ s) (hr : s + 2 * os.length ≤ N) (hN : N < 60000) :
    ∃ m', qnodes m (A 18) = ((List.range os.length).map (fun i => A (s + 2 * i)), 0, m') ∧ Is N m' b f := by
  obtain ⟨m1, q1, i1⟩ := get_is' h (k := 18) (by omega) (by omega)
  obtain ⟨m2, q2, i2⟩ := get_is' i1 (k := 20) (by omega) (by omega)
  obtain ⟨m3, q3, i3⟩ := get_is' i2 (k := 19) (by omega) (by omega)
  obtain ⟨m4, q4, i4⟩ := qnodesL_is hq.seg rfl hs hr (by omega) os.length 0 [] (by omega) rfl i3
  refine ⟨m4, ?_, i4⟩
  have e20 : A 18 + 2 = A 20 := rfl
  have e19 : A 18 + 1 = A 19 := rfl
  unfold qnodes bget
  simp only [bne_self_eq_false, Bool.false_eq_true, if_false, q1, e20, q2, e19, q3, hq.count, hq.first, hq.last]
  have hle : ¬ (u 65536 < u (A os.length)) := by rw [u_A (by omega)]; show ¬ ((65536 : Int) < _); omega
  rw [if_neg hle, A_toNat (by omega)]
  simpa using q4
theorem qwordsL_is {N s : Nat} {os : List UInt64} {f : Nat → UInt64} (hq : Seg s os f) (hr : s + 2 * os.length ≤ N) (hN : N < 100000) :
    ∀ (k i : Nat) {m : Mach} {b : Nat}, i + k = os.length → Is N m (b + k) f → ∃ m', qwordsL ((List.range' i k).map (fun i => A (s + 2 * i))) m 0 (os.take i) = (os, 0, m') ∧ Is N m' b f
  | 0, i, m, b, hi, h => by
    obtain rfl : i = os.length := by omega
    exact ⟨m, by simp [qwordsL], h⟩
  | k + 1, i, m, b, hi, h => by
    obtain ⟨m1, q1, i1⟩ := get_is' (b := b + k) h (k := s + 2 * i) (by omega) hN
    obtain ⟨m2, q2, i2⟩ := qwordsL_is hq hr hN k (i + 1) (by omega) i1
    refine ⟨m2, ?_, i2⟩
    rw [List.range'_succ, List.map_cons, qwordsL]
    simp only [bget, bne_self_eq_false, Bool.false_eq_true, if_false, q1]
    rw [hq.word i (by omega), ← q2, List.take_add_one, List.getElem?_eq_getElem (by omega)]; rfl
theorem qwords_is {N s : Nat} {os : List UInt64} {m : Mach} {b : Nat} {f : Nat → UInt64} (h : Is N m (b + 2 * os.length + 3) f) (hq : QW s os f) (hs : 21 ≤ s) (hr : s + 2 * os.length ≤ N) (hN : N < 60000) :
    ∃ m', qwords m (A 18) = (os, 0, m') ∧ Is N m' b f := by
  obtain ⟨m1, q1, i1⟩ := qnodes_is (b := b + os.length) (h.mono (by omega)) hq hs hr hN
  obtain ⟨m2, q2, i2⟩ := qwordsL_is hq.seg hr (by omega) os.length 0 (by omega) i1
  refine ⟨m2, ?_, i2⟩
  unfold qwords
  rw [q1]
  simpa [List.range_eq_range'] using q2

/-- A queue that is not empty takes nothing back. -/
theorem pback_full {N s : Nat} {m : Mach} {b n : Nat} {f : Nat → UInt64} (h : Is N m (b + 1) f) (h18 : (f 18 != 0) = true) (hN : N < 100000) (h21 : 21 ≤ N) : ∃ m', pback m (A 18) (part s n) = (2, m') ∧ Is N m' b f := by
  obtain ⟨m1, q1, i1⟩ := get_is' h (k := 18) (by omega) hN
  refine ⟨m1, ?_, i1⟩
  unfold pback part
  simp only [bne_self_eq_false, Bool.false_eq_true, if_false, q1, h18, if_true]
/-- An empty one does. -/
theorem pback_is {N s : Nat} {m : Mach} {b : Nat} {ws : List UInt64} {f : Nat → UInt64} (h : Is N m (b + 2 * ws.length + 4) f) (h18 : f 18 = 0) (hq : Seg s ws f) (hs : 21 ≤ s) (hr : s + 2 * ws.length ≤ N) (hN : N < 60000) (h21 : 21 ≤ N) :
    ∃ m' f', pback m (A 18) (part s ws.length) = (0, m') ∧ Is N m' b f' ∧ QW s ws f' ∧ ∀ j, (j < 18 ∨ 21 ≤ j) → f' j = f j := by
  obtain ⟨m1, q1, i1⟩ := get_is' (b := b + 2 * ws.length + 3) h (k := 18) (by omega) (by omega)
  obtain ⟨m2, q2, i2⟩ := pnodes_is (b := b + 3) (i1.mono (by omega)) hq hs hr (by omega) (by omega)
  obtain ⟨m3, q3, i3⟩ := put_is' i2 (part s ws.length).first (k := 18) (by omega) (by omega)
  obtain ⟨m4, q4, i4⟩ := put_is' i3 (if ws.length = 0 then 0 else A (s + 2 * ws.length - 1)) (k := 19) (by omega) (by omega)
  obtain ⟨m5, q5, i5⟩ := put_is' i4 (A ws.length) (k := 20) (by omega) (by omega)
  refine ⟨m5, _, ?_, i5, ⟨?_, ?_, ?_, hq.congr fun j h1 _ => ?_⟩, fun j hj => ?_⟩
  · have e20 : A 18 + 2 = A 20 := rfl
    have e19 : A 18 + 1 = A 19 := rfl
    unfold pback
    have hk : ((part s ws.length).kind != 1) = false := rfl
    simp only [hk, Bool.false_eq_true, if_false, q1, bne_self_eq_false, h18, q2, List.length_map, List.length_range]
    have hl : (if 0 < ws.length then ((List.range ws.length).map (fun i => A (s + 2 * i))).getD (ws.length - 1) 0 + 1 else 0) = if ws.length = 0 then 0 else A (s + 2 * ws.length - 1) := by
      by_cases hz : ws.length = 0
      · rw [if_neg (by omega), if_pos hz]
      · rw [if_pos (by omega), if_neg hz, List.getD_eq_getElem?_getD, List.getElem?_map, List.getElem?_range (by omega)]
        show A (s + 2 * (ws.length - 1)) + 1 = _
        rw [A_add1]; congr 1; omega
    rw [hl]
    unfold pbackP
    simp only [e19, e20, q3, q4, bne_self_eq_false, Bool.false_eq_true, if_false]
    rw [show (part s ws.length).count = A ws.length from rfl, q5]; rfl
  · rw [setf_ne _ _ _ _ (by omega), setf_ne _ _ _ _ (by omega), setf_eq]; rfl
  · rw [setf_ne _ _ _ _ (by omega), setf_eq]
  · rw [setf_eq]
  · rw [setf_ne _ _ _ _ (by omega), setf_ne _ _ _ _ (by omega), setf_ne _ _ _ _ (by omega)]
  · rw [setf_ne _ _ _ _ (by omega), setf_ne _ _ _ _ (by omega), setf_ne _ _ _ _ (by omega)]

/-- The free pieces from a pointer on. -/
def FreeC (N : Nat) (f : Nat → UInt64) : UInt64 → List Nat → Prop
  | p, [] => p = 0
  | p, a :: r => p = A (a + 1) ∧ a < N ∧ FreeC N f (f a) r
theorem FreeC.congr {N : Nat} {f g : Nat → UInt64} : ∀ {l : List Nat} {p : UInt64}, FreeC N f p l → (∀ a ∈ l, g a = f a) → FreeC N g p l
  | [], _, h, _ => h
  | a :: r, p, h, hg => ⟨h.1, h.2.1, by rw [hg a (by simp)]; exact FreeC.congr h.2.2 fun b hb => hg b (by simp [hb])⟩
theorem givenL_is {N : Nat} {f : Nat → UInt64} (hN : N < 100000) : ∀ (l : List Nat) (k a : Nat) (acc : List UInt64) {m : Mach} {b : Nat}, l.length ≤ k → a < N → FreeC N f (f a) l → Is N m (b + l.length + 1) f →
    ∃ m', givenL k m (A a) acc = (acc ++ l.map A, 0, m') ∧ Is N m' b f
  | [], k, a, acc, m, b, _, ha, hf, h => by
    obtain ⟨m1, q1, i1⟩ := get_is' h ha hN
    refine ⟨m1, ?_, i1⟩
    have hf' : f a = 0 := hf
    rw [givenL.eq_def]; dsimp only; rw [q1, hf']
    simp
  | c :: r, 0, a, acc, m, b, hk, _, _, _ => by simp at hk
  | c :: r, k + 1, a, acc, m, b, hk, ha, hf, h => by
    obtain ⟨m1, q1, i1⟩ := get_is' (b := b + r.length + 1) h ha hN
    obtain ⟨e1, e2, e3⟩ := hf
    obtain ⟨m2, q2, i2⟩ := givenL_is hN r k c (acc ++ [A c]) (by simpa using hk) e2 e3 i1
    refine ⟨m2, ?_, i2⟩
    rw [givenL.eq_def]; dsimp only; rw [q1, e1]
    have hz : (A (c + 1) == 0) = false := by rw [A_eq0 (by omega)]; simp
    simp only [bne_self_eq_false, Bool.false_eq_true, if_false, hz, A_sub1]
    rw [q2]; simp
theorem given_is {N : Nat} {f : Nat → UInt64} {l : List Nat} {m : Mach} {b : Nat} (h : Is N m (b + l.length + 1) f) (hl : l.length ≤ 60000) (hf : FreeC N f (f 3) l) (hN : N < 100000) (h21 : 21 ≤ N) : ∃ m', given m 0 2 = (l.map A, 0, m') ∧ Is N m' b f := by
  obtain ⟨m1, q1, i1⟩ := givenL_is hN l 65536 3 [] (by omega) (by omega) hf h
  refine ⟨m1, ?_, i1⟩
  have e : (0 : UInt64) + 1 + 2 = A 3 := rfl
  have hf2 : (fits 2 != 0) = false := by rw [show (2 : UInt64) = A 2 from rfl, fits_ok (by omega) (by omega)]; rfl
  unfold given
  rw [hf2, e, q1]
  simp only [Bool.false_eq_true, if_false, List.nil_append]
end Go.Proofs.Ytkfonlpglkfpgaa
