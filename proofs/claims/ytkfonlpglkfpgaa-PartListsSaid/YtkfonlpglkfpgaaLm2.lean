/- The plain law of PartLists: from the part on. -/
import Derived.Test.YtkfonlpglkfpgaaLm
namespace Go.Proofs.Ytkfonlpglkfpgaa
set_option linter.unusedSimpArgs false
set_option linter.unusedVariables false
open Go.RowKit (wrap64)

theorem plist_is {N n : Nat} {m : Mach} {b : Nat} {f : Nat → UInt64} {c : List (Nat × UInt64)} (h : Is N m (b + 4) f) (hq : LSt N n c f) (hN : N < 100000) (h21 : 21 ≤ N) :
    ∃ m', plist m (A 18) = (⟨2, f 19, A c.length⟩, 0, m') ∧ Is N m' b (setf (setf f 18 0) 19 0) ∧ (m.calls = 0 → m'.calls = 4) := by
  have c1 := get_is (b := b + 3) h (k := 19) (by omega) hN
  have c2 := get_is (b := b + 2) c1.2 (k := 18) (by omega) hN
  have c3 := put_is (b := b + 1) c2.2 0 (k := 18) (by omega) hN
  have c4 := put_is (b := b) c3.2 0 (k := 19) (by omega) hN
  refine ⟨_, ?_, c4.2, ?_⟩
  · have e19 : A 18 + 1 = A 19 := rfl
    unfold plist cut
    rw [e19, c1.1]
    simp only [bne_self_eq_false, Bool.false_eq_true, if_false, c2.1, cutL_cons, cutL_nil, c3.1, c4.1]
    rw [hq.count]
  · intro hc
    show wrap64 (wrap64 (wrap64 (wrap64 (m.calls + 1) + 1) + 1) + 1) = 4
    rw [hc]; unfold wrap64; omega
/-- The list is empty then. -/
theorem LSt.cut {N n : Nat} {f : Nat → UInt64} {c : List (Nat × UInt64)} (h : LSt N n c f) : LSt N n [] (setf (setf f 18 0) 19 0) :=
  ⟨by rw [setf_ne _ _ _ _ (by omega), setf_ne _ _ _ _ (by omega)]; exact h.fresh, by rw [setf_ne _ _ _ _ (by omega), setf_ne _ _ _ _ (by omega)]; exact h.upto,
    by rw [setf_ne _ _ _ _ (by omega), setf_ne _ _ _ _ (by omega)]; exact h.free, by rw [setf_ne _ _ _ _ (by omega), setf_ne _ _ _ _ (by omega)]; exact h.free4,
    by rw [setf_ne _ _ _ _ (by omega), setf_eq]; rfl, by rw [setf_eq]; exact rfl, by simp, trivial, by simp⟩

/-- A laid room of 2000 cells, and a list in it. -/
theorem lnew_st {f : Nat → UInt64} (h : f = f0 2000) : LSt 2000 0 [] (setf (setf (setf f 0 (A 20)) 18 0) 19 0) := by
  subst h
  exact ⟨rfl, rfl, rfl, rfl, rfl, rfl, by simp, trivial, by simp⟩

/-- From the part on, behind the key 7: Read again. 'c': the part's chain; n: its nodes. -/
theorem chain2 {n : Nat} {c : List (Nat × UInt64)} {p : UInt64} {mm : Mach} {f : Nat → UInt64} {b : Nat} (hl : c.length ≤ 300) (hn : n ≤ 300) (hb : 10000 ≤ b) (h : Is 2000 mm b f) (hc : Chn n f p c) (hnd : (c.map (·.1)).Nodup) (hq : LSt 2000 (n + 1) [(n, 7)] f) :
    ∃ m2 m3 m4 m6 m7 q l' g, pread mm ⟨2, p, A c.length⟩ = (c.map (·.2), 0, m2) ∧ given m2 0 2 = ([], 0, m3) ∧ qnew m3 0 = (q, 0, m4) ∧ pback m4 q ⟨2, p, A c.length⟩ = (2, m4) ∧ pback m4 (A 18) ⟨2, p, A c.length⟩ = (2, m4) ∧
      pgive m4 0 ⟨2, p, A c.length⟩ = (0, m6) ∧ given m6 0 2 = (l', 0, m7) ∧ l'.length = c.length ∧ Is 2000 m7 (b - 9000) g ∧ g 18 = A 1 ∧ Chn (n + 1) g (g 19) [(n, 7)] := by
  obtain ⟨m2, q2, i2⟩ := pread_c (b := b - 1000) (n := n) (by omega) (by omega) hc (by omega) (h.mono (by omega))
  obtain ⟨m3, q3, i3⟩ := given_is (l := []) (b := b - 1010) (i2.mono (by simp; omega)) (by simp) (show FreeC 2000 f (f 3) [] from hq.free) (by omega) (by omega)
  obtain ⟨m4, q4, i4⟩ := qnew_is (b := b - 1020) (k := 22 + 2 * n) (i3.mono (by omega)) hq.free4 (by rw [hq.fresh]; congr 1; omega) hq.upto (by omega) (by omega) (by omega)
  obtain ⟨g, hg⟩ : ∃ g, g = setf (setf (setf (setf f 0 (A (22 + 2 * n + 3))) (22 + 2 * n) 0) (22 + 2 * n + 1) 0) (22 + 2 * n + 2) 0 := ⟨_, rfl⟩
  rw [← hg] at i4
  have hgf : ∀ j, 1 ≤ j → j < 22 + 2 * n → g j = f j := by
    intro j h1 h2
    rw [hg, setf_ne _ _ _ _ (by omega), setf_ne _ _ _ _ (by omega), setf_ne _ _ _ _ (by omega), setf_ne _ _ _ _ (by omega)]
  have hcg : Chn n g p c := hc.congr fun y hy => by
    have := hc.lt y hy
    exact ⟨hgf _ (by omega) (by omega), hgf _ (by omega) (by omega)⟩
  obtain ⟨m5, q5, i5⟩ := pnodes_c (b := b - 2000) (n := n) (by omega) (by omega) hcg (by omega) (i4.mono (by omega))
  obtain ⟨m6, g6, q6, i6, ⟨l6, fr6, hl6⟩, h6⟩ := giveC (n := n) (b := b - 4000) (by omega) (by omega) c (l := []) (fun y hy => hc.lt y hy) hnd (by simp) (show FreeC 2000 g (g 3) [] from (hgf 3 (by omega) (by omega)).trans hq.free) (i5.mono (by omega))
  simp only [List.length_nil, Nat.zero_add] at hl6
  obtain ⟨m7, q7, i7⟩ := given_is (b := b - 5000) (i6.mono (by omega)) (by omega) fr6 (by omega) (by omega)
  have hk : ∀ j, 1 ≤ j → j < 22 + 2 * n → j ≠ 3 → (∀ i, i < n → j ≠ 20 + 2 * i) → g6 j = f j := fun j h1 h2 h3 h4 =>
    (h6 j h3 fun y hy => h4 _ (hc.lt y hy)).trans (hgf j h1 h2)
  refine ⟨m2, m3, m4, m6, m7, _, _, g6, q2, by simpa using q3, q4, rfl, rfl, ?_, q7, by simp [hl6], i7.mono (by omega), ?_, ?_⟩
  · unfold pgive
    rw [q5]
    simp only [bne_self_eq_false, Bool.false_eq_true, if_false]
    exact q6
  · rw [hk 18 (by omega) (by omega) (by omega) (fun i _ => by omega)]; exact hq.count
  · obtain ⟨e1, e2, e3, e4⟩ := hq.chain
    rw [hk 19 (by omega) (by omega) (by omega) (fun i _ => by omega)]
    refine ⟨e1, e2, ?_, ?_⟩
    · rw [hk _ (by omega) (by omega) (by omega) (fun i _ => by omega)]; exact e3
    · rw [hk _ (by omega) (by omega) (by omega) (fun i _ => by omega)]; exact e4
end Go.Proofs.Ytkfonlpglkfpgaa
