/- The plain law: what PartQueues makes, between its loops. -/
import Derived.Test.YtkfonlpglkfpgaaOk
namespace Go.Proofs.Ytkfonlpglkfpgaa
set_option linter.unusedSimpArgs false
set_option linter.unusedVariables false
open Go.RowKit

/-- Behind the puts of others: Read, Turn, Read, Words. -/
theorem chainA {ws os : List UInt64} {more : UInt64} {mm : Mach} {f : Nat → UInt64} {b : Nat} (hlen : ws.length + os.length ≤ 300) (hb : 10000 ≤ b)
    (h : Is 1000 mm b f) (hq : QSt 1000 (21 + 2 * ws.length) os f) (hs : Seg 21 ws f) :
    ∃ m2 m3 m4 m5 f', pread mm (part 21 ws.length) = (ws, 0, m2) ∧ pturn (fun b => b + more) m2 (part 21 ws.length) = (0, m3) ∧ pread m3 (part 21 ws.length) = (ws.map (· + more), 0, m4) ∧ qwords m4 (A 18) = (os, 0, m5) ∧
      Is 1000 m5 (b - 10000) f' ∧ QSt 1000 (21 + 2 * ws.length) os f' ∧ Seg 21 (ws.map (· + more)) f' := by
  obtain ⟨m2, q2, i2⟩ := pread_is (b := b - 1000) (h.mono (by omega)) hs (by omega) (by omega) (by omega) (by omega)
  obtain ⟨m3, f3, q3, i3, g3, a3⟩ := pturn_is (b := b - 2000) (fun b => b + more) (i2.mono (by omega)) hs (by omega) (by omega) (by omega) (by omega)
  have l3 : (ws.map (fun b => b + more)).length = ws.length := List.length_map _
  obtain ⟨m4, q4, i4⟩ := pread_is (b := b - 4000) (i3.mono (by rw [l3]; omega)) g3 (by omega) (by omega) (by omega) (by omega)
  rw [l3] at q4
  have hq3 : QSt 1000 (21 + 2 * ws.length) os f3 := ⟨(a3 0 (by omega)).trans hq.fresh, (a3 1 (by omega)).trans hq.upto, (a3 3 (by omega)).trans hq.free, (a3 18 (by omega)).trans hq.first, (a3 19 (by omega)).trans hq.last, (a3 20 (by omega)).trans hq.count,
    fun i hi => (a3 _ (by omega)).trans (hq.word i hi), fun i hi => (a3 _ (by omega)).trans (hq.next i hi)⟩
  obtain ⟨m5, q5, i5⟩ := qwords_is (b := b - 8000) (i4.mono (by omega)) hq3.qw (by omega) (by omega) (by omega)
  exact ⟨m2, m3, m4, m5, f3, q2, q3, q4, q5, i5.mono (by omega), hq3, g3⟩

/-- A full queue refuses. -/
theorem chainF {ws os : List UInt64} {mm : Mach} {f : Nat → UInt64} {b : Nat} (hlen : ws.length + os.length ≤ 300) (hb : 10 ≤ b) (ho : 0 < os.length)
    (h : Is 1000 mm b f) (hq : QSt 1000 (21 + 2 * ws.length) os f) : ∃ m2, pback mm (A 18) (part 21 ws.length) = (2, m2) ∧ Is 1000 m2 (b - 10) f := by
  obtain ⟨m2, q2, i2⟩ := pback_full (s := 21) (n := ws.length) (b := b - 1) (h.mono (by omega)) (by rw [hq.first, if_neg (by omega), A_ne0 (by omega)]; simp) (by omega) (by omega)
  exact ⟨m2, q2, i2.mono (by omega)⟩

theorem freed_ne {s a : Nat} {j n : Nat} (hs : s = 21 + 2 * n) (h : a ∈ freed s j) : 3 < a := by
  obtain ⟨i, _, rfl⟩ := mem_freed h; omega

/-- Behind the takes. -/
theorem chainC {ws os : List UInt64} {mm : Mach} {f : Nat → UInt64} {b : Nat} (hlen : ws.length + os.length ≤ 300) (hb : 20000 ≤ b)
    (h : Is 1000 mm b f) (hq : TSt 1000 (21 + 2 * ws.length) os os.length f) (hs : Seg 21 ws f) :
    ∃ m2 m3 m4 m5 m6 m7 m8 l l', pback mm (A 18) (part 21 ws.length) = (0, m2) ∧ qwords m2 (A 18) = (ws, 0, m3) ∧ pqueue m3 (A 18) = (part 21 ws.length, 0, m4) ∧ given m4 0 2 = (l, 0, m5) ∧
      pgive m5 0 (part 21 ws.length) = (0, m6) ∧ given m6 0 2 = (l', 0, m7) ∧ qlen m7 (A 18) = (0, 0, m8) ∧ l'.length = l.length + ws.length ∧ l.length ≤ 300 := by
  obtain ⟨m2, f2, q2, i2, w2, a2⟩ := pback_is (b := b - 1000) (h.mono (by omega)) (by rw [hq.first, if_neg (by omega)]) hs (by omega) (by omega) (by omega) (by omega)
  obtain ⟨m3, q3, i3⟩ := qwords_is (b := b - 2000) (i2.mono (by omega)) w2 (by omega) (by omega) (by omega)
  obtain ⟨m4, f4, q4, i4, e4, a4⟩ := pqueue_qw (b := b - 3000) (i3.mono (by omega)) w2 (by omega) (by omega)
  have fr : FreeC 1000 f4 (f4 3) (freed (21 + 2 * ws.length) os.length) := by
    rw [a4 3 (by omega), a2 3 (by omega)]
    refine hq.free.congr fun a ha => ?_
    obtain ⟨i, _, rfl⟩ := mem_freed ha
    rw [a4 _ (by omega), a2 _ (by omega)]
  obtain ⟨m5, q5, i5⟩ := given_is (b := b - 4000) (i4.mono (by rw [length_freed]; omega)) (by rw [length_freed]; omega) fr (by omega) (by omega)
  have s4 : Seg 21 ws f4 := hs.congr fun j h1 h2 => (a4 j (by omega)).trans (a2 j (by omega))
  obtain ⟨m6, f6, q6, i6, ⟨l', fr', hl'⟩, e6⟩ := pgive_law (b := b - 8000) (i5.mono (by omega)) s4 (by omega) (by omega) (by omega)
    (fun a ha q hq => by obtain ⟨i, _, rfl⟩ := mem_freed ha; omega) (fun a ha => by obtain ⟨i, _, rfl⟩ := mem_freed ha; omega) fr
  rw [length_freed] at hl'
  obtain ⟨m7, q7, i7⟩ := given_is (b := b - 10000) (i6.mono (by omega)) (by omega) fr' (by omega) (by omega)
  obtain ⟨m8, q8, i8⟩ := qlen_is (b := b - 10001) (i7.mono (by omega)) (by omega) (by omega)
  rw [e6, e4] at q8
  exact ⟨m2, m3, m4, m5, m6, m7, m8, _, _, q2, q3, q4, q5, q6, q7, q8, by simp [length_freed, hl'], by simp [length_freed]; omega⟩
end Go.Proofs.Ytkfonlpglkfpgaa
