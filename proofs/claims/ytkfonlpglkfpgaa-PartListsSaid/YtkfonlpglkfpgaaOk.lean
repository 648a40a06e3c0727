/- The contracts, where the answer is known. -/
import Derived.Test.YtkfonlpglkfpgaaLaw7
import Derived.Test.YtkfonlpglkfpgaaApart
namespace Go.Proofs.Ytkfonlpglkfpgaa
set_option linter.unusedSimpArgs false
set_option linter.unusedVariables false
open Go.RowKit

theorem filled_ok (w : World) (v : Value) (ws : List UInt64) (h : Rd w v ws) {m : Mach} (hq : mfilled ws = (m, A 18, true)) :
    Calls Try.prog 6 #[v] w fun e w' => ∃ x : TxB, e = .returned (.tuple #[.pointer (some ⟨x.ta, 0, none⟩), U (A 18), .bool true]) ∧ x.At m w' ∧ (w.heap.size ≤ x.ta ∧ w.heap.size ≤ x.wb ∧ w.heap.size ≤ x.mb) ∧ Tch [] w w' := by
  have := filled_any w v ws h; rw [hq] at this; exact this
theorem pqueue_ok {x : TxB} {m m' : Mach} {w : World} {p : Prt} {e : Int} (h : x.At m w) (hq : pqueue m (A 18) = (p, e, m')) :
    Calls Try.prog 7 #[x.val, U (A 18)] w (x.Post w (.tuple #[p.val, .int .i64 e]) m') := by
  have := pqueue_any x m w (A 18) h; rw [hq] at this; exact this
theorem qput_ok {x : TxB} {m m' : Mach} {w : World} {v : UInt64} {e : Int} (h : x.At m w) (hq : qput m 0 (A 18) v = (e, m')) :
    Calls Try.prog 9 #[x.val, U 0, U (A 18), U v] w (x.Post w (.int .i64 e) m') := by
  have := qput_any x m w 0 (A 18) v h; rw [hq] at this; exact this
theorem qtake_ok {x : TxB} {m m' : Mach} {w : World} {v : UInt64} {is : Bool} {e : Int} (h : x.At m w) (hq : qtake m 0 (A 18) = (v, is, e, m')) :
    Calls Try.prog 18 #[x.val, U 0, U (A 18)] w (x.Post w (.tuple #[U v, .bool is, .int .i64 e]) m') := by
  have := qtake_any x m w 0 (A 18) h; rw [hq] at this; exact this
theorem qlen_ok {x : TxB} {m m' : Mach} {w : World} {v : UInt64} {e : Int} (h : x.At m w) (hq : qlen m (A 18) = (v, e, m')) :
    Calls Try.prog 22 #[x.val, U (A 18)] w (x.Post w (.tuple #[U v, .int .i64 e]) m') := by
  have := qlen_any x m w (A 18) h; rw [hq] at this; exact this
theorem pback_ok {x : TxB} {m m' : Mach} {w : World} {p : Prt} {e : Int} (h : x.At m w) (hq : pback m (A 18) p = (e, m')) :
    Calls Try.prog 17 #[x.val, U (A 18), p.val] w (x.Post w (.int .i64 e) m') := by
  have := pback_any x m w (A 18) p h; rw [hq] at this; exact this
theorem pgive_ok {x : TxB} {m m' : Mach} {w : World} {p : Prt} {e : Int} (h : x.At m w) (hq : pgive m 0 p = (e, m')) :
    Calls Try.prog 21 #[x.val, U 0, p.val] w (x.Post w (.int .i64 e) m') := by
  have := pgive_any x m w 0 p h; rw [hq] at this; exact this
theorem pturn_ok {x : TxB} {F : World → Prop} {g : UInt64 → UInt64} {ffid : FuncId} {fcaps : Array Value} (hF : FunOk x F g ffid fcaps) {m m' : Mach} {w : World} {p : Prt} {e : Int} (h : x.At m w) (hw : F w) (hq : pturn g m p = (e, m')) :
    Calls Try.prog 12 #[p.val, .func (.func 11) #[.pointer (some ⟨x.ta, 0, none⟩)] #[], .func (.func 13) #[.pointer (some ⟨x.ta, 0, none⟩)] #[], .func (.func ffid) #[] fcaps] w (x.Post w (.int .i64 e) m') := by
  have := pturn_any x F g ffid fcaps hF m w p h hw; rw [hq] at this; exact this
/-- Words in new memory, no error. -/
def SOk (x : TxB) (w : World) (xs : List UInt64) (m' : Mach) (e : Ending) (w' : World) : Prop :=
  ∃ bo c, e = .returned (.tuple #[.slice bo xs.length c, .int .i64 0]) ∧ Rw w' w.heap.size 23 1 encU bo c xs ∧ x.At m' w' ∧ Tch x.L w w'
theorem pread_ok {x : TxB} {m m' : Mach} {w : World} {p : Prt} {xs : List UInt64} (h : x.At m w) (hq : pread m p = (xs, 0, m')) :
    Calls Try.prog 10 #[p.val, .func (.func 11) #[.pointer (some ⟨x.ta, 0, none⟩)] #[]] w (SOk x w xs m') := by
  have := pread_any x m w p h; rw [hq] at this; exact this
theorem qwords_ok {x : TxB} {m m' : Mach} {w : World} {xs : List UInt64} (h : x.At m w) (hq : qwords m (A 18) = (xs, 0, m')) :
    Calls Try.prog 15 #[x.val, U (A 18)] w (SOk x w xs m') := by
  have := qwords_any x m w (A 18) h; rw [hq] at this; exact this
theorem given_ok {x : TxB} {m m' : Mach} {w : World} {xs : List UInt64} (h : x.At m w) (hq : given m 0 2 = (xs, 0, m')) :
    Calls Try.prog 20 #[x.val, U 0, U 2] w (SOk x w xs m') := by
  have := given_any x m w 0 2 h; rw [hq] at this; exact this

/-- What works() makes. -/
theorem works_chain : ∃ m0 m1 m2 m3 m4 m5 m6 : Mach, mfilled [5, 6, 7] = (m0, A 18, true) ∧ pqueue m0 (A 18) = (part 21 3, 0, m1) ∧ pread m1 (part 21 3) = ([5, 6, 7], 0, m2) ∧ qwords m2 (A 18) = ([], 0, m3) ∧
    pturn (fun b => 2 * b) m3 (part 21 3) = (0, m4) ∧ pback m4 (A 18) (part 21 3) = (0, m5) ∧ qwords m5 (A 18) = ([10, 12, 14], 0, m6) := by
  obtain ⟨m0, f0, q0, i0, s0⟩ := filled_is [5, 6, 7] (by decide)
  obtain ⟨m1, f1, q1, i1, s1, a1, _⟩ := pqueue_is (b := 1000) (i0.mono (by omega)) s0 (by omega) (by omega) (by omega)
  have g1 : Seg 21 [5, 6, 7] f1 := s0.qw.seg.congr fun j hj _ => a1 j hj
  obtain ⟨m2, q2, i2⟩ := pread_is (b := 900) (i1.mono (by simp)) g1 (by omega) (by simp) (by omega) (by simp)
  obtain ⟨m3, q3, i3⟩ := qwords_is (b := 800) (i2.mono (by simp)) s1.qw (by omega) (by simp) (by omega)
  obtain ⟨m4, f4, q4, i4, g4, a4⟩ := pturn_is (b := 700) (fun b => 2 * b) (i3.mono (by simp)) g1 (by omega) (by simp) (by omega) (by simp)
  obtain ⟨m5, f5, q5, i5, w5, a5⟩ := pback_is (b := 600) (i4.mono (by simp)) (by rw [a4 18 (by omega), s1.first]; rfl) g4 (by omega) (by simp) (by omega) (by omega)
  obtain ⟨m6, q6, i6⟩ := qwords_is (b := 500) (i5.mono (by simp)) w5 (by omega) (by simp) (by omega)
  exact ⟨m0, m1, m2, m3, m4, m5, m6, q0, q1, q2, q3, q4, q5, q6⟩
end Go.Proofs.Ytkfonlpglkfpgaa
