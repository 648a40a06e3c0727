/- PartQueues: what its walk carries along. -/
import Derived.Test.YtkfonlpglkfpgaaChain
import Derived.Test.YtkfonlpglkfpgaaWorks
namespace Go.Proofs.Ytkfonlpglkfpgaa
set_option linter.unusedSimpArgs false
set_option linter.unusedVariables false
open Go.RowKit

/-- What stands all through the walk. -/
structure PF (w : World) (x : TxB) (pb : Nat) (more pf pc : UInt64) (wr : World) : Prop where
  tch : Tch [] w wr
  V : Blk wr w.heap.size #[U more] 23
  P : Blk wr pb #[.int .i64 1, U pf, U pc] 35
  nV : w.heap.size ∉ x.L
  nP : pb ∉ x.L
  hL : ∀ b ∈ x.L, w.heap.size ≤ b
theorem PF.step {w : World} {x : TxB} {pb : Nat} {more pf pc : UInt64} {wr w' : World} (h : PF w x pb more pf pc wr) (ht : Tch x.L wr w') : PF w x pb more pf pc w' :=
  ⟨h.tch.new ht h.hL, h.V.tch ht h.nV, h.P.tch ht h.nP, h.nV, h.nP, h.hL⟩
theorem PF.drewN {w : World} {x : TxB} {pb : Nat} {more pf pc : UInt64} {wr : World} (h : PF w x pb more pf pc wr) (n : Nat) : PF w x pb more pf pc (wr.drewN n) :=
  ⟨h.tch.drewN n, h.V, h.P, h.nV, h.nP, h.hL⟩
theorem PF.alloc {w : World} {x : TxB} {pb : Nat} {more pf pc : UInt64} {wr : World} (h : PF w x pb more pf pc wr) (o : Obj) : PF w x pb more pf pc (wr.alloc o) :=
  ⟨h.tch.alloc o, h.V.alloc o, h.P.alloc o, h.nV, h.nP, h.hL⟩
theorem PF.fr {w : World} {x : TxB} {pb : Nat} {more pf pc : UInt64} {wr w' : World} {base : Nat} (h : PF w x pb more pf pc wr) (hf : Fr base wr w') (h1 : w.heap.size < base) (h2 : pb < base) : PF w x pb more pf pc w' :=
  ⟨⟨hf.os.trans h.tch.os, hf.tape.trans h.tch.tape, hf.output.trans h.tch.output, Nat.le_trans h.tch.size hf.size, fun k hk hn => (hf.block k (by omega)).trans (h.tch.block k hk hn)⟩,
    (hf.block _ h1).trans h.V, (hf.block _ h2).trans h.P, h.nV, h.nP, h.hL⟩
theorem TxB.At.fr {x : TxB} {m : Mach} {w w' : World} {base : Nat} (h : x.At m w) (hf : Fr base w w') (h1 : x.ta < base) (h2 : x.wb < base) (h3 : x.mb < base) : x.At m w' :=
  h.same (hf.block _ h1) (hf.block _ h2) (hf.block _ h3)

/-- Words in new memory, no error; their number has a name. -/
def SOkn (x : TxB) (w : World) (n : Nat) (xs : List UInt64) (m' : Mach) (e : Ending) (w' : World) : Prop :=
  ∃ bo c, e = .returned (.tuple #[.slice bo n c, .int .i64 0]) ∧ Rw w' w.heap.size 23 1 encU bo c xs ∧ x.At m' w' ∧ Tch x.L w w'
theorem pread_okn {x : TxB} {m m' : Mach} {w : World} {p : Prt} {xs : List UInt64} {n : Nat} (h : x.At m w) (hq : pread m p = (xs, 0, m')) (hn : xs.length = n) :
    Calls Try.prog 10 #[p.val, .func (.func 11) #[.pointer (some ⟨x.ta, 0, none⟩)] #[]] w (SOkn x w n xs m') := by
  subst hn; exact pread_ok h hq
theorem qwords_okn {x : TxB} {m m' : Mach} {w : World} {xs : List UInt64} {n : Nat} (h : x.At m w) (hq : qwords m (A 18) = (xs, 0, m')) (hn : xs.length = n) :
    Calls Try.prog 15 #[x.val, U (A 18)] w (SOkn x w n xs m') := by
  subst hn; exact qwords_ok h hq
theorem Rw.rdn {w : World} {base E : Nat} {bo : Option Addr} {c n : Nat} {xs : List UInt64} (h : Rw w base E 1 encU bo c xs) (hn : xs.length = n) : Rd w (.slice bo n c) xs := by
  subst hn; exact h.rd
/-- A cell of words that came in. -/
theorem Rd.at {w : World} {bo : Option Addr} {n c : Nat} {xs : List UInt64} (h : Rd w (.slice bo n c) xs) (i : Nat) (hi : i < xs.length) : ∃ a : Addr, bo = some a ∧ w.cell? (a.add i) = some (U xs[i]) := by
  obtain ⟨bo', c', hv, _, hc⟩ := h
  obtain ⟨a, ha, hc⟩ := hc i hi
  simp only [Value.slice.injEq] at hv
  exact ⟨a, hv.1.trans ha, hc⟩
theorem Rw.at {w : World} {base E : Nat} {bo : Option Addr} {c : Nat} {xs : List UInt64} (h : Rw w base E 1 encU bo c xs) (i : Nat) (hi : i < xs.length) : ∃ b, bo = some ⟨b, 0, none⟩ ∧ w.cell? ⟨b, i, none⟩ = some (U xs[i]) := by
  obtain ⟨b, hb, hc⟩ := h.cell encU_len i 0 xs[i] (by simp [hi]) (U xs[i]) rfl
  rw [Nat.mul_one, Nat.add_zero] at hc
  exact ⟨b, hb, hc⟩

/-- Apart of four lists in blocks of their own. -/
theorem apart4 (w : World) (base b2 b3 b4 lb : Nat) (boA boB boC boD : Option Addr) (cA cB cC cD nA nB nC nD : Nat) (xa xb xc xd : List UInt64)
    (hA : Rw w base 23 1 encU boA cA xa) (hB : Rw w b2 23 1 encU boB cB xb) (hC : Rw w b3 23 1 encU boC cC xc) (hD : Rw w b4 23 1 encU boD cD xd)
    (ka : xa.length = nA) (kb : xb.length = nB) (kc : xc.length = nC) (kd : xd.length = nD)
    (h2 : ∀ a, boA = some a → a.block < b2) (h3 : ∀ a, boB = some a → a.block < b3) (h4 : ∀ a, boC = some a → a.block < b4) (h5 : ∀ a, boD = some a → a.block < lb)
    (hle : base ≤ b2 ∧ b2 ≤ b3 ∧ b3 ≤ b4 ∧ b4 ≤ lb) {T : TypeId} (hl : Blk w lb #[.slice boA nA cA, .slice boB nB cB, .slice boC nC cC, .slice boD nD cD] T)
    (hn : nA ≤ 1000 ∧ nB ≤ 1000 ∧ nC ≤ 1000 ∧ nD ≤ 1000) :
    Calls Try.prog 19 #[.slice (some ⟨lb, 0, none⟩) 4 4] w fun e w' => e = .returned (.bool true) ∧ Fr base w w' := by
  have hlt := hl.lt
  have bA := hA.block; have bB := hB.block; have bC := hC.block; have bD := hD.block
  have win : ∀ i a, i < 4 → [boA, boB, boC, boD].getD i none = some a → [base, b2, b3, b4, lb].getD i 0 ≤ a.block ∧ a.block < [base, b2, b3, b4, lb].getD (i + 1) 0 := by
    intro i a hi ha
    have hi' : i = 0 ∨ i = 1 ∨ i = 2 ∨ i = 3 := by omega
    rcases hi' with rfl | rfl | rfl | rfl
    · exact ⟨(bA a ha).1, h2 a ha⟩
    · exact ⟨(bB a ha).1, h3 a ha⟩
    · exact ⟨(bC a ha).1, h4 a ha⟩
    · exact ⟨(bD a ha).1, h5 a ha⟩
  refine apart_any ⟨base, 4, fun j => [boA, boB, boC, boD].getD j none, fun j => [cA, cB, cC, cD].getD j 0, fun j => [nA, nB, nC, nD].getD j 0⟩ lb ⟨?_, ?_⟩ w (by simp only; omega) ?_ hlt ?_ ?_ (by simp only; omega)
  · intro i j a b hi hj hij ha hb
    have wi := win i a hi ha
    have wj := win j b hj hb
    clear win ha hb
    simp only at hi hj
    have hi' : i = 0 ∨ i = 1 ∨ i = 2 ∨ i = 3 := by omega
    have hj' : j = 0 ∨ j = 1 ∨ j = 2 ∨ j = 3 := by omega
    rcases hi' with rfl | rfl | rfl | rfl <;> rcases hj' with rfl | rfl | rfl | rfl <;> simp only [List.getD_cons_zero, List.getD_cons_succ] at wi wj <;> omega
  · intro i a hi ha
    have wi := win i a hi ha
    clear win ha
    simp only at hi
    have hi' : i = 0 ∨ i = 1 ∨ i = 2 ∨ i = 3 := by omega
    rcases hi' with rfl | rfl | rfl | rfl <;> simp only [List.getD_cons_zero, List.getD_cons_succ] at wi <;> omega
  · intro j hj
    simp only at hj ⊢
    have hj' : j = 0 ∨ j = 1 ∨ j = 2 ∨ j = 3 := by omega
    rcases hj' with rfl | rfl | rfl | rfl <;> (rw [hl.cell]; rfl)
  · intro j hj
    simp only at hj ⊢
    have hj' : j = 0 ∨ j = 1 ∨ j = 2 ∨ j = 3 := by omega
    rcases hj' with rfl | rfl | rfl | rfl
    · exact ⟨xa, ka, hA, by omega⟩
    · exact ⟨xb, kb, hB.mono hle.1, by omega⟩
    · exact ⟨xc, kc, hC.mono (Nat.le_trans hle.1 hle.2.1), by omega⟩
    · exact ⟨xd, kd, hD.mono (Nat.le_trans hle.1 (Nat.le_trans hle.2.1 hle.2.2.1)), by omega⟩
  · intro j
    simp only
    rcases j with _ | _ | _ | _ | j <;> simp <;> omega
end Go.Proofs.Ytkfonlpglkfpgaa
