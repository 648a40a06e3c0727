/- The block of the statements (a tx over plain words): where it lies, what its Get and Put do. -/
import Derived.Test.YtkfonlpglkfpgaaProg
import Derived.Test.YtkfonlpglkfpgaaU
import Derived.Test.YtkfonlpglkfpgaaM
import Derived.Deep.QuietTactic
import Derived.BigQuiet
namespace Go.Proofs.Ytkfonlpglkfpgaa
set_option linter.unusedSimpArgs false
set_option linter.unusedVariables false
open Go.RowKit

/-- Where a tx lies: the tx, its World, the words. -/
structure TxB where
  ta : Nat
  wb : Nat
  mb : Nat

/-- It lies there, and stands so. -/
structure TxB.At (x : TxB) (m : Mach) (w : World) : Prop where
  hta : w.heap[x.ta]? = some (.cells #[.pointer (some ⟨x.wb, 0, none⟩)] 32 (0, 0))
  hwb : w.heap[x.wb]? = some (.cells #[.slice (some ⟨x.mb, 0, none⟩) m.mem.length m.mem.length, .int .i64 m.left, .int .i64 m.code, .int .i64 m.calls] 29 (0, 0))
  hmb : w.heap[x.mb]? = some (.cells (m.mem.map U).toArray 23 (0, 0))
  ne1 : x.ta ≠ x.wb
  ne2 : x.ta ≠ x.mb
  ne3 : x.wb ≠ x.mb
  small : m.mem.length < 4611686018427387904

/-- Of what was there nothing has turned but the blocks of a list. -/
structure Tch (L : List Nat) (w w' : World) : Prop where
  os : w'.os = w.os
  tape : w'.tape = w.tape
  output : w'.output = w.output
  size : w.heap.size ≤ w'.heap.size
  block : ∀ k, k < w.heap.size → k ∉ L → w'.heap[k]? = w.heap[k]?

theorem Tch.refl (L : List Nat) (w : World) : Tch L w w := ⟨rfl, rfl, rfl, Nat.le_refl _, fun _ _ _ => rfl⟩
theorem Tch.trans {L : List Nat} {a b c : World} (h : Tch L a b) (k : Tch L b c) : Tch L a c :=
  ⟨k.os.trans h.os, k.tape.trans h.tape, k.output.trans h.output, Nat.le_trans h.size k.size, fun i hi h1 => (k.block i (Nat.lt_of_lt_of_le hi h.size) h1).trans (h.block i hi h1)⟩
theorem Tch.drew {L : List Nat} {a w : World} (h : Tch L a w) : Tch L a w.drew := ⟨h.os, h.tape, h.output, h.size, h.block⟩
theorem Tch.drewN {L : List Nat} {a w : World} (h : Tch L a w) (n : Nat) : Tch L a (w.drewN n) := ⟨h.os, h.tape, h.output, h.size, h.block⟩
theorem Tch.setCell {L : List Nat} {a w : World} (h : Tch L a w) {p : Addr} (hp : p.block ∈ L) (u : Value) : Tch L a (w.setCell p u) :=
  h.trans ⟨rfl, rfl, rfl, by simp [World.setCell], fun k _ h1 => Below.heap_setCell _ _ _ _ (fun e => h1 (e ▸ hp))⟩
theorem Tch.alloc {L : List Nat} {a w : World} (h : Tch L a w) (o : Obj) : Tch L a (w.alloc o) :=
  h.trans ⟨rfl, rfl, rfl, by simp, fun k hk _ => Below.heap_alloc _ _ _ hk⟩
theorem Tch.mono {L L' : List Nat} {a w : World} (h : Tch L a w) (hL : ∀ k ∈ L, k ∈ L') : Tch L' a w := ⟨h.os, h.tape, h.output, h.size, fun k hk h1 => h.block k hk (fun e => h1 (hL k e))⟩
theorem Tch.cons {L : List Nat} {a w : World} (b : Nat) (h : Tch L a w) : Tch (b :: L) a w := h.mono fun _ hk => List.mem_cons_of_mem _ hk
/-- A block that was not there is none of those that count. -/
theorem Tch.drop {L : List Nat} {a w : World} {b : Nat} (hb : a.heap.size ≤ b) (h : Tch (b :: L) a w) : Tch L a w :=
  ⟨h.os, h.tape, h.output, h.size, fun k hk h1 => h.block k hk (by simp only [List.mem_cons, not_or]; exact ⟨by omega, h1⟩)⟩
theorem Tch.grown {L : List Nat} {a w w' : World} {row : Option Nat} (h : Tch L a w) (hg : w.grownBy w' row) (hr : ∀ k, row = some k → a.heap.size ≤ k ∨ k ∈ L) : Tch L a w' :=
  ⟨hg.os.trans h.os, hg.tape.trans h.tape, hg.output.trans h.output, Nat.le_trans h.size hg.size, fun k hk h1 => (hg.block k (Nat.lt_of_lt_of_le hk h.size) (fun e => by rcases hr k e.symm with h2 | h2; omega; exact h1 h2)).trans (h.block k hk h1)⟩
/-- The blocks that a tx writes. -/
abbrev TxB.L (x : TxB) : List Nat := [x.wb, x.mb]

theorem heap_setCell_at {w : World} {b off : Nat} {cs : Array Value} {t : TypeId} {fr : Nat × Nat} (h : w.heap[b]? = some (.cells cs t fr)) (u : Value) :
    (w.setCell ⟨b, off, none⟩ u).heap[b]? = some (.cells (cs.setIfInBounds off u) t fr) := by
  have hlt := lt_of_block h
  show (w.heap.modify b _)[b]? = _
  rw [Array.getElem?_modify, h]; simp

theorem TxB.At.drew {x : TxB} {m : Mach} {w : World} (h : x.At m w) : x.At m w.drew := ⟨h.hta, h.hwb, h.hmb, h.ne1, h.ne2, h.ne3, h.small⟩
theorem TxB.At.drewN {x : TxB} {m : Mach} {w : World} (h : x.At m w) (n : Nat) : x.At m (w.drewN n) := ⟨h.hta, h.hwb, h.hmb, h.ne1, h.ne2, h.ne3, h.small⟩
theorem TxB.At.set1 {x : TxB} {m : Mach} {w : World} (h : x.At m w) (c : Int) : x.At { m with left := c } (w.setCell ⟨x.wb, 1, none⟩ (.int .i64 c)) :=
  ⟨by rw [Below.heap_setCell _ _ _ _ h.ne1]; exact h.hta, by rw [heap_setCell_at h.hwb]; rfl, by rw [Below.heap_setCell _ _ _ _ h.ne3.symm]; exact h.hmb, h.ne1, h.ne2, h.ne3, h.small⟩
theorem TxB.At.set3 {x : TxB} {m : Mach} {w : World} (h : x.At m w) (c : Int) : x.At { m with calls := c } (w.setCell ⟨x.wb, 3, none⟩ (.int .i64 c)) :=
  ⟨by rw [Below.heap_setCell _ _ _ _ h.ne1]; exact h.hta, by rw [heap_setCell_at h.hwb]; rfl, by rw [Below.heap_setCell _ _ _ _ h.ne3.symm]; exact h.hmb, h.ne1, h.ne2, h.ne3, h.small⟩
theorem TxB.At.setm {x : TxB} {m : Mach} {w : World} (h : x.At m w) (i : Nat) (v : UInt64) : x.At { m with mem := m.mem.set i v } (w.setCell ⟨x.mb, i, none⟩ (U v)) :=
  ⟨by rw [Below.heap_setCell _ _ _ _ h.ne2]; exact h.hta, by rw [Below.heap_setCell _ _ _ _ h.ne3]; simpa using h.hwb,
   by rw [heap_setCell_at h.hmb]; simp [List.map_set], h.ne1, h.ne2, h.ne3, by simpa using h.small⟩
/-- It stands on where its blocks have not turned. -/
theorem TxB.At.same {x : TxB} {m : Mach} {w w' : World} (h : x.At m w) (h1 : w'.heap[x.ta]? = w.heap[x.ta]?) (h2 : w'.heap[x.wb]? = w.heap[x.wb]?) (h3 : w'.heap[x.mb]? = w.heap[x.mb]?) : x.At m w' :=
  ⟨h1.trans h.hta, h2.trans h.hwb, h3.trans h.hmb, h.ne1, h.ne2, h.ne3, h.small⟩
theorem TxB.At.alloc {x : TxB} {m : Mach} {w : World} (h : x.At m w) (o : Obj) : x.At m (w.alloc o) :=
  h.same (Below.heap_alloc _ _ _ (lt_of_block h.hta)) (Below.heap_alloc _ _ _ (lt_of_block h.hwb)) (Below.heap_alloc _ _ _ (lt_of_block h.hmb))

theorem TxB.At.tch {x : TxB} {m : Mach} {w w' : World} {L : List Nat} (h : x.At m w) (ht : Tch L w w') (h1 : x.ta ∉ L) (h2 : x.wb ∉ L) (h3 : x.mb ∉ L) : x.At m w' :=
  h.same (ht.block _ (lt_of_block h.hta) h1) (ht.block _ (lt_of_block h.hwb) h2) (ht.block _ (lt_of_block h.hmb) h3)
theorem TxB.At.lt {x : TxB} {m : Mach} {w : World} (h : x.At m w) : x.ta < w.heap.size ∧ x.wb < w.heap.size ∧ x.mb < w.heap.size := ⟨lt_of_block h.hta, lt_of_block h.hwb, lt_of_block h.hmb⟩
/-- The cells of the World. -/
theorem TxB.At.c {x : TxB} {m : Mach} {w : World} (h : x.At m w) :
    w.cell? ⟨x.wb, 0, none⟩ = some (.slice (some ⟨x.mb, 0, none⟩) m.mem.length m.mem.length) ∧ w.cell? ⟨x.wb, 1, none⟩ = some (.int .i64 m.left) ∧
    w.cell? ⟨x.wb, 2, none⟩ = some (.int .i64 m.code) ∧ w.cell? ⟨x.wb, 3, none⟩ = some (.int .i64 m.calls) ∧
    (∀ o, w.frozen? ⟨x.wb, o, none⟩ = false) ∧ (∀ o, w.frozen? ⟨x.mb, o, none⟩ = false) ∧ w.cell? ⟨x.ta, 0, none⟩ = some (.pointer (some ⟨x.wb, 0, none⟩)) := by
  refine ⟨?_, ?_, ?_, ?_, ?_, ?_, ?_⟩
  · simp [World.cell?, h.hwb]
  · simp [World.cell?, h.hwb]
  · simp [World.cell?, h.hwb]
  · simp [World.cell?, h.hwb]
  · intro o; simp [World.frozen?, h.hwb]
  · intro o; simp [World.frozen?, h.hmb]
  · simp [World.cell?, h.hta]
theorem TxB.At.m {x : TxB} {m : Mach} {w : World} (h : x.At m w) (i : Nat) (hi : i < m.mem.length) : w.cell? ⟨x.mb, i, none⟩ = some (U (m.mem.getD i 0)) := by
  simp [World.cell?, h.hmb, hi]

/-- A fact kept from the walk. -/
theorem hide {p : Prop} (h : p) : Hid p := h

theorem u_len (n : Nat) (h : n < 4611686018427387904) : u (UInt64.ofNat n) = n := by
  simp only [u, UInt64.toNat_ofNat']
  omega
theorem geq_len (a : UInt64) (n : Nat) (h : n < 4611686018427387904) : decide (u (UInt64.ofNat n) ≤ u a) = decide (n ≤ a.toNat) := by
  rw [decide_eq_decide, u_len n h]
  simp only [u]; omega

set_option maxHeartbeats 400000 in
/-- (*World).Get -/
theorem wget (x : TxB) (m : Mach) (w : World) (a : UInt64) (h : x.At m w) :
    Calls Try.prog 36 #[.pointer (some ⟨x.wb, 0, none⟩), U a] w fun e w' =>
      e = .returned (.tuple #[U (m.get a).1, .int .i64 (m.get a).2.1]) ∧ x.At (m.get a).2.2 w' ∧ Tch x.L w w' := by
  obtain ⟨c0, c1, c2, c3, f1, f2, _⟩ := h.c
  have cm := h.m a.toNat
  have hs := h.small
  have f3 := f1 3
  have f11 := f1 1
  have H := h.set3 (wrap64 (m.calls + 1))
  have H2 := H.set1 (wrap64 (m.left - 1))
  have T : Tch x.L w (w.setCell ⟨x.wb, 3, none⟩ (.int .i64 (wrap64 (m.calls + 1)))) := (Tch.refl x.L w).setCell (by simp) _
  have T2 : Tch x.L w ((w.setCell ⟨x.wb, 3, none⟩ (.int .i64 (wrap64 (m.calls + 1)))).setCell ⟨x.wb, 1, none⟩ (.int .i64 (wrap64 (m.left - 1)))) := T.setCell (by simp) _
  have n3 := h.ne3
  have n4 := h.ne3.symm
  obtain ⟨mem, left, code, calls⟩ := m
  simp only [Mach.get] at *
  replace H := hide H; replace H2 := hide H2; replace T := hide T; replace T2 := hide T2
  clear h f1 f2
  by_cases hl : left = 0
  · subst hl
    clear cm H2 T2
    go_enter Try.func36, Try.ntmps36
    go_wp2
    go_quiet (fail)
    go_wp2
    go_ret2
    exact ⟨rfl, H.out.drewN nq, T.out.drewN nq⟩
  · have hl' : (left == 0) = false := by simpa using hl
    by_cases hm : a.toNat < mem.length
    · have cm' := cm hm
      have hm2 : decide (u (UInt64.ofNat mem.length) ≤ u a) = false := by rw [geq_len _ _ hs]; simpa using hm
      clear cm H T
      simp only [if_neg hl, if_pos hm]
      go_enter Try.func36, Try.ntmps36
      go_wp2
      go_ret2
      exact ⟨by simp [hm], H2.out, T2.out⟩
    · have hm2 : decide (u (UInt64.ofNat mem.length) ≤ u a) = true := by rw [geq_len _ _ hs]; simpa using hm
      clear cm H T
      simp only [if_neg hl, if_neg hm]
      go_enter Try.func36, Try.ntmps36
      go_wp2
      go_ret2
      exact ⟨rfl, H2.out, T2.out⟩

set_option maxHeartbeats 400000 in
/-- (*World).Put -/
theorem wput (x : TxB) (m : Mach) (w : World) (a v : UInt64) (h : x.At m w) :
    Calls Try.prog 38 #[.pointer (some ⟨x.wb, 0, none⟩), U a, U v] w fun e w' =>
      e = .returned (.int .i64 (m.put a v).1) ∧ x.At (m.put a v).2 w' ∧ Tch x.L w w' := by
  obtain ⟨c0, c1, c2, c3, f1, f2, _⟩ := h.c
  have cm := h.m a.toNat
  have hs := h.small
  have f3 := f1 3
  have f11 := f1 1
  have fm := f2 a.toNat
  have H := h.set3 (wrap64 (m.calls + 1))
  have H2 := H.set1 (wrap64 (m.left - 1))
  have H3 := H2.setm a.toNat v
  have T : Tch x.L w (w.setCell ⟨x.wb, 3, none⟩ (.int .i64 (wrap64 (m.calls + 1)))) := (Tch.refl x.L w).setCell (by simp) _
  have T2 : Tch x.L w ((w.setCell ⟨x.wb, 3, none⟩ (.int .i64 (wrap64 (m.calls + 1)))).setCell ⟨x.wb, 1, none⟩ (.int .i64 (wrap64 (m.left - 1)))) := T.setCell (by simp) _
  have T3 : Tch x.L w (((w.setCell ⟨x.wb, 3, none⟩ (.int .i64 (wrap64 (m.calls + 1)))).setCell ⟨x.wb, 1, none⟩ (.int .i64 (wrap64 (m.left - 1)))).setCell ⟨x.mb, a.toNat, none⟩ (U v)) := T2.setCell (by simp) _
  have n3 := h.ne3
  have n4 := h.ne3.symm
  obtain ⟨mem, left, code, calls⟩ := m
  simp only [Mach.put] at *
  replace H := hide H; replace H2 := hide H2; replace T := hide T; replace T2 := hide T2; replace H3 := hide H3; replace T3 := hide T3
  clear h f1 f2
  by_cases hl : left = 0
  · subst hl
    clear cm H2 T2
    go_enter Try.func38, Try.ntmps38
    go_wp2
    go_ret
    exact ⟨rfl, H.out, T.out⟩
  · have hl' : (left == 0) = false := by simpa using hl
    by_cases hm : a.toNat < mem.length
    · have cm' := cm hm
      have hm2 : decide (u (UInt64.ofNat mem.length) ≤ u a) = false := by rw [geq_len _ _ hs]; simpa using hm
      clear cm H T
      simp only [if_neg hl, if_pos hm]
      go_enter Try.func38, Try.ntmps38
      go_wp2
      go_ret
      exact ⟨rfl, H3.out, T3.out⟩
    · have hm2 : decide (u (UInt64.ofNat mem.length) ≤ u a) = true := by rw [geq_len _ _ hs]; simpa using hm
      clear cm H T
      simp only [if_neg hl, if_neg hm]
      go_enter Try.func38, Try.ntmps38
      go_wp2
      go_ret
      exact ⟨rfl, H2.out, T2.out⟩

/-- What a call of the tx's answers, in values. -/
def TxB.Post (x : TxB) (w : World) (v : Value) (m' : Mach) (e : Ending) (w' : World) : Prop := e = .returned v ∧ x.At m' w' ∧ Tch x.L w w'

/-- (*tx).Get -/
theorem tget (x : TxB) (m : Mach) (w : World) (a : UInt64) (h : x.At m w) :
    Calls Try.prog 11 #[.pointer (some ⟨x.ta, 0, none⟩), U a] w (x.Post w (.tuple #[U (m.get a).1, .int .i64 (m.get a).2.1]) (m.get a).2.2) := by
  obtain ⟨_, _, _, _, _, _, c⟩ := h.c
  go_enter Try.func11, Try.ntmps11
  go_wp2_with (go_at_call 36; refine (wget x m _ a h).mono ?_; rintro e w' ⟨rfl, hA, hT⟩)
  go_ret2
  exact ⟨rfl, hA, hT⟩
/-- (*tx).Put -/
theorem tput (x : TxB) (m : Mach) (w : World) (a v : UInt64) (h : x.At m w) :
    Calls Try.prog 13 #[.pointer (some ⟨x.ta, 0, none⟩), U a, U v] w (x.Post w (.int .i64 (m.put a v).1) (m.put a v).2) := by
  obtain ⟨_, _, _, _, _, _, c⟩ := h.c
  go_enter Try.func13, Try.ntmps13
  go_wp2_with (go_at_call 38; refine (wput x m _ a v h).mono ?_; rintro e w' ⟨rfl, hA, hT⟩)
  go_ret
  exact ⟨rfl, hA, hT⟩

/-- The tx as a value of the interface. -/
abbrev TxB.val (x : TxB) : Value := .iface 25 (.pointer (some ⟨x.ta, 0, none⟩))
@[go_sem ↓] theorem method_get (a : Option Addr) (args : Array Value) (w : World) : (callMethod (.iface 25 (.pointer a)) "Get" args).run Try.prog w = .ok (.enter 11 (#[.pointer a] ++ args)) w := by kernel_rfl
@[go_sem ↓] theorem method_put (a : Option Addr) (args : Array Value) (w : World) : (callMethod (.iface 25 (.pointer a)) "Put" args).run Try.prog w = .ok (.enter 13 (#[.pointer a] ++ args)) w := by kernel_rfl
@[go_sem ↓] theorem meth_get (a : Option Addr) (w : World) : (method 209 25 (.pointer a) "Get").run Try.prog w = .ok (11, .pointer a) w := by kernel_rfl
@[go_sem ↓] theorem meth_put (a : Option Addr) (w : World) : (method 209 25 (.pointer a) "Put").run Try.prog w = .ok (13, .pointer a) w := by kernel_rfl
end Go.Proofs.Ytkfonlpglkfpgaa
