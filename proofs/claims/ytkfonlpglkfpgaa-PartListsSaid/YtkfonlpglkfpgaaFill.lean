/- filled. -/
import Derived.Test.YtkfonlpglkfpgaaLaid2
namespace Go.Proofs.Ytkfonlpglkfpgaa
set_option linter.unusedSimpArgs false
set_option linter.unusedVariables false
open Go.RowKit

theorem cell_congr {w w' : World} {a : Addr} (h : w'.heap[a.block]? = w.heap[a.block]?) : w'.cell? a = w.cell? a := by
  simp [World.cell?, h]
theorem cell_lt {w : World} {a : Addr} {v : Value} (h : w.cell? a = some v) : a.block < w.heap.size := by
  rcases Nat.lt_or_ge a.block w.heap.size with h1 | h1
  · exact h1
  · simp [World.cell?, Array.getElem?_eq_none h1] at h
theorem Rd.tch {w w' : World} {v : Value} {xs : List UInt64} (h : Rd w v xs) (ht : Tch [] w w') : Rd w' v xs := by
  obtain ⟨bo, c, hv, hm, hc⟩ := h
  refine ⟨bo, c, hv, hm, fun i hi => ?_⟩
  obtain ⟨a, ha, hcell⟩ := hc i hi
  exact ⟨a, ha, (cell_congr (ht.block _ (cell_lt hcell) (by simp))).trans hcell⟩
theorem Tch.new {L : List Nat} {a w w' : World} (h : Tch [] a w) (k : Tch L w w') (hL : ∀ b ∈ L, a.heap.size ≤ b) : Tch [] a w' :=
  ⟨k.os.trans h.os, k.tape.trans h.tape, k.output.trans h.output, Nat.le_trans h.size k.size, fun i hi _ => (k.block i (Nat.lt_of_lt_of_le hi h.size) (fun hm => by have := hL i hm; omega)).trans (h.block i hi (by simp))⟩

def fillL (q : UInt64) : List UInt64 → Bool → Mach → Bool × Mach
  | [], ok, m => (ok, m)
  | w :: r, ok, m => fillL q r ((qput m 0 q w).1 == 0 && ok) (qput m 0 q w).2
def mfilled (ws : List UInt64) : Mach × UInt64 × Bool :=
  let n := qnew (mlaid 1000) 0
  let l := fillL n.1 ws (n.2.1 == 0) n.2.2
  (l.2, n.1, l.1)

set_option maxHeartbeats 1600000 in
theorem filled_any (w : World) (v : Value) (ws : List UInt64) (h : Rd w v ws) :
    Calls Try.prog 6 #[v] w fun e w' => ∃ x : TxB, e = .returned (.tuple #[.pointer (some ⟨x.ta, 0, none⟩), U (mfilled ws).2.1, .bool (mfilled ws).2.2]) ∧ x.At (mfilled ws).1 w' ∧ (w.heap.size ≤ x.ta ∧ w.heap.size ≤ x.wb ∧ w.heap.size ≤ x.mb) ∧ Tch [] w w' := by
  obtain ⟨r, hr⟩ : ∃ r, r = mfilled ws := ⟨_, rfl⟩
  rw [← hr]
  unfold mfilled at hr
  replace hr := hide hr
  have hh := hide h
  obtain ⟨bo, c, rfl, hm, _⟩ := h
  go_enter Try.func6, Try.ntmps6
  go_wp2_with fail
  refine (laid_any 1000 (by omega) w).mono ?_
  rintro e w1 ⟨x, rfl, hA1, hx, hT1⟩
  have hL : ∀ b ∈ x.L, w.heap.size ≤ b := by
    intro b hb
    simp only [List.mem_cons, List.not_mem_nil, or_false] at hb
    rcases hb with rfl | rfl <;> omega
  replace hL := hide hL; replace hx := hide hx
  go_wp2_with fail
  refine (qnew_any x _ _ 0 hA1).mono ?_
  rintro e w2 ⟨rfl, hA2, hT2⟩
  have hT := hT1.new hT2 hL.out
  clear hT1 hT2 hA1
  have hr' := hr.out
  clear hr
  generalize qnew (mlaid 1000) 0 = nq at *
  replace hr' := hide hr'
  go_wp2_with fail
  refine (num_any _ .i64 _).mono ?_
  rintro e w3 ⟨rfl, rfl⟩
  go_wp2_with fail
  go_loopw [8, 9] (fun ok i wr => ∃ (done rest : List UInt64) (ok' : Bool) (mm : Mach), ok = .bool ok' ∧ i = .int .i64 done.length ∧ Hid (ws = done ++ rest) ∧ x.At mm wr ∧ Tch [] w wr ∧ Hid (fillL nq.1 rest ok' mm = (r.2.2, r.1))) (fun _ i _ => ws.length - (intOf i).toNat)
  case atStart => exact ⟨[], ws, _, _, rfl, rfl, rfl, hA2, hT, by have := hr'.out; rw [this]; rfl⟩
  case round =>
    clear hA2 hT
    obtain ⟨done, rest, ok', mm, rfl, rfl, hws, hA, hT, hq⟩ := hrel
    have hws' := hws.out
    cases rest with
    | nil =>
      have hl : ((done.length : Int) < (ws.length : Int)) = False := by rw [hws']; simp
      have hq' := hq.out
      rw [fillL] at hq'
      replace hq' := hide hq'
      clear hws' hq
      go_wp2_with fail
      go_ret3
      have hq := hq'.out
      simp only [Prod.mk.injEq] at hq
      have hr := hr'.out
      refine ⟨x, ?_, hq.2 ▸ hA, hx.out, hT⟩
      have h1 : r.2.1 = nq.1 := by rw [hr]
      rw [← hq.1, h1]; rfl
    | cons y rest =>
      have hlt : done.length < ws.length := by rw [hws']; simp
      obtain ⟨a, ha, hc⟩ := (hh.out.tch hT) |> fun h => (by
        obtain ⟨bo', c', hv, _, hcc⟩ := h
        obtain ⟨a, ha, hc⟩ := hcc done.length hlt
        simp only [Value.slice.injEq] at hv
        exact ⟨a, hv.1.trans ha, hc⟩ : ∃ a : Addr, bo = some a ∧ wr.cell? (a.add done.length) = some (U ws[done.length]))
      have hy : ws[done.length] = y := by simp [hws']
      rw [hy] at hc
      subst ha
      have hq' := hq.out
      rw [fillL] at hq'
      replace hq' := hide hq'
      clear hws' hq hy
      go_wp2_with fail
      refine (qput_any x _ _ _ _ _ hA).mono ?_
      rintro e w4 ⟨rfl, hA4, hT4⟩
      go_wp2_with fail
      refine (num_any _ .i64 _).mono ?_
      rintro e w5 ⟨rfl, rfl⟩
      have hT5 := hT.new hT4 hL.out
      clear hT hT4 hA
      cases hE : ((qput mm 0 nq.1 y).1 == 0)
      · go_wp2_with fail
        go_roundw
        case rel => exact ⟨done ++ [y], rest, false, _, rfl, by simp, by show _ = _; rw [hws.out]; simp, hA4, hT5, by have := hq'.out; rw [hE] at this; exact this⟩
        case measure => simp [intOf]; omega
      · go_wp2_with fail
        go_roundw
        case rel => exact ⟨done ++ [y], rest, ok', _, rfl, by simp, by show _ = _; rw [hws.out]; simp, hA4, hT5, by have := hq'.out; rw [hE] at this; show _ = _; simpa using this⟩
        case measure => simp [intOf]; omega
end Go.Proofs.Ytkfonlpglkfpgaa
