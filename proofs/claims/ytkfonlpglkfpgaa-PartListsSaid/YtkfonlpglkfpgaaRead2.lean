/- part.Read. -/
import Derived.Test.YtkfonlpglkfpgaaRead
import Derived.Test.YtkfonlpglkfpgaaEachP
import Derived.Test.YtkfonlpglkfpgaaEachM
import Derived.StillTailTactics
namespace Go.Proofs.Ytkfonlpglkfpgaa
set_option linter.unusedSimpArgs false
set_option linter.unusedVariables false
open Go.RowKit

@[go_sem ↓] theorem eq_fget (fn : Fn) (a b : Array Value) (w : World) : (binOp .eql 43 (.func fn a b) .nilFunc).run Try.prog w = .ok (.bool false) w := by kernel_rfl
@[go_sem ↓] theorem eq_fput (fn : Fn) (a b : Array Value) (w : World) : (binOp .eql 45 (.func fn a b) .nilFunc).run Try.prog w = .ok (.bool false) w := by kernel_rfl
@[go_sem ↓] theorem eq_fu (fn : Fn) (a b : Array Value) (w : World) : (binOp .eql 46 (.func fn a b) .nilFunc).run Try.prog w = .ok (.bool false) w := by kernel_rfl
theorem stepR_ok (x : TxB) (W0 : World) (lb pb : Nat) (hf : JLfix x W0 lb pb) : StepOk x pb (JL x W0 lb pb) List.length stepR 35 #[.pointer (some ⟨lb, 0, none⟩)] :=
  ⟨fun _ _ => by kernel_rfl, fun _ _ _ h => h.at_, fun _ _ _ _ _ h hA ht => h.tchTx hf hA ht, fun s m a b => by simp [stepR], fun s m w a b h hc _ => callR x W0 lb pb hf s m w a b h hc⟩
theorem stepN_ok (x : TxB) (W0 : World) (lb pb : Nat) (hf : JLfix x W0 lb pb) : StepOk x pb (JL x W0 lb pb) List.length stepN 51 #[.pointer (some ⟨lb, 0, none⟩)] :=
  ⟨fun _ _ => by kernel_rfl, fun _ _ _ h => h.at_, fun _ _ _ _ _ h hA ht => h.tchTx hf hA ht, fun s m a b => by simp [stepN], fun s m w a b h hc _ => callN x W0 lb pb hf s m w a b h hc⟩

set_option maxHeartbeats 1600000 in
theorem pread_any (x : TxB) (m : Mach) (w : World) (p : Prt) (h : x.At m w) :
    Calls Try.prog 10 #[p.val, .func (.func 11) #[.pointer (some ⟨x.ta, 0, none⟩)] #[]] w (SPost x w (pread m p)) := by
  obtain ⟨r, hr⟩ : ∃ r, r = pread m p := ⟨_, rfl⟩
  rw [← hr]
  unfold pread at hr
  replace hr := hide hr
  have hlt := h.lt
  have hf : JLfix x w (w.heap.size + 1) (w.heap.size + 2) := ⟨Nat.le_succ _, Nat.lt_succ_self _, h.lt⟩
  simp only [Prt.val]
  go_enter Try.func10, Try.ntmps10
  go_wp2_with fail
  have e2 : ((w.alloc (.cells #[.int .i64 p.kind, U p.first, U p.count] 35)).alloc (.cells #[.slice none 0 0] 22)).heap.size = w.heap.size + 2 := by simp
  have hJ : JL x w (w.heap.size + 1) (w.heap.size + 2) [] m (((w.alloc (.cells #[.int .i64 p.kind, U p.first, U p.count] 35)).alloc (.cells #[.slice none 0 0] 22)).alloc (.cells #[.int .i64 p.kind, U p.first, U p.count] 35)) := by
    refine ⟨((h.alloc _).alloc _).alloc _, (((Tch.refl _ _).alloc _).alloc _).alloc _, by simp, none, 0, ?_, Rw.nil _ _ _ _ _⟩
    have := (Blk.new (w.alloc (.cells #[.int .i64 p.kind, U p.first, U p.count] 35)) #[.slice none 0 0] 22).alloc (.cells #[.int .i64 p.kind, U p.first, U p.count] 35)
    simp only [World.size_alloc] at this
    exact this
  refine (each_ptr x (JL x w (w.heap.size + 1) (w.heap.size + 2)) List.length stepR 35 _ p [] m _ (by rw [e2]; exact stepR_ok x w _ _ hf) rfl hJ (by rw [e2]; omega)).mono ?_
  rintro e w1 ⟨rfl, hJ1⟩
  obtain ⟨bo, c, hb, hR⟩ := hJ1.l
  have hA1 := hide hJ1.at_; have hT1 := hide hJ1.tch
  have c0 := hb.cell 0
  simp at c0
  generalize hM : each stepR p [] m = rr at *
  clear hM hJ1 hJ e2
  cases hE : (rr.1 != 0)
  · go_wp2_with fail
    go_ret2
    have hq := hr.out
    simp only [hE, Bool.false_eq_true, if_false] at hq
    subst hq
    exact ⟨bo, c, rfl, hR.mono (by omega), hA1.out, hT1.out⟩
  · go_wp2_with fail
    go_ret2
    have hq := hr.out
    simp only [hE, if_true] at hq
    subst hq
    exact ⟨none, 0, rfl, Rw.nil _ _ _ _ _, hA1.out, hT1.out⟩

set_option maxHeartbeats 1600000 in
theorem pnodes_any (x : TxB) (m : Mach) (w : World) (p : Prt) (h : x.At m w) :
    Calls Try.prog 40 #[x.val, p.val] w (SPost x w (pnodes m p)) := by
  obtain ⟨r, hr⟩ : ∃ r, r = pnodes m p := ⟨_, rfl⟩
  rw [← hr]
  unfold pnodes at hr
  replace hr := hide hr
  have hlt := h.lt
  have hf : JLfix x w (w.heap.size + 1) (w.heap.size + 2) := ⟨Nat.le_succ _, Nat.lt_succ_self _, h.lt⟩
  simp only [Prt.val]
  go_enter Try.func40, Try.ntmps40
  go_wp2_with fail
  have b0 := (Blk.new w #[.int .i64 p.kind, U p.first, U p.count] 35).alloc (.cells #[.slice none 0 0] 22)
  have b1 := Blk.new (w.alloc (.cells #[.int .i64 p.kind, U p.first, U p.count] 35)) #[.slice none 0 0] 22
  have hA := (h.alloc (.cells #[.int .i64 p.kind, U p.first, U p.count] 35)).alloc (.cells #[.slice none 0 0] 22)
  have hT : Tch x.L w ((w.alloc (.cells #[.int .i64 p.kind, U p.first, U p.count] 35)).alloc (.cells #[.slice none 0 0] 22)) := ((Tch.refl _ _).alloc _).alloc _
  have e2 : ((w.alloc (.cells #[.int .i64 p.kind, U p.first, U p.count] 35)).alloc (.cells #[.slice none 0 0] 22)).heap.size = w.heap.size + 2 := by simp
  simp only [World.size_alloc] at b1
  generalize (w.alloc (.cells #[.int .i64 p.kind, U p.first, U p.count] 35)).alloc (.cells #[.slice none 0 0] 22) = W at *
  have ca0 := b0.cell 0; have ca1 := b0.cell 1; have ca2 := b0.cell 2
  simp at ca0 ca1 ca2
  replace b0 := hide b0; replace b1 := hide b1; replace e2 := hide e2
  go_still_tail 5, (by kernel_rfl)
  change wpList _ _ _ _ _ W.drew
  have b0 : Blk W.drew w.heap.size #[.int .i64 p.kind, U p.first, U p.count] 35 := b0.out
  have b1 : Blk W.drew (w.heap.size + 1) #[.slice none 0 0] 22 := b1.out
  have hA := hA.drew
  have hT := hT.drew
  have e2 : W.drew.heap.size = w.heap.size + 2 := e2.out
  generalize W.drew = W2 at *
  replace e2 := hide e2
  go_wp2_with fail
  have hJ : JL x w (w.heap.size + 1) (w.heap.size + 2) [] m (W2.alloc (.cells #[.int .i64 p.kind, U p.first, U p.count] 35)) :=
    ⟨hA.alloc _, hT.alloc _, by simp [e2.out], none, 0, b1.alloc _, Rw.nil _ _ _ _ _⟩
  refine (each_meth x (JL x w (w.heap.size + 1) (w.heap.size + 2)) List.length stepN 51 _ p [] m _ (by rw [e2.out]; exact stepN_ok x w _ _ hf) rfl hJ (by rw [e2.out]; omega)).mono ?_
  rintro e w1 ⟨rfl, hJ1⟩
  obtain ⟨bo, c, hb, hR⟩ := hJ1.l
  have hA1 := hide hJ1.at_; have hT1 := hide hJ1.tch
  have c0 := hb.cell 0
  simp at c0
  generalize hM : each stepN p [] m = rr at *
  clear hM hJ1 hJ e2
  go_wp2_with fail
  go_ret2
  have hq := hr.out
  subst hq
  exact ⟨bo, c, rfl, hR.mono (by omega), hA1.out, hT1.out⟩
end Go.Proofs.Ytkfonlpglkfpgaa
