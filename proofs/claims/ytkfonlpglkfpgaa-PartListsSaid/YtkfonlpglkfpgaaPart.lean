/- part: cut, Queue. -/
import Derived.Test.YtkfonlpglkfpgaaWords
namespace Go.Proofs.Ytkfonlpglkfpgaa
set_option linter.unusedSimpArgs false
set_option linter.unusedVariables false
open Go.RowKit

/-- A block of cells. -/
def Blk (w : World) (b : Nat) (cs : Array Value) (T : TypeId) : Prop := w.heap[b]? = some (.cells cs T (0, 0))
theorem Blk.lt {w : World} {b : Nat} {cs : Array Value} {T : TypeId} (h : Blk w b cs T) : b < w.heap.size := lt_of_block h
theorem Blk.tch {w w' : World} {b : Nat} {cs : Array Value} {T : TypeId} {L : List Nat} (h : Blk w b cs T) (ht : Tch L w w') (hn : b ∉ L) : Blk w' b cs T := (ht.block b h.lt hn).trans h
theorem Blk.cell {w : World} {b : Nat} {cs : Array Value} {T : TypeId} (h : Blk w b cs T) (i : Nat) : w.cell? ⟨b, i, none⟩ = cs[i]? := by
  have h' : w.heap[b]? = some (.cells cs T (0, 0)) := h
  simp [World.cell?, h']
theorem Blk.free {w : World} {b : Nat} {cs : Array Value} {T : TypeId} (h : Blk w b cs T) (i : Nat) : w.frozen? ⟨b, i, none⟩ = false := by
  have h' : w.heap[b]? = some (.cells cs T (0, 0)) := h
  simp [World.frozen?, h']
theorem Blk.set {w : World} {b : Nat} {cs : Array Value} {T : TypeId} (h : Blk w b cs T) (i : Nat) (v : Value) : Blk (w.setCell ⟨b, i, none⟩ v) b (cs.setIfInBounds i v) T := heap_setCell_at h v
theorem Blk.setOther {w : World} {b : Nat} {cs : Array Value} {T : TypeId} (h : Blk w b cs T) (p : Addr) (v : Value) (hp : p.block ≠ b) : Blk (w.setCell p v) b cs T := (Below.heap_setCell _ _ _ _ hp.symm).trans h
theorem Blk.alloc {w : World} {b : Nat} {cs : Array Value} {T : TypeId} (h : Blk w b cs T) (o : Obj) : Blk (w.alloc o) b cs T := (Below.heap_alloc _ _ _ h.lt).trans h
theorem Blk.new (w : World) (cs : Array Value) (T : TypeId) : Blk (w.alloc (.cells cs T)) w.heap.size cs T := heap_alloc_new w _

theorem TxB.At.setOther {x : TxB} {m : Mach} {w : World} (h : x.At m w) {p : Addr} (hp : p.block ≠ x.ta ∧ p.block ≠ x.wb ∧ p.block ≠ x.mb) (v : Value) : x.At m (w.setCell p v) :=
  h.same (Below.heap_setCell _ _ _ _ hp.1.symm) (Below.heap_setCell _ _ _ _ hp.2.1.symm) (Below.heap_setCell _ _ _ _ hp.2.2.symm)

/-- A part as a value. -/
def Prt.val (p : Prt) : Value := .agg #[.int .i64 p.kind, U p.first, U p.count]

set_option maxHeartbeats 3200000 in
theorem cut_any (x : TxB) (m : Mach) (w : World) (kind : Int) (first count : UInt64) (ns : List UInt64) (sb : Nat) (h : x.At m w)
    (hs : Blk w sb (ns.map U).toArray 23) (hx : sb ≠ x.wb ∧ sb ≠ x.mb) (hn : ns.length < 100) :
    Calls Try.prog 30 #[x.val, .int .i64 kind, U first, U count, .slice (some ⟨sb, 0, none⟩) ns.length ns.length] w
      (x.Post w (.tuple #[(cut m kind first count ns).1.val, .int .i64 (cut m kind first count ns).2.1]) (cut m kind first count ns).2.2) := by
  obtain ⟨r, hr⟩ : ∃ r, r = cut m kind first count ns := ⟨_, rfl⟩
  rw [← hr]
  unfold cut at hr
  replace hr := hide hr
  go_enter Try.func30, Try.ntmps30
  have hlt := h.lt
  have b0 := (Blk.new w #[.int .i64 0, U 0, U 0] 35).alloc (.cells #[.int .i64 kind, U 0, U 0] 35)
  have b1 := Blk.new (w.alloc (.cells #[.int .i64 0, U 0, U 0] 35)) #[.int .i64 kind, U 0, U 0] 35
  simp only [World.size_alloc] at b1
  have hs0 := (hs.alloc (.cells #[.int .i64 0, U 0, U 0] 35)).alloc (.cells #[.int .i64 kind, U 0, U 0] 35)
  have hA0 := (h.alloc (.cells #[.int .i64 0, U 0, U 0] 35)).alloc (.cells #[.int .i64 kind, U 0, U 0] 35)
  have T0 : Tch x.L w ((w.alloc (.cells #[.int .i64 0, U 0, U 0] 35)).alloc (.cells #[.int .i64 kind, U 0, U 0] 35)) := ((Tch.refl _ _).alloc _).alloc _
  have n0 : w.heap.size ∉ x.L := by simp only [List.mem_cons, List.not_mem_nil, or_false, not_or]; omega
  have n1 : w.heap.size + 1 ∉ x.L := by simp only [List.mem_cons, List.not_mem_nil, or_false, not_or]; omega
  have hsl := hs.lt
  replace n0 := hide n0; replace n1 := hide n1; replace T0 := hide T0; replace hA0 := hide hA0; replace hs0 := hide hs0; replace b0 := hide b0; replace b1 := hide b1; replace hx := hide hx; replace hs := hide hs
  go_wp2_with fail
  refine (tget x m _ _ hA0.out).mono ?_
  rintro e w1 ⟨rfl, hA1, hT1⟩
  have b01 := b0.out.tch hT1 n0.out
  have b11 := b1.out.tch hT1 n1.out
  have hs1 := hs0.out.tch hT1 (by have := hx.out; simp; exact this)
  have T1 := hide (T0.out.trans hT1)
  have ca0 := b01.cell 0; have ca1 := b01.cell 1; have ca2 := b01.cell 2; have fa0 := b01.free 0; have fa1 := b01.free 1; have fa2 := b01.free 2; simp at ca0 ca1 ca2
  have cb0 := b11.cell 0; have cb1 := b11.cell 1; have cb2 := b11.cell 2; have fb0 := b11.free 0; have fb1 := b11.free 1; have fb2 := b11.free 2; simp at cb0 cb1 cb2
  have hn0 : w.heap.size ≠ x.ta ∧ w.heap.size ≠ x.wb ∧ w.heap.size ≠ x.mb := by omega
  have hn1 : w.heap.size + 1 ≠ x.ta ∧ w.heap.size + 1 ≠ x.wb ∧ w.heap.size + 1 ≠ x.mb := by omega
  clear hT1
  replace hn0 := hide hn0; replace hn1 := hide hn1
  have hsb0 : sb ≠ w.heap.size := by omega
  have hsb1 : sb ≠ w.heap.size + 1 := by omega
  replace hsb0 := hide hsb0; replace hsb1 := hide hsb1
  cases hE : ((m.get first).2.1 != 0)
  · simp only [hE, Bool.false_eq_true, if_false] at hr
    go_wp2_with fail
    have b02 := hide (b01.setOther ⟨w.heap.size + 1, 1, none⟩ (U (m.get first).1) (by simp))
    have b12 := hide (b11.set 1 (U (m.get first).1))
    have hs2 := hide (hs1.setOther ⟨w.heap.size + 1, 1, none⟩ (U (m.get first).1) (Ne.symm hsb1.out))
    have T2 := hide (T1.out.setNew (p := ⟨w.heap.size + 1, 1, none⟩) (by simp) (U (m.get first).1))
    refine (tget x _ _ _ (hA1.setOther hn1.out _)).mono ?_
    rintro e w2 ⟨rfl, hA2, hT2⟩
    clear ca0 ca1 ca2 fa0 fa1 fa2 cb0 cb1 cb2 fb0 fb1 fb2
    have b03 := b02.out.tch hT2 n0.out
    have b13 := b12.out.tch hT2 n1.out
    have hs3 := hs2.out.tch hT2 (by have := hx.out; simp; exact this)
    have T3 := hide (T2.out.trans hT2)
    have ca0 := b03.cell 0; have ca1 := b03.cell 1; have ca2 := b03.cell 2; have fa0 := b03.free 0; have fa1 := b03.free 1; have fa2 := b03.free 2; simp at ca0 ca1 ca2
    have cb0 := b13.cell 0; have cb1 := b13.cell 1; have cb2 := b13.cell 2; have fb0 := b13.free 0; have fb1 := b13.free 1; have fb2 := b13.free 2; simp at cb0 cb1 cb2
    clear hT2
    cases hE2 : (((m.get first).2.2.get count).2.1 != 0)
    · simp only [hE2, Bool.false_eq_true, if_false] at hr
      go_wp2_with fail
      have b04 := hide (b03.setOther ⟨w.heap.size + 1, 2, none⟩ (U ((m.get first).2.2.get count).1) (by simp))
      have b14 := hide (b13.set 2 (U ((m.get first).2.2.get count).1))
      have hs4 := hide (hs3.setOther ⟨w.heap.size + 1, 2, none⟩ (U ((m.get first).2.2.get count).1) (Ne.symm hsb1.out))
      have T4 := hide (T3.out.setNew (p := ⟨w.heap.size + 1, 2, none⟩) (by simp) (U ((m.get first).2.2.get count).1))
      have hA3 := hide (hA2.setOther (p := ⟨w.heap.size + 1, 2, none⟩) hn1.out (U ((m.get first).2.2.get count).1))
      clear ca0 ca1 ca2 fa0 fa1 fa2 cb0 cb1 cb2 fb0 fb1 fb2
      go_loopw [43] (fun i wr => ∃ (done rest : List UInt64) (mm : Mach), i = .int .i64 done.length ∧ Hid (ns = done ++ rest) ∧ x.At mm wr ∧ Hid (Blk wr w.heap.size #[.int .i64 0, U 0, U 0] 35) ∧ Hid (Blk wr (w.heap.size + 1) #[.int .i64 kind, U (m.get first).1, U ((m.get first).2.2.get count).1] 35) ∧ Hid (Blk wr sb (ns.map U).toArray 23) ∧ Hid (Tch x.L w wr) ∧ Hid (cutL rest mm = cutL ns ((m.get first).2.2.get count).2.2)) (fun i _ => ns.length - (intOf i).toNat)
      case atStart => exact ⟨[], ns, _, rfl, rfl, hA3.out, b04.out, b14.out, hs4.out, T4.out, rfl⟩
      case round =>
        clear b04 b14 hs4 T4 hA3 b03 b13 hs3 T3 b02 b12 hs2 T2 b01 b11 hs1 T1
        obtain ⟨done, rest, mm, rfl, hns, hA, b0', b1', hs', T', hg⟩ := hrel
        cases rest with
        | nil =>
          have hl : ((done.length : Int) < (ns.length : Int)) = False := by have := hns.out; rw [this]; simp
          have hg1 := hg.out
          rw [cutL_nil] at hg1
          have b05 := b0'.out
          have b15 := b1'.out
          have ca0 := b05.cell 0; have ca1 := b05.cell 1; have ca2 := b05.cell 2; have fa0 := b05.free 0; have fa1 := b05.free 1; have fa2 := b05.free 2; simp at ca0 ca1 ca2
          have cb0 := b15.cell 0; have cb1 := b15.cell 1; have cb2 := b15.cell 2; have fb0 := b15.free 0; have fb1 := b15.free 1; have fb2 := b15.free 2; simp at cb0 cb1 cb2
          replace hg1 := hide hg1
          clear hg hns b05 b15
          go_wp2_with fail
          refine bodyPost_ret (v := .tuple #[Prt.val ⟨kind, (m.get first).1, ((m.get first).2.2.get count).1⟩, .int .i64 0]) (by simp [results, Try.results30, go_sem, ca0, ca1, ca2, fa0, fa1, fa2]; rfl) rfl ?_
          have hq := hr.out
          rw [← hg1.out] at hq
          simp only [bne_self_eq_false, Bool.false_eq_true, if_false] at hq
          subst hq
          refine ⟨rfl, ?_, ?_⟩
          · repeat (first | exact hA | (refine TxB.At.setOther ?_ (by first | exact hn0.out | exact hn1.out) _))
          · repeat (first | exact T'.out | (refine Tch.setNew ?_ (by simp) _))
        | cons a rest =>
          have hlen : done.length < ns.length := by have := hns.out; rw [this]; simp
          have hcell : wr.cell? ⟨sb, done.length, none⟩ = some (U a) := by
            have := hs'.out.cell done.length
            rw [this, hns.out]; simp
          have hg1 := hg.out
          rw [cutL_cons] at hg1
          replace hg1 := hide hg1
          clear hg
          go_wp2_with fail
          refine (tput x _ _ _ _ hA).mono ?_
          rintro e w3 ⟨rfl, hA4, hT4⟩
          have b05 := b0'.out.tch hT4 n0.out
          have b15 := b1'.out.tch hT4 n1.out
          have hs5 := hide (hs'.out.tch hT4 (by have := hx.out; simp; exact this))
          have T5 := hide (T'.out.trans hT4)
          have ca0 := b05.cell 0; have ca1 := b05.cell 1; have ca2 := b05.cell 2; have fa0 := b05.free 0; have fa1 := b05.free 1; have fa2 := b05.free 2; simp at ca0 ca1 ca2
          have cb0 := b15.cell 0; have cb1 := b15.cell 1; have cb2 := b15.cell 2; have fb0 := b15.free 0; have fb1 := b15.free 1; have fb2 := b15.free 2; simp at cb0 cb1 cb2
          replace b05 := hide b05; replace b15 := hide b15
          clear hT4 b0' b1' hs' T'
          cases hP : ((mm.put a 0).1 != 0)
          · go_wp2_with fail
            go_roundw
            case rel =>
              refine ⟨done ++ [a], rest, _, by simp, ?_, hA4, b05.out, b15.out, hs5.out, T5.out, ?_⟩
              · show _ = _; rw [hns.out]; simp
              · have := hg1.out; simp only [hP, Bool.false_eq_true, if_false] at this; exact this
            case measure => simp [intOf]; omega
          · go_wp2_with fail
            refine bodyPost_ret (v := .tuple #[Prt.val ⟨0, 0, 0⟩, .int .i64 (mm.put a 0).1]) (by simp [results, Try.results30, go_sem, ca0, ca1, ca2, fa0, fa1, fa2]; rfl) rfl ?_
            have hq := hr.out
            have hg2 := hg1.out
            simp only [hP, if_true] at hg2
            rw [← hg2] at hq
            simp only [hP, if_true] at hq
            subst hq
            refine ⟨rfl, ?_, ?_⟩
            · repeat (first | exact hA4 | (refine TxB.At.setOther ?_ (by first | exact hn0.out | exact hn1.out) _))
            · repeat (first | exact T5.out | (refine Tch.setNew ?_ (by simp) _))
    · go_wp2_with fail
      refine bodyPost_ret (v := .tuple #[Prt.val ⟨0, 0, 0⟩, .int .i64 ((m.get first).2.2.get count).2.1]) (by simp [results, Try.results30, go_sem, ca0, ca1, ca2, fa0, fa1, fa2]; rfl) rfl ?_
      have hq := hr.out
      simp only [hE, hE2, if_true, Bool.false_eq_true, if_false] at hq
      subst hq
      refine ⟨rfl, ?_, ?_⟩
      · repeat (first | exact hA2 | (refine TxB.At.setOther ?_ (by first | exact hn0.out | exact hn1.out) _))
      · repeat (first | exact T3.out | (refine Tch.setNew ?_ (by simp) _))
  · go_wp2_with fail
    refine bodyPost_ret (v := .tuple #[Prt.val ⟨0, 0, 0⟩, .int .i64 (m.get first).2.1]) (by simp [results, Try.results30, go_sem, ca0, ca1, ca2, fa0, fa1, fa2]; rfl) rfl ?_
    have hq := hr.out
    simp only [hE, if_true] at hq
    subst hq
    refine ⟨rfl, ?_, ?_⟩
    · repeat (first | exact hA1 | (refine TxB.At.setOther ?_ (by first | exact hn0.out | exact hn1.out) _))
    · repeat (first | exact T1.out | (refine Tch.setNew ?_ (by simp) _))
end Go.Proofs.Ytkfonlpglkfpgaa
