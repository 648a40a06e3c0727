/- part.Turn. -/
import Derived.Test.YtkfonlpglkfpgaaRead2
import Derived.Laws.EntriesVeiled
namespace Go.Proofs.Ytkfonlpglkfpgaa
set_option linter.unusedSimpArgs false
set_option linter.unusedVariables false
open Go.RowKit

/-- A function on words, that is handed in. -/
structure FunOk (x : TxB) (F : World → Prop) (g : UInt64 → UInt64) (ffid : FuncId) (fcaps : Array Value) : Prop where
  enter : ∀ (args : Array Value) (w : World), (callFunc ffid args).run Try.prog w = .ok (.enter ffid args) w
  tch : ∀ w w', F w → Tch x.L w w' → F w'
  call : ∀ w b, F w → Calls Try.prog ffid (#[U b] ++ fcaps) w fun e w' => e = .returned (U (g b)) ∧ w' = w

structure JT (x : TxB) (W0 : World) (lb fb pb : Nat) (lv fv : Value) (F : World → Prop) (s : Nat) (m : Mach) (w : World) : Prop where
  at_ : x.At m w
  tch : Tch x.L W0 w
  size : pb < w.heap.size
  l : Blk w lb #[lv] 72
  f : Blk w fb #[fv] 46
  ok : F w

theorem callT (x : TxB) (W0 : World) (lb fb pb : Nat) (F : World → Prop) (g : UInt64 → UInt64) (ffid : FuncId) (fcaps : Array Value) (hF : FunOk x F g ffid fcaps)
    (h1 : lb ∉ x.L) (h2 : fb ∉ x.L) (h3 : pb ∉ x.L) (s : Nat) (m : Mach) (w : World) (a b : UInt64)
    (h : JT x W0 lb fb pb (.func (.func 13) #[.pointer (some ⟨x.ta, 0, none⟩)] #[]) (.func (.func ffid) #[] fcaps) F s m w) :
    Calls Try.prog 37 (#[U a, U b] ++ #[.pointer (some ⟨lb, 0, none⟩), .pointer (some ⟨fb, 0, none⟩)]) w fun e w' =>
      e = .returned (.int .i64 (m.put a (g b)).1) ∧ JT x W0 lb fb pb (.func (.func 13) #[.pointer (some ⟨x.ta, 0, none⟩)] #[]) (.func (.func ffid) #[] fcaps) F (s + 1) (m.put a (g b)).2 w' ∧ w'.heap[pb]? = w.heap[pb]? := by
  have c0 := h.l.cell 0
  have c1 := h.f.cell 0
  simp at c0 c1
  have hen := hF.enter
  have h' := hide h
  have hA := h.at_.drew
  have hFd : F w.drew := hF.tch _ _ h.ok ((Tch.refl _ _).drew)
  clear h
  go_enter Try.func37, Try.ntmps37
  go_wp2_with fail
  refine wp_region_still_tail 5 (by kernel_rfl) (by kernel_rfl) ?_
  simp only [List.take_succ_cons, List.take_zero, List.drop_succ_cons, List.drop_zero]
  repeat still_step
  still_call (hF.call w.drew b hFd)
  refine wpStill_nil ?_
  change wpList _ _ _ _ _ w.drew
  go_wp2_with fail
  refine (tput x m _ a (g b) hA).mono ?_
  rintro e w1 ⟨rfl, hA1, hT1⟩
  have hh := h'.out
  have hl := (show Blk w.drew lb _ _ from hh.l).tch hT1 h1
  have hf := (show Blk w.drew fb _ _ from hh.f).tch hT1 h2
  go_wp2_with fail
  go_ret
  refine ⟨rfl, ⟨hA1, hh.tch.drew.trans hT1, Nat.lt_of_lt_of_le hh.size hT1.size, hl, hf, hF.tch _ _ hFd hT1⟩, hT1.block pb hh.size h3⟩

theorem stepT_ok (x : TxB) (W0 : World) (lb fb pb : Nat) (F : World → Prop) (g : UInt64 → UInt64) (ffid : FuncId) (fcaps : Array Value) (hF : FunOk x F g ffid fcaps)
    (h1 : lb ∉ x.L) (h2 : fb ∉ x.L) (h3 : pb ∉ x.L) :
    StepOk x pb (JT x W0 lb fb pb (.func (.func 13) #[.pointer (some ⟨x.ta, 0, none⟩)] #[]) (.func (.func ffid) #[] fcaps) F) id (stepT g) 37 #[.pointer (some ⟨lb, 0, none⟩), .pointer (some ⟨fb, 0, none⟩)] :=
  ⟨fun _ _ => by kernel_rfl, fun _ _ _ h => h.at_, fun _ _ _ _ _ h hA ht => ⟨hA, h.tch.trans ht, Nat.lt_of_lt_of_le h.size ht.size, h.l.tch ht h1, h.f.tch ht h2, hF.tch _ _ h.ok ht⟩, fun _ _ _ _ => rfl,
    fun s m w a b h _ _ => callT x W0 lb fb pb F g ffid fcaps hF h1 h2 h3 s m w a b h⟩

set_option maxHeartbeats 1600000 in
theorem pturn_any (x : TxB) (F : World → Prop) (g : UInt64 → UInt64) (ffid : FuncId) (fcaps : Array Value) (hF : FunOk x F g ffid fcaps) (m : Mach) (w : World) (p : Prt) (h : x.At m w) (hw : F w) :
    Calls Try.prog 12 #[p.val, .func (.func 11) #[.pointer (some ⟨x.ta, 0, none⟩)] #[], .func (.func 13) #[.pointer (some ⟨x.ta, 0, none⟩)] #[], .func (.func ffid) #[] fcaps] w
      (x.Post w (.int .i64 (pturn g m p).1) (pturn g m p).2) := by
  obtain ⟨r, hr⟩ : ∃ r, r = pturn g m p := ⟨_, rfl⟩
  rw [← hr]
  unfold pturn at hr
  replace hr := hide hr
  have hlt := h.lt
  simp only [Prt.val]
  have b0 := ((Blk.new w #[.int .i64 p.kind, U p.first, U p.count] 35).alloc (.cells #[.func (.func ffid) #[] fcaps] 46))
  have ca0 := b0.cell 0; have ca1 := b0.cell 1; have ca2 := b0.cell 2; have fa0 := b0.free 0; have fa1 := b0.free 1; have fa2 := b0.free 2; simp at ca0 ca1 ca2
  have b1 := Blk.new (w.alloc (.cells #[.int .i64 p.kind, U p.first, U p.count] 35)) #[.func (.func ffid) #[] fcaps] 46
  simp only [World.size_alloc] at b1
  have c1 := b1.cell 0
  simp at c1
  go_enter Try.func12, Try.ntmps12
  go_wp2_with fail
  have e2 : (((w.alloc (.cells #[.int .i64 p.kind, U p.first, U p.count] 35)).alloc (.cells #[.func (.func ffid) #[] fcaps] 46)).alloc (.cells #[.func (.func 13) #[.pointer (some ⟨x.ta, 0, none⟩)] #[]] 72)).heap.size = w.heap.size + 3 := by simp
  have n1 : w.heap.size + 1 ∉ x.L := by simp; omega
  have n2 : w.heap.size + 2 ∉ x.L := by simp; omega
  have n3 : w.heap.size + 3 ∉ x.L := by simp; omega
  have hJ : JT x w (w.heap.size + 2) (w.heap.size + 1) (w.heap.size + 3) (.func (.func 13) #[.pointer (some ⟨x.ta, 0, none⟩)] #[]) (.func (.func ffid) #[] fcaps) F 0 m ((((w.alloc (.cells #[.int .i64 p.kind, U p.first, U p.count] 35)).alloc (.cells #[.func (.func ffid) #[] fcaps] 46)).alloc (.cells #[.func (.func 13) #[.pointer (some ⟨x.ta, 0, none⟩)] #[]] 72)).alloc (.cells #[.int .i64 p.kind, U p.first, U p.count] 35)) := by
    refine ⟨(((h.alloc _).alloc _).alloc _).alloc _, ((((Tch.refl _ _).alloc _).alloc _).alloc _).alloc _, by simp, ?_, (b1.alloc _).alloc _, hF.tch _ _ hw (((((Tch.refl _ _).alloc _).alloc _).alloc _).alloc _)⟩
    have := (Blk.new ((w.alloc (.cells #[.int .i64 p.kind, U p.first, U p.count] 35)).alloc (.cells #[.func (.func ffid) #[] fcaps] 46)) #[.func (.func 13) #[.pointer (some ⟨x.ta, 0, none⟩)] #[]] 72).alloc (.cells #[.int .i64 p.kind, U p.first, U p.count] 35)
    simp only [World.size_alloc] at this
    exact this
  refine (each_ptr x _ id (stepT g) 37 _ p 0 m _ (by rw [e2]; exact stepT_ok x w (w.heap.size + 2) (w.heap.size + 1) (w.heap.size + 3) F g ffid fcaps hF n2 n1 n3) rfl hJ (by rw [e2]; omega)).mono ?_
  rintro e w1 ⟨rfl, hJ1⟩
  have hA1 := hide hJ1.at_; have hT1 := hide hJ1.tch
  generalize hM : each (stepT g) p 0 m = rr at *
  clear hM hJ1 hJ e2
  go_wp2_with fail
  go_ret
  have hq := hr.out
  subst hq
  exact ⟨rfl, hA1.out, hT1.out⟩
end Go.Proofs.Ytkfonlpglkfpgaa
