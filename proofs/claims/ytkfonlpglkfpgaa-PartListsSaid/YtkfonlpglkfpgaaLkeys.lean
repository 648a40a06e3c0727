/- list: first, Keys. -/
import Derived.Test.YtkfonlpglkfpgaaLins
namespace Go.Proofs.Ytkfonlpglkfpgaa
open Go.RowKit
set_option linter.unusedSimpArgs false
set_option linter.unusedVariables false

def stepK (s : List UInt64) (k : UInt64) : Bool × List UInt64 := (true, s ++ [k])
theorem fscan_keys : ∀ (c : List (Nat × UInt64)) (s : List UInt64) (frm kk : UInt64) (k : Nat), (fscan stepK s frm kk k c).1.2.1 = 0 ∧ (fscan stepK s frm kk k c).2 = s ++ c.map (·.2)
  | [], s, frm, kk, k => by simp [fscan]
  | (i, q) :: r, s, frm, kk, k => by
    rw [fscan, if_pos (show (stepK s q).1 = true from rfl)]
    have := fscan_keys r (s ++ [q]) (A (21 + 2 * i)) q (k + 1)
    simp only [List.map_cons]
    refine ⟨this.1, ?_⟩
    show (fscan stepK (s ++ [q]) _ _ _ r).2 = _
    rw [this.2]; simp

theorem Tb.grown {own : List Nat} {B : Nat} {a w w' : World} {row : Option Nat} (h : Tb own B a w) (hg : w.grownBy w' row) (hr : ∀ k, row = some k → B ≤ k) (hB : B ≤ w.heap.size) : Tb own B a w' :=
  h.trans ⟨hg.os, hg.tape, hg.output, hg.size, fun k hk _ => hg.block k (by omega) (fun e => by have := hr k e.symm; omega)⟩

/-- What Keys' function keeps. -/
def JK (ob pb : Nat) (s : List UInt64) (w : World) : Prop := ∃ bo c, Blk w ob #[.slice bo s.length c] 22 ∧ Rw w (pb + 1) 23 1 encU bo c s

theorem lkeys1_ok (ob pb : Nat) (hb : ob < pb) : PassOk [ob] [ob] pb (JK ob pb) List.length stepK 49 #[.pointer (some ⟨ob, 0, none⟩)] := by
  refine ⟨fun args w => by kernel_rfl, ?_, fun s k => by simp [stepK], ?_⟩
  · rintro s w w' L ⟨bo, c, h1, h2⟩ hL ht
    exact ⟨bo, c, h1.tch ht (fun hm => (hL ob hm).1 (by simp)), h2.tch ht (fun b hb' => by have := (hL b hb').2; omega)⟩
  · rintro s w k ⟨bo, c, h1, hr⟩ hc hpb
    have c0 := h1.cell 0
    simp at c0
    have h1' := hide h1
    clear h1
    go_enter Try.func49, Try.ntmps49
    go_wp2_with (first | (at_builtin; refine wpList_append_e rfl (.tmp 4) (.tmp 6) 22 23 1 8 rfl elemU (pb + 1) encU encU_len encU_one bo c s rfl (hr.alloc _) ⟨_, 0, none⟩ 1 1 [k] rfl rfl (news_one _ _ _) (by unfold maxLen; simp only [List.length_cons, List.length_nil]; omega) (by simp only [List.length_cons, List.length_nil]; omega) (by simp only [World.size_alloc]; omega) ?_; intro bo' c' w2 hr2 hG; have hlb : some ob ≠ bo.map (·.block) := (fun e => (by have := hr.row _ e.symm; omega)); have b2 : Blk w2 ob #[.slice bo s.length c] 22 := (hG.block ob (by simp only [World.size_alloc]; omega) hlb).trans (h1'.out.alloc _); have c2 := b2.cell 0; have g2 := b2.free 0; simp at c2))
    go_ret
    refine ⟨rfl, ⟨bo', c', ?_, ?_⟩, ?_⟩
    · have := b2.set 0 (.slice bo' (s.length + 1) c')
      simpa [stepK] using this
    · refine hr2.setOther _ _ ?_
      intro a' ha
      have := hr2.block a' ha
      simp only; omega
    · exact (((Tb.refl [ob] (pb + 1) w).alloc _ (by omega)).grown hG hr.row (by simp only [World.size_alloc]; omega)).setCell _ (.inl (by simp))

set_option maxHeartbeats 1600000 in
theorem lfirst_ok {S : Type} (x : TxB) (m : Mach) (N b n : Nat) (f : Nat → UInt64) (w : World) (own mine : List Nat) (J : Nat → S → World → Prop) (cnt : S → Nat) (step : S → UInt64 → Bool × S) (fid : FuncId) (caps : Array Value) (s0 : S) (c : List (Nat × UInt64))
    (hA : x.At m w) (hI : Is N m (b + 2 * c.length + 3) f) (hN : N < 60000) (h22 : 22 ≤ N) (hcl : c.length ≤ 1000) (hP : ∀ pb, w.heap.size < pb → PassOk own mine pb (J pb) cnt step fid caps)
    (hJ : ∀ pb w', w.heap.size < pb → Tch x.L w w' → J pb s0 w') (hown : ∀ k ∈ own, k ∈ mine) (hmine : ∀ k ∈ mine, k < w.heap.size ∧ k ≠ x.ta ∧ k ≠ x.wb ∧ k ≠ x.mb)
    (hcnt : f 18 = A c.length) (hchn : Chn n f (f 19) c) (hrise : Rise c) (hn : 20 + 2 * n ≤ N) (h0 : cnt s0 = 0) (hnx : (fscan step s0 (A 19) 0 0 c).1.2.1 = 0) :
    Calls Try.prog 48 #[x.val, U (A 18), .func (.func fid) #[] caps] w fun e w' => e = .returned (.tuple #[U 0, .bool false, .int .i64 0]) ∧ (∃ m', x.At m' w' ∧ Is N m' b f) ∧ (∃ pb, w.heap.size < pb ∧ J pb (fscan step s0 (A 19) 0 0 c).2 w') ∧ Tch (own ++ x.L) w w' := by
  have g0 := hide (HG.new hA hI)
  have hlt := hA.lt
  have hkeep := hide fun pb h => (hP pb h).keep
  generalize hR : fscan step s0 (A 19) 0 0 c = R at *
  replace hP := hide hP; replace hJ := hide hJ; replace hown := hide hown; replace hmine := hide hmine; replace hcnt := hide hcnt; replace hchn := hide hchn; replace hrise := hide hrise; replace hR := hide hR; replace h0 := hide h0; replace hnx := hide hnx
  clear hI
  go_enter Try.func48, Try.ntmps48
  go_wp2_with fail
  refine (hfind_ok x w.heap.size N b n f _ own mine J cnt step fid caps s0 c g0.out hN h22 hcl (fun pb h => hP.out pb (by simp only [World.size_alloc] at h; omega)) ?_ hown.out ?_ hcnt.out hchn.out hrise.out hn h0.out).mono ?_
  · intro pb w' hpb ht
    exact hJ.out pb w' (by simp only [World.size_alloc] at hpb; omega) ((((Tch.refl (w.heap.size :: x.L) w).alloc _).trans ht).drop (Nat.le_refl _))
  · intro k hk
    have := hmine.out k hk
    simp only [World.size_alloc]; omega
  rintro e w1 ⟨rfl, hG, ⟨pb, hpb, hJ1⟩, hT⟩
  rw [hR.out] at hJ1 ⊢
  rw [hnx.out]
  simp only [World.size_alloc] at hpb
  have hT0 : Tch (own ++ x.L) w w1 := by
    have := ((Tch.refl (own ++ w.heap.size :: x.L) w).alloc (.cells #[x.val, .int .i64 0] 80)).trans hT
    refine ⟨this.os, this.tape, this.output, this.size, fun k hk hn' => this.block k hk (fun hm => ?_)⟩
    simp only [List.mem_append, List.mem_cons] at hm hn'
    rcases hm with h1 | h1 | h1
    · exact hn' (.inl h1)
    · omega
    · exact hn' (.inr h1)
  have hG' := hide (hG.alloc (.cells #[U R.1.1, U 0, U R.1.2.2.1, U (A R.1.2.2.2)] 83)); have hT' := hide hT0; have hJ' := hide hJ1
  have d1 := hG'.out.hB.cell 1
  simp at d1
  clear hG hT0 hT hJ1
  go_wp2_with fail
  go_quiet (fail)
  go_wp2_with fail
  go_ret3
  refine ⟨rfl, ?_, ⟨pb, by omega, ?_⟩, (hT'.out.alloc _).drewN _⟩
  · obtain ⟨m', a1, a2⟩ := hG'.out.m
    exact ⟨m', a1.drewN _, a2⟩
  · exact hkeep.out pb (by omega) _ _ _ [] hJ'.out (by simp) (((Tch.refl [] _).alloc _).drewN _)

/-- Keys in new memory; the room as it was. -/
def KPost (x : TxB) (N b : Nat) (f : Nat → UInt64) (n : Nat) (ks : List UInt64) (W : World) (e : Ending) (w' : World) : Prop :=
  ∃ bo cc, e = .returned (.tuple #[.slice bo n cc, .int .i64 0]) ∧ Rw w' W.heap.size 23 1 encU bo cc ks ∧ (∃ m', x.At m' w' ∧ Is N m' b f) ∧ Tch x.L W w'

set_option maxHeartbeats 1600000 in
theorem lkeys_ok (x : TxB) (m : Mach) (N n b : Nat) (f : Nat → UInt64) (c : List (Nat × UInt64)) (w : World) (hA : x.At m w) (hI : Is N m (b + 2 * c.length + 3) f) (hcnt : f 18 = A c.length) (hchn : Chn n f (f 19) c) (hrise : Rise c) (hn : 20 + 2 * n ≤ N) (hN : N < 60000) (h22 : 22 ≤ N) (hcl : c.length ≤ 1000) :
    Calls Try.prog 27 #[x.val, U (A 18)] w (KPost x N b f c.length (c.map (·.2)) w) := by
  have hk := fscan_keys c [] (A 19) 0 0
  have hlt := hA.lt
  have hA' := hide (hA.alloc (.cells #[.slice none 0 0] 22))
  have hb := hide (Blk.new w #[.slice none 0 0] 22)
  have hI' := hide hI; have hq1 := hide hcnt; have hq2 := hide hchn; have hq3 := hide hrise; have hk1 := hide hk.1; have hk2 := hide hk.2
  clear hI hcnt hchn hrise hk
  go_enter Try.func27, Try.ntmps27
  go_wp2_with fail
  refine (lfirst_ok x m N b n f _ [w.heap.size] [w.heap.size] (JK w.heap.size) List.length stepK 49 #[.pointer (some ⟨w.heap.size, 0, none⟩)] [] c hA'.out hI'.out hN h22 hcl (fun pb h => lkeys1_ok _ pb (by simp only [World.size_alloc] at h; omega)) ?_ (by simp) ?_ hq1.out hq2.out hq3.out hn rfl hk1.out).mono ?_
  · intro pb w' hpb ht
    exact ⟨none, 0, hb.out.tch ht (by simp only [List.mem_cons, List.not_mem_nil, or_false, not_or]; omega), Rw.nil _ _ _ _ _⟩
  · intro k hk'
    simp only [List.mem_cons, List.not_mem_nil, or_false] at hk'
    subst hk'
    simp only [World.size_alloc]; omega
  rintro e w1 ⟨rfl, hm, ⟨pb, hpb, bo, cc, hB, hR⟩, hT⟩
  rw [hk2.out, List.nil_append] at hB hR
  simp only [List.length_map] at hB
  simp only [World.size_alloc] at hpb
  have c0 := hB.cell 0
  simp at c0
  have hT0 : Tch x.L w w1 := (((Tch.refl ([w.heap.size] ++ x.L) w).alloc (.cells #[.slice none 0 0] 22)).trans hT).drop (Nat.le_refl _)
  replace hm := hide hm; replace hR := hide hR; replace hT0 := hide hT0
  clear hT hB
  go_wp2_with fail
  go_ret2
  exact ⟨bo, cc, rfl, hR.out.mono (by omega), hm.out, hT0.out⟩
end Go.Proofs.Ytkfonlpglkfpgaa
