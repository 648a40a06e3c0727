/- list.find: the search over a chain that is in order. -/
import Derived.Test.YtkfonlpglkfpgaaLh
import Derived.Test.YtkfonlpglkfpgaaLm0
namespace Go.Proofs.Ytkfonlpglkfpgaa
open Go.RowKit
set_option linter.unusedSimpArgs false
set_option linter.unusedVariables false

/-- The cells below B that are not in own stand. -/
structure Tb (own : List Nat) (B : Nat) (w w' : World) : Prop where
  os : w'.os = w.os
  tape : w'.tape = w.tape
  output : w'.output = w.output
  size : w.heap.size ≤ w'.heap.size
  block : ∀ k, k < B → k ∉ own → w'.heap[k]? = w.heap[k]?
theorem Tb.refl (own : List Nat) (B : Nat) (w : World) : Tb own B w w := ⟨rfl, rfl, rfl, Nat.le_refl _, fun _ _ _ => rfl⟩
theorem Tb.trans {own : List Nat} {B : Nat} {a b c : World} (h : Tb own B a b) (k : Tb own B b c) : Tb own B a c :=
  ⟨k.os.trans h.os, k.tape.trans h.tape, k.output.trans h.output, Nat.le_trans h.size k.size, fun i hi h1 => (k.block i hi h1).trans (h.block i hi h1)⟩
theorem Tb.mono {own own' : List Nat} {B B' : Nat} {a b : World} (h : Tb own B a b) (hB : B' ≤ B) (ho : ∀ k ∈ own, k ∈ own' ∨ B' ≤ k) : Tb own' B' a b :=
  ⟨h.os, h.tape, h.output, h.size, fun k hk hn => h.block k (by omega) (fun hm => by rcases ho k hm with h1 | h1; exact hn h1; omega)⟩
theorem Tch.tb {own : List Nat} {B : Nat} {a b : World} (h : Tch own a b) (hB : B ≤ a.heap.size) : Tb own B a b :=
  ⟨h.os, h.tape, h.output, h.size, fun k hk hn => h.block k (by omega) hn⟩
theorem Tb.tch {own : List Nat} {a b : World} (h : Tb own a.heap.size a b) : Tch own a b := ⟨h.os, h.tape, h.output, h.size, h.block⟩
theorem Tb.drewN {own : List Nat} {B : Nat} {a b : World} (h : Tb own B a b) (n : Nat) : Tb own B a (b.drewN n) := ⟨h.os, h.tape, h.output, h.size, h.block⟩
theorem Tb.alloc {own : List Nat} {B : Nat} {a b : World} (h : Tb own B a b) (o : Obj) (hB : B ≤ b.heap.size) : Tb own B a (b.alloc o) :=
  h.trans ⟨rfl, rfl, rfl, by simp, fun k hk _ => Below.heap_alloc _ _ _ (by omega)⟩
theorem Tb.setCell {own : List Nat} {B : Nat} {a b : World} (h : Tb own B a b) {p : Addr} (v : Value) (hp : p.block ∈ own ∨ B ≤ p.block) : Tb own B a (b.setCell p v) :=
  h.trans ⟨rfl, rfl, rfl, by simp [World.setCell], fun k hk h1 => Below.heap_setCell _ _ _ _ (fun e => by rcases hp with hp | hp; exact h1 (e ▸ hp); omega)⟩

/-- What the function that is handed in keeps (J, over find's place at pb), and does. own: the blocks that it writes; mine: those that it reads or writes. -/
structure PassOk {S : Type} (own mine : List Nat) (pb : Nat) (J : S → World → Prop) (cnt : S → Nat) (step : S → UInt64 → Bool × S) (fid : FuncId) (caps : Array Value) : Prop where
  enter : ∀ (args : Array Value) (w : World), (callFunc fid args).run Try.prog w = .ok (.enter fid args) w
  keep : ∀ s w w' (L : List Nat), J s w → (∀ b ∈ L, b ∉ mine ∧ b ≤ pb) → Tch L w w' → J s w'
  inc : ∀ s k, cnt (step s k).2 ≤ cnt s + 1
  call : ∀ s w k, J s w → cnt s < 65536 → pb < w.heap.size → Calls Try.prog fid (#[U k] ++ caps) w fun e w' =>
    e = .returned (.bool (step s k).1) ∧ J (step s k).2 w' ∧ Tb own (pb + 1) w w'

/-- What find leaves. -/
def FPost {S : Type} (x : TxB) (hb N b : Nat) (f : Nat → UInt64) (own : List Nat) (J : Nat → S → World → Prop) (W : World) (r : (UInt64 × UInt64 × UInt64 × Nat) × S) (e : Ending) (w' : World) : Prop :=
  e = .returned (.agg #[U r.1.1, U r.1.2.1, U r.1.2.2.1, U (A r.1.2.2.2)]) ∧ HG x hb N b f w' ∧ (∃ pb, W.heap.size ≤ pb ∧ J pb r.2 w') ∧ Tch (own ++ hb :: x.L) W w'

/-- How many nodes are ahead, as a place's cell says. -/
def aheadOf (c : Option Value) : Nat := match c with | some (.int _ n) => n.toNat | _ => 0

theorem A_sub21 (i : Nat) : A (21 + 2 * i) - 1 = A (20 + 2 * i) := by
  have := A_sub1 (20 + 2 * i); rwa [show 20 + 2 * i + 1 = 21 + 2 * i by omega] at this

set_option maxHeartbeats 6400000 in
theorem hfind_ok {S : Type} (x : TxB) (hb N b n : Nat) (f : Nat → UInt64) (w : World) (own mine : List Nat) (J : Nat → S → World → Prop) (cnt : S → Nat) (step : S → UInt64 → Bool × S) (fid : FuncId) (caps : Array Value) (s0 : S) (c : List (Nat × UInt64))
    (h : HG x hb N (b + 2 * c.length + 3) f w) (hN : N < 60000) (h22 : 22 ≤ N) (hcl : c.length ≤ 1000) (hP : ∀ pb, w.heap.size ≤ pb → PassOk own mine pb (J pb) cnt step fid caps)
    (hJ : ∀ pb w', w.heap.size ≤ pb → Tch (hb :: x.L) w w' → J pb s0 w') (hown : ∀ k ∈ own, k ∈ mine) (hmine : ∀ k ∈ mine, k < w.heap.size ∧ k ≠ hb ∧ k ≠ x.ta ∧ k ≠ x.wb ∧ k ≠ x.mb)
    (hcnt : f 18 = A c.length) (hc : Chn n f (f 19) c) (hrise : Rise c) (hn : 20 + 2 * n ≤ N) (h0 : cnt s0 = 0) :
    Calls Try.prog 52 #[.pointer (some ⟨hb, 0, none⟩), U (A 18), .func (.func fid) #[] caps] w
      (FPost x hb N b f own J w (fscan step s0 (A 19) 0 0 c)) := by
  have hlt := h.lt
  have nhL := hide h.nL
  have hne : hb ≠ x.ta ∧ hb ≠ x.wb ∧ hb ≠ x.mb := ⟨h.n1, h.n2, h.n3⟩
  generalize hR : fscan step s0 (A 19) 0 0 c = R
  have hr6 := Blk.new w #[U 0, U 0, U 0, U 0] 83
  have h1 := h.alloc (.cells #[U 0, U 0, U 0, U 0] 83)
  have e19 : A 18 + 1 = A 19 := rfl
  replace hP := hide hP; replace hJ := hide hJ; replace hown := hide hown; replace hmine := hide hmine; replace hcnt := hide hcnt; replace hc := hide hc; replace hrise := hide hrise; replace hR := hide hR; replace hr6 := hide hr6; replace h0 := hide h0
  clear h
  go_enter Try.func52, Try.ntmps52
  go_wp2_with fail
  go_step3
  go_wp2_with fail
  refine (hget_ok (b := b + 2 * c.length + 2) h1 18 (A c.length) hcnt.out (by omega) (by omega)).mono ?_
  rintro e w1 ⟨rfl, hG1, hT1⟩
  have hlt1 := hG1.lt
  have hsz1 := hT1.size
  simp only [World.size_alloc] at hsz1
  have nr6 : w.heap.size ∉ hb :: x.L := by simp only [List.mem_cons, List.not_mem_nil, or_false, not_or]; omega
  have npb : w1.heap.size ∉ hb :: x.L := by simp only [List.mem_cons, List.not_mem_nil, or_false, not_or]; omega
  have bR1 := hide ((hr6.out.tch hT1 nr6).alloc (.cells #[U (A 19), U 0, U 0, U 0] 83))
  have bP := hide (Blk.new w1 #[U (A 19), U 0, U 0, U 0] 83)
  have hT1' := hide ((((Tch.refl (hb :: x.L) w).alloc (.cells #[U 0, U 0, U 0, U 0] 83)).trans hT1).alloc (.cells #[U (A 19), U 0, U 0, U 0] 83))
  have hG1' := hide (hG1.alloc (.cells #[U (A 19), U 0, U 0, U 0] 83))
  replace nr6 := hide nr6; replace npb := hide npb
  clear hT1 hG1 h1 hr6
  go_wp2_with fail
  go_step3
  go_wp2_with fail
  generalize hpb : w1.heap.size = pb at *
  have hP' := hide (hP.out pb (by omega))
  have hcall := hide hP'.out.call
  have enter := hP'.out.enter
  have hkeep := hide hP'.out.keep
  have hinc := hide hP'.out.inc
  go_loopw [9] (fun last wr => ∃ (lv nx key : UInt64) (q k : Nat) (rest : List (Nat × UInt64)) (s : S), last = U lv ∧ Hid (Blk wr pb #[U (A q), U nx, U key, U (A k)] 83) ∧ Hid (Blk wr w.heap.size #[U 0, U 0, U 0, U 0] 83) ∧ Hid (HG x hb N (b + 2 * rest.length + 1) f wr) ∧ Hid (J pb s wr) ∧
    Hid (Tb (own ++ hb :: x.L) w.heap.size w wr) ∧ Hid (cnt s ≤ k) ∧ Hid (k + rest.length = c.length) ∧ Hid (Chn n f (f q) rest) ∧ Hid (q < N) ∧ Hid (Rise rest) ∧ Hid (k = 0 ∨ ∀ y ∈ rest, u lv < u y.2) ∧ Hid (fscan step s (A q) key k rest = R)) (fun _ wr => c.length - aheadOf (wr.cell? ⟨pb, 3, none⟩))
  case atStart =>
    refine ⟨0, 0, 0, 19, 0, c, s0, rfl, bP, bR1, hG1'.out.mono (by omega), hJ.out pb _ (by omega) hT1'.out, ?_, Nat.le_of_eq h0.out, by show _ = _; omega, hc, ?_, hrise, .inl rfl, hR⟩
    · exact (hT1'.out.tb (Nat.le_refl _)).mono (Nat.le_refl _) fun k hk => .inl (by simp only [List.mem_append]; exact .inr hk)
    · show _ < _; omega
  case round =>
    clear bP bR1 hT1' hG1' hc hrise hR hJ h0
    obtain ⟨lv, nx, key, q, k, rest, s, rfl, hbP, hbR, hG, hJs, hTb, hcs, hk, hch, hqN, hri, hlv, hsc⟩ := hrel
    have hpbhb : pb ≠ hb := by omega
    have hr6pb : w.heap.size ≠ pb := by omega
    have cq0 := hbP.out.cell 0
    simp at cq0
    have hLm : Hid (∀ b ∈ [w.heap.size, pb, hb, x.wb, x.mb], b ∉ mine ∧ b ≤ pb) := by
      intro b hb'
      simp only [List.mem_cons, List.not_mem_nil, or_false] at hb'
      refine ⟨fun hm => ?_, by omega⟩
      have := hmine.out b hm
      omega
    have hLo : Hid (∀ k ∈ [w.heap.size, pb, hb, x.wb, x.mb], k ∈ own ++ hb :: x.L ∨ w.heap.size ≤ k) := by
      intro k hk'
      simp only [List.mem_cons, List.not_mem_nil, or_false, List.mem_append] at hk' ⊢
      omega
    have hsub : Hid (∀ k ∈ hb :: x.L, k ∈ [w.heap.size, pb, hb, x.wb, x.mb]) := by
      intro k hk'
      simp only [List.mem_cons, List.not_mem_nil, or_false] at hk' ⊢
      omega
    cases rest with
    | nil =>
      have hf0 : f q = 0 := hch.out
      obtain rfl : k = c.length := by have := hk.out; simpa using this
      replace hf0 := hide hf0
      clear hP hP' hcall enter hinc
      go_wp2_with fail
      refine (hget_ok (b := b) (hG.out.mono (by simp)) q 0 hf0.out hqN.out (by omega)).mono ?_
      rintro e w2 ⟨rfl, hG2, hT2⟩
      have bP2 := hbP.out.tch hT2 npb.out
      have bR2 := hbR.out.tch hT2 nr6.out
      have d1 := hG2.hB.cell 1
      have p0 := bP2.cell 0; have p1 := bP2.cell 1; have p2 := bP2.cell 2; have p3 := bP2.cell 3
      have r0 := bR2.cell 0; have r1 := bR2.cell 1; have r2 := bR2.cell 2; have r3 := bR2.cell 3
      have fp1 := bP2.free 1
      have g0 := bR2.free 0; have g1 := bR2.free 1; have g2 := bR2.free 2; have g3 := bR2.free 3
      simp at d1 p0 p1 p2 p3 r0 r1 r2 r3
      replace bP2 := hide bP2; replace bR2 := hide bR2; replace hG2 := hide hG2
      clear cq0
      go_wp2_with fail
      rw [Exit.noGoto_ret]
      have hR := hsc.out
      rw [fscan] at hR
      subst hR
      have n1 : pb ≠ x.ta ∧ pb ≠ x.wb ∧ pb ≠ x.mb := by omega
      have m1 : w.heap.size ≠ x.ta ∧ w.heap.size ≠ x.wb ∧ w.heap.size ≠ x.mb := by omega
      have m2 : w.heap.size ≠ hb := by omega
      have hTL : Tch [w.heap.size, pb, hb, x.wb, x.mb] wr (((((w2.setCell ⟨pb, 1, none⟩ (U 0)).setCell ⟨w.heap.size, 0, none⟩ (U (A q))).setCell ⟨w.heap.size, 1, none⟩ (U 0)).setCell ⟨w.heap.size, 2, none⟩ (U key)).setCell ⟨w.heap.size, 3, none⟩ (U (A c.length))) :=
        (((((hT2.mono hsub.out).setCell (by simp) _).setCell (by simp) _).setCell (by simp) _).setCell (by simp) _).setCell (by simp) _
      refine bodyPost_ret (v := .agg #[U (A q), U 0, U key, U (A c.length)]) (by simp [results, Try.results52, go_sem, p0, p1, p2, p3, r0, r1, r2, r3, fp1, g0, g1, g2, g3, hr6pb]) rfl ⟨rfl, ?_, ⟨pb, by omega, ?_⟩, ?_⟩
      · exact ((((hG2.out.setOther _ _ n1 hpbhb).setOther _ _ m1 m2).setOther _ _ m1 m2).setOther _ _ m1 m2).setOther _ _ m1 m2
      · exact hkeep.out s _ _ _ hJs.out hLm.out hTL
      · exact (hTb.out.trans ((hTL.tb (B := w.heap.size) (Nat.le_trans (Nat.le_refl _) hTb.out.size)).mono (Nat.le_refl _) hLo.out)).tch
    | cons y rest =>
      obtain ⟨i, kk⟩ := y
      obtain ⟨e1, e2, e3, e4⟩ := hch.out
      have es := A_sub21 i
      have ek := A_add1 k
      have hz : (A (21 + 2 * i) == 0) = false := by rw [A_eq0 (by omega)]; simp
      have hkl : k < c.length := by have := hk.out; simp only [List.length_cons] at this; omega
      have ht1 : decide (u (A c.length) ≤ u (A k)) = false := by rw [decide_eq_false_iff_not, u_A (by omega), u_A (by omega)]; omega
      have ht2 : (decide (u 0 < u (A k)) = false) ∨ (decide (u 0 < u (A k)) = true ∧ decide (u kk ≤ u lv) = false) := by
        rcases Nat.eq_zero_or_pos k with h0 | h0
        · left; rw [decide_eq_false_iff_not, u_A (by omega), h0]; show ¬ ((0 : Int) < ((0 : Nat) : Int)); omega
        · right
          refine ⟨?_, ?_⟩
          · rw [decide_eq_true_eq, u_A (by omega)]; show (0 : Int) < (k : Int); omega
          · rw [decide_eq_false_iff_not]
            rcases hlv.out with h | h
            · omega
            · have := h (i, kk) (by simp); simp only at this; omega
      replace e1 := hide e1; replace e3 := hide e3; replace e4 := hide e4
      have n1 : pb ≠ x.ta ∧ pb ≠ x.wb ∧ pb ≠ x.mb := by omega
      rcases ht2 with ht2 | ⟨ht2, ht3⟩ <;> cases hE : (step s kk).1
      all_goals
        go_wp2_with fail
        refine (hget_ok (b := b + 2 * rest.length + 2) (hG.out.mono (by simp only [List.length_cons]; omega)) q _ e1.out hqN.out (by omega)).mono ?_
        rintro e w2 ⟨rfl, hG2, hT2⟩
        have bP2 := hbP.out.tch hT2 npb.out
        have bR2 := hide (hbR.out.tch hT2 nr6.out)
        have d1 := hG2.hB.cell 1
        have p0 := bP2.cell 0; have p1 := bP2.cell 1; have p2 := bP2.cell 2; have p3 := bP2.cell 3
        have fp1 := bP2.free 1
        simp at d1 p0 p1 p2 p3
        have bP2' := hide (bP2.set 1 (U (A (21 + 2 * i))))
        have hG2' := hide (hG2.setOther ⟨pb, 1, none⟩ (U (A (21 + 2 * i))) n1 hpbhb)
        have hT2' : Tch [w.heap.size, pb, hb, x.wb, x.mb] wr (w2.setCell ⟨pb, 1, none⟩ (U (A (21 + 2 * i)))) := (hT2.mono hsub.out).setCell (by simp) _
        have bR2' := hide (bR2.out.setOther ⟨pb, 1, none⟩ (U (A (21 + 2 * i))) hr6pb.symm)
        replace hT2' := hide hT2'
        clear bP2 hG2 hT2 cq0 bR2
        go_wp2_with fail
        refine (hget_ok (b := b + 2 * rest.length + 1) hG2'.out (20 + 2 * i) kk e3.out (by omega) (by omega)).mono ?_
        rintro e w3 ⟨rfl, hG3, hT3⟩
        have bP3 := bP2'.out.tch hT3 npb.out
        have bR3 := bR2'.out.tch hT3 nr6.out
        clear d1 p0 p1 p2 p3 fp1
        have d1 := hG3.hB.cell 1
        have p0 := bP3.cell 0; have p1 := bP3.cell 1; have p2 := bP3.cell 2; have p3 := bP3.cell 3
        have fp2 := bP3.free 2
        simp at d1 p0 p1 p2 p3
        have bP3' := hide (bP3.set 2 (U kk))
        have hG3' := hide (hG3.setOther ⟨pb, 2, none⟩ (U kk) n1 hpbhb)
        have hT3' : Tch [w.heap.size, pb, hb, x.wb, x.mb] wr (w3.setCell ⟨pb, 2, none⟩ (U kk)) := (hT2'.out.trans (hT3.mono hsub.out)).setCell (by simp) _
        have bR3' := hide (bR3.setOther ⟨pb, 2, none⟩ (U kk) hr6pb.symm)
        have hJ3 := hide (hkeep.out s _ _ _ hJs.out hLm.out hT3')
        replace hT3' := hide hT3'
        clear bP3 hG3 hT3 bR3 hG2' bP2' hT2' bR2'
        go_wp2_with fail
        refine (hcall.out s _ kk hJ3.out (by have := hcs.out; omega) bP3'.out.lt).mono ?_
        rintro e w4 ⟨rfl, hJ4, hT4⟩
        have hno : ∀ k, w.heap.size ≤ k ∨ k = hb ∨ k = x.ta ∨ k = x.wb ∨ k = x.mb → k ∉ own := by
          intro k hk hm
          have := hmine.out k (hown.out k hm)
          omega
        have bP4 : Blk w4 pb #[U (A q), U (A (21 + 2 * i)), U kk, U (A k)] 83 := (hT4.block pb (by omega) (hno pb (by omega))).trans bP3'.out
        have bR4 : Blk w4 w.heap.size #[U 0, U 0, U 0, U 0] 83 := (hT4.block _ (by omega) (hno _ (by omega))).trans bR3'.out
        have hG4 : HG x hb N (b + 2 * rest.length + 1) f w4 := hG3'.out.blocks (hT4.block _ (by omega) (hno _ (by omega))) (hT4.block _ (by omega) (hno _ (by omega))) (hT4.block _ (by omega) (hno _ (by omega))) (hT4.block _ (by omega) (hno _ (by omega)))
        have hTb4 : Tb (own ++ hb :: x.L) w.heap.size w w4 := (hTb.out.trans ((hT3'.out.tb hTb.out.size).mono (Nat.le_refl _) hLo.out)).trans (hT4.mono (by omega) fun k hk => .inl (by simp [hk]))
        clear d1 p0 p1 p2 p3 fp2 hT4 hno
        have p0 := bP4.cell 0; have p1 := bP4.cell 1; have p2 := bP4.cell 2; have p3 := bP4.cell 3
        have g0 := bP4.free 0; have g1 := bP4.free 1; have g2 := bP4.free 2; have g3 := bP4.free 3
        simp at p0 p1 p2 p3
        clear hJ3 bP3' bR3' hG3' hT3'
      all_goals first
        | (have hE1 : (step s kk).1 = true := hE
           have bP5 := hide ((bP4.set 0 (U (A (21 + 2 * i)))).set 3 (U (A (k + 1))))
           have bR5 := hide ((bR4.setOther ⟨pb, 0, none⟩ (U (A (21 + 2 * i))) hr6pb.symm).setOther ⟨pb, 3, none⟩ (U (A (k + 1))) hr6pb.symm)
           have hG5 := hide ((hG4.setOther ⟨pb, 0, none⟩ (U (A (21 + 2 * i))) n1 hpbhb).setOther ⟨pb, 3, none⟩ (U (A (k + 1))) n1 hpbhb)
           have hT5 : Tch [w.heap.size, pb, hb, x.wb, x.mb] w4 ((w4.setCell ⟨pb, 0, none⟩ (U (A (21 + 2 * i)))).setCell ⟨pb, 3, none⟩ (U (A (k + 1)))) := ((Tch.refl _ _).setCell (by simp) _).setCell (by simp) _
           have hJ5 := hide (hkeep.out _ _ _ _ hJ4 hLm.out hT5)
           have hTb5 := hide (hTb4.trans ((hT5.tb hTb4.size).mono (Nat.le_refl _) hLo.out))
           have hm := hide (hbP.out.cell 3)
           have hm5 := hide (bP5.out.cell 3)
           have hsc' := hsc.out
           rw [fscan, if_pos hE1] at hsc'
           replace hsc' := hide hsc'
           clear bP4 bR4 hG4 hT5 hJ4 hTb4 hbP hbR hG hJs hTb
           go_wp2_with fail
           go_roundw
           case rel =>
             refine ⟨kk, _, _, 21 + 2 * i, k + 1, rest, (step s kk).2, rfl, bP5, bR5, hG5, hJ5, hTb5, ?_, ?_, e4.out, ?_, hri.out.2, .inr fun y hy => hri.out.1 y hy, hsc'⟩
             · have := hinc.out s kk; have := hcs.out; show _ ≤ _; omega
             · have := hk.out; simp only [List.length_cons] at this; show _ = _; omega
             · show _ < _; omega
           case measure =>
             rw [hm.out, hm5.out]
             simp [aheadOf, u_A (show k < 100000 by omega), u_A (show k + 1 < 100000 by omega)]
             omega)
        | (have hE1 : ¬ (step s kk).1 = true := by simp [hE]
           have hsc' := hsc.out
           rw [fscan, if_neg hE1] at hsc'
           subst hsc'
           clear g0 g1 g2 g3
           have r0 := bR4.cell 0; have r1 := bR4.cell 1; have r2 := bR4.cell 2; have r3 := bR4.cell 3
           have g0 := bR4.free 0; have g1 := bR4.free 1; have g2 := bR4.free 2; have g3 := bR4.free 3
           simp at r0 r1 r2 r3
           have m1 : w.heap.size ≠ x.ta ∧ w.heap.size ≠ x.wb ∧ w.heap.size ≠ x.mb := by omega
           have m2 : w.heap.size ≠ hb := by omega
           have hTL : Tch [w.heap.size, pb, hb, x.wb, x.mb] w4 ((((w4.setCell ⟨w.heap.size, 0, none⟩ (U (A q))).setCell ⟨w.heap.size, 1, none⟩ (U (A (21 + 2 * i)))).setCell ⟨w.heap.size, 2, none⟩ (U kk)).setCell ⟨w.heap.size, 3, none⟩ (U (A k))) :=
             ((((Tch.refl _ _).setCell (by simp) _).setCell (by simp) _).setCell (by simp) _).setCell (by simp) _
           have hG5 := hide ((((hG4.setOther ⟨w.heap.size, 0, none⟩ (U (A q)) m1 m2).setOther ⟨w.heap.size, 1, none⟩ (U (A (21 + 2 * i))) m1 m2).setOther ⟨w.heap.size, 2, none⟩ (U kk) m1 m2).setOther ⟨w.heap.size, 3, none⟩ (U (A k)) m1 m2)
           have hJ5 := hide (hkeep.out _ _ _ _ hJ4 hLm.out hTL)
           have hTb5 := hide (hTb4.trans ((hTL.tb hTb4.size).mono (Nat.le_refl _) hLo.out))
           clear bP4 bR4 hG4 hTL hJ4 hTb4 hbP hbR hG hJs hTb
           go_wp2_with fail
           rw [Exit.noGoto_ret]
           refine bodyPost_ret (v := .agg #[U (A q), U (A (21 + 2 * i)), U kk, U (A k)]) (by simp [results, Try.results52, go_sem, p0, p1, p2, p3, r0, r1, r2, r3, g0, g1, g2, g3, hr6pb]) rfl ⟨rfl, hG5.out.mono (by omega), ⟨pb, by omega, hJ5.out⟩, hTb5.out.tch⟩)
end Go.Proofs.Ytkfonlpglkfpgaa
