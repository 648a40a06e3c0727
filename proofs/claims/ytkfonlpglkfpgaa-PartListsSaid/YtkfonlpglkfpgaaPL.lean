/- PartLists: the walk. -/
import Derived.Test.YtkfonlpglkfpgaaPL0
namespace Go.Proofs.Ytkfonlpglkfpgaa
open Go.RowKit
set_option linter.unusedSimpArgs false
set_option linter.unusedVariables false

set_option maxHeartbeats 6400000 in
set_option maxRecDepth 20000 in
theorem pl_any (w : World) (v1 : Value) (ks : List UInt64) (h1 : Rd w v1 ks) :
    Calls Try.prog 4 #[v1] w fun e w' => e = .returned (.bool true) ∧ Tch [] w w' := by
  have hh1 := hide h1
  obtain ⟨bo1, c1, rfl, hm1, _⟩ := h1
  by_cases hlen : 300 < ks.length
  · have hg : (ks.length : Int) > 300 := by omega
    go_enter Try.func4, Try.ntmps4
    go_wp2_with fail
    refine (works_any _).mono ?_
    rintro e w1 ⟨rfl, hT⟩
    go_wp2_with fail
    go_ret
    exact ⟨rfl, hT⟩
  · have hg : ¬ ((ks.length : Int) > 300) := by omega
    go_enter Try.func4, Try.ntmps4
    go_wp2_with fail
    refine (laid_any 2000 (by omega) w).mono ?_
    rintro e w1 ⟨x, rfl, hA1, hx, hT1⟩
    have hI1 := hide (mlaid_is (N := 2000) (by omega) (by omega))
    go_wp2_with fail
    refine (lnew_ok x _ 8999999999999999994 _ _ hA1 hI1.out rfl).mono ?_
    rintro e w2 ⟨rfl, ⟨m2, hA2, hI2⟩, hT2⟩
    have hq2 := hide (lnew_st rfl)
    have hL : ∀ b ∈ x.L, w.heap.size ≤ b := by
      intro b hb
      simp only [List.mem_cons, List.not_mem_nil, or_false] at hb
      rcases hb with rfl | rfl <;> omega
    have hT2' := hide (hT1.new hT2 hL)
    have hxb : x.ta < w2.heap.size ∧ x.wb < w2.heap.size ∧ x.mb < w2.heap.size := hA2.lt
    have hsz2 := hT2'.out.size
    generalize hbase : w2.heap.size = base at *
    replace hL := hide hL; replace hI2 := hide hI2; replace hx := hide hx
    clear hT1 hT2 hA1 hI1
    generalize (setf (setf (setf (f0 2000) 0 (A 20)) 18 0) 19 0) = f2 at *
    go_wp2_with (first | (go_at_call 8; refine (num_any _ .i64 _).mono ?_; rintro e w' ⟨rfl, rfl⟩))
    go_loopw [6, 7] (fun want i wr => ∃ (done rest : List UInt64) (c : List (Nat × UInt64)) (mm : Mach) (f : Nat → UInt64) (bo : Option Addr) (cc : Nat), want = .slice bo c.length cc ∧ i = .int .i64 done.length ∧ Hid (ks = done ++ rest) ∧ x.At mm wr ∧ Hid (Is 2000 mm (7000000000000000000 + 10000 * rest.length) f) ∧ Hid (LSt 2000 c.length c f) ∧ Hid (c.length ≤ done.length) ∧
      Hid (Rw wr base 23 1 encU bo cc (c.map (·.2))) ∧ Hid (Tch [] w wr) ∧ Hid (base ≤ wr.heap.size)) (fun _ i _ => ks.length - (intOf i).toNat)
    case atStart => exact ⟨[], ks, [], m2, f2, none, 0, rfl, rfl, rfl, hA2, hI2.out.mono (by omega), hq2.out, Nat.le_refl _, Rw.nil _ _ _ _ _, hT2'.out, Nat.le_of_eq hbase.symm⟩
    case round =>
      clear hA2 hI2 hq2 hT2' hbase
      obtain ⟨done, rest, c, mm, f, bo, cc, rfl, rfl, hks, hA, hI, hq, hcl, hR, hT, hsz⟩ := hrel
      cases rest with
      | nil =>
        have hks' : done = ks := by have := hks.out; simpa using this.symm
        have hcl3 : c.length ≤ 300 := by have := hcl.out; rw [hks'] at this; omega
        have hl0 : ((done.length : Int) < (ks.length : Int)) = False := by rw [hks']; simp
        clear hks'
        obtain ⟨_, _, _, _, f1w, _, cta⟩ := hA.c
        have f3 := f1w 3
        have hA' := hide hA
        have hi0 : Is 2000 { mm with calls := 0 } 7000000000000000000 f := by
          have := hI.out.mono (b' := 7000000000000000000) (by omega)
          exact ⟨⟨this.ok.len, this.ok.neg, this.ok.room⟩, this.at_⟩
        obtain ⟨m1, q1, i1, hcl4⟩ := plist_is (b := 6999999999999999000) (hi0.mono (by omega)) hq.out (by omega) (by omega)
        have hcalls := hide (hcl4 rfl)
        clear hcl4
        have hpc : (A c.length != UInt64.ofNat c.length) = false := by simp [A]
        replace q1 := hide q1; replace i1 := hide i1; replace hi0 := hide hi0
        clear hA f1w
        go_wp2_with fail
        have hA0 := hA'.out.set3 0
        have hT0 := hide (hT.out.setNew (p := ⟨x.wb, 3, none⟩) (by have := hx.out; simp only; omega) (.int .i64 0))
        have hR0 := hide (hR.out.setOther ⟨x.wb, 3, none⟩ (.int .i64 0) (fun a ha => by have := (hR.out.block a ha).1; simp only; omega))
        have hsz0 : base ≤ (wr.setCell ⟨x.wb, 3, none⟩ (.int .i64 0)).heap.size := by simp only [World.setCell, Array.size_modify]; exact hsz.out
        replace hsz0 := hide hsz0
        clear hA' hT hR hsz f3 cta
        refine (plist_ok hA0 q1.out).mono ?_
        rintro e v1 ⟨rfl, hA1, hT1⟩
        have hTv1 := hT0.out.new hT1 hL.out
        have hLb : ∀ b ∈ x.L, b < base := by intro b hb; simp only [List.mem_cons, List.not_mem_nil, or_false] at hb; rcases hb with rfl | rfl <;> omega
        have hRv1 := hR0.out.tch hT1 hLb
        have hszv1 := Nat.le_trans hsz0.out hT1.size
        simp only [Prt.val]
        have bP := Blk.new v1 #[.int .i64 2, U (f 19), U (A c.length)] 35
        have nP : v1.heap.size ∉ x.L := by simp only [List.mem_cons, List.not_mem_nil, or_false, not_or]; have := hA1.lt; omega
        have hA2 := hA1.alloc (.cells #[.int .i64 2, U (f 19), U (A c.length)] 35)
        have hT2 := hide (hTv1.alloc (.cells #[.int .i64 2, U (f 19), U (A c.length)] 35))
        have hR2 := hide (hRv1.alloc (.cells #[.int .i64 2, U (f 19), U (A c.length)] 35))
        obtain ⟨_, _, _, c3, _, _, cta⟩ := hA2.c
        rw [hcalls.out] at c3
        replace hA2 := hide hA2; replace nP := hide nP; replace hLb := hide hLb; replace hszv1 := hide hszv1
        clear hA1 hT1 hTv1 hRv1 hT0 hR0 hsz0 hA0
        have cp0 := bP.cell 0; have cp1 := bP.cell 1; have cp2 := bP.cell 2; have fp0 := bP.free 0; have fp1 := bP.free 1; have fp2 := bP.free 2; simp at cp0 cp1 cp2
        replace bP := hide bP
        go_wp2_with (first | (go_at_call 8; refine (num_any _ .i64 _).mono ?_; rintro e w' ⟨rfl, rfl⟩))
        have hC1 : Chn c.length (setf (setf f 18 0) 19 0) (f 19) c := hq.out.chain.congr fun y hy => by
          rw [setf_ne _ _ _ _ (by omega), setf_ne _ _ _ _ (by omega), setf_ne _ _ _ _ (by omega), setf_ne _ _ _ _ (by omega)]; exact ⟨rfl, rfl⟩
        have hQ1 := hq.out.cut
        obtain ⟨m2, q2, i2⟩ := pread_c (N := 2000) (n := c.length) (b := 6999999999999990000) (by omega) (by omega) hC1 (by omega) (i1.out.mono (by omega))
        have hndp := hide hq.out.nodup
        generalize hg1 : setf (setf f 18 0) 19 0 = f1 at *
        generalize hfp : f 19 = fp at *
        replace q2 := hide q2; replace i2 := hide i2; replace hC1 := hide hC1; replace hQ1 := hide hQ1; replace hg1 := hide hg1; replace hfp := hide hfp
        clear c3 cta i1 hI hq
        refine (pread_okn (p := ⟨2, fp, A c.length⟩) hA2.out q2.out (List.length_map _)).mono ?_
        rintro e v2 ⟨boA, cA, rfl, hRa, hA3, hT3⟩
        have hLa := hide hA2.out.hL
        have bP3 := hide (bP.out.tch hT3 nP.out)
        have hTw3 := hide (hT2.out.new hT3 hL.out)
        have hRw3 := hide (hR2.out.tch hT3 hLb.out)
        replace hRa := hide hRa
        clear hA2 hT2 hR2 hT3 bP cp0 cp1 cp2 fp0 fp1 fp2
        generalize (v1.alloc (Obj.cells #[Value.int IntKind.i64 2, U fp, U (A c.length)] 35)).heap.size = ba at *
        go_wp2_with fail
        refine (lkeys_ok x m2 2000 c.length 6999999999999980000 f1 [] _ hA3 (i2.out.mono (by simp)) hQ1.out.count hQ1.out.chain trivial (by omega) (by omega) (by omega) (by simp)).mono ?_
        rintro e v3 ⟨boB, cB, rfl, hRb, ⟨m3, hA4, i3⟩, hT4⟩
        have bP4 := hide (bP3.out.tch hT4 nP.out)
        have hTw4 := hide (hTw3.out.new hT4 hL.out)
        have hRw4 := hide (hRw3.out.tch hT4 hLb.out)
        have hRa4 := hide (hRa.out.tch hT4 hLa.out)
        replace i3 := hide i3
        clear hA3 hTw3 hRw3 hT4 bP3 hRb hRa
        go_wp2_with fail
        refine (lins_ok x m3 2000 c.length 6999999999999970000 f1 [] 7 _ hA4 (i3.out.mono (by simp)) hQ1.out (by omega) (by omega) (by simp)).mono ?_
        rintro e v4 ⟨pre, post, hpp, _, _, rfl, ⟨m4, hA5, i5⟩, hT5⟩
        obtain ⟨rfl, rfl⟩ : pre = [] ∧ post = [] := by simpa using hpp.symm
        rw [if_neg (by simp [hasKey])] at i5
        have hq5 : LSt 2000 (c.length + 1) [(c.length, 7)] (insF f1 c.length (lastC 19 []) ([] : List (Nat × UInt64)).length 7 (nextP [])) := LSt.ins (pre := []) (post := []) hQ1.out (by simp) (by simp)
        have hC5 : Chn c.length (insF f1 c.length (lastC 19 []) ([] : List (Nat × UInt64)).length 7 (nextP [])) fp c := hC1.out.congr fun y hy => by
          have := hC1.out.lt y hy
          unfold insF
          simp only [lastC]
          constructor <;> rw [setf_ne _ _ _ _ (by omega), setf_ne _ _ _ _ (by omega), setf_ne _ _ _ _ (by omega), setf_ne _ _ _ _ (by omega), setf_ne _ _ _ _ (by omega)]
        generalize insF f1 c.length (lastC 19 []) ([] : List (Nat × UInt64)).length 7 (nextP []) = f5 at *
        obtain ⟨m5, m6, m7, m8, m9, qq, l', g, q5, q6, q7, q8, q9, q10, q11, hl', i9, g18, gch⟩ := chain2 (mm := m4) (b := 6999999999999970000) (by omega) hcl3 (by omega) i5 hC5 hndp.out hq5
        have bP5 := bP4.out.tch hT5 nP.out
        have hTw5 := hide (hTw4.out.new hT5 hL.out)
        have hRw5 := hide (hRw4.out.tch hT5 hLb.out)
        have hRa5 := hide (hRa4.out.tch hT5 hLa.out)
        have cp0 := bP5.cell 0; have cp1 := bP5.cell 1; have cp2 := bP5.cell 2; have fp0 := bP5.free 0; have fp1 := bP5.free 1; have fp2 := bP5.free 2; simp at cp0 cp1 cp2
        replace bP5 := hide bP5
        replace q5 := hide q5; replace q6 := hide q6; replace q7 := hide q7; replace q8 := hide q8; replace q9 := hide q9; replace q10 := hide q10; replace q11 := hide q11; replace hl' := hide hl'; replace i9 := hide i9; replace g18 := hide g18; replace gch := hide gch
        clear hA4 hTw4 hRw4 hRa4 hT5 bP4 i5 hq5 hC5 hpp
        go_wp2_with fail
        refine (pread_okn (p := ⟨2, fp, A c.length⟩) hA5 q5.out (List.length_map _)).mono ?_
        rintro e v5 ⟨boC, cC, rfl, hRc, hA6, hT6⟩
        have bP6 := hide (bP5.out.tch hT6 nP.out)
        have hTw6 := hide (hTw5.out.new hT6 hL.out)
        have hRw6 := hRw5.out.tch hT6 hLb.out
        have hRa6 := hRa5.out.tch hT6 hLa.out
        have hLc := hide hA5.hL
        have hw1 := hide (hRw6.rdn (List.length_map _))
        have hw2 := hide (hRa6.rdn (List.length_map _))
        replace hRw6 := hide hRw6; replace hRc := hide hRc
        clear hA5 hTw5 hRw5 hRa5 hRa6 hT6 bP5 cp0 cp1 cp2 fp0 fp1 fp2
        go_wp2_with (first | (go_at_call 8; refine (num_any _ .i64 _).mono ?_; rintro e w' ⟨rfl, rfl⟩))
        refine (kwords_same _ _ _ (c.map (·.2)) hw2.out hw1.out).mono ?_
        rintro e v6 ⟨rfl, n, hv6⟩
        have bP7 : Blk v6 v1.heap.size #[.int .i64 2, U fp, U (A c.length)] 35 := by rw [hv6]; exact bP6.out
        have hTw7 : Tch [] w v6 := by rw [hv6]; exact hTw6.out.drewN n
        have hRw7 : Rw v6 base 23 1 encU bo cc (c.map (·.2)) := by rw [hv6]; exact hRw6.out
        have hRc7 : Rd v6 (.slice boC c.length cC) (c.map (·.2)) := by rw [hv6]; exact hRc.out.rdn (List.length_map _)
        have hA7 : x.At m5 v6 := by rw [hv6]; exact hA6.drewN n
        have hw3 := hide (hRw7.rdn (List.length_map _))
        replace bP7 := hide bP7; replace hTw7 := hide hTw7; replace hRc7 := hide hRc7
        clear hv6 hA6 hTw6 hRw6 hRc bP6 hw1 hw2
        go_wp2_with (first | (go_at_call 8; refine (num_any _ .i64 _).mono ?_; rintro e w' ⟨rfl, rfl⟩))
        refine (kwords_same _ _ _ (c.map (·.2)) hRc7.out hw3.out).mono ?_
        rintro e v7 ⟨rfl, n, hv7⟩
        have bP8 : Blk v7 v1.heap.size #[.int .i64 2, U fp, U (A c.length)] 35 := by rw [hv7]; exact bP7.out
        have hTw8 : Tch [] w v7 := by rw [hv7]; exact hTw7.out.drewN n
        have hA8 : x.At m5 v7 := by rw [hv7]; exact hA7.drewN n
        replace bP8 := hide bP8; replace hTw8 := hide hTw8
        clear hv7 hA7 hTw7 hRw7 hRc7 bP7 hw3
        go_wp2_with fail
        refine (given_okn hA8 q6.out rfl).mono ?_
        rintro e v8 ⟨boD, cD, rfl, hRd, hA9, hT9⟩
        have bP9 := hide (bP8.out.tch hT9 nP.out)
        have hTw9 := hide (hTw8.out.new hT9 hL.out)
        clear hA8 hTw8 hT9 bP8 hRd
        go_wp2_with fail
        refine (qnew_ok hA9 q7.out).mono ?_
        rintro e v9 ⟨rfl, hA10, hT10⟩
        have bP10 := bP9.out.tch hT10 nP.out
        have hTw10 := hide (hTw9.out.new hT10 hL.out)
        clear hA9 hTw9 hT10 bP9
        have cp0 := bP10.cell 0; have cp1 := bP10.cell 1; have cp2 := bP10.cell 2; have fp0 := bP10.free 0; have fp1 := bP10.free 1; have fp2 := bP10.free 2; simp at cp0 cp1 cp2
        replace bP10 := hide bP10
        go_wp2_with fail
        refine (pback_okq (p := ⟨2, fp, A c.length⟩) hA10 q8.out).mono ?_
        rintro e v10 ⟨rfl, hA11, hT11⟩
        have bP11 := bP10.out.tch hT11 nP.out
        have hTw11 := hide (hTw10.out.new hT11 hL.out)
        clear hA10 hTw10 hT11 bP10 cp0 cp1 cp2 fp0 fp1 fp2
        have cp0 := bP11.cell 0; have cp1 := bP11.cell 1; have cp2 := bP11.cell 2; have fp0 := bP11.free 0; have fp1 := bP11.free 1; have fp2 := bP11.free 2; simp at cp0 cp1 cp2
        replace bP11 := hide bP11
        go_wp2_with (first | (go_at_call 8; refine (num_any _ .i64 _).mono ?_; rintro e w' ⟨rfl, rfl⟩))
        refine (pback_okq (p := ⟨2, fp, A c.length⟩) hA11 q9.out).mono ?_
        rintro e v11 ⟨rfl, hA12, hT12⟩
        have bP12 := bP11.out.tch hT12 nP.out
        have hTw12 := hide (hTw11.out.new hT12 hL.out)
        clear hA11 hTw11 hT12 bP11 cp0 cp1 cp2 fp0 fp1 fp2
        have cp0 := bP12.cell 0; have cp1 := bP12.cell 1; have cp2 := bP12.cell 2; have fp0 := bP12.free 0; have fp1 := bP12.free 1; have fp2 := bP12.free 2; simp at cp0 cp1 cp2
        replace bP12 := hide bP12
        go_wp2_with (first | (go_at_call 8; refine (num_any _ .i64 _).mono ?_; rintro e w' ⟨rfl, rfl⟩))
        refine (pgive_ok (p := ⟨2, fp, A c.length⟩) hA12 q10.out).mono ?_
        rintro e v12 ⟨rfl, hA13, hT13⟩
        have hTw13 := hide (hTw12.out.new hT13 hL.out)
        clear hA12 hTw12 hT13 bP12 cp0 cp1 cp2 fp0 fp1 fp2
        go_wp2_with (first | (go_at_call 8; refine (num_any _ .i64 _).mono ?_; rintro e w' ⟨rfl, rfl⟩))
        refine (given_okn hA13 q11.out hl'.out).mono ?_
        rintro e v13 ⟨boE, cE, rfl, hRe, hA14, hT14⟩
        have hTw14 := hide (hTw13.out.new hT14 hL.out)
        clear hA13 hTw13 hT14 hRe
        go_wp2_with fail
        refine (lkeys_ok x m9 2000 (c.length + 1) 6999999999999900000 g [(c.length, 7)] _ hA14 (i9.out.mono (by simp)) g18.out gch.out ⟨by simp, trivial⟩ (by omega) (by omega) (by omega) (by simp)).mono ?_
        rintro e v14 ⟨boF, cF, rfl, hRf, ⟨m10, hA15, i10⟩, hT15⟩
        have hTw15 := hide (hTw14.out.new hT15 hL.out)
        replace hRf := hide hRf
        clear hA14 hTw14 hT15 hA15 i10
        have hd := hide ((hRf.out.alloc (.cells #[U 7] 23)).rdn (n := 1) rfl)
        have he := hide (rd_of_blk (xs := [7]) (Blk.new v14 #[U 7] 23) (by simp))
        have hd' : Rd (v14.alloc (.cells #[U 7] 23)) (.slice boF 1 cF) [7] := hd.out
        have he' : Rd (v14.alloc (.cells #[U 7] 23)) (.slice (some ⟨v14.heap.size, 0, none⟩) 1 1) [7] := he.out
        replace hd' := hide hd'; replace he' := hide he'
        go_wp2_with fail
        refine (kwords_same _ _ _ [7] hd'.out he'.out).mono ?_
        rintro e v15 ⟨rfl, n, hv15⟩
        have hTw16 : Tch [] w v15 := by rw [hv15]; exact (hTw15.out.alloc _).drewN n
        replace hTw16 := hide hTw16
        clear hv15 hd he hd' he' hRf hTw15
        go_wp2_with fail
        refine (works_any _).mono ?_
        rintro e v16 ⟨rfl, hT16⟩
        go_wp2_with fail
        go_ret
        exact ⟨rfl, hTw16.out.trans hT16⟩
      | cons y rest =>
        have hks' := hks.out
        have hlt : done.length < ks.length := by rw [hks']; simp
        obtain ⟨a, ha, hc⟩ := (hh1.out.tch hT.out).at done.length hlt
        have hy : ks[done.length] = y := by simp [hks']
        rw [hy] at hc
        subst ha
        have hcl' := hcl.out
        replace hy := hide hy; replace hks' := hide hks'
        go_wp2_with fail
        refine (lins_ok x mm 2000 c.length (7000000000000000000 + 10000 * rest.length) f c y _ hA (hI.out.mono (by simp only [List.length_cons]; omega)) hq.out (by omega) (by omega) (by omega)).mono ?_
        rintro e w4 ⟨pre, post, hcs, hpre, hpost, rfl, ⟨m4, hA4, hI4⟩, hT4⟩
        have hR4 := hide (hR.out.tch hT4 (by intro b hb; simp only [List.mem_cons, List.not_mem_nil, or_false] at hb; rcases hb with rfl | rfl <;> omega))
        have hT4' := hide (hT.out.new hT4 hL.out)
        have hsz4 := hide (Nat.le_trans hsz.out hT4.size)
        have hc4 : w4.cell? (a.add done.length) = some (U y) := by
          have := ((hh1.out.tch hT4'.out).at done.length hlt)
          obtain ⟨a', ha', hc'⟩ := this
          cases ha'
          rw [hy.out] at hc'; exact hc'
        have hpl : pre.length ≤ c.length := by rw [hcs]; simp
        have hcL : Hid (c.map (·.2) = pre.map (·.2) ++ post.map (·.2)) := by show _ = _; rw [hcs, List.map_append]
        have hpp := hide hpre; have hpq := hide hpost; have hcc := hide hcs
        replace hI4 := hide hI4
        clear hT4 hR hT hA hI hsz hc hpre hpost hcs
        go_wp2_with fail
        go_loopw [10] (fun i wq => ∃ (k n : Nat), i = .int .i64 k ∧ Hid (wq = w4.drewN n) ∧ k ≤ pre.length) (fun i _ => pre.length - (intOf i).toNat)
        case atStart => exact ⟨0, 0, rfl, rfl, by omega⟩
        case round =>
          obtain ⟨k, n, rfl, hwq, hk⟩ := hrel
          have hRq : Rw wr base 23 1 encU bo cc (c.map (·.2)) := by rw [hwq.out]; exact hR4.out
          have hcq : wr.cell? (a.add done.length) = some (U y) := by rw [hwq.out]; exact hc4
          by_cases hkp : k < pre.length
          · obtain ⟨bw, hbw, hcw⟩ := hRq.at k (by simp; omega)
            have hkey : (c.map (·.2))[k]'(by simp; omega) = pre[k].2 := by rw [List.getElem_of_eq hcL.out, List.getElem_append_left (by simpa using hkp), List.getElem_map]
            rw [hkey] at hcw
            have hlt2 : decide (u pre[k].2 < u y) = true := by rw [decide_eq_true_eq]; exact hpp.out _ (List.getElem_mem hkp)
            have hkc : (k : Int) < (c.length : Int) := by omega
            subst hbw
            replace hRq := hide hRq
            clear hkey
            go_wp2_with fail
            go_quiet (fail)
            go_wp2_with fail
            go_roundw
            case rel => exact ⟨k + 1, n + nq, by simp, by show _ = _; rw [hwq.out, World.drewN_drewN], by omega⟩
            case measure => simp [intOf]; omega
          · obtain rfl : k = pre.length := by omega
            have hAq : x.At m4 wr := by rw [hwq.out]; exact hA4.drewN n
            have hTq : Tch [] w wr := by rw [hwq.out]; exact hT4'.out.drewN n
            have hszq : base ≤ wr.heap.size := by rw [hwq.out]; exact hsz4.out
            clear hwq hA4 hT4' hsz4 hc4 hR4 hk hkp
            cases post with
            | nil =>
              have hlc : c.length = pre.length := by rw [hcc.out]; simp
              have t1 : ((pre.length : Int) < (c.length : Int)) = False := by rw [hlc]; simp
              have t2 : ((pre.length : Int) == (c.length : Int)) = true := by rw [hlc]; simp
              have hE : hasKey y [] = false := rfl
              replace hlc := hide hlc; replace hRq := hide hRq; replace hTq := hide hTq
              go_wp2_with fail
              go_quiet (fail)
              go_wp2_with (first | (go_at_call 8; refine (num_any _ .i64 _).mono ?_; rintro e w' ⟨rfl, rfl⟩))
              go_quiet (fail)
              go_wp2_with (first | (go_at_call 8; refine (num_any _ .i64 _).mono ?_; rintro e w' ⟨rfl, rfl⟩))
              have hbl := hRq.out.block
              have hKq : KpL x m4 w base bo cc (c.map (·.2)) (a.add done.length) y wr.heap.size wr := ⟨hcq, hRq.out, hAq, hTq.out, Nat.le_refl _, ⟨hszq, hxb.1, hxb.2.1, hxb.2.2, hsz2⟩, fun a ha => (hbl a ha).2, cell_lt hcq⟩
              have hQf := hE
              have hI6 : Hid (Is 2000 m4 (7000000000000000000 + 10000 * rest.length) (insF f c.length (lastC 19 pre) c.length y (nextP ([])))) := by
                have := hI4.out; rw [if_neg (by rw [hE]; simp)] at this; exact this
              have hq6 : Hid (LSt 2000 (pre ++ (c.length, y) :: ([])).length (pre ++ (c.length, y) :: ([])) (insF f c.length (lastC 19 pre) c.length y (nextP ([])))) := by
                have hqc : LSt 2000 c.length (pre ++ ([])) f := hcc.out ▸ hq.out
                have hn : (pre ++ ([])).length = c.length := by rw [hcc.out]
                have hi := hqc.ins hpp.out (hqc.rise.above (fun y hy => Int.not_lt.2 (hpq.out y hy)) hE)
                rw [hn] at hi
                have hn2 : (pre ++ (c.length, y) :: ([])).length = c.length + 1 := by rw [← hn]; simp only [List.length_append, List.length_cons]; omega
                rw [hn2]; exact hi
              cases bo with
              | none =>
                have hnil := hRq.out.len_nil
                obtain ⟨hc0, rfl⟩ := hnil
                have hc1 : Hid (c = []) := by show _ = _; simpa using hc0
                have hpr0 : Hid (pre = []) := by
                  have h0 := hc1.out
                  have := hcc.out; rw [h0] at this; show _ = _; simpa using this.symm
                have hcl0 : c.length = 0 := by rw [hc1.out]; rfl
                have hpl0 : pre.length = 0 := by rw [hpr0.out]; rfl
                clear hc0
                generalize hWd : World.drewN wr _ = W
                have hKp : KpL x m4 w base none 0 (c.map (·.2)) (a.add done.length) y W.heap.size W := by rw [← hWd]; exact hKq.drewN _
                have hck : W.cell? (a.add done.length) = some (U y) := hKp.key
                clear hWd hKq hRq hAq hTq hcq
                go_region_held3 (fun v => v.cell? (a.add done.length) = some (U y) ∧ KpL x m4 w base none 0 (c.map (·.2)) (a.add done.length) y W.heap.size v) (exact ⟨KpL.key (by (repeat (first | assumption | (with_reducible apply KpL.drew) | (with_reducible apply KpL.alloc)))), by (repeat (first | assumption | (with_reducible apply KpL.drew) | (with_reducible apply KpL.alloc)))⟩)
                  (first | ((refine step_append_w (by rfl) (.tmp 102) (.tmp 105) (by rfl) W.heap.size _ _ _ [] (by rfl) rfl (rw_empty (by (first | exact heap_alloc_new _ _ | exact heap_new0 _ _ | exact heap_new1 _ _ _ | exact heap_new2 _ _ _)) (by simp)) [] (by exact rd_nil _) (fun c' h => by cases h; rfl) (by simp) (by simp; try omega) ?_; intro bo2 c2 w2 hR2 hG2; have hK2 := KpL.grown (x := x) (m := m4) (w := w) (base := base) (bo := none) (cc := 0) (L := c.map (·.2)) (ak := a.add done.length) (y := y) (B := W.heap.size) (by (repeat (first | assumption | (with_reducible apply KpL.drew) | (with_reducible apply KpL.alloc)))) hG2 (fun k hk => by simp at hk; omega))) | ((refine step_append_w (by rfl) (.tmp 106) (.tmp 111) (by rfl) W.heap.size _ _ _ ([] ++ []) (by rfl) (by simp) (by (repeat (first | assumption | (with_reducible apply Rw.drew) | (with_reducible apply Rw.alloc)))) [y] (rd_one (by first | exact heap_alloc_new _ _ | exact heap_new0 _ _ | (show w2.heap[_]? = _; rw [hG2.block _ (by (try simp); (try omega)) (by simp)]; (first | exact heap_alloc_new _ _ | exact heap_new0 _ _ | exact heap_new1 _ _ _ | exact heap_new2 _ _ _)))) (fun c' h => by cases h) (by simp) (by have := hK2.size; (try simp); omega) ?_; intro bo3 c3 w3 hR3 hG3; have hK3 := KpL.grown (x := x) (m := m4) (w := w) (base := base) (bo := none) (cc := 0) (L := c.map (·.2)) (ak := a.add done.length) (y := y) (B := W.heap.size) (by (repeat (first | assumption | (with_reducible apply KpL.drew) | (with_reducible apply KpL.alloc)))) hG3 hR2.row)) | ((refine step_append_w (by rfl) (.tmp 112) (.tmp 115) (by rfl) W.heap.size _ _ _ ([] ++ [] ++ [y]) (by rfl) (by simp) (by (repeat (first | assumption | (with_reducible apply Rw.drew) | (with_reducible apply Rw.alloc)))) [] (by exact rd_nil _) (fun c' h => by cases h; rfl) (by simp) (by have := hK3.size; (try simp); omega) ?_; intro bo4 c4 w4' hR4' hG4; have hK4 := KpL.grown (x := x) (m := m4) (w := w) (base := base) (bo := none) (cc := 0) (L := c.map (·.2)) (ak := a.add done.length) (y := y) (B := W.heap.size) (by (repeat (first | assumption | (with_reducible apply KpL.drew) | (with_reducible apply KpL.alloc)))) hG4 hR3.row)) | fail "no arm")
                all_goals (
                  go_wp2_with fail
                  go_roundw
                  case rel => exact ⟨done ++ [y], rest, pre ++ (c.length, y) :: [], m4, _, bo4, c4, by simp [hpl0], by simp, by show _ = _; rw [hks.out]; simp, KpL.at_ (show KpL x m4 w base none 0 (c.map (·.2)) (a.add done.length) y W.heap.size _ by (repeat (first | assumption | (with_reducible apply KpL.drew) | (with_reducible apply KpL.alloc)))), hI6, hq6, by (show _ ≤ _; simp only [List.length_append, List.length_cons, List.length_nil] at *; omega), by (have hl : ([] ++ [] ++ [y] ++ [] : List UInt64) = (pre ++ (c.length, y) :: []).map (·.2) := by rw [hpr0.out]; simp); rw [hl] at hR4'; exact (show Rw _ W.heap.size 23 1 encU bo4 c4 _ by (repeat (first | assumption | (with_reducible apply Rw.drew) | (with_reducible apply Rw.alloc)))).mono hK4.hB.1, KpL.tch (show KpL x m4 w base none 0 (c.map (·.2)) (a.add done.length) y W.heap.size _ by (repeat (first | assumption | (with_reducible apply KpL.drew) | (with_reducible apply KpL.alloc)))), Nat.le_trans hK4.hB.1 (KpL.size (show KpL x m4 w base none 0 (c.map (·.2)) (a.add done.length) y W.heap.size _ by (repeat (first | assumption | (with_reducible apply KpL.drew) | (with_reducible apply KpL.alloc)))))⟩
                  case measure => simp [intOf]; omega)
              | some ab =>
                obtain ⟨bw, bo', bs⟩ := ab
                have hhd := hRq.out.head _ rfl
                simp only [Addr.mk.injEq, true_and] at hhd
                obtain ⟨rfl, rfl⟩ := hhd
                have hcap := hRq.out.cap
                simp only [List.length_map] at hcap
                have hcap1 : pre.length ≤ cc := by omega
                have i1 : (0 : Int) ≤ (pre.length : Int) := by omega
                have i2 : (pre.length : Int) ≤ (cc : Int) := by omega
                have i3 : (pre.length : Int) ≤ (c.length : Int) := by omega
                generalize hWd : World.drewN wr _ = W
                have hKp : KpL x m4 w base (some ⟨bw, 0, none⟩) cc (c.map (·.2)) (a.add done.length) y W.heap.size W := by rw [← hWd]; exact hKq.drewN _
                have hck : W.cell? (a.add done.length) = some (U y) := hKp.key
                clear hWd hKq hRq hAq hTq hcq
                go_region_held3 (fun v => v.cell? (a.add done.length) = some (U y) ∧ KpL x m4 w base (some ⟨bw, 0, none⟩) cc (c.map (·.2)) (a.add done.length) y W.heap.size v) (exact ⟨KpL.key (by (repeat (first | assumption | (with_reducible apply KpL.drew) | (with_reducible apply KpL.alloc)))), by (repeat (first | assumption | (with_reducible apply KpL.drew) | (with_reducible apply KpL.alloc)))⟩)
                  (first | ((refine step_append_w (by rfl) (.tmp 102) (.tmp 105) (by rfl) W.heap.size _ _ _ [] (by rfl) rfl (rw_empty (by (first | exact heap_alloc_new _ _ | exact heap_new0 _ _ | exact heap_new1 _ _ _ | exact heap_new2 _ _ _)) (by simp)) (pre.map (·.2)) (by exact KpL.rd_take (by (repeat (first | assumption | (with_reducible apply KpL.drew) | (with_reducible apply KpL.alloc)))) hcL.out (by simp)) (fun c' h => by cases h) (by simp; omega) (by simp; try omega) ?_; intro bo2 c2 w2 hR2 hG2; have hK2 := KpL.grown (x := x) (m := m4) (w := w) (base := base) (bo := some ⟨bw, 0, none⟩) (cc := cc) (L := c.map (·.2)) (ak := a.add done.length) (y := y) (B := W.heap.size) (by (repeat (first | assumption | (with_reducible apply KpL.drew) | (with_reducible apply KpL.alloc)))) hG2 (fun k hk => by simp at hk; omega))) | ((refine step_append_w (by rfl) (.tmp 106) (.tmp 111) (by rfl) W.heap.size _ _ _ ([] ++ pre.map (·.2)) (by rfl) (by simp) (by (repeat (first | assumption | (with_reducible apply Rw.drew) | (with_reducible apply Rw.alloc)))) [y] (rd_one (by first | exact heap_alloc_new _ _ | exact heap_new0 _ _ | (show w2.heap[_]? = _; rw [hG2.block _ (by (try simp); (try omega)) (by simp)]; (first | exact heap_alloc_new _ _ | exact heap_new0 _ _ | exact heap_new1 _ _ _ | exact heap_new2 _ _ _)))) (fun c' h => by cases h) (by simp; omega) (by have := hK2.size; (try simp); omega) ?_; intro bo3 c3 w3 hR3 hG3; have hK3 := KpL.grown (x := x) (m := m4) (w := w) (base := base) (bo := some ⟨bw, 0, none⟩) (cc := cc) (L := c.map (·.2)) (ak := a.add done.length) (y := y) (B := W.heap.size) (by (repeat (first | assumption | (with_reducible apply KpL.drew) | (with_reducible apply KpL.alloc)))) hG3 hR2.row)) | ((refine step_append_w (by rfl) (.tmp 112) (.tmp 115) (by rfl) W.heap.size _ _ _ ([] ++ pre.map (·.2) ++ [y]) (by rfl) (by simp) (by (repeat (first | assumption | (with_reducible apply Rw.drew) | (with_reducible apply Rw.alloc)))) (([] : List (Nat × UInt64)).map (·.2)) (by first | exact KpL.rd_rest (by (repeat (first | assumption | (with_reducible apply KpL.drew) | (with_reducible apply KpL.alloc)))) hcL.out (by simp) (by simp) | exact KpL.rd_drop (by (repeat (first | assumption | (with_reducible apply KpL.drew) | (with_reducible apply KpL.alloc)))) hcL.out (by have h9 := congrArg List.length hcL.out; simp at h9 ⊢; omega) (fun _ => by simp)) (by first | exact fun c' h => rest_ne h | exact fun c' h => by cases h) (by simp; omega) (by have := hK3.size; (try simp); omega) ?_; intro bo4 c4 w4' hR4' hG4; have hK4 := KpL.grown (x := x) (m := m4) (w := w) (base := base) (bo := some ⟨bw, 0, none⟩) (cc := cc) (L := c.map (·.2)) (ak := a.add done.length) (y := y) (B := W.heap.size) (by (repeat (first | assumption | (with_reducible apply KpL.drew) | (with_reducible apply KpL.alloc)))) hG4 hR3.row)) | fail "no arm")
                all_goals (
                  go_wp2_with fail
                  go_roundw
                  case rel => exact ⟨done ++ [y], rest, pre ++ (c.length, y) :: ([]), m4, _, bo4, c4, by simp, by simp, by show _ = _; rw [hks.out]; simp, KpL.at_ (show KpL x m4 w base (some ⟨bw, 0, none⟩) cc (c.map (·.2)) (a.add done.length) y W.heap.size _ by (repeat (first | assumption | (with_reducible apply KpL.drew) | (with_reducible apply KpL.alloc)))), hI6, hq6, by show _ ≤ _; simp only [List.length_append, List.length_cons, List.length_nil] at *; omega, by (have hl : [] ++ pre.map (·.2) ++ [y] ++ ([] : List (Nat × UInt64)).map (·.2) = (pre ++ (c.length, y) :: []).map (·.2) := by simp); rw [hl] at hR4'; exact (show Rw _ W.heap.size 23 1 encU bo4 c4 _ by (repeat (first | assumption | (with_reducible apply Rw.drew) | (with_reducible apply Rw.alloc)))).mono hK4.hB.1, KpL.tch (show KpL x m4 w base (some ⟨bw, 0, none⟩) cc (c.map (·.2)) (a.add done.length) y W.heap.size _ by (repeat (first | assumption | (with_reducible apply KpL.drew) | (with_reducible apply KpL.alloc)))), Nat.le_trans hK4.hB.1 (KpL.size (show KpL x m4 w base (some ⟨bw, 0, none⟩) cc (c.map (·.2)) (a.add done.length) y W.heap.size _ by (repeat (first | assumption | (with_reducible apply KpL.drew) | (with_reducible apply KpL.alloc)))))⟩
                  case measure => simp [intOf]; omega)
            | cons z r =>
              obtain ⟨zi, zk⟩ := z
              have hlc : pre.length < c.length := by rw [hcc.out]; simp
              have hrl : pre.length + r.length + 1 ≤ c.length := by rw [hcc.out]; simp; omega
              obtain ⟨bw, hbw, hcw⟩ := hRq.at pre.length (by simpa using hlc)
              have hkey : (c.map (·.2))[pre.length]'(by simpa using hlc) = zk := by rw [List.getElem_of_eq hcL.out, List.getElem_append_right (by simp)]; simp
              rw [hkey] at hcw
              have t0 : (pre.length : Int) < (c.length : Int) := by omega
              have t1 : decide (u zk < u y) = false := by rw [decide_eq_false_iff_not]; have := hpq.out (zi, zk) (by simp); simp only at this; omega
              have t2 : ((pre.length : Int) == (c.length : Int)) = false := by rw [beq_eq_false_iff_ne]; omega
              subst hbw
              replace hRq := hide hRq; replace hTq := hide hTq
              clear hkey
              cases hE : hasKey y ((zi, zk) :: r)
              · have t3 : (zk != y) = true := by simp only [hasKey] at hE; simp [bne, hE]
                go_wp2_with fail
                go_quiet (fail)
                go_wp2_with (first | (go_at_call 8; refine (num_any _ .i64 _).mono ?_; rintro e w' ⟨rfl, rfl⟩))
                go_quiet (fail)
                go_wp2_with (first | (go_at_call 8; refine (num_any _ .i64 _).mono ?_; rintro e w' ⟨rfl, rfl⟩))
                have hQf := hE
                have hI6 : Hid (Is 2000 m4 (7000000000000000000 + 10000 * rest.length) (insF f c.length (lastC 19 pre) c.length y (nextP ((zi, zk) :: r)))) := by
                  have := hI4.out; rw [if_neg (by rw [hE]; simp)] at this; exact this
                have hq6 : Hid (LSt 2000 (pre ++ (c.length, y) :: ((zi, zk) :: r)).length (pre ++ (c.length, y) :: ((zi, zk) :: r)) (insF f c.length (lastC 19 pre) c.length y (nextP ((zi, zk) :: r)))) := by
                  have hqc : LSt 2000 c.length (pre ++ ((zi, zk) :: r)) f := hcc.out ▸ hq.out
                  have hn : (pre ++ ((zi, zk) :: r)).length = c.length := by rw [hcc.out]
                  have hi := hqc.ins hpp.out (hqc.rise.above (fun y hy => Int.not_lt.2 (hpq.out y hy)) hE)
                  rw [hn] at hi
                  have hn2 : (pre ++ (c.length, y) :: ((zi, zk) :: r)).length = c.length + 1 := by rw [← hn]; simp only [List.length_append, List.length_cons]; omega
                  rw [hn2]; exact hi
                have hbl := hRq.out.block
                have hKq : KpL x m4 w base (some ⟨bw, 0, none⟩) cc (c.map (·.2)) (a.add done.length) y wr.heap.size wr := ⟨hcq, hRq.out, hAq, hTq.out, Nat.le_refl _, ⟨hszq, hxb.1, hxb.2.1, hxb.2.2, hsz2⟩, fun a ha => (hbl a ha).2, cell_lt hcq⟩
                have hcap := hRq.out.cap
                simp only [List.length_map] at hcap
                have hcap1 : pre.length ≤ cc := by omega
                have i1 : (0 : Int) ≤ (pre.length : Int) := by omega
                have i2 : (pre.length : Int) ≤ (cc : Int) := by omega
                have i3 : (pre.length : Int) ≤ (c.length : Int) := by omega
                generalize hWd : World.drewN wr _ = W
                have hKp : KpL x m4 w base (some ⟨bw, 0, none⟩) cc (c.map (·.2)) (a.add done.length) y W.heap.size W := by rw [← hWd]; exact hKq.drewN _
                have hck : W.cell? (a.add done.length) = some (U y) := hKp.key
                clear hWd hKq hRq hAq hTq hcq
                go_region_held3 (fun v => v.cell? (a.add done.length) = some (U y) ∧ KpL x m4 w base (some ⟨bw, 0, none⟩) cc (c.map (·.2)) (a.add done.length) y W.heap.size v) (exact ⟨KpL.key (by (repeat (first | assumption | (with_reducible apply KpL.drew) | (with_reducible apply KpL.alloc)))), by (repeat (first | assumption | (with_reducible apply KpL.drew) | (with_reducible apply KpL.alloc)))⟩)
                  (first | ((refine step_append_w (by rfl) (.tmp 102) (.tmp 105) (by rfl) W.heap.size _ _ _ [] (by rfl) rfl (rw_empty (by (first | exact heap_alloc_new _ _ | exact heap_new0 _ _ | exact heap_new1 _ _ _ | exact heap_new2 _ _ _)) (by simp)) (pre.map (·.2)) (by exact KpL.rd_take (by (repeat (first | assumption | (with_reducible apply KpL.drew) | (with_reducible apply KpL.alloc)))) hcL.out (by simp)) (fun c' h => by cases h) (by simp; omega) (by simp; try omega) ?_; intro bo2 c2 w2 hR2 hG2; have hK2 := KpL.grown (x := x) (m := m4) (w := w) (base := base) (bo := some ⟨bw, 0, none⟩) (cc := cc) (L := c.map (·.2)) (ak := a.add done.length) (y := y) (B := W.heap.size) (by (repeat (first | assumption | (with_reducible apply KpL.drew) | (with_reducible apply KpL.alloc)))) hG2 (fun k hk => by simp at hk; omega))) | ((refine step_append_w (by rfl) (.tmp 106) (.tmp 111) (by rfl) W.heap.size _ _ _ ([] ++ pre.map (·.2)) (by rfl) (by simp) (by (repeat (first | assumption | (with_reducible apply Rw.drew) | (with_reducible apply Rw.alloc)))) [y] (rd_one (by first | exact heap_alloc_new _ _ | exact heap_new0 _ _ | (show w2.heap[_]? = _; rw [hG2.block _ (by (try simp); (try omega)) (by simp)]; (first | exact heap_alloc_new _ _ | exact heap_new0 _ _ | exact heap_new1 _ _ _ | exact heap_new2 _ _ _)))) (fun c' h => by cases h) (by simp; omega) (by have := hK2.size; (try simp); omega) ?_; intro bo3 c3 w3 hR3 hG3; have hK3 := KpL.grown (x := x) (m := m4) (w := w) (base := base) (bo := some ⟨bw, 0, none⟩) (cc := cc) (L := c.map (·.2)) (ak := a.add done.length) (y := y) (B := W.heap.size) (by (repeat (first | assumption | (with_reducible apply KpL.drew) | (with_reducible apply KpL.alloc)))) hG3 hR2.row)) | ((refine step_append_w (by rfl) (.tmp 112) (.tmp 115) (by rfl) W.heap.size _ _ _ ([] ++ pre.map (·.2) ++ [y]) (by rfl) (by simp) (by (repeat (first | assumption | (with_reducible apply Rw.drew) | (with_reducible apply Rw.alloc)))) (((zi, zk) :: r).map (·.2)) (by first | exact KpL.rd_rest (by (repeat (first | assumption | (with_reducible apply KpL.drew) | (with_reducible apply KpL.alloc)))) hcL.out (by simp) (by simp) | exact KpL.rd_drop (by (repeat (first | assumption | (with_reducible apply KpL.drew) | (with_reducible apply KpL.alloc)))) hcL.out (by have h9 := congrArg List.length hcL.out; simp at h9 ⊢; omega) (fun _ => by simp)) (by first | exact fun c' h => rest_ne h | exact fun c' h => by cases h) (by simp; omega) (by have := hK3.size; (try simp); omega) ?_; intro bo4 c4 w4' hR4' hG4; have hK4 := KpL.grown (x := x) (m := m4) (w := w) (base := base) (bo := some ⟨bw, 0, none⟩) (cc := cc) (L := c.map (·.2)) (ak := a.add done.length) (y := y) (B := W.heap.size) (by (repeat (first | assumption | (with_reducible apply KpL.drew) | (with_reducible apply KpL.alloc)))) hG4 hR3.row)) | fail "no arm")
                all_goals (
                  go_wp2_with fail
                  go_roundw
                  case rel => exact ⟨done ++ [y], rest, pre ++ (c.length, y) :: ((zi, zk) :: r), m4, _, bo4, c4, by simp, by simp, by show _ = _; rw [hks.out]; simp, KpL.at_ (show KpL x m4 w base (some ⟨bw, 0, none⟩) cc (c.map (·.2)) (a.add done.length) y W.heap.size _ by (repeat (first | assumption | (with_reducible apply KpL.drew) | (with_reducible apply KpL.alloc)))), hI6, hq6, by show _ ≤ _; simp only [List.length_append, List.length_cons, List.length_nil] at *; omega, by (have hl : [] ++ pre.map (·.2) ++ [y] ++ ((zi, zk) :: r).map (·.2) = (pre ++ (c.length, y) :: ((zi, zk) :: r)).map (·.2) := by simp); rw [hl] at hR4'; exact (show Rw _ W.heap.size 23 1 encU bo4 c4 _ by (repeat (first | assumption | (with_reducible apply Rw.drew) | (with_reducible apply Rw.alloc)))).mono hK4.hB.1, KpL.tch (show KpL x m4 w base (some ⟨bw, 0, none⟩) cc (c.map (·.2)) (a.add done.length) y W.heap.size _ by (repeat (first | assumption | (with_reducible apply KpL.drew) | (with_reducible apply KpL.alloc)))), Nat.le_trans hK4.hB.1 (KpL.size (show KpL x m4 w base (some ⟨bw, 0, none⟩) cc (c.map (·.2)) (a.add done.length) y W.heap.size _ by (repeat (first | assumption | (with_reducible apply KpL.drew) | (with_reducible apply KpL.alloc)))))⟩
                  case measure => simp [intOf]; omega)
              · have t3 : (zk != y) = false := by simp only [hasKey] at hE; simp [bne, hE]
                go_wp2_with fail
                go_quiet (fail)
                go_wp2_with (first | (go_at_call 8; refine (num_any _ .i64 _).mono ?_; rintro e w' ⟨rfl, rfl⟩))
                go_quiet (fail)
                go_wp2_with (first | (go_at_call 8; refine (num_any _ .i64 _).mono ?_; rintro e w' ⟨rfl, rfl⟩))
                go_roundw
                case rel => exact ⟨done ++ [y], rest, c, m4, f, _, cc, rfl, by simp, by show _ = _; rw [hks.out]; simp, hAq.drewN _, by (have := hI4.out; rw [if_pos hE] at this; exact this), hq, by (show _ ≤ _; rw [List.length_append]; have := hcl.out; omega), hRq.out.drewN _, hTq.out.drewN _, hszq⟩
                case measure => simp [intOf]; omega
end Go.Proofs.Ytkfonlpglkfpgaa
