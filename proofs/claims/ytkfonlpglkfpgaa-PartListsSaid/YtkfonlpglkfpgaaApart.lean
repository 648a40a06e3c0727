/- parleykit.Apart. -/
import Derived.Test.YtkfonlpglkfpgaaApp
namespace Go.Proofs.Ytkfonlpglkfpgaa
set_option linter.unusedSimpArgs false
set_option linter.unusedVariables false
open Go.RowKit

def mk (j : Nat) : UInt64 := 1099511627776 + UInt64.ofNat j

/-- The rows that are handed in. -/
structure RowsOf where
  base : Nat
  N : Nat
  bo : Nat → Option Addr
  c : Nat → Nat
  n : Nat → Nat
/-- They are in blocks of their own. -/
structure RowsOf.Ok (R : RowsOf) (lb : Nat) : Prop where
  dist : ∀ i j a b, i < R.N → j < R.N → i ≠ j → R.bo i = some a → R.bo j = some b → a.block ≠ b.block
  lb : ∀ i a, i < R.N → R.bo i = some a → a.block ≠ lb

/-- Of the rows so many elements bear their mark. -/
def P1 (R : RowsOf) (w : World) (i k : Nat) : Prop :=
  ∀ j, j < R.N → ∃ xs : List UInt64, xs.length = R.n j ∧ Rw w R.base 23 1 encU (R.bo j) (R.c j) xs ∧ ∀ q, q < R.n j → (j < i ∨ (j = i ∧ q < k)) → xs[q]? = some (mk j)

theorem P1.step {R : RowsOf} {lb : Nat} (ok : R.Ok lb) {w : World} {i k b : Nat} (h : P1 R w i k) (hi : i < R.N) (hk : k < R.n i) (hb : R.bo i = some ⟨b, 0, none⟩) : P1 R (w.setCell ⟨b, k, none⟩ (U (mk i))) i (k + 1) := by
  intro j hj
  obtain ⟨xs, hl, hR, hm⟩ := h j hj
  by_cases hij : j = i
  · subst hij
    rw [hb] at hR ⊢
    refine ⟨xs.set k (mk j), by simpa using hl, hR.setU k (mk j), fun q hq hor => ?_⟩
    by_cases hqk : q = k
    · subst hqk; rw [List.getElem?_set_self (by omega)]
    · rw [List.getElem?_set_ne (by omega)]
      exact hm q hq (by omega)
  · refine ⟨xs, hl, hR.setOther _ _ (fun a ha => ok.dist j i a ⟨b, 0, none⟩ hj hi hij ha hb), fun q hq hor => hm q hq (by omega)⟩
theorem P1.next {R : RowsOf} {w : World} {i k : Nat} (h : P1 R w i k) (hk : R.n i ≤ k) : P1 R w (i + 1) 0 := by
  intro j hj
  obtain ⟨xs, hl, hR, hm⟩ := h j hj
  refine ⟨xs, hl, hR, fun q hq hor => hm q hq ?_⟩
  by_cases hij : j = i
  · subst hij; omega
  · omega
theorem P1.done {R : RowsOf} {w : World} {k : Nat} (h : P1 R w R.N k) : ∀ j, j < R.N → Rw w R.base 23 1 encU (R.bo j) (R.c j) (List.replicate (R.n j) (mk j)) := by
  intro j hj
  obtain ⟨xs, hl, hR, hm⟩ := h j hj
  have : xs = List.replicate (R.n j) (mk j) := by
    apply List.ext_getElem? 
    intro q
    by_cases hq : q < R.n j
    · rw [hm q hq (.inl hj), List.getElem?_replicate, if_pos hq]
    · rw [List.getElem?_eq_none (by omega), List.getElem?_eq_none (by simp; omega)]
  rw [← this]; exact hR

theorem cell_of_heap {w w' : World} {lb j : Nat} {v : Value} (h : w'.heap[lb]? = w.heap[lb]?) (hc : w.cell? ⟨lb, j, none⟩ = some v) : w'.cell? ⟨lb, j, none⟩ = some v := (cell_congr h).trans hc

theorem elemS : ElemOk Try.prog 75 22 1 24 := ⟨Try.underlying75, info_parts (show (Try.prog.info? 22).map (fun i => (i.zero, i.size, i.bytes)) = some (some (.slice none 0 0), 1, 24) by kernel_rfl) |>.elim fun i h => ⟨i, .slice none 0 0, h.1, h.2.1, h.2.2.1, h.2.2.2, rfl, by decide⟩⟩
/-- A slice as an element. -/
def vS (r : Option Addr × Nat × Nat) : Value := .slice r.1 r.2.2 r.2.1
def obl (o : Option Addr) : List Nat := match o with | some a => [a.block] | none => []
theorem mem_obl {o : Option Addr} {k : Nat} (h : k ∈ obl o) : ∃ a, o = some a ∧ k = a.block := by
  cases o with
  | none => simp [obl] at h
  | some a => simp only [obl, List.mem_cons, List.not_mem_nil, or_false] at h; exact ⟨a, rfl, h⟩
def SameW (a b : World) : Prop := a = b
theorem SameW.out {a b : World} (h : SameW a b) : a = b := h
/-- The longer rows. -/
def P2 (R : RowsOf) (s0 : Nat) (wr : World) (lbo : Option Addr) (L : List (Option Addr × Nat × Nat)) : Prop :=
  ∀ j r, L[j]? = some r → r.2.2 = R.n j + 20 ∧ Rw wr R.base 23 1 encU r.1 r.2.1 (List.replicate (R.n j + 20) (mk j)) ∧ (r.1 = R.bo j ∨ ∀ a, r.1 = some a → s0 ≤ a.block) ∧ (∀ a b, r.1 = some a → lbo = some b → a.block ≠ b.block)

/-- What one append onto row i leaves. -/
theorem inner_step {R : RowsOf} {i : Nat} {wi wq w2 : World} {base : Nat} {bm bo' : Option Addr} {xs : List UInt64} {y : UInt64} (hT : Tch (obl (R.bo i)) wi wq) (hs : ∀ a, R.bo i = some a → a.block < wi.heap.size)
    (hm : bm = R.bo i ∨ ∀ a, bm = some a → wi.heap.size ≤ a.block) (hR : Rw wq base 23 1 encU (R.bo i) (R.c i) (List.replicate (R.n i) y)) (hx : R.n i ≤ xs.length) (o : Obj)
    (hG : (wq.alloc o).grownBy w2 (bm.map (·.block))) (hk : ∀ base' c0 (zs : List UInt64), zs.length ≤ xs.length → Rw (wq.alloc o) base' 23 1 encU bm c0 zs → Rw w2 base' 23 1 encU bm c0 zs) (hn : bo' = bm ∨ ∀ a, bo' = some a → (wq.alloc o).heap.size ≤ a.block) :
    Tch (obl (R.bo i)) wi w2 ∧ Rw w2 base 23 1 encU (R.bo i) (R.c i) (List.replicate (R.n i) y) ∧ (bo' = R.bo i ∨ ∀ a, bo' = some a → wi.heap.size ≤ a.block) := by
  refine ⟨?_, ?_, ?_⟩
  · refine (hT.alloc o).grown hG ?_
    intro k hk
    cases bm with
    | none => simp at hk
    | some a =>
      simp only [Option.map_some, Option.some.injEq] at hk
      rcases hm with hm | hm
      · right; rw [← hm]; simp [obl, hk]
      · left; have := hm a rfl; omega
  · rcases hm with hm | hm
    · rw [hm] at hk; exact hk _ _ _ (by simpa using hx) (hR.alloc o)
    · refine (hR.alloc o).kept fun a ha => hG.block _ ((hR.alloc o).block a ha).2 (fun e => ?_)
      cases bm with
      | none => simp at e
      | some b => simp only [Option.map_some, Option.some.injEq] at e; have := hm b rfl; have := hs a ha; omega
  · have hsz := hT.size
    simp only [World.size_alloc] at hn
    rcases hn with rfl | hn
    · exact hm
    · exact .inr fun a ha => by have := hn a ha; omega

set_option maxRecDepth 4000 in
set_option maxHeartbeats 3200000 in
theorem apart_any (R : RowsOf) (lb : Nat) (ok : R.Ok lb) (w : World) (hbase : R.base ≤ w.heap.size)
    (hl : ∀ j, j < R.N → w.cell? ⟨lb, j, none⟩ = some (.slice (R.bo j) (R.n j) (R.c j))) (hlb : lb < w.heap.size) (hP : P1 R w 0 0) (hn : ∀ j, R.n j ≤ 100000) (hN : R.N ≤ 100000) :
    Calls Try.prog 19 #[.slice (some ⟨lb, 0, none⟩) R.N R.N] w fun e w' => e = .returned (.bool true) ∧ Fr R.base w w' := by
  replace hl := hide hl; replace hn := hide hn; replace hP := hide hP
  go_enter Try.func19, Try.ntmps19
  go_wp2_with fail
  go_loopw [3] (fun i wr => ∃ k : Nat, i = .int .i64 k ∧ k ≤ R.N ∧ Hid (P1 R wr k 0) ∧ Fr R.base w wr ∧ wr.heap[lb]? = w.heap[lb]?) (fun i _ => R.N - (intOf i).toNat)
  case atStart => exact ⟨0, rfl, by omega, hP, Fr.refl _ _, rfl⟩
  case round =>
    obtain ⟨i, rfl, hiN, hp, hF, hlh⟩ := hrel
    have hni := hn.out i
    by_cases hi : i < R.N
    · have hcl := cell_of_heap hlh (hl.out i hi)
      go_wp2_with fail
      go_loopw [4] (fun q wq => ∃ k : Nat, q = .int .i64 k ∧ k ≤ R.n i ∧ Hid (P1 R wq i k) ∧ Fr R.base w wq ∧ wq.heap[lb]? = w.heap[lb]?) (fun q _ => R.n i - (intOf q).toNat)
      case atStart => exact ⟨0, rfl, by omega, hp, hF, hlh⟩
      case round =>
        clear hp hF hlh hcl
        obtain ⟨k, rfl, hkn, hp, hF, hlh⟩ := hrel
        have hcl := cell_of_heap hlh (hl.out i hi)
        by_cases hk : k < R.n i
        · obtain ⟨xs, hxl, hR, _⟩ := hp.out i hi
          obtain ⟨b, hb, _⟩ := hR.cell encU_len k 0 (xs[k]'(by omega)) (by simp [hxl, hk]) (U (xs[k]'(by omega))) rfl
          rw [hb] at hR
          have hfz := hR.frozen _ rfl k
          have hpn := hide (hp.out.step ok hi hk hb)
          have hbb := hR.block _ rfl
          simp only at hbb
          have hblb : b ≠ lb := fun e => ok.lb i _ hi hb e
          obtain ⟨b', hb', hce⟩ := hR.cell encU_len k 0 (xs[k]'(by omega)) (by simp [hxl, hk]) (U (xs[k]'(by omega))) rfl
          obtain rfl : b = b' := by simpa using hb'
          rw [Nat.mul_one, Nat.add_zero] at hce
          rw [hb] at hcl
          replace hF := hide hF; replace hR := hide hR; replace hb := hide hb
          clear hp hb'
          go_wp2_with fail
          go_roundw
          case rel => exact ⟨k + 1, by simp, by omega, hpn, hF.out.setCell _ hbb.1, by rw [Below.heap_setCell _ _ _ _ (by simp only; omega)]; exact hlh⟩
          case measure => simp [intOf]; omega
        · go_wp2_with fail
          go_roundw
          case rel => exact ⟨i + 1, by simp, by omega, hp.out.next (by omega), hF, hlh⟩
          case measure => simp [intOf]; omega
    · obtain rfl : i = R.N := by omega
      have hD := hide hp.out.done
      clear hp
      go_wp2_with fail
      have hbw : ∀ j, j < R.N → ∀ a, R.bo j = some a → R.base ≤ a.block ∧ a.block < w.heap.size := fun j hj a ha => by
        obtain ⟨xs, _, hR, _⟩ := hP.out j hj
        exact hR.block a ha
      replace hbw := hide hbw
      go_loopw [5, 6] (fun l i w3 => ∃ (lbo : Option Addr) (lc : Nat) (L : List (Option Addr × Nat × Nat)), l = .slice lbo L.length lc ∧ i = .int .i64 L.length ∧ L.length ≤ R.N ∧ Hid (Rw w3 w.heap.size 22 1 (fun y => [vS y]) lbo lc L) ∧ Hid (P2 R w.heap.size w3 lbo L) ∧
        Hid (∀ j, j < R.N → Rw w3 R.base 23 1 encU (R.bo j) (R.c j) (List.replicate (R.n j) (mk j))) ∧ Fr R.base w w3 ∧ w3.heap[lb]? = w.heap[lb]?) (fun _ i _ => R.N - (intOf i).toNat)
      case atStart => exact ⟨none, 0, [], rfl, rfl, by simp, Rw.nil _ _ _ _ _, fun j r hr => by simp at hr, hD, hF, hlh⟩
      case round =>
        clear hD hF hlh hni
        obtain ⟨lbo, lc, L, rfl, rfl, hLN, hRl, hP2, hD, hF, hlh⟩ := hrel
        rename World => w3
        have hsz3 := hF.size
        by_cases hi : L.length < R.N
        · have hni := hn.out L.length
          have hcl := cell_of_heap hlh (hl.out _ hi)
          go_wp2_with fail
          go_loopw [7, 8] (fun mm q w4 => ∃ (bm : Option Addr) (cm : Nat) (xs : List UInt64) (k : Nat), mm = .slice bm xs.length cm ∧ q = .int .i64 k ∧ k ≤ 20 ∧ Hid (xs = List.replicate (R.n L.length + k) (mk L.length)) ∧ Hid (Rw w4 R.base 23 1 encU bm cm xs) ∧ Hid (Rw w4 R.base 23 1 encU (R.bo L.length) (R.c L.length) (List.replicate (R.n L.length) (mk L.length))) ∧
            Hid (Tch (obl (R.bo L.length)) w3 w4) ∧ Hid (bm = R.bo L.length ∨ ∀ a, bm = some a → w3.heap.size ≤ a.block)) (fun _ q _ => 20 - (intOf q).toNat)
          case atStart => exact ⟨R.bo L.length, R.c L.length, List.replicate (R.n L.length) (mk L.length), 0, by simp, rfl, by omega, by show _ = _; simp, hD.out _ hi, hD.out _ hi, Tch.refl _ _, .inl rfl⟩
          case round =>
            clear hcl
            obtain ⟨bm, cm, xs, k, rfl, rfl, hk20, hxs, hRm, hRi, hTi, hor⟩ := hrel
            have hxl : xs.length = R.n L.length + k := by rw [hxs.out]; simp
            have hxle : xs.length ≤ 100020 := by omega
            replace hxl := hide hxl
            rename World => w4
            have hsz4 := hTi.out.size
            by_cases hk : k < 20
            · have hk2 : (k : Int) + 1 ≤ 20 := by omega
              go_wp2_with (first | (at_builtin; refine wpList_append_m rfl (.tmp 49) (.tmp 53) 22 23 8 rfl elemU R.base U (fun _ => rfl) bm cm xs rfl (hRm.out.alloc _) ⟨_, 0, none⟩ 1 (mk L.length) rfl (by rw [cell_of_row _ _ 0 _ 23 (0, 0) (heap_alloc_new _ _)]; rfl) (by unfold maxLen; omega) (by omega) (by simp only [World.size_alloc]; omega) ?_; intro bo' c' w5 hR5 hG hkeep hnew5))
              obtain ⟨q1, q2, q3⟩ := inner_step hTi.out (fun a ha => by have := (hbw.out _ hi a ha).2; omega) hor.out hRi.out (by have := hxl.out; omega) _ hG hkeep hnew5
              go_roundw
              case rel => exact ⟨bo', c', xs ++ [mk L.length], k + 1, by simp, by simp, by omega, by show _ = _; rw [hxs.out, show R.n L.length + (k + 1) = R.n L.length + k + 1 by omega, List.replicate_succ'], hR5, q2, q1, q3⟩
              case measure => simp [intOf]; omega
            · have hk20 : k = 20 := by omega
              subst hk20
              have hTi' := hTi.out
              have hlbw := hlb
              have hRlb := hRl.out.block
              have hRl4 : Rw w4 w.heap.size 22 1 (fun y => [vS y]) lbo lc L := hRl.out.kept fun a ha => hTi'.block _ (hRlb a ha).2 (fun hm => by
                obtain ⟨b, hb, he⟩ := mem_obl hm
                have := (hbw.out _ hi b hb).2; have := (hRlb a ha).1; omega)
              have hD4 : Hid (∀ j, j < R.N → Rw w4 R.base 23 1 encU (R.bo j) (R.c j) (List.replicate (R.n j) (mk j))) := fun j hj => by
                by_cases hij : j = L.length
                · subst hij; exact hRi.out
                · refine (hD.out j hj).kept fun a ha => hTi'.block _ ((hD.out j hj).block a ha).2 (fun hm => ?_)
                  obtain ⟨b, hb, he⟩ := mem_obl hm
                  exact ok.dist j L.length a b hj hi hij ha hb he
              have hP4 : P2 R w.heap.size w4 lbo L := fun j r hr => by
                obtain ⟨e1, e2, e3, e4⟩ := hP2.out j r hr
                have hj : j < L.length := (List.getElem?_eq_some_iff.1 hr).1
                refine ⟨e1, e2.kept fun a ha => hTi'.block _ (e2.block a ha).2 (fun hm => ?_), e3, e4⟩
                obtain ⟨b, hb, he⟩ := mem_obl hm
                rcases e3 with e3 | e3
                · exact ok.dist j L.length a b (by omega) hi (by omega) (e3 ▸ ha) hb he
                · have := e3 a ha; have := (hbw.out _ hi b hb).2; omega
              have hF4 : Fr R.base w w4 := hF.tch hTi' (fun x hm => by obtain ⟨b, hb, he⟩ := mem_obl hm; have := (hbw.out _ hi b hb).1; omega) (by omega)
              have hlh4 : w4.heap[lb]? = w.heap[lb]? := (hTi'.block lb (by omega) (fun hm => by obtain ⟨b, hb, he⟩ := mem_obl hm; exact ok.lb _ b hi hb he.symm)).trans hlh
              have hsep : ∀ a b, bm = some a → lbo = some b → a.block ≠ b.block := fun a b ha hb => by
                have h2 := hRlb b hb
                rcases hor.out with h1 | h1
                · have := (hbw.out _ hi a (h1 ▸ ha)).2; omega
                · have := h1 a ha; omega
              have hor4 : bm = R.bo L.length ∨ ∀ a, bm = some a → w.heap.size ≤ a.block := by
                rcases hor.out with h1 | h1
                · exact .inl h1
                · exact .inr fun a ha => by have := h1 a ha; omega
              replace hRl4 := hide hRl4; replace hP4 := hide hP4; replace hsep := hide hsep; replace hor4 := hide hor4
              replace hRlb := hide hRlb
              clear hTi hTi' hor hRi hRl hD hP2 hF hlh
              go_wp2_with (first | (at_builtin; refine wpList_append_m rfl (.tmp 55) (.tmp 57) 75 22 24 rfl elemS w.heap.size vS (fun _ => rfl) lbo lc L rfl (hRl4.out.alloc _) ⟨_, 0, none⟩ 1 (bm, cm, xs.length) rfl (by rw [cell_of_row _ _ 0 _ 22 (0, 0) (heap_alloc_new _ _)]; rfl) (by unfold maxLen; omega) (by omega) (by simp only [World.size_alloc]; omega) ?_; intro lbo' lc' w5 hR5 hG hkeep hnew5))
              have hb5 : ∀ k, k < w4.heap.size → (∀ b, lbo = some b → k ≠ b.block) → w5.heap[k]? = w4.heap[k]? := fun k hk hne => by
                rw [hG.block k (by simp only [World.size_alloc]; omega) (fun e => by
                  cases lbo with
                  | none => simp at e
                  | some b => simp only [Option.map_some, Option.some.injEq] at e; exact hne b rfl e), Below.heap_alloc _ _ _ hk]
              have hlb5 : ∀ a b, lbo' = some b → a < w4.heap.size → (∀ c, lbo = some c → a ≠ c.block) → a ≠ b.block := fun a b hb ha hne => by
                rcases hnew5 with h1 | h1
                · exact hne b (h1 ▸ hb)
                · have := h1 b hb; simp only [World.size_alloc] at this; omega
              have hrowne : ∀ j, j < R.N → ∀ a, R.bo j = some a → ∀ b, lbo = some b → a.block ≠ b.block := fun j hj a ha b hb => by
                have := (hbw.out j hj a ha).2; have := (hRlb.out b hb).1; omega
              go_roundw
              case rel =>
                refine ⟨lbo', lc', L ++ [(bm, cm, xs.length)], by simp, by simp, by simp; omega, hR5, ?_, ?_, ?_, ?_⟩
                · intro j r hr
                  by_cases hj : j < L.length
                  · rw [List.getElem?_append_left hj] at hr
                    obtain ⟨e1, e2, e3, e4⟩ := hP4.out j r hr
                    exact ⟨e1, e2.kept fun a ha => hb5 _ (e2.block a ha).2 (fun b hb => e4 a b ha hb), e3, fun a b ha hb => hlb5 _ b hb (e2.block a ha).2 (fun c hc => e4 a c ha hc)⟩
                  · have hj' : j = L.length := by
                      have := (List.getElem?_eq_some_iff.1 hr).1
                      simp at this; omega
                    subst hj'
                    simp only [List.getElem?_append_right (Nat.le_refl _), Nat.sub_self, List.getElem?_cons_zero, Option.some.injEq] at hr
                    subst hr
                    have e2 : Rw w4 R.base 23 1 encU bm cm (List.replicate (R.n L.length + 20) (mk L.length)) := by have := hRm.out; rw [hxs.out] at this; exact this
                    exact ⟨hxl.out, e2.kept fun a ha => hb5 _ (e2.block a ha).2 (fun b hb => hsep.out a b ha hb), hor4.out, fun a b ha hb => hlb5 _ b hb (e2.block a ha).2 (fun c hc => hsep.out a c ha hc)⟩
                · intro j hj
                  exact (hD4.out j hj).kept fun a ha => hb5 _ ((hD4.out j hj).block a ha).2 (fun b hb => hrowne j hj a ha b hb)
                · exact (hF4.alloc _ (by omega)).row hG (fun x hx => by
                    cases lbo with
                    | none => simp at hx
                    | some b => simp only [Option.map_some, Option.some.injEq] at hx; have := (hRlb.out b rfl).1; omega) (by simp only [World.size_alloc]; omega)
                · rw [hb5 lb (by omega) (fun b hb => by have := (hRlb.out b hb).1; omega)]; exact hlh4
              case measure => simp [intOf]; omega
        · have hLN' : L.length = R.N := by omega
          replace hLN' := hide hLN'
          go_wp2_with fail
          go_loopw [9] (fun i w4 => ∃ k : Nat, i = .int .i64 k ∧ k ≤ R.N ∧ SameW w4 w3) (fun i _ => R.N - (intOf i).toNat)
          case atStart => exact ⟨0, rfl, by omega, rfl⟩
          case round =>
            obtain ⟨i, rfl, hiN, hww⟩ := hrel
            obtain rfl := SameW.out hww
            have hni := hn.out i
            rename World => w3
            by_cases hi : i < R.N
            · have hLi : i < L.length := by have := hLN'.out; omega
              obtain ⟨r, hr⟩ : ∃ r, L[i]? = some r := ⟨L[i], by simp [hLi]⟩
              obtain ⟨e1, e2, _, _⟩ := hP2.out i r hr
              obtain ⟨b, hb, hcb⟩ := hRl.out.cell (fun _ => rfl) i 0 r hr (vS r) rfl
              obtain ⟨rb, rc, rl⟩ := r
              dsimp only at e1 e2
              subst e1
              rw [Nat.mul_one, Nat.add_zero] at hcb
              simp only [vS] at hcb
              subst hb
              have hcl := cell_of_heap hlh (hl.out i hi)
              have hD' := hide (hD.out i hi)
              replace e2 := hide e2; replace hr := hide hr
              go_wp2_with fail
              go_loopw [10] (fun q w5 => ∃ k : Nat, q = .int .i64 k ∧ k ≤ R.n i + 20 ∧ SameW w5 w3) (fun q _ => R.n i + 20 - (intOf q).toNat)
              case atStart => exact ⟨0, rfl, by omega, rfl⟩
              case round =>
                obtain ⟨k, rfl, hk, hww⟩ := hrel
                obtain rfl := SameW.out hww
                by_cases hk2 : k < R.n i + 20
                · obtain ⟨b2, hb2, hc2⟩ := e2.out.cell encU_len k 0 (mk i) (by rw [List.getElem?_replicate, if_pos hk2]) (U (1099511627776 + UInt64.ofNat i)) rfl
                  rw [Nat.mul_one, Nat.add_zero] at hc2
                  subst hb2
                  have hne : (1099511627776 + UInt64.ofNat i != 1099511627776 + UInt64.ofNat i) = false := by simp
                  by_cases hk3 : k < R.n i
                  · obtain ⟨b3, hb3, hc3⟩ := hD'.out.cell encU_len k 0 (mk i) (by rw [List.getElem?_replicate, if_pos hk3]) (U (1099511627776 + UInt64.ofNat i)) rfl
                    rw [Nat.mul_one, Nat.add_zero] at hc3
                    rw [hb3] at hcl
                    replace hb3 := hide hb3
                    go_wp2_with fail
                    go_roundw
                    case rel => exact ⟨k + 1, by simp, by omega, rfl⟩
                    case measure => simp [intOf]; omega
                  · have hk3' : ((k : Int) < (R.n i : Int)) = False := by simp; omega
                    go_wp2_with fail
                    go_roundw
                    case rel => exact ⟨k + 1, by simp, by omega, rfl⟩
                    case measure => simp [intOf]; omega
                · go_wp2_with fail
                  go_roundw
                  case rel => exact ⟨i + 1, by simp, by omega, rfl⟩
                  case measure => simp [intOf]; omega
            · go_wp2_with fail
              go_ret
              exact ⟨rfl, hF⟩
end Go.Proofs.Ytkfonlpglkfpgaa
