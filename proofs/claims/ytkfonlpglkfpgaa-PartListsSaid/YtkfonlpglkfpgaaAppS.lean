/- append of words at a step of a region that draws its order: whatever the source is (nil, empty, words that came in). -/
import Derived.Test.YtkfonlpglkfpgaaKit
import Derived.Laws.OwnMore
import Derived.Deep.RegionHeld3
namespace Go.Proofs.Ytkfonlpglkfpgaa
open Go.RowKit
set_option linter.unusedSimpArgs false
set_option linter.unusedVariables false

/-- What an append leaves: the words together, in a block of its own or where they were. -/
def AppK (w : World) (base : Nat) (bo : Option Addr) (zs : List UInt64) (K : Value → World → Prop) : Prop :=
  ∀ bo' c' w', Rw w' base 23 1 encU bo' c' zs → w.grownBy w' (bo.map (·.block)) → K (.slice bo' zs.length c') w'

theorem wp_append_w {w : World} {o : Oper} {a : Act} {K : Act → World → Prop} {Q : Exit → Act → World → Prop} (s x : Operand)
    (ho : o.op = .call { callee := .builtin .append, args := #[s, x], argTypes := #[22, 22] })
    (base : Nat) (bo : Option Addr) (c n : Nat) (xs : List UInt64) (hs : a.eval s = .slice bo n c) (hn : xs.length = n) (hown : Rw w base 23 1 encU bo c xs)
    (ys : List UInt64) (hx : Rd w (a.eval x) ys) (h0 : ∀ c', a.eval x = .slice none 0 c' → c' = 0) (h63 : xs.length + ys.length ≤ 100000) (hbase : base ≤ w.heap.size)
    (h : AppK w base bo (xs ++ ys) fun v' w' => K (a.put o.dst v') w') : o.wp Try.prog a w K Q := by
  subst hn
  obtain ⟨bx, cx, hxv, _, hcell⟩ := hx
  obtain ⟨hT, i, z, hi, hz, hsz, hby, hzc, hk⟩ := elemU
  cases bx with
  | none =>
    have hy : ys = [] := by
      rcases ys with _ | ⟨y, ys⟩
      · rfl
      · obtain ⟨a', ha, _⟩ := hcell 0 (by simp); cases ha
    subst hy
    obtain rfl : cx = 0 := h0 cx hxv
    have hrun := run_append_owned_none (P := Try.prog) (w := w) base 22 o.type 23 i 1 hT hi (.slice bo xs.length c) xs.length (xs.flatMap encU) hown
    have hK := h bo c w (by simpa using hown) (World.grownBy.refl _ _)
    simp only [List.append_nil] at hK
    unfold Oper.wp
    simp only [List.length_nil] at hxv
    simp only [execOp, ho, resolve, invoke, builtin, Sem.run_bind, Sem.run_pure, Result.andThen_ok, List.map_toArray, List.map_cons, List.map_nil, hs, hxv, hrun]
    exact hK
  | some ad =>
    refine wp_append_own w s x 22 ho base 23 i z 1 8 hT hi hz hsz hby hzc hk (.slice bo xs.length c) xs.length (xs.flatMap encU) hs hown ad ys.length cx (ys.flatMap encU) hxv (by rw [flat_encU]; simp) ?_ ?_ (by unfold maxLen; omega) (by omega) hbase ?_
    · intro j v hj
      rw [flat_encU] at hj
      obtain ⟨hlt, e⟩ := List.getElem?_eq_some_iff.1 hj
      simp only [List.length_map] at hlt
      obtain ⟨a', ha, hc⟩ := hcell j hlt
      cases ha
      rw [hc, ← e]; simp
    · intro v hv
      rw [flat_encU] at hv
      obtain ⟨y, _, rfl⟩ := List.mem_map.1 hv
      rfl
    · intro v' w' hown' hg _
      have hf : xs.flatMap encU ++ ys.flatMap encU = (xs ++ ys).flatMap encU := by simp
      rw [hf] at hown'
      have hex : ∃ bo' c', v' = .slice bo' (xs ++ ys).length c' := by
        rcases hown'.2 with ⟨hv, hn⟩ | ⟨g, cap, cur, hv, _⟩
        · exact ⟨none, 0, by rw [hv, List.length_append, hn]⟩
        · exact ⟨some ⟨g, 0, none⟩, cap, by rw [hv, List.length_append]⟩
      obtain ⟨bo', c', rfl⟩ := hex
      refine h bo' c' w' ?_ ?_
      · rw [← List.length_append] at hown'; exact hown'
      · have e : (Value.slice bo xs.length c).ownBlock = bo.map (·.block) := by cases bo <;> rfl
        rw [← e]; exact hg

theorem step_append_w {w : World} {ops : Array Oper} {o : Oper} {a : Act} {K : Act → World → Prop} {Q : Exit → Act → World → Prop} {E : Prop} (hgd : o.guard = none) (s x : Operand)
    (ho : o.op = .call { callee := .builtin .append, args := #[s, x], argTypes := #[22, 22] })
    (base : Nat) (bo : Option Addr) (c n : Nat) (xs : List UInt64) (hs : a.eval s = .slice bo n c) (hn : xs.length = n) (hown : Rw w base 23 1 encU bo c xs)
    (ys : List UInt64) (hx : Rd w (a.eval x) ys) (h0 : ∀ c', a.eval x = .slice none 0 c' → c' = 0) (h63 : xs.length + ys.length ≤ 100000) (hbase : base ≤ w.heap.size)
    (h : AppK w base bo (xs ++ ys) fun v' w' => K (a.put o.dst v') w') :
    if Region.wanted o (yielded ops a.tmps) = true then Oper.wp Try.prog o a w K Q else E := by
  have hw : Region.wanted o (yielded ops a.tmps) = true := by simp [Region.wanted, hgd]
  rw [if_pos hw]
  exact wp_append_w s x ho base bo c n xs hs hn hown ys hx h0 h63 hbase h
end Go.Proofs.Ytkfonlpglkfpgaa
