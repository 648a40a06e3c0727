/- Slices of the call's own, of elements of k cells; append. Over any program. -/
import Derived.Test.YtkfonlpglkfpgaaU
namespace Go.Proofs.Ytkfonlpglkfpgaa
set_option linter.unusedSimpArgs false
set_option linter.unusedVariables false
open Go.RowKit

/-- A slice type T over elements E of k cells, as the program's tables say it. -/
def ElemOk (P : Program) (T E k bytes : Nat) : Prop :=
  P.underlying T = some (.slice E) ∧ ∃ i z, P.info? E = some i ∧ i.zero = some z ∧ i.size = k ∧ i.bytes = bytes ∧ z.cells.size = k ∧ 0 < k

/-- The slice (bo, its length, c) is the call's own (its block at base or above, or nil) and reads as xs. -/
def Rw {α : Type} (w : World) (base E k : Nat) (enc : α → List Value) (bo : Option Addr) (c : Nat) (xs : List α) : Prop :=
  w.ownsRow base E k (.slice bo xs.length c) xs.length (xs.flatMap enc)

theorem Rw.nil {α : Type} (w : World) (base E k : Nat) (enc : α → List Value) : Rw w base E k enc none 0 ([] : List α) := World.ownsRow_nil w base E k

theorem length_flat {α : Type} {enc : α → List Value} {k : Nat} (he : ∀ x, (enc x).length = k) (xs : List α) : (xs.flatMap enc).length = xs.length * k := by
  induction xs with
  | nil => simp
  | cons x xs ih => simp only [List.flatMap_cons, List.length_append, he, ih, List.length_cons]; rw [Nat.add_mul]; omega

section
variable {α : Type} {w : World} {base E k : Nat} {enc : α → List Value} {bo : Option Addr} {c : Nat} {xs : List α}
/-- Its block, if it has one. -/
theorem Rw.block (h : Rw w base E k enc bo c xs) : ∀ a, bo = some a → base ≤ a.block ∧ a.block < w.heap.size := by
  intro a ha
  subst ha
  exact World.ownsRow.lt h a.block rfl
theorem Rw.kept {w' : World} (h : Rw w base E k enc bo c xs) (hb : ∀ a, bo = some a → w'.heap[a.block]? = w.heap[a.block]?) : Rw w' base E k enc bo c xs := by
  refine ⟨h.1, ?_⟩
  rcases h.2 with hn | ⟨g, cap, cur, hv, hg, hgg, rest⟩
  · exact .inl hn
  · refine .inr ⟨g, cap, cur, hv, hg, ?_, rest⟩
    simp only [Value.slice.injEq] at hv
    rw [hb _ hv.1]; exact hgg
theorem Rw.row (h : Rw w base E k enc bo c xs) : ∀ b, bo.map (·.block) = some b → base ≤ b := by
  intro b hb
  cases bo with
  | none => simp at hb
  | some a => simp only [Option.map_some, Option.some.injEq] at hb; have := h.block a rfl; omega
theorem Rw.mono {base' : Nat} (h : Rw w base E k enc bo c xs) (hb : base' ≤ base) : Rw w base' E k enc bo c xs := by
  refine ⟨h.1, ?_⟩
  rcases h.2 with hn | ⟨g, cap, cur, hv, hg, rest⟩
  · exact .inl hn
  · exact .inr ⟨g, cap, cur, hv, Nat.le_trans hb hg, rest⟩
theorem Rw.alloc (h : Rw w base E k enc bo c xs) (o : Obj) : Rw (w.alloc o) base E k enc bo c xs := h.kept fun a ha => Below.heap_alloc _ _ _ (h.block a ha).2
theorem Rw.len_le (h : Rw w base E k enc bo c xs) : xs.length ≤ 9223372036854775807 := by
  rcases h.2 with ⟨hv, hn⟩ | ⟨g, cap, cur, hv, hg, hgg, hn, hc, _⟩
  · omega
  · simp only [maxLen] at hc; omega
theorem Rw.len_nil (h : Rw w base E k enc none c xs) : xs = [] ∧ c = 0 := by
  rcases h.2 with ⟨hv, hn⟩ | ⟨g, cap, cur, hv, _⟩
  · simp only [Value.slice.injEq] at hv; exact ⟨List.eq_nil_of_length_eq_zero hn, hv.2.2⟩
  · simp at hv
theorem Rw.head (h : Rw w base E k enc bo c xs) : ∀ a, bo = some a → a = ⟨a.block, 0, none⟩ := by
  intro a ha
  subst ha
  rcases h.2 with ⟨hv, hn⟩ | ⟨g, cap, cur, hv, _⟩
  · simp at hv
  · simp only [Value.slice.injEq, Option.some.injEq] at hv; rw [hv.1]
theorem Rw.frozen (h : Rw w base E k enc bo c xs) : ∀ a, bo = some a → ∀ o, w.frozen? ⟨a.block, o, none⟩ = false := by
  intro a ha o
  subst ha
  rcases h.2 with ⟨hv, hn⟩ | ⟨g, cap, cur, hv, _, hg, _⟩
  · simp at hv
  · simp only [Value.slice.injEq, Option.some.injEq] at hv
    rw [hv.1]; simp [World.frozen?, hg]
/-- A cell of it. -/
theorem Rw.cell (h : Rw w base E k enc bo c xs) (he : ∀ x, (enc x).length = k) (i j : Nat) (x : α) (hi : xs[i]? = some x) (v : Value) (hj : (enc x)[j]? = some v) :
    ∃ b, bo = some ⟨b, 0, none⟩ ∧ w.cell? ⟨b, i * k + j, none⟩ = some v := by
  have hx : (xs.flatMap enc)[i * k + j]? = some v := by
    clear h
    induction xs generalizing i with
    | nil => simp at hi
    | cons y ys ih =>
      cases i with
      | zero =>
        simp only [List.getElem?_cons_zero, Option.some.injEq] at hi
        subst hi
        have hl : j < (enc y).length := (List.getElem?_eq_some_iff.1 hj).1
        simp only [List.flatMap_cons, Nat.zero_mul, Nat.zero_add]
        rw [List.getElem?_append_left hl]; exact hj
      | succ i =>
        simp only [List.getElem?_cons_succ] at hi
        have := ih i hi
        simp only [List.flatMap_cons]
        rw [List.getElem?_append_right (by rw [he, Nat.add_mul]; omega), he]
        rw [show (i + 1) * k + j - k = i * k + j by rw [Nat.add_mul]; omega]
        exact this
  rcases h.2 with ⟨hv, hn⟩ | ⟨g, cap, cur, hv, _, hg, _, _, _, htake⟩
  · have := List.eq_nil_of_length_eq_zero hn; subst this; simp at hi
  · simp only [Value.slice.injEq] at hv
    refine ⟨g, hv.1, ?_⟩
    rw [cell_of_row w g _ cur E (0, 0) hg]
    rw [← htake, List.getElem?_take] at hx
    split at hx
    · simpa using hx
    · cases hx
end

/-- 'append(s, x)', s the call's own. -/
theorem wpList_append_e {α : Type} {P : Program} {w : World} {ops : Array Oper} {rest : List Oper} {o : Oper} {a : Act} {Q : Exit → Act → World → Prop} (hgd : o.guard = none) (s x : Operand) (T E k bytes : Nat)
    (ho : o.op = .call { callee := .builtin .append, args := #[s, x], argTypes := #[T, T] }) (hE : ElemOk P T E k bytes)
    (base : Nat) (enc : α → List Value) (he : ∀ x, (enc x).length = k) (h1 : ∀ x, ∀ u ∈ enc x, u.oneCell' = true)
    (bo : Option Addr) (c : Nat) (xs : List α) (hs : a.eval s = .slice bo xs.length c) (hown : Rw w base E k enc bo c xs)
    (ad : Addr) (m cc : Nat) (ys : List α) (hx : a.eval x = .slice (some ad) m cc) (hm : m = ys.length) (hnews : ∀ j u, (ys.flatMap enc)[j]? = some u → w.cell? (ad.add j) = some u)
    (h63 : xs.length + ys.length ≤ maxLen) (hbytes : (xs.length + ys.length) * bytes ≤ 140737488355328) (hbase : base ≤ w.heap.size)
    (h : ∀ bo' c' w', Rw w' base E k enc bo' c' (xs ++ ys) → w.grownBy w' (bo.map (·.block)) → wpList P ops Q rest (a.put o.dst (.slice bo' (xs ++ ys).length c')) w') : wpList P ops Q (o :: rest) a w := by
  obtain ⟨hT, i, z, hi, hz, hsz, hby, hzc, hk⟩ := hE
  subst hm
  refine wpList_append_own w hgd s x T ho base E i z k bytes hT hi hz hsz hby hzc hk (.slice bo xs.length c) xs.length (xs.flatMap enc) hs hown ad ys.length cc (ys.flatMap enc) hx (length_flat he ys) hnews
    (fun u hu => by obtain ⟨y, _, hy⟩ := List.mem_flatMap.1 hu; exact h1 y u hy) h63 hbytes hbase ?_
  intro v' w' hown' hg _
  have hf : xs.flatMap enc ++ ys.flatMap enc = (xs ++ ys).flatMap enc := by simp
  rw [hf] at hown'
  have hex : ∃ bo' c', v' = .slice bo' (xs ++ ys).length c' := by
    rcases hown'.2 with ⟨hv, hn⟩ | ⟨g, cap, cur, hv, _⟩
    · exact ⟨none, 0, by rw [hv, List.length_append, hn]⟩
    · exact ⟨some ⟨g, 0, none⟩, cap, by rw [hv, List.length_append]⟩
  obtain ⟨bo', c', hv⟩ := hex
  rw [hv]
  refine h bo' c' w' ?_ ?_
  · rw [hv, ← List.length_append] at hown'; exact hown'
  · have e : (Value.slice bo xs.length c).ownBlock = bo.map (·.block) := by cases bo <;> rfl
    rw [← e]; exact hg

/-- Words. -/
def encU (x : UInt64) : List Value := [U x]
theorem encU_len (x : UInt64) : (encU x).length = 1 := rfl
theorem encU_one (x : UInt64) : ∀ v ∈ encU x, v.oneCell' = true := by simp [encU]; rfl
theorem heap_setCell_at' {w : World} {b off : Nat} {cs : Array Value} {t : TypeId} {fr : Nat × Nat} (h : w.heap[b]? = some (.cells cs t fr)) (v : Value) :
    (w.setCell ⟨b, off, none⟩ v).heap[b]? = some (.cells (cs.setIfInBounds off v) t fr) := by
  show (w.heap.modify b _)[b]? = _
  rw [Array.getElem?_modify, h]; simp
theorem flat_encU (xs : List UInt64) : xs.flatMap encU = xs.map U := by
  induction xs with
  | nil => rfl
  | cons x xs ih => simp only [List.flatMap_cons, ih, encU, List.map_cons, List.singleton_append]
/-- 's[i] = v' of words. -/
theorem Rw.setU {w : World} {base E : Nat} {c b : Nat} {xs : List UInt64} (h : Rw w base E 1 encU (some ⟨b, 0, none⟩) c xs) (i : Nat) (v : UInt64) : Rw (w.setCell ⟨b, i, none⟩ (U v)) base E 1 encU (some ⟨b, 0, none⟩) c (xs.set i v) := by
  have h' := h
  unfold Rw at h' ⊢
  rw [flat_encU] at h' ⊢
  refine ⟨by simp, ?_⟩
  rcases h'.2 with ⟨hv, hn⟩ | ⟨g, cap, cur, hv, hg, hgg, hn, hc, hs, ht⟩
  · simp at hv
  · simp only [Value.slice.injEq, Option.some.injEq, Addr.mk.injEq, and_true, true_and] at hv
    obtain ⟨rfl, rfl⟩ := hv
    refine .inr ⟨b, c, cur.setIfInBounds i (U v), by simp, hg, heap_setCell_at' hgg _, by simpa using hn, hc, by simpa using hs, ?_⟩
    simp only [List.length_set, Nat.mul_one] at ht ⊢
    rw [Array.toList_setIfInBounds, List.take_set, ht, List.map_set]
theorem Rw.setOther {α : Type} {w : World} {base E k : Nat} {enc : α → List Value} {bo : Option Addr} {c : Nat} {xs : List α} (h : Rw w base E k enc bo c xs) (p : Addr) (v : Value) (hp : ∀ a, bo = some a → a.block ≠ p.block) : Rw (w.setCell p v) base E k enc bo c xs :=
  h.kept fun a ha => Below.heap_setCell _ _ _ _ (hp a ha)

/-- The block that 'append(s, x)' lays for x. -/
theorem news_one (w : World) (E : Nat) (y : UInt64) : ∀ j v, ([y].flatMap encU)[j]? = some v → (w.alloc (.cells #[U y] E)).cell? ((⟨w.heap.size, 0, none⟩ : Addr).add j) = some v := by
  intro j v hj
  cases j with
  | zero =>
    simp only [encU, List.flatMap_cons, List.flatMap_nil, List.append_nil, List.getElem?_cons_zero, Option.some.injEq] at hj
    subst hj
    have := heap_alloc_new w (.cells #[U y] E)
    simp only [Addr.add, if_true]
    rw [cell_of_row _ _ 0 _ E (0, 0) this]; rfl
  | succ j => simp [encU] at hj
end Go.Proofs.Ytkfonlpglkfpgaa
