/- append, told whether it moved; frames. -/
import Derived.Test.YtkfonlpglkfpgaaFill
import Derived.ArgAppend
namespace Go.Proofs.Ytkfonlpglkfpgaa
set_option linter.unusedSimpArgs false
set_option linter.unusedVariables false
open Go.RowKit

@[go_sem] theorem Lmark : Value.int .u64 1099511627776 = U 1099511627776 := rfl
@[go_sem] theorem L5 : Value.int .u64 5 = U 5 := rfl
@[go_sem] theorem L6 : Value.int .u64 6 = U 6 := rfl
@[go_sem] theorem L10 : Value.int .u64 10 = U 10 := rfl
@[go_sem] theorem L12 : Value.int .u64 12 = U 12 := rfl
@[go_sem] theorem L14 : Value.int .u64 14 = U 14 := rfl
/-- One element more. -/
theorem wpList_append_m {α : Type} {P : Program} {w : World} {ops : Array Oper} {rest : List Oper} {o : Oper} {a : Act} {Q : Exit → Act → World → Prop} (hgd : o.guard = none) (s x : Operand) (T E bytes : Nat)
    (ho : o.op = .call { callee := .builtin .append, args := #[s, x], argTypes := #[T, T] }) (hE : ElemOk P T E 1 bytes)
    (base : Nat) (val : α → Value) (h1 : ∀ x, (val x).oneCell' = true)
    (bo : Option Addr) (c : Nat) (xs : List α) (hs : a.eval s = .slice bo xs.length c) (hown : Rw w base E 1 (fun y => [val y]) bo c xs)
    (ad : Addr) (cc : Nat) (y : α) (hx : a.eval x = .slice (some ad) 1 cc) (hnew : w.cell? ad = some (val y))
    (h63 : xs.length + 1 ≤ maxLen) (hbytes : (xs.length + 1) * bytes ≤ 140737488355328) (hbase : base ≤ w.heap.size)
    (h : ∀ bo' c' w', Rw w' base E 1 (fun y => [val y]) bo' c' (xs ++ [y]) → w.grownBy w' (bo.map (·.block)) →
      (∀ base' c0 (zs : List α), zs.length ≤ xs.length → Rw w base' E 1 (fun y => [val y]) bo c0 zs → Rw w' base' E 1 (fun y => [val y]) bo c0 zs) → (bo' = bo ∨ ∀ a, bo' = some a → w.heap.size ≤ a.block) →
      wpList P ops Q rest (a.put o.dst (.slice bo' (xs ++ [y]).length c')) w') : wpList P ops Q (o :: rest) a w := by
  obtain ⟨hT, i, z, hi, hz, hsz, hby, hzc, hk⟩ := hE
  have hfl : ∀ zs : List α, zs.flatMap (fun y => [val y]) = zs.map val := fun zs => by induction zs with
    | nil => rfl
    | cons z zs ih => simp [List.flatMap_cons, ih]
  have hgrow : ∀ v' w', w'.ownsRow w.heap.size E 1 v' (xs.length + 1) (xs.map val ++ [val y]) → w.grownBy w' none → wpList P ops Q rest (a.put o.dst v') w' := by
    intro v' w' hown' hg
    have hf : xs.map val ++ [val y] = (xs ++ [y]).flatMap (fun y => [val y]) := by rw [hfl]; simp
    rw [hf] at hown'
    have hex : ∃ bo' c', v' = .slice bo' (xs ++ [y]).length c' ∧ ∀ a, bo' = some a → w.heap.size ≤ a.block := by
      rcases hown'.2 with ⟨hv, hn⟩ | ⟨g, cap, cur, hv, hge, _⟩
      · omega
      · exact ⟨some ⟨g, 0, none⟩, cap, by rw [hv, List.length_append]; rfl, fun a ha => by obtain rfl := Option.some.inj ha; exact hge⟩
    obtain ⟨bo', c', hv, hnew'⟩ := hex
    rw [hv]
    refine h bo' c' w' ?_ ⟨hg.os, hg.tape, hg.output, hg.size, fun k hk _ => hg.block k hk (by simp)⟩ ?_ (.inr hnew')
    · rw [hv] at hown'
      have : Rw w' w.heap.size E 1 (fun y => [val y]) bo' c' (xs ++ [y]) := by unfold Rw; rw [List.length_append] at hown' ⊢; exact hown'
      exact this.mono hbase
    · intro base' c0 zs _ hz
      exact hz.kept fun a ha => hg.block _ (hz.block a ha).2 (by simp)
  cases bo with
  | none =>
    obtain ⟨rfl, rfl⟩ := hown.len_nil
    refine wpList_append_grows w hgd s x T ho E i z 1 bytes hT hi hz hsz hby hzc hk none 0 0 [] hs (fun _ => ⟨rfl, rfl⟩) rfl (fun b hb => by simp at hb) ad 1 cc [val y] hx rfl (fun j u hj => ?_) (fun u hu => ?_) (by omega) h63 hbytes ?_
    · cases j with
      | zero => simp only [List.getElem?_cons_zero, Option.some.injEq] at hj; subst hj; simpa [Addr.add] using hnew
      | succ j => simp at hj
    · simp only [List.mem_cons, List.not_mem_nil, or_false] at hu; subst hu; exact h1 y
    · intro v' w' ho' hg'; exact hgrow v' w' ho' hg'
  | some ab =>
    have hd := hown.head ab rfl
    obtain ⟨b, off, sp⟩ := ab
    simp only [Addr.mk.injEq, true_and] at hd
    obtain ⟨rfl, rfl⟩ := hd
    have hown0 := hown
    unfold Rw at hown
    rw [hfl] at hown
    rcases hown.2 with ⟨hv, hn⟩ | ⟨g, cap, cur, hv, hge, hgg, hn, hcm, hcs, htk⟩
    · simp at hv
    · simp only [Value.slice.injEq, Option.some.injEq, Addr.mk.injEq, and_true, true_and] at hv
      obtain ⟨rfl, rfl⟩ := hv
      refine wpList_append_arg w hgd s x T ho E i z 1 bytes hT hi hz hsz hby hzc hk b 0 xs.length c (xs.map val) hs (by simp) (fun j u hj => ?_) ad 1 cc [val y] hx rfl (fun j u hj => ?_) (fun u hu => ?_) (fun hle j hj => ?_) h63 hbytes (fun hle => ?_) (fun _ v' w' ho' hg' => hgrow v' w' ho' hg')
      · rw [cell_of_row w b _ cur E (0, 0) hgg, Nat.zero_add]
        rw [← htk, List.getElem?_take] at hj
        split at hj
        · simpa using hj
        · cases hj
      · cases j with
        | zero => simp only [List.getElem?_cons_zero, Option.some.injEq] at hj; subst hj; simpa [Addr.add] using hnew
        | succ j => simp at hj
      · simp only [List.mem_cons, List.not_mem_nil, or_false] at hu; subst hu; exact h1 y
      · simp only [List.length_cons, List.length_nil] at hj
        have : j = 0 := by omega
        subst this
        refine ⟨?_, by simp [World.frozen?, hgg]⟩
        rw [cell_of_row w b _ cur E (0, 0) hgg]
        have hlt : xs.length < cur.size := by omega
        simp only [Nat.zero_add, Nat.mul_one, Nat.add_zero]
        rw [Array.getElem?_eq_getElem hlt]; rfl
      · have hset : w.setCells b (0 + xs.length * 1) [val y] = w.setCell ⟨b, xs.length, none⟩ (val y) := by
          show w.setCell ⟨b, 0 + xs.length * 1, none⟩ (val y) = _
          rw [Nat.zero_add, Nat.mul_one]
        rw [hset]
        have hg' := heap_setCell_at (off := xs.length) hgg (val y)
        have hlen : xs.length < cur.size := by omega
        rw [show Value.slice (some ⟨b, 0, none⟩) (xs.length + 1) c = .slice (some ⟨b, 0, none⟩) (xs ++ [y]).length c by simp]
        refine h _ _ _ ?_ ⟨rfl, rfl, rfl, by simp [World.setCell], fun k hk hne => Below.heap_setCell _ _ _ _ (fun e => hne (by simp [e]))⟩ ?_ (.inl rfl)
        · refine ⟨by rw [hfl]; simp, .inr ⟨b, c, _, rfl, hge, hg', by simpa using hle, hcm, by simpa using hcs, ?_⟩⟩
          rw [hfl]
          simp only [List.length_append, List.length_cons, List.length_nil, Nat.mul_one, List.map_append, List.map_cons, List.map_nil, Array.toList_setIfInBounds, Nat.zero_add]
          rw [Nat.mul_one] at htk
          rw [List.take_add_one, List.take_set_of_le (Nat.le_refl _), htk, List.getElem?_set_self (by simpa using hlen)]
          rfl
        · intro base' c0 zs hzs hz
          refine ⟨hz.1, ?_⟩
          rcases hz.2 with ⟨hv, _⟩ | ⟨g, cap, cur', hv, hge', hgg', hn', hcm', hcs', htk'⟩
          · simp at hv
          · simp only [Value.slice.injEq, Option.some.injEq, Addr.mk.injEq, and_true, true_and] at hv
            obtain ⟨rfl, rfl⟩ := hv
            rw [hgg] at hgg'
            simp only [Option.some.injEq, Obj.cells.injEq, and_true] at hgg'
            obtain rfl := hgg'
            refine .inr ⟨b, c0, _, rfl, hge', hg', hn', hcm', by simpa using hcs', ?_⟩
            rw [Array.toList_setIfInBounds, List.take_set_of_le (by omega), htk']

/-- Nothing below base has turned. -/
structure Fr (base : Nat) (w w' : World) : Prop where
  os : w'.os = w.os
  tape : w'.tape = w.tape
  output : w'.output = w.output
  size : w.heap.size ≤ w'.heap.size
  block : ∀ k, k < base → w'.heap[k]? = w.heap[k]?
theorem Fr.refl (base : Nat) (w : World) : Fr base w w := ⟨rfl, rfl, rfl, Nat.le_refl _, fun _ _ => rfl⟩
theorem Fr.trans {base : Nat} {a b c : World} (h : Fr base a b) (k : Fr base b c) : Fr base a c := ⟨k.os.trans h.os, k.tape.trans h.tape, k.output.trans h.output, Nat.le_trans h.size k.size, fun i hi => (k.block i hi).trans (h.block i hi)⟩
theorem Fr.tch {base : Nat} {L : List Nat} {a b c : World} (h : Fr base a b) (k : Tch L b c) (hL : ∀ x ∈ L, base ≤ x) (hb : base ≤ b.heap.size) : Fr base a c :=
  h.trans ⟨k.os, k.tape, k.output, k.size, fun i hi => k.block i (by omega) (fun hm => by have := hL i hm; omega)⟩
theorem Fr.row {base : Nat} {a b c : World} {row : Option Nat} (h : Fr base a b) (k : b.grownBy c row) (hL : ∀ x, row = some x → base ≤ x) (hb : base ≤ b.heap.size) : Fr base a c :=
  h.trans ⟨k.os, k.tape, k.output, k.size, fun i hi => k.block i (by omega) (fun hm => by have := hL i hm.symm; omega)⟩
theorem Fr.drewN {base : Nat} {a b : World} (h : Fr base a b) (n : Nat) : Fr base a (b.drewN n) := ⟨h.os, h.tape, h.output, h.size, h.block⟩
theorem Fr.alloc {base : Nat} {a b : World} (h : Fr base a b) (o : Obj) (hb : base ≤ b.heap.size) : Fr base a (b.alloc o) :=
  h.trans ⟨rfl, rfl, rfl, by simp, fun k hk => Below.heap_alloc _ _ _ (by omega)⟩
theorem Fr.setCell {base : Nat} {a b : World} (h : Fr base a b) {p : Addr} (v : Value) (hp : base ≤ p.block) : Fr base a (b.setCell p v) :=
  h.trans ⟨rfl, rfl, rfl, by simp [World.setCell], fun k hk => Below.heap_setCell _ _ _ _ (by omega)⟩
end Go.Proofs.Ytkfonlpglkfpgaa
