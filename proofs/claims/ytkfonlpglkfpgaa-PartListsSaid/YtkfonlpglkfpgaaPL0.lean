/- PartLists: what its loop carries along. -/
import Derived.Test.YtkfonlpglkfpgaaLkeys
import Derived.Test.YtkfonlpglkfpgaaAppS
import Derived.Test.YtkfonlpglkfpgaaPart3
import Derived.Test.YtkfonlpglkfpgaaPQ0
namespace Go.Proofs.Ytkfonlpglkfpgaa
open Go.RowKit
set_option linter.unusedSimpArgs false
set_option linter.unusedVariables false

/-- What stands all through the making of the new list of keys. -/
structure KpL (x : TxB) (m : Mach) (w : World) (base : Nat) (bo : Option Addr) (cc : Nat) (L : List UInt64) (ak : Addr) (y : UInt64) (B : Nat) (v : World) : Prop where
  key : v.cell? ak = some (U y)
  row : Rw v base 23 1 encU bo cc L
  at_ : x.At m v
  tch : Tch [] w v
  size : B ≤ v.heap.size
  hB : base ≤ B ∧ x.ta < base ∧ x.wb < base ∧ x.mb < base ∧ w.heap.size ≤ base
  old : ∀ a, bo = some a → a.block < B
  kb : ak.block < B
section
variable {x : TxB} {m : Mach} {w : World} {base : Nat} {bo : Option Addr} {cc : Nat} {L : List UInt64} {ak : Addr} {y : UInt64} {B : Nat} {v v' : World}
theorem KpL.drew (h : KpL x m w base bo cc L ak y B v) : KpL x m w base bo cc L ak y B v.drew :=
  ⟨h.key, h.row, h.at_.drew, h.tch.drew, h.size, h.hB, h.old, h.kb⟩
theorem KpL.drewN (h : KpL x m w base bo cc L ak y B v) (n : Nat) : KpL x m w base bo cc L ak y B (v.drewN n) :=
  ⟨h.key, h.row, h.at_.drewN n, h.tch.drewN n, h.size, h.hB, h.old, h.kb⟩
theorem KpL.alloc (h : KpL x m w base bo cc L ak y B v) (o : Obj) : KpL x m w base bo cc L ak y B (v.alloc o) :=
  ⟨(cell_congr (Below.heap_alloc _ _ _ (cell_lt h.key))).trans h.key, h.row.alloc o, h.at_.alloc o, h.tch.alloc o, by have := h.size; simp; omega, h.hB, h.old, h.kb⟩
theorem KpL.grown {row : Option Nat} (h : KpL x m w base bo cc L ak y B v) (hg : v.grownBy v' row) (hr : ∀ k, row = some k → B ≤ k) : KpL x m w base bo cc L ak y B v' := by
  have hB := h.hB
  refine ⟨(cell_congr (hg.block _ (cell_lt h.key) (fun e => by have := hr _ e.symm; have := h.kb; omega))).trans h.key, h.row.kept fun a ha => hg.block _ (h.row.block a ha).2 (fun e => by have := h.old a ha; have := hr _ e.symm; omega), ?_, ?_, Nat.le_trans h.size hg.size, h.hB, h.old, h.kb⟩
  · have hlt := h.at_.lt
    exact h.at_.same (hg.block _ hlt.1 (fun e => by have := hr _ e.symm; omega)) (hg.block _ hlt.2.1 (fun e => by have := hr _ e.symm; omega)) (hg.block _ hlt.2.2 (fun e => by have := hr _ e.symm; omega))
  · exact h.tch.grown hg fun k hk => .inl (by have := hr k hk; omega)
end
theorem Rw.cap {w : World} {base E : Nat} {c b : Nat} {xs : List UInt64} (h : Rw w base E 1 encU (some ⟨b, 0, none⟩) c xs) : xs.length ≤ c ∧ c ≤ 9223372036854775807 := by
  rcases h.2 with ⟨hv, _⟩ | ⟨g, cap, cur, hv, _, _, h1, h2, _⟩
  · simp at hv
  · simp only [Value.slice.injEq] at hv
    simp only [maxLen] at h2
    omega
/-- An empty slice of the call's own. -/
theorem rw_empty {w : World} {base E g : Nat} (h : w.heap[g]? = some (.cells #[] E (0, 0))) (hb : base ≤ g) : Rw w base E 1 encU (some ⟨g, 0, none⟩) 0 [] := by
  refine ⟨rfl, .inr ⟨g, 0, #[], rfl, hb, h, Nat.le_refl _, by simp [maxLen], rfl, rfl⟩⟩
theorem Rw.drew {α : Type} {w : World} {base E k : Nat} {enc : α → List Value} {bo : Option Addr} {c : Nat} {xs : List α} (h : Rw w base E k enc bo c xs) : Rw w.drew base E k enc bo c xs := h
theorem heap_new0 (W : World) (o : Obj) : (W.alloc o).drew.heap[W.heap.size]? = some o := heap_alloc_new W o
theorem heap_new1 (W : World) (o o' : Obj) : ((W.alloc o).drew.alloc o').drew.heap[W.heap.size]? = some o :=
  (Below.heap_alloc (W.alloc o).drew o' _ (by show W.heap.size < (W.alloc o).heap.size; simp)).trans (heap_alloc_new W o)
theorem heap_new2 (W : World) (o o' : Obj) : ((W.alloc o).drew.alloc o').drew.heap[W.heap.size + 1]? = some o' := by
  have := heap_alloc_new (W.alloc o).drew o'
  have e : (W.alloc o).drew.heap.size = W.heap.size + 1 := by show (W.alloc o).heap.size = _; simp
  rw [e] at this; exact this
theorem rd_one {v : World} {g E : Nat} {y : UInt64} (h : v.heap[g]? = some (.cells #[U y] E (0, 0))) : Rd v (.slice (some ⟨g, 0, none⟩) 1 1) [y] := by
  refine ⟨some ⟨g, 0, none⟩, 1, rfl, by simp, fun i hi => ⟨_, rfl, ?_⟩⟩
  simp only [List.length_cons, List.length_nil] at hi
  obtain rfl : i = 0 := by omega
  simp [Addr.add, World.cell?, h]
/-- The beginning of the list, its end. -/
theorem KpL.rd_take {x : TxB} {m : Mach} {w : World} {base bw : Nat} {cc : Nat} {L : List UInt64} {ak : Addr} {y : UInt64} {B : Nat} {v : World} (h : KpL x m w base (some ⟨bw, 0, none⟩) cc L ak y B v) {P Q : List UInt64} (hL : L = P ++ Q) {n : Nat} (hn : P.length = n) : Rd v (.slice (some ⟨bw, 0, none⟩) n cc) P := by
  subst hn
  have hc := h.row.cap
  rw [hL, List.length_append] at hc
  refine ⟨_, _, rfl, by omega, fun i hi => ⟨_, rfl, ?_⟩⟩
  obtain ⟨b, hb, hcell⟩ := h.row.at i (by rw [hL, List.length_append]; omega)
  cases hb
  have e : (⟨bw, 0, none⟩ : Addr).add i = ⟨bw, i, none⟩ := by unfold Addr.add; split <;> simp_all
  rw [e, hcell, List.getElem_of_eq hL, List.getElem_append_left hi]
theorem KpL.rd_drop {x : TxB} {m : Mach} {w : World} {base bw : Nat} {cc : Nat} {L : List UInt64} {ak : Addr} {y : UInt64} {B : Nat} {v : World} (h : KpL x m w base (some ⟨bw, 0, none⟩) cc L ak y B v) {P Q : List UInt64} (hL : L = P ++ Q) {o n c' : Nat} (hn : Q.length = n) (ho : 0 < n → o = P.length) : Rd v (.slice (some ⟨bw, o, none⟩) n c') Q := by
  subst hn
  have hc := h.row.cap
  rw [hL, List.length_append] at hc
  refine ⟨_, _, rfl, by omega, fun i hi => ⟨_, rfl, ?_⟩⟩
  obtain rfl := ho (by omega)
  obtain ⟨b, hb, hcell⟩ := h.row.at (P.length + i) (by rw [hL, List.length_append]; omega)
  cases hb
  have e : (⟨bw, P.length, none⟩ : Addr).add i = ⟨bw, P.length + i, none⟩ := by unfold Addr.add; split <;> simp_all
  rw [e, hcell, List.getElem_of_eq hL, List.getElem_append_right (by omega)]
  simp
theorem KpL.rd_rest {x : TxB} {m : Mach} {w : World} {base bw : Nat} {cc : Nat} {L : List UInt64} {ak : Addr} {y : UInt64} {B : Nat} {v : World} (h : KpL x m w base (some ⟨bw, 0, none⟩) cc L ak y B v) {P Q : List UInt64} (hL : L = P ++ Q) {n k : Nat} (hk : P.length = k) (hn : L.length = n) : Rd v (.slice (if cc = k then some ⟨bw, 0, none⟩ else some ⟨bw, k, none⟩) (n - k) (cc - k)) Q := by
  have hl : Q.length = n - k := by rw [← hn, hL, List.length_append]; omega
  have hc := h.row.cap
  split
  · rename_i hck
    exact h.rd_drop hL hl (fun h0 => by omega)
  · exact h.rd_drop hL hl (fun _ => hk.symm)
theorem rest_ne {p : Prop} [Decidable p] {a b : Addr} {n c c' : Nat} (h : Value.slice (if p then some a else some b) n c = .slice none 0 c') : c' = 0 := by
  split at h <;> cases h
theorem rd_nil (v : World) : Rd v (.slice none 0 0) [] := ⟨none, 0, rfl, by simp, fun i hi => by simp at hi⟩
theorem Rise.above {key : UInt64} {pre post : List (Nat × UInt64)} (h : Rise (pre ++ post)) (h2 : ∀ y ∈ post, ¬ u y.2 < u key) (hk : hasKey key post = false) : ∀ y ∈ post, u key < u y.2 := by
  have hr : Rise post := by
    clear h2 hk
    induction pre with
    | nil => exact h
    | cons z pre ih => exact ih h.2
  cases post with
  | nil => intro y hy; cases hy
  | cons z r =>
    intro y hy
    have hz : u key < u z.2 := by
      have h1 := h2 z (by simp)
      have hne : z.2 ≠ key := by simpa [hasKey] using hk
      have : u z.2 ≠ u key := fun e => hne (u_inj e)
      omega
    simp only [List.mem_cons] at hy
    rcases hy with rfl | hy
    · exact hz
    · have := hr.1 y hy; omega
theorem given_okn {x : TxB} {m m' : Mach} {w : World} {xs : List UInt64} {n : Nat} (h : x.At m w) (hq : given m 0 2 = (xs, 0, m')) (hn : xs.length = n) :
    Calls Try.prog 20 #[x.val, U 0, U 2] w (SOkn x w n xs m') := by
  subst hn; exact given_ok h hq
theorem qnew_ok {x : TxB} {m m' : Mach} {w : World} {v : UInt64} {e : Int} (h : x.At m w) (hq : qnew m 0 = (v, e, m')) :
    Calls Try.prog 28 #[x.val, U 0] w (x.Post w (.tuple #[U v, .int .i64 e]) m') := by
  have := qnew_any x m w 0 h; rw [hq] at this; exact this
theorem pback_okq {x : TxB} {m m' : Mach} {w : World} {q : UInt64} {p : Prt} {e : Int} (h : x.At m w) (hq : pback m q p = (e, m')) :
    Calls Try.prog 17 #[x.val, U q, p.val] w (x.Post w (.int .i64 e) m') := by
  have := pback_any x m w q p h; rw [hq] at this; exact this
end Go.Proofs.Ytkfonlpglkfpgaa
