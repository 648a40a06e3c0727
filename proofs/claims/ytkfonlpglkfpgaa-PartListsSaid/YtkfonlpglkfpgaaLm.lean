/- The plain law of a list: its chain, a key put in, the part of a list read and given back. -/
import Derived.Test.YtkfonlpglkfpgaaLaw7
import Derived.Test.YtkfonlpglkfpgaaLm0
namespace Go.Proofs.Ytkfonlpglkfpgaa
set_option linter.unusedSimpArgs false
set_option linter.unusedVariables false
open Go.RowKit (wrap64)

theorem Chn.congr {n : Nat} {f g : Nat → UInt64} : ∀ {c : List (Nat × UInt64)} {p : UInt64}, Chn n f p c → (∀ y ∈ c, g (20 + 2 * y.1) = f (20 + 2 * y.1) ∧ g (21 + 2 * y.1) = f (21 + 2 * y.1)) → Chn n g p c
  | [], _, h, _ => h
  | (i, k) :: r, p, h, hg => by
    obtain ⟨h1, h2, h3, h4⟩ := h
    have := hg (i, k) (by simp)
    refine ⟨h1, h2, this.1.trans h3, ?_⟩
    rw [this.2]
    exact Chn.congr h4 fun y hy => hg y (by simp [hy])
theorem Chn.mono {n n' : Nat} {f : Nat → UInt64} (hn : n ≤ n') : ∀ {c : List (Nat × UInt64)} {p : UInt64}, Chn n f p c → Chn n' f p c
  | [], _, h => h
  | (i, k) :: r, p, ⟨h1, h2, h3, h4⟩ => ⟨h1, by omega, h3, Chn.mono hn h4⟩
theorem Chn.lt {n : Nat} {f : Nat → UInt64} : ∀ {c : List (Nat × UInt64)} {p : UInt64}, Chn n f p c → ∀ y ∈ c, y.1 < n
  | [], _, _, y, hy => by simp at hy
  | (i, k) :: r, p, ⟨h1, h2, h3, h4⟩, y, hy => by
    simp only [List.mem_cons] at hy
    rcases hy with rfl | hy
    · exact h2
    · exact Chn.lt h4 y hy
/-- Where a chain's rest begins: the cell that leads there. -/
def lastC : Nat → List (Nat × UInt64) → Nat
  | q, [] => q
  | _, (i, _) :: r => lastC (21 + 2 * i) r
def nextP : List (Nat × UInt64) → UInt64
  | [] => 0
  | (i, _) :: _ => A (21 + 2 * i)
theorem Chn.next {n : Nat} {f : Nat → UInt64} {c : List (Nat × UInt64)} {p : UInt64} (h : Chn n f p c) : p = nextP c := by
  cases c with
  | nil => exact h
  | cons y r => exact h.1
theorem lastC_mem : ∀ (c : List (Nat × UInt64)) (q : Nat), lastC q c = q ∨ ∃ y ∈ c, lastC q c = 21 + 2 * y.1
  | [], q => .inl rfl
  | (i, k) :: r, q => by
    rw [lastC]
    rcases lastC_mem r (21 + 2 * i) with h | ⟨y, hy, h⟩
    · exact .inr ⟨(i, k), by simp, h⟩
    · exact .inr ⟨y, by simp [hy], h⟩

/-- The keys below one go by. -/
def stepLt (key : UInt64) (s : Unit) (k : UInt64) : Bool × Unit := (decide (u k < u key), s)
theorem fscan_lt (key : UInt64) : ∀ (c : List (Nat × UInt64)) (q n : Nat) (kk : UInt64), Rise c → ∃ pre post kz, c = pre ++ post ∧ (∀ y ∈ pre, u y.2 < u key) ∧ (∀ y ∈ post, ¬ u y.2 < u key) ∧
    fscan (stepLt key) () (A q) kk n c = ((A (lastC q pre), nextP post, kz, n + pre.length), ()) ∧ (∀ i k r, post = (i, k) :: r → kz = k)
  | [], q, n, kk, _ => ⟨[], [], kk, rfl, by simp, by simp, rfl, by simp⟩
  | (i, k) :: r, q, n, kk, hr => by
    by_cases hk : u k < u key
    · obtain ⟨pre, post, kz, h1, h2, h3, h4, h5⟩ := fscan_lt key r (21 + 2 * i) (n + 1) k hr.2
      refine ⟨(i, k) :: pre, post, kz, by rw [h1]; rfl, ?_, h3, ?_, h5⟩
      · intro y hy
        simp only [List.mem_cons] at hy
        rcases hy with rfl | hy
        · exact hk
        · exact h2 y hy
      · rw [fscan, if_pos (by simp [stepLt, hk])]
        show fscan (stepLt key) () _ _ _ _ = _
        rw [h4]
        simp only [lastC, List.length_cons]
        congr 4; omega
    · refine ⟨[], (i, k) :: r, k, rfl, by simp, ?_, ?_, ?_⟩
      · intro y hy
        simp only [List.mem_cons] at hy
        rcases hy with rfl | hy
        · exact hk
        · have := hr.1 y hy; omega
      · rw [fscan, if_neg (by simp [stepLt, hk])]; rfl
      · intro i' k' r' e; simp at e; exact e.1.2

/-- A node is put in. -/
theorem Chn.ins {n : Nat} {f g : Nat → UInt64} {key : UInt64} {post : List (Nat × UInt64)} : ∀ (pre : List (Nat × UInt64)) (q : Nat), Chn n f (f q) (pre ++ post) → ((pre ++ post).map (·.1)).Nodup → (q = 19 ∨ ∃ j, q = 21 + 2 * j ∧ j < n ∧ ∀ y ∈ pre ++ post, y.1 ≠ j) →
    (∀ j, 19 ≤ j → j ≠ 20 + 2 * n → j ≠ 21 + 2 * n → j ≠ lastC q pre → g j = f j) → g (lastC q pre) = A (21 + 2 * n) → g (20 + 2 * n) = key → g (21 + 2 * n) = nextP post → Chn (n + 1) g (g q) (pre ++ (n, key) :: post)
  | [], q, h, hnd, hq, hg, h1, h2, h3 => by
    simp only [List.nil_append, lastC] at *
    refine ⟨h1, by omega, h2, ?_⟩
    rw [h3, ← h.next]
    refine (h.mono (by omega)).congr fun y hy => ?_
    have := h.lt y hy
    refine ⟨hg _ (by omega) (by omega) (by omega) ?_, hg _ (by omega) (by omega) (by omega) ?_⟩
    · rcases hq with rfl | ⟨j, rfl, _, _⟩ <;> omega
    · rcases hq with rfl | ⟨j, rfl, _, hj⟩
      · omega
      · have := hj y hy; omega
  | (i, k) :: pre, q, h, hnd, hq, hg, h1, h2, h3 => by
    simp only [List.cons_append, List.map_cons, List.nodup_cons] at hnd
    obtain ⟨e1, e2, e3, e4⟩ := h
    have hi : ∀ y ∈ pre ++ post, y.1 ≠ i := fun y hy e => hnd.1 (List.mem_map.2 ⟨y, hy, e⟩)
    have hlast := lastC_mem pre (21 + 2 * i)
    have hlq : lastC q ((i, k) :: pre) = lastC (21 + 2 * i) pre := rfl
    have hl20 : ∀ a, lastC (21 + 2 * i) pre ≠ 20 + 2 * a := by
      intro a e
      rcases hlast with h | ⟨y, _, h⟩ <;> omega
    have hqne : q ≠ lastC (21 + 2 * i) pre := by
      intro e
      rcases hq with rfl | ⟨j, rfl, _, hj⟩
      · rcases hlast with h | ⟨y, _, h⟩ <;> omega
      · rcases hlast with h | ⟨y, hy, h⟩
        · have := hj (i, k) (by simp); simp only at this; omega
        · have := hj y (by simp only [List.mem_append] at hy ⊢; simp [hy]); omega
    refine ⟨?_, by omega, ?_, ?_⟩
    · rw [hg q (by rcases hq with rfl | ⟨j, rfl, _, _⟩ <;> omega) (by rcases hq with rfl | ⟨j, rfl, _, _⟩ <;> omega) (by rcases hq with rfl | ⟨j, rfl, _, _⟩ <;> omega) (by rw [hlq]; exact hqne)]; exact e1
    · rw [hg _ (by omega) (by omega) (by omega) (by rw [hlq]; exact fun e => hl20 i e.symm)]; exact e3
    · exact Chn.ins pre (21 + 2 * i) e4 hnd.2 (.inr ⟨i, rfl, e2, hi⟩) hg h1 h2 h3

/-- A list at 18 of a room of N cells; n nodes have been taken. -/
structure LSt (N n : Nat) (c : List (Nat × UInt64)) (f : Nat → UInt64) : Prop where
  fresh : f 0 = A (20 + 2 * n)
  upto : f 1 = A N
  free : f 3 = 0
  free4 : f 4 = 0
  count : f 18 = A c.length
  chain : Chn n f (f 19) c
  nodup : (c.map (·.1)).Nodup
  rise : Rise c
  len : c.length ≤ n

/-- The cells behind Insert. -/
def insF (f : Nat → UInt64) (n q c : Nat) (key next : UInt64) : Nat → UInt64 :=
  setf (setf (setf (setf (setf f 0 (A (22 + 2 * n))) (20 + 2 * n) key) (21 + 2 * n) next) q (A (21 + 2 * n))) 18 (A (c + 1))

theorem rise_ins {key : UInt64} {n : Nat} {post : List (Nat × UInt64)} : ∀ {pre : List (Nat × UInt64)}, Rise (pre ++ post) → (∀ y ∈ pre, u y.2 < u key) → (∀ y ∈ post, u key < u y.2) → Rise (pre ++ (n, key) :: post)
  | [], h, _, h2 => ⟨h2, h⟩
  | (i, k) :: pre, h, h1, h2 => by
    refine ⟨?_, rise_ins h.2 (fun y hy => h1 y (by simp [hy])) h2⟩
    intro y hy
    have hy' : y ∈ pre ++ (n, key) :: post := hy
    rw [List.mem_append, List.mem_cons] at hy'
    rcases hy' with hy | rfl | hy
    · exact h.1 y (by simp [hy])
    · exact h1 (i, k) (by simp)
    · exact h.1 y (by simp [hy])

theorem LSt.ins {N n : Nat} {pre post : List (Nat × UInt64)} {f : Nat → UInt64} {key : UInt64} (h : LSt N n (pre ++ post) f) (h1 : ∀ y ∈ pre, u y.2 < u key) (h2 : ∀ y ∈ post, u key < u y.2) :
    LSt N (n + 1) (pre ++ (n, key) :: post) (insF f n (lastC 19 pre) (pre ++ post).length key (nextP post)) := by
  have hl : lastC 19 pre = 19 ∨ ∃ j, lastC 19 pre = 21 + 2 * j ∧ j < n := by
    rcases lastC_mem pre 19 with e | ⟨y, hy, e⟩
    · exact .inl e
    · exact .inr ⟨y.1, e, h.chain.lt y (by simp [hy])⟩
  have ne : ∀ j, j < 18 ∨ j = 20 + 2 * n → lastC 19 pre ≠ j := by
    intro j hj e
    rcases hl with h | ⟨i, h, _⟩ <;> omega
  refine ⟨?_, ?_, ?_, ?_, ?_, ?_, ?_, rise_ins h.rise h1 h2, ?_⟩
  · unfold insF
    rw [setf_ne _ _ _ _ (by omega), setf_ne _ _ _ _ (fun e => ne 0 (by omega) e.symm), setf_ne _ _ _ _ (by omega), setf_ne _ _ _ _ (by omega), setf_eq]
    congr 1; omega
  · unfold insF
    rw [setf_ne _ _ _ _ (by omega), setf_ne _ _ _ _ (fun e => ne 1 (by omega) e.symm), setf_ne _ _ _ _ (by omega), setf_ne _ _ _ _ (by omega), setf_ne _ _ _ _ (by omega)]; exact h.upto
  · unfold insF
    rw [setf_ne _ _ _ _ (by omega), setf_ne _ _ _ _ (fun e => ne 3 (by omega) e.symm), setf_ne _ _ _ _ (by omega), setf_ne _ _ _ _ (by omega), setf_ne _ _ _ _ (by omega)]; exact h.free
  · unfold insF
    rw [setf_ne _ _ _ _ (by omega), setf_ne _ _ _ _ (fun e => ne 4 (by omega) e.symm), setf_ne _ _ _ _ (by omega), setf_ne _ _ _ _ (by omega), setf_ne _ _ _ _ (by omega)]; exact h.free4
  · unfold insF
    rw [setf_eq]; simp; congr 1
  · refine Chn.ins pre 19 h.chain h.nodup (.inl rfl) ?_ ?_ ?_ ?_
    · intro j hj a1 a2 a3
      unfold insF
      rw [setf_ne _ _ _ _ (by omega), setf_ne _ _ _ _ a3, setf_ne _ _ _ _ a2, setf_ne _ _ _ _ a1, setf_ne _ _ _ _ (by omega)]
    · unfold insF
      rw [setf_ne _ _ _ _ (by rcases hl with h | ⟨i, h, _⟩ <;> omega), setf_eq]
    · unfold insF
      rw [setf_ne _ _ _ _ (by omega), setf_ne _ _ _ _ (fun e => ne _ (.inr rfl) e.symm), setf_ne _ _ _ _ (by omega), setf_eq]
    · unfold insF
      rw [setf_ne _ _ _ _ (by omega), setf_ne _ _ _ _ (by rcases hl with h | ⟨i, h, _⟩ <;> omega), setf_eq]
  · have hnd := h.nodup
    have hlt : ∀ y ∈ pre ++ post, y.1 ≠ n := fun y hy e => by have := h.chain.lt y hy; omega
    rw [List.map_append, List.nodup_append] at hnd
    rw [List.map_append, List.map_cons, List.nodup_append]
    refine ⟨hnd.1, ?_, ?_⟩
    · rw [List.nodup_cons]
      refine ⟨fun hm => ?_, hnd.2.1⟩
      obtain ⟨y, hy, e⟩ := List.mem_map.1 hm
      exact hlt y (by simp [hy]) e
    · intro a ha b hb
      simp only [List.mem_cons] at hb
      rcases hb with rfl | hb
      · intro e
        obtain ⟨y, hy, e'⟩ := List.mem_map.1 ha
        exact hlt y (by simp [hy]) (e'.trans e)
      · exact hnd.2.2 a ha b hb
  · have := h.len
    simp only [List.length_append, List.length_cons] at this ⊢; omega

/-- part.each over a chain, its function making no access. -/
theorem eachC {S : Type} {step : S → Mach → UInt64 → UInt64 → Int × S × Mach} {g : S → UInt64 → UInt64 → S} (hstep : ∀ s m a b, step s m a b = (0, g s a b, m)) {N n tot : Nat} {f : Nat → UInt64} (hN : N < 60000) (hn : 20 + 2 * n ≤ N) (ht : tot ≤ 60000) :
    ∀ (c : List (Nat × UInt64)) (i : Nat) (st : S) {p : UInt64} {m : Mach} {b : Nat}, i + c.length = tot → Chn n f p c → Is N m (b + 2 * c.length) f →
      ∃ m', eachL step (A tot) c.length st m p (A i) = (0, c.foldl (fun s y => g s (A (20 + 2 * y.1)) y.2) st, m') ∧ Is N m' b f
  | [], i, st, p, m, b, hi, hc, h => by
    have hp : p = 0 := hc
    subst hp
    exact ⟨m, by rw [List.length_nil, eachL]; simp, h⟩
  | (j, k) :: r, i, st, p, m, b, hi, hc, h => by
    obtain ⟨e1, e2, e3, e4⟩ := hc
    simp only [List.length_cons] at hi h
    obtain ⟨m1, q1, i1⟩ := get_is' (b := b + 2 * r.length + 1) (h.mono (by omega)) (k := 20 + 2 * j) (by omega) (by omega)
    obtain ⟨m3, q3, i3⟩ := get_is' i1 (k := 21 + 2 * j) (by omega) (by omega)
    obtain ⟨m4, q4, i4⟩ := eachC hstep hN hn ht r (i + 1) (g st (A (20 + 2 * j)) k) (by omega) e4 i3
    refine ⟨m4, ?_, i4⟩
    have es : A (21 + 2 * j) - 1 = A (20 + 2 * j) := by
      have := A_sub1 (20 + 2 * j); rwa [show 20 + 2 * j + 1 = 21 + 2 * j by omega] at this
    rw [e3] at q1
    rw [e1, List.length_cons, eachL, A_ne0 (by omega), if_pos (by simp), es, q1]
    simp only [bne_self_eq_false, Bool.false_eq_true, if_false, hstep, q3, A_add1]
    have hnx := e4.next
    have htst : ((f (21 + 2 * j)) == 0) = (A (i + 1) == A tot) := by
      rw [hnx]
      cases r with
      | nil => simp only [List.length_nil] at hi; rw [show i + 1 = tot by omega]; simp [nextP]
      | cons y r' =>
        have := e4.lt y (by simp)
        simp only [List.length_cons] at hi
        rw [show nextP (y :: r') = A (21 + 2 * y.1) from rfl, A_eq0 (by omega)]
        have h2 : (A (i + 1) == A tot) = false := by rw [beq_eq_false_iff_ne]; intro e; have := (A_inj (by omega) (by omega)).1 e; omega
        rw [h2]; simp
    rw [htst]
    simp only [beq_self_eq_true, if_true]
    exact q4

theorem each_c {S : Type} {step : S → Mach → UInt64 → UInt64 → Int × S × Mach} {g : S → UInt64 → UInt64 → S} (hstep : ∀ s m a b, step s m a b = (0, g s a b, m)) {N n : Nat} {f : Nat → UInt64} {c : List (Nat × UInt64)} {p : UInt64} (hN : N < 60000) (hn : 20 + 2 * n ≤ N) (hc : Chn n f p c) (hl : c.length ≤ 1000)
    (st : S) {m : Mach} {b : Nat} (h : Is N m (b + 2 * c.length) f) : ∃ m', each step ⟨2, p, A c.length⟩ st m = (0, c.foldl (fun s y => g s (A (20 + 2 * y.1)) y.2) st, m') ∧ Is N m' b f := by
  obtain ⟨m', q, i⟩ := eachC hstep hN hn (tot := c.length) (by omega) c 0 st (by omega) hc h
  refine ⟨m', ?_, i⟩
  unfold each
  have h1 : ((2 : Int) != 1 && (2 : Int) != 2) = false := rfl
  have h2 : decide (u 65536 < u (A c.length)) = false := by rw [decide_eq_false_iff_not, u_A (by omega)]; show ¬ ((65536 : Int) < c.length); omega
  have h3 : ((p == 0) != (A c.length == 0)) = false := by
    rw [hc.next]
    cases c with
    | nil => rfl
    | cons y r =>
      have := hc.lt y (by simp)
      rw [show nextP (y :: r) = A (21 + 2 * y.1) from rfl, A_eq0 (by omega), A_eq0 (by omega)]; simp
  simp only [h1, h2, h3, Bool.false_eq_true, if_false, Bool.or_false]
  rw [A_toNat (by omega)]
  exact q

theorem foldl_snd : ∀ (c : List (Nat × UInt64)) (s : List UInt64), c.foldl (fun s y => s ++ [y.2]) s = s ++ c.map (·.2)
  | [], s => by simp
  | y :: r, s => by rw [List.foldl_cons, foldl_snd r]; simp
theorem foldl_fst : ∀ (c : List (Nat × UInt64)) (s : List UInt64), c.foldl (fun s y => s ++ [A (20 + 2 * y.1)]) s = s ++ c.map (fun y => A (20 + 2 * y.1))
  | [], s => by simp
  | y :: r, s => by rw [List.foldl_cons, foldl_fst r]; simp
/-- Read of a list's part. -/
theorem pread_c {N n : Nat} {f : Nat → UInt64} {c : List (Nat × UInt64)} {p : UInt64} (hN : N < 60000) (hn : 20 + 2 * n ≤ N) (hc : Chn n f p c) (hl : c.length ≤ 1000) {m : Mach} {b : Nat} (h : Is N m (b + 2 * c.length) f) :
    ∃ m', pread m ⟨2, p, A c.length⟩ = (c.map (·.2), 0, m') ∧ Is N m' b f := by
  obtain ⟨m', q, i⟩ := each_c (step := stepR) (g := fun s _ b => s ++ [b]) (fun _ _ _ _ => rfl) hN hn hc hl [] h
  refine ⟨m', ?_, i⟩
  rw [foldl_snd, List.nil_append] at q
  unfold pread
  rw [q]
  simp only [bne_self_eq_false, Bool.false_eq_true, if_false]
theorem pnodes_c {N n : Nat} {f : Nat → UInt64} {c : List (Nat × UInt64)} {p : UInt64} (hN : N < 60000) (hn : 20 + 2 * n ≤ N) (hc : Chn n f p c) (hl : c.length ≤ 1000) {m : Mach} {b : Nat} (h : Is N m (b + 2 * c.length) f) :
    ∃ m', pnodes m ⟨2, p, A c.length⟩ = (c.map (fun y => A (20 + 2 * y.1)), 0, m') ∧ Is N m' b f := by
  obtain ⟨m', q, i⟩ := each_c (step := stepN) (g := fun s a _ => s ++ [a]) (fun _ _ _ _ => rfl) hN hn hc hl [] h
  refine ⟨m', ?_, i⟩
  rw [foldl_fst, List.nil_append] at q
  unfold pnodes
  rw [q]

/-- Nodes given back, in any order. -/
theorem giveC {N n : Nat} (hN : N < 60000) (hn : 20 + 2 * n ≤ N) : ∀ (c : List (Nat × UInt64)) {l : List Nat} {m : Mach} {b : Nat} {f : Nat → UInt64}, (∀ y ∈ c, y.1 < n) → (c.map (·.1)).Nodup → (∀ a ∈ l, 3 < a ∧ ∀ y ∈ c, a ≠ 20 + 2 * y.1) → FreeC N f (f 3) l → Is N m (b + 3 * c.length) f →
    ∃ m' f', giveL 0 (c.map fun y => A (20 + 2 * y.1)) m = (0, m') ∧ Is N m' b f' ∧ (∃ l', FreeC N f' (f' 3) l' ∧ l'.length = l.length + c.length) ∧ ∀ j, j ≠ 3 → (∀ y ∈ c, j ≠ 20 + 2 * y.1) → f' j = f j
  | [], l, m, b, f, _, _, _, hf, h => ⟨m, f, rfl, h, ⟨l, hf, rfl⟩, fun _ _ _ => rfl⟩
  | (i, k) :: r, l, m, b, f, hc, hnd, hl, hf, h => by
    simp only [List.length_cons] at h
    simp only [List.map_cons, List.nodup_cons] at hnd
    have hi : i < n := hc (i, k) (by simp)
    have hir : ∀ y ∈ r, y.1 ≠ i := fun y hy e => hnd.1 (List.mem_map.2 ⟨y, hy, e⟩)
    obtain ⟨m1, q1, i1⟩ := give_is (b := b + 3 * r.length) (s := 2) (k := 20 + 2 * i) (h.mono (by omega)) (by omega) (by omega) (by omega) (by omega) (by omega)
    have hf1 : FreeC N (setf (setf f (20 + 2 * i) (f (1 + 2))) (1 + 2) (A (20 + 2 * i + 1))) (setf (setf f (20 + 2 * i) (f (1 + 2))) (1 + 2) (A (20 + 2 * i + 1)) 3) ((20 + 2 * i) :: l) := by
      rw [show 1 + 2 = 3 from rfl, setf_eq]
      refine ⟨rfl, by omega, ?_⟩
      rw [setf_ne _ _ _ _ (by omega), setf_eq]
      refine hf.congr fun a ha => ?_
      have := hl a ha
      have := this.2 (i, k) (by simp)
      simp only at this
      rw [setf_ne _ _ _ _ (by omega), setf_ne _ _ _ _ (by omega)]
    obtain ⟨m2, f2, q2, i2, ⟨l2, hl2, hn2⟩, h2⟩ := giveC hN hn r (fun y hy => hc y (by simp [hy])) hnd.2 (fun a ha => by
      simp only [List.mem_cons] at ha
      rcases ha with rfl | ha
      · exact ⟨by omega, fun y hy => by have := hir y hy; omega⟩
      · exact ⟨(hl a ha).1, fun y hy => (hl a ha).2 y (by simp [hy])⟩) hf1 i1
    refine ⟨m2, f2, ?_, i2, ⟨l2, hl2, by rw [hn2]; simp; omega⟩, ?_⟩
    · rw [List.map_cons, giveL_cons, show (2 : UInt64) = A 2 from rfl, q1]
      simp only [bne_self_eq_false, Bool.false_eq_true, if_false]
      exact q2
    · intro j hj hy
      rw [h2 j hj (fun y hm => hy y (by simp [hm])), show 1 + 2 = 3 from rfl, setf_ne _ _ _ _ hj, setf_ne _ _ _ _ (hy (i, k) (by simp))]
end Go.Proofs.Ytkfonlpglkfpgaa
