/- part.each. -/
import Derived.Test.YtkfonlpglkfpgaaPart2
namespace Go.Proofs.Ytkfonlpglkfpgaa
set_option linter.unusedSimpArgs false
set_option linter.unusedVariables false
open Go.RowKit

/-- The tx's Get as a function value: the method of the pointer, or the interface's. -/
inductive LoadV (x : TxB) : Value → Prop where
  | ptr : LoadV x (.func (.func 11) #[.pointer (some ⟨x.ta, 0, none⟩)] #[])
  | meth : LoadV x (.func (.method "Get") #[x.val] #[])

/-- What the function that is handed in keeps (J), and does. 'pb': a block that is not its own. -/
structure StepOk {S : Type} (x : TxB) (pb : Nat) (J : S → Mach → World → Prop) (cnt : S → Nat) (step : S → Mach → UInt64 → UInt64 → Int × S × Mach) (fid : FuncId) (caps : Array Value) : Prop where
  enter : ∀ (args : Array Value) (w : World), (callFunc fid args).run Try.prog w = .ok (.enter fid args) w
  at_ : ∀ s m w, J s m w → x.At m w
  tch : ∀ s m w m' w', J s m w → x.At m' w' → Tch x.L w w' → J s m' w'
  inc : ∀ s m a b, cnt (step s m a b).2.1 = cnt s + 1
  call : ∀ s m w a b, J s m w → cnt s < 65536 → pb < w.heap.size → Calls Try.prog fid (#[U a, U b] ++ caps) w fun e w' =>
    e = .returned (.int .i64 (step s m a b).1) ∧ J (step s m a b).2.1 (step s m a b).2.2 w' ∧ w'.heap[pb]? = w.heap[pb]?

theorem u_pos {a : UInt64} (h : ¬a = 0) : 0 < a.toNat := by
  rcases Nat.eq_zero_or_pos a.toNat with h' | h'
  · exact absurd (UInt64.toNat_inj.1 (by simpa using h')) h
  · exact h'

/-- What it leaves. -/
def EachPost {S : Type} (J : S → Mach → World → Prop) (r : Int × S × Mach) (e : Ending) (w' : World) : Prop := e = .returned (.int .i64 r.1) ∧ J r.2.1 r.2.2 w'

end Go.Proofs.Ytkfonlpglkfpgaa
