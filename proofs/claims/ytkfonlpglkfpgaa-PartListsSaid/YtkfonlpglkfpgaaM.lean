/- The plain models of what the layers do over a block of plain words: no program in sight. -/
import Derived.Test.YtkfonlpglkfpgaaU
namespace Go.Proofs.Ytkfonlpglkfpgaa
set_option linter.unusedSimpArgs false
set_option linter.unusedVariables false
open Go.RowKit (wrap64)

/-- The words of parleyref20.World. -/
structure Mach where
  mem : List UInt64
  left : Int
  code : Int
  calls : Int

def Mach.get (m : Mach) (a : UInt64) : UInt64 × Int × Mach :=
  if m.left = 0 then (0, m.code, { m with calls := wrap64 (m.calls + 1) })
  else if a.toNat < m.mem.length then (m.mem.getD a.toNat 0, 0, { m with calls := wrap64 (m.calls + 1), left := wrap64 (m.left - 1) })
  else (0, 4, { m with calls := wrap64 (m.calls + 1), left := wrap64 (m.left - 1) })

def Mach.put (m : Mach) (a x : UInt64) : Int × Mach :=
  if m.left = 0 then (m.code, { m with calls := wrap64 (m.calls + 1) })
  else if a.toNat < m.mem.length then (0, { mem := m.mem.set a.toNat x, code := m.code, calls := wrap64 (m.calls + 1), left := wrap64 (m.left - 1) })
  else (4, { m with calls := wrap64 (m.calls + 1), left := wrap64 (m.left - 1) })

/-- room.fits -/
def fits (size : UInt64) : Int := if u size < u 1 ∨ u 16 < u size then 2 else 0

/-- room.ends -/
def ends (m : Mach) (at_ : UInt64) : UInt64 × UInt64 × Int × Mach :=
  let r := m.get at_
  if r.2.1 != 0 then (0, 0, r.2.1, r.2.2) else
  let s := r.2.2.get (at_ + 1)
  (r.1, s.1, s.2.1, s.2.2)

/-- room.Take -/
def take (m : Mach) (at_ size : UInt64) : UInt64 × Int × Mach :=
  if fits size != 0 then (0, fits size, m) else
  let r := m.get (at_ + 1 + size)
  if r.2.1 != 0 then (0, r.2.1, r.2.2) else
  if r.1 != 0 then
    let s := r.2.2.get (r.1 - 1)
    if s.2.1 != 0 then (0, s.2.1, s.2.2) else
    let p := s.2.2.put (at_ + 1 + size) s.1
    if p.1 != 0 then (0, p.1, p.2) else (r.1 - 1, 0, p.2)
  else
    let e := ends r.2.2 at_
    if e.2.2.1 != 0 then (0, e.2.2.1, e.2.2.2) else
    if u e.2.1 < u e.1 ∨ u (e.2.1 - e.1) < u size then (0, 9, e.2.2.2) else
    let p := e.2.2.2.put at_ (e.1 + size)
    if p.1 != 0 then (0, p.1, p.2) else (e.1, 0, p.2)

/-- room.Give -/
def give (m : Mach) (at_ addr size : UInt64) : Int × Mach :=
  if fits size != 0 then (fits size, m) else
  let r := m.get (at_ + 1 + size)
  if r.2.1 != 0 then (r.2.1, r.2.2) else
  let p := r.2.2.put addr r.1
  if p.1 != 0 then p else
  p.2.put (at_ + 1 + size) (addr + 1)

/-- room.Given: its loop, with room for so many pieces more. -/
def givenL : Nat → Mach → UInt64 → List UInt64 → List UInt64 × Int × Mach
  | n, m, addr, acc =>
    let r := m.get addr
    if r.2.1 != 0 then ([], r.2.1, r.2.2) else
    if r.1 == 0 then (acc, 0, r.2.2) else
    match n with
    | 0 => ([], 2, r.2.2)
    | n + 1 => givenL n r.2.2 (r.1 - 1) (acc ++ [r.1 - 1])
def given (m : Mach) (at_ size : UInt64) : List UInt64 × Int × Mach :=
  if fits size != 0 then ([], fits size, m) else givenL 65536 m (at_ + 1 + size) []

/-- (*queue.block).get, .put: the error that is kept, the words. -/
def bget (m : Mach) (e : Int) (a : UInt64) : UInt64 × Int × Mach := if e != 0 then (0, e, m) else m.get a
def bput (m : Mach) (e : Int) (a x : UInt64) : Int × Mach := if e == 0 then m.put a x else (e, m)

/-- queue.New -/
def qnew (m : Mach) (at_ : UInt64) : UInt64 × Int × Mach :=
  let r := take m at_ 3
  let p := bput r.2.2 r.2.1 r.1 0
  let q := bput p.2 p.1 (r.1 + 1) 0
  let s := bput q.2 q.1 (r.1 + 2) 0
  if s.1 != 0 then (0, s.1, s.2) else (r.1, 0, s.2)

/-- queue.Put -/
def qput (m : Mach) (at_ q x : UInt64) : Int × Mach :=
  let t := take m at_ 2
  let p := bput t.2.2 t.2.1 t.1 x
  let p := bput p.2 p.1 (t.1 + 1) 0
  let g := bget p.2 p.1 (q + 1)
  let p := if g.1 == 0 then bput g.2.2 g.2.1 q (t.1 + 1) else bput g.2.2 g.2.1 g.1 (t.1 + 1)
  let p := bput p.2 p.1 (q + 1) (t.1 + 1)
  let h := bget p.2 p.1 (q + 2)
  bput h.2.2 h.2.1 (q + 2) (h.1 + 1)

/-- queue.Take -/
def qtake (m : Mach) (at_ q : UInt64) : UInt64 × Bool × Int × Mach :=
  let n := bget m 0 q
  if n.2.1 != 0 || n.1 == 0 then (0, false, n.2.1, n.2.2) else
  let x := bget n.2.2 n.2.1 (n.1 - 1)
  let b := bget x.2.2 x.2.1 n.1
  let p := bput b.2.2 b.2.1 q b.1
  let p := if b.1 == 0 then bput p.2 p.1 (q + 1) 0 else p
  let h := bget p.2 p.1 (q + 2)
  let p := bput h.2.2 h.2.1 (q + 2) (h.1 - 1)
  let g := if p.1 == 0 then give p.2 at_ (n.1 - 1) 2 else p
  if g.1 != 0 then (0, false, g.1, g.2) else (x.1, true, 0, g.2)

/-- queue.Len -/
def qlen (m : Mach) (q : UInt64) : UInt64 × Int × Mach := m.get (q + 2)
/-- queue.nodes: what is answered behind the chain. -/
def qnodesE (m : Mach) (e : Int) (fin behind many : UInt64) (acc : List UInt64) : List UInt64 × Int × Mach :=
  if e != 0 then ([], e, m) else if fin != behind || UInt64.ofNat acc.length != many then ([], 330, m) else (acc, 0, m)
/-- queue.nodes: the chain; so many more nodes may come. -/
def qnodesL : Nat → Mach → Int → UInt64 → UInt64 → UInt64 → UInt64 → List UInt64 → List UInt64 × Int × Mach
  | k, m, e, n, fin, behind, many, acc =>
    if n != 0 && e == 0 then
      match k with
      | 0 => qnodesE m e (behind + 1) behind many acc
      | k + 1 => qnodesL k (bget m e n).2.2 (bget m e n).2.1 (bget m e n).1 fin n many (acc ++ [n - 1])
    else qnodesE m e fin behind many acc
def qnodes (m : Mach) (q : UInt64) : List UInt64 × Int × Mach :=
  let f := bget m 0 q
  let c := bget f.2.2 f.2.1 (q + 2)
  let l := bget c.2.2 c.2.1 (q + 1)
  if u 65536 < u c.1 then qnodesL c.1.toNat l.2.2 l.2.1 0 1 0 c.1 [] else qnodesL c.1.toNat l.2.2 l.2.1 f.1 l.1 0 c.1 []

/-- queue.Words -/
def qwordsL : List UInt64 → Mach → Int → List UInt64 → List UInt64 × Int × Mach
  | [], m, e, acc => if e != 0 then ([], e, m) else (acc, 0, m)
  | n :: rest, m, e, acc => qwordsL rest (bget m e n).2.2 (bget m e n).2.1 (acc ++ [(bget m e n).1])
def qwords (m : Mach) (q : UInt64) : List UInt64 × Int × Mach :=
  let r := qnodes m q
  qwordsL r.1 r.2.2 r.2.1 []
/-- api.Part -/
structure Prt where
  kind : Int
  first : UInt64
  count : UInt64
/-- part.cut -/
def cutL : List UInt64 → Mach → Int × Mach
  | [], m => (0, m)
  | a :: r, m => if (m.put a 0).1 != 0 then m.put a 0 else cutL r (m.put a 0).2
theorem cutL_nil (m : Mach) : cutL [] m = (0, m) := rfl
theorem cutL_cons (a : UInt64) (r : List UInt64) (m : Mach) : cutL (a :: r) m = if (m.put a 0).1 != 0 then m.put a 0 else cutL r (m.put a 0).2 := rfl
def cut (m : Mach) (kind : Int) (first count : UInt64) (ns : List UInt64) : Prt × Int × Mach :=
  let f := m.get first
  if f.2.1 != 0 then (⟨0, 0, 0⟩, f.2.1, f.2.2) else
  let c := f.2.2.get count
  if c.2.1 != 0 then (⟨0, 0, 0⟩, c.2.1, c.2.2) else
  let l := cutL ns c.2.2
  if l.1 != 0 then (⟨0, 0, 0⟩, l.1, l.2) else (⟨kind, f.1, c.1⟩, 0, l.2)
/-- part.Queue -/
def pqueue (m : Mach) (q : UInt64) : Prt × Int × Mach := cut m 1 q (q + 2) [q, q + 1, q + 2]
/-- part.List -/
def plist (m : Mach) (l : UInt64) : Prt × Int × Mach := cut m 2 (l + 1) l [l, l + 1]
/-- part.each: over the steps of a function that is handed in. -/
def eachL {S : Type} (step : S → Mach → UInt64 → UInt64 → Int × S × Mach) (count : UInt64) : Nat → S → Mach → UInt64 → UInt64 → Int × S × Mach
  | k, s, m, next, n =>
    if next != 0 then
      let g := m.get (next - 1)
      if g.2.1 != 0 then (g.2.1, s, g.2.2) else
      let f := step s g.2.2 (next - 1) g.1
      if f.1 != 0 then f else
      let h := f.2.2.get next
      if h.2.1 != 0 then (h.2.1, f.2.1, h.2.2) else
      if (h.1 == 0) == (n + 1 == count) then
        match k with
        | 0 => (0, f.2.1, h.2.2)
        | k + 1 => eachL step count k f.2.1 h.2.2 h.1 (n + 1)
      else (360, f.2.1, h.2.2)
    else (0, s, m)
def each {S : Type} (step : S → Mach → UInt64 → UInt64 → Int × S × Mach) (p : Prt) (s : S) (m : Mach) : Int × S × Mach :=
  if p.kind != 1 && p.kind != 2 then (2, s, m)
  else if decide (u 65536 < u p.count) || ((p.first == 0) != (p.count == 0)) then (360, s, m)
  else eachL step p.count p.count.toNat s m p.first 0
/-- part.Read, part.nodes -/
def stepR (s : List UInt64) (m : Mach) (_ b : UInt64) : Int × List UInt64 × Mach := (0, s ++ [b], m)
def stepN (s : List UInt64) (m : Mach) (a _ : UInt64) : Int × List UInt64 × Mach := (0, s ++ [a], m)
def pread (m : Mach) (p : Prt) : List UInt64 × Int × Mach :=
  let r := each stepR p [] m
  if r.1 != 0 then ([], r.1, r.2.2) else (r.2.1, 0, r.2.2)
def pnodes (m : Mach) (p : Prt) : List UInt64 × Int × Mach :=
  let r := each stepN p [] m
  (r.2.1, r.1, r.2.2)
/-- part.Turn -/
def stepT (g : UInt64 → UInt64) (s : Nat) (m : Mach) (a b : UInt64) : Int × Nat × Mach := ((m.put a (g b)).1, s + 1, (m.put a (g b)).2)
def pturn (g : UInt64 → UInt64) (m : Mach) (p : Prt) : Int × Mach :=
  let r := each (stepT g) p 0 m
  (r.1, r.2.2)
/-- part.Give -/
def giveL (at_ : UInt64) : List UInt64 → Mach → Int × Mach
  | [], m => (0, m)
  | n :: r, m => if (give m at_ n 2).1 != 0 then give m at_ n 2 else giveL at_ r (give m at_ n 2).2
theorem giveL_nil (at_ : UInt64) (m : Mach) : giveL at_ [] m = (0, m) := rfl
theorem giveL_cons (at_ n : UInt64) (r : List UInt64) (m : Mach) : giveL at_ (n :: r) m = if (give m at_ n 2).1 != 0 then give m at_ n 2 else giveL at_ r (give m at_ n 2).2 := rfl
def pgive (m : Mach) (at_ : UInt64) (p : Prt) : Int × Mach :=
  let r := pnodes m p
  if r.2.1 != 0 then (r.2.1, r.2.2) else giveL at_ r.1 r.2.2
/-- part.Back -/
def pbackP (m : Mach) (q : UInt64) (a b c : UInt64) : Int × Mach :=
  let p := m.put q a
  if p.1 != 0 then p else
  let p := p.2.put (q + 1) b
  if p.1 != 0 then p else
  let p := p.2.put (q + 2) c
  if p.1 != 0 then p else (0, p.2)
def pback (m : Mach) (q : UInt64) (p : Prt) : Int × Mach :=
  if p.kind != 1 then (2, m) else
  let f := m.get q
  if f.2.1 != 0 then (f.2.1, f.2.2) else
  if f.1 != 0 then (2, f.2.2) else
  let r := pnodes f.2.2 p
  if r.2.1 != 0 then (r.2.1, r.2.2) else
  pbackP r.2.2 q p.first (if 0 < r.1.length then r.1.getD (r.1.length - 1) 0 + 1 else 0) p.count
end Go.Proofs.Ytkfonlpglkfpgaa
