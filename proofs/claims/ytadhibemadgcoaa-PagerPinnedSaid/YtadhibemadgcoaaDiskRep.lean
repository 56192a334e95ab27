/- A disk as a plain value, what its calls make of it, and how it lies in memory. Conditions: none. -/
import Derived.Test.YtadhibemadgcoaaBase2
namespace Go.Proofs.Ytadhibemadgcoaa
open Go.RowKit

/-- A disk: its sectors, the writes that wait, how many steps were done, the fuse, is the power gone? -/
structure Dk where
  L : List (List UInt8)
  wait : List (Nat × List UInt8)
  steps : Nat
  fuse : Int
  gone : Bool

/-- A disk behind a step that is done. -/
def stepY (d : Dk) : Dk := { d with fuse := if 0 < d.fuse then d.fuse - 1 else d.fuse, steps := d.steps + 1 }
/-- A step: is there power, and the disk behind it. -/
def stepD (d : Dk) : Bool × Dk :=
  if d.gone = true ∨ d.fuse = 0 then (false, { d with gone := true })
  else (true, stepY d)
/-- Write: the error, and the disk behind it. -/
def writeD (d : Dk) (at_ : Int) (b : List UInt8) : Nat × Dk :=
  if b.length ≠ 512 then (2, d)
  else if ¬ (0 ≤ at_ ∧ at_ < d.L.length) then (3, d)
  else if (stepD d).1 = false then (9, (stepD d).2)
  else (0, { (stepD d).2 with wait := d.wait ++ [(at_.toNat, b)] })
/-- What the last of some writes to a sector leaves there. -/
def readW (l : List (Nat × List UInt8)) (at_ : Nat) (s : List UInt8) : List UInt8 := l.foldl (fun s x => if x.1 = at_ then x.2 else s) s
/-- Read: the error, and the bytes. -/
def readD (d : Dk) (at_ : Int) : Nat × List UInt8 :=
  if ¬ (0 ≤ at_ ∧ at_ < d.L.length) then (3, [])
  else if d.gone = true then (9, [])
  else (0, readW d.wait at_.toNat (d.L.getD at_.toNat []))
/-- Writes that are done. -/
def applyW (l : List (Nat × List UInt8)) (L : List (List UInt8)) : List (List UInt8) := l.foldl (fun L x => L.set x.1 x.2) L
def flushD (d : Dk) : Nat × Dk :=
  if (stepD d).1 = false then (9, (stepD d).2) else (0, { (stepD d).2 with L := applyW d.wait d.L, wait := [] })
def fuseD (d : Dk) (n : Int) : Dk := { d with fuse := if n < -1 then -1 else n }
/-- One write that a crash keeps, as far as it keeps it. -/
def keepD (wait : List (Nat × List UInt8)) (L : List (List UInt8)) (k : Int × Int) : List (List UInt8) :=
  if 0 ≤ k.1 ∧ k.1 < wait.length then
    match wait[k.1.toNat]? with
    | some x => L.set x.1 (x.2.take (min k.2.toNat 512) ++ (L.getD x.1 []).drop (min k.2.toNat 512))
    | none => L
  else L
def crashD (d : Dk) (kept : List (Int × Int)) : Dk := { L := kept.foldl (keepD d.wait) d.L, wait := [], steps := 0, fuse := -1, gone := false }

theorem applyW_length (l : List (Nat × List UInt8)) : ∀ L, (applyW l L).length = L.length := by
  induction l with
  | nil => intro L; rfl
  | cons x l ih => intro L; show (applyW l (L.set x.1 x.2)).length = _; rw [ih]; simp

/-- A sector of the disk's: at block b, with room for cap bytes. -/
def SecIn (w : World) (x : Nat × Nat) (l : List UInt8) : Prop :=
  l.length = 512 ∧ 512 ≤ x.2 ∧ ∃ cur : Array Value, w.heap[x.1]? = some (.cells cur 5 (0, 0)) ∧ 512 ≤ cur.size ∧ cur.toList.take 512 = bcells l
def secV (x : Nat × Nat) : Value := .slice (some ⟨x.1, 0, none⟩) 512 x.2
/-- The cells of writes that wait. -/
def waitCells (ws : List (Nat × Value × List UInt8)) : List Value := ws.flatMap fun x => [.int .i64 (x.1 : Int), x.2.1]
def blockList (v : Value) : List Nat := match v.ownBlock with | some k => [k] | none => []

/-- How a disk lies in memory, all its parts told. -/
structure DiskIn (w : World) (p sb rb : Nat) (bs : List (Nat × Nat)) (wv : Value) (ws : List (Nat × Value × List UInt8)) (d : Dk) : Prop where
  n1 : 1 ≤ d.L.length
  n2 : d.L.length ≤ 4096
  f1 : -1 ≤ d.fuse
  f2 : d.fuse ≤ 9223372036854775807
  hp : w.heap[p]? = some (.cells #[.pointer (some ⟨sb, 0, none⟩), wv, .int .i64 (d.steps : Int), .int .i64 d.fuse, .bool d.gone] 122 (0, 0))
  hs : w.heap[sb]? = some (.cells #[.slice (some ⟨rb, 0, none⟩) d.L.length d.L.length] 129 (0, 0))
  hr : w.heap[rb]? = some (.cells (bs.map secV).toArray 35 (0, 0))
  hb : bs.length = d.L.length
  hl : ∀ (i : Nat) (x : Nat × Nat) (l : List UInt8), bs[i]? = some x → d.L[i]? = some l → SecIn w x l
  hw : w.ownsRow 0 124 2 wv ws.length (waitCells ws)
  hwl : d.wait = ws.map fun x => (x.1, x.2.2)
  hwb : ∀ x ∈ ws, Bts w x.2.1 x.2.2 ∧ x.2.2.length = 512 ∧ x.1 < d.L.length
  nd : (p :: sb :: rb :: (blockList wv ++ bs.map Prod.fst)).Nodup

def mine (p sb rb : Nat) (bs : List (Nat × Nat)) (wv : Value) : List Nat := p :: sb :: rb :: (blockList wv ++ bs.map Prod.fst)
/-- The disk d lies at block p; its own blocks are among M; all that it leans on is among F. -/
def DiskAt (w : World) (p : Nat) (d : Dk) (M F : Nat → Prop) : Prop :=
  ∃ sb rb bs wv ws, DiskIn w p sb rb bs wv ws d ∧ (∀ k ∈ mine p sb rb bs wv, M k) ∧ (∀ x ∈ ws, ∀ k, x.2.1.ownBlock = some k → F k ∧ ¬ M k) ∧ (∀ k, M k → F k) ∧ (∀ k, F k → k < w.heap.size)

theorem SecIn.frame {w w' : World} {x : Nat × Nat} {l : List UInt8} (h : SecIn w x l) (hk : w'.heap[x.1]? = w.heap[x.1]?) : SecIn w' x l := by
  obtain ⟨h1, h2, cur, h3, h4⟩ := h
  exact ⟨h1, h2, cur, hk.trans h3, h4⟩
theorem ownsRow_frame {w w' : World} {base e size n : Nat} {v : Value} {xs : List Value} (h : w.ownsRow base e size v n xs) (hk : ∀ k, v.ownBlock = some k → w'.heap[k]? = w.heap[k]?) : w'.ownsRow base e size v n xs := by
  refine ⟨h.1, ?_⟩
  rcases h.2 with h | ⟨g, cap, cur, rfl, hb, hg, r⟩
  · exact .inl h
  · exact .inr ⟨g, cap, cur, rfl, hb, (hk g rfl).trans hg, r⟩
theorem mem_blockList {v : Value} {k : Nat} (h : v.ownBlock = some k) : k ∈ blockList v := by simp [blockList, h]
theorem DiskIn.frame {w w' : World} {p sb rb : Nat} {bs : List (Nat × Nat)} {wv : Value} {ws : List (Nat × Value × List UInt8)} {d : Dk} (h : DiskIn w p sb rb bs wv ws d)
    (hm : ∀ k ∈ mine p sb rb bs wv, w'.heap[k]? = w.heap[k]?) (hf : ∀ x ∈ ws, ∀ k, x.2.1.ownBlock = some k → w'.heap[k]? = w.heap[k]?) : DiskIn w' p sb rb bs wv ws d where
  n1 := h.n1
  n2 := h.n2
  f1 := h.f1
  f2 := h.f2
  hp := (hm p (by simp [mine])).trans h.hp
  hs := (hm sb (by simp [mine])).trans h.hs
  hr := (hm rb (by simp [mine])).trans h.hr
  hb := h.hb
  hl := fun i x l hx hl => (h.hl i x l hx hl).frame (hm x.1 (by
    have := List.mem_of_getElem? hx
    simp only [mine, List.mem_cons, List.mem_append, List.mem_map]
    exact .inr (.inr (.inr (.inr ⟨x, this, rfl⟩)))))
  hw := ownsRow_frame h.hw fun k hk => hm k (by
    have := mem_blockList hk
    simp only [mine, List.mem_cons, List.mem_append]
    exact .inr (.inr (.inr (.inl this))))
  hwl := h.hwl
  hwb := fun x hx => ⟨(h.hwb x hx).1.frame (hf x hx), (h.hwb x hx).2⟩
  nd := h.nd
/-- A disk is what it was where nothing that it leans on has changed. -/
theorem DiskAt.frame {w w' : World} {p : Nat} {d : Dk} {M F : Nat → Prop} (h : DiskAt w p d M F) (hs : w.heap.size ≤ w'.heap.size) (hk : ∀ k, F k → w'.heap[k]? = w.heap[k]?) : DiskAt w' p d M F := by
  obtain ⟨sb, rb, bs, wv, ws, h1, h2, h3, h4, h5⟩ := h
  exact ⟨sb, rb, bs, wv, ws, h1.frame (fun k hk2 => hk k (h4 k (h2 k hk2))) (fun x hx k hk2 => hk k (h3 x hx k hk2).1), h2, h3, h4, fun k hk2 => Nat.lt_of_lt_of_le (h5 k hk2) hs⟩
theorem DiskAt.ch {S : Nat → Prop} {w w' : World} {p : Nat} {d : Dk} {M F : Nat → Prop} (h : DiskAt w p d M F) (hc : Ch S w w') (hn : ∀ k, F k → ¬ S k) : DiskAt w' p d M F := by
  have h5 : ∀ k, F k → k < w.heap.size := by obtain ⟨_, _, _, _, _, _, _, _, _, h5⟩ := h; exact h5
  exact h.frame hc.size fun k hk => hc.block k (h5 k hk) (hn k hk)
/-- What a call may make of a set of blocks: no old block comes in. -/
def Fresh (w : World) (A B : Nat → Prop) : Prop := ∀ k, B k → A k ∨ w.heap.size ≤ k

end Go.Proofs.Ytadhibemadgcoaa
