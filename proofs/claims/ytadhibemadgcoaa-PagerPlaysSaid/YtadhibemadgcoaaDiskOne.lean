/- Disks: how they lie in memory, and the walks of package disk. Conditions: as each theorem says. -/
import Derived.Test.YtadhibemadgcoaaBase2
import Derived.Test.YtadhibemadgcoaaRows
import Derived.WalkLawsBesides
import Derived.Deep.QuietTactic
import Derived.BigQuiet
import Derived.Deep.RegionLaw
import Derived.Deep.RegionWith
import Derived.Test.YtadhibemadgcoaaPageOne
import Derived.Deep.RegionHeld3
namespace Go.Proofs.Ytadhibemadgcoaa

section
open Go.RowKit

/-- A disk: its sectors, the writes that wait, how many steps were done, the fuse, is the power gone? -/
structure Dk where
  L : List (List UInt8)
  wait : List (Nat × List UInt8)
  steps : Nat
  fuse : Int
  gone : Bool

/-- A disk behind a step that is done. -/
def stepY (d : Dk) : Dk := { d with fuse := if 0 < d.fuse then d.fuse - 1 else d.fuse, steps := d.steps + 1 }
/-- A step: is there power, and the disk behind it. -/
def stepD (d : Dk) : Bool × Dk :=
  if d.gone = true ∨ d.fuse = 0 then (false, { d with gone := true })
  else (true, stepY d)
/-- Write: the error, and the disk behind it. -/
def writeD (d : Dk) (at_ : Int) (b : List UInt8) : Nat × Dk :=
  if b.length ≠ 512 then (2, d)
  else if ¬ (0 ≤ at_ ∧ at_ < d.L.length) then (3, d)
  else if (stepD d).1 = false then (9, (stepD d).2)
  else (0, { (stepD d).2 with wait := d.wait ++ [(at_.toNat, b)] })
/-- What the last of some writes to a sector leaves there. -/
def readW (l : List (Nat × List UInt8)) (at_ : Nat) (s : List UInt8) : List UInt8 := l.foldl (fun s x => if x.1 = at_ then x.2 else s) s
/-- Read: the error, and the bytes. -/
def readD (d : Dk) (at_ : Int) : Nat × List UInt8 :=
  if ¬ (0 ≤ at_ ∧ at_ < d.L.length) then (3, [])
  else if d.gone = true then (9, [])
  else (0, readW d.wait at_.toNat (d.L.getD at_.toNat []))
/-- Writes that are done. -/
def applyW (l : List (Nat × List UInt8)) (L : List (List UInt8)) : List (List UInt8) := l.foldl (fun L x => L.set x.1 x.2) L
def flushD (d : Dk) : Nat × Dk :=
  if (stepD d).1 = false then (9, (stepD d).2) else (0, { (stepD d).2 with L := applyW d.wait d.L, wait := [] })
def fuseD (d : Dk) (n : Int) : Dk := { d with fuse := if n < -1 then -1 else n }
/-- One write that a crash keeps, as far as it keeps it. -/
def keepD (wait : List (Nat × List UInt8)) (L : List (List UInt8)) (k : Int × Int) : List (List UInt8) :=
  if 0 ≤ k.1 ∧ k.1 < wait.length then
    match wait[k.1.toNat]? with
    | some x => L.set x.1 (x.2.take (min k.2.toNat 512) ++ (L.getD x.1 []).drop (min k.2.toNat 512))
    | none => L
  else L
def crashD (d : Dk) (kept : List (Int × Int)) : Dk := { L := kept.foldl (keepD d.wait) d.L, wait := [], steps := 0, fuse := -1, gone := false }

theorem applyW_length (l : List (Nat × List UInt8)) : ∀ L, (applyW l L).length = L.length := by
  induction l with
  | nil => intro L; rfl
  | cons x l ih => intro L; show (applyW l (L.set x.1 x.2)).length = _; rw [ih]; simp

/-- A sector of the disk's: at block b, with room for cap bytes. -/
def SecIn (w : World) (x : Nat × Nat) (l : List UInt8) : Prop :=
  l.length = 512 ∧ 512 ≤ x.2 ∧ ∃ cur : Array Value, w.heap[x.1]? = some (.cells cur 5 (0, 0)) ∧ 512 ≤ cur.size ∧ cur.toList.take 512 = bcells l
def secV (x : Nat × Nat) : Value := .slice (some ⟨x.1, 0, none⟩) 512 x.2
/-- The cells of writes that wait. -/
def waitCells (ws : List (Nat × Value × List UInt8)) : List Value := ws.flatMap fun x => [.int .i64 (x.1 : Int), x.2.1]
def blockList (v : Value) : List Nat := match v.ownBlock with | some k => [k] | none => []

/-- How a disk lies in memory, all its parts told. -/
structure DiskIn (w : World) (p sb rb : Nat) (bs : List (Nat × Nat)) (wv : Value) (ws : List (Nat × Value × List UInt8)) (d : Dk) : Prop where
  n1 : 1 ≤ d.L.length
  n2 : d.L.length ≤ 4096
  f1 : -1 ≤ d.fuse
  f2 : d.fuse ≤ 9223372036854775807
  hp : w.heap[p]? = some (.cells #[.pointer (some ⟨sb, 0, none⟩), wv, .int .i64 (d.steps : Int), .int .i64 d.fuse, .bool d.gone] 122 (0, 0))
  hs : w.heap[sb]? = some (.cells #[.slice (some ⟨rb, 0, none⟩) d.L.length d.L.length] 129 (0, 0))
  hr : w.heap[rb]? = some (.cells (bs.map secV).toArray 35 (0, 0))
  hb : bs.length = d.L.length
  hl : ∀ (i : Nat) (x : Nat × Nat) (l : List UInt8), bs[i]? = some x → d.L[i]? = some l → SecIn w x l
  hw : w.ownsRow 0 124 2 wv ws.length (waitCells ws)
  hwl : d.wait = ws.map fun x => (x.1, x.2.2)
  hwb : ∀ x ∈ ws, Bts w x.2.1 x.2.2 ∧ x.2.2.length = 512 ∧ x.1 < d.L.length
  nd : (p :: sb :: rb :: (blockList wv ++ bs.map Prod.fst)).Nodup

def mine (p sb rb : Nat) (bs : List (Nat × Nat)) (wv : Value) : List Nat := p :: sb :: rb :: (blockList wv ++ bs.map Prod.fst)
/-- The disk d lies at block p; its own blocks are among M; all that it leans on is among F. -/
def DiskAt (w : World) (p : Nat) (d : Dk) (M F : Nat → Prop) : Prop :=
  ∃ sb rb bs wv ws, DiskIn w p sb rb bs wv ws d ∧ (∀ k ∈ mine p sb rb bs wv, M k) ∧ (∀ x ∈ ws, ∀ k, x.2.1.ownBlock = some k → F k ∧ ¬ M k) ∧ (∀ k, M k → F k) ∧ (∀ k, F k → k < w.heap.size)

theorem SecIn.frame {w w' : World} {x : Nat × Nat} {l : List UInt8} (h : SecIn w x l) (hk : w'.heap[x.1]? = w.heap[x.1]?) : SecIn w' x l := by
  obtain ⟨h1, h2, cur, h3, h4⟩ := h
  exact ⟨h1, h2, cur, hk.trans h3, h4⟩
theorem ownsRow_frame {w w' : World} {base e size n : Nat} {v : Value} {xs : List Value} (h : w.ownsRow base e size v n xs) (hk : ∀ k, v.ownBlock = some k → w'.heap[k]? = w.heap[k]?) : w'.ownsRow base e size v n xs := by
  refine ⟨h.1, ?_⟩
  rcases h.2 with h | ⟨g, cap, cur, rfl, hb, hg, r⟩
  · exact .inl h
  · exact .inr ⟨g, cap, cur, rfl, hb, (hk g rfl).trans hg, r⟩
theorem mem_blockList {v : Value} {k : Nat} (h : v.ownBlock = some k) : k ∈ blockList v := by simp [blockList, h]
theorem DiskIn.frame {w w' : World} {p sb rb : Nat} {bs : List (Nat × Nat)} {wv : Value} {ws : List (Nat × Value × List UInt8)} {d : Dk} (h : DiskIn w p sb rb bs wv ws d)
    (hm : ∀ k ∈ mine p sb rb bs wv, w'.heap[k]? = w.heap[k]?) (hf : ∀ x ∈ ws, ∀ k, x.2.1.ownBlock = some k → w'.heap[k]? = w.heap[k]?) : DiskIn w' p sb rb bs wv ws d where
  n1 := h.n1
  n2 := h.n2
  f1 := h.f1
  f2 := h.f2
  hp := (hm p (by simp [mine])).trans h.hp
  hs := (hm sb (by simp [mine])).trans h.hs
  hr := (hm rb (by simp [mine])).trans h.hr
  hb := h.hb
  hl := fun i x l hx hl => (h.hl i x l hx hl).frame (hm x.1 (by
    have := List.mem_of_getElem? hx
    simp only [mine, List.mem_cons, List.mem_append, List.mem_map]
    exact .inr (.inr (.inr (.inr ⟨x, this, rfl⟩)))))
  hw := ownsRow_frame h.hw fun k hk => hm k (by
    have := mem_blockList hk
    simp only [mine, List.mem_cons, List.mem_append]
    exact .inr (.inr (.inr (.inl this))))
  hwl := h.hwl
  hwb := fun x hx => ⟨(h.hwb x hx).1.frame (hf x hx), (h.hwb x hx).2⟩
  nd := h.nd
/-- A disk is what it was where nothing that it leans on has changed. -/
theorem DiskAt.frame {w w' : World} {p : Nat} {d : Dk} {M F : Nat → Prop} (h : DiskAt w p d M F) (hs : w.heap.size ≤ w'.heap.size) (hk : ∀ k, F k → w'.heap[k]? = w.heap[k]?) : DiskAt w' p d M F := by
  obtain ⟨sb, rb, bs, wv, ws, h1, h2, h3, h4, h5⟩ := h
  exact ⟨sb, rb, bs, wv, ws, h1.frame (fun k hk2 => hk k (h4 k (h2 k hk2))) (fun x hx k hk2 => hk k (h3 x hx k hk2).1), h2, h3, h4, fun k hk2 => Nat.lt_of_lt_of_le (h5 k hk2) hs⟩
theorem DiskAt.ch {S : Nat → Prop} {w w' : World} {p : Nat} {d : Dk} {M F : Nat → Prop} (h : DiskAt w p d M F) (hc : Ch S w w') (hn : ∀ k, F k → ¬ S k) : DiskAt w' p d M F := by
  have h5 : ∀ k, F k → k < w.heap.size := by obtain ⟨_, _, _, _, _, _, _, _, _, h5⟩ := h; exact h5
  exact h.frame hc.size fun k hk => hc.block k (h5 k hk) (hn k hk)
/-- What a call may make of a set of blocks: no old block comes in. -/
def Fresh (w : World) (A B : Nat → Prop) : Prop := ∀ k, B k → A k ∨ w.heap.size ≤ k
end

section
open Go.RowKit

/-- The disk's own five cells turned: all else stays. -/
theorem DiskIn.head {w w' : World} {p sb rb : Nat} {bs : List (Nat × Nat)} {wv : Value} {ws : List (Nat × Value × List UInt8)} {d : Dk} (h : DiskIn w p sb rb bs wv ws d) (steps : Nat) (fuse : Int) (gone : Bool) (hf1 : -1 ≤ fuse) (hf2 : fuse ≤ 9223372036854775807)
    (hp : w'.heap[p]? = some (.cells #[.pointer (some ⟨sb, 0, none⟩), wv, .int .i64 (steps : Int), .int .i64 fuse, .bool gone] 122 (0, 0)))
    (hk : ∀ k, k ≠ p → w'.heap[k]? = w.heap[k]?) (hws : ∀ x ∈ ws, x.2.1.ownBlock ≠ some p) : DiskIn w' p sb rb bs wv ws { d with steps := steps, fuse := fuse, gone := gone } := by
  have nd := h.nd
  simp only [List.nodup_cons, List.mem_cons, List.mem_append, not_or] at nd
  obtain ⟨⟨n1, n2, n3, n4⟩, ⟨n5, n6, n7⟩, ⟨n8, n9⟩, n10⟩ := nd
  exact {
    n1 := h.n1, n2 := h.n2, f1 := hf1, f2 := hf2, hp := hp
    hs := (hk sb (Ne.symm n1)).trans h.hs
    hr := (hk rb (Ne.symm n2)).trans h.hr
    hb := h.hb
    hl := fun i x l hx hl => (h.hl i x l hx hl).frame (hk x.1 (fun e => n4 (by rw [← e]; exact List.mem_map.2 ⟨x, List.mem_of_getElem? hx, rfl⟩)))
    hw := ownsRow_frame h.hw fun k hkk => hk k (fun e => n3 (by rw [← e]; exact mem_blockList hkk))
    hwl := h.hwl
    hwb := fun x hx => ⟨(h.hwb x hx).1.frame (fun k hkk => hk k (fun e => hws x hx (by rw [hkk, e]))), (h.hwb x hx).2⟩
    nd := h.nd }

theorem made_none (w : World) : Calls Try.prog 78 #[.pointer none] w fun e w' => e = .returned (.bool false) ∧ w = w' := by
  go_enter Try.func78, Try.ntmps78
  go_wp2
  go_ret
  exact ⟨rfl, rfl⟩
theorem made_any {p : Nat} {d : Dk} {M F : Nat → Prop} (w : World) (h : DiskAt w p d M F) : Calls Try.prog 78 #[.pointer (some ⟨p, 0, none⟩)] w fun e w' => e = .returned (.bool true) ∧ w = w' := by
  obtain ⟨sb, rb, bs, wv, ws, h1, _⟩ := h
  have hc := cell_blk h1.hp 0
  simp at hc
  clear h1
  go_enter Try.func78, Try.ntmps78
  go_wp2
  go_ret
  exact ⟨rfl, rfl⟩

theorem there_any {sb rb n : Nat} (x : Int) (w : World) (_hn : n ≤ 4096) (h : w.heap[sb]? = some (.cells #[.slice (some ⟨rb, 0, none⟩) n n] 129 (0, 0))) :
    Calls Try.prog 82 #[.pointer (some ⟨sb, 0, none⟩), .int .i64 x] w fun e w' => e = .returned (.bool (decide (0 ≤ x ∧ x < n))) ∧ w = w' := by
  have hc := cell_blk h 0
  simp at hc
  clear h
  by_cases h0 : 0 ≤ x
  · by_cases h1 : x < n
    · rw [decide_eq_true (show 0 ≤ x ∧ x < n from ⟨h0, h1⟩)]
      go_enter Try.func82, Try.ntmps82
      go_wp2
      go_ret
      exact ⟨rfl, rfl⟩
    · rw [decide_eq_false (show ¬ (0 ≤ x ∧ x < n) from fun h => h1 h.2)]
      go_enter Try.func82, Try.ntmps82
      go_wp2
      go_ret
      exact ⟨rfl, rfl⟩
  · rw [decide_eq_false (show ¬ (0 ≤ x ∧ x < n) from fun h => h0 h.1)]
    go_enter Try.func82, Try.ntmps82
    go_wp2
    go_ret
    exact ⟨rfl, rfl⟩

theorem ssize_any {sb rb n : Nat} (w : World) (h : w.heap[sb]? = some (.cells #[.slice (some ⟨rb, 0, none⟩) n n] 129 (0, 0))) :
    Calls Try.prog 91 #[.pointer (some ⟨sb, 0, none⟩)] w fun e w' => e = .returned (.int .i64 n) ∧ w = w' := by
  have hc := cell_blk h 0
  simp at hc
  clear h
  go_enter Try.func91, Try.ntmps91
  go_wp2
  go_ret
  exact ⟨rfl, rfl⟩

theorem size_none (w : World) : Calls Try.prog 44 #[.pointer none] w fun e w' => e = .returned (.int .i64 0) ∧ w = w' := by
  go_enter Try.func44, Try.ntmps44
  go_wp2_with (go_at_call 78; refine (made_none _).mono ?_; rintro e w' ⟨rfl, rfl⟩)
  go_ret
  exact ⟨rfl, rfl⟩
theorem size_any {p : Nat} {d : Dk} {M F : Nat → Prop} (w : World) (h : DiskAt w p d M F) : Calls Try.prog 44 #[.pointer (some ⟨p, 0, none⟩)] w fun e w' => e = .returned (.int .i64 d.L.length) ∧ w = w' := by
  have HM := hid (made_any w h)
  obtain ⟨sb, rb, bs, wv, ws, h1, _⟩ := h
  have hc := cell_blk h1.hp 0
  simp at hc
  have HS := hid (ssize_any w h1.hs)
  clear h1
  go_enter Try.func44, Try.ntmps44
  go_wp2_with (first | (go_at_call 78; refine HM.out.mono ?_; rintro e w' ⟨rfl, rfl⟩) | (go_at_call 91; refine HS.out.mono ?_; rintro e w' ⟨rfl, rfl⟩))
  go_ret
  exact ⟨rfl, rfl⟩

theorem waiting_none (w : World) : Calls Try.prog 40 #[.pointer none] w fun e w' => e = .returned (.int .i64 0) ∧ w = w' := by
  go_enter Try.func40, Try.ntmps40
  go_wp2_with (go_at_call 78; refine (made_none _).mono ?_; rintro e w' ⟨rfl, rfl⟩)
  go_ret
  exact ⟨rfl, rfl⟩
theorem waiting_any {p : Nat} {d : Dk} {M F : Nat → Prop} (w : World) (h : DiskAt w p d M F) : Calls Try.prog 40 #[.pointer (some ⟨p, 0, none⟩)] w fun e w' => e = .returned (.int .i64 d.wait.length) ∧ w = w' := by
  have HM := hid (made_any w h)
  obtain ⟨sb, rb, bs, wv, ws, h1, _⟩ := h
  have hc := cell_blk h1.hp 1
  simp at hc
  have hl : d.wait.length = ws.length := by rw [h1.hwl, List.length_map]
  rw [hl]
  obtain ⟨a, cap, rfl⟩ : ∃ a cap, wv = .slice a ws.length cap := by
    rcases h1.hw.2 with ⟨rfl, h0⟩ | ⟨g, cap, cur, rfl, _⟩
    · exact ⟨none, 0, by rw [h0]⟩
    · exact ⟨_, _, rfl⟩
  clear h1 hl
  go_enter Try.func40, Try.ntmps40
  go_wp2_with (go_at_call 78; refine HM.out.mono ?_; rintro e w' ⟨rfl, rfl⟩)
  go_ret
  exact ⟨rfl, rfl⟩

theorem steps_none (w : World) : Calls Try.prog 43 #[.pointer none] w fun e w' => e = .returned (.int .i64 0) ∧ w = w' := by
  go_enter Try.func43, Try.ntmps43
  go_wp2_with (go_at_call 78; refine (made_none _).mono ?_; rintro e w' ⟨rfl, rfl⟩)
  go_ret
  exact ⟨rfl, rfl⟩
theorem steps_any {p : Nat} {d : Dk} {M F : Nat → Prop} (w : World) (h : DiskAt w p d M F) : Calls Try.prog 43 #[.pointer (some ⟨p, 0, none⟩)] w fun e w' => e = .returned (.int .i64 d.steps) ∧ w = w' := by
  have HM := hid (made_any w h)
  obtain ⟨sb, rb, bs, wv, ws, h1, _⟩ := h
  have hc := cell_blk h1.hp 2
  simp at hc
  clear h1
  go_enter Try.func43, Try.ntmps43
  go_wp2_with (go_at_call 78; refine HM.out.mono ?_; rintro e w' ⟨rfl, rfl⟩)
  go_ret
  exact ⟨rfl, rfl⟩

theorem fuse_none (n : Int) (w : World) : Calls Try.prog 42 #[.pointer none, .int .i64 n] w fun e w' => e = .returned (.tuple #[]) ∧ w = w' := by
  go_enter Try.func42, Try.ntmps42
  go_wp2_with (go_at_call 78; refine (made_none _).mono ?_; rintro e w' ⟨rfl, rfl⟩)
  go_end0
  exact ⟨rfl, rfl⟩
theorem DiskAt.turn {w w' : World} {p sb rb : Nat} {bs : List (Nat × Nat)} {wv : Value} {ws : List (Nat × Value × List UInt8)} {d : Dk} {M F : Nat → Prop} (h : DiskIn w p sb rb bs wv ws d)
    (h2 : ∀ k ∈ mine p sb rb bs wv, M k) (h3 : ∀ x ∈ ws, ∀ k, x.2.1.ownBlock = some k → F k ∧ ¬ M k) (h4 : ∀ k, M k → F k) (h5 : ∀ k, F k → k < w.heap.size)
    (steps : Nat) (fuse : Int) (gone : Bool) (hf1 : -1 ≤ fuse) (hf2 : fuse ≤ 9223372036854775807)
    (hp : w'.heap[p]? = some (.cells #[.pointer (some ⟨sb, 0, none⟩), wv, .int .i64 (steps : Int), .int .i64 fuse, .bool gone] 122 (0, 0)))
    (hk : ∀ k, k ≠ p → w'.heap[k]? = w.heap[k]?) (hz : w.heap.size ≤ w'.heap.size) : DiskAt w' p { d with steps := steps, fuse := fuse, gone := gone } M F :=
  ⟨sb, rb, bs, wv, ws, h.head steps fuse gone hf1 hf2 hp hk (fun x hx e => (h3 x hx p e).2 (h2 p (by simp [mine]))), h2, h3, h4, fun k hk2 => Nat.lt_of_lt_of_le (h5 k hk2) hz⟩

theorem fuse_any {p : Nat} {d : Dk} {M F : Nat → Prop} (n : Int) (w : World) (hn : n ≤ 9223372036854775807) (h : DiskAt w p d M F) :
    Calls Try.prog 42 #[.pointer (some ⟨p, 0, none⟩), .int .i64 n] w fun e w' => e = .returned (.tuple #[]) ∧ DiskAt w' p (fuseD d n) M F ∧ Ch M w w' := by
  have HM := hid (made_any w h)
  obtain ⟨sb, rb, bs, wv, ws, h1, h2, h3, h4, h5⟩ := h
  have hc := cell_blk h1.hp 3
  have hf := frozen_blk h1.hp 3
  simp at hc
  have H1 := hid h1
  have H2 := hid h2
  have H3 := hid h3
  have H4 := hid h4
  have H5 := hid h5
  clear h1 h2 h3 h4 h5
  by_cases hn1 : n < -1
  · go_enter Try.func42, Try.ntmps42
    go_wp2_with (go_at_call 78; refine HM.out.mono ?_; rintro e w' ⟨rfl, rfl⟩)
    go_end0
    refine ⟨rfl, ?_, (Ch.refl _ _).setCell (fun _ => H2.out p (by simp [mine])) _⟩
    unfold fuseD
    rw [if_pos hn1]
    exact DiskAt.turn H1.out H2.out H3.out H4.out H5.out d.steps (-1) d.gone (by omega) (by omega) (by rw [heap_set H1.out.hp]; rfl) (fun k hk => Below.heap_setCell _ _ _ _ hk) (by simp [World.setCell])
  · have HN := hid hn1
    go_enter Try.func42, Try.ntmps42
    go_wp2_with (go_at_call 78; refine HM.out.mono ?_; rintro e w' ⟨rfl, rfl⟩)
    all_goals
      go_end0
      refine ⟨rfl, ?_, (Ch.refl _ _).setCell (fun _ => H2.out p (by simp [mine])) _⟩
      unfold fuseD
      rw [if_neg (by have := HN.out; omega)]
      exact DiskAt.turn H1.out H2.out H3.out H4.out H5.out d.steps n d.gone (by have := HN.out; omega) (by omega) (by rw [heap_set H1.out.hp]; rfl) (fun k hk => Below.heap_setCell _ _ _ _ hk) (by simp [World.setCell])

theorem step_no {p : Nat} {d : Dk} {M F : Nat → Prop} (w : World) (h : DiskAt w p d M F) (hg : d.gone = true ∨ d.fuse = 0) :
    Calls Try.prog 79 #[.pointer (some ⟨p, 0, none⟩)] w fun e w' => e = .returned (.int .i64 9) ∧ DiskAt w' p { d with gone := true } M F ∧ Ch M w w' := by
  obtain ⟨sb, rb, bs, wv, ws, h1, h2, h3, h4, h5⟩ := h
  have hc3 := cell_blk h1.hp 3
  have hc4 := cell_blk h1.hp 4
  have hf4 := frozen_blk h1.hp 4
  simp at hc3 hc4
  have fin : Hid (∀ w', w' = w.setCell ⟨p, 4, none⟩ (.bool true) → DiskAt w' p { d with gone := true } M F ∧ Ch M w w') := hid (by
    rintro w' rfl
    exact ⟨DiskAt.turn h1 h2 h3 h4 h5 d.steps d.fuse true h1.f1 h1.f2 (by rw [heap_set h1.hp]; rfl) (fun k hk => Below.heap_setCell _ _ _ _ hk) (by simp [World.setCell]), (Ch.refl _ _).setCell (fun _ => h2 p (by simp [mine])) _⟩)
  clear h1 h2 h3 h4 h5
  cases hgn : d.gone with
  | true =>
    rw [hgn] at hc4
    clear hg hgn
    go_enter Try.func79, Try.ntmps79
    go_wp2
    go_ret
    exact ⟨rfl, fin.out _ rfl⟩
  | false =>
    have hz : d.fuse = 0 := by rcases hg with h | h; · rw [hgn] at h; cases h
                               · exact h
    rw [hgn] at hc4
    rw [hz] at hc3
    clear hg hgn hz
    go_enter Try.func79, Try.ntmps79
    go_wp2
    go_ret
    exact ⟨rfl, fin.out _ rfl⟩

theorem step_yes {p : Nat} {d : Dk} {M F : Nat → Prop} (w : World) (h : DiskAt w p d M F) (hst : d.steps ≤ 1000000) (hg : ¬ (d.gone = true ∨ d.fuse = 0)) :
    Calls Try.prog 79 #[.pointer (some ⟨p, 0, none⟩)] w fun e w' => e = .returned (.int .i64 0) ∧ DiskAt w' p (stepY d) M F ∧ Ch M w w' := by
  unfold stepY
  obtain ⟨sb, rb, bs, wv, ws, h1, h2, h3, h4, h5⟩ := h
  have hc2 := cell_blk h1.hp 2
  have hf2 := frozen_blk h1.hp 2
  have hc3 := cell_blk h1.hp 3
  have hf3 := frozen_blk h1.hp 3
  have hc4 := cell_blk h1.hp 4
  have hf4 := frozen_blk h1.hp 4
  have hgn : d.gone = false := by cases h : d.gone; · rfl
                                  · exact absurd (.inl h) hg
  have hz : d.fuse ≠ 0 := fun h => hg (.inr h)
  simp at hc2 hc3 hc4
  rw [hgn] at hc4
  have hb1 := h1.f1
  have hb2 := h1.f2
  have hzb : (d.fuse == 0) = false := by simpa using hz
  have H1 := hid h1
  have H2 := hid h2
  have H3 := hid h3
  have H4 := hid h4
  have H5 := hid h5
  have HG := hid hgn
  clear h1 h2 h3 h4 h5 hg hgn
  have hp := H2.out p (by simp [mine])
  have HP := hid hp
  clear hp
  obtain ⟨f, HF⟩ : ∃ f, Hid (d.fuse = f) := ⟨_, hid rfl⟩
  rw [HF.out] at hc3 hz hb1 hb2 hzb ⊢
  obtain ⟨st, HS⟩ : ∃ f, Hid (d.steps = f) := ⟨_, hid rfl⟩
  rw [HS.out] at hc2 hst ⊢
  by_cases hpos : 0 < f
  · rw [if_pos hpos]
    go_enter Try.func79, Try.ntmps79
    go_wp2
    go_ret
    refine ⟨rfl, ?_, (((Ch.refl _ _).setCell (fun _ => HP.out) _).setCell (fun _ => HP.out) _).setCell (fun _ => HP.out) _⟩
    have := DiskAt.turn H1.out H2.out H3.out H4.out H5.out (st + 1) (f - 1) false (w' := ((w.setCell ⟨p, 4, none⟩ (.bool false)).setCell ⟨p, 3, none⟩ (.int .i64 (f - 1))).setCell ⟨p, 2, none⟩ (.int .i64 ((st : Int) + 1))) (by omega) (by omega)
      (by rw [heap_set (heap_set (heap_set H1.out.hp 4 _) 3 _)]; rfl) (fun k hk => by rw [Below.heap_setCell _ _ _ _ hk, Below.heap_setCell _ _ _ _ hk, Below.heap_setCell _ _ _ _ hk]) (by simp [World.setCell])
    rw [HG.out]
    exact this
  · rw [if_neg hpos]
    go_enter Try.func79, Try.ntmps79
    go_wp2
    go_ret
    refine ⟨rfl, ?_, ((Ch.refl _ _).setCell (fun _ => HP.out) _).setCell (fun _ => HP.out) _⟩
    have := DiskAt.turn H1.out H2.out H3.out H4.out H5.out (st + 1) f false (w' := (w.setCell ⟨p, 4, none⟩ (.bool false)).setCell ⟨p, 2, none⟩ (.int .i64 ((st : Int) + 1))) (by omega) (by omega)
      (by rw [heap_set (heap_set H1.out.hp 4 _), HF.out.symm]; rfl) (fun k hk => by rw [Below.heap_setCell _ _ _ _ hk, Below.heap_setCell _ _ _ _ hk]) (by simp [World.setCell])
    rw [HG.out]
    exact this
end

section
open Go.RowKit

theorem Try.size5 : (Try.prog.info? 5).map (·.size) = some 1 := by kernel_rfl
theorem Try.info35 : (Try.prog.info? 35).map (fun i => (i.zero, i.size, i.bytes)) = some (some (.slice none 0 0), 1, 24) := by kernel_rfl

theorem SecIn.put {w' : World} {x : Nat × Nat} {l m : List UInt8} {cur : Array Value} (h1 : l.length = 512) (h2 : 512 ≤ x.2) (hc : 512 ≤ cur.size) (ht : cur.toList.take 512 = bcells l) (hm : m.length ≤ 512)
    (h : w'.heap[x.1]? = some (.cells (bcells m ++ cur.toList.drop m.length).toArray 5 (0, 0))) : SecIn w' x (m ++ l.drop m.length) := by
  refine ⟨by simp; omega, h2, _, h, by simp [bcells_length]; omega, ?_⟩
  have e : (cur.toList.drop m.length).take (512 - m.length) = bcells (l.drop m.length) := by
    rw [← List.drop_take, ht, bcells, bcells, List.map_drop]
  show (bcells m ++ cur.toList.drop m.length).take 512 = _
  rw [List.take_append, bcells_length, e, List.take_of_length_le (by rw [bcells_length]; exact hm), bcells_append]

set_option maxHeartbeats 400000 in
/-- put: the first bytes of a sector are others. -/
theorem put_any {sb rb n i : Nat} {bs : List (Nat × Nat)} {x : Nat × Nat} {l m : List UInt8} {v : Value} (at_ : Int) (w : World)
    (hs : w.heap[sb]? = some (.cells #[.slice (some ⟨rb, 0, none⟩) n n] 129 (0, 0))) (hr : w.heap[rb]? = some (.cells (bs.map secV).toArray 35 (0, 0)))
    (hat : at_ = (i : Int)) (hin : i < n) (hx : bs[i]? = some x) (hl : SecIn w x l) (hm : m.length ≤ 512) (hv : Bts w v m) (_hn : n ≤ 4096) :
    Calls Try.prog 80 #[.pointer (some ⟨sb, 0, none⟩), .int .i64 at_, v] w fun e w' => e = .returned (.tuple #[]) ∧ SecIn w' x (m ++ l.drop m.length) ∧ Ch (fun k => k = x.1) w w' := by
  subst hat
  obtain ⟨h1, h2, cur, h3, h4, h5⟩ := hl
  have hc0 := cell_blk hs 0
  simp at hc0
  have hci := cell_blk hr i
  simp [hx, secV] at hci
  obtain ⟨r, w', hrun, hw', hch⟩ := run_copy_bts (P := Try.prog) w 35 3 5 Try.underlying35 Try.size5 x.1 512 x.2 v m cur 5 h3 hv hm (by omega)
  have HR := hid hrun
  have HS := hid (SecIn.put h1 h2 h4 h5 hm hw')
  have hi0 : (i : Int) < (n : Int) := by omega
  clear hrun hw' h3 h4 h5 hs hr hv hx
  go_enter Try.func80, Try.ntmps80
  go_wp2_with ((with_reducible refine wpList_copy_run rfl (.tmp 11) (.tmp 12) 35 35 rfl r w' ?_ ?_); exact HR.out)
  go_end0
  exact ⟨rfl, HS.out, hch⟩
end

section
open Go.RowKit

/-- Sectors under way: of n, those of Ls are made, at the places bs; all is new since w0. -/
structure Build (w0 w : World) (sb rb n : Nat) (bs : List (Nat × Nat)) (Ls : List (List UInt8)) : Prop where
  hs : w.heap[sb]? = some (.cells #[.slice (some ⟨rb, 0, none⟩) n n] 129 (0, 0))
  hr : w.heap[rb]? = some (.cells (bs.map secV ++ List.replicate (n - bs.length) (Value.slice none 0 0)).toArray 35 (0, 0))
  hb : bs.length = Ls.length
  hn : bs.length ≤ n
  hl : ∀ (i : Nat) (x : Nat × Nat) (l : List UInt8), bs[i]? = some x → Ls[i]? = some l → SecIn w x l
  nd : (sb :: rb :: bs.map Prod.fst).Nodup
  new : ∀ k ∈ (sb :: rb :: bs.map Prod.fst), w0.heap.size ≤ k ∧ k < w.heap.size
  ch : Ch (fun _ => False) w0 w

theorem set_mid {α : Type} (a r : List α) (x v : α) (i : Nat) (h : i = a.length) : ((a ++ (x :: r)).toArray.setIfInBounds i v) = (a ++ (v :: r)).toArray := by
  subst h; simp
/-- One more sector. -/
theorem Build.more {w0 w w' : World} {sb rb n : Nat} {bs : List (Nat × Nat)} {Ls : List (List UInt8)} (h : Build w0 w sb rb n bs Ls) (hlt : bs.length < n) (x : Nat × Nat) (l : List UInt8) (hx : SecIn w' x l)
    (hnew : w.heap.size ≤ x.1) (hx2 : x.1 < w'.heap.size) (hr : w'.heap[rb]? = some (.cells ((bs.map secV ++ List.replicate (n - bs.length) (Value.slice none 0 0)).toArray.setIfInBounds bs.length (secV x)) 35 (0, 0)))
    (hk : ∀ k, k < w.heap.size → k ≠ rb → w'.heap[k]? = w.heap[k]?) (hch : Ch (fun _ => False) w0 w') : Build w0 w' sb rb n (bs ++ [x]) (Ls ++ [l]) := by
  have nd := h.nd
  have new := h.new
  have hz : w.heap.size ≤ w'.heap.size := by omega
  have nd2 := nd
  simp only [List.nodup_cons, List.mem_cons, not_or] at nd2
  obtain ⟨⟨n1, n2⟩, n3, n4⟩ := nd2
  refine ⟨(hk sb (new sb (by simp)).2 n1).trans h.hs, ?_, by simp [h.hb], by simp; omega, ?_, ?_, ?_, hch⟩
  · rw [hr, show n - bs.length = (n - (bs ++ [x]).length) + 1 by simp; omega, List.replicate_succ, set_mid _ _ _ _ _ (by simp)]
    simp
  · intro i y m hy hm
    by_cases hi : i < bs.length
    · rw [List.getElem?_append_left hi] at hy
      rw [List.getElem?_append_left (by rw [← h.hb]; exact hi)] at hm
      refine (h.hl i y m hy hm).frame (hk y.1 (new y.1 (by simp; exact .inr (.inr ⟨y.2, List.mem_of_getElem? hy⟩))).2 (fun e => n3 ?_))
      rw [← e]; exact List.mem_map.2 ⟨y, List.mem_of_getElem? hy, rfl⟩
    · have hi2 : i = bs.length := by
        have := (List.getElem?_eq_some_iff.1 hy).1
        simp at this
        omega
      subst hi2
      rw [List.getElem?_append_right (Nat.le_refl _)] at hy
      rw [h.hb, List.getElem?_append_right (Nat.le_refl _)] at hm
      simp at hy hm
      subst hy hm
      exact hx
  · rw [List.map_append]
    have e : sb :: rb :: (bs.map Prod.fst ++ [x].map Prod.fst) = (sb :: rb :: bs.map Prod.fst) ++ [x.1] := by simp
    rw [e, List.nodup_append]
    refine ⟨nd, by simp, ?_⟩
    intro a ha b hb2
    simp at hb2
    subst hb2
    have := (new a ha).2
    omega
  · intro k hk2
    rw [List.map_append] at hk2
    have hk3 : k ∈ (sb :: rb :: bs.map Prod.fst) ∨ k = x.1 := by
      simp only [List.mem_cons, List.mem_append, List.map_cons, List.map_nil, List.not_mem_nil, or_false] at hk2 ⊢
      rcases hk2 with h | h | h | h
      · exact .inl (.inl h)
      · exact .inl (.inr (.inl h))
      · exact .inl (.inr (.inr h))
      · exact .inr h
    have h0 := h.ch.size
    rcases hk3 with h1 | rfl
    · have := new k h1; omega
    · omega

theorem made_nils (n : Nat) : madeCells #[Value.slice none 0 0] n = (List.replicate n (Value.slice none 0 0)).toArray := by
  apply Array.ext'
  simp [madeCells, List.eq_replicate_iff, Nat.mod_one]

set_option maxRecDepth 20000 in
set_option maxHeartbeats 1000000 in
theorem new_ok (n : Nat) (w : World) (h1 : 1 ≤ n) (h2 : n ≤ 4096) :
    Calls Try.prog 41 #[.int .i64 n] w fun e w' => ∃ p M, e = .returned (.tuple #[.pointer (some ⟨p, 0, none⟩), .int .i64 0]) ∧
      DiskAt w' p { L := List.replicate n (zeros 512), wait := [], steps := 0, fuse := -1, gone := false } M M ∧ Ch (fun _ => False) w w' ∧ (∀ k, M k → w.heap.size ≤ k) := by
  have hmk := run_make_n (P := Try.prog) 129 35 (.slice none 0 0) 24 Try.underlying129 Try.info35 rfl n (by omega) (by omega) w
  rw [made_nils] at hmk
  obtain ⟨C, HC⟩ : ∃ C, Hid ((List.replicate n (Value.slice none 0 0)).toArray = C) := ⟨_, hid rfl⟩
  rw [HC.out] at hmk
  have hmb := make_blank
  go_enter Try.func41, Try.ntmps41
  go_wp2
  go_loopw [16] (fun k wr => ∃ (j : Nat) (bs : List (Nat × Nat)), k = .int .i64 (j : Int) ∧ j ≤ n ∧ Hid (bs.length = j) ∧ Hid (Build w wr (w.heap.size + 1) w.heap.size n bs (List.replicate j (zeros 512)))) (fun k _ => n - (intOf k).toNat)
  case atStart =>
    refine ⟨0, [], rfl, by omega, hid rfl, hid ⟨?_, ?_, rfl, by simp, ?_, by simp, ?_, ((Ch.refl _ _).alloc _).alloc _⟩⟩
    · have h1 := heap_new (w := w.alloc (.cells C 35)) (.cells #[.slice (some ⟨w.heap.size, 0, none⟩) n n] 129)
      simpa using h1
    · rw [heap_old (heap_new (w := w) (.cells C 35)), ← HC.out]; simp
    · intro i x l h; simp at h
    · intro k hk; simp at hk; simp; omega
  case round =>
    obtain ⟨j, bs, rfl, hj, HJ, HBd⟩ := hrel
    have hc0 := cell_blk HBd.out.hs 0
    simp at hc0
    have hnew := HBd.out.new
    have hrb := (hnew w.heap.size (by simp)).2
    have hsb := (hnew (w.heap.size + 1) (by simp)).2
    have hcj := cell_blk HBd.out.hr j
    have hfj := frozen_blk HBd.out.hr j
    have hn1 : ¬ wr.heap.size = w.heap.size := by omega
    have hn2 : ¬ wr.heap.size = w.heap.size + 1 := by omega
    have hn3 : ¬ w.heap.size + 1 = w.heap.size := by omega
    clear hnew
    by_cases hlt : j < n
    · have hcj2 : wr.cell? ⟨w.heap.size, j, none⟩ = some (.slice none 0 0) := by
        rw [hcj, List.getElem?_toArray, List.getElem?_append_right (by simp [HJ.out]), List.length_map, HJ.out, Nat.sub_self, List.getElem?_replicate, if_pos (by omega)]
      clear hcj
      go_wp2
      go_region
      all_goals go_wp2
      all_goals go_roundw
      case rel =>
        refine ⟨j + 1, bs ++ [(wr.heap.size, 512)], by go_num, by omega, hid (by simp [HJ.out]), hid ?_⟩
        rw [List.replicate_succ']
        have hz : (wr.setCell ⟨w.heap.size, j, none⟩ (.slice (some ⟨wr.heap.size, 0, none⟩) 512 512)).heap.size = wr.heap.size := by simp [World.setCell]
        have h9 := heap_new (w := wr.setCell ⟨w.heap.size, j, none⟩ (.slice (some ⟨wr.heap.size, 0, none⟩) 512 512)) (.cells blankCells 5)
        rw [hz] at h9
        refine HBd.out.more (by rw [HJ.out]; exact hlt) (wr.heap.size, 512) (zeros 512) ⟨zeros_length _, Nat.le_refl _, blankCells, h9, by simp [blankCells, bcells_length, zeros_length], ?_⟩ (Nat.le_refl _) ?_ ?_ ?_ ?_
        · show (bcells (zeros 512)).take 512 = _
          rw [List.take_of_length_le (by rw [bcells_length, zeros_length]; omega)]
        · show wr.heap.size < ((wr.setCell _ _).alloc _).heap.size
          simp [World.setCell]
        · show ((wr.setCell _ _).alloc _).heap[_]? = _
          refine heap_old ?_ _
          rw [heap_set HBd.out.hr, HJ.out]; rfl
        · intro k hk hne
          show ((wr.setCell _ _).alloc _).heap[_]? = _
          rw [Below.heap_alloc _ _ _ (by rw [hz]; exact hk), Below.heap_setCell _ _ _ _ hne]
        · exact ((HBd.out.ch.setCell (p := ⟨w.heap.size, j, none⟩) (fun h => by simp at h) _).alloc _).drew
      case measure => simp [intOf]; omega
    · clear hcj
      obtain rfl : j = n := by omega
      go_wp2
      go_ret2
      have hB := HBd.out
      have hz := hB.ch.size
      refine ⟨wr.heap.size, fun k => w.heap.size ≤ k ∧ k < wr.heap.size + 1, rfl, ⟨w.heap.size + 1, w.heap.size, bs, .slice none 0 0, [], ?_, ?_, by simp, fun _ h => h, fun k hk => by simp; omega⟩, hB.ch.alloc _, fun k hk => hk.1⟩
      · have hr := hB.hr
        rw [HJ.out, Nat.sub_self, List.replicate_zero, List.append_nil] at hr
        refine ⟨by simpa using h1, by simpa using h2, by simp, by simp, heap_new _, ?_, heap_old hr _, by simpa using hB.hb, ?_, ?_, rfl, by simp, ?_⟩
        · rw [List.length_replicate]; exact heap_old hB.hs _
        · intro i x l hx hl
          exact (hB.hl i x l hx hl).frame (Below.heap_alloc _ _ _ (hB.new x.1 (by simp; exact .inr (.inr ⟨x.2, List.mem_of_getElem? hx⟩))).2)
        · exact ⟨rfl, .inl ⟨rfl, rfl⟩⟩
        · have : (wr.heap.size :: (w.heap.size + 1) :: w.heap.size :: bs.map Prod.fst).Nodup := List.nodup_cons.2 ⟨fun h => by have := (hB.new _ h).2; omega, hB.nd⟩
          simpa [blockList, Value.ownBlock] using this
      · intro k hk
        simp only [mine, blockList, Value.ownBlock, List.nil_append, List.mem_cons] at hk
        rcases hk with rfl | hk
        · omega
        · have := hB.new k (by simpa using hk); omega

theorem new_bad (n : Int) (w : World) (h : n < 1 ∨ 4096 < n) :
    Calls Try.prog 41 #[.int .i64 n] w fun e w' => e = .returned (.tuple #[.pointer none, .int .i64 2]) ∧ w = w' := by
  by_cases h1 : n < 1
  · clear h
    go_enter Try.func41, Try.ntmps41
    go_wp2
    go_ret2
    exact ⟨rfl, rfl⟩
  · have h2 : 4096 < n := by omega
    clear h
    go_enter Try.func41, Try.ntmps41
    go_wp2
    go_ret2
    exact ⟨rfl, rfl⟩
end

section
open Go.RowKit

theorem SecIn.bts {w : World} {x : Nat × Nat} {l : List UInt8} (h : SecIn w x l) : Bts w (secV x) l := by
  obtain ⟨h1, h2, cur, h3, h4, h5⟩ := h
  refine .inr ⟨x.1, 0, x.2, cur, 5, (0, 0), by rw [h1]; rfl, by omega, h3, fun j hj => ?_⟩
  have := bcells_get l j hj
  rw [← h5, List.getElem?_take, if_pos (by omega)] at this
  simpa using this
/-- A clone of a sector is a sector. -/
theorem sec_of_owns {w : World} {base : Nat} {v : Value} {l : List UInt8} (h : w.ownsRow base 5 1 v 512 (bcells l)) (hl : l.length = 512) : ∃ x : Nat × Nat, v = secV x ∧ SecIn w x l ∧ base ≤ x.1 := by
  rcases h.2 with ⟨_, h0⟩ | ⟨g, cap, cur, rfl, hb, hg, hc, _, hs, ht⟩
  · omega
  · exact ⟨(g, cap), rfl, ⟨hl, hc, cur, hg, by simp at hs; omega, by simpa using ht⟩, hb⟩

set_option maxRecDepth 20000 in
set_option maxHeartbeats 1000000 in
theorem same_any {sb rb n : Nat} {bs : List (Nat × Nat)} {L : List (List UInt8)} (w : World) (hn : n ≤ 4096) (hs : w.heap[sb]? = some (.cells #[.slice (some ⟨rb, 0, none⟩) n n] 129 (0, 0)))
    (hr : w.heap[rb]? = some (.cells (bs.map secV).toArray 35 (0, 0))) (hb : bs.length = n) (hL : L.length = n) (hl : ∀ (i : Nat) (x : Nat × Nat) (l : List UInt8), bs[i]? = some x → L[i]? = some l → SecIn w x l) :
    Calls Try.prog 81 #[.pointer (some ⟨sb, 0, none⟩)] w fun e w' => ∃ sb' rb' bs', e = .returned (.pointer (some ⟨sb', 0, none⟩)) ∧ bs'.length = n ∧ Build w w' sb' rb' n bs' L := by
  have hc0 := cell_blk hs 0
  simp at hc0
  have hmk := run_make_n (P := Try.prog) 129 35 (.slice none 0 0) 24 Try.underlying129 Try.info35 rfl n (by omega) (by omega) w
  rw [made_nils] at hmk
  obtain ⟨C, HC⟩ : ∃ C, Hid ((List.replicate n (Value.slice none 0 0)).toArray = C) := ⟨_, hid rfl⟩
  rw [HC.out] at hmk
  have hsb0 := blk_lt hs
  have hrb0 := blk_lt hr
  have HS := hid hs
  have HR := hid hr
  have HB := hid hb
  have HL := hid hL
  have HSec := hid hl
  clear hs hr hb hL hl
  go_enter Try.func81, Try.ntmps81
  go_wp2
  go_loopw [15] (fun k wr => ∃ (j : Nat) (bs' : List (Nat × Nat)), k = .int .i64 (j : Int) ∧ j ≤ n ∧ Hid (bs'.length = j) ∧ Hid (Build w wr (w.heap.size + 1) w.heap.size n bs' (L.take j))) (fun k _ => n - (intOf k).toNat)
  case atStart =>
    refine ⟨0, [], rfl, by omega, hid rfl, hid ⟨?_, ?_, rfl, by simp, ?_, by simp, ?_, ((Ch.refl _ _).alloc _).alloc _⟩⟩
    · have h1 := heap_new (w := w.alloc (.cells C 35)) (.cells #[.slice (some ⟨w.heap.size, 0, none⟩) n n] 129)
      simpa using h1
    · rw [heap_old (heap_new (w := w) (.cells C 35)), ← HC.out]; simp
    · intro i x l h; simp at h
    · intro k hk; simp at hk; simp; omega
  case round =>
    obtain ⟨j, bs', rfl, hj, HJ, HBd⟩ := hrel
    have hc0 := cell_blk HBd.out.hs 0
    simp at hc0
    have hnew := HBd.out.new
    have hrb := (hnew w.heap.size (by simp)).2
    have hsb := (hnew (w.heap.size + 1) (by simp)).2
    have hcj := cell_blk HBd.out.hr j
    have hfj := frozen_blk HBd.out.hr j
    have hn1 : ¬ wr.heap.size = w.heap.size := by omega
    have hn2 : ¬ wr.heap.size = w.heap.size + 1 := by omega
    have hn3 : ¬ w.heap.size + 1 = w.heap.size := by omega
    clear hnew
    by_cases hlt : j < n
    · have hcj2 : wr.cell? ⟨w.heap.size, j, none⟩ = some (.slice none 0 0) := by
        rw [hcj, List.getElem?_toArray, List.getElem?_append_right (by simp [HJ.out]), List.length_map, HJ.out, Nat.sub_self, List.getElem?_replicate, if_pos (by omega)]
      obtain ⟨x, HX⟩ : ∃ x, Hid (bs[j]? = some x) := ⟨bs[j]'(by rw [HB.out]; exact hlt), hid (List.getElem?_eq_getElem _)⟩
      obtain ⟨l, HLl⟩ : ∃ l, Hid (L[j]? = some l) := ⟨L[j]'(by rw [HL.out]; exact hlt), hid (List.getElem?_eq_getElem _)⟩
      have hcr := cell_blk (HBd.out.ch.keep HR.out (fun h => h)) j
      rw [List.getElem?_toArray, List.getElem?_map, HX.out] at hcr
      have hsec := HSec.out j x l HX.out HLl.out
      have hl512 := hsec.1
      obtain ⟨v', w2, hrun, hown, hch2⟩ := run_clone_bts_drew (P := Try.prog) wr 35 35 5 Try.underlying35 Try.info5 (secV x) l (hsec.bts.ch HBd.out.ch (fun _ _ h => h)) (by omega)
      rw [hl512] at hown
      obtain ⟨y, rfl, hy, hy2⟩ := sec_of_owns hown hl512
      have HY := hid hy
      have HRun := hid hrun
      have hsz2 := hch2.size
      have hw2 := cell_blk (hch2.keep HBd.out.hs (fun h => h)) 0
      have hwj := cell_blk (hch2.keep HBd.out.hr (fun h => h)) j
      rw [← cell_blk HBd.out.hr j, hcj2] at hwj
      have hfw := frozen_blk (hch2.keep HBd.out.hr (fun h => h)) j
      simp at hw2
      simp only [Option.map_some, secV] at hcr
      have HCH2 := hid hch2
      unfold secV at HRun
      clear hcj hrun hown hy hch2 hsec
      go_wp2
      go_region_law (refine step_append_run rfl (.tmp 22) (.tmp 23) 35 35 rfl _ _ HRun.out ?_)
      all_goals go_wp2
      all_goals go_roundw
      all_goals first
        | (case rel =>
            refine ⟨j + 1, bs' ++ [y], by go_num, by omega, hid (by simp [HJ.out]), hid ?_⟩
            rw [List.take_add_one, HLl.out]
            refine HBd.out.more (by rw [HJ.out]; exact hlt) y l (HY.out.frame (Below.heap_setCell _ _ _ _ (by show y.1 ≠ w.heap.size; omega))) hy2 ?_ ?_ ?_ ?_
            · have h1 : y.1 < w2.heap.size := by obtain ⟨_, _, cur, h3, _⟩ := HY.out; exact blk_lt h3
              simpa [World.setCell] using h1
            · rw [heap_set (HCH2.out.keep HBd.out.hr (fun h => h)), HJ.out]; rfl
            · intro k hk hne
              rw [Below.heap_setCell _ _ _ _ hne]
              exact HCH2.out.block k hk (fun h => h)
            · exact (HBd.out.ch.trans HCH2.out).setCell (fun h => by simp at h) _)
        | (case measure => simp [intOf]; omega)
    · clear hcj
      obtain rfl : j = n := by omega
      go_wp2
      go_ret
      refine ⟨w.heap.size + 1, w.heap.size, bs', rfl, HJ.out, ?_⟩
      have := HBd.out
      rwa [List.take_of_length_le (by rw [HL.out]; exact Nat.le_refl _)] at this
end

section
open Go.RowKit

theorem Try.info124 : (Try.prog.info? 124).map (fun i => (i.zero, i.size, i.bytes)) = some (some (.agg #[.int .i64 0, .slice none 0 0]), 2, 32) := by kernel_rfl

theorem stepD_no {d : Dk} (h : d.gone = true ∨ d.fuse = 0) : stepD d = (false, { d with gone := true }) := by rw [stepD, if_pos h]
theorem stepD_yes {d : Dk} (h : ¬ (d.gone = true ∨ d.fuse = 0)) : stepD d = (true, stepY d) := by rw [stepD, if_neg h]

theorem write_none (a : Int) (x : Option Addr) (len cap : Nat) (w : World) : Calls Try.prog 25 #[.pointer none, .int .i64 a, .slice x len cap] w fun e w' => e = .returned (.int .i64 1) ∧ w = w' := by
  go_enter Try.func25, Try.ntmps25
  go_wp2_with (go_at_call 78; refine (made_none _).mono ?_; rintro e w' ⟨rfl, rfl⟩)
  go_ret
  exact ⟨rfl, rfl⟩

theorem write_arg {p : Nat} {d : Dk} {M F : Nat → Prop} (a : Int) (x : Option Addr) (len cap : Nat) (w : World) (h : DiskAt w p d M F) (hl : len ≠ 512) :
    Calls Try.prog 25 #[.pointer (some ⟨p, 0, none⟩), .int .i64 a, .slice x len cap] w fun e w' => e = .returned (.int .i64 2) ∧ w = w' := by
  have hq : ((len : Int) != 512) = true := by rw [bne_iff_ne]; omega
  have HM := hid (made_any w h)
  clear hl h
  go_enter Try.func25, Try.ntmps25
  go_wp2_with (go_at_call 78; refine HM.out.mono ?_; rintro e w' ⟨rfl, rfl⟩)
  go_ret
  exact ⟨rfl, rfl⟩

theorem write_range {p : Nat} {d : Dk} {M F : Nat → Prop} (a : Int) (x : Option Addr) (cap : Nat) (w : World) (h : DiskAt w p d M F) (hr : ¬ (0 ≤ a ∧ a < d.L.length)) :
    Calls Try.prog 25 #[.pointer (some ⟨p, 0, none⟩), .int .i64 a, .slice x 512 cap] w fun e w' => e = .returned (.int .i64 3) ∧ w = w' := by
  have HM := hid (made_any w h)
  obtain ⟨sb, rb, bs, wv, ws, h1, _⟩ := h
  have HT := hid (there_any a w h1.n2 h1.hs)
  rw [decide_eq_false hr] at HT
  have hc := cell_blk h1.hp 0
  simp at hc
  clear h1 hr
  go_enter Try.func25, Try.ntmps25
  go_wp2_with (first | (go_at_call 78; refine HM.out.mono ?_; rintro e w' ⟨rfl, rfl⟩) | (go_at_call 82; refine HT.out.mono ?_; rintro e w' ⟨rfl, rfl⟩))
  go_ret
  exact ⟨rfl, rfl⟩

theorem write_power {p : Nat} {d : Dk} {M F : Nat → Prop} (a : Int) (x : Option Addr) (cap : Nat) (w : World) (h : DiskAt w p d M F) (hr : 0 ≤ a ∧ a < d.L.length) (hg : d.gone = true ∨ d.fuse = 0) :
    Calls Try.prog 25 #[.pointer (some ⟨p, 0, none⟩), .int .i64 a, .slice x 512 cap] w fun e w' => e = .returned (.int .i64 9) ∧ DiskAt w' p { d with gone := true } M F ∧ Ch M w w' := by
  have HM := hid (made_any w h)
  have HS := hid (step_no w h hg)
  obtain ⟨sb, rb, bs, wv, ws, h1, _⟩ := h
  have HT := hid (there_any a w h1.n2 h1.hs)
  rw [decide_eq_true hr] at HT
  have hc := cell_blk h1.hp 0
  simp at hc
  clear h1 hr hg
  go_enter Try.func25, Try.ntmps25
  go_wp2_with (first | (go_at_call 78; refine HM.out.mono ?_; rintro e w' ⟨rfl, rfl⟩) | (go_at_call 82; refine HT.out.mono ?_; rintro e w' ⟨rfl, rfl⟩) | (go_at_call 79; refine HS.out.mono ?_; rintro e w1 ⟨rfl, hD, hch⟩))
  go_ret
  exact ⟨rfl, hD, hch⟩

/-- The disk behind a write that waits: in memory. -/
theorem DiskIn.more {w w5 : World} {p sb rb : Nat} {bs : List (Nat × Nat)} {wv : Value} {ws : List (Nat × Value × List UInt8)} {d : Dk} {M F : Nat → Prop} (h : DiskIn w p sb rb bs wv ws d)
    (h2 : ∀ k ∈ mine p sb rb bs wv, M k) (h3 : ∀ x ∈ ws, ∀ k, x.2.1.ownBlock = some k → F k ∧ ¬ M k) (h4 : ∀ k, M k → F k) (h5 : ∀ k, F k → k < w.heap.size)
    (v2 : Value) (a : Nat) (y : Nat × Nat) (b : List UInt8) (ha : a < d.L.length) (hy : SecIn w5 y b) (hy1 : w.heap.size ≤ y.1)
    (hown : w5.ownsRow 0 124 2 v2 (ws.length + 1) (waitCells ws ++ [.int .i64 (a : Int), secV y]))
    (hv2 : v2.ownBlock = wv.ownBlock ∨ ∀ k, v2.ownBlock = some k → y.1 < k ∧ k < w5.heap.size)
    (hp : w5.heap[p]? = some (.cells #[.pointer (some ⟨sb, 0, none⟩), v2, .int .i64 (d.steps : Int), .int .i64 d.fuse, .bool d.gone] 122 (0, 0)))
    (hk : ∀ k, k < w.heap.size → k ≠ p → wv.ownBlock ≠ some k → w5.heap[k]? = w.heap[k]?) (_hz : w.heap.size ≤ w5.heap.size) :
    ∃ M' F', DiskAt w5 p { d with wait := d.wait ++ [(a, b)] } M' F' ∧ Fresh w M M' ∧ Fresh w F F' := by
  have nd := h.nd
  have nd2 := nd
  simp only [List.nodup_cons, List.mem_cons, List.mem_append, not_or] at nd2
  obtain ⟨⟨n1, n2, n3, n4⟩, ⟨n5, n6, n7⟩, ⟨n8, n9⟩, n10⟩ := nd2
  have hb12 : b.length = 512 := hy.1
  have hyz : y.1 < w5.heap.size := by obtain ⟨_, _, cur, h3, _⟩ := hy; exact blk_lt h3
  have hML : ∀ k, M k → k < w.heap.size := fun k hk => h5 k (h4 k hk)
  have mem : ∀ k ∈ mine p sb rb bs wv, k < w.heap.size := fun k hk => hML k (h2 k hk)
  have notwv : ∀ k, k ∈ blockList wv ↔ wv.ownBlock = some k := by
    intro k; unfold blockList; cases wv.ownBlock <;> simp [eq_comm]
  refine ⟨fun k => M k ∨ v2.ownBlock = some k, fun k => F k ∨ v2.ownBlock = some k ∨ k = y.1, ⟨sb, rb, bs, v2, ws ++ [(a, secV y, b)], ?_, ?_, ?_, ?_, ?_⟩, ?_, ?_⟩
  · refine ⟨h.n1, h.n2, h.f1, h.f2, hp, ?_, ?_, h.hb, ?_, ?_, ?_, ?_, ?_⟩
    · exact (hk sb (mem sb (by simp [mine])) (Ne.symm n1) (fun e => n6 ((notwv sb).2 e))).trans h.hs
    · exact (hk rb (mem rb (by simp [mine])) (Ne.symm n2) (fun e => n8 ((notwv rb).2 e))).trans h.hr
    · intro i x l hx hl
      have hx1 : x.1 ∈ bs.map Prod.fst := List.mem_map.2 ⟨x, List.mem_of_getElem? hx, rfl⟩
      refine (h.hl i x l hx hl).frame (hk x.1 (mem x.1 (by simp only [mine, List.mem_cons, List.mem_append]; exact .inr (.inr (.inr (.inr hx1))))) (fun e => n4 (e ▸ hx1)) (fun e => ?_))
      have := List.nodup_append.1 n10
      exact this.2.2 x.1 ((notwv x.1).2 e) x.1 hx1 rfl
    · have e : waitCells (ws ++ [(a, secV y, b)]) = waitCells ws ++ [.int .i64 (a : Int), secV y] := by simp [waitCells]
      rw [e, List.length_append]
      exact hown
    · rw [List.map_append, ← h.hwl]; rfl
    · intro x hx
      rcases List.mem_append.1 hx with hx | hx
      · have := h.hwb x hx
        refine ⟨this.1.frame (fun k hkk => ?_), this.2⟩
        have hf := h3 x hx k hkk
        exact hk k (h5 k hf.1) (fun e => hf.2 (e ▸ h2 p (by simp [mine]))) (fun e => hf.2 (h2 k (by simp only [mine, List.mem_cons, List.mem_append]; exact .inr (.inr (.inr (.inl ((notwv k).2 e)))))))
      · simp at hx
        subst hx
        exact ⟨hy.bts, hb12, ha⟩
    · rcases hv2 with e | e
      · unfold blockList; rw [e]; exact nd
      · cases hv : v2.ownBlock with
        | none => 
          have : blockList v2 = [] := by simp [blockList, hv]
          rw [this]
          have s : (p :: sb :: rb :: ([] ++ bs.map Prod.fst)).Sublist (p :: sb :: rb :: (blockList wv ++ bs.map Prod.fst)) := by
            refine List.Sublist.cons_cons _ (List.Sublist.cons_cons _ (List.Sublist.cons_cons _ ?_))
            exact List.sublist_append_right _ _
          exact s.nodup nd
        | some g =>
          have : blockList v2 = [g] := by simp [blockList, hv]
          rw [this]
          have hg := (e g hv).1
          have s : (p :: sb :: rb :: ([] ++ bs.map Prod.fst)).Nodup := by
            have s : (p :: sb :: rb :: ([] ++ bs.map Prod.fst)).Sublist (p :: sb :: rb :: (blockList wv ++ bs.map Prod.fst)) := by
              refine List.Sublist.cons_cons _ (List.Sublist.cons_cons _ (List.Sublist.cons_cons _ ?_))
              exact List.sublist_append_right _ _
            exact s.nodup nd
          have hgm : ∀ k ∈ (p :: sb :: rb :: ([] ++ bs.map Prod.fst)), k ≠ g := by
            intro k hk2 e2
            have : k ∈ mine p sb rb bs wv := by
              simp only [mine, List.mem_cons, List.mem_append, List.nil_append] at hk2 ⊢
              rcases hk2 with h | h | h | h
              · exact .inl h
              · exact .inr (.inl h)
              · exact .inr (.inr (.inl h))
              · exact .inr (.inr (.inr (.inr h)))
            have := mem k this
            omega
          have hperm : (p :: sb :: rb :: ([g] ++ bs.map Prod.fst)).Perm (g :: (p :: sb :: rb :: ([] ++ bs.map Prod.fst))) := by
            have e3 : p :: sb :: rb :: ([g] ++ bs.map Prod.fst) = [p, sb, rb] ++ g :: (bs.map Prod.fst) := rfl
            rw [e3]
            exact List.perm_middle
          exact hperm.nodup_iff.2 (List.nodup_cons.2 ⟨fun hm => hgm g hm rfl, s⟩)
  · intro k hk2
    simp only [mine, List.mem_cons, List.mem_append] at hk2
    rcases hk2 with h | h | h | h | h
    · exact .inl (h2 k (by simp [mine, h]))
    · exact .inl (h2 k (by simp [mine, h]))
    · exact .inl (h2 k (by simp [mine, h]))
    · refine .inr ?_
      unfold blockList at h
      cases hv : v2.ownBlock with
      | none => rw [hv] at h; simp at h
      | some g => rw [hv] at h; simp at h; rw [h]
    · exact .inl (h2 k (by simp only [mine, List.mem_cons, List.mem_append]; exact .inr (.inr (.inr (.inr h)))))
  · intro x hx k hkk
    rcases List.mem_append.1 hx with hx | hx
    · have hf := h3 x hx k hkk
      refine ⟨.inl hf.1, fun hm => ?_⟩
      rcases hm with hm | hm
      · exact hf.2 hm
      · rcases hv2 with e | e
        · rw [e] at hm
          exact hf.2 (h2 k (by simp only [mine, List.mem_cons, List.mem_append]; exact .inr (.inr (.inr (.inl ((notwv k).2 hm))))))
        · have := (e k hm).1
          have := h5 k hf.1
          omega
    · simp at hx
      subst hx
      simp [secV, Value.ownBlock] at hkk
      subst hkk
      refine ⟨.inr (.inr rfl), fun hm => ?_⟩
      rcases hm with hm | hm
      · have := hML _ hm; omega
      · rcases hv2 with e | e
        · rw [e] at hm
          have := mem y.1 (by simp only [mine, List.mem_cons, List.mem_append]; exact .inr (.inr (.inr (.inl ((notwv y.1).2 hm)))))
          omega
        · have := (e _ hm).1; omega
  · intro k hm
    rcases hm with hm | hm
    · exact .inl (h4 k hm)
    · exact .inr (.inl hm)
  · intro k hf
    rcases hf with hf | hf | rfl
    · have := h5 k hf; omega
    · rcases hv2 with e | e
      · rw [e] at hf
        have := mem k (by simp only [mine, List.mem_cons, List.mem_append]; exact .inr (.inr (.inr (.inl ((notwv k).2 hf)))))
        omega
      · exact (e k hf).2
    · exact hyz
  · intro k hm
    rcases hm with hm | hm
    · exact .inl hm
    · rcases hv2 with e | e
      · rw [e] at hm
        exact .inl (h2 k (by simp only [mine, List.mem_cons, List.mem_append]; exact .inr (.inr (.inr (.inl ((notwv k).2 hm))))))
      · have := (e k hm).1
        exact .inr (by omega)
  · intro k hf
    rcases hf with hf | hf | rfl
    · exact .inl hf
    · rcases hv2 with e | e
      · rw [e] at hf
        exact .inl (h4 k (h2 k (by simp only [mine, List.mem_cons, List.mem_append]; exact .inr (.inr (.inr (.inl ((notwv k).2 hf)))))))
      · have := (e k hf).1
        exact .inr (by omega)
    · exact .inr hy1
end

section
open Go.RowKit

theorem slice_of_owns {w : World} {base e size : Nat} {v : Value} {n : Nat} {xs : List Value} (h : w.ownsRow base e size v n xs) (hn : 0 < n) : ∃ g cap, v = .slice (some ⟨g, 0, none⟩) n cap ∧ g < w.heap.size := by
  rcases h.2 with ⟨_, h0⟩ | ⟨g, cap, cur, rfl, _, hg, _⟩
  · omega
  · exact ⟨g, cap, rfl, blk_lt hg⟩

set_option maxRecDepth 20000 in
set_option maxHeartbeats 1000000 in
theorem write_ok {p : Nat} {d : Dk} {M F : Nat → Prop} (a : Nat) (x : Option Addr) (cap : Nat) (b : List UInt8) (w : World) (h : DiskAt w p d M F) (hr : a < d.L.length) (hg : ¬ (d.gone = true ∨ d.fuse = 0)) (hst : d.steps ≤ 1000000) (hwt : d.wait.length ≤ 1000000)
    (hb : Bts w (.slice x 512 cap) b) (hb12 : b.length = 512) (hbM : ∀ k, (Value.slice x 512 cap).ownBlock = some k → ¬ M k) :
    Calls Try.prog 25 #[.pointer (some ⟨p, 0, none⟩), .int .i64 a, .slice x 512 cap] w fun e w' => e = .returned (.int .i64 0) ∧
      ∃ M' F', DiskAt w' p { stepY d with wait := d.wait ++ [(a, b)] } M' F' ∧ Fresh w M M' ∧ Fresh w F F' ∧ Ch M w w' := by
  have HM := hid (made_any w h)
  have HS := hid (step_yes w h hst hg)
  have HT : Hid (∃ sb rb n, w.cell? ⟨p, 0, none⟩ = some (.pointer (some ⟨sb, 0, none⟩)) ∧ n = d.L.length ∧ n ≤ 4096 ∧ w.heap[sb]? = some (.cells #[.slice (some ⟨rb, 0, none⟩) n n] 129 (0, 0))) := by
    obtain ⟨sb, rb, bs, wv, ws, h1, _⟩ := h
    exact ⟨sb, rb, _, by rw [cell_blk h1.hp]; rfl, rfl, h1.n2, h1.hs⟩
  obtain ⟨sb0, rb0, n0, hc0, hN, hn4, HSB⟩ := HT.out
  have HN := hid hN
  clear hN
  have HT2 := hid (there_any (a : Int) w hn4 HSB)
  rw [decide_eq_true (show 0 ≤ (a : Int) ∧ (a : Int) < (n0 : Int) by have := HN.out; omega)] at HT2
  have HBM := hid hbM
  have HBt := hid hb
  have HR0 := hid hr
  clear HSB HT h hr hg hst hbM hb
  go_enter Try.func25, Try.ntmps25
  go_wp2_with (first | (go_at_call 78; refine HM.out.mono ?_; rintro e w' ⟨rfl, rfl⟩) | (go_at_call 82; refine HT2.out.mono ?_; rintro e w' ⟨rfl, rfl⟩) | (go_at_call 79; refine HS.out.mono ?_; rintro e w1 ⟨rfl, hD, hch⟩; have HD := hid hD; clear hD))
  obtain ⟨sb, rb, bs, wv, ws, h1, h2, h3, h4, h5⟩ := HD.out
  have hMp : M p := h2 p (by simp [mine])
  have hpF := h5 p (h4 p hMp)
  have hb1 : Bts w1 (.slice x 512 cap) b := HBt.out.ch hch HBM.out
  obtain ⟨v', w2, hrun, hown, hch2⟩ := run_clone_bts_drew (P := Try.prog) w1 35 35 5 Try.underlying35 Try.info5 _ b hb1 (by omega)
  rw [hb12] at hown
  obtain ⟨y, rfl, hy, hy2⟩ := sec_of_owns hown hb12
  have hyz : y.1 < w2.heap.size := by obtain ⟨_, _, cur, h3, _⟩ := hy; exact blk_lt h3
  have hwl : d.wait.length = ws.length := by rw [show d.wait = ws.map _ from h1.hwl, List.length_map]
  have hsz2 := hch2.size
  -- the world behind the write's own struct
  have hown3 : (w2.alloc (.cells #[.int .i64 (a : Int), secV y] 124)).ownsRow 0 124 2 wv ws.length (waitCells ws) := by
    refine ownsRow_frame h1.hw fun k hk => ?_
    have hk1 : k < w1.heap.size := h5 k (h4 k (h2 k (by simp only [mine, List.mem_cons, List.mem_append]; exact .inr (.inr (.inr (.inl (mem_blockList hk)))))))
    rw [Below.heap_alloc _ _ _ (by omega)]
    exact hch2.block k hk1 (fun h => h)
  obtain ⟨v2, w4, hrun2, hown4, hch4, hv2⟩ := run_append_own2 (P := Try.prog) (w2.alloc (.cells #[.int .i64 (a : Int), secV y] 124)) 120 120 124 (.agg #[.int .i64 0, .slice none 0 0]) 2 32 Try.underlying120 Try.info124 rfl (by omega) wv ws.length (waitCells ws) hown3
    ⟨w2.heap.size, 0, none⟩ 1 1 [.int .i64 (a : Int), secV y] rfl (by
      intro j u hu
      rw [add_plain, cell_blk (heap_new _), Nat.zero_add]
      simpa using hu) (by intro u hu; simp at hu; rcases hu with rfl | rfl <;> rfl) (by unfold maxLen; omega) (by omega)
  obtain ⟨g, cap2, rfl, hgz⟩ := slice_of_owns hown4 (by omega)
  have hsz4 := hch4.size
  simp at hsz4
  have hp1 := cell_blk h1.hp 1
  have hp2 := cell_blk (hch2.keep h1.hp (fun h => h)) 1
  have hwvp : wv.ownBlock ≠ some p := by
    intro e
    have nd := h1.nd
    simp only [List.nodup_cons, List.mem_cons, List.mem_append, not_or] at nd
    exact nd.1.2.2.1 (mem_blockList e)
  have hpw4 : w4.heap[p]? = some (.cells #[.pointer (some ⟨sb, 0, none⟩), wv, .int .i64 ((stepY d).steps : Int), .int .i64 (stepY d).fuse, .bool (stepY d).gone] 122 (0, 0)) :=
    hch4.keep (heap_old (hch2.keep h1.hp (fun h => h)) _) hwvp
  have hp4 := cell_blk hpw4 1
  have hf4 := frozen_blk hpw4 1
  simp at hp1 hp2 hp4
  have hpz1 : p < w1.heap.size := hpF
  have hpz2 : p < w2.heap.size := by omega
  have hnp : ¬ p = w2.heap.size := by omega
  have hnp1 : ¬ p = w1.heap.size := by omega
  have HR1 := hid hrun
  have HR2 := hid hrun2
  unfold secV at HR1 HR2
  have fin : Hid (∀ w5, w5 = w4.setCell ⟨p, 1, none⟩ (.slice (some ⟨g, 0, none⟩) (ws.length + 1) cap2) →
      ∃ M' F', DiskAt w5 p { stepY d with wait := d.wait ++ [(a, b)] } M' F' ∧ Fresh w M M' ∧ Fresh w F F' ∧ Ch M w w5) := hid (by
    rintro w5 rfl
    have hgp : g ≠ p := by
      rcases hv2 with e | e
      · exact fun h => hwvp (by rw [← e, h]; rfl)
      · have := e g rfl; simp at this; omega
    have hyp : y.1 ≠ p := by omega
    have hyw : wv.ownBlock ≠ some y.1 := by
      intro e
      have := h5 y.1 (h4 _ (h2 _ (by simp only [mine, List.mem_cons, List.mem_append]; exact .inr (.inr (.inr (.inl (mem_blockList e)))))))
      omega
    obtain ⟨M', F', q1, q2, q3⟩ := DiskIn.more (w5 := w4.setCell ⟨p, 1, none⟩ (.slice (some ⟨g, 0, none⟩) (ws.length + 1) cap2)) h1 h2 h3 h4 h5 (.slice (some ⟨g, 0, none⟩) (ws.length + 1) cap2) a y b HR0.out
      (by
        have e1 : SecIn (w2.alloc (.cells #[.int .i64 (a : Int), secV y] 124)) y b := hy.frame (Below.heap_alloc _ _ _ hyz)
        have e2 : SecIn w4 y b := e1.frame (hch4.block y.1 (by simp; omega) hyw)
        exact e2.frame (Below.heap_setCell _ _ _ _ hyp)) hy2
      (ownsRow_frame hown4 (fun k hk => Below.heap_setCell _ _ _ _ (by simp [Value.ownBlock] at hk; subst hk; exact hgp)))
      (by
        rcases hv2 with e | e
        · exact .inl e
        · refine .inr fun k hk => ?_
          have := e k hk
          simp at this
          simp [Value.ownBlock] at hk
          subst hk
          exact ⟨by omega, by simpa [World.setCell] using hgz⟩)
      (by rw [heap_set hpw4]; rfl)
      (fun k hk hkp hkw => by
        rw [Below.heap_setCell _ _ _ _ hkp, hch4.block k (by simp; omega) hkw, Below.heap_alloc _ _ _ (by omega)]
        exact hch2.block k hk (fun h => h))
      (by simp [World.setCell]; omega)
    refine ⟨M', F', q1, fun k hk => ?_, fun k hk => ?_, ?_⟩
    · have := hch.size
      rcases q2 k hk with h | h
      · exact .inl h
      · exact .inr (by omega)
    · have := hch.size
      rcases q3 k hk with h | h
      · exact .inl h
      · exact .inr (by omega)
    · have c1 : Ch M w w2 := hch.then hch2 (fun _ _ h => h.elim)
      have c2 := (c1.alloc (.cells #[.int .i64 (a : Int), secV y] 124)).then hch4 (fun i hi e => h2 i (by simp only [mine, List.mem_cons, List.mem_append]; exact .inr (.inr (.inr (.inl (mem_blockList e))))))
      exact c2.setCell (fun _ => hMp) _)
  clear h1 h2 h3 h4 h5 hb1 hrun hown hy hown3 hrun2 hown4 hch4 hv2 hpw4 hch2 hwvp hgz hsz2 hsz4 hyz hy2
  go_region_law (first | (refine step_append_run rfl (.tmp 34) (.tmp 35) 35 35 rfl _ _ HR1.out ?_) | (refine step_append_run rfl (.tmp 32) (.tmp 38) 120 120 rfl _ _ HR2.out ?_))
  all_goals go_wp2
  all_goals go_ret
  all_goals exact ⟨rfl, fin.out _ rfl⟩

theorem Fresh.refl (w : World) (A : Nat → Prop) : Fresh w A A := fun _ h => .inl h

theorem write_any {p : Nat} {d : Dk} {M F : Nat → Prop} (a : Int) (x : Option Addr) (len cap : Nat) (b : List UInt8) (w : World) (h : DiskAt w p d M F) (hst : d.steps ≤ 1000000) (hwt : d.wait.length ≤ 1000000)
    (hb : Bts w (.slice x len cap) b) (hbl : b.length = len) (hbM : ∀ k, (Value.slice x len cap).ownBlock = some k → ¬ M k) :
    Calls Try.prog 25 #[.pointer (some ⟨p, 0, none⟩), .int .i64 a, .slice x len cap] w fun e w' => e = .returned (.int .i64 ((writeD d a b).1 : Nat)) ∧
      ∃ M' F', DiskAt w' p (writeD d a b).2 M' F' ∧ Fresh w M M' ∧ Fresh w F F' ∧ Ch M w w' := by
  by_cases h1 : len = 512
  · subst h1
    by_cases h2 : 0 ≤ a ∧ a < d.L.length
    · by_cases h3 : d.gone = true ∨ d.fuse = 0
      · have e : writeD d a b = (9, { d with gone := true }) := by
          rw [writeD, if_neg (by omega), if_neg (fun h => h h2), stepD_no h3, if_pos rfl]
        rw [e]
        exact (write_power a x cap w h h2 h3).mono fun e w' ⟨he, hD, hc⟩ => ⟨he, M, F, hD, Fresh.refl _ _, Fresh.refl _ _, hc⟩
      · have e : writeD d a b = (0, { stepY d with wait := d.wait ++ [(a.toNat, b)] }) := by
          rw [writeD, if_neg (by omega), if_neg (fun h => h h2), stepD_yes h3, if_neg (by simp)]
        rw [e]
        obtain ⟨n, rfl⟩ := Int.eq_ofNat_of_zero_le h2.1
        exact write_ok n x cap b w h (by omega) h3 hst hwt hb hbl hbM
    · have e : writeD d a b = (3, d) := by rw [writeD, if_neg (by omega), if_pos h2]
      rw [e]
      exact (write_range a x cap w h h2).mono fun e w' ⟨he, hw⟩ => ⟨he, M, F, hw ▸ h, Fresh.refl _ _, Fresh.refl _ _, hw ▸ Ch.refl _ _⟩
  · have e : writeD d a b = (2, d) := by rw [writeD, if_pos (by omega)]
    rw [e]
    exact (write_arg a x len cap w h h1).mono fun e w' ⟨he, hw⟩ => ⟨he, M, F, hw ▸ h, Fresh.refl _ _, Fresh.refl _ _, hw ▸ Ch.refl _ _⟩
end

section
open Go.RowKit

theorem waitCells_get (ws : List (Nat × Value × List UInt8)) : ∀ (i : Nat) (x : Nat × Value × List UInt8), ws[i]? = some x → (waitCells ws)[i * 2]? = some (.int .i64 (x.1 : Int)) ∧ (waitCells ws)[i * 2 + 1]? = some x.2.1 := by
  induction ws with
  | nil => intro i x h; simp at h
  | cons y ws ih =>
    intro i x h
    cases i with
    | zero => simp at h; subst h; simp [waitCells]
    | succ i =>
      have h2 : ws[i]? = some x := by simpa using h
      have := ih i x h2
      have e : waitCells (y :: ws) = .int .i64 (y.1 : Int) :: y.2.1 :: waitCells ws := by simp [waitCells]
      rw [e]
      refine ⟨?_, ?_⟩
      · rw [show (i + 1) * 2 = (i * 2 + 1) + 1 by omega]; simpa using this.1
      · rw [show (i + 1) * 2 + 1 = (i * 2 + 1 + 1) + 1 by omega]; simpa using this.2
/-- The cells of a write that waits. -/
theorem wait_cells {w : World} {wv : Value} {ws : List (Nat × Value × List UInt8)} (h : w.ownsRow 0 124 2 wv ws.length (waitCells ws)) {i : Nat} {x : Nat × Value × List UInt8} (hx : ws[i]? = some x) :
    ∃ g cap, wv = .slice (some ⟨g, 0, none⟩) ws.length cap ∧ w.cell? ⟨g, i * 2, none⟩ = some (.int .i64 (x.1 : Int)) ∧ w.cell? ⟨g, i * 2 + 1, none⟩ = some x.2.1 := by
  have hi := (List.getElem?_eq_some_iff.1 hx).1
  obtain ⟨g, cap, rfl, _⟩ := slice_of_owns h (by omega)
  have hc := h.cells (g := g) rfl
  have := waitCells_get ws i x hx
  refine ⟨g, cap, rfl, ?_, ?_⟩
  · have := hc _ _ this.1; rw [add_plain, Nat.zero_add] at this; exact this
  · have := hc _ _ this.2; rw [add_plain, Nat.zero_add] at this; exact this

theorem readW_snoc (l : List (Nat × List UInt8)) (x : Nat × List UInt8) (a : Nat) (s : List UInt8) : readW (l ++ [x]) a s = if x.1 = a then x.2 else readW l a s := by simp [readW]

theorem read_none (a : Int) (w : World) : Calls Try.prog 27 #[.pointer none, .int .i64 a] w fun e w' => e = .returned (.tuple #[.slice none 0 0, .int .i64 1]) ∧ w = w' := by
  go_enter Try.func27, Try.ntmps27
  go_wp2_with (go_at_call 78; refine (made_none _).mono ?_; rintro e w' ⟨rfl, rfl⟩)
  go_ret2
  exact ⟨rfl, rfl⟩

theorem read_range {p : Nat} {d : Dk} {M F : Nat → Prop} (a : Int) (w : World) (h : DiskAt w p d M F) (hr : ¬ (0 ≤ a ∧ a < d.L.length)) :
    Calls Try.prog 27 #[.pointer (some ⟨p, 0, none⟩), .int .i64 a] w fun e w' => e = .returned (.tuple #[.slice none 0 0, .int .i64 3]) ∧ w = w' := by
  have HM := hid (made_any w h)
  obtain ⟨sb, rb, bs, wv, ws, h1, _⟩ := h
  have HT := hid (there_any a w h1.n2 h1.hs)
  rw [decide_eq_false hr] at HT
  have hc := cell_blk h1.hp 0
  simp at hc
  clear h1 hr
  go_enter Try.func27, Try.ntmps27
  go_wp2_with (first | (go_at_call 78; refine HM.out.mono ?_; rintro e w' ⟨rfl, rfl⟩) | (go_at_call 82; refine HT.out.mono ?_; rintro e w' ⟨rfl, rfl⟩))
  go_ret2
  exact ⟨rfl, rfl⟩

theorem read_power {p : Nat} {d : Dk} {M F : Nat → Prop} (a : Int) (w : World) (h : DiskAt w p d M F) (hr : 0 ≤ a ∧ a < d.L.length) (hg : d.gone = true) :
    Calls Try.prog 27 #[.pointer (some ⟨p, 0, none⟩), .int .i64 a] w fun e w' => e = .returned (.tuple #[.slice none 0 0, .int .i64 9]) ∧ w = w' := by
  have HM := hid (made_any w h)
  obtain ⟨sb, rb, bs, wv, ws, h1, _⟩ := h
  have HT := hid (there_any a w h1.n2 h1.hs)
  rw [decide_eq_true hr] at HT
  have hc := cell_blk h1.hp 0
  have hc4 := cell_blk h1.hp 4
  simp at hc hc4
  rw [hg] at hc4
  clear h1 hr hg
  go_enter Try.func27, Try.ntmps27
  go_wp2_with (first | (go_at_call 78; refine HM.out.mono ?_; rintro e w' ⟨rfl, rfl⟩) | (go_at_call 82; refine HT.out.mono ?_; rintro e w' ⟨rfl, rfl⟩))
  go_ret2
  exact ⟨rfl, rfl⟩

set_option maxRecDepth 20000 in
set_option maxHeartbeats 1000000 in
theorem read_ok {p : Nat} {d : Dk} {M F : Nat → Prop} (a : Nat) (w : World) (h : DiskAt w p d M F) (hr : a < d.L.length) (hg : d.gone = false) (hwt : d.wait.length ≤ 1000000) :
    Calls Try.prog 27 #[.pointer (some ⟨p, 0, none⟩), .int .i64 a] w fun e w' => ∃ g cap, e = .returned (.tuple #[.slice (some ⟨g, 0, none⟩) 512 cap, .int .i64 0]) ∧
      SecIn w' (g, cap) (readW d.wait a (d.L.getD a [])) ∧ Ch (fun _ => False) w w' ∧ w.heap.size ≤ g := by
  have HM := hid (made_any w h)
  obtain ⟨sb, rb, bs, wv, ws, h1, h2, h3, h4, h5⟩ := h
  have HT := hid (there_any (a : Int) w h1.n2 h1.hs)
  rw [decide_eq_true (show 0 ≤ (a : Int) ∧ (a : Int) < d.L.length by omega)] at HT
  have hc := cell_blk h1.hp 0
  have hc1 := cell_blk h1.hp 1
  have hc4 := cell_blk h1.hp 4
  have hcs := cell_blk h1.hs 0
  simp at hc hc1 hc4 hcs
  rw [hg] at hc4
  have hlen : ws.length ≤ 1000000 := by rw [h1.hwl, List.length_map] at hwt; exact hwt
  obtain ⟨ad, wcap, hwv⟩ : ∃ ad cap, wv = .slice ad ws.length cap := by
    rcases h1.hw.2 with ⟨rfl, h0⟩ | ⟨g, cap, cur, rfl, _⟩
    · exact ⟨none, 0, by rw [h0]⟩
    · exact ⟨_, _, rfl⟩
  rw [hwv] at hc1
  have H1 := hid h1
  have HWV := hid hwv
  have HA := hid hr
  clear h1 h2 h3 h4 h5 hg hwt hwv
  obtain ⟨n, HN⟩ : ∃ n, Hid (d.L.length = n) := ⟨_, hid rfl⟩
  rw [HN.out] at hcs HA
  obtain ⟨R, HRR⟩ : ∃ R, Hid (readW d.wait a (d.L.getD a []) = R) := ⟨_, hid rfl⟩
  rw [HRR.out]
  go_enter Try.func27, Try.ntmps27
  go_wp2_with (first | (go_at_call 78; refine HM.out.mono ?_; rintro e w' ⟨rfl, rfl⟩) | (go_at_call 82; refine HT.out.mono ?_; rintro e w' ⟨rfl, rfl⟩))
  go_loop [6] (fun i => ∃ j : Nat, i = .int .i64 ((j : Int) - 1) ∧ j ≤ ws.length ∧ Hid (R = readW (d.wait.take j) a (d.L.getD a []))) (fun i => (intOf i + 1).toNat)
  case atStart => exact ⟨ws.length, rfl, Nat.le_refl _, hid (by rw [← HRR.out, List.take_of_length_le]; rw [H1.out.hwl]; simp)⟩
  case round =>
    obtain ⟨j, rfl, hj, HR⟩ := hrel
    have hpz := blk_lt H1.out.hp
    have hsz := blk_lt H1.out.hs
    have hrz := blk_lt H1.out.hr
    cases j with
    | zero =>
      obtain ⟨x, HX⟩ : ∃ x, Hid (bs[a]? = some x) := ⟨bs[a]'(by rw [H1.out.hb]; exact hr), hid (List.getElem?_eq_getElem _)⟩
      obtain ⟨l, HLl⟩ : ∃ l, Hid (d.L[a]? = some l) := ⟨d.L[a]'hr, hid (List.getElem?_eq_getElem _)⟩
      have hsec := H1.out.hl a x l HX.out HLl.out
      have hcr := cell_blk H1.out.hr a
      rw [List.getElem?_toArray, List.getElem?_map, HX.out] at hcr
      simp only [Option.map_some, secV] at hcr
      obtain ⟨v', w2, hrun, hown, hch2⟩ := run_clone_bts (P := Try.prog) w 35 35 5 Try.underlying35 Try.info5 (secV x) l hsec.bts (by rw [hsec.1]; omega)
      rw [hsec.1] at hown
      obtain ⟨y, rfl, hy, hy2⟩ := sec_of_owns hown hsec.1
      have HRun := hid hrun
      unfold secV at HRun
      have hA : (a : Int) < (n : Int) := by have := HA.out; omega
      have fin : Hid (SecIn w2 (y.1, y.2) R ∧ Ch (fun _ => False) w w2 ∧ w.heap.size ≤ y.1) := hid ⟨by
        rw [HR.out, List.take_zero, List.getD, HLl.out]; exact hy, hch2, hy2⟩
      clear hrun hown hy hy2 hch2 hsec
      go_wp2_with (at_builtin; refine wpList_append_run rfl (.tmp 54) (.tmp 63) 35 35 rfl _ _ HRun.out ?_)
      go_ret2
      exact ⟨y.1, y.2, rfl, fin.out⟩
    | succ j =>
      obtain ⟨x, HX⟩ : ∃ x, Hid (ws[j]? = some x) := ⟨ws[j]'(by omega), hid (List.getElem?_eq_getElem _)⟩
      obtain ⟨g, cap, hg, k1, k2⟩ := wait_cells H1.out.hw HX.out
      rw [HWV.out] at hg
      simp at hg
      obtain ⟨rfl, rfl⟩ := hg
      have hgz := World.block_lt_of_cell? w _ k1
      have hx := H1.out.hwb x (List.mem_of_getElem? HX.out)
      have hw1 : Hid (d.wait.take (j + 1) = d.wait.take j ++ [(x.1, x.2.2)]) := hid (by
        rw [List.take_add_one, H1.out.hwl, List.getElem?_map, HX.out]; rfl)
      by_cases hq : x.1 = a
      · have hqb : ((x.1 : Int) == (a : Int)) = true := by rw [beq_iff_eq]; omega
        obtain ⟨v', w2, hrun, hown, hch2⟩ := run_clone_bts (P := Try.prog) w 35 35 5 Try.underlying35 Try.info5 x.2.1 x.2.2 hx.1 (by rw [hx.2.1]; omega)
        rw [hx.2.1] at hown
        obtain ⟨y, rfl, hy, hy2⟩ := sec_of_owns hown hx.2.1
        have HRun := hid hrun
        unfold secV at HRun
        have fin : Hid (SecIn w2 (y.1, y.2) R ∧ Ch (fun _ => False) w w2 ∧ w.heap.size ≤ y.1) := hid ⟨by
          rw [HR.out, hw1.out, readW_snoc, if_pos hq]; exact hy, hch2, hy2⟩
        clear hrun hown hy hy2 hch2 hq hx
        go_wp2_with (at_builtin; refine wpList_append_run rfl (.tmp 44) (.tmp 52) 35 35 rfl _ _ HRun.out ?_)
        go_ret2
        exact ⟨y.1, y.2, rfl, fin.out⟩
      · have hqb : ((x.1 : Int) == (a : Int)) = false := by rw [beq_eq_false_iff_ne]; omega
        have HNext : Hid (R = readW (d.wait.take j) a (d.L.getD a [])) := hid (by
          rw [HR.out, hw1.out, readW_snoc, if_neg hq])
        clear hq hx hw1
        go_wp2
        go_round
        case rel => exact ⟨j, by go_num, by omega, HNext⟩
        case measure => simp [intOf]

theorem read_any {p : Nat} {d : Dk} {M F : Nat → Prop} (a : Int) (w : World) (h : DiskAt w p d M F) (hwt : d.wait.length ≤ 1000000) :
    Calls Try.prog 27 #[.pointer (some ⟨p, 0, none⟩), .int .i64 a] w fun e w' => ∃ v, e = .returned (.tuple #[v, .int .i64 ((readD d a).1 : Nat)]) ∧
      Bts w' v (readD d a).2 ∧ Ch (fun _ => False) w w' ∧ (∀ k, v.ownBlock = some k → w.heap.size ≤ k) ∧ ∃ x cap, v = .slice x (readD d a).2.length cap := by
  by_cases h2 : 0 ≤ a ∧ a < d.L.length
  · by_cases h3 : d.gone = true
    · have e : readD d a = (9, []) := by rw [readD, if_neg (fun h => h h2), if_pos h3]
      rw [e]
      exact (read_power a w h h2 h3).mono fun e w' ⟨he, hw⟩ => ⟨.slice none 0 0, he, .inl ⟨none, 0, rfl, rfl⟩, hw ▸ Ch.refl (fun _ => False) w, fun k hk => (by cases hk), none, 0, rfl⟩
    · have e : readD d a = (0, readW d.wait a.toNat (d.L.getD a.toNat [])) := by rw [readD, if_neg (fun h => h h2), if_neg h3]
      rw [e]
      obtain ⟨n, rfl⟩ := Int.eq_ofNat_of_zero_le h2.1
      refine (read_ok n w h (by omega) (by simpa using h3) hwt).mono fun e w' ⟨g, cap, he, hs, hc, hg⟩ => ⟨.slice (some ⟨g, 0, none⟩) 512 cap, he, hs.bts, hc, fun k hk => (by cases hk; exact hg), some ⟨g, 0, none⟩, cap, ?_⟩
      rw [show (0, readW d.wait (Int.toNat n) (d.L.getD (Int.toNat n) [])).2.length = 512 from hs.1]
  · have e : readD d a = (3, []) := by rw [readD, if_pos h2]
    rw [e]
    exact (read_range a w h h2).mono fun e w' ⟨he, hw⟩ => ⟨.slice none 0 0, he, .inl ⟨none, 0, rfl, rfl⟩, hw ▸ Ch.refl (fun _ => False) w, fun k hk => (by cases hk), none, 0, rfl⟩
end

section
open Go.RowKit

/-- One sector holds other bytes: the disk in memory. -/
theorem DiskIn.sector {w w' : World} {p sb rb : Nat} {bs : List (Nat × Nat)} {wv : Value} {ws : List (Nat × Value × List UInt8)} {d : Dk} (h : DiskIn w p sb rb bs wv ws d) (i : Nat) (x : Nat × Nat) (m : List UInt8)
    (hx : bs[i]? = some x) (hs : SecIn w' x m) (hk : ∀ k, k < w.heap.size → k ≠ x.1 → w'.heap[k]? = w.heap[k]?) (hws : ∀ y ∈ ws, ∀ k, y.2.1.ownBlock = some k → k < w.heap.size ∧ k ≠ x.1) :
    DiskIn w' p sb rb bs wv ws { d with L := d.L.set i m } := by
  have nd := h.nd
  simp only [List.nodup_cons, List.mem_cons, List.mem_append, not_or] at nd
  obtain ⟨⟨n1, n2, n3, n4⟩, ⟨n5, n6, n7⟩, ⟨n8, n9⟩, n10⟩ := nd
  have hx1 : x.1 ∈ bs.map Prod.fst := List.mem_map.2 ⟨x, List.mem_of_getElem? hx, rfl⟩
  have ndb := (List.nodup_append.1 n10).2.1
  exact {
    n1 := by simpa using h.n1
    n2 := by simpa using h.n2
    f1 := h.f1
    f2 := h.f2
    hp := (hk p (blk_lt h.hp) (fun e => n4 (e ▸ hx1))).trans h.hp
    hs := by simpa using (hk sb (blk_lt h.hs) (fun e => n7 (e ▸ hx1))).trans h.hs
    hr := (hk rb (blk_lt h.hr) (fun e => n9 (e ▸ hx1))).trans h.hr
    hb := by simpa using h.hb
    hl := by
      intro j y l hy hl
      by_cases hj : j = i
      · subst hj
        rw [hx] at hy
        cases hy
        have hi : j < d.L.length := by rw [← h.hb]; exact (List.getElem?_eq_some_iff.1 hx).1
        rw [List.getElem?_set_self hi] at hl
        cases hl
        exact hs
      · rw [List.getElem?_set_ne (Ne.symm hj)] at hl
        have hsec := h.hl j y l hy hl
        have hyz : y.1 < w.heap.size := by obtain ⟨_, _, cur, h3, _⟩ := hsec; exact blk_lt h3
        refine hsec.frame (hk y.1 hyz (fun e => hj ?_))
        have h1 : (bs.map Prod.fst)[j]? = some y.1 := by rw [List.getElem?_map, hy]; rfl
        have h2 : (bs.map Prod.fst)[i]? = some y.1 := by rw [List.getElem?_map, hx, e]; rfl
        exact (List.getElem?_inj (List.getElem?_eq_some_iff.1 h1).1 ndb).1 (h1.trans h2.symm)
    hw := ownsRow_frame h.hw fun k hkk => hk k (h.hw.lt k hkk).2 (fun e => (List.nodup_append.1 n10).2.2 k (mem_blockList hkk) x.1 hx1 e)
    hwl := h.hwl
    hwb := fun y hy => ⟨(h.hwb y hy).1.frame (fun k hkk => hk k (hws y hy k hkk).1 (hws y hy k hkk).2), (h.hwb y hy).2.1, by simpa using (h.hwb y hy).2.2⟩
    nd := h.nd }
theorem Bts.form {w : World} {v : Value} {l : List UInt8} (h : Bts w v l) : ∃ a cap, v = .slice a l.length cap := by
  rcases h with ⟨a, cap, rfl, rfl⟩ | ⟨b, off, cap, cs, e, fz, rfl, _⟩
  · exact ⟨a, cap, rfl⟩
  · exact ⟨_, cap, rfl⟩
theorem applyW_snoc (l : List (Nat × List UInt8)) (x : Nat × List UInt8) (L : List (List UInt8)) : applyW (l ++ [x]) L = (applyW l L).set x.1 x.2 := by simp [applyW]

/-- Nothing waits any more: the disk in memory. -/
theorem DiskIn.clear {w w' : World} {p sb rb : Nat} {bs : List (Nat × Nat)} {wv : Value} {ws : List (Nat × Value × List UInt8)} {d : Dk} (h : DiskIn w p sb rb bs wv ws d)
    (hp : w'.heap[p]? = some (.cells #[.pointer (some ⟨sb, 0, none⟩), .slice none 0 0, .int .i64 (d.steps : Int), .int .i64 d.fuse, .bool d.gone] 122 (0, 0)))
    (hk : ∀ k, k ≠ p → w'.heap[k]? = w.heap[k]?) : DiskIn w' p sb rb bs (.slice none 0 0) [] { d with wait := [] } := by
  have nd := h.nd
  simp only [List.nodup_cons, List.mem_cons, List.mem_append, not_or] at nd
  obtain ⟨⟨n1, n2, n3, n4⟩, ⟨n5, n6, n7⟩, ⟨n8, n9⟩, n10⟩ := nd
  exact {
    n1 := h.n1, n2 := h.n2, f1 := h.f1, f2 := h.f2, hp := hp
    hs := (hk sb (Ne.symm n1)).trans h.hs
    hr := (hk rb (Ne.symm n2)).trans h.hr
    hb := h.hb
    hl := fun i x l hx hl => (h.hl i x l hx hl).frame (hk x.1 (fun e => n4 (by rw [← e]; exact List.mem_map.2 ⟨x, List.mem_of_getElem? hx, rfl⟩)))
    hw := ⟨rfl, .inl ⟨rfl, rfl⟩⟩
    hwl := rfl
    hwb := fun x hx => by simp at hx
    nd := by
      have s : (p :: sb :: rb :: (blockList (.slice none 0 0) ++ bs.map Prod.fst)).Sublist (p :: sb :: rb :: (blockList wv ++ bs.map Prod.fst)) := by
        refine List.Sublist.cons_cons _ (List.Sublist.cons_cons _ (List.Sublist.cons_cons _ ?_))
        exact List.sublist_append_right _ _
      exact s.nodup h.nd }

theorem flush_none (w : World) : Calls Try.prog 23 #[.pointer none] w fun e w' => e = .returned (.int .i64 1) ∧ w = w' := by
  go_enter Try.func23, Try.ntmps23
  go_wp2_with (go_at_call 78; refine (made_none _).mono ?_; rintro e w' ⟨rfl, rfl⟩)
  go_ret
  exact ⟨rfl, rfl⟩
theorem flush_power {p : Nat} {d : Dk} {M F : Nat → Prop} (w : World) (h : DiskAt w p d M F) (hg : d.gone = true ∨ d.fuse = 0) :
    Calls Try.prog 23 #[.pointer (some ⟨p, 0, none⟩)] w fun e w' => e = .returned (.int .i64 9) ∧ DiskAt w' p { d with gone := true } M F ∧ Ch M w w' := by
  have HM := hid (made_any w h)
  have HS := hid (step_no w h hg)
  clear h hg
  go_enter Try.func23, Try.ntmps23
  go_wp2_with (first | (go_at_call 78; refine HM.out.mono ?_; rintro e w' ⟨rfl, rfl⟩) | (go_at_call 79; refine HS.out.mono ?_; rintro e w1 ⟨rfl, hD, hch⟩))
  go_ret
  exact ⟨rfl, hD, hch⟩

set_option maxRecDepth 20000 in
set_option maxHeartbeats 1000000 in
theorem flush_ok {p : Nat} {d : Dk} {M F : Nat → Prop} (w : World) (h : DiskAt w p d M F) (hg : ¬ (d.gone = true ∨ d.fuse = 0)) (hst : d.steps ≤ 1000000) (hwt : d.wait.length ≤ 1000000) :
    Calls Try.prog 23 #[.pointer (some ⟨p, 0, none⟩)] w fun e w' => e = .returned (.int .i64 0) ∧ DiskAt w' p { stepY d with L := applyW d.wait d.L, wait := [] } M F ∧ Ch M w w' := by
  have HM := hid (made_any w h)
  have HS := hid (step_yes w h hst hg)
  clear h hg
  go_enter Try.func23, Try.ntmps23
  go_wp2_with (go_at_call 78; refine HM.out.mono ?_; rintro e w' ⟨rfl, rfl⟩)
  refine HS.out.mono ?_
  rintro e w1 ⟨rfl, hD, hch⟩
  have HD := hid hD
  clear hD
  obtain ⟨sb, rb, bs, wv, ws, h1, h2, h3, h4, h5⟩ := HD.out
  have hlen : ws.length ≤ 1000000 := by
    have : d.wait.length = ws.length := by rw [show d.wait = ws.map _ from h1.hwl, List.length_map]
    omega
  obtain ⟨ad, wcap, hwv⟩ : ∃ ad cap, wv = .slice ad ws.length cap := by
    rcases h1.hw.2 with ⟨rfl, h0⟩ | ⟨g, cap, cur, rfl, _⟩
    · exact ⟨none, 0, by rw [h0]⟩
    · exact ⟨_, _, rfl⟩
  have hc1 := cell_blk h1.hp 1
  simp at hc1
  rw [hwv] at hc1
  have H1 := hid h1
  have H2 := hid h2
  have H3 := hid h3
  have H4 := hid h4
  have H5 := hid h5
  have HWV := hid hwv
  clear h1 h2 h3 h4 h5 hwv
  go_wp2
  go_loopw [18] (fun k wr => ∃ j : Nat, k = .int .i64 (j : Int) ∧ j ≤ ws.length ∧ Hid (DiskIn wr p sb rb bs wv ws { stepY d with L := applyW (d.wait.take j) d.L }) ∧ Hid (Ch M w1 wr)) (fun k _ => ws.length - (intOf k).toNat)
  case atStart => exact ⟨0, rfl, Nat.zero_le _, H1, hid (Ch.refl _ _)⟩
  case round =>
    obtain ⟨j, rfl, hj, HI, HC⟩ := hrel
    have hc0 := cell_blk HI.out.hp 0
    have hc1' := cell_blk HI.out.hp 1
    have hf1 := frozen_blk HI.out.hp 1
    have hpz := blk_lt HI.out.hp
    simp at hc0 hc1'
    by_cases hlt : j < ws.length
    · obtain ⟨x, HX⟩ : ∃ x, Hid (ws[j]? = some x) := ⟨ws[j]'(by omega), hid (List.getElem?_eq_getElem _)⟩
      obtain ⟨g, cap, hg, k1, k2⟩ := wait_cells HI.out.hw HX.out
      rw [HWV.out] at hg
      simp at hg
      obtain ⟨rfl, rfl⟩ := hg
      have hgz := World.block_lt_of_cell? wr _ k1
      have hx := HI.out.hwb x (List.mem_of_getElem? HX.out)
      obtain ⟨xa, xc, hxv⟩ := hx.1.form
      rw [hx.2.1] at hxv
      rw [hxv] at k2
      have HXV := hid hxv
      have hxa := hx.2.2
      have hxbs : x.1 < bs.length := by rw [HI.out.hb]; exact hxa
      obtain ⟨z, HZ⟩ : ∃ z, Hid (bs[x.1]? = some z) := ⟨bs[x.1]'hxbs, hid (List.getElem?_eq_getElem _)⟩
      obtain ⟨l, HLl⟩ : ∃ l, Hid ((applyW (d.wait.take j) d.L)[x.1]? = some l) := ⟨(applyW (d.wait.take j) d.L)[x.1]'hxa, hid (List.getElem?_eq_getElem _)⟩
      have hsec := HI.out.hl x.1 z l HZ.out HLl.out
      have hzz : z.1 < wr.heap.size := by obtain ⟨_, _, cur, h3, _⟩ := hsec; exact blk_lt h3
      have HPut := hid (put_any (x.1 : Int) (wr.alloc (.cells #[.int .i64 (x.1 : Int), .slice xa 512 xc] 124)).drew (heap_old HI.out.hs _) (heap_old HI.out.hr _) rfl hxa HZ.out
        (hsec.frame (w' := (wr.alloc (.cells #[.int .i64 (x.1 : Int), .slice xa 512 xc] 124)).drew) (Below.heap_alloc _ _ _ hzz)) (m := x.2.2) (v := .slice xa 512 xc) (by rw [hx.2.1]; omega)
        (by
          rw [← hxv]
          refine hx.1.frame (fun k hk => Below.heap_alloc _ _ _ ?_)
          have := H5.out k (H3.out x (List.mem_of_getElem? HX.out) k hk).1
          have := HC.out.size
          omega) HI.out.n2)
      have hl512 := hsec.1
      rw [show x.2.2 ++ l.drop x.2.2.length = x.2.2 by rw [hx.2.1, List.drop_of_length_le (by omega), List.append_nil]] at HPut
      have HWJ : Hid (d.wait.take (j + 1) = d.wait.take j ++ [(x.1, x.2.2)]) := hid (by
        rw [List.take_add_one, show d.wait = ws.map _ from H1.out.hwl, List.getElem?_map, HX.out]; rfl)
      clear hsec hx hxv hl512
      go_wp2
      refine region_tail 8 (by kernel_rfl) (by kernel_rfl) ?_
      simp only [List.take_succ_cons, List.take_zero, List.drop_succ_cons, List.drop_zero]
      repeat still_step
      refine wpStill_nil ?_
      go_wp2_with (go_at_call 80; refine HPut.out.mono ?_; rintro e w2 ⟨rfl, hs2, hc2⟩; have HS2 := hid hs2; have HC2 := hid hc2; clear hs2 hc2)
      go_roundw
      case rel =>
        refine ⟨j + 1, by go_num, by omega, hid ?_, hid ?_⟩
        · rw [HWJ.out, applyW_snoc]
          have hW : DiskIn (wr.alloc (.cells #[.int .i64 (x.1 : Int), .slice xa 512 xc] 124)).drew p sb rb bs wv ws { stepY d with L := applyW (d.wait.take j) d.L } := by
            refine HI.out.frame (fun k hk => Below.heap_alloc _ _ _ ?_) (fun y hy k hk => Below.heap_alloc _ _ _ ?_)
            · have := H5.out k (H4.out k (H2.out k hk)); have := HC.out.size; omega
            · have := H5.out k (H3.out y hy k hk).1; have := HC.out.size; omega
          refine hW.sector x.1 z x.2.2 HZ.out HS2.out (fun k hk hne => HC2.out.block k hk hne) (fun y hy k hk => ?_)
          have hf := H3.out y hy k hk
          have h1 := H5.out k hf.1
          have h2 := HC.out.size
          refine ⟨by show k < ((wr.alloc _).drew).heap.size; simp [World.drew]; omega, fun e => hf.2 (e ▸ H2.out z.1 ?_)⟩
          simp only [mine, List.mem_cons, List.mem_append, List.mem_map]
          exact .inr (.inr (.inr (.inr ⟨z, List.mem_of_getElem? HZ.out, rfl⟩)))
        · refine ((HC.out.alloc _).drew).then HC2.out (fun i _ e => ?_)
          subst e
          refine H2.out z.1 ?_
          simp only [mine, List.mem_cons, List.mem_append, List.mem_map]
          exact .inr (.inr (.inr (.inr ⟨z, List.mem_of_getElem? HZ.out, rfl⟩)))
      case measure => simp [intOf]; omega
    · obtain rfl : j = ws.length := by omega
      go_wp2
      go_ret
      have hMp := H2.out p (by simp [mine])
      refine ⟨rfl, ?_, (hch.trans HC.out).setCell (fun _ => hMp) _⟩
      have hI := HI.out
      rw [List.take_of_length_le (by rw [show d.wait = ws.map _ from H1.out.hwl]; simp)] at hI
      refine ⟨sb, rb, bs, .slice none 0 0, [], hI.clear (by rw [heap_set hI.hp]; rfl) (fun k hk => Below.heap_setCell _ _ _ _ hk), ?_, by simp, H4.out, ?_⟩
      · intro k hk
        refine H2.out k ?_
        simp only [mine, blockList, Value.ownBlock, List.nil_append, List.mem_cons, List.mem_append] at hk ⊢
        rcases hk with h | h | h | h
        · exact .inl h
        · exact .inr (.inl h)
        · exact .inr (.inr (.inl h))
        · exact .inr (.inr (.inr (.inr h)))
      · intro k hk
        have h1 := H5.out k hk
        have h2 := HC.out.size
        simp [World.setCell]
        omega

theorem flush_any {p : Nat} {d : Dk} {M F : Nat → Prop} (w : World) (h : DiskAt w p d M F) (hst : d.steps ≤ 1000000) (hwt : d.wait.length ≤ 1000000) :
    Calls Try.prog 23 #[.pointer (some ⟨p, 0, none⟩)] w fun e w' => e = .returned (.int .i64 ((flushD d).1 : Nat)) ∧ DiskAt w' p (flushD d).2 M F ∧ Ch M w w' := by
  by_cases h3 : d.gone = true ∨ d.fuse = 0
  · have e : flushD d = (9, { d with gone := true }) := by rw [flushD, stepD_no h3, if_pos rfl]
    rw [e]
    exact flush_power w h h3
  · have e : flushD d = (0, { stepY d with L := applyW d.wait d.L, wait := [] }) := by rw [flushD, stepD_yes h3, if_neg (by simp)]
    rw [e]
    exact flush_ok w h h3 hst hwt
end

section
open Go.RowKit

/-- v is a slice of keeps that reads as l. -/
def Kps (w : World) (v : Value) (l : List (Int × Int)) : Prop :=
  (∃ a cap, v = .slice a 0 cap ∧ l = []) ∨ ∃ b off cap cs e fz, v = .slice (some ⟨b, off, none⟩) l.length cap ∧ w.heap[b]? = some (.cells cs e fz) ∧
    ∀ (j : Nat) (x : Int × Int), l[j]? = some x → cs[off + j * 2]? = some (.int .i64 x.1) ∧ cs[off + j * 2 + 1]? = some (.int .i64 x.2)
theorem Kps.ch {S : Nat → Prop} {w w' : World} {v : Value} {l : List (Int × Int)} (h : Kps w v l) (hc : Ch S w w') (hn : ∀ k, v.ownBlock = some k → ¬ S k) : Kps w' v l := by
  rcases h with h | ⟨b, off, cap, cs, e, fz, rfl, hb, hcs⟩
  · exact .inl h
  · exact .inr ⟨b, off, cap, cs, e, fz, rfl, hc.keep hb (hn b rfl), hcs⟩
theorem Kps.form {w : World} {v : Value} {l : List (Int × Int)} (h : Kps w v l) : ∃ a cap, v = .slice a l.length cap := by
  rcases h with ⟨a, cap, rfl, rfl⟩ | ⟨b, off, cap, cs, e, fz, rfl, _⟩
  · exact ⟨a, cap, rfl⟩
  · exact ⟨_, cap, rfl⟩
theorem Kps.get {w : World} {a : Option Addr} {n cap : Nat} {l : List (Int × Int)} (h : Kps w (.slice a n cap) l) {j : Nat} {x : Int × Int} (hx : l[j]? = some x) :
    ∃ b off, a = some ⟨b, off, none⟩ ∧ w.cell? ⟨b, off + j * 2, none⟩ = some (.int .i64 x.1) ∧ w.cell? ⟨b, off + j * 2 + 1, none⟩ = some (.int .i64 x.2) ∧ b < w.heap.size := by
  rcases h with ⟨_, _, h, rfl⟩ | ⟨b, off, c, cs, e, fz, h, hb, hcs⟩
  · simp at hx
  · cases h
    exact ⟨b, off, rfl, by rw [cell_blk hb]; exact (hcs j x hx).1, by rw [cell_blk hb]; exact (hcs j x hx).2, blk_lt hb⟩

theorem Bts.form2 {w : World} {v : Value} {l : List UInt8} (h : Bts w v l) : ∃ a cap, v = .slice a l.length cap ∧ (0 < l.length → l.length ≤ cap) := by
  rcases h with ⟨a, cap, rfl, rfl⟩ | ⟨b, off, cap, cs, e, fz, rfl, hc, _⟩
  · exact ⟨a, cap, rfl, fun h => by simp at h⟩
  · exact ⟨_, cap, rfl, fun _ => hc⟩
theorem Bts.less {w : World} {a : Option Addr} {n cap k : Nat} {l : List UInt8} (h : Bts w (.slice a n cap) l) (hk : k ≤ n) : Bts w (.slice a k cap) (l.take k) := by
  rcases h with ⟨a, c0, h, rfl⟩ | ⟨b', off', cap', cs, e, fz, h, hcap, hb, hc⟩
  · cases h
    obtain rfl : k = 0 := by omega
    exact .inl ⟨_, _, rfl, by simp⟩
  · cases h
    refine .inr ⟨b', off', cap, cs, e, fz, by simp [Nat.min_eq_left hk], by simp; omega, hb, fun j hj => ?_⟩
    simp at hj
    rw [hc j (by omega)]
    simp

theorem crash_none (x : Option Addr) (len cap : Nat) (w : World) : Calls Try.prog 24 #[.pointer none, .slice x len cap] w fun e w' => e = .returned (.pointer none) ∧ w = w' := by
  go_enter Try.func24, Try.ntmps24
  go_wp2_with (go_at_call 78; refine (made_none _).mono ?_; rintro e w' ⟨rfl, rfl⟩)
  go_ret
  exact ⟨rfl, rfl⟩

/-- What a build makes, boxed: a disk. -/
theorem Build.disk {w0 w w' : World} {sb rb n : Nat} {bs : List (Nat × Nat)} {L : List (List UInt8)} (h : Build w0 w sb rb n bs L) (hbn : bs.length = n) (h1 : 1 ≤ n) (h2 : n ≤ 4096)
    (hw : w' = w.alloc (.cells #[.pointer (some ⟨sb, 0, none⟩), .slice none 0 0, .int .i64 0, .int .i64 (-1), .bool false] 122)) :
    DiskIn w' w.heap.size sb rb bs (.slice none 0 0) [] { L := L, wait := [], steps := 0, fuse := -1, gone := false } := by
  subst hw
  have hLn : L.length = n := by rw [← h.hb, hbn]
  have hr := h.hr
  rw [hbn, Nat.sub_self, List.replicate_zero, List.append_nil] at hr
  refine ⟨by show 1 ≤ L.length; omega, by show L.length ≤ 4096; omega, by simp, by simp, heap_new _, ?_, heap_old hr _, h.hb, ?_, ?_, rfl, by simp, ?_⟩
  · rw [hLn]; exact heap_old h.hs _
  · intro i x l hx hl
    exact (h.hl i x l hx hl).frame (Below.heap_alloc _ _ _ (h.new x.1 (by simp; exact .inr (.inr ⟨x.2, List.mem_of_getElem? hx⟩))).2)
  · exact ⟨rfl, .inl ⟨rfl, rfl⟩⟩
  · have : (w.heap.size :: sb :: rb :: bs.map Prod.fst).Nodup := List.nodup_cons.2 ⟨fun hm => by have := (h.new _ hm).2; omega, h.nd⟩
    simpa [blockList, Value.ownBlock] using this

set_option maxRecDepth 20000 in
set_option maxHeartbeats 2000000 in
theorem crash_any {p : Nat} {d : Dk} {M F : Nat → Prop} (a : Option Addr) (cap : Nat) (kept : List (Int × Int)) (w : World) (h : DiskAt w p d M F) (hwt : d.wait.length ≤ 1000000) (hkl : kept.length ≤ 1000000) (hkv : Kps w (.slice a kept.length cap) kept) :
    Calls Try.prog 24 #[.pointer (some ⟨p, 0, none⟩), .slice a kept.length cap] w fun e w' => ∃ p' M', e = .returned (.pointer (some ⟨p', 0, none⟩)) ∧
      DiskAt w' p' (crashD d kept) M' M' ∧ Ch (fun _ => False) w w' ∧ (∀ k, M' k → w.heap.size ≤ k) := by
  have HM := hid (made_any w h)
  have HD := hid h
  obtain ⟨sb, rb, bs, wv, ws, h1, h2, h3, h4, h5⟩ := h
  have hlen : ws.length ≤ 1000000 := by
    have : d.wait.length = ws.length := by rw [show d.wait = ws.map _ from h1.hwl, List.length_map]
    omega
  obtain ⟨ad, wcap, hwv⟩ : ∃ ad cap, wv = .slice ad ws.length cap := by
    rcases h1.hw.2 with ⟨rfl, h0⟩ | ⟨g, cap, cur, rfl, _⟩
    · exact ⟨none, 0, by rw [h0]⟩
    · exact ⟨_, _, rfl⟩
  have hc0 := cell_blk h1.hp 0
  simp at hc0
  have HSame := hid (same_any w h1.n2 h1.hs h1.hr h1.hb rfl h1.hl)
  have H1 := hid h1
  have H2 := hid h2
  have H3 := hid h3
  have H4 := hid h4
  have H5 := hid h5
  have HWV := hid hwv
  have HK := hid hkv
  clear h1 h2 h3 h4 h5 hwv hkv
  go_enter Try.func24, Try.ntmps24
  go_wp2_with (go_at_call 78; refine HM.out.mono ?_; rintro e w' ⟨rfl, rfl⟩)
  refine HSame.out.mono ?_
  rintro e w1 ⟨sb', rb', bs', rfl, hb', hB⟩
  have HB := hid hB
  have HBl := hid hb'
  clear hB hb'
  go_wp2
  go_loopw [21] (fun k wr => ∃ j : Nat, k = .int .i64 (j : Int) ∧ j ≤ kept.length ∧
    Hid (DiskIn wr w1.heap.size sb' rb' bs' (.slice none 0 0) [] { L := (kept.take j).foldl (keepD d.wait) d.L, wait := [], steps := 0, fuse := -1, gone := false }) ∧ Hid (Ch (fun _ => False) w wr)) (fun k _ => kept.length - (intOf k).toNat)
  case atStart => exact ⟨0, rfl, Nat.zero_le _, hid (HB.out.disk HBl.out H1.out.n1 H1.out.n2 rfl), hid (HB.out.ch.alloc _)⟩
  case round =>
    obtain ⟨j, rfl, hj, HI, HC⟩ := hrel
    by_cases hlt : j < kept.length
    · obtain ⟨x, HX⟩ : ∃ x, Hid (kept[j]? = some x) := ⟨kept[j]'(by omega), hid (List.getElem?_eq_getElem _)⟩
      have hkk := HK.out.ch HC.out (fun _ _ h => h)
      obtain ⟨kb, koff, rfl, k1, k2, k3⟩ := hkk.get HX.out
      have hI1 := H1.out.frame (w' := wr) (fun k hk => HC.out.block k (H5.out k (H4.out k (H2.out k hk))) (fun h => h)) (fun y hy k hk => HC.out.block k (H5.out k (H3.out y hy k hk).1) (fun h => h))
      have hcp := cell_blk hI1.hp 1
      simp at hcp
      rw [HWV.out] at hcp
      have hpz := blk_lt hI1.hp
      have HI1 := hid hI1
      clear hI1 hkk
      obtain ⟨x1, x2⟩ := x
      by_cases hkr : 0 ≤ x1 ∧ x1 < ws.length
      · obtain ⟨q1, q2⟩ := hkr
        obtain ⟨i, rfl⟩ := Int.eq_ofNat_of_zero_le q1
        obtain ⟨y, HY⟩ : ∃ y, Hid (ws[i]? = some y) := ⟨ws[i]'(by omega), hid (List.getElem?_eq_getElem _)⟩
        obtain ⟨g, cap', hg, l1, l2⟩ := wait_cells HI1.out.hw HY.out
        rw [HWV.out] at hg
        simp at hg
        obtain ⟨rfl, rfl⟩ := hg
        have hgz := World.block_lt_of_cell? wr _ l1
        have hy := HI1.out.hwb y (List.mem_of_getElem? HY.out)
        obtain ⟨ya, yc, hyv, hyc⟩ := hy.1.form2
        rw [hy.2.1] at hyv hyc
        have hyc := hyc (by omega)
        rw [hyv] at l2
        have hcn := cell_blk HI.out.hp 0
        have hnz := blk_lt HI.out.hp
        simp at hcn
        have hyb : y.1 < bs'.length := by rw [HBl.out]; exact hy.2.2
        obtain ⟨z, HZ⟩ : ∃ z, Hid (bs'[y.1]? = some z) := ⟨bs'[y.1]'hyb, hid (List.getElem?_eq_getElem _)⟩
        obtain ⟨l, HLl⟩ : ∃ l, Hid (((kept.take j).foldl (keepD d.wait) d.L)[y.1]? = some l) := ⟨((kept.take j).foldl (keepD d.wait) d.L)[y.1]'(by rw [← HI.out.hb]; exact hyb), hid (List.getElem?_eq_getElem _)⟩
        have hsec := HI.out.hl y.1 z l HZ.out HLl.out
        have hzz : z.1 < wr.heap.size := by obtain ⟨_, _, cur, h3, _⟩ := hsec; exact blk_lt h3
        have hbts := hy.1
        rw [hyv] at hbts
        obtain ⟨N, HN, hN⟩ : ∃ N, Hid (N = min x2.toNat 512) ∧ N ≤ 512 := ⟨_, hid rfl, Nat.min_le_right _ _⟩
        have HPut : Hid (∀ W, W.heap = ((wr.alloc (.cells #[.int .i64 (i : Int), .int .i64 x2] 62)).alloc (.cells #[.int .i64 (y.1 : Int), .slice ya 512 yc] 124)).heap →
            Calls Try.prog 80 #[.pointer (some ⟨sb', 0, none⟩), .int .i64 (y.1 : Int), .slice ya N yc] W fun e w' => e = .returned (.tuple #[]) ∧ SecIn w' z (y.2.2.take N ++ l.drop N) ∧ Ch (fun k => k = z.1) W w') := hid (by
          intro W hW
          have old : ∀ {k : Nat} {o : Obj}, wr.heap[k]? = some o → W.heap[k]? = some o := by
            intro k o ho
            rw [hW]
            exact heap_old (heap_old ho _) _
          have same : ∀ k, k < wr.heap.size → W.heap[k]? = wr.heap[k]? := by
            intro k hk
            rw [hW, Below.heap_alloc _ _ _ (by simp; omega), Below.heap_alloc _ _ _ hk]
          have hml : (y.2.2.take N).length = N := by simp [hy.2.1]; omega
          have := put_any (y.1 : Int) W (old HI.out.hs) (old HI.out.hr) rfl (by rw [← HI.out.hb]; exact hyb) HZ.out (hsec.frame (same z.1 hzz)) (m := y.2.2.take N) (v := .slice ya N yc) (by omega)
            ((hbts.less hN).frame (fun k hk => same k (by
              have := HC.out.size
              have h9 := H5.out k (H3.out y (List.mem_of_getElem? HY.out) k (by rw [hyv]; cases ya with | none => simp [Value.ownBlock] at hk | some q => exact hk)).1
              omega))) HI.out.n2
          rw [hml] at this
          exact this)
        have HKeep : Hid ((kept.take (j + 1)).foldl (keepD d.wait) d.L = ((kept.take j).foldl (keepD d.wait) d.L).set y.1 (y.2.2.take N ++ l.drop N)) := hid (by
          rw [List.take_add_one, HX.out, Option.toList_some, List.foldl_append, List.foldl_cons, List.foldl_nil]
          have hw : d.wait[i]? = some (y.1, y.2.2) := by rw [show d.wait = ws.map _ from H1.out.hwl, List.getElem?_map, HY.out]; rfl
          have hwl : d.wait.length = ws.length := by rw [show d.wait = ws.map _ from H1.out.hwl, List.length_map]
          rw [keepD, if_pos (by rw [hwl]; exact ⟨q1, q2⟩)]
          simp only [Int.toNat_natCast, hw, ← HN.out]
          rw [List.getD, HLl.out]
          rfl)
        have fin : Hid (∀ W w2, W.heap = ((wr.alloc (.cells #[.int .i64 (i : Int), .int .i64 x2] 62)).alloc (.cells #[.int .i64 (y.1 : Int), .slice ya 512 yc] 124)).heap → Ch (fun _ => False) wr W →
            SecIn w2 z (y.2.2.take N ++ l.drop N) → Ch (fun k => k = z.1) W w2 →
            DiskIn w2 w1.heap.size sb' rb' bs' (.slice none 0 0) [] { L := (kept.take (j + 1)).foldl (keepD d.wait) d.L, wait := [], steps := 0, fuse := -1, gone := false } ∧ Ch (fun _ => False) w w2) := hid (by
          intro W w2 hW hch1 hs2 hch2
          rw [HKeep.out]
          have hm : ∀ k ∈ mine w1.heap.size sb' rb' bs' (.slice none 0 0), k < wr.heap.size := by
            intro k hk
            simp only [mine, blockList, Value.ownBlock, List.nil_append, List.mem_cons] at hk
            rcases hk with rfl | rfl | rfl | hk
            · exact blk_lt HI.out.hp
            · exact blk_lt HI.out.hs
            · exact blk_lt HI.out.hr
            · have := (HB.out.new k (by simp only [List.mem_cons]; exact .inr (.inr (by simpa using hk)))).2
              have h8 := blk_lt HI.out.hp
              omega
          have hW1 := HI.out.frame (w' := W) (fun k hk => hch1.block k (hm k hk) (fun h => h)) (by simp)
          refine ⟨hW1.sector y.1 z _ HZ.out hs2 (fun k hk hne => hch2.block k hk hne) (by simp), ?_⟩
          have hz9 := HB.out.new z.1 (by simp; exact .inr (.inr ⟨z.2, List.mem_of_getElem? HZ.out⟩))
          exact (HC.out.trans hch1).then hch2 (fun k hk e => by omega))
        clear hsec hy hyv hbts HKeep
        obtain ⟨X, hX⟩ : ∃ X : Int, (if 512 < x2 then 512 else x2) = X := ⟨_, rfl⟩
        have hXN : (if 0 < X then X else 0) = (N : Int) := by
          rw [HN.out, ← hX]
          split <;> split at * <;> omega
        have hNyc : (N : Int) ≤ (yc : Int) := by omega
        go_wp2
        refine region_reads (by kernel_rfl) (by kernel_rfl) ?_
        repeat still_step
        refine wpStill_nil ?_
        go_wp2
        go_region
        all_goals go_wp2
        all_goals refine region_tail 13 (by kernel_rfl) (by kernel_rfl) ?_
        all_goals simp only [List.take_succ_cons, List.take_zero, List.drop_succ_cons, List.drop_zero]
        all_goals repeat still_step
        all_goals refine wpStill_nil ?_
        all_goals go_wp2_with (go_at_call 80; refine (HPut.out _ (by rfl)).mono ?_; rintro e w2 ⟨rfl, hs2, hc2⟩; have HF := hid (fin.out _ _ (by rfl) (by exact ((((Ch.refl _ wr).alloc _).alloc _).drew).drew.drew) hs2 hc2); clear hs2 hc2)
        all_goals go_roundw
        all_goals first
          | (case rel => exact ⟨j + 1, by go_num, by omega, hid HF.out.1, hid HF.out.2⟩)
          | (case measure => simp [intOf]; omega)
      · have HKeep : Hid ((kept.take (j + 1)).foldl (keepD d.wait) d.L = (kept.take j).foldl (keepD d.wait) d.L) := hid (by
          rw [List.take_add_one, HX.out, Option.toList_some, List.foldl_append, List.foldl_cons, List.foldl_nil]
          have hwl : d.wait.length = ws.length := by rw [show d.wait = ws.map _ from H1.out.hwl, List.length_map]
          rw [keepD, if_neg (by rw [hwl]; exact hkr)])
        have fin : Hid (DiskIn (wr.alloc (.cells #[.int .i64 x1, .int .i64 x2] 62)).drew w1.heap.size sb' rb' bs' (.slice none 0 0) [] { L := (kept.take (j + 1)).foldl (keepD d.wait) d.L, wait := [], steps := 0, fuse := -1, gone := false } ∧
            Ch (fun _ => False) w (wr.alloc (.cells #[.int .i64 x1, .int .i64 x2] 62)).drew) := hid (by
          rw [HKeep.out]
          have hm : ∀ k ∈ mine w1.heap.size sb' rb' bs' (.slice none 0 0), k < wr.heap.size := by
            intro k hk
            simp only [mine, blockList, Value.ownBlock, List.nil_append, List.mem_cons] at hk
            rcases hk with rfl | rfl | rfl | hk
            · exact blk_lt HI.out.hp
            · exact blk_lt HI.out.hs
            · exact blk_lt HI.out.hr
            · have := (HB.out.new k (by simp only [List.mem_cons]; exact .inr (.inr (by simpa using hk)))).2
              have h8 := blk_lt HI.out.hp
              omega
          exact ⟨HI.out.frame (fun k hk => Below.heap_alloc _ _ _ (hm k hk)) (by simp), (HC.out.alloc _).drew⟩)
        clear HKeep
        by_cases h0 : 0 ≤ x1
        · have h9 : ¬ x1 < ws.length := fun h => hkr ⟨h0, h⟩
          clear hkr
          go_wp2
          refine region_reads (by kernel_rfl) (by kernel_rfl) ?_
          repeat still_step
          refine wpStill_nil ?_
          go_wp2
          go_roundw
          case rel => exact ⟨j + 1, by go_num, by omega, hid fin.out.1, hid fin.out.2⟩
          case measure => simp [intOf]; omega
        · have hd : decide (0 ≤ x1) = false := decide_eq_false h0
          clear hkr
          go_wp2
          go_quiet (fail)
          go_wp2
          go_roundw
          case rel => exact ⟨j + 1, by go_num, by omega, hid (fin.out.1.frame (fun _ _ => rfl) (by simp)), hid (⟨fin.out.2.os, fin.out.2.tape, fin.out.2.output, fin.out.2.size, fin.out.2.block⟩)⟩
          case measure => simp [intOf]; omega
    · obtain rfl : j = kept.length := by omega
      go_wp2
      go_ret
      have hI := HI.out
      rw [List.take_of_length_le (Nat.le_refl _)] at hI
      have hz := HC.out.size
      have hz1 := HB.out.ch.size
      refine ⟨w1.heap.size, fun k => w.heap.size ≤ k ∧ k < wr.heap.size, rfl, ⟨sb', rb', bs', .slice none 0 0, [], hI, ?_, by simp, fun _ h => h, fun k hk => hk.2⟩, HC.out, fun k hk => hk.1⟩
      intro k hk
      simp only [mine, blockList, Value.ownBlock, List.nil_append, List.mem_cons] at hk
      rcases hk with rfl | rfl | rfl | hk
      · exact ⟨hz1, blk_lt hI.hp⟩
      · exact ⟨(HB.out.new _ (by simp)).1, blk_lt hI.hs⟩
      · exact ⟨(HB.out.new _ (by simp)).1, blk_lt hI.hr⟩
      · have h7 := HB.out.new k (by simp only [List.mem_cons]; exact .inr (.inr (by simpa using hk)))
        have h8 := blk_lt hI.hp
        exact ⟨h7.1, by omega⟩
end

section
open Go.RowKit

theorem no1_any (x : Int) (w : World) : Calls Try.prog 22 #[.int .i64 x] w fun e w' => e = .returned (.int .i64 x) ∧ w = w' := by
  go_enter Try.func22, Try.ntmps22
  go_wp2
  go_ret
  exact ⟨rfl, rfl⟩

/-- A sector of one byte. -/
def ofB (c : UInt8) : List UInt8 := List.replicate 512 c
theorem ofB_length (c : UInt8) : (ofB c).length = 512 := List.length_replicate

set_option maxRecDepth 20000 in
theorem of_any (c : UInt8) (w : World) : Calls Try.prog 26 #[.int .u8 (c.toNat : Int)] w fun e w' => e = .returned (.slice (some ⟨w.heap.size, 0, none⟩) 512 512) ∧
    SecIn w' (w.heap.size, 512) (ofB c) ∧ Ch (fun _ => False) w w' := by
  have hmk := make_blank w
  go_enter Try.func26, Try.ntmps26
  go_wp2
  go_loopw [8] (fun k wr => ∃ j : Nat, k = .int .i64 (j : Int) ∧ j ≤ 512 ∧ Hid (wr.heap[w.heap.size]? = some (.cells (bcells (List.replicate j c ++ zeros (512 - j))).toArray 5 (0, 0))) ∧ Hid (Ch (fun _ => False) w wr)) (fun k _ => 512 - (intOf k).toNat)
  case atStart =>
    refine ⟨0, rfl, by omega, hid ?_, hid ((Ch.refl _ w).alloc _)⟩
    rw [heap_new]
    rfl
  case round =>
    obtain ⟨j, rfl, hj, HC, HCh⟩ := hrel
    have hcj := cell_blk HC.out j
    have hfj := frozen_blk HC.out j
    by_cases hlt : j < 512
    · rw [List.getElem?_toArray, bcells_get _ j (by simp [zeros_length]; omega)] at hcj
      go_wp2
      go_roundw
      case rel =>
        refine ⟨j + 1, by go_num, by omega, hid ?_, hid (HCh.out.setCell (fun h => by simp at h) _)⟩
        rw [heap_set HC.out, bcells_set]
        congr 4
        refine List.ext_getElem? fun i => ?_
        rw [List.getElem?_set]
        simp only [List.getElem?_append, List.length_replicate, List.getElem?_replicate, zeros]
        split <;> (try split) <;> (try split) <;> (try split) <;> (try omega) <;> simp_all <;> omega
      case measure => simp [intOf]; omega
    · obtain rfl : j = 512 := by omega
      go_wp2
      go_ret
      refine ⟨rfl, ⟨ofB_length c, Nat.le_refl _, _, HC.out, ?_, ?_⟩, HCh.out⟩
      · rw [List.size_toArray, bcells_length, List.length_append, List.length_replicate, zeros_length]; omega
      · show (bcells (ofB c ++ zeros (512 - 512))).take 512 = _
        rw [bcells_append, ← bcells_length (ofB c) |>.trans (ofB_length c), List.take_left]
end

section
open Go.RowKit

def aD0 : Dk := { L := List.replicate 4 (zeros 512), wait := [], steps := 0, fuse := -1, gone := false }
def aD1 : Dk := { L := List.replicate 4 (zeros 512), wait := [(1, ofB 120)], steps := 1, fuse := -1, gone := false }
def aC : List UInt8 := [120, 120, 120] ++ zeros 509
theorem a_write : writeD aD0 1 (ofB 120) = (0, aD1) := by
  rw [writeD, if_neg (by rw [ofB_length]; omega), if_neg (by simp [aD0])]
  rfl
theorem a_read : readD aD1 1 = (0, ofB 120) := by
  rw [readD, if_neg (by simp [aD1]), if_neg (by simp [aD1])]
  rfl
theorem a_readb : readD (crashD aD1 []) 1 = (0, zeros 512) := by
  rw [readD, if_neg (by simp [aD1, crashD]), if_neg (by simp [crashD])]
  rfl
theorem a_crash : (crashD aD1 [(0, 3)]).L = [zeros 512, aC, zeros 512, zeros 512] := by
  have h1 : (ofB 120).take (min (Int.toNat 3) 512) = [120, 120, 120] := by rw [ofB, List.take_replicate]; rfl
  have h2 : (zeros 512).drop (min (Int.toNat 3) 512) = zeros 509 := by rw [zeros, List.drop_replicate]; rfl
  show [(0, 3)].foldl (keepD aD1.wait) aD1.L = _
  rw [List.foldl_cons, List.foldl_nil, keepD, if_pos (by simp [aD1])]
  show List.set (List.replicate 4 (zeros 512)) 1 ((ofB 120).take (min (Int.toNat 3) 512) ++ (zeros 512).drop (min (Int.toNat 3) 512)) = _
  rw [h1, h2]
  rfl
theorem a_readc : readD (crashD aD1 [(0, 3)]) 1 = (0, aC) := by
  have hw : (crashD aD1 [(0, 3)]).wait = [] := rfl
  rw [readD, a_crash, hw, if_neg (by simp), if_neg (by simp [crashD])]
  rfl
theorem a_flush : (flushD (fuseD aD1 0)).1 = 9 := by
  rw [flushD, stepD_no (by right; rfl), if_pos rfl]
theorem aC_length : aC.length = 512 := by simp [aC, zeros_length]

/-- The bytes from some on. -/
theorem Bts.from {w : World} {b off n cap k : Nat} {l : List UInt8} (h : Bts w (.slice (some ⟨b, off, none⟩) n cap) l) (hk : k ≤ n) : Bts w (.slice (some ⟨b, off + k, none⟩) (n - k) (cap - k)) (l.drop k) := by
  rcases h with ⟨a, c, e, rfl⟩ | ⟨b', off', cap', cs, e, fz, h, hcap, hb, hc⟩
  · cases e
    exact .inl ⟨_, _, by rw [Nat.zero_sub], by simp⟩
  · cases h
    refine .inr ⟨b, off + k, cap - k, cs, e, fz, by simp, by simp; omega, hb, fun j hj => ?_⟩
    simp at hj
    rw [Nat.add_assoc, hc (k + j) (by omega)]
    simp

/-- What alive's last statement leans on. -/
def AliveS (p : Nat) (v4 v6 v8 : Value) (w W : World) : Prop :=
  ∃ d M F, DiskAt W p d M F ∧ (flushD d).1 = 9 ∧ (d.gone = true ∨ d.fuse = 0) ∧ d.steps ≤ 1000000 ∧ d.wait.length ≤ 1000000 ∧ (∀ k, M k → w.heap.size ≤ k) ∧
    (Bts W v4 (ofB 120) ∧ ∀ k, v4.ownBlock = some k → ¬ M k) ∧ (Bts W v6 (zeros 512) ∧ ∀ k, v6.ownBlock = some k → ¬ M k) ∧ (Bts W v8 aC ∧ ∀ k, v8.ownBlock = some k → ¬ M k) ∧ Ch (fun _ => False) w W
def AliveT (p : Nat) (v4 v6 v8 : Value) (w W : World) : Prop :=
  (convert 35 9 v4).run Try.prog W = .ok (.string ⟨(ofB 120).toArray⟩) W ∧ (convert 35 9 v6).run Try.prog W = .ok (.string ⟨(zeros 512).toArray⟩) W ∧ (convert 35 9 v8).run Try.prog W = .ok (.string ⟨aC.toArray⟩) W ∧ AliveS p v4 v6 v8 w W
theorem AliveS.all {p : Nat} {v4 v6 v8 : Value} {w W : World} (h : AliveS p v4 v6 v8 w W) : AliveT p v4 v6 v8 w W := by
  have h0 := h
  obtain ⟨d, M, F, h1, h2, h3, h4, h5, h6, h7, h8, h9, h10⟩ := h
  exact ⟨str_of h7.1, str_of h8.1, str_of h9.1, h0⟩
theorem AliveS.still {p : Nat} {v4 v6 v8 : Value} {w W W' : World} (h : AliveS p v4 v6 v8 w W) (hc : Ch (fun _ => False) W W') : AliveT p v4 v6 v8 w W' := by
  obtain ⟨d, M, F, h1, h2, h3, h4, h5, h6, h7, h8, h9, h10⟩ := h
  exact AliveS.all ⟨d, M, F, h1.ch hc (fun _ _ h => h), h2, h3, h4, h5, h6, ⟨h7.1.ch hc (fun _ _ h => h), h7.2⟩, ⟨h8.1.ch hc (fun _ _ h => h), h8.2⟩, ⟨h9.1.ch hc (fun _ _ h => h), h9.2⟩, h10.trans hc⟩
theorem AliveS.flush {p : Nat} {v4 v6 v8 : Value} {w W : World} (h : AliveS p v4 v6 v8 w W) : Calls Try.prog 23 #[.pointer (some ⟨p, 0, none⟩)] W fun e w' => e = .returned (.int .i64 9) ∧ AliveT p v4 v6 v8 w w' := by
  obtain ⟨d, M, F, h1, h2, h3, h4, h5, h6, h7, h8, h9, h10⟩ := h
  refine (flush_any W h1 h4 h5).mono ?_
  rintro e w' ⟨rfl, hd, hc⟩
  rw [h2]
  have e1 : (flushD d).2 = { d with gone := true } := by rw [flushD, stepD_no h3, if_pos rfl]
  rw [e1] at hd
  refine ⟨rfl, AliveS.all ⟨_, M, F, hd, ?_, .inl rfl, h4, h5, h6, ⟨h7.1.ch hc h7.2, h7.2⟩, ⟨h8.1.ch hc h8.2, h8.2⟩, ⟨h9.1.ch hc h9.2, h9.2⟩, h10.then hc (fun i hi h => by have := h6 i h; omega)⟩⟩
  rw [flushD, stepD_no (.inl rfl), if_pos rfl]
/-- In an alive's world: a sector of one byte, and what its bytes read as. -/
theorem AliveS.of {p : Nat} {v4 v6 v8 : Value} {w W : World} (h : AliveS p v4 v6 v8 w W) (c : UInt8) : Calls Try.prog 26 #[.int .u8 (c.toNat : Int)] W fun e w' => e = .returned (.slice (some ⟨W.heap.size, 0, none⟩) 512 512) ∧
    AliveT p v4 v6 v8 w w' ∧ (convert 35 9 (.slice (some ⟨W.heap.size, 0, none⟩) 512 512)).run Try.prog w' = .ok (.string ⟨(ofB c).toArray⟩) w' ∧
    (convert 35 9 (.slice (some ⟨W.heap.size, 3, none⟩) 509 509)).run Try.prog w' = .ok (.string ⟨((ofB c).drop 3).toArray⟩) w' := by
  refine (of_any c W).mono ?_
  rintro e w' ⟨rfl, hs, hc⟩
  exact ⟨rfl, h.still hc, str_of hs.bts, str_of (by simpa using Bts.from (k := 3) hs.bts (by omega))⟩

theorem lay_all : (∀ (a : Act) (d : Nat) (v : Value), a.put (some d) v = { a with tmps := a.tmps.setIfInBounds d v }) ∧
    (∀ {α : Type} (l : List α) (i : Nat) (v : α), l.toArray.setIfInBounds i v = (l.set i v).toArray) ∧ (∀ {α : Type} (a b : α) (l : List α), (a :: l).set 0 b = b :: l) ∧
    (∀ {α : Type} (a b : α) (l : List α) (n : Nat), (a :: l).set (n + 1) b = a :: l.set n b) ∧
    (∀ {α : Type} (l : List α) (i : Nat) (h : i < l.toArray.size), l.toArray[i] = l[i]'(by simpa using h)) ∧ (∀ {α : Type} (a : α) (l : List α) (h : 0 < (a :: l).length), (a :: l)[0] = a) ∧
    (∀ {α : Type} (a : α) (l : List α) (n : Nat) (h : n + 1 < (a :: l).length), (a :: l)[n + 1] = l[n]'(by simpa using h)) :=
  ⟨fun _ _ _ => rfl, fun l i v => by simp, fun _ _ _ => rfl, fun _ _ _ _ => rfl, fun _ _ _ => by simp, fun _ _ _ => rfl, fun _ _ _ _ => rfl⟩

set_option maxRecDepth 100000 in
set_option maxHeartbeats 1000000 in
theorem alive1 (w : World) : Calls Try.prog 21 #[] w fun e w' => e = .returned (.bool true) ∧ Ch (fun _ => False) w w' := by
  go_enter Try.func21, Try.ntmps21
  go_wp2_with fail
  refine (new_ok 4 _ (by omega) (by omega)).mono ?_
  rintro e w1 ⟨p, M, rfl, hD, c1, m1⟩
  have HD : Hid (DiskAt w1 p aD0 M M) := hid hD
  have HM := hid m1
  have HC := hid c1
  clear hD c1 m1
  go_wp2_with (go_at_call 22; refine (no1_any _ _).mono ?_; rintro e w' ⟨rfl, rfl⟩)
  refine (of_any 120 _).mono ?_
  rintro e w2 ⟨rfl, hs2, c2⟩
  have HB2 := hid hs2.bts
  have HD2 := hid (HD.out.ch c2 (fun _ _ h => h))
  have HC2 := hid (HC.out.trans c2)
  have hlt : ∀ k, M k → k < w1.heap.size := by obtain ⟨_, _, _, _, _, _, _, _, _, h5⟩ := HD.out; exact h5
  have hm2 : ∀ k, (secV (w1.heap.size, 512)).ownBlock = some k → ¬ M k := fun k hk hm => by
    have := hlt k hm
    obtain rfl : w1.heap.size = k := by simpa [secV, Value.ownBlock] using hk
    omega
  have HL := hid hm2
  clear hs2 c2 hlt hm2
  go_wp2_with fail
  refine (write_any 1 _ 512 512 (ofB 120) _ HD2.out (by decide) (by decide) HB2.out (ofB_length _) HL.out).mono ?_
  rintro e w3 ⟨he, M3, F3, hD3, hm3, hf3, c3⟩
  rw [a_write] at he hD3
  subst he
  have HD3 := hid hD3
  have HM3 : Hid (∀ k, M3 k → w.heap.size ≤ k) := hid (fun k hk => by
    rcases hm3 k hk with h | h
    · exact HM.out k h
    · exact Nat.le_trans HC2.out.size h)
  have HZ3 : Hid (∀ k, M3 k → k < w3.heap.size) := hid (by obtain ⟨_, _, _, _, _, _, _, _, h4, h5⟩ := hD3; exact fun k hk => h5 k (h4 k hk))
  have HC3 := hid (HC2.out.then c3 (fun i hi h => by have := HM.out i h; omega))
  clear hD3 hm3 hf3 c3 HD2 HD HL HB2 HC HC2
  go_wp2_with (go_at_call 22; refine (no1_any _ _).mono ?_; rintro e w' ⟨rfl, rfl⟩)
  refine (read_any 1 _ HD3.out (by decide)).mono ?_
  rintro e w4 ⟨v4, he, hb4, c4, n4, -⟩
  rw [a_read] at he hb4
  subst he
  have HB4 := hid hb4
  have HD4 := hid (HD3.out.ch c4 (fun _ _ h => h))
  have HC4 := hid (HC3.out.trans c4)
  have HN4 : Hid (∀ k, v4.ownBlock = some k → ¬ M3 k) := hid (fun k hk hm => by have := n4 k hk; have := HZ3.out k hm; omega)
  have HZ4 : Hid (∀ k, M3 k → k < w4.heap.size) := hid (fun k hm => Nat.lt_of_lt_of_le (HZ3.out k hm) c4.size)
  clear hb4 c4 HD3 HC3 n4 HZ3
  go_wp2_with fail
  refine (crash_any none 0 [] _ HD4.out (by decide) (by decide) (.inl ⟨_, _, rfl, rfl⟩)).mono ?_
  rintro e w5 ⟨p5, M5, rfl, hD5, c5, m5⟩
  have HB5 := hid (HB4.out.ch c5 (fun _ _ h => h))
  have HD5 := hid (HD4.out.ch c5 (fun _ _ h => h))
  have HC5 := hid (HC4.out.trans c5)
  have HE5 := hid hD5
  have HZ5 : Hid (∀ k, M3 k → k < w5.heap.size) := hid (fun k hm => Nat.lt_of_lt_of_le (HZ4.out k hm) c5.size)
  clear hD5 c5 m5 HB4 HD4 HC4
  go_wp2_with fail
  refine (read_any 1 _ HE5.out (by decide)).mono ?_
  rintro e w6 ⟨v6, he, hb6, c6, n6, -⟩
  rw [a_readb] at he hb6
  subst he
  have HB6 := hid hb6
  have HA6 := hid (HB5.out.ch c6 (fun _ _ h => h))
  have HD6 := hid (HD5.out.ch c6 (fun _ _ h => h))
  have HC6 := hid (HC5.out.trans c6)
  have HN6 : Hid (∀ k, v6.ownBlock = some k → ¬ M3 k) := hid (fun k hk hm => by have := n6 k hk; have := HZ5.out k hm; omega)
  have HZ6 : Hid (∀ k, M3 k → k < w6.heap.size) := hid (fun k hm => Nat.lt_of_lt_of_le (HZ5.out k hm) c6.size)
  clear hb6 c6 HB5 HD5 HC5 HE5 n6 HZ5 HZ4
  go_wp2_with fail
  refine (crash_any (some ⟨w6.heap.size, 0, none⟩) 1 [(0, 3)] _ (HD6.out.ch ((Ch.refl (fun _ => False) _).alloc _) (fun _ _ h => h)) (by decide) (by decide)
    (.inr ⟨w6.heap.size, 0, 1, _, 62, (0, 0), rfl, heap_new _, fun j x hx => by cases j with | zero => (simp at hx; subst hx; exact ⟨rfl, rfl⟩) | succ j => simp at hx⟩)).mono ?_
  rintro e w7 ⟨p7, M7, rfl, hD7, c7, m7⟩
  have c67 := ((Ch.refl (fun _ => False) w6).alloc (.cells #[.int .i64 0, .int .i64 3] 62)).trans c7
  have HA7 := hid (HA6.out.ch c67 (fun _ _ h => h))
  have HB7 := hid (HB6.out.ch c67 (fun _ _ h => h))
  have HD7 := hid (HD6.out.ch c67 (fun _ _ h => h))
  have HC7 := hid (HC6.out.trans c67)
  have HE7 := hid hD7
  have HZ7 : Hid (∀ k, M3 k → k < w7.heap.size) := hid (fun k hm => Nat.lt_of_lt_of_le (HZ6.out k hm) c67.size)
  clear hD7 c7 m7 c67 HA6 HB6 HD6 HC6 HZ6
  go_wp2_with fail
  refine (read_any 1 _ HE7.out (by decide)).mono ?_
  rintro e w8 ⟨v8, he, hb8, c8, n8, -⟩
  rw [a_readc] at he hb8
  subst he
  have HG8 := hid hb8
  have HA8 := hid (HA7.out.ch c8 (fun _ _ h => h))
  have HB8 := hid (HB7.out.ch c8 (fun _ _ h => h))
  have HD8 := hid (HD7.out.ch c8 (fun _ _ h => h))
  have HC8 := hid (HC7.out.trans c8)
  have HN8 : Hid (∀ k, v8.ownBlock = some k → ¬ M3 k) := hid (fun k hk hm => by have := n8 k hk; have := HZ7.out k hm; omega)
  clear hb8 c8 HA7 HB7 HD7 HC7 HE7 n8 HZ7
  go_wp2_with fail
  refine (fuse_any 0 _ (by omega) HD8.out).mono ?_
  rintro e w9 ⟨rfl, hD9, c9⟩
  have HS : Hid (AliveS p v4 v6 v8 w w9) := hid ⟨_, _, _, hD9, a_flush, .inr rfl, by decide, by decide, HM3.out, ⟨HA8.out.ch c9 HN4.out, HN4.out⟩, ⟨HB8.out.ch c9 HN6.out, HN6.out⟩, ⟨HG8.out.ch c9 HN8.out, HN8.out⟩,
    HC8.out.then c9 (fun i hi h => by have := HM3.out i h; omega)⟩
  clear hD9 c9 HA8 HB8 HG8 HD8 HC8 HM HM3 HN4 HN6 HN8
  have HT : Hid (AliveT p v4 v6 v8 w w9.drew) := hid (HS.out.still (Ch.refl _ _).drew)
  clear HS
  go_wp2
  obtain ⟨s4, h4⟩ : ∃ s, s = (⟨(ofB 120).toArray⟩ : ByteArray) := ⟨_, rfl⟩
  obtain ⟨s6, h6⟩ : ∃ s, s = (⟨(zeros 512).toArray⟩ : ByteArray) := ⟨_, rfl⟩
  obtain ⟨s8, h8⟩ : ∃ s, s = (⟨aC.toArray⟩ : ByteArray) := ⟨_, rfl⟩
  obtain ⟨s9, h9⟩ : ∃ s, s = (⟨((ofB 0).drop 3).toArray⟩ : ByteArray) := ⟨_, rfl⟩
  have h46 : s6 = ⟨(ofB 0).toArray⟩ := h6
  have b4 : (s4.toList == s4.toList) = true := beq_str_eq rfl
  have b6 : (s6.toList == s6.toList) = true := beq_str_eq rfl
  have b8 : (s8.toList == ((⟨#[120, 120, 120]⟩ : ByteArray) ++ s9).toList) = true := beq_str_eq (by
    rw [h8, h9]; simp [aC, ofB, zeros])
  have hz9 : s9.size = 509 := by rw [h9]; simp [ByteArray.size, ofB_length]
  have HSS : Hid (∀ W, AliveT p v4 v6 v8 w W → (convert 35 9 v4).run Try.prog W = .ok (.string s4) W ∧ (convert 35 9 v6).run Try.prog W = .ok (.string s6) W ∧ (convert 35 9 v8).run Try.prog W = .ok (.string s8) W ∧ AliveS p v4 v6 v8 w W) := hid (by
    rw [h4, h6, h8]; exact fun W h => h)
  have HO : Hid (∀ W (x : Int), ((convert 35 9 v4).run Try.prog W = .ok (.string s4) W ∧ (convert 35 9 v6).run Try.prog W = .ok (.string s6) W ∧ (convert 35 9 v8).run Try.prog W = .ok (.string s8) W ∧ AliveS p v4 v6 v8 w W) → x = 120 ∨ x = 0 → Calls Try.prog 26 #[.int .u8 x] W fun e w' => ∃ n, e = .returned (.slice (some ⟨n, 0, none⟩) 512 512) ∧ AliveT p v4 v6 v8 w w' ∧
      (x = 120 → (convert 35 9 (.slice (some ⟨n, 0, none⟩) 512 512)).run Try.prog w' = .ok (.string s4) w') ∧
      (x = 0 → (convert 35 9 (.slice (some ⟨n, 0, none⟩) 512 512)).run Try.prog w' = .ok (.string s6) w') ∧
      (x = 0 → (convert 35 9 (.slice (some ⟨n, 3, none⟩) 509 509)).run Try.prog w' = .ok (.string s9) w')) := hid (by
    rintro W x h (rfl | rfl)
    · refine (h.2.2.2.of 120).mono fun e w' h => ⟨_, h.1, h.2.1, fun _ => ?_, fun h => by omega, fun h => by omega⟩
      rw [h4]; exact h.2.2.1
    · refine (h.2.2.2.of 0).mono fun e w' h => ⟨_, h.1, h.2.1, fun h => by omega, fun _ => ?_, fun _ => ?_⟩
      · rw [h46]; exact h.2.2.1
      · rw [h9]; exact h.2.2.2)
  have HFl : Hid (∀ W, ((convert 35 9 v4).run Try.prog W = .ok (.string s4) W ∧ (convert 35 9 v6).run Try.prog W = .ok (.string s6) W ∧ (convert 35 9 v8).run Try.prog W = .ok (.string s8) W ∧ AliveS p v4 v6 v8 w W) → Calls Try.prog 23 #[.pointer (some ⟨p, 0, none⟩)] W fun e w' => e = .returned (.int .i64 9) ∧ AliveT p v4 v6 v8 w w') := hid (fun W h => h.2.2.2.flush)
  clear h4 h6 h8 h9 h46
  refine wp_region_noPanic ?_
  refine wp_region_held_drew (S := (fun W => (convert 35 9 v4).run Try.prog W = .ok (.string s4) W ∧ (convert 35 9 v6).run Try.prog W = .ok (.string s6) W ∧ (convert 35 9 v8).run Try.prog W = .ok (.string s8) W ∧ AliveS p v4 v6 v8 w W)) (by kernel_rfl) (HSS.out _ HT.out) (fun hHeld => ?_)
  refine wpAnyH_take (i := 0) (v := ?_) rfl (by kernel_rfl) (by kernel_rfl) (by kernel_rfl) (fun _ _ _ h => h) (Or.inl ⟨by rfl, ?_⟩) (by assumption) ?_
  rotate_left
  · intro w hSw
    try dsimp only at hSw
    go_simp
    all_goals with_reducible rfl
  try simp only [lay_all]
  refine wpAnyH_take (i := 2) (v := ?_) rfl (by kernel_rfl) (by kernel_rfl) (by kernel_rfl) (fun _ _ _ h => h) (Or.inl ⟨by rfl, ?_⟩) (by assumption) ?_
  rotate_left
  · intro w hSw
    try dsimp only at hSw
    go_simp
    all_goals with_reducible rfl
  try simp only [lay_all]
  refine wpAnyH_take (i := 5) (v := ?_) rfl (by kernel_rfl) (by kernel_rfl) (by kernel_rfl) (fun _ _ _ h => h) (Or.inl ⟨by rfl, ?_⟩) (by assumption) ?_
  rotate_left
  · intro w hSw
    try dsimp only at hSw
    go_simp
    all_goals with_reducible rfl
  try simp only [lay_all]
  refine wpAnyH_ready (rs := [1]) (by kernel_rfl) (by simp) ?_
  refine AllReadyH.cons rfl (fun K hK => ?_) AllReadyH.nil
  go_simp
  refine (no1_any _ _).mono ?_
  rintro e w' ⟨rfl, rfl⟩
  go_wp2_with fail
  refine hK.out _ _ ?_ (fun hHeld => ?_)
  · first | exact HSS.out _ HT.out | exact HSS.out _ hT | assumption
  clear hK K
  try simp only [lay_all]
  refine wpAnyH_ready (rs := [3]) (by kernel_rfl) (by simp) ?_
  refine AllReadyH.cons rfl (fun K hK => ?_) AllReadyH.nil
  go_simp
  refine (no1_any _ _).mono ?_
  rintro e w' ⟨rfl, rfl⟩
  go_wp2_with fail
  refine hK.out _ _ ?_ (fun hHeld => ?_)
  · first | exact HSS.out _ HT.out | exact HSS.out _ hT | assumption
  clear hK K
  try simp only [lay_all]
  refine wpAnyH_take (i := 4) (v := ?_) rfl (by kernel_rfl) (by kernel_rfl) (by kernel_rfl) (fun _ _ _ h => h) (Or.inl ⟨by rfl, ?_⟩) (by assumption) ?_
  rotate_left
  · intro w hSw
    try dsimp only at hSw
    go_simp
    all_goals with_reducible rfl
  try simp only [lay_all]
  refine wpAnyH_ready (rs := [6]) (by kernel_rfl) (by simp) ?_
  refine AllReadyH.cons rfl (fun K hK => ?_) AllReadyH.nil
  go_simp
  refine (no1_any _ _).mono ?_
  rintro e w' ⟨rfl, rfl⟩
  go_wp2_with fail
  refine hK.out _ _ ?_ (fun hHeld => ?_)
  · first | exact HSS.out _ HT.out | exact HSS.out _ hT | assumption
  clear hK K
  try simp only [lay_all]
  refine wpAnyH_take (i := 7) (v := ?_) rfl (by kernel_rfl) (by kernel_rfl) (by kernel_rfl) (fun _ _ _ h => h) (Or.inl ⟨by rfl, ?_⟩) (by assumption) ?_
  rotate_left
  · intro w hSw
    try dsimp only at hSw
    go_simp
    all_goals with_reducible rfl
  try simp only [lay_all]
  refine wpAnyH_take (i := 8) (v := ?_) rfl (by kernel_rfl) (by kernel_rfl) (by kernel_rfl) (fun _ _ _ h => h) (Or.inl ⟨by rfl, ?_⟩) (by assumption) ?_
  rotate_left
  · intro w hSw
    try dsimp only at hSw
    go_simp
    all_goals with_reducible rfl
  try simp only [lay_all]
  refine wpAnyH_take (i := 9) (v := ?_) rfl (by kernel_rfl) (by kernel_rfl) (by kernel_rfl) (fun _ _ _ h => h) (Or.inl ⟨by rfl, ?_⟩) (by assumption) ?_
  rotate_left
  · intro w hSw
    try dsimp only at hSw
    go_simp
    all_goals with_reducible rfl
  try simp only [lay_all]
  refine wpAnyH_take (i := 10) (v := ?_) rfl (by kernel_rfl) (by kernel_rfl) (by kernel_rfl) (fun _ _ _ h => h) (Or.inl ⟨by rfl, ?_⟩) (by assumption) ?_
  rotate_left
  · intro w hSw
    try dsimp only at hSw
    go_simp
    all_goals with_reducible rfl
  try simp only [lay_all]
  refine wpAnyH_take (i := 11) (v := ?_) rfl (by kernel_rfl) (by kernel_rfl) (by kernel_rfl) (fun _ _ _ h => h) (Or.inl ⟨by rfl, ?_⟩) (by assumption) ?_
  rotate_left
  · intro w hSw
    try dsimp only at hSw
    go_simp
    all_goals with_reducible rfl
  try simp only [lay_all]
  refine wpAnyH_ready (rs := [12]) (by kernel_rfl) (by simp) ?_
  refine AllReadyH.cons rfl (fun K hK => ?_) AllReadyH.nil
  go_simp
  refine (HO.out _ _ (by assumption) (by decide)).mono ?_
  rintro e w' ⟨n, rfl, hT, hx, -, -⟩
  have hcv := hx rfl
  clear hx
  go_wp2_with fail
  refine hK.out _ _ ?_ (fun hHeld => ?_)
  · first | exact HSS.out _ HT.out | exact HSS.out _ hT | assumption
  clear hK K
  try simp only [lay_all]
  refine wpAnyH_ready (rs := [13]) (by kernel_rfl) (by simp) ?_
  refine AllReadyH.cons rfl (fun K hK => ?_) AllReadyH.nil
  go_simp
  refine hK.out _ _ ?_ (fun hHeld => ?_)
  · first | exact HSS.out _ HT.out | exact HSS.out _ hT | assumption
  clear hK K
  try simp only [lay_all]
  refine wpAnyH_take (i := 14) (v := ?_) rfl (by kernel_rfl) (by kernel_rfl) (by kernel_rfl) (fun _ _ _ h => h) (Or.inl ⟨by rfl, ?_⟩) (by assumption) ?_
  rotate_left
  · intro w hSw
    try dsimp only at hSw
    go_simp
    all_goals with_reducible rfl
  try simp only [lay_all]
  refine wpAnyH_take (i := 15) (v := ?_) rfl (by kernel_rfl) (by kernel_rfl) (by kernel_rfl) (fun _ _ _ h => h) (Or.inl ⟨by rfl, ?_⟩) (by assumption) ?_
  rotate_left
  · intro w hSw
    try dsimp only at hSw
    go_simp
    all_goals with_reducible rfl
  try simp only [lay_all]
  refine wpAnyH_take (i := 16) (v := ?_) rfl (by kernel_rfl) (by kernel_rfl) (by kernel_rfl) (fun _ _ _ h => h) (Or.inl ⟨by rfl, ?_⟩) (by assumption) ?_
  rotate_left
  · intro w hSw
    try dsimp only at hSw
    go_simp
    all_goals with_reducible rfl
  try simp only [lay_all]
  refine wpAnyH_take (i := 17) (v := ?_) rfl (by kernel_rfl) (by kernel_rfl) (by kernel_rfl) (fun _ _ _ h => h) (Or.inl ⟨by rfl, ?_⟩) (by assumption) ?_
  rotate_left
  · intro w hSw
    try dsimp only at hSw
    go_simp
    all_goals with_reducible rfl
  try simp only [lay_all]
  refine wpAnyH_take (i := 18) (v := ?_) rfl (by kernel_rfl) (by kernel_rfl) (by kernel_rfl) (fun _ _ _ h => h) (Or.inl ⟨by rfl, ?_⟩) (by assumption) ?_
  rotate_left
  · intro w hSw
    try dsimp only at hSw
    go_simp
    all_goals with_reducible rfl
  try simp only [lay_all]
  refine wpAnyH_ready (rs := [19]) (by kernel_rfl) (by simp) ?_
  refine AllReadyH.cons rfl (fun K hK => ?_) AllReadyH.nil
  go_simp
  refine (HO.out _ _ (by assumption) (by decide)).mono ?_
  rintro e w' ⟨n, rfl, hT, -, hx, hy⟩
  have hcv := hx rfl
  have hcv2 := hy rfl
  clear hx hy
  go_wp2_with fail
  refine hK.out _ _ ?_ (fun hHeld => ?_)
  · first | exact HSS.out _ HT.out | exact HSS.out _ hT | assumption
  clear hK K
  try simp only [lay_all]
  refine wpAnyH_ready (rs := [20]) (by kernel_rfl) (by simp) ?_
  refine AllReadyH.cons rfl (fun K hK => ?_) AllReadyH.nil
  go_simp
  refine hK.out _ _ ?_ (fun hHeld => ?_)
  · first | exact HSS.out _ HT.out | exact HSS.out _ hT | assumption
  clear hK K
  try simp only [lay_all]
  refine wpAnyH_take (i := 21) (v := ?_) rfl (by kernel_rfl) (by kernel_rfl) (by kernel_rfl) (fun _ _ _ h => h) (Or.inl ⟨by rfl, ?_⟩) (by assumption) ?_
  rotate_left
  · intro w hSw
    try dsimp only at hSw
    go_simp
    all_goals with_reducible rfl
  try simp only [lay_all]
  refine wpAnyH_take (i := 22) (v := ?_) rfl (by kernel_rfl) (by kernel_rfl) (by kernel_rfl) (fun _ _ _ h => h) (Or.inl ⟨by rfl, ?_⟩) (by assumption) ?_
  rotate_left
  · intro w hSw
    try dsimp only at hSw
    go_simp
    all_goals with_reducible rfl
  try simp only [lay_all]
  refine wpAnyH_take (i := 23) (v := ?_) rfl (by kernel_rfl) (by kernel_rfl) (by kernel_rfl) (fun _ _ _ h => h) (Or.inl ⟨by rfl, ?_⟩) (by assumption) ?_
  rotate_left
  · intro w hSw
    try dsimp only at hSw
    go_simp
    all_goals with_reducible rfl
  try simp only [lay_all]
  refine wpAnyH_take (i := 24) (v := ?_) rfl (by kernel_rfl) (by kernel_rfl) (by kernel_rfl) (fun _ _ _ h => h) (Or.inl ⟨by rfl, ?_⟩) (by assumption) ?_
  rotate_left
  · intro w hSw
    try dsimp only at hSw
    go_simp
    all_goals with_reducible rfl
  try simp only [lay_all]
  refine wpAnyH_take (i := 25) (v := ?_) rfl (by kernel_rfl) (by kernel_rfl) (by kernel_rfl) (fun _ _ _ h => h) (Or.inl ⟨by rfl, ?_⟩) (by assumption) ?_
  rotate_left
  · intro w hSw
    try dsimp only at hSw
    go_simp
    all_goals with_reducible rfl
  try simp only [lay_all]
  refine wpAnyH_ready (rs := [26]) (by kernel_rfl) (by simp) ?_
  refine AllReadyH.cons rfl (fun K hK => ?_) AllReadyH.nil
  go_simp
  refine (HO.out _ _ (by assumption) (by decide)).mono ?_
  rintro e w' ⟨n, rfl, hT, -, hx, hy⟩
  have hcv := hx rfl
  have hcv2 := hy rfl
  clear hx hy
  go_wp2_with fail
  refine hK.out _ _ ?_ (fun hHeld => ?_)
  · first | exact HSS.out _ HT.out | exact HSS.out _ hT | assumption
  clear hK K
  try simp only [lay_all]
  refine wpAnyH_take (i := 27) (v := ?_) rfl (by kernel_rfl) (by kernel_rfl) (by kernel_rfl) (fun _ _ _ h => h) (Or.inl ⟨by rfl, ?_⟩) (by assumption) ?_
  rotate_left
  · intro w hSw
    try dsimp only at hSw
    go_simp
    all_goals with_reducible rfl
  try simp only [lay_all]
  refine wpAnyH_ready (rs := [28]) (by kernel_rfl) (by simp) ?_
  refine AllReadyH.cons rfl (fun K hK => ?_) AllReadyH.nil
  go_simp
  refine hK.out _ _ ?_ (fun hHeld => ?_)
  · first | exact HSS.out _ HT.out | exact HSS.out _ hT | assumption
  clear hK K
  try simp only [lay_all]
  refine wpAnyH_take (i := 29) (v := ?_) rfl (by kernel_rfl) (by kernel_rfl) (by kernel_rfl) (fun _ _ _ h => h) (Or.inl ⟨by rfl, ?_⟩) (by assumption) ?_
  rotate_left
  · intro w hSw
    try dsimp only at hSw
    go_simp
    all_goals with_reducible rfl
  try simp only [lay_all]
  refine wpAnyH_take (i := 30) (v := ?_) rfl (by kernel_rfl) (by kernel_rfl) (by kernel_rfl) (fun _ _ _ h => h) (Or.inl ⟨by rfl, ?_⟩) (by assumption) ?_
  rotate_left
  · intro w hSw
    try dsimp only at hSw
    go_simp
    all_goals with_reducible rfl
  try simp only [lay_all]
  refine wpAnyH_take (i := 31) (v := ?_) rfl (by kernel_rfl) (by kernel_rfl) (by kernel_rfl) (fun _ _ _ h => h) (Or.inl ⟨by rfl, ?_⟩) (by assumption) ?_
  rotate_left
  · intro w hSw
    try dsimp only at hSw
    go_simp
    all_goals with_reducible rfl
  try simp only [lay_all]
  refine wpAnyH_take (i := 32) (v := ?_) rfl (by kernel_rfl) (by kernel_rfl) (by kernel_rfl) (fun _ _ _ h => h) (Or.inl ⟨by rfl, ?_⟩) (by assumption) ?_
  rotate_left
  · intro w hSw
    try dsimp only at hSw
    go_simp
    all_goals with_reducible rfl
  try simp only [lay_all]
  refine wpAnyH_take (i := 33) (v := ?_) rfl (by kernel_rfl) (by kernel_rfl) (by kernel_rfl) (fun _ _ _ h => h) (Or.inl ⟨by rfl, ?_⟩) (by assumption) ?_
  rotate_left
  · intro w hSw
    try dsimp only at hSw
    go_simp
    all_goals with_reducible rfl
  try simp only [lay_all]
  refine wpAnyH_ready (rs := [34]) (by kernel_rfl) (by simp) ?_
  refine AllReadyH.cons rfl (fun K hK => ?_) AllReadyH.nil
  go_simp
  refine (HFl.out _ (by assumption)).mono ?_
  rintro e w' ⟨rfl, hT⟩
  go_wp2_with fail
  refine hK.out _ _ ?_ (fun hHeld => ?_)
  · first | exact HSS.out _ HT.out | exact HSS.out _ hT | assumption
  clear hK K
  try simp only [lay_all]
  refine wpAnyH_ready (rs := [35]) (by kernel_rfl) (by simp) ?_
  refine AllReadyH.cons rfl (fun K hK => ?_) AllReadyH.nil
  go_simp
  refine (no1_any _ _).mono ?_
  rintro e w' ⟨rfl, rfl⟩
  go_wp2_with fail
  refine hK.out _ _ ?_ (fun hHeld => ?_)
  · first | exact HSS.out _ HT.out | exact HSS.out _ hT | assumption
  clear hK K
  try simp only [lay_all]
  refine wpAnyH_take (i := 36) (v := ?_) rfl (by kernel_rfl) (by kernel_rfl) (by kernel_rfl) (fun _ _ _ h => h) (Or.inl ⟨by rfl, ?_⟩) (by assumption) ?_
  rotate_left
  · intro w hSw
    try dsimp only at hSw
    go_simp
    all_goals with_reducible rfl
  try simp only [lay_all]
  refine wpAnyH_take (i := 37) (v := ?_) rfl (by kernel_rfl) (by kernel_rfl) (by kernel_rfl) (fun _ _ _ h => h) (Or.inl ⟨by rfl, ?_⟩) (by assumption) ?_
  rotate_left
  · intro w hSw
    try dsimp only at hSw
    go_simp
    all_goals with_reducible rfl
  try simp only [lay_all]
  refine wpAnyH_take (i := 38) (v := ?_) rfl (by kernel_rfl) (by kernel_rfl) (by kernel_rfl) (fun _ _ _ h => h) (Or.inl ⟨by rfl, ?_⟩) (by assumption) ?_
  rotate_left
  · intro w hSw
    try dsimp only at hSw
    go_simp
    all_goals with_reducible rfl
  try simp only [lay_all]
  refine wpAnyH_done (by kernel_rfl) ?_ _
  refine NoPanic.normal ?_
  go_wp2
  go_ret
  obtain ⟨_, _, _, _, _, _, _, _, _, _, _, _, _, _, _, hch⟩ := hT
  exact ⟨rfl, hch⟩
end

section
open Go.RowKit

/-- A disk of n sectors that was given a fuse of f, behind i writes or flushes. -/
structure Fu (d : Dk) (n f i : Nat) : Prop where
  len : d.L.length = n
  steps : d.steps = min i f
  fuse : d.fuse = ((f - min i f : Nat) : Int)
  gone : d.gone = decide (f < i)
  wait : d.wait.length ≤ i

/-- The error of the next one. -/
def fuE (f i : Nat) : Nat := if i < f then 0 else 9

theorem Fu.stop {d : Dk} {n f i : Nat} (h : Fu d n f i) : (d.gone = true ∨ d.fuse = 0) ↔ ¬ i < f := by
  rw [h.gone, h.fuse, decide_eq_true_eq]
  omega
theorem Fu.off {d : Dk} {n f i : Nat} (h : Fu d n f i) (hi : ¬ i < f) : Fu { d with gone := true } n f (i + 1) :=
  ⟨h.len, by rw [h.steps]; omega, by rw [h.fuse]; omega, by simp; omega, Nat.le_succ_of_le h.wait⟩
theorem Fu.on {d : Dk} {n f i : Nat} (h : Fu d n f i) (hi : i < f) : (stepY d).steps = min (i + 1) f ∧ (stepY d).fuse = ((f - min (i + 1) f : Nat) : Int) ∧ (stepY d).gone = decide (f < i + 1) := by
  refine ⟨?_, ?_, ?_⟩
  · show d.steps + 1 = _; rw [h.steps]; omega
  · show (if 0 < d.fuse then d.fuse - 1 else d.fuse) = _
    rw [h.fuse]
    split <;> omega
  · show d.gone = _
    rw [h.gone]
    simp; omega
theorem Fu.flush {d : Dk} {n f i : Nat} (h : Fu d n f i) : (flushD d).1 = fuE f i ∧ Fu (flushD d).2 n f (i + 1) := by
  by_cases hi : i < f
  · have e : flushD d = (0, { stepY d with L := applyW d.wait d.L, wait := [] }) := by rw [flushD, stepD_yes (fun x => h.stop.1 x hi), if_neg (by simp)]
    obtain ⟨h1, h2, h3⟩ := h.on hi
    rw [e, fuE, if_pos hi]
    exact ⟨rfl, by show (applyW d.wait d.L).length = n; rw [applyW_length]; exact h.len, h1, h2, h3, Nat.zero_le _⟩
  · have e : flushD d = (9, { d with gone := true }) := by rw [flushD, stepD_no (h.stop.2 hi), if_pos rfl]
    rw [e, fuE, if_neg hi]
    exact ⟨rfl, h.off hi⟩
theorem Fu.write {d : Dk} {n f i : Nat} (h : Fu d n f i) (hn : 1 ≤ n) (b : List UInt8) (hb : b.length = 512) : (writeD d 0 b).1 = fuE f i ∧ Fu (writeD d 0 b).2 n f (i + 1) := by
  have hr : 0 ≤ (0 : Int) ∧ (0 : Int) < d.L.length := by rw [h.len]; omega
  by_cases hi : i < f
  · have e : writeD d 0 b = (0, { stepY d with wait := d.wait ++ [(Int.toNat 0, b)] }) := by
      rw [writeD, if_neg (fun x => x hb), if_neg (fun x => x hr), stepD_yes (fun x => h.stop.1 x hi), if_neg (by simp)]
    obtain ⟨h1, h2, h3⟩ := h.on hi
    rw [e, fuE, if_pos hi]
    exact ⟨rfl, h.len, h1, h2, h3, by show (d.wait ++ [_]).length ≤ _; rw [List.length_append]; have := h.wait; simp; omega⟩
  · have e : writeD d 0 b = (9, { d with gone := true }) := by rw [writeD, if_neg (fun x => x hb), if_neg (fun x => x hr), stepD_no (h.stop.2 hi), if_pos rfl]
    rw [e, fuE, if_neg hi]
    exact ⟨rfl, h.off hi⟩
theorem Fu.start (n f : Nat) : Fu (fuseD { L := List.replicate n (zeros 512), wait := [], steps := 0, fuse := -1, gone := false } f) n f 0 :=
  ⟨by simp [fuseD], by simp [fuseD], by simp [fuseD], by simp [fuseD], by simp [fuseD]⟩
theorem Fu.read {d : Dk} {n f i : Nat} (h : Fu d n f i) (hn : 1 ≤ n) : (readD d 0).1 = if i ≤ f then 0 else 9 := by
  have hr : 0 ≤ (0 : Int) ∧ (0 : Int) < d.L.length := by rw [h.len]; omega
  rw [readD, if_neg (fun x => x hr), h.gone]
  by_cases hi : i ≤ f
  · rw [if_neg (by simp; omega), if_pos hi]
  · rw [if_pos (by simp; omega), if_neg hi]

/-- v is a slice of bools that reads as l. -/
def Bls (w : World) (v : Value) (l : List Bool) : Prop :=
  (∃ a cap, v = .slice a 0 cap ∧ l = []) ∨ ∃ b off cap cs e fz, v = .slice (some ⟨b, off, none⟩) l.length cap ∧ w.heap[b]? = some (.cells cs e fz) ∧
    ∀ (j : Nat) (x : Bool), l[j]? = some x → cs[off + j]? = some (.bool x)
theorem Bls.ch {S : Nat → Prop} {w w' : World} {v : Value} {l : List Bool} (h : Bls w v l) (hc : Ch S w w') (hn : ∀ k, v.ownBlock = some k → ¬ S k) : Bls w' v l := by
  rcases h with h | ⟨b, off, cap, cs, e, fz, rfl, hb, hcs⟩
  · exact .inl h
  · exact .inr ⟨b, off, cap, cs, e, fz, rfl, hc.keep hb (hn b rfl), hcs⟩
theorem Bls.get {w : World} {a : Option Addr} {n cap : Nat} {l : List Bool} (h : Bls w (.slice a n cap) l) {j : Nat} {x : Bool} (hx : l[j]? = some x) :
    ∃ b off, a = some ⟨b, off, none⟩ ∧ w.cell? ⟨b, off + j, none⟩ = some (.bool x) ∧ b < w.heap.size := by
  rcases h with ⟨_, _, h, rfl⟩ | ⟨b, off, c, cs, e, fz, h, hb, hcs⟩
  · simp at hx
  · cases h
    exact ⟨b, off, rfl, by rw [cell_blk hb]; exact hcs j x hx, blk_lt hb⟩
end

section
open Go.RowKit

/-- All writes that wait are whole, and at sectors that are there; so are the sectors. -/
structure Sane (d : Dk) : Prop where
  n1 : 1 ≤ d.L.length
  n2 : d.L.length ≤ 4096
  wait : ∀ x ∈ d.wait, x.2.length = 512 ∧ x.1 < d.L.length
  secs : ∀ l ∈ d.L, l.length = 512

theorem DiskAt.sane {w : World} {p : Nat} {d : Dk} {M F : Nat → Prop} (h : DiskAt w p d M F) : Sane d := by
  obtain ⟨sb, rb, bs, wv, ws, h1, _⟩ := h
  refine ⟨h1.n1, h1.n2, fun x hx => ?_, fun l hl => ?_⟩
  · rw [h1.hwl] at hx
    obtain ⟨y, hy, rfl⟩ := List.mem_map.1 hx
    exact (h1.hwb y hy).2
  · obtain ⟨i, hi, rfl⟩ := List.mem_iff_getElem.1 hl
    have hib : i < bs.length := by rw [h1.hb]; exact hi
    exact (h1.hl i (bs[i]'hib) (d.L[i]'hi) (List.getElem?_eq_getElem _) (List.getElem?_eq_getElem _)).1

/-- Keeps of all writes, whole, in their order. -/
def fullK (n : Nat) : List (Int × Int) := (List.range n).map fun (i : Nat) => ((i : Int), (1000 : Int))
theorem fullK_length (n : Nat) : (fullK n).length = n := by simp [fullK]
theorem fullK_succ (n : Nat) : fullK (n + 1) = fullK n ++ [((n : Int), 1000)] := by simp [fullK, List.range_succ]

theorem applyW_secs (l : List (Nat × List UInt8)) (hl : ∀ x ∈ l, x.2.length = 512) : ∀ L : List (List UInt8), (∀ s ∈ L, s.length = 512) → ∀ s ∈ applyW l L, s.length = 512 := by
  induction l with
  | nil => intro L h; exact h
  | cons x l ih =>
    intro L h
    show ∀ s ∈ applyW l (L.set x.1 x.2), _
    refine ih (fun y hy => hl y (List.mem_cons_of_mem _ hy)) _ (fun s hs => ?_)
    rcases List.mem_or_eq_of_mem_set hs with h1 | h1
    · exact h s h1
    · rw [h1]; exact hl x List.mem_cons_self

theorem keep_full (wait : List (Nat × List UInt8)) (L : List (List UInt8)) (hw : ∀ x ∈ wait, x.2.length = 512 ∧ x.1 < L.length) (hL : ∀ s ∈ L, s.length = 512) :
    ∀ k, k ≤ wait.length → (fullK k).foldl (keepD wait) L = applyW (wait.take k) L := by
  intro k
  induction k with
  | zero => intro _; rfl
  | succ k ih =>
    intro hk
    have hlt : k < wait.length := by omega
    rw [fullK_succ, List.foldl_append, ih (by omega), List.take_add_one, List.getElem?_eq_getElem hlt, Option.toList_some, applyW_snoc, List.foldl_cons, List.foldl_nil, keepD, if_pos (by constructor <;> omega)]
    simp only [Int.toNat_natCast, List.getElem?_eq_getElem hlt]
    have h1 := hw wait[k] (List.getElem_mem _)
    have h2 : ((applyW (wait.take k) L).getD wait[k].1 []).length ≤ 512 := by
      have hs := applyW_secs (wait.take k) (fun x hx => (hw x (List.mem_of_mem_take hx)).1) L hL
      rw [List.getD]
      cases hq : (applyW (wait.take k) L)[wait[k].1]? with
      | none => simp
      | some s => simp only [Option.getD_some]; rw [hs s (List.mem_of_getElem? hq)]; omega
    rw [show min (Int.toNat 1000) 512 = 512 from rfl, List.take_of_length_le (show wait[k].2.length ≤ 512 by omega), List.drop_of_length_le h2, List.append_nil]

theorem readW_apply (l : List (Nat × List UInt8)) (a : Nat) : ∀ L : List (List UInt8), a < L.length → readW l a (L.getD a []) = (applyW l L).getD a [] := by
  induction l with
  | nil => intro L _; rfl
  | cons x l ih =>
    intro L ha
    show readW l a (if x.1 = a then x.2 else L.getD a []) = (applyW l (L.set x.1 x.2)).getD a []
    rw [← ih (L.set x.1 x.2) (by simpa using ha)]
    congr 1
    by_cases h : x.1 = a
    · rw [if_pos h, h]; simp [List.getD, ha]
    · rw [if_neg h]; simp [List.getD, List.getElem?_set_ne h]

/-- DiskAll's plain law: behind all keeps what is read is what was read. -/
theorem all_read {d : Dk} (h : Sane d) (i : Nat) (hi : i < d.L.length) :
    (readD (crashD d (fullK d.wait.length)) (i : Int)).1 = 0 ∧ ((readD d (i : Int)).1 = 0 → (readD (crashD d (fullK d.wait.length)) (i : Int)).2 = (readD d (i : Int)).2) := by
  have hL : (crashD d (fullK d.wait.length)).L = applyW d.wait d.L := by
    show (fullK d.wait.length).foldl (keepD d.wait) d.L = _
    rw [keep_full d.wait d.L h.wait h.secs _ (Nat.le_refl _), List.take_of_length_le (Nat.le_refl _)]
  have e : readD (crashD d (fullK d.wait.length)) (i : Int) = (0, (applyW d.wait d.L).getD i []) := by
    rw [readD, if_neg (by rw [hL, applyW_length]; omega), if_neg (by simp [crashD]), hL]
    rfl
  rw [e]
  refine ⟨rfl, fun h0 => ?_⟩
  have e2 : readD d (i : Int) = if d.gone = true then (9, []) else (0, readW d.wait i (d.L.getD i [])) := by
    rw [readD, if_neg (by omega)]; rfl
  rw [e2] at h0 ⊢
  split at h0
  · cases h0
  · rename_i hg
    rw [if_neg hg, readW_apply d.wait i d.L hi]

/-- A flush that answers OK: nothing waits, and there is power. -/
theorem flush_yes {d : Dk} (h : (flushD d).1 = 0) : d.gone = false ∧ (flushD d).2 = { stepY d with L := applyW d.wait d.L, wait := [] } := by
  by_cases hg : d.gone = true ∨ d.fuse = 0
  · rw [flushD, stepD_no hg, if_pos rfl] at h; cases h
  · refine ⟨by cases hx : d.gone; · rfl
               · exact absurd (.inl hx) hg, ?_⟩
    rw [flushD, stepD_yes hg, if_neg (by simp)]
theorem crash_wait_nil {d : Dk} (h : d.wait = []) (kept : List (Int × Int)) : (crashD d kept).L = d.L := by
  show kept.foldl (keepD d.wait) d.L = d.L
  rw [h]
  induction kept with
  | nil => rfl
  | cons k kept ih => rw [List.foldl_cons, keepD, if_neg (by simp)]; exact ih
/-- DiskFlushed's plain law. -/
theorem flushed_read {d : Dk} (hw : d.wait = []) (hg : d.gone = false) (kept : List (Int × Int)) (i : Nat) (hi : i < d.L.length) :
    (readD d (i : Int)).1 = 0 ∧ readD (crashD d kept) (i : Int) = readD d (i : Int) := by
  have e1 : readD d (i : Int) = (0, d.L.getD i []) := by rw [readD, if_neg (by omega), if_neg (by simp [hg]), hw]; rfl
  refine ⟨by rw [e1], ?_⟩
  rw [e1, readD, crash_wait_nil hw, if_neg (by omega), if_neg (by simp [crashD])]
  rfl

/-- A disk of n sectors behind at most i calls. -/
structure Pl (d : Dk) (n i : Nat) : Prop where
  len : d.L.length = n
  steps : d.steps ≤ i
  wait : d.wait.length ≤ i
theorem Pl.start (n : Nat) : Pl { L := List.replicate n (zeros 512), wait := [], steps := 0, fuse := -1, gone := false } n 0 := ⟨by simp, Nat.le_refl _, Nat.le_refl _⟩
theorem Pl.up {d : Dk} {n i : Nat} (h : Pl d n i) : Pl d n (i + 1) := ⟨h.len, Nat.le_succ_of_le h.steps, Nat.le_succ_of_le h.wait⟩
theorem Pl.stepY {d : Dk} {n i : Nat} (h : Pl d n i) : (Ytadhibemadgcoaa.stepY d).steps ≤ i + 1 := by show d.steps + 1 ≤ i + 1; have := h.steps; omega
theorem Pl.write {d : Dk} {n i : Nat} (h : Pl d n i) (a : Int) (b : List UInt8) : Pl (writeD d a b).2 n (i + 1) := by
  unfold writeD
  split
  · exact h.up
  · split
    · exact h.up
    · by_cases hg : d.gone = true ∨ d.fuse = 0
      · rw [stepD_no hg, if_pos rfl]
        exact ⟨h.len, Nat.le_succ_of_le h.steps, Nat.le_succ_of_le h.wait⟩
      · rw [stepD_yes hg, if_neg (by simp)]
        exact ⟨h.len, h.stepY, by show (d.wait ++ [_]).length ≤ _; rw [List.length_append]; have := h.wait; simp; omega⟩
theorem Pl.flush {d : Dk} {n i : Nat} (h : Pl d n i) : Pl (flushD d).2 n (i + 1) := by
  unfold flushD
  by_cases hg : d.gone = true ∨ d.fuse = 0
  · rw [stepD_no hg, if_pos rfl]
    exact ⟨h.len, Nat.le_succ_of_le h.steps, Nat.le_succ_of_le h.wait⟩
  · rw [stepD_yes hg, if_neg (by simp)]
    exact ⟨by show (applyW d.wait d.L).length = n; rw [applyW_length]; exact h.len, h.stepY, Nat.zero_le _⟩
theorem Pl.fuse {d : Dk} {n i : Nat} (h : Pl d n i) (x : Int) : Pl (fuseD d x) n (i + 1) := ⟨h.len, Nat.le_succ_of_le h.steps, Nat.le_succ_of_le h.wait⟩
theorem keeps_length (wait : List (Nat × List UInt8)) (kept : List (Int × Int)) : ∀ L : List (List UInt8), (kept.foldl (keepD wait) L).length = L.length := by
  induction kept with
  | nil => intro L; rfl
  | cons k kept ih =>
    intro L
    rw [List.foldl_cons, ih]
    unfold keepD
    split
    · split
      · simp
      · rfl
    · rfl
theorem Pl.crash {d : Dk} {n i : Nat} (h : Pl d n i) (kept : List (Int × Int)) : Pl (crashD d kept) n (i + 1) :=
  ⟨by show (kept.foldl (keepD d.wait) d.L).length = n; rw [keeps_length]; exact h.len, Nat.zero_le _, Nat.zero_le _⟩
end

end Go.Proofs.Ytadhibemadgcoaa
