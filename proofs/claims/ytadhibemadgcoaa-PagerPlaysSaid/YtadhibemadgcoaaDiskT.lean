/- The reference's disk: how it lies in memory; step, Fuse, Write, Read. Conditions: as each theorem says. -/
import Derived.Test.YtadhibemadgcoaaDiskS
import Derived.Test.YtadhibemadgcoaaLawAll
namespace Go.Proofs.Ytadhibemadgcoaa
open Go.RowKit

def strV (l : List UInt8) : Value := .string ⟨l.toArray⟩
/-- The cells of writes that wait, in the reference. -/
def rwCells (l : List (Nat × List UInt8)) : List Value := l.flatMap fun x => [.int .i64 (x.1 : Int), strV x.2]
theorem rwCells_length (l : List (Nat × List UInt8)) : (rwCells l).length = l.length * 2 := by
  induction l with
  | nil => rfl
  | cons x l ih => show (_ :: _ :: rwCells l).length = _; simp [ih]; omega
theorem rwCells_snoc (l : List (Nat × List UInt8)) (x : Nat × List UInt8) : rwCells (l ++ [x]) = rwCells l ++ [.int .i64 (x.1 : Int), strV x.2] := by simp [rwCells]
theorem rwCells_get (l : List (Nat × List UInt8)) : ∀ (j : Nat) (x : Nat × List UInt8), l[j]? = some x → (rwCells l)[j * 2]? = some (.int .i64 (x.1 : Int)) ∧ (rwCells l)[j * 2 + 1]? = some (strV x.2) := by
  induction l with
  | nil => intro j x h; simp at h
  | cons y l ih =>
    intro j x h
    have e : rwCells (y :: l) = .int .i64 (y.1 : Int) :: strV y.2 :: rwCells l := by simp [rwCells]
    rw [e]
    cases j with
    | zero => simp at h; subst h; exact ⟨rfl, rfl⟩
    | succ j =>
      have := ih j x (by simpa using h)
      rw [show (j + 1) * 2 = j * 2 + 1 + 1 by omega]
      exact this

/-- How a reference's disk lies in memory. -/
structure RIn (w : World) (q : Nat) (Lv Wv : Value) (d : Dk) : Prop where
  n2 : d.L.length ≤ 4096
  f1 : -1 ≤ d.fuse
  f2 : d.fuse ≤ 9223372036854775807
  hp : w.heap[q]? = some (.cells #[Lv, Wv, .int .i64 (d.steps : Int), .int .i64 d.fuse, .bool d.gone] 145 (0, 0))
  hL : w.ownsRow 0 9 1 Lv d.L.length (d.L.map strV)
  hW : w.ownsRow 0 147 2 Wv d.wait.length (rwCells d.wait)
  secs : ∀ l ∈ d.L, l.length = 512
  wait : ∀ x ∈ d.wait, x.2.length = 512 ∧ x.1 < d.L.length
  q1 : Lv.ownBlock ≠ some q
  q2 : Wv.ownBlock ≠ some q
  q3 : ∀ k, Lv.ownBlock = some k → Wv.ownBlock ≠ some k
/-- The reference's disk d lies at block q, its blocks are among M. -/
def RAt (w : World) (q : Nat) (d : Dk) (M : Nat → Prop) : Prop :=
  ∃ Lv Wv, RIn w q Lv Wv d ∧ M q ∧ (∀ k, Lv.ownBlock = some k → M k) ∧ (∀ k, Wv.ownBlock = some k → M k) ∧ (∀ k, M k → k < w.heap.size)

theorem RIn.frame {w w' : World} {q : Nat} {Lv Wv : Value} {d : Dk} (h : RIn w q Lv Wv d) (hq : w'.heap[q]? = w.heap[q]?) (hl : ∀ k, Lv.ownBlock = some k → w'.heap[k]? = w.heap[k]?) (hw : ∀ k, Wv.ownBlock = some k → w'.heap[k]? = w.heap[k]?) : RIn w' q Lv Wv d :=
  ⟨h.n2, h.f1, h.f2, hq.trans h.hp, ownsRow_frame h.hL hl, ownsRow_frame h.hW hw, h.secs, h.wait, h.q1, h.q2, h.q3⟩
theorem RAt.ch {S : Nat → Prop} {w w' : World} {q : Nat} {d : Dk} {M : Nat → Prop} (h : RAt w q d M) (hc : Ch S w w') (hn : ∀ k, M k → ¬ S k) : RAt w' q d M := by
  obtain ⟨Lv, Wv, h1, h2, h3, h4, h5⟩ := h
  have fr : ∀ k, M k → w'.heap[k]? = w.heap[k]? := fun k hk => hc.block k (h5 k hk) (hn k hk)
  exact ⟨Lv, Wv, h1.frame (fr q h2) (fun k hk => fr k (h3 k hk)) (fun k hk => fr k (h4 k hk)), h2, h3, h4, fun k hk => Nat.lt_of_lt_of_le (h5 k hk) hc.size⟩
theorem RAt.lt {w : World} {q : Nat} {d : Dk} {M : Nat → Prop} (h : RAt w q d M) : ∀ k, M k → k < w.heap.size := by obtain ⟨_, _, _, _, _, _, h5⟩ := h; exact h5
/-- The numbers turned. -/
theorem RIn.head {w w' : World} {q : Nat} {Lv Wv : Value} {d : Dk} {M : Nat → Prop} (h : RIn w q Lv Wv d) (h2 : M q) (h3 : ∀ k, Lv.ownBlock = some k → M k) (h4 : ∀ k, Wv.ownBlock = some k → M k) (h5 : ∀ k, M k → k < w.heap.size)
    (steps : Nat) (fuse : Int) (gone : Bool) (hf1 : -1 ≤ fuse) (hf2 : fuse ≤ 9223372036854775807)
    (hp : w'.heap[q]? = some (.cells #[Lv, Wv, .int .i64 (steps : Int), .int .i64 fuse, .bool gone] 145 (0, 0))) (hk : ∀ k, k ≠ q → w'.heap[k]? = w.heap[k]?) (hz : w.heap.size ≤ w'.heap.size) :
    RAt w' q { d with steps := steps, fuse := fuse, gone := gone } M :=
  ⟨Lv, Wv, ⟨h.n2, hf1, hf2, hp, ownsRow_frame h.hL (fun k hkk => hk k (fun e => h.q1 (e ▸ hkk))), ownsRow_frame h.hW (fun k hkk => hk k (fun e => h.q2 (e ▸ hkk))), h.secs, h.wait, h.q1, h.q2, h.q3⟩, h2, h3, h4, fun k hk2 => Nat.lt_of_lt_of_le (h5 k hk2) hz⟩

set_option maxHeartbeats 1000000 in
theorem rfuse_any {q : Nat} {d : Dk} {M : Nat → Prop} (n : Int) (w : World) (hn : n ≤ 9223372036854775807) (h : RAt w q d M) :
    Calls Try.prog 73 #[.pointer (some ⟨q, 0, none⟩), .int .i64 n] w fun e w' => e = .returned (.tuple #[]) ∧ RAt w' q (fuseD d n) M ∧ Ch M w w' := by
  obtain ⟨Lv, Wv, h1, h2, h3, h4, h5⟩ := h
  have hc := cell_blk h1.hp 3
  have hf := frozen_blk h1.hp 3
  simp at hc
  have H1 := hid h1
  have H2 := hid h2
  have H3 := hid h3
  have H4 := hid h4
  have H5 := hid h5
  clear h1 h2 h3 h4 h5
  by_cases hn1 : n < 0
  · go_enter Try.func73, Try.ntmps73
    go_wp2
    go_end0
    refine ⟨rfl, ?_, (Ch.refl _ _).setCell (fun _ => H2.out) _ |>.setCell (fun _ => H2.out) _⟩
    have e : fuseD d n = { d with steps := d.steps, fuse := -1, gone := d.gone } := by
      unfold fuseD
      by_cases h : n < -1
      · rw [if_pos h]
      · rw [if_neg h, show n = -1 by omega]
    rw [e]
    exact H1.out.head H2.out H3.out H4.out H5.out d.steps (-1) d.gone (by omega) (by omega) (by rw [heap_set (heap_set H1.out.hp 3 _) 3 _]; rfl) (fun k hk => by rw [Below.heap_setCell _ _ _ _ hk, Below.heap_setCell _ _ _ _ hk]) (by simp [World.setCell])
  · go_enter Try.func73, Try.ntmps73
    go_wp2
    go_end0
    refine ⟨rfl, ?_, (Ch.refl _ _).setCell (fun _ => H2.out) _⟩
    have e : fuseD d n = { d with steps := d.steps, fuse := n, gone := d.gone } := by
      unfold fuseD; rw [if_neg (by omega)]
    rw [e]
    exact H1.out.head H2.out H3.out H4.out H5.out d.steps n d.gone (by omega) (by omega) (by rw [heap_set H1.out.hp 3 _]; rfl) (fun k hk => Below.heap_setCell _ _ _ _ hk) (by simp [World.setCell])

set_option maxHeartbeats 1000000 in
theorem rstep_no {q : Nat} {d : Dk} {M : Nat → Prop} (w : World) (h : RAt w q d M) (hg : d.gone = true ∨ d.fuse = 0) :
    Calls Try.prog 103 #[.pointer (some ⟨q, 0, none⟩)] w fun e w' => e = .returned (.bool false) ∧ RAt w' q { d with gone := true } M ∧ Ch M w w' := by
  obtain ⟨Lv, Wv, h1, h2, h3, h4, h5⟩ := h
  have hc3 := cell_blk h1.hp 3
  have hc4 := cell_blk h1.hp 4
  have hf4 := frozen_blk h1.hp 4
  simp at hc3 hc4
  have fin1 : Hid (∀ w', w' = w.setCell ⟨q, 4, none⟩ (.bool true) → RAt w' q { d with gone := true } M ∧ Ch M w w') := hid (by
    rintro w' rfl
    exact ⟨h1.head h2 h3 h4 h5 d.steps d.fuse true h1.f1 h1.f2 (by rw [heap_set h1.hp]; rfl) (fun k hk => Below.heap_setCell _ _ _ _ hk) (by simp [World.setCell]), (Ch.refl _ _).setCell (fun _ => h2) _⟩)
  have fin2 : Hid (d.gone = true → RAt w q { d with gone := true } M ∧ Ch M w w) := hid (fun hg => by
    have e : { d with gone := true } = d := by rw [← hg]
    rw [e]
    exact ⟨⟨Lv, Wv, h1, h2, h3, h4, h5⟩, Ch.refl _ _⟩)
  clear h1 h2 h3 h4 h5
  by_cases hz : d.fuse = 0
  · rw [hz] at hc3
    clear hg hz fin2
    go_enter Try.func103, Try.ntmps103
    go_wp2
    go_ret
    exact ⟨rfl, fin1.out _ rfl⟩
  · have hgn : d.gone = true := by rcases hg with h | h
                                   · exact h
                                   · exact absurd h hz
    have hzb : (d.fuse == 0) = false := by simpa using hz
    have HG := hid hgn
    rw [hgn] at hc4
    clear hg hz hgn
    obtain ⟨f, HF⟩ : ∃ f, Hid (d.fuse = f) := ⟨_, hid rfl⟩
    rw [HF.out] at hc3 hzb
    go_enter Try.func103, Try.ntmps103
    go_wp2
    go_ret
    exact ⟨rfl, fin2.out HG.out⟩

set_option maxHeartbeats 1000000 in
theorem rstep_yes {q : Nat} {d : Dk} {M : Nat → Prop} (w : World) (h : RAt w q d M) (hst : d.steps ≤ 1000000) (hg : ¬ (d.gone = true ∨ d.fuse = 0)) :
    Calls Try.prog 103 #[.pointer (some ⟨q, 0, none⟩)] w fun e w' => e = .returned (.bool true) ∧ RAt w' q (stepY d) M ∧ Ch M w w' := by
  unfold stepY
  obtain ⟨Lv, Wv, h1, h2, h3, h4, h5⟩ := h
  have hc2 := cell_blk h1.hp 2
  have hf2 := frozen_blk h1.hp 2
  have hc3 := cell_blk h1.hp 3
  have hf3 := frozen_blk h1.hp 3
  have hc4 := cell_blk h1.hp 4
  have hgn : d.gone = false := by cases h : d.gone; · rfl
                                  · exact absurd (.inl h) hg
  have hz : d.fuse ≠ 0 := fun h => hg (.inr h)
  simp at hc2 hc3 hc4
  rw [hgn] at hc4
  have hb1 := h1.f1
  have hb2 := h1.f2
  have hzb : (d.fuse == 0) = false := by simpa using hz
  have H1 := hid h1
  have H2 := hid h2
  have H3 := hid h3
  have H4 := hid h4
  have H5 := hid h5
  have HG := hid hgn
  clear h1 h2 h3 h4 h5 hg hgn
  obtain ⟨f, HF⟩ : ∃ f, Hid (d.fuse = f) := ⟨_, hid rfl⟩
  rw [HF.out] at hc3 hz hb1 hb2 hzb ⊢
  obtain ⟨st, HS⟩ : ∃ f, Hid (d.steps = f) := ⟨_, hid rfl⟩
  rw [HS.out] at hc2 hst ⊢
  by_cases hpos : 0 < f
  · rw [if_pos hpos]
    go_enter Try.func103, Try.ntmps103
    go_wp2
    go_ret
    refine ⟨rfl, ?_, ((Ch.refl _ _).setCell (fun _ => H2.out) _).setCell (fun _ => H2.out) _⟩
    have := H1.out.head H2.out H3.out H4.out H5.out (st + 1) (f - 1) d.gone (w' := (w.setCell ⟨q, 3, none⟩ (.int .i64 (f - 1))).setCell ⟨q, 2, none⟩ (.int .i64 ((st : Int) + 1))) (by omega) (by omega)
      (by rw [heap_set (heap_set H1.out.hp 3 _) 2 _]; rfl) (fun k hk => by rw [Below.heap_setCell _ _ _ _ hk, Below.heap_setCell _ _ _ _ hk]) (by simp [World.setCell])
    exact this
  · rw [if_neg hpos]
    go_enter Try.func103, Try.ntmps103
    go_wp2
    go_ret
    refine ⟨rfl, ?_, (Ch.refl _ _).setCell (fun _ => H2.out) _⟩
    have := H1.out.head H2.out H3.out H4.out H5.out (st + 1) f d.gone (w' := w.setCell ⟨q, 2, none⟩ (.int .i64 ((st : Int) + 1))) (by omega) (by omega)
      (by rw [heap_set H1.out.hp 2 _, HF.out.symm]; rfl) (fun k hk => Below.heap_setCell _ _ _ _ hk) (by simp [World.setCell])
    exact this

end Go.Proofs.Ytadhibemadgcoaa
