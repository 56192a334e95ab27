/- DiskFuses: the plain law of a disk with a fuse. Conditions: none. -/
import Derived.Test.YtadhibemadgcoaaDiskK
namespace Go.Proofs.Ytadhibemadgcoaa
open Go.RowKit

/-- A disk of n sectors that was given a fuse of f, behind i writes or flushes. -/
structure Fu (d : Dk) (n f i : Nat) : Prop where
  len : d.L.length = n
  steps : d.steps = min i f
  fuse : d.fuse = ((f - min i f : Nat) : Int)
  gone : d.gone = decide (f < i)
  wait : d.wait.length ≤ i

/-- The error of the next one. -/
def fuE (f i : Nat) : Nat := if i < f then 0 else 9

theorem Fu.stop {d : Dk} {n f i : Nat} (h : Fu d n f i) : (d.gone = true ∨ d.fuse = 0) ↔ ¬ i < f := by
  rw [h.gone, h.fuse, decide_eq_true_eq]
  omega
theorem Fu.off {d : Dk} {n f i : Nat} (h : Fu d n f i) (hi : ¬ i < f) : Fu { d with gone := true } n f (i + 1) :=
  ⟨h.len, by rw [h.steps]; omega, by rw [h.fuse]; omega, by simp; omega, Nat.le_succ_of_le h.wait⟩
theorem Fu.on {d : Dk} {n f i : Nat} (h : Fu d n f i) (hi : i < f) : (stepY d).steps = min (i + 1) f ∧ (stepY d).fuse = ((f - min (i + 1) f : Nat) : Int) ∧ (stepY d).gone = decide (f < i + 1) := by
  refine ⟨?_, ?_, ?_⟩
  · show d.steps + 1 = _; rw [h.steps]; omega
  · show (if 0 < d.fuse then d.fuse - 1 else d.fuse) = _
    rw [h.fuse]
    split <;> omega
  · show d.gone = _
    rw [h.gone]
    simp; omega
theorem Fu.flush {d : Dk} {n f i : Nat} (h : Fu d n f i) : (flushD d).1 = fuE f i ∧ Fu (flushD d).2 n f (i + 1) := by
  by_cases hi : i < f
  · have e : flushD d = (0, { stepY d with L := applyW d.wait d.L, wait := [] }) := by rw [flushD, stepD_yes (fun x => h.stop.1 x hi), if_neg (by simp)]
    obtain ⟨h1, h2, h3⟩ := h.on hi
    rw [e, fuE, if_pos hi]
    exact ⟨rfl, by show (applyW d.wait d.L).length = n; rw [applyW_length]; exact h.len, h1, h2, h3, Nat.zero_le _⟩
  · have e : flushD d = (9, { d with gone := true }) := by rw [flushD, stepD_no (h.stop.2 hi), if_pos rfl]
    rw [e, fuE, if_neg hi]
    exact ⟨rfl, h.off hi⟩
theorem Fu.write {d : Dk} {n f i : Nat} (h : Fu d n f i) (hn : 1 ≤ n) (b : List UInt8) (hb : b.length = 512) : (writeD d 0 b).1 = fuE f i ∧ Fu (writeD d 0 b).2 n f (i + 1) := by
  have hr : 0 ≤ (0 : Int) ∧ (0 : Int) < d.L.length := by rw [h.len]; omega
  by_cases hi : i < f
  · have e : writeD d 0 b = (0, { stepY d with wait := d.wait ++ [(Int.toNat 0, b)] }) := by
      rw [writeD, if_neg (fun x => x hb), if_neg (fun x => x hr), stepD_yes (fun x => h.stop.1 x hi), if_neg (by simp)]
    obtain ⟨h1, h2, h3⟩ := h.on hi
    rw [e, fuE, if_pos hi]
    exact ⟨rfl, h.len, h1, h2, h3, by show (d.wait ++ [_]).length ≤ _; rw [List.length_append]; have := h.wait; simp; omega⟩
  · have e : writeD d 0 b = (9, { d with gone := true }) := by rw [writeD, if_neg (fun x => x hb), if_neg (fun x => x hr), stepD_no (h.stop.2 hi), if_pos rfl]
    rw [e, fuE, if_neg hi]
    exact ⟨rfl, h.off hi⟩
theorem Fu.start (n f : Nat) : Fu (fuseD { L := List.replicate n (zeros 512), wait := [], steps := 0, fuse := -1, gone := false } f) n f 0 :=
  ⟨by simp [fuseD], by simp [fuseD], by simp [fuseD], by simp [fuseD], by simp [fuseD]⟩
theorem Fu.read {d : Dk} {n f i : Nat} (h : Fu d n f i) (hn : 1 ≤ n) : (readD d 0).1 = if i ≤ f then 0 else 9 := by
  have hr : 0 ≤ (0 : Int) ∧ (0 : Int) < d.L.length := by rw [h.len]; omega
  rw [readD, if_neg (fun x => x hr), h.gone]
  by_cases hi : i ≤ f
  · rw [if_neg (by simp; omega), if_pos hi]
  · rw [if_pos (by simp; omega), if_neg hi]

/-- v is a slice of bools that reads as l. -/
def Bls (w : World) (v : Value) (l : List Bool) : Prop :=
  (∃ a cap, v = .slice a 0 cap ∧ l = []) ∨ ∃ b off cap cs e fz, v = .slice (some ⟨b, off, none⟩) l.length cap ∧ w.heap[b]? = some (.cells cs e fz) ∧
    ∀ (j : Nat) (x : Bool), l[j]? = some x → cs[off + j]? = some (.bool x)
theorem Bls.ch {S : Nat → Prop} {w w' : World} {v : Value} {l : List Bool} (h : Bls w v l) (hc : Ch S w w') (hn : ∀ k, v.ownBlock = some k → ¬ S k) : Bls w' v l := by
  rcases h with h | ⟨b, off, cap, cs, e, fz, rfl, hb, hcs⟩
  · exact .inl h
  · exact .inr ⟨b, off, cap, cs, e, fz, rfl, hc.keep hb (hn b rfl), hcs⟩
theorem Bls.get {w : World} {a : Option Addr} {n cap : Nat} {l : List Bool} (h : Bls w (.slice a n cap) l) {j : Nat} {x : Bool} (hx : l[j]? = some x) :
    ∃ b off, a = some ⟨b, off, none⟩ ∧ w.cell? ⟨b, off + j, none⟩ = some (.bool x) ∧ b < w.heap.size := by
  rcases h with ⟨_, _, h, rfl⟩ | ⟨b, off, c, cs, e, fz, h, hb, hcs⟩
  · simp at hx
  · cases h
    exact ⟨b, off, rfl, by rw [cell_blk hb]; exact hcs j x hx, blk_lt hb⟩

end Go.Proofs.Ytadhibemadgcoaa
