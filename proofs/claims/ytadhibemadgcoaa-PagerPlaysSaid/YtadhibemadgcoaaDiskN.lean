/- DiskPieces: the plain law of a crash, byte by byte. Conditions: none. -/
import Derived.Test.YtadhibemadgcoaaDiskOne
namespace Go.Proofs.Ytadhibemadgcoaa
open Go.RowKit

/-- Writes of one byte's sectors that wait. -/
def ofW (W : List (Nat × UInt8)) : List (Nat × List UInt8) := W.map fun x => (x.1, ofB x.2)
/-- Each byte is what it was, or what one of the writes has there. -/
def Pieces (W : List (Nat × UInt8)) (L L' : List (List UInt8)) : Prop :=
  L'.length = L.length ∧ ∀ i k : Nat, (L'.getD i [])[k]? = (L.getD i [])[k]? ∨ ∃ x ∈ W, x.1 = i ∧ (L'.getD i [])[k]? = some x.2

theorem ofB_get (c : UInt8) (k : Nat) (h : k < 512) : (ofB c)[k]? = some c := by rw [ofB, List.getElem?_replicate, if_pos h]
theorem Pieces.keep {W : List (Nat × UInt8)} {L L' : List (List UInt8)} (h : Pieces W L L') (hW : ∀ x ∈ W, x.1 < L.length) (q : Int × Int) : Pieces W L (keepD (ofW W) L' q) := by
  unfold keepD
  split
  · split
    · rename_i x hx
      have hx' := List.mem_of_getElem? hx
      obtain ⟨y, hy, rfl⟩ := List.mem_map.1 hx'
      have hm : min q.2.toNat 512 ≤ 512 := Nat.min_le_right _ _
      generalize min q.2.toNat 512 = m at hm
      have hyl : y.1 < L'.length := by rw [h.1]; exact hW y hy
      refine ⟨by simp [h.1], fun i k => ?_⟩
      by_cases hi : y.1 = i
      · subst hi
        have e : (L'.set y.1 ((ofB y.2).take m ++ (L'.getD y.1 []).drop m)).getD y.1 [] = (ofB y.2).take m ++ (L'.getD y.1 []).drop m := by simp [List.getD, hyl]
        simp only [e]
        have hl : ((ofB y.2).take m).length = m := by simp [ofB_length, hm]
        by_cases hk : k < m
        · right
          refine ⟨y, hy, rfl, ?_⟩
          rw [List.getElem?_append_left (by rw [hl]; exact hk), List.getElem?_take_of_lt hk, ofB_get _ _ (by omega)]
        · rw [List.getElem?_append_right (by rw [hl]; omega), hl, List.getElem?_drop, show m + (k - m) = k by omega]
          exact h.2 y.1 k
      · have e : (L'.set y.1 ((ofB y.2).take m ++ (L'.getD y.1 []).drop m)).getD i [] = L'.getD i [] := by simp [List.getD, List.getElem?_set_ne hi]
        simp only [e]
        exact h.2 i k
    · exact h
  · exact h
theorem Pieces.start (W : List (Nat × UInt8)) (L : List (List UInt8)) : Pieces W L L := ⟨rfl, fun _ _ => .inl rfl⟩
theorem Pieces.all {W : List (Nat × UInt8)} {L : List (List UInt8)} (hW : ∀ x ∈ W, x.1 < L.length) (kept : List (Int × Int)) : ∀ L' : List (List UInt8), Pieces W L L' → Pieces W L (kept.foldl (keepD (ofW W)) L') := by
  induction kept with
  | nil => intro L' h; exact h
  | cons q kept ih => intro L' h; exact ih _ (h.keep hW q)

/-- What was written to a sector. -/
def wrote (W : List (Nat × UInt8)) (i : Nat) : List UInt8 := (W.filter fun x => x.1 == i).map (·.2)
theorem mem_wrote {W : List (Nat × UInt8)} {x : Nat × UInt8} (h : x ∈ W) : x.2 ∈ wrote W x.1 := List.mem_map.2 ⟨x, List.mem_filter.2 ⟨h, by simp⟩, rfl⟩

/-- A disk behind writes of one byte's sectors: the rest is as it was. -/
structure Wr (d : Dk) (L : List (List UInt8)) (W : List (Nat × UInt8)) (i : Nat) : Prop where
  same : d.L = L
  wait : d.wait = ofW W
  ins : ∀ x ∈ W, x.1 < L.length
  steps : d.steps ≤ i
  many : W.length ≤ i
theorem Wr.write {d : Dk} {L : List (List UInt8)} {W : List (Nat × UInt8)} {i : Nat} (h : Wr d L W i) (a : Int) (c : UInt8) :
    ((writeD d a (ofB c)).1 = 0 ∧ (0 ≤ a ∧ a < L.length) ∧ Wr (writeD d a (ofB c)).2 L (W ++ [(a.toNat, c)]) (i + 1)) ∨ ((writeD d a (ofB c)).1 ≠ 0 ∧ Wr (writeD d a (ofB c)).2 L W (i + 1)) := by
  have up : Wr d L W (i + 1) := ⟨h.same, h.wait, h.ins, Nat.le_succ_of_le h.steps, Nat.le_succ_of_le h.many⟩
  unfold writeD
  rw [if_neg (by rw [ofB_length]; omega)]
  by_cases ha : 0 ≤ a ∧ a < d.L.length
  · rw [if_neg (fun x => x ha)]
    by_cases hg : d.gone = true ∨ d.fuse = 0
    · rw [stepD_no hg, if_pos rfl]
      exact .inr ⟨by simp, h.same, h.wait, h.ins, Nat.le_succ_of_le h.steps, Nat.le_succ_of_le h.many⟩
    · rw [stepD_yes hg, if_neg (by simp)]
      have ha2 := ha
      rw [h.same] at ha2
      refine .inl ⟨rfl, ha2, h.same, ?_, ?_, ?_, ?_⟩
      · show d.wait ++ [(a.toNat, ofB c)] = _
        rw [h.wait]; simp [ofW]
      · intro x hx
        rcases List.mem_append.1 hx with hx | hx
        · exact h.ins x hx
        · simp at hx; subst hx; show a.toNat < _; omega
      · show d.steps + 1 ≤ _; have := h.steps; omega
      · rw [List.length_append]; have := h.many; simp; omega
  · rw [if_pos ha]
    exact .inr ⟨by simp, up⟩
theorem wrote_snoc (W : List (Nat × UInt8)) (a : Nat) (c : UInt8) (i : Nat) : wrote (W ++ [(a, c)]) i = if a = i then wrote W i ++ [c] else wrote W i := by
  unfold wrote
  rw [List.filter_append, List.map_append]
  by_cases h : a = i
  · rw [if_pos h]; simp [h]
  · rw [if_neg h]; simp [h]

/-- DiskPieces' plain law: the byte k of sector i. -/
theorem pieces_read {d : Dk} {L : List (List UInt8)} {W : List (Nat × UInt8)} {j : Nat} (h : Wr d L W j) (hs : ∀ l ∈ L, l.length = 512) (kept : List (Int × Int)) (i : Nat) (hi : i < L.length) :
    ∃ now was : List UInt8, readD (crashD d kept) (i : Int) = (0, now) ∧ L.getD i [] = was ∧ was.length = 512 ∧
      (now.length = 512 → ∀ (k : Nat) (x : UInt8), now[k]? = some x → was[k]? = some x ∨ x ∈ wrote W i) := by
  have hp := Pieces.all h.ins kept L (Pieces.start W L)
  have hL : (crashD d kept).L = kept.foldl (keepD (ofW W)) L := by
    show kept.foldl (keepD d.wait) d.L = _
    rw [h.wait, h.same]
  refine ⟨(kept.foldl (keepD (ofW W)) L).getD i [], L.getD i [], ?_, rfl, ?_, fun _ k x hx => ?_⟩
  · rw [readD, hL, hp.1, if_neg (by omega), if_neg (by simp [crashD])]
    rfl
  · simp only [List.getD, List.getElem?_eq_getElem hi, Option.getD_some]
    exact hs _ (List.getElem_mem _)
  · rcases hp.2 i k with e | ⟨y, hy, rfl, e⟩
    · rw [hx] at e; exact .inl e.symm
    · rw [hx] at e
      cases e
      exact .inr (mem_wrote hy)

end Go.Proofs.Ytadhibemadgcoaa
