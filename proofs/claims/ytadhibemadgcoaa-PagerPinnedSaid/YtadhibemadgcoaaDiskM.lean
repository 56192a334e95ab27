/- Plain laws of the disk: what all keeps leave, what is read. Conditions: none. -/
import Derived.Test.YtadhibemadgcoaaDiskL
namespace Go.Proofs.Ytadhibemadgcoaa
open Go.RowKit

/-- All writes that wait are whole, and at sectors that are there; so are the sectors. -/
structure Sane (d : Dk) : Prop where
  n1 : 1 ≤ d.L.length
  n2 : d.L.length ≤ 4096
  wait : ∀ x ∈ d.wait, x.2.length = 512 ∧ x.1 < d.L.length
  secs : ∀ l ∈ d.L, l.length = 512

theorem DiskAt.sane {w : World} {p : Nat} {d : Dk} {M F : Nat → Prop} (h : DiskAt w p d M F) : Sane d := by
  obtain ⟨sb, rb, bs, wv, ws, h1, _⟩ := h
  refine ⟨h1.n1, h1.n2, fun x hx => ?_, fun l hl => ?_⟩
  · rw [h1.hwl] at hx
    obtain ⟨y, hy, rfl⟩ := List.mem_map.1 hx
    exact (h1.hwb y hy).2
  · obtain ⟨i, hi, rfl⟩ := List.mem_iff_getElem.1 hl
    have hib : i < bs.length := by rw [h1.hb]; exact hi
    exact (h1.hl i (bs[i]'hib) (d.L[i]'hi) (List.getElem?_eq_getElem _) (List.getElem?_eq_getElem _)).1

/-- Keeps of all writes, whole, in their order. -/
def fullK (n : Nat) : List (Int × Int) := (List.range n).map fun (i : Nat) => ((i : Int), (1000 : Int))
theorem fullK_length (n : Nat) : (fullK n).length = n := by simp [fullK]
theorem fullK_succ (n : Nat) : fullK (n + 1) = fullK n ++ [((n : Int), 1000)] := by simp [fullK, List.range_succ]

theorem applyW_secs (l : List (Nat × List UInt8)) (hl : ∀ x ∈ l, x.2.length = 512) : ∀ L : List (List UInt8), (∀ s ∈ L, s.length = 512) → ∀ s ∈ applyW l L, s.length = 512 := by
  induction l with
  | nil => intro L h; exact h
  | cons x l ih =>
    intro L h
    show ∀ s ∈ applyW l (L.set x.1 x.2), _
    refine ih (fun y hy => hl y (List.mem_cons_of_mem _ hy)) _ (fun s hs => ?_)
    rcases List.mem_or_eq_of_mem_set hs with h1 | h1
    · exact h s h1
    · rw [h1]; exact hl x List.mem_cons_self

theorem keep_full (wait : List (Nat × List UInt8)) (L : List (List UInt8)) (hw : ∀ x ∈ wait, x.2.length = 512 ∧ x.1 < L.length) (hL : ∀ s ∈ L, s.length = 512) :
    ∀ k, k ≤ wait.length → (fullK k).foldl (keepD wait) L = applyW (wait.take k) L := by
  intro k
  induction k with
  | zero => intro _; rfl
  | succ k ih =>
    intro hk
    have hlt : k < wait.length := by omega
    rw [fullK_succ, List.foldl_append, ih (by omega), List.take_add_one, List.getElem?_eq_getElem hlt, Option.toList_some, applyW_snoc, List.foldl_cons, List.foldl_nil, keepD, if_pos (by constructor <;> omega)]
    simp only [Int.toNat_natCast, List.getElem?_eq_getElem hlt]
    have h1 := hw wait[k] (List.getElem_mem _)
    have h2 : ((applyW (wait.take k) L).getD wait[k].1 []).length ≤ 512 := by
      have hs := applyW_secs (wait.take k) (fun x hx => (hw x (List.mem_of_mem_take hx)).1) L hL
      rw [List.getD]
      cases hq : (applyW (wait.take k) L)[wait[k].1]? with
      | none => simp
      | some s => simp only [Option.getD_some]; rw [hs s (List.mem_of_getElem? hq)]; omega
    rw [show min (Int.toNat 1000) 512 = 512 from rfl, List.take_of_length_le (show wait[k].2.length ≤ 512 by omega), List.drop_of_length_le h2, List.append_nil]

theorem readW_apply (l : List (Nat × List UInt8)) (a : Nat) : ∀ L : List (List UInt8), a < L.length → readW l a (L.getD a []) = (applyW l L).getD a [] := by
  induction l with
  | nil => intro L _; rfl
  | cons x l ih =>
    intro L ha
    show readW l a (if x.1 = a then x.2 else L.getD a []) = (applyW l (L.set x.1 x.2)).getD a []
    rw [← ih (L.set x.1 x.2) (by simpa using ha)]
    congr 1
    by_cases h : x.1 = a
    · rw [if_pos h, h]; simp [List.getD, ha]
    · rw [if_neg h]; simp [List.getD, List.getElem?_set_ne h]

/-- DiskAll's plain law: behind all keeps what is read is what was read. -/
theorem all_read {d : Dk} (h : Sane d) (i : Nat) (hi : i < d.L.length) :
    (readD (crashD d (fullK d.wait.length)) (i : Int)).1 = 0 ∧ ((readD d (i : Int)).1 = 0 → (readD (crashD d (fullK d.wait.length)) (i : Int)).2 = (readD d (i : Int)).2) := by
  have hL : (crashD d (fullK d.wait.length)).L = applyW d.wait d.L := by
    show (fullK d.wait.length).foldl (keepD d.wait) d.L = _
    rw [keep_full d.wait d.L h.wait h.secs _ (Nat.le_refl _), List.take_of_length_le (Nat.le_refl _)]
  have e : readD (crashD d (fullK d.wait.length)) (i : Int) = (0, (applyW d.wait d.L).getD i []) := by
    rw [readD, if_neg (by rw [hL, applyW_length]; omega), if_neg (by simp [crashD]), hL]
    rfl
  rw [e]
  refine ⟨rfl, fun h0 => ?_⟩
  have e2 : readD d (i : Int) = if d.gone = true then (9, []) else (0, readW d.wait i (d.L.getD i [])) := by
    rw [readD, if_neg (by omega)]; rfl
  rw [e2] at h0 ⊢
  split at h0
  · cases h0
  · rename_i hg
    rw [if_neg hg, readW_apply d.wait i d.L hi]

/-- A flush that answers OK: nothing waits, and there is power. -/
theorem flush_yes {d : Dk} (h : (flushD d).1 = 0) : d.gone = false ∧ (flushD d).2 = { stepY d with L := applyW d.wait d.L, wait := [] } := by
  by_cases hg : d.gone = true ∨ d.fuse = 0
  · rw [flushD, stepD_no hg, if_pos rfl] at h; cases h
  · refine ⟨by cases hx : d.gone; · rfl
               · exact absurd (.inl hx) hg, ?_⟩
    rw [flushD, stepD_yes hg, if_neg (by simp)]
theorem crash_wait_nil {d : Dk} (h : d.wait = []) (kept : List (Int × Int)) : (crashD d kept).L = d.L := by
  show kept.foldl (keepD d.wait) d.L = d.L
  rw [h]
  induction kept with
  | nil => rfl
  | cons k kept ih => rw [List.foldl_cons, keepD, if_neg (by simp)]; exact ih
/-- DiskFlushed's plain law. -/
theorem flushed_read {d : Dk} (hw : d.wait = []) (hg : d.gone = false) (kept : List (Int × Int)) (i : Nat) (hi : i < d.L.length) :
    (readD d (i : Int)).1 = 0 ∧ readD (crashD d kept) (i : Int) = readD d (i : Int) := by
  have e1 : readD d (i : Int) = (0, d.L.getD i []) := by rw [readD, if_neg (by omega), if_neg (by simp [hg]), hw]; rfl
  refine ⟨by rw [e1], ?_⟩
  rw [e1, readD, crash_wait_nil hw, if_neg (by omega), if_neg (by simp [crashD])]
  rfl

/-- A disk of n sectors behind at most i calls. -/
structure Pl (d : Dk) (n i : Nat) : Prop where
  len : d.L.length = n
  steps : d.steps ≤ i
  wait : d.wait.length ≤ i
theorem Pl.start (n : Nat) : Pl { L := List.replicate n (zeros 512), wait := [], steps := 0, fuse := -1, gone := false } n 0 := ⟨by simp, Nat.le_refl _, Nat.le_refl _⟩
theorem Pl.up {d : Dk} {n i : Nat} (h : Pl d n i) : Pl d n (i + 1) := ⟨h.len, Nat.le_succ_of_le h.steps, Nat.le_succ_of_le h.wait⟩
theorem Pl.stepY {d : Dk} {n i : Nat} (h : Pl d n i) : (Ytadhibemadgcoaa.stepY d).steps ≤ i + 1 := by show d.steps + 1 ≤ i + 1; have := h.steps; omega
theorem Pl.write {d : Dk} {n i : Nat} (h : Pl d n i) (a : Int) (b : List UInt8) : Pl (writeD d a b).2 n (i + 1) := by
  unfold writeD
  split
  · exact h.up
  · split
    · exact h.up
    · by_cases hg : d.gone = true ∨ d.fuse = 0
      · rw [stepD_no hg, if_pos rfl]
        exact ⟨h.len, Nat.le_succ_of_le h.steps, Nat.le_succ_of_le h.wait⟩
      · rw [stepD_yes hg, if_neg (by simp)]
        exact ⟨h.len, h.stepY, by show (d.wait ++ [_]).length ≤ _; rw [List.length_append]; have := h.wait; simp; omega⟩
theorem Pl.flush {d : Dk} {n i : Nat} (h : Pl d n i) : Pl (flushD d).2 n (i + 1) := by
  unfold flushD
  by_cases hg : d.gone = true ∨ d.fuse = 0
  · rw [stepD_no hg, if_pos rfl]
    exact ⟨h.len, Nat.le_succ_of_le h.steps, Nat.le_succ_of_le h.wait⟩
  · rw [stepD_yes hg, if_neg (by simp)]
    exact ⟨by show (applyW d.wait d.L).length = n; rw [applyW_length]; exact h.len, h.stepY, Nat.zero_le _⟩
theorem Pl.fuse {d : Dk} {n i : Nat} (h : Pl d n i) (x : Int) : Pl (fuseD d x) n (i + 1) := ⟨h.len, Nat.le_succ_of_le h.steps, Nat.le_succ_of_le h.wait⟩
theorem keeps_length (wait : List (Nat × List UInt8)) (kept : List (Int × Int)) : ∀ L : List (List UInt8), (kept.foldl (keepD wait) L).length = L.length := by
  induction kept with
  | nil => intro L; rfl
  | cons k kept ih =>
    intro L
    rw [List.foldl_cons, ih]
    unfold keepD
    split
    · split
      · simp
      · rfl
    · rfl
theorem Pl.crash {d : Dk} {n i : Nat} (h : Pl d n i) (kept : List (Int × Int)) : Pl (crashD d kept) n (i + 1) :=
  ⟨by show (kept.foldl (keepD d.wait) d.L).length = n; rw [keeps_length]; exact h.len, Nat.zero_le _, Nat.zero_le _⟩

end Go.Proofs.Ytadhibemadgcoaa
