/- Plain laws of a pager on a disk with power. Conditions: as each lemma says. -/
import Derived.Test.YtadhibemadgcoaaPgJ
namespace Go.Proofs.Ytadhibemadgcoaa
open Go.RowKit

/-- A disk of n sectors with power and without a fuse, behind at most k steps. -/
structure Hl (d : Dk) (n k : Nat) : Prop where
  len : d.L.length = n
  fuse : d.fuse < 0
  gone : d.gone = false
  sane : Sane d
  steps : d.steps ≤ k
  wl : d.wait.length ≤ k
/-- What is read of a sector. -/
def cont (d : Dk) (i : Nat) : List UInt8 := readW d.wait i (d.L.getD i [])
theorem Hl.go {d : Dk} {n k : Nat} (h : Hl d n k) : ¬ (d.gone = true ∨ d.fuse = 0) := fun x => by
  have h1 := h.fuse
  rcases x with x | x
  · rw [h.gone] at x; cases x
  · omega
theorem Hl.stp {d : Dk} {n k : Nat} (h : Hl d n k) : (Ytadhibemadgcoaa.stepY d).fuse < 0 ∧ (Ytadhibemadgcoaa.stepY d).gone = false ∧ (Ytadhibemadgcoaa.stepY d).steps ≤ k + 1 := by
  refine ⟨?_, h.gone, ?_⟩
  · show (if 0 < d.fuse then d.fuse - 1 else d.fuse) < 0
    have := h.fuse
    rw [if_neg (by omega)]; exact this
  · show d.steps + 1 ≤ _; have := h.steps; omega
theorem Hl.up {d : Dk} {n k m : Nat} (h : Hl d n k) (hm : k ≤ m) : Hl d n m := ⟨h.len, h.fuse, h.gone, h.sane, Nat.le_trans h.steps hm, Nat.le_trans h.wl hm⟩
theorem Hl.write {d : Dk} {n k : Nat} (h : Hl d n k) (i : Nat) (b : List UInt8) (hi : i < n) (hb : b.length = 512) :
    (writeD d (i : Int) b).1 = 0 ∧ Hl (writeD d (i : Int) b).2 n (k + 1) ∧ ∀ j, cont (writeD d (i : Int) b).2 j = if j = i then b else cont d j := by
  have e : writeD d (i : Int) b = (0, { stepY d with wait := d.wait ++ [(i, b)] }) := by
    rw [writeD, if_neg (by omega), if_neg (by rw [h.len]; omega), stepD_yes h.go, if_neg (by simp)]; rfl
  rw [e]
  obtain ⟨h1, h2, h3⟩ := h.stp
  refine ⟨rfl, ⟨h.len, h1, h2, ⟨h.sane.n1, h.sane.n2, fun x hx => ?_, h.sane.secs⟩, h3, by show (d.wait ++ [_]).length ≤ _; rw [List.length_append]; have := h.wl; simp; omega⟩, fun j => ?_⟩
  · rcases List.mem_append.1 hx with hx | hx
    · exact h.sane.wait x hx
    · simp at hx; subst hx; exact ⟨hb, by show i < d.L.length; rw [h.len]; exact hi⟩
  · show readW (d.wait ++ [(i, b)]) j (d.L.getD j []) = _
    rw [readW_snoc]
    by_cases hj : j = i
    · rw [if_pos hj, if_pos hj.symm]
    · rw [if_neg hj, if_neg (fun e => hj e.symm)]; rfl
theorem Hl.flush {d : Dk} {n k : Nat} (h : Hl d n k) : (flushD d).1 = 0 ∧ Hl (flushD d).2 n (k + 1) ∧ (flushD d).2.wait = [] ∧ ∀ j, j < n → cont (flushD d).2 j = cont d j := by
  have e : flushD d = (0, { stepY d with L := applyW d.wait d.L, wait := [] }) := by rw [flushD, stepD_yes h.go, if_neg (by simp)]
  rw [e]
  obtain ⟨h1, h2, h3⟩ := h.stp
  refine ⟨rfl, ⟨by show (applyW d.wait d.L).length = n; rw [applyW_length]; exact h.len, h1, h2, ⟨by show 1 ≤ (applyW d.wait d.L).length; rw [applyW_length]; exact h.sane.n1, by show (applyW d.wait d.L).length ≤ 4096; rw [applyW_length]; exact h.sane.n2, by simp, applyW_secs _ (fun x hx => (h.sane.wait x hx).1) _ h.sane.secs⟩, h3, Nat.zero_le _⟩, rfl, fun j hj => ?_⟩
  show readW [] j ((applyW d.wait d.L).getD j []) = readW d.wait j (d.L.getD j [])
  exact (readW_apply d.wait j d.L (by rw [h.len]; exact hj)).symm
theorem Hl.read {d : Dk} {n k : Nat} (h : Hl d n k) (i : Nat) (hi : i < n) : readD d (i : Int) = (0, cont d i) := by
  rw [readD, if_neg (by rw [h.len]; omega), if_neg (by rw [h.gone]; simp)]; rfl
theorem Hl.new (n : Nat) (h1 : 1 ≤ n) (h2 : n ≤ 4096) : Hl { L := List.replicate n (zeros 512), wait := [], steps := 0, fuse := -1, gone := false } n 0 :=
  ⟨by simp, by simp, rfl, ⟨by simpa using h1, by simpa using h2, by simp, fun l hl => by rw [(List.mem_replicate.1 hl).2]; exact zeros_length _⟩, Nat.le_refl _, Nat.le_refl _⟩
theorem cont_new (n i : Nat) (hi : i < n) : cont { L := List.replicate n (zeros 512), wait := [], steps := 0, fuse := -1, gone := false } i = zeros 512 := by
  show (List.replicate n (zeros 512)).getD i [] = _
  rw [List.getD, List.getElem?_replicate, if_pos hi]; rfl

theorem Hl.root {d : Dk} {n k : Nat} (h : Hl d n k) (g : Nat) (b : List UInt8) (hn : 4 ≤ n) (hb : b.length = 512) :
    (rootW d g b).1 = 0 ∧ Hl (rootW d g b).2 n (k + 3) ∧ (rootW d g b).2.wait = [] ∧ ∀ j, j < n → cont (rootW d g b).2 j = if j = g % 2 then b else cont d j := by
  obtain ⟨a1, a2, a3, a4⟩ := h.flush
  obtain ⟨b1, b2, b3⟩ := a2.write (g % 2) b (by omega) hb
  obtain ⟨c1, c2, c3, c4⟩ := b2.flush
  have e : rootW d g b = flushD (writeD (flushD d).2 ((g % 2 : Nat) : Int) b).2 := by
    unfold rootW; rw [if_neg (by rw [a1]; simp), if_neg (by rw [b1]; simp)]
  rw [e]
  refine ⟨c1, c2, c3, fun j hj => ?_⟩
  rw [c4 j hj, b3 j]
  by_cases hjg : j = g % 2
  · rw [if_pos hjg, if_pos hjg]
  · rw [if_neg hjg, if_neg hjg, a4 j hj]

/-- Format. -/
theorem Hl.format {d : Dk} {n k : Nat} (h : Hl d n k) (hn : 4 ≤ n) :
    (formatD d).1 = 0 ∧ Hl (formatD d).2 n (k + 5) ∧ (formatD d).2.wait = [] ∧ ∀ j, j < n → cont (formatD d).2 j = if j = 0 then zeros 512 else if j = 1 then rootB 1 [] else cont d j := by
  have e0 : srootL 1 [] = rootB 1 [] := rfl
  obtain ⟨a1, a2, a3⟩ := h.write 0 (zeros 512) (by omega) (zeros_length _)
  obtain ⟨b1, b2, b3⟩ := a2.write 1 (zeros 512) (by omega) (zeros_length _)
  obtain ⟨c1, c2, c3, c4⟩ := b2.flush
  obtain ⟨d1, d2, d3⟩ := c2.write 1 (rootB 1 []) (by omega) (by rw [rootB_length])
  obtain ⟨f1, f2, f3, f4⟩ := d2.flush
  have e : formatD d = flushD (writeD (flushD (writeD (writeD d ((0 : Nat) : Int) (zeros 512)).2 ((1 : Nat) : Int) (zeros 512)).2).2 ((1 : Nat) : Int) (rootB 1 [])).2 := by
    unfold formatD
    rw [if_neg (by rw [h.len]; omega), e0]
    unfold fmtL
    have a1' : (writeD d 0 (zeros 512)).1 = 0 := a1
    have b1' : (writeD (writeD d 0 (zeros 512)).2 1 (zeros 512)).1 = 0 := b1
    have c1' : (flushD (writeD (writeD d 0 (zeros 512)).2 1 (zeros 512)).2).1 = 0 := c1
    have d1' : (writeD (flushD (writeD (writeD d 0 (zeros 512)).2 1 (zeros 512)).2).2 1 (rootB 1 [])).1 = 0 := d1
    have f1' : (flushD (writeD (flushD (writeD (writeD d 0 (zeros 512)).2 1 (zeros 512)).2).2 1 (rootB 1 [])).2).1 = 0 := f1
    simp only [chD, a1', b1', c1', d1', f1', ne_eq, not_true_eq_false, if_false]
    generalize flushD (writeD (flushD (writeD (writeD d 0 (zeros 512)).2 1 (zeros 512)).2).2 1 (rootB 1 [])).2 = R at f1' ⊢
    obtain ⟨r1, r2⟩ := R
    cases f1'; rfl
  rw [e]
  refine ⟨f1, f2, f3, fun j hj => ?_⟩
  rw [f4 j hj, d3 j]
  by_cases h1 : j = 1
  · rw [if_pos h1, if_neg (by omega), if_pos h1]
  · rw [if_neg h1, c4 j hj, b3 j, if_neg h1, a3 j]
    by_cases h0 : j = 0
    · rw [if_pos h0, if_pos h0]
    · rw [if_neg h0, if_neg h0, if_neg h1]

theorem rootL_zeros : rootL (zeros 512) = none := by
  unfold rootL
  rw [if_neg]
  intro h
  have h1 := h.2.2.1.1
  have e : rdl ((zeros 512).take 8) = 0 := by rw [zeros, List.take_replicate]; rfl
  omega

/-- What Open finds on a disk with these two roots. -/
theorem Hl.open_ {d : Dk} {n k : Nat} (h : Hl d n k) (hn : 4 ≤ n) : openE d = (if (pickR 1 (cont d 1) (pickR 0 (cont d 0) (0, []))).1 = 0 then 10 else 0) ∧ accR d 2 = pickR 1 (cont d 1) (pickR 0 (cont d 0) (0, [])) := by
  have e : accR d 2 = pickR 1 (cont d 1) (pickR 0 (cont d 0) (0, [])) := by
    show pickR 1 (readD d ((1 : Nat) : Int)).2 (pickR 0 (readD d ((0 : Nat) : Int)).2 (0, [])) = _
    rw [h.read 1 (by omega), h.read 0 (by omega)]
  refine ⟨?_, e⟩
  unfold openE
  rw [if_neg (by rw [h.len]; omega), if_neg (by rw [h.gone]; simp), e]

end Go.Proofs.Ytadhibemadgcoaa
