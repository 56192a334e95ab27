/- What came in, read as lists: slices of strings, slices of ints. Conditions: none. -/
import Derived.Test.YtadhibemadgcoaaPgTwo
import Derived.Test.YtadhibemadgcoaaArgs2
namespace Go.Proofs.Ytadhibemadgcoaa
open Go.RowKit Go.ChangeShapes Go.WideShapes

section
variable {H : Type} {enc : TypeId × Value → H} {w : World} {base : Nat} {spare : Nat → Bool} {held : Bool}
theorem strs_of {fuel : Nat} {cs : List Value} {x : DataW H × List MemPlace} (h : DataW.trod enc Try.prog w base spare held fuel 89 cs = some x) :
    ∃ v l, cs = [v] ∧ Strs w v l := by
  have ce : Try.prog.cellsOf 9 = 1 := by kernel_rfl
  rcases Go.Deep.open_slice Try.underlying89 h with ⟨hc, _⟩ | ⟨a, len, cap, m, n, D, Pl, hc, _, hl, hm, hmm, _, hall⟩
  · exact ⟨_, [], hc, .inl ⟨_, _, rfl, rfl⟩⟩
  · have hlm : len ≤ m := by rw [hmm]; split <;> omega
    by_cases h0 : len = 0
    · subst h0
      exact ⟨_, [], hc, .inl ⟨_, _, rfl, rfl⟩⟩
    · have hcells : ∀ i, i < len → ∃ s : ByteArray, w.cell? (a.add i) = some (.string s) := by
        intro i hi
        obtain ⟨cs', h1, h2⟩ := hall i (by omega)
        rw [ce] at h1
        obtain ⟨_, _, hcell⟩ := World.cells?_some h1
        obtain ⟨s, g, _, _⟩ := DataW.trod_string Try.underlying9 h2
        have := hcell 0 (by omega)
        rw [Go.Deep.add_add, g] at this
        exact ⟨s, by simpa using this⟩
      obtain ⟨s0, e0⟩ := hcells 0 (by omega)
      have e00 : w.cell? a = some (.string s0) := by simpa [Addr.add] using e0
      obtain ⟨b, off, cs', e', fz, rfl, hb⟩ := row_of_cells e00
      have each : ∀ i, i < len → ∃ s : ByteArray, cs'[off + i]? = some (.string s) := by
        intro i hi
        obtain ⟨s, hs⟩ := hcells i hi
        rw [add_plain, cell_blk hb] at hs
        exact ⟨s, hs⟩
      obtain ⟨q, hq⟩ := Go.Deep.choose_lt each
      refine ⟨_, (List.range len).map q, hc, .inr ⟨b, off, cap, cs', e', fz, by simp, hb, fun j y hy => ?_⟩⟩
      have hj : j < len := by have := (List.getElem?_eq_some_iff.1 hy).1; simpa using this
      simp [hj] at hy
      subst hy
      exact hq j hj
theorem ints_of {fuel : Nat} {cs : List Value} {x : DataW H × List MemPlace} (h : DataW.trod enc Try.prog w base spare held fuel 90 cs = some x) :
    ∃ v l, cs = [v] ∧ Ints w v l := by
  have ce : Try.prog.cellsOf 3 = 1 := by kernel_rfl
  rcases Go.Deep.open_slice Try.underlying90 h with ⟨hc, _⟩ | ⟨a, len, cap, m, n, D, Pl, hc, _, hl, hm, hmm, _, hall⟩
  · exact ⟨_, [], hc, .inl ⟨_, _, rfl, rfl⟩⟩
  · have hlm : len ≤ m := by rw [hmm]; split <;> omega
    by_cases h0 : len = 0
    · subst h0
      exact ⟨_, [], hc, .inl ⟨_, _, rfl, rfl⟩⟩
    · have hcells : ∀ i, i < len → ∃ s : Int, w.cell? (a.add i) = some (.int .i64 s) := by
        intro i hi
        obtain ⟨cs', h1, h2⟩ := hall i (by omega)
        rw [ce] at h1
        obtain ⟨_, _, hcell⟩ := World.cells?_some h1
        obtain ⟨s, g, _, _⟩ := DataW.trod_int Try.underlying3 h2
        have := hcell 0 (by omega)
        rw [Go.Deep.add_add, g] at this
        exact ⟨s, by simpa using this⟩
      obtain ⟨s0, e0⟩ := hcells 0 (by omega)
      have e00 : w.cell? a = some (.int .i64 s0) := by simpa [Addr.add] using e0
      obtain ⟨b, off, cs', e', fz, rfl, hb⟩ := row_of_cells e00
      have each : ∀ i, i < len → ∃ s : Int, cs'[off + i]? = some (.int .i64 s) := by
        intro i hi
        obtain ⟨s, hs⟩ := hcells i hi
        rw [add_plain, cell_blk hb] at hs
        exact ⟨s, hs⟩
      obtain ⟨q, hq⟩ := Go.Deep.choose_lt each
      refine ⟨_, (List.range len).map q, hc, .inr ⟨b, off, cap, cs', e', fz, by simp, hb, fun j y hy => ?_⟩⟩
      have hj : j < len := by have := (List.getElem?_eq_some_iff.1 hy).1; simpa using this
      simp [hj] at hy
      subst hy
      exact hq j hj
end

end Go.Proofs.Ytadhibemadgcoaa
