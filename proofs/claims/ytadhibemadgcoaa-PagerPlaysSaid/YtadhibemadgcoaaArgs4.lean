/- The pager laws' calls as an argument: opened. Conditions: as each theorem says. -/
import Derived.Test.YtadhibemadgcoaaPlA
import Derived.Test.YtadhibemadgcoaaArgs2
namespace Go.Proofs.Ytadhibemadgcoaa
open Go.RowKit

section
variable {H : Type} {enc : TypeId × Value → H} {w : World} {base : Nat} {spare : Nat → Bool} {held : Bool}
instance : Inhabited AcP := ⟨⟨0, 0, 0, ⟨#[]⟩, .int .i64 0, []⟩⟩

theorem aps_of {fuel : Nat} {cs : List Value} {x : DataW H × List MemPlace} (h : DataW.trod enc Try.prog w base spare held fuel 104 cs = some x) :
    ∃ v l, cs = [v] ∧ Aps w v l := by
  have ce : Try.prog.cellsOf 112 = 5 := by kernel_rfl
  rcases Go.Deep.open_slice Try.underlying104 h with ⟨hc, _⟩ | ⟨a, len, cap, m, n, D, Pl, hc, _, hl, hm, hmm, _, hall⟩
  · exact ⟨_, [], hc, .inl ⟨_, _, rfl, rfl⟩⟩
  · have hlm : len ≤ m := by rw [hmm]; split <;> omega
    by_cases h0 : len = 0
    · subst h0
      exact ⟨_, [], hc, .inl ⟨_, _, rfl, rfl⟩⟩
    · have hcells : ∀ i, i < len → ∃ cs', cs'.length = 5 ∧ (∀ j, j < 5 → w.cell? (a.add (i * 5 + j)) = cs'[j]?) ∧ DataW.trod enc Try.prog w base spare held n 112 cs' = some (D i, Pl i) := by
        intro i hi
        obtain ⟨cs', h1, h2⟩ := hall i (by omega)
        rw [ce] at h1
        obtain ⟨_, hlen, hcell⟩ := World.cells?_some h1
        refine ⟨cs', hlen, fun j hj => ?_, h2⟩
        have := hcell j hj
        rwa [Go.Deep.add_add] at this
      obtain ⟨c0, hl0, hc0, _⟩ := hcells 0 (by omega)
      have e0 := hc0 0 (by omega)
      rw [List.getElem?_eq_getElem (by omega)] at e0
      have e00 : w.cell? a = some (c0[0]'(by omega)) := by simpa [Addr.add] using e0
      obtain ⟨b, off, cs', e', fz, rfl, hb⟩ := row_of_cells e00
      have each : ∀ i, i < len → ∃ y : AcP, cs'[off + i * 5]? = some (.int .i64 y.kind) ∧ cs'[off + i * 5 + 1]? = some (.int .i64 y.n) ∧ cs'[off + i * 5 + 2]? = some (.int .i64 y.m) ∧ cs'[off + i * 5 + 3]? = some (.string y.s) ∧
          cs'[off + i * 5 + 4]? = some y.kv ∧ Kps w y.kv y.kept ∧ (Lit.int .i64 y.n).wf = true ∧ (Lit.int .i64 y.m).wf = true := by
        intro i hi
        obtain ⟨d, hdl, hdc, hd⟩ := hcells i hi
        obtain ⟨u0, m0, z0, g0, t0⟩ := elem_field Try.underlying112 hd 0 _ rfl rfl (by kernel_rfl) (by omega)
        obtain ⟨u1, m1, z1, g1, t1⟩ := elem_field Try.underlying112 hd 1 _ rfl rfl (by kernel_rfl) (by omega)
        obtain ⟨u2, m2, z2, g2, t2⟩ := elem_field Try.underlying112 hd 2 _ rfl rfl (by kernel_rfl) (by omega)
        obtain ⟨u3, m3, z3, g3, t3⟩ := elem_field Try.underlying112 hd 3 _ rfl rfl (by kernel_rfl) (by omega)
        obtain ⟨u4, m4, z4, g4, t4⟩ := elem_field Try.underlying112 hd 4 _ rfl rfl (by kernel_rfl) (by omega)
        obtain ⟨n0, f0, _, _⟩ := DataW.trod_int Try.underlying3 t0
        obtain ⟨n1, f1, _, w1⟩ := DataW.trod_int Try.underlying3 t1
        obtain ⟨n2, f2, _, w2⟩ := DataW.trod_int Try.underlying3 t2
        obtain ⟨s3, f3, _, _⟩ := DataW.trod_string Try.underlying9 t3
        obtain ⟨kv, kl, f4, hk⟩ := kps_of t4
        simp only [List.cons.injEq, and_true] at f0 f1 f2 f3 f4
        subst f0 f1 f2 f3 f4
        have cell := fun j hj => (by have := hdc j hj; rw [add_plain, cell_blk hb, ← Nat.add_assoc] at this; exact this : cs'[off + i * 5 + j]? = d[j]?)
        refine ⟨⟨n0, n1, n2, s3, _, kl⟩, ?_, ?_, ?_, ?_, ?_, hk, w1, w2⟩
        · rw [← g0, ← cell 0 (by omega)]; rfl
        · rw [cell 1 (by omega), g1]
        · rw [cell 2 (by omega), g2]
        · rw [cell 3 (by omega), g3]
        · rw [cell 4 (by omega), g4]
      obtain ⟨q, hq⟩ := Go.Deep.choose_lt each
      refine ⟨_, (List.range len).map q, hc, .inr ⟨b, off, cap, cs', e', fz, by simp, hb, fun j y hy => ?_⟩⟩
      have hj : j < len := by have := (List.getElem?_eq_some_iff.1 hy).1; simpa using this
      simp [hj] at hy
      subst hy
      exact hq j hj
end

end Go.Proofs.Ytadhibemadgcoaa
