/- What came in, read as lists: slices of keeps, slices of calls. Conditions: none. -/
import Derived.Test.YtadhibemadgcoaaDiskO
import Derived.Test.YtadhibemadgcoaaArgs
import Derived.Deep.SlicePairs
import Derived.Deep.Fields
namespace Go.Proofs.Ytadhibemadgcoaa
open Go.RowKit Go.ChangeShapes Go.WideShapes

section
variable {H : Type} {enc : TypeId × Value → H} {w : World} {base : Nat} {spare : Nat → Bool} {held : Bool}

/-- One field of a struct, one cell. -/
theorem elem_field {P : Program} {e : TypeId} {fs : Array Field} {n : Nat} {cs : List Value} {y : DataW H × List MemPlace} (he : P.underlying e = some (.struct fs)) (h : DataW.trod enc P w base spare held n e cs = some y)
    (i : Nat) (f : Field) (hf : fs[i]? = some f) (ho : f.offset = i) (hc : P.cellsOf f.type = 1) (hi : i < cs.length) : ∃ u m z, cs[i]? = some u ∧ DataW.trod enc P w base spare held m f.type [u] = some z := by
  obtain ⟨xs, k, _, _, _, hxl, hall⟩ := DataW.trod_struct he h
  have hg := hall i f hf
  have hlt : i < fs.size := (Array.getElem?_eq_some_iff.1 hf).1
  rw [ho, hc, Go.Deep.take1_drop cs i undef hi, List.getElem?_eq_getElem (by omega)] at hg
  exact ⟨cs.getD i undef, k, _, by simp [List.getD, List.getElem?_eq_getElem hi], hg⟩

/-- The cells of a row whose first one is there. -/
theorem row_of_cells {a : Addr} {v : Value} (h : w.cell? a = some v) : ∃ b off cs e fz, a = ⟨b, off, none⟩ ∧ w.heap[b]? = some (.cells cs e fz) := by
  obtain ⟨b, off, spot⟩ := a
  have hspot : spot = none := by simpa using World.cell?_spot h
  subst hspot
  obtain ⟨cs, e, fz, hb, _⟩ := blk_of_cell h
  exact ⟨b, off, cs, e, fz, rfl, hb⟩

theorem kps_of {fuel : Nat} {cs : List Value} {x : DataW H × List MemPlace} (h : DataW.trod enc Try.prog w base spare held fuel 23 cs = some x) :
    ∃ v l, cs = [v] ∧ Kps w v l := by
  rcases Go.Deep.open_slice_pairs Try.underlying23 Try.underlying62 (by kernel_rfl) rfl rfl (by kernel_rfl) (by kernel_rfl) h with ⟨hc, _⟩ | ⟨a, len, cap, m, k, V0, V1, D0, D1, P0, P1, hc, _, hl, hm, hmm, _, hall⟩
  · exact ⟨_, [], hc, .inl ⟨_, _, rfl, rfl⟩⟩
  · have hlm : len ≤ m := by rw [hmm]; split <;> omega
    by_cases h0 : len = 0
    · subst h0
      exact ⟨_, [], hc, .inl ⟨_, _, rfl, rfl⟩⟩
    · have e0 := (hall 0 (by omega)).1
      rw [Nat.zero_mul] at e0
      have e00 : w.cell? a = some (V0 0) := by simpa [Addr.add] using e0
      obtain ⟨b, off, cs', e', fz, rfl, hb⟩ := row_of_cells e00
      have each : ∀ i, i < len → ∃ q : Int × Int, cs'[off + i * 2]? = some (.int .i64 q.1) ∧ cs'[off + i * 2 + 1]? = some (.int .i64 q.2) := by
        intro i hi
        obtain ⟨h1, h2, h3, h4⟩ := hall i (by omega)
        obtain ⟨n0, g0, _, _⟩ := DataW.trod_int Try.underlying3 h3
        obtain ⟨n1, g1, _, _⟩ := DataW.trod_int Try.underlying3 h4
        simp only [List.cons.injEq, and_true] at g0 g1
        rw [add_plain, cell_blk hb] at h1 h2
        exact ⟨(n0, n1), by rw [h1, g0], by rw [Nat.add_assoc, h2, g1]⟩
      obtain ⟨q, hq⟩ := Go.Deep.choose_lt each
      refine ⟨_, (List.range len).map q, hc, .inr ⟨b, off, cap, cs', e', fz, by simp, hb, fun j y hy => ?_⟩⟩
      have hj : j < len := by have := (List.getElem?_eq_some_iff.1 hy).1; simpa using this
      simp [hj] at hy
      subst hy
      exact hq j hj

theorem Acs.form {w : World} {v : Value} {l : List AcV} (h : Acs w v l) : ∃ a cap, v = .slice a l.length cap := by
  rcases h with ⟨a, cap, rfl, rfl⟩ | ⟨b, off, cap, cs, e, fz, rfl, _⟩
  · exact ⟨a, cap, rfl⟩
  · exact ⟨_, cap, rfl⟩
instance : Inhabited AcV := ⟨⟨0, 0, 0, 0, .int .i64 0, []⟩⟩

theorem acs_of {fuel : Nat} {cs : List Value} {x : DataW H × List MemPlace} (h : DataW.trod enc Try.prog w base spare held fuel 22 cs = some x) :
    ∃ v l, cs = [v] ∧ Acs w v l := by
  have ce : Try.prog.cellsOf 33 = 5 := by kernel_rfl
  rcases Go.Deep.open_slice Try.underlying22 h with ⟨hc, _⟩ | ⟨a, len, cap, m, n, D, Pl, hc, _, hl, hm, hmm, _, hall⟩
  · exact ⟨_, [], hc, .inl ⟨_, _, rfl, rfl⟩⟩
  · have hlm : len ≤ m := by rw [hmm]; split <;> omega
    by_cases h0 : len = 0
    · subst h0
      exact ⟨_, [], hc, .inl ⟨_, _, rfl, rfl⟩⟩
    · have hcells : ∀ i, i < len → ∃ cs', cs'.length = 5 ∧ (∀ j, j < 5 → w.cell? (a.add (i * 5 + j)) = cs'[j]?) ∧ DataW.trod enc Try.prog w base spare held n 33 cs' = some (D i, Pl i) := by
        intro i hi
        obtain ⟨cs', h1, h2⟩ := hall i (by omega)
        rw [ce] at h1
        obtain ⟨_, hlen, hcell⟩ := World.cells?_some h1
        refine ⟨cs', hlen, fun j hj => ?_, h2⟩
        have := hcell j hj
        rwa [Go.Deep.add_add] at this
      obtain ⟨c0, hl0, hc0, _⟩ := hcells 0 (by omega)
      have e0 := hc0 0 (by omega)
      rw [List.getElem?_eq_getElem (by omega)] at e0
      have e00 : w.cell? a = some (c0[0]'(by omega)) := by simpa [Addr.add] using e0
      obtain ⟨b, off, cs', e', fz, rfl, hb⟩ := row_of_cells e00
      have each : ∀ i, i < len → ∃ y : AcV, cs'[off + i * 5]? = some (.int .i64 y.kind) ∧ cs'[off + i * 5 + 1]? = some (.int .i64 y.at_) ∧ cs'[off + i * 5 + 2]? = some (.int .i64 y.n) ∧ cs'[off + i * 5 + 3]? = some (.int .u8 (y.by_.toNat : Int)) ∧
          cs'[off + i * 5 + 4]? = some y.kv ∧ Kps w y.kv y.kept ∧ y.n ≤ 9223372036854775807 := by
        intro i hi
        obtain ⟨d, hdl, hdc, hd⟩ := hcells i hi
        obtain ⟨u0, m0, z0, g0, t0⟩ := elem_field Try.underlying33 hd 0 _ rfl rfl (by kernel_rfl) (by omega)
        obtain ⟨u1, m1, z1, g1, t1⟩ := elem_field Try.underlying33 hd 1 _ rfl rfl (by kernel_rfl) (by omega)
        obtain ⟨u2, m2, z2, g2, t2⟩ := elem_field Try.underlying33 hd 2 _ rfl rfl (by kernel_rfl) (by omega)
        obtain ⟨u3, m3, z3, g3, t3⟩ := elem_field Try.underlying33 hd 3 _ rfl rfl (by kernel_rfl) (by omega)
        obtain ⟨u4, m4, z4, g4, t4⟩ := elem_field Try.underlying33 hd 4 _ rfl rfl (by kernel_rfl) (by omega)
        obtain ⟨n0, f0, _, _⟩ := DataW.trod_int Try.underlying3 t0
        obtain ⟨n1, f1, _, _⟩ := DataW.trod_int Try.underlying3 t1
        obtain ⟨n2, f2, _, w2⟩ := DataW.trod_int Try.underlying3 t2
        obtain ⟨n3, f3, _, w3⟩ := DataW.trod_int Try.underlying5 t3
        obtain ⟨kv, kl, f4, hk⟩ := kps_of t4
        simp only [List.cons.injEq, and_true] at f0 f1 f2 f3 f4
        subst f0 f1 f2 f3 f4
        have cell := fun j hj => (by have := hdc j hj; rw [add_plain, cell_blk hb, ← Nat.add_assoc] at this; exact this : cs'[off + i * 5 + j]? = d[j]?)
        refine ⟨⟨n0, n1, n2, UInt8.ofNat n3.toNat, _, kl⟩, ?_, ?_, ?_, ?_, ?_, hk, ?_⟩
        · rw [← g0, ← cell 0 (by omega)]; rfl
        · rw [cell 1 (by omega), g1]
        · rw [cell 2 (by omega), g2]
        · rw [cell 3 (by omega), g3, ← u8_of w3]
        · rw [cell 4 (by omega), g4]
        · show n2 ≤ _
          simp only [Lit.wf, Bool.and_eq_true, decide_eq_true_eq] at w2
          have h2 : IntKind.i64.max = 9223372036854775807 := by decide
          rw [h2] at w2
          exact w2.2
      obtain ⟨q, hq⟩ := Go.Deep.choose_lt each
      refine ⟨_, (List.range len).map q, hc, .inr ⟨b, off, cap, cs', e', fz, by simp, hb, fun j y hy => ?_⟩⟩
      have hj : j < len := by have := (List.getElem?_eq_some_iff.1 hy).1; simpa using this
      simp [hj] at hy
      subst hy
      exact hq j hj
end

end Go.Proofs.Ytadhibemadgcoaa
