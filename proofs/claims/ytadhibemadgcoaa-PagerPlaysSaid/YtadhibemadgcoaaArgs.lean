/- What came in, read as lists: slices of bytes. Conditions: none. -/
import Derived.Test.YtadhibemadgcoaaBase
namespace Go.Proofs.Ytadhibemadgcoaa
open Go.RowKit

theorem blk_of_cell {w : World} {b o : Nat} {v : Value} (h : w.cell? ⟨b, o, none⟩ = some v) : ∃ cs e fz, w.heap[b]? = some (.cells cs e fz) ∧ cs[o]? = some v := by
  unfold World.cell? at h
  split at h
  · rename_i c e fz hb
    exact ⟨c, e, fz, hb, by simpa using h⟩
  · cases h

theorem u8_of {n : Int} (h : (Lit.int .u8 n).wf = true) : n = ((UInt8.ofNat n.toNat).toNat : Int) := by
  have hb : 0 ≤ n ∧ n ≤ 255 := by
    simp only [Lit.wf, Bool.and_eq_true, decide_eq_true_eq] at h
    have h1 : IntKind.u8.min = 0 := by decide
    have h2 : IntKind.u8.max = 255 := by decide
    rw [h1, h2] at h
    exact h
  rw [UInt8.toNat_ofNat', show (2 : Nat) ^ 8 = 256 from rfl]
  omega

/-- A slice of bytes that came in. -/
theorem bts_of_row {w : World} {a : Option Addr} {len cap : Nat} {zs : List Int}
    (h : (a = none ∧ len = 0 ∧ cap = 0 ∧ zs = []) ∨ ∃ x, a = some x ∧ len ≤ cap ∧ cap ≤ maxLen ∧ zs.length = cap ∧ (∀ i, i < zs.length → w.cell? (x.add i) = some (.int .u8 (zs.getD i 0))) ∧ ∀ n ∈ zs, (Lit.int .u8 n).wf = true) :
    ∃ l, l.length = len ∧ Bts w (.slice a len cap) l := by
  rcases h with ⟨rfl, rfl, rfl, rfl⟩ | ⟨x, rfl, h1, h2, h3, h4, h5⟩
  · exact ⟨[], rfl, .inl ⟨_, _, rfl, rfl⟩⟩
  · by_cases h0 : len = 0
    · subst h0
      exact ⟨[], rfl, .inl ⟨_, _, rfl, rfl⟩⟩
    · obtain ⟨b, off, spot⟩ := x
      have hc := h4 0 (by omega)
      have hspot : spot = none := by simpa [Addr.add] using World.cell?_spot hc
      subst hspot
      rw [add_plain] at hc
      obtain ⟨cs, e, fz, hb, _⟩ := blk_of_cell hc
      refine ⟨(zs.take len).map fun n => UInt8.ofNat n.toNat, by simp; omega, .inr ⟨b, off, cap, cs, e, fz, by simp; omega, by simp; omega, hb, fun j hj => ?_⟩⟩
      simp at hj
      have hcj := h4 j (by omega)
      rw [add_plain, cell_blk hb] at hcj
      rw [hcj]
      have hz : zs[j]? = some (zs[j]'(by omega)) := List.getElem?_eq_getElem (by omega)
      have hw := u8_of (h5 (zs[j]'(by omega)) (List.getElem_mem _))
      simp only [List.getD, hz, Option.getD_some, List.getElem_map, List.getElem_take]
      rw [← hw]

end Go.Proofs.Ytadhibemadgcoaa
