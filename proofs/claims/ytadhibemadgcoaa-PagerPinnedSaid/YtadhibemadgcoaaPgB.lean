/- Package pager: low, settle. Conditions: as each theorem says. -/
import Derived.Test.YtadhibemadgcoaaPgA
namespace Go.Proofs.Ytadhibemadgcoaa
open Go.RowKit Go.MapKept Go.Maps

theorem cnt_ne {pins : List Nat} {g : Nat} : cnt pins (g : Int) ≠ 0 ↔ g ∈ pins := by
  unfold cnt
  constructor
  · intro h
    obtain ⟨x, hx⟩ := List.exists_mem_of_length_pos (Nat.pos_of_ne_zero h)
    obtain ⟨h1, h2⟩ := List.mem_filter.1 hx
    have h3 : (x : Int) = (g : Int) := by simpa using h2
    have : x = g := by omega
    exact this ▸ h1
  · intro h e
    have : g ∈ pins.filter fun (x : Nat) => (x : Int) == (g : Int) := List.mem_filter.2 ⟨h, by simp⟩
    rw [List.eq_nil_of_length_eq_zero e] at this
    cases this
theorem cnt_neg {pins : List Nat} {g : Int} (h : cnt pins g ≠ 0) : ∃ x ∈ pins, (x : Int) = g := by
  unfold cnt at h
  obtain ⟨x, hx⟩ := List.exists_mem_of_length_pos (Nat.pos_of_ne_zero h)
  obtain ⟨h1, h2⟩ := List.mem_filter.1 hx
  exact ⟨x, h1, by simpa using h2⟩

/-- X is the lowest pin. -/
def LowIs (pins : List Nat) (X : Int) : Prop := (∀ g ∈ pins, X ≤ (g : Int)) ∧ (X = 9223372036854775807 ∨ ∃ g ∈ pins, X = (g : Int))
def LowPost (w : World) (pins : List Nat) (e : Ending) (w' : World) : Prop := ∃ X, e = .returned (.int .i64 X) ∧ LowIs pins X ∧ Ch (fun _ => False) w w'

theorem ch_of_grown {w w' : World} {r : Nat} (h : w.grownBy w' (some r)) : Ch (fun k => k = r) w w' := (Ch.refl _ w).grown h (fun k hk _ => by cases hk; rfl)
theorem ch_of_grown0 {w w' : World} (h : w.grownBy w' none) : Ch (fun _ => False) w w' := (Ch.refl _ w).grown h (fun k hk _ => by cases hk)

/-- What the round knows of the lowest. -/
def LowTill (pins : List Nat) (left : Lit → Bool) (X : Int) : Prop := (∀ g ∈ pins, (Lit.int .i64 (g : Int)).wf = true → left (.int .i64 (g : Int)) = false → X ≤ (g : Int)) ∧ (X = 9223372036854775807 ∨ ∃ g ∈ pins, X = (g : Int))

set_option maxRecDepth 20000 in
set_option maxHeartbeats 1000000 in
theorem low_any {pp dp gb mb : Nat} {p : Pg} {M F O : Nat → Prop} (w : World) (h : PgX w pp dp gb mb p M F O) : Calls Try.prog 112 #[.pointer (some ⟨pp, 0, none⟩)] w (LowPost w p.pins) := by
  obtain ⟨h1, -⟩ := h
  have hp := h1.pn
  have c4 := cell_blk h1.hp 4
  simp at c4
  obtain ⟨D, hown, hmap, hD⟩ := h1.hm
  have HD := hid hD
  have HP := hid hp
  clear h1 hD hp
  go_enter Try.func112, Try.ntmps112
  go_wp2_with (first
    | (at_range; refine wpList_range_own _ rfl _ 151 rfl 3 3 (int_keyed Try.underlying3) Try.underlying151 _ mb _ _ rfl hown ?_; intro w0 hrg0 hg0 hs0)
    | go_in)
  go_frame
  have HG := hid (ch_of_grown0 hg0)
  clear hg0 hs0
  go_loopw [3] (fun x wr => ∃ (X : Int) (left : Lit → Bool) (c : Nat), x = .int .i64 X ∧ wr.ranges Try.prog 3 (plainElem Try.prog 3) mb w.heap.size p.ops D left c ∧ Hid (Ch (fun _ => False) w wr) ∧ Hid (LowTill p.pins left X) ∧ Hid (X ≤ 9223372036854775807)) (fun _ wr => wr.rangeLeft mb w.heap.size)
  case atStart =>
    refine ⟨_, _, _, rfl, hrg0, HG, hid ⟨fun g hg hw hl => ?_, .inl rfl⟩, hid (Int.le_refl _)⟩
    rw [(HD.out g hw).2, decide_eq_false_iff_not] at hl
    exact absurd (cnt_ne.2 hg) hl
  case round =>
    obtain ⟨X, left, c, rfl, hrg, HC, HL, HX⟩ := hrel
    go_wp2_with (first
      | (at_next; refine wpList_next_ranges_ii _ rfl _ rfl 3 3 .i64 .i64 (int_keyed Try.underlying3) Try.underlying3 Try.underlying3 mb w.heap.size p.ops _ _ _ rfl hrg ?_ ?_)
      | go_in)
    · intro _ hl0
      have fin : Hid (LowIs p.pins X) := hid ⟨fun g hg => by
        have := HP.out g hg
        exact HL.out.1 g hg (int_wf (by omega) (by omega)) (hl0 _), HL.out.2⟩
      clear hl0
      go_wp2
      go_ret
      exact ⟨X, rfl, fin.out, HC.out⟩
    · intro x cc w1 cnt1 hwx hwc hlx hat hrg1 hlt hg1 hs1 hen
      have hhas := has_true_of_atKey hat
      rw [(HD.out x hwx).2, decide_eq_true_eq] at hhas
      obtain ⟨g0, hg0, hgx⟩ := cnt_neg hhas
      have HC1 := hid (HC.out.then (ch_of_grown hg1) (fun i hi e => by omega))
      have HLt := hid hlt
      have HNew : Hid (LowTill p.pins (fun z => left z && !z.sameKey (.int .i64 x)) (if x < X then x else X)) := hid (by
        refine ⟨fun g hg hw hl => ?_, ?_⟩
        · simp only [Bool.and_eq_false_iff] at hl
          rcases hl with hl | hl
          · have := HL.out.1 g hg hw hl
            split <;> omega
          · have : (g : Int) = x := by simpa [Lit.sameKey] using hl
            split <;> omega
        · split
          · exact .inr ⟨g0, hg0, hgx.symm⟩
          · exact HL.out.2)
      have HXn : Hid ((if x < X then x else X) ≤ 9223372036854775807) := hid (by have := HX.out; split <;> omega)
      clear hat hhas hgx hg1 hs1 hlt hlx
      go_wp2
      go_roundw
      case rel => exact ⟨_, _, cnt1, rfl, hrg1, HC1, HNew, HXn⟩
      case measure => rw [hrg1.left_eq, hrg.left_eq]; exact HLt.out

end Go.Proofs.Ytadhibemadgcoaa
