/- The disk laws' own helpers: no, Of. Conditions: none. -/
import Derived.Test.YtadhibemadgcoaaDiskI
namespace Go.Proofs.Ytadhibemadgcoaa
open Go.RowKit

theorem no1_any (x : Int) (w : World) : Calls Try.prog 22 #[.int .i64 x] w fun e w' => e = .returned (.int .i64 x) ∧ w = w' := by
  go_enter Try.func22, Try.ntmps22
  go_wp2
  go_ret
  exact ⟨rfl, rfl⟩

/-- A sector of one byte. -/
def ofB (c : UInt8) : List UInt8 := List.replicate 512 c
theorem ofB_length (c : UInt8) : (ofB c).length = 512 := List.length_replicate

set_option maxRecDepth 20000 in
theorem of_any (c : UInt8) (w : World) : Calls Try.prog 26 #[.int .u8 (c.toNat : Int)] w fun e w' => e = .returned (.slice (some ⟨w.heap.size, 0, none⟩) 512 512) ∧
    SecIn w' (w.heap.size, 512) (ofB c) ∧ Ch (fun _ => False) w w' := by
  have hmk := make_blank w
  go_enter Try.func26, Try.ntmps26
  go_wp2
  go_loopw [8] (fun k wr => ∃ j : Nat, k = .int .i64 (j : Int) ∧ j ≤ 512 ∧ Hid (wr.heap[w.heap.size]? = some (.cells (bcells (List.replicate j c ++ zeros (512 - j))).toArray 5 (0, 0))) ∧ Hid (Ch (fun _ => False) w wr)) (fun k _ => 512 - (intOf k).toNat)
  case atStart =>
    refine ⟨0, rfl, by omega, hid ?_, hid ((Ch.refl _ w).alloc _)⟩
    rw [heap_new]
    rfl
  case round =>
    obtain ⟨j, rfl, hj, HC, HCh⟩ := hrel
    have hcj := cell_blk HC.out j
    have hfj := frozen_blk HC.out j
    by_cases hlt : j < 512
    · rw [List.getElem?_toArray, bcells_get _ j (by simp [zeros_length]; omega)] at hcj
      go_wp2
      go_roundw
      case rel =>
        refine ⟨j + 1, by go_num, by omega, hid ?_, hid (HCh.out.setCell (fun h => by simp at h) _)⟩
        rw [heap_set HC.out, bcells_set]
        congr 4
        refine List.ext_getElem? fun i => ?_
        rw [List.getElem?_set]
        simp only [List.getElem?_append, List.length_replicate, List.getElem?_replicate, zeros]
        split <;> (try split) <;> (try split) <;> (try split) <;> (try omega) <;> simp_all <;> omega
      case measure => simp [intOf]; omega
    · obtain rfl : j = 512 := by omega
      go_wp2
      go_ret
      refine ⟨rfl, ⟨ofB_length c, Nat.le_refl _, _, HC.out, ?_, ?_⟩, HCh.out⟩
      · rw [List.size_toArray, bcells_length, List.length_append, List.length_replicate, zeros_length]; omega
      · show (bcells (ofB c ++ zeros (512 - 512))).take 512 = _
        rw [bcells_append, ← bcells_length (ofB c) |>.trans (ofB_length c), List.take_left]

end Go.Proofs.Ytadhibemadgcoaa
