/- The reference's disk: New. Conditions: as each theorem says. -/
import Derived.Test.YtadhibemadgcoaaDiskW
namespace Go.Proofs.Ytadhibemadgcoaa
open Go.RowKit

theorem rnew_bad (n : Int) (w : World) (h : n < 1 ∨ 4096 < n) : Calls Try.prog 45 #[.int .i64 n] w fun e w' => e = .returned (.tuple #[.pointer none, .int .i64 2]) ∧ w = w' := by
  by_cases h1 : n < 1
  · clear h
    go_enter Try.func45, Try.ntmps45
    go_wp2
    go_ret2
    exact ⟨rfl, rfl⟩
  · have h2 : 4096 < n := by omega
    clear h
    go_enter Try.func45, Try.ntmps45
    go_wp2
    go_ret2
    exact ⟨rfl, rfl⟩

/-- A reference's disk under way: j sectors of noughts. -/
def RNew (w0 w : World) (q j : Nat) : Prop :=
  ∃ Lv, w.heap[q]? = some (.cells #[Lv, .slice none 0 0, .int .i64 0, .int .i64 (-1), .bool false] 145 (0, 0)) ∧ w.ownsRow 0 9 1 Lv j (List.replicate j (strV (zeros 512))) ∧ Lv.ownBlock ≠ some q ∧ (∀ k, Lv.ownBlock = some k → w0.heap.size ≤ k) ∧ w0.heap.size ≤ q ∧ Ch (fun _ => False) w0 w

set_option maxRecDepth 20000 in
set_option maxHeartbeats 2000000 in
theorem rnew_ok (n : Nat) (w : World) (h1 : 1 ≤ n) (h2 : n ≤ 4096) :
    Calls Try.prog 45 #[.int .i64 n] w fun e w' => ∃ q M, e = .returned (.tuple #[.pointer (some ⟨q, 0, none⟩), .int .i64 0]) ∧
      RAt w' q { L := List.replicate n (zeros 512), wait := [], steps := 0, fuse := -1, gone := false } M ∧ Ch (fun _ => False) w w' ∧ (∀ k, M k → w.heap.size ≤ k) := by
  have hmb := make_blank
  go_enter Try.func45, Try.ntmps45
  go_wp2
  go_loopw [5] (fun i wr => ∃ j : Nat, i = .int .i64 (j : Int) ∧ j ≤ n ∧ Hid (RNew w wr w.heap.size j)) (fun i _ => n - (intOf i).toNat)
  case atStart =>
    exact ⟨0, rfl, Nat.zero_le _, hid ⟨.slice none 0 0, heap_new _, ⟨rfl, .inl ⟨rfl, rfl⟩⟩, (by simp [Value.ownBlock]), (by simp [Value.ownBlock]), Nat.le_refl _, (Ch.refl _ _).alloc _⟩⟩
  case round =>
    obtain ⟨j, rfl, hj, HI⟩ := hrel
    by_cases hlt : j < n
    · obtain ⟨Lv, g1, g2, g3, g4, g5, g6⟩ := HI.out
      have hc0 := cell_blk g1 0
      simp at hc0
      have hz := blk_lt g1
      obtain ⟨Z, hZ⟩ : ∃ Z, Z = (⟨(zeros 512).toArray⟩ : ByteArray) := ⟨_, rfl⟩
      have hbl : (wr.alloc (.cells blankCells 5)).drew.heap[wr.heap.size]? = some (.cells blankCells 5 (0, 0)) := heap_new _
      have hcv : (convert 35 9 (.slice (some ⟨wr.heap.size, 0, none⟩) 512 512)).run Try.prog (wr.alloc (.cells blankCells 5)).drew = .ok (.string Z) (wr.alloc (.cells blankCells 5)).drew := by
        have hsec : SecIn (wr.alloc (.cells blankCells 5)).drew (wr.heap.size, 512) (zeros 512) := ⟨zeros_length _, Nat.le_refl _, blankCells, hbl, by simp [blankCells, bcells_length, zeros_length], by
          show (bcells (zeros 512)).take 512 = _
          rw [List.take_of_length_le (by rw [bcells_length, zeros_length]; omega)]⟩
        rw [hZ]
        exact str_of hsec.bts
      have cc := (((Ch.refl (fun _ => False) wr).alloc (.cells blankCells 5)).alloc (.cells #[.string Z] 9)).drew
      obtain ⟨v2, w4, hrun2, hown4, hch4, hv2⟩ := run_append_own2 (P := Try.prog) ((wr.alloc (.cells blankCells 5)).alloc (.cells #[.string Z] 9)).drew 89 89 9 (.string ⟨#[]⟩) 1 16 Try.underlying89 Try.info9 rfl (by omega) Lv j (List.replicate j (strV (zeros 512))) (ownsRow_frame g2 (fun k hk => cc.block k (g2.lt k hk).2 (fun h => h)))
        ⟨wr.heap.size + 1, 0, none⟩ 1 1 [.string Z] rfl (by
          intro i u hu
          have hb2 := heap_new (w := wr.alloc (.cells blankCells 5)) (.cells #[.string Z] 9)
          rw [show (wr.alloc (.cells blankCells 5)).heap.size = wr.heap.size + 1 by simp] at hb2
          rw [add_plain, cell_blk (heap_drew hb2), Nat.zero_add]
          simpa using hu) (by intro u hu; simp at hu; rcases hu with rfl; rfl) (by unfold maxLen; omega) (by omega)
      obtain ⟨g, cap2, rfl, hgz⟩ := slice_of_owns hown4 (by omega)
      have hq4 : w4.heap[w.heap.size]? = some (.cells #[Lv, .slice none 0 0, .int .i64 0, .int .i64 (-1), .bool false] 145 (0, 0)) := hch4.keep (cc.keep g1 (fun h => h)) g3
      have hcq := cell_blk hq4 0
      have hfq := frozen_blk hq4 0
      simp at hcq
      have hnq : ¬ w.heap.size = wr.heap.size := by omega
      have hnq2 : ¬ w.heap.size = wr.heap.size + 1 := by omega
      have HR2 := hid hrun2
      have hgq : g ≠ w.heap.size := by
        rcases hv2 with e | e
        · exact fun h => g3 (by rw [← e, h]; rfl)
        · have := e g rfl; simp at this; omega
      have fin : Hid (∀ w5, w5 = w4.setCell ⟨w.heap.size, 0, none⟩ (.slice (some ⟨g, 0, none⟩) (j + 1) cap2) → RNew w w5 w.heap.size (j + 1)) := hid (by
        rintro w5 rfl
        have hne : ∀ k, (Value.slice (some ⟨g, 0, none⟩) (j + 1) cap2).ownBlock = some k → k ≠ w.heap.size := fun k hk => by
          obtain rfl : g = k := by simpa [Value.ownBlock] using hk
          exact hgq
        refine ⟨_, by rw [heap_set hq4 0 _]; rfl, ?_, fun e => hne _ e rfl, fun k hk => ?_, g5, ?_⟩
        · rw [List.replicate_succ']
          have e : (Value.string Z) = strV (zeros 512) := by rw [hZ]; rfl
          rw [← e]
          rw [← e] at hown4
          exact ownsRow_frame hown4 fun k hk => Below.heap_setCell _ _ _ _ (hne k hk)
        · rcases hv2 with e | e
          · rw [e] at hk; exact g4 k hk
          · have := e k hk; simp at this; have := g6.size; omega
        · have c1 := (g6.trans cc).then hch4 (fun i hi e => by have := g4 i e; omega)
          exact c1.setCell (fun h => by have : w.heap.size < w.heap.size := h; omega) _)
      clear g1 g2 g3 g4 g6 hrun2 hown4 hch4 hv2 hq4 hgz hgq hZ hbl cc
      go_wp2_with fail
      go_region_law (refine step_append_run rfl (.tmp 23) (.tmp 26) 89 89 rfl _ _ HR2.out ?_)
      all_goals go_wp2
      all_goals go_roundw
      all_goals first
        | (case rel => exact ⟨j + 1, by go_num, by omega, hid (fin.out _ rfl)⟩)
        | (case measure => simp [intOf]; omega)
    · obtain rfl : j = n := by omega
      go_wp2
      go_ret2
      obtain ⟨Lv, g1, g2, g3, g4, g5, g6⟩ := HI.out
      refine ⟨w.heap.size, fun k => w.heap.size ≤ k ∧ k < wr.heap.size, rfl, ⟨Lv, .slice none 0 0, ⟨by simpa using h2, by simp, by simp, g1, by simpa using g2, ⟨rfl, .inl ⟨rfl, rfl⟩⟩, ?_, by simp, g3, by simp [Value.ownBlock], fun k _ => by simp [Value.ownBlock]⟩,
        ⟨Nat.le_refl _, blk_lt g1⟩, fun k hk => ⟨g4 k hk, (g2.lt k hk).2⟩, by simp [Value.ownBlock], fun k hk => hk.2⟩, g6, fun k hk => hk.1⟩
      intro l hl
      rw [(List.mem_replicate.1 hl).2]
      exact zeros_length _

end Go.Proofs.Ytadhibemadgcoaa
