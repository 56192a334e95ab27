/- The examples of chapter 02 (page) hold of the program. Conditions: none. -/
import Derived.Test.YtadhibemadgcoaaPagePure3
namespace Go.Proofs.Ytadhibemadgcoaa
open Go.RowKit

theorem Bts.cut {w : World} {b off n cap k : Nat} {l : List UInt8} (h : Bts w (.slice (some ⟨b, off, none⟩) n cap) l) (hk : k ≤ n) : Bts w (.slice (some ⟨b, off, none⟩) k cap) (l.take k) := by
  rcases h with ⟨a, c0, h, rfl⟩ | ⟨b', off', cap', cs, e, fz, h, hcap, hb, hc⟩
  · cases h
    obtain rfl : k = 0 := by omega
    exact .inl ⟨_, _, rfl, by simp⟩
  · cases h
    refine .inr ⟨b, off, cap, cs, e, fz, by simp [Nat.min_eq_left hk], by simp; omega, hb, fun j hj => ?_⟩
    simp at hj
    rw [hc j (by omega)]
    simp

theorem no2_any (x : Int) (w : World) : Calls Try.prog 35 #[.int .i64 x] w fun e w' => e = .returned (.int .i64 x) ∧ w = w' := by
  go_enter Try.func35, Try.ntmps35
  go_wp2
  go_ret
  exact ⟨rfl, rfl⟩

set_option maxRecDepth 100000 in
set_option maxHeartbeats 1000000 in
theorem alive2 (w : World) : Calls Try.prog 28 #[] w fun e w' => e = .returned (.bool true) ∧ Ch (fun _ => False) w w' := by
  go_enter Try.func28, Try.ntmps28
  go_wp2_with fail
  refine (seal_ok 1 2 ⟨#[97, 98]⟩ _ (by omega) (by omega) (by decide)).mono ?_
  rintro e w1 ⟨b1, rfl, hb1, c1, hs1⟩
  have hB1 : Bts w1 (.slice (some ⟨b1, 0, none⟩) 512 512) (sealB 1 2 [97, 98]) := by
    have := bts_cells (cs := []) (by simpa using hb1) 512 (by rw [sealB_length]; omega)
    rwa [sealB_length] at this
  have HB1 := hid hB1
  clear hb1 hB1
  go_wp2_with fail
  refine (open_any _ _ _ (by rw [sealB_length]; omega) HB1.out).mono ?_
  rintro e w2 ⟨he, c2⟩
  rw [open_seal 1 2 [97, 98] (by omega) (by omega) (by decide)] at he
  simp only [openV] at he
  subst he
  go_wp2_with fail
  refine (root_ok 3 ⟨#[120]⟩ _ (by omega) (by omega) (by decide)).mono ?_
  rintro e w3 ⟨b3, rfl, hb3, c3, hs3⟩
  have hB3 : Bts w3 (.slice (some ⟨b3, 0, none⟩) 512 512) (rootB 3 [120]) := by
    have := bts_cells (cs := []) (by simpa using hb3) 512 (by rw [rootB_length]; omega)
    rwa [rootB_length] at this
  have HB3 := hid hB3
  clear hb3 hB3
  go_wp2_with fail
  refine (rootopen_any _ _ _ (by rw [rootB_length]; omega) HB3.out).mono ?_
  rintro e w4 ⟨he, c4⟩
  rw [root_seal 3 [120] (by omega) (by omega) (by decide)] at he
  simp only [rootV] at he
  subst he
  go_wp2_with fail
  have hB4 : Bts (w4.alloc (.cells #[.int .u8 1, .int .u8 2, .int .u8 3] 5)) (.slice (some ⟨w4.heap.size, 0, none⟩) 3 3) [1, 2, 3] := bts_cells (l := [1, 2, 3]) (cs := []) (e := 5) (fz := (0, 0)) (heap_new _) 3 (by decide)
  refine (sum_any _ _ _ (by decide) hB4).mono ?_
  rintro e w5 ⟨he, rfl⟩
  rw [show sumB [1, 2, 3] = 14 by decide] at he
  subst he
  have c5 : Ch (fun _ => False) w4 (w4.alloc (.cells #[.int .u8 1, .int .u8 2, .int .u8 3] 5)) := (Ch.refl _ _).alloc _
  have c15 := ((c2.trans c3).trans c4).trans c5
  have hcv := str_of (Bts.cut (k := 12) (HB1.out.ch c15 (fun _ _ h => h)) (by omega))
  rw [seal_head 1 2 [97, 98] (by decide), show headB 1 2 ([97, 98] : List UInt8).length = [72, 118, 1, 0, 0, 2, 0, 0, 0, 0, 0, 2] by decide] at hcv
  have HC := hid (c1.trans c15)
  clear c1 c2 c3 c4 c5 c15 hB4
  generalize w4.alloc (.cells #[.int .u8 1, .int .u8 2, .int .u8 3] 5) = w5 at *
  go_wp2_with (go_at_call 35; refine (no2_any _ _).mono ?_; rintro e w' ⟨rfl, rfl⟩)
  go_ret
  exact ⟨rfl, HC.out⟩

end Go.Proofs.Ytadhibemadgcoaa
