/- The reference of layer 2 (page): Seal and SealRoot: what they answer. Conditions: none. -/
import Derived.Test.YtadhibemadgcoaaRefP
import Derived.Test.YtadhibemadgcoaaPagePure2
namespace Go.Proofs.Ytadhibemadgcoaa
open Go.RowKit

theorem rnumber_z (m : Int) (x n : Nat) (w : World) (hm : m = (n : Int)) (hx : x ≤ 4611686018427387904) (hn : n ≤ 8) :
    Calls Try.prog 86 #[.int .i64 x, .int .i64 m] w fun e w' => ∃ s, e = .returned (.string s) ∧ Hid (s.data.toList = be x n) ∧ s.size ≤ 8 ∧ Ch (fun _ => False) w w' := by
  subst hm; exact (rnumber_any x n w hx hn).mono fun e w' ⟨s, he, hs, hc⟩ => ⟨s, he, hs, by rw [← size_toList, hs, be_length]; exact hn, hc⟩
theorem noughts_z (m : Int) (n : Nat) (w : World) (hm : m = (n : Int)) (hn : n ≤ 1000) :
    Calls Try.prog 87 #[.int .i64 m] w fun e w' => ∃ s, e = .returned (.string s) ∧ Hid (s.data.toList = zeros n) ∧ s.size ≤ 1000 ∧ Ch (fun _ => False) w w' := by
  subst hm; exact (noughts_any n w hn).mono fun e w' ⟨s, he, hs, hc⟩ => ⟨s, he, hs, by rw [← size_toList, hs, zeros_length]; exact hn, hc⟩

theorem lit_toList (l : List UInt8) : (⟨l.toArray⟩ : ByteArray).data.toList = l := rfl

set_option maxRecDepth 100000 in
set_option maxHeartbeats 1000000 in
theorem rseal_ok (kind gen : Nat) (s : ByteArray) (w : World) (hk : kind ≤ 255) (hg : gen ≤ 281474976710655) (hs : s.size ≤ 492) :
    Calls Try.prog 32 #[.int .i64 kind, .int .i64 gen, .string s] w fun e w' => ∃ t, e = .returned (.tuple #[.string t, .int .i64 0]) ∧ t.data.toList = sealB kind gen s.data.toList ∧ Ch (fun _ => False) w w' := by
  go_enter Try.func32, Try.ntmps32
  go_wp2_with fail
  refine (rnumber_z 1 kind 1 _ rfl (by omega) (by omega)).mono ?_
  rintro e w1 ⟨t1, rfl, h1, z1, c1⟩
  go_wp2_with fail
  refine (rnumber_z 2 s.size 2 _ rfl (by omega) (by omega)).mono ?_
  rintro e w2 ⟨t2, rfl, h2, z2, c2⟩
  go_wp2_with fail
  refine (rnumber_z 6 gen 6 _ rfl (by omega) (by omega)).mono ?_
  rintro e w3 ⟨t3, rfl, h3, z3, c3⟩
  go_wp2_with fail
  refine (noughts_z 4 4 _ rfl (by omega)).mono ?_
  rintro e w4 ⟨t4, rfl, h4, z4, c4⟩
  go_wp2_with fail
  refine (noughts_z _ (492 - s.size) _ (by omega) (by omega)).mono ?_
  rintro e w5 ⟨t5, rfl, h5, z5, c5⟩
  go_wp2_with fail
  refine (noughts_z 4 4 _ rfl (by omega)).mono ?_
  rintro e w6 ⟨t6, rfl, h6, z6, c6⟩
  go_wp2_with fail
  obtain ⟨S, HS⟩ : ∃ S, Hid (sumB (headB kind gen s.size ++ (zeros 4 ++ (zeros 4 ++ (s.data.toList ++ zeros (492 - s.size))))) = S) := ⟨_, hid rfl⟩
  have hS : S < 4294967296 := by rw [← HS.out]; exact sumB_lt _
  refine (rsum_any _ _ ?c1).mono ?_
  case c1 =>
    have e1 : (⟨#[72, 118]⟩ : ByteArray).size = 2 := rfl
    have e2 : (⟨#[0]⟩ : ByteArray).size = 1 := rfl
    simp only [ByteArray.size_append]
    omega
  rintro e w7 ⟨rfl, rfl⟩
  rw [show sumB (({ data := #[72, 118] } ++ t1 ++ { data := #[0] } ++ t2 ++ t3 ++ t6 ++ (t4 ++ s ++ t5) : ByteArray)).data.toList = S by
    rw [← HS.out]
    simp only [ByteArray.data_append, Array.toList_append, h1.out, h2.out, h3.out, h4.out, h5.out, h6.out, headB]
    simp]
  go_wp2_with fail
  refine (rnumber_z 4 S 4 _ rfl (by omega) (by omega)).mono ?_
  rintro e w8 ⟨t8, rfl, h8, z8, c8⟩
  go_wp2
  go_ret2
  refine ⟨_, rfl, ?_, ((((((c1.trans c2).trans c3).trans c4).trans c5).trans c6).trans c8)⟩
  rw [sealB_row kind gen _ (by rw [size_toList]; exact hs), size_toList, HS.out]
  simp only [ByteArray.data_append, Array.toList_append, h1.out, h2.out, h3.out, h4.out, h5.out, h8.out, headB]
  simp

theorem rseal_any (kind gen : Int) (s : ByteArray) (w : World) :
    Calls Try.prog 32 #[.int .i64 kind, .int .i64 gen, .string s] w fun e w' => ∃ t, e = .returned (.tuple #[.string t, .int .i64 (sealE kind gen s.size : Nat)]) ∧ t.data.toList = sealL kind gen s.data.toList ∧ Ch (fun _ => False) w w' := by
  unfold sealL
  rw [size_toList]
  rcases sealE_cases kind gen s.size with ⟨h, h1⟩ | ⟨h, h1, h2, h3, h4, h5⟩ | ⟨h, h1, h2, h3, h4, h5⟩
  · rw [h]
    by_cases g1 : kind < 0
    · clear h1 h
      go_enter Try.func32, Try.ntmps32
      go_wp2
      go_ret2
      exact ⟨_, rfl, rfl, Ch.refl _ _⟩
    · by_cases g2 : 255 < kind
      · clear h1 h
        go_enter Try.func32, Try.ntmps32
        go_wp2
        go_ret2
        exact ⟨_, rfl, rfl, Ch.refl _ _⟩
      · by_cases g3 : gen < 0
        · clear h1 h
          go_enter Try.func32, Try.ntmps32
          go_wp2
          go_ret2
          exact ⟨_, rfl, rfl, Ch.refl _ _⟩
        · have g4 : 281474976710655 < gen := by omega
          clear h1 h
          go_enter Try.func32, Try.ntmps32
          go_wp2
          go_ret2
          exact ⟨_, rfl, rfl, Ch.refl _ _⟩
  · rw [h]
    clear h
    go_enter Try.func32, Try.ntmps32
    go_wp2
    go_ret2
    exact ⟨_, rfl, rfl, Ch.refl _ _⟩
  · rw [h]
    obtain ⟨k, rfl⟩ := Int.eq_ofNat_of_zero_le h2
    obtain ⟨g, rfl⟩ := Int.eq_ofNat_of_zero_le h4
    refine (rseal_ok k g s w (by omega) (by omega) h1).mono fun e w' ⟨t, he, ht, hc⟩ => ⟨t, he, ?_, hc⟩
    simpa using ht

set_option maxRecDepth 100000 in
set_option maxHeartbeats 1000000 in
theorem rroot_ok (gen : Nat) (s : ByteArray) (w : World) (h1g : 1 ≤ gen) (hg : gen ≤ 4611686018427387904) (hs : s.size ≤ 490) :
    Calls Try.prog 34 #[.int .i64 gen, .string s] w fun e w' => ∃ t, e = .returned (.tuple #[.string t, .int .i64 0]) ∧ t.data.toList = rootB gen s.data.toList ∧ Ch (fun _ => False) w w' := by
  go_enter Try.func34, Try.ntmps34
  go_wp2_with fail
  refine (rnumber_z 8 gen 8 _ rfl (by omega) (by omega)).mono ?_
  rintro e w1 ⟨t1, rfl, h1, z1, c1⟩
  go_wp2_with fail
  refine (rnumber_z 2 s.size 2 _ rfl (by omega) (by omega)).mono ?_
  rintro e w2 ⟨t2, rfl, h2, z2, c2⟩
  go_wp2_with fail
  refine (noughts_z _ (494 - s.size) _ (by omega) (by omega)).mono ?_
  rintro e w3 ⟨t3, rfl, h3, z3, c3⟩
  go_wp2_with fail
  refine (rnumber_z 8 gen 8 _ rfl (by omega) (by omega)).mono ?_
  rintro e w4 ⟨t4, rfl, h4, z4, c4⟩
  go_wp2
  go_ret2
  refine ⟨_, rfl, ?_, (((c1.trans c2).trans c3).trans c4)⟩
  rw [rootB_row gen _ (by rw [size_toList]; exact hs), size_toList]
  simp only [ByteArray.data_append, Array.toList_append, h1.out, h2.out, h3.out, h4.out]
  simp

theorem rroot_any (gen : Int) (s : ByteArray) (w : World) :
    Calls Try.prog 34 #[.int .i64 gen, .string s] w fun e w' => ∃ t, e = .returned (.tuple #[.string t, .int .i64 (srootE gen s.size : Nat)]) ∧ t.data.toList = srootL gen s.data.toList ∧ Ch (fun _ => False) w w' := by
  unfold srootL
  rw [size_toList]
  rcases srootE_cases gen s.size with ⟨h, h1⟩ | ⟨h, h1, h2, h3⟩ | ⟨h, h1, h2, h3⟩
  · rw [h]
    by_cases g1 : gen < 1
    · clear h1 h
      go_enter Try.func34, Try.ntmps34
      go_wp2
      go_ret2
      exact ⟨_, rfl, rfl, Ch.refl _ _⟩
    · have g4 : 4611686018427387904 < gen := by omega
      clear h1 h
      go_enter Try.func34, Try.ntmps34
      go_wp2
      go_ret2
      exact ⟨_, rfl, rfl, Ch.refl _ _⟩
  · rw [h]
    clear h
    go_enter Try.func34, Try.ntmps34
    go_wp2
    go_ret2
    exact ⟨_, rfl, rfl, Ch.refl _ _⟩
  · rw [h]
    obtain ⟨g, rfl⟩ := Int.eq_ofNat_of_zero_le (show 0 ≤ gen by omega)
    refine (rroot_ok g s w (by omega) (by omega) h1).mono fun e w' ⟨t, he, ht, hc⟩ => ⟨t, he, ?_, hc⟩
    simpa using ht

end Go.Proofs.Ytadhibemadgcoaa
