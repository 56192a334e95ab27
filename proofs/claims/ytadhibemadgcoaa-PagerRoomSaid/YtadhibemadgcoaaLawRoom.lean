/- PagerRoom answers true. Conditions: the number is a word. -/
import Derived.Test.YtadhibemadgcoaaPgT
namespace Go.Proofs.Ytadhibemadgcoaa
open Go.RowKit

theorem room_num (n : Int) : ∃ N : Nat, Int.tmod (Int.tmod n 57 + 57) 57 = (N : Int) ∧ N ≤ 56 ∧ IntKind.i64.wrap (Int.tmod n 57) = Int.tmod n 57 ∧ IntKind.i64.wrap (Int.tmod n 57 + 57) = Int.tmod n 57 + 57 := by
  have h1 := Int.tmod_lt_of_pos n (show (0 : Int) < 57 by omega)
  have h2 : -57 < Int.tmod n 57 := by
    have := Int.tmod_lt_of_pos (-n) (show (0 : Int) < 57 by omega)
    rw [Int.neg_tmod] at this
    omega
  have h3 := Int.tmod_nonneg (a := Int.tmod n 57 + 57) 57 (by omega)
  have h4 := Int.tmod_lt_of_pos (Int.tmod n 57 + 57) (show (0 : Int) < 57 by omega)
  exact ⟨(Int.tmod (Int.tmod n 57 + 57) 57).toNat, by omega, by omega, wrap_id (by omega) (by omega), wrap_id (by omega) (by omega)⟩

set_option maxRecDepth 20000 in
set_option maxHeartbeats 4000000 in
theorem room_any (n : Int) (s : ByteArray) (w : World) : Calls Try.prog 14 #[.int .i64 n, .string s] w fun e w' => e = .returned (.bool true) ∧ Ch (fun _ => False) w w' := by
  obtain ⟨N, hN, hN56, hw1, hw2⟩ := room_num n
  have hw3 : IntKind.i64.wrap (N : Int) = N := wrap_id (by omega) (by omega)
  by_cases hs : 492 < s.size
  · go_enter Try.func14, Try.ntmps14
    go_wp2_with fail
    refine (alive3 _).mono ?_
    rintro e w2 ⟨rfl, c2⟩
    have HC2 := hid c2
    clear c2
    go_wp2_with fail
    go_ret
    exact ⟨rfl, HC2.out⟩
  obtain ⟨m, hm⟩ : ∃ m, m = 4 + N := ⟨_, rfl⟩
  have hw4 : IntKind.i64.wrap (4 + (N : Int)) = (m : Int) := by rw [wrap_id (by omega) (by omega)]; omega
  have hm4 : 4 ≤ m := by omega
  have hm60 : m ≤ 60 := by omega
  clear hm
  obtain ⟨d, k1, k2, k3, k4, k5⟩ := room_begin m (by omega) (by omega)
  have hs' : s.data.toList.length ≤ 492 := by rw [size_toList]; omega
  have HS := hid hs'
  clear hs'
  have hnew := new_z m w (Ch.refl _ w) (by omega) (by omega)
  have hl0 := Hl.new m (by omega) (by omega)
  obtain ⟨D0, HD0⟩ : ∃ d, Hid (({ L := List.replicate m (zeros 512), wait := [], steps := 0, fuse := -1, gone := false } : Dk) = d) := ⟨_, hid rfl⟩
  rw [HD0.out] at hnew hl0 k1
  obtain ⟨P0, HP0⟩ : ∃ p, Hid (openP d = p) := ⟨_, hid rfl⟩
  rw [HP0.out] at k4 k5
  have HL0 := hid hl0
  have K1 := hid k1
  have K2 := hid k2
  have K3 := hid k3
  have K4 := hid k4
  have K5 := hid k5
  have HN := hid hnew
  clear k1 k2 k3 k4 k5 hnew hl0
  go_enter Try.func14, Try.ntmps14
  go_wp2_with fail
  refine HN.out.mono ?_
  rintro e w1 ⟨dp, rfl, hz⟩
  have hfm := format_z w1 hz HL0.out hm4 (by omega)
  rw [K1.out] at hfm
  have HFM := hid hfm
  clear hz hfm
  go_wp2_with fail
  refine HFM.out.mono ?_
  rintro e w2 ⟨rfl, hz⟩
  have hop := open_z w2 hz K3.out (by omega) K2.out
  rw [HP0.out] at hop
  have HOP := hid hop
  clear hz hop
  go_wp2_with fail
  refine HOP.out.mono ?_
  rintro e w3 ⟨pp, Q, rfl, hz⟩
  have hfr := free_z w3 hz
  rw [K5.out] at hfr
  have HFR := hid hfr
  clear hz hfr
  have hm2 : IntKind.i64.wrap ((m : Int) - 2) = ((m - 2 : Nat) : Int) := by rw [wrap_id (by omega) (by omega)]; omega
  go_wp2_with (go_at_call 55; refine (no3_any _ _).mono ?_; rintro e w' ⟨rfl, rfl⟩)
  refine HFR.out.mono ?_
  rintro e w4 ⟨rfl, Q4, hz, -, -⟩
  have HZ4 := hid hz
  clear hz
  go_wp2_with fail
  refine (alive3 _).mono ?_
  rintro e w5 ⟨rfl, c5⟩
  have HZ5 := hid (HZ4.out.ch c5 (fun _ _ h => h) (fun _ _ h => h))
  clear c5
  go_wp2_with fail
  go_loopw [9] (fun i wr => ∃ j : Nat, i = .int .i64 ((j + 2 : Nat) : Int) ∧ j + 2 ≤ m ∧ Hid (∃ p Q, PZ w wr pp dp p Q ∧ RoomAt p m j)) (fun i _ => 100 - (intOf i).toNat)
  case atStart => exact ⟨0, rfl, by omega, hid ⟨_, _, HZ5.out, K4.out⟩⟩
  case round =>
    obtain ⟨j, rfl, hj, HI⟩ := hrel
    obtain ⟨p, Qp, hz, hr⟩ := HI.out
    have HZ := hid hz
    have HR := hid hr
    clear hz hr
    by_cases hlt : j + 2 < m
    · obtain ⟨p', hp1, hp2⟩ := HR.out.step hlt s.data.toList HS.out
      have hpt := put_z 3 s wr HZ.out HR.out.hp (by omega)
      rw [hp1] at hpt
      have HPT := hid hpt
      have HR2 := hid hp2
      clear hpt hp1 hp2
      obtain ⟨q, hq⟩ : ∃ q, q = j + 2 := ⟨_, rfl⟩
      rw [← hq] at hlt HPT ⊢
      have HQ := hid hq
      clear hq
      go_wp2_with fail
      refine HPT.out.mono ?_
      rintro e w6 ⟨rfl, Q6, hz, -, -⟩
      have HZ6 := hid hz
      clear hz
      go_wp2_with (go_at_call 55; refine (no3_any _ _).mono ?_; rintro e w' ⟨rfl, rfl⟩)
      go_roundw
      case rel => exact ⟨j + 1, by have := HQ.out; go_num, by have := HQ.out; omega, hid ⟨_, _, HZ6.out, HR2.out⟩⟩
      case measure => simp [intOf]; omega
    · obtain rfl : j = m - 2 := by omega
      obtain ⟨b1, b2, p1, p2, p3, p4, c0, c1, c2, c3, c4, c5, c6, c7, c8⟩ := HR.out.last hm60 s.data.toList HS.out
      have B1 := hid b1
      have B2 := hid b2
      have C0 := hid c0
      have C1 := hid c1
      have C2 := hid c2
      have C3 := hid c3
      have C4 := hid c4
      have C5 := hid c5
      have C6 := hid c6
      have C7 := hid c7
      have C8 := hid c8
      have e2 : m - 2 + 2 = m := by omega
      have hpt := put_z 3 s wr HZ.out c0 (by omega)
      rw [b1] at hpt
      have HPT := hid hpt
      rw [e2]
      clear hpt b1 b2 c0 c1 c2 c3 c4 c5 c6 c7 c8 e2 hlt
      go_wp2_with fail
      refine HPT.out.mono ?_
      rintro e w6 ⟨rfl, Q6, hz, -, -⟩
      have hfr := free_z w6 hz
      rw [B2.out] at hfr
      have HFR := hid hfr
      clear hz hfr
      go_wp2_with (go_at_call 55; refine (no3_any _ _).mono ?_; rintro e w' ⟨rfl, rfl⟩)
      refine HFR.out.mono ?_
      rintro e w7 ⟨rfl, Q7, hz, -, -⟩
      have hcm := commit_z ⟨#[97]⟩ w7 hz C0.out (by omega)
      rw [show (⟨#[97]⟩ : ByteArray).data.toList = [97] from rfl, C1.out] at hcm
      have HCM := hid hcm
      clear hz hcm
      go_wp2_with fail
      refine HCM.out.mono ?_
      rintro e w8 ⟨rfl, Q8, hz, -, -⟩
      have hdr := drop_z 2 w8 hz
      rw [C3.out] at hdr
      have HDR := hid hdr
      clear hz hdr
      go_wp2_with (go_at_call 55; refine (no3_any _ _).mono ?_; rintro e w' ⟨rfl, rfl⟩)
      refine HDR.out.mono ?_
      rintro e w9 ⟨rfl, Q9, hz, -, -⟩
      have hpt := put_z 3 s w9 hz C4.out (by omega)
      rw [C5.out] at hpt
      have HPT := hid hpt
      clear hz hpt
      go_wp2_with (go_at_call 55; refine (no3_any _ _).mono ?_; rintro e w' ⟨rfl, rfl⟩)
      refine HPT.out.mono ?_
      rintro e w10 ⟨rfl, Q10, hz, -, -⟩
      have hcm := commit_z ⟨#[98]⟩ w10 hz C4.out (by omega)
      rw [show (⟨#[98]⟩ : ByteArray).data.toList = [98] from rfl, C6.out] at hcm
      have HCM := hid hcm
      clear hz hcm
      go_wp2_with fail
      refine HCM.out.mono ?_
      rintro e w11 ⟨rfl, Q11, hz, -, -⟩
      have hpt := put_z 3 s w11 hz C7.out (by omega)
      rw [C8.out] at hpt
      have HPT := hid hpt
      clear hz hpt
      go_wp2_with fail
      refine HPT.out.mono ?_
      rintro e w12 ⟨rfl, Q12, hz, -, -⟩
      have HB := hid hz.base
      clear hz
      go_wp2_with (go_at_call 55; refine (no3_any _ _).mono ?_; rintro e w' ⟨rfl, rfl⟩)
      go_ret
      exact ⟨rfl, HB.out⟩

end Go.Proofs.Ytadhibemadgcoaa
