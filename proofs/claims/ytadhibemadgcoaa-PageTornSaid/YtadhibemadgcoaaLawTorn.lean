/- PageTorn answers true: its walk. Conditions: none. -/
import Derived.Test.YtadhibemadgcoaaLawBack
import Derived.Test.YtadhibemadgcoaaPagePure4
namespace Go.Proofs.Ytadhibemadgcoaa
open Go.RowKit

theorem cut_of (c : Int) : ∃ C : Nat, C ≤ 512 ∧ (wrap64 (wrap64 (c.tmod 513 + 512) + 1)).tmod 513 = (C : Int) := by
  have h1 := Int.tmod_lt_of_pos c (show (0 : Int) < 513 by omega)
  have h2 : -513 < c.tmod 513 := by
    have := Int.tmod_lt_of_pos (-c) (show (0 : Int) < 513 by omega)
    rw [Int.neg_tmod] at this
    omega
  rw [wrap64_id (n := c.tmod 513 + 512) (by omega) (by omega), wrap64_id (by omega) (by omega)]
  rw [Int.tmod_eq_emod_of_nonneg (by omega)]
  refine ⟨((c.tmod 513 + 512 + 1) % 513).toNat, by omega, by omega⟩
theorem Bts.from {w : World} {b off n cap k : Nat} {l : List UInt8} (h : Bts w (.slice (some ⟨b, off, none⟩) n cap) l) (hk : k ≤ n) : Bts w (.slice (some ⟨b, off + k, none⟩) (n - k) (cap - k)) (l.drop k) := by
  rcases h with ⟨a, c0, h, rfl⟩ | ⟨b', off', cap', cs, e, fz, h, hcap, hb, hc⟩
  · cases h
    obtain rfl : k = 0 := by omega
    exact .inl ⟨_, _, rfl, by simp⟩
  · cases h
    refine .inr ⟨b, off + k, cap - k, cs, e, fz, by simp, by simp; omega, hb, fun j hj => ?_⟩
    simp at hj
    rw [Nat.add_assoc, hc (k + j) (by omega)]
    simp

set_option maxRecDepth 100000 in
set_option maxHeartbeats 2000000 in
theorem torn_ok (a b : Nat) (s t : ByteArray) (c : Int) (w : World) (ha1 : 1 ≤ a) (ha : a ≤ 4611686018427387904) (hb1 : 1 ≤ b) (hb : b ≤ 4611686018427387904) (hs : s.size ≤ 490) (ht : t.size ≤ 490) (hab : a ≠ b) :
    Calls Try.prog 8 #[.int .i64 a, .int .i64 b, .string s, .string t, .int .i64 c] w fun e w' => e = .returned (.bool true) ∧ Ch (fun _ => False) w w' := by
  have hq : (((a : Nat) : Int) == (b : Int)) = false := by rw [beq_eq_false_iff_ne]; omega
  go_enter Try.func8, Try.ntmps8
  go_wp2_with fail
  refine (root_ok a s _ ha1 ha hs).mono ?_
  rintro e w1 ⟨b1, rfl, hb1', c1, o1⟩
  have HB1 := hid (bts_full hb1' (rootB_length _ _))
  have HC1 := hid c1
  clear hb1' c1
  go_wp2_with fail
  refine (root_ok b t _ hb1 hb ht).mono ?_
  rintro e w2 ⟨b2, rfl, hb2', c2, o2⟩
  have HB2 := hid (bts_full hb2' (rootB_length _ _))
  have HC2 := hid c2
  clear hb2' c2
  go_wp2_with (go_at_call 35; refine (no2_any _ _).mono ?_; rintro e w' ⟨rfl, rfl⟩)
  obtain ⟨C, hC, hCc⟩ := cut_of c
  rw [hCc]
  have HX1 := hid (HB1.out.ch HC2.out (fun _ _ h => h))
  have hz1 : Bts w2 (.slice (some ⟨b1, 0, none⟩) C 512) ((rootB a s.data.toList).take C) := HX1.out.cut hC
  have hl1 : ((rootB a s.data.toList).take C).length = C := by simp [rootB_length]; omega
  obtain ⟨v3, w3, hrun3, hown3, c3⟩ := run_clone_bts_drew (P := Try.prog) w2 35 35 5 Try.underlying35 Try.info5 _ _ hz1 (by omega)
  have hz2 : Bts w3 (.slice (if 512 = C then some ⟨b2, 0, none⟩ else some ⟨b2, C, none⟩) (512 - C) (512 - C)) ((rootB b t.data.toList).drop C) := by
    have hd : (rootB b t.data.toList).drop 512 = [] := List.drop_eq_nil_of_le (by rw [rootB_length]; omega)
    split
    · rename_i h; subst h; exact .inl ⟨_, _, rfl, hd⟩
    · have := (HB2.out.ch c3 (fun _ _ h => h)).from hC
      simpa using this
  have hl2 : ((rootB b t.data.toList).drop C).length = 512 - C := by simp [rootB_length]
  have hs3 := c3.size
  rw [hl1] at hown3
  obtain ⟨v4, w4, hrun4, hown4, hg4⟩ := run_append_bts (P := Try.prog) w3 35 35 5 Try.underlying35 Try.info5 w2.heap.size v3 _ C _ _ hown3 hz2 (by omega) hs3
  have HB4 := hid (bts_of_owns hown4)
  have HC24 : Hid (Ch (fun _ => False) w2 w4) := hid (c3.grown hg4 (fun k hk hk2 => by
    have := (hown3.lt k hk).1
    omega))
  have HC4 := hid ((HC1.out.trans HC2.out).trans HC24.out)
  have HR3 := hid hrun3
  have HR4 := hid hrun4
  have hi3 : (C : Int) ≤ 512 := by omega
  clear hrun3 hrun4 hz1 hz2 hown3 hown4 hg4 c3 hs3 hCc
  have hzl : ((rootB a s.data.toList).take C ++ (rootB b t.data.toList).drop C).length = 512 := by rw [List.length_append, hl1, hl2]; omega
  have HZ := hid hzl
  clear hzl hl1 hl2
  by_cases h512 : 512 = C
  · rw [if_pos h512] at HR4
    clear hi3
    subst h512
    go_region_law (first | (refine step_append_run rfl (.tmp 56) (.tmp 59) 35 35 rfl _ _ HR3.out ?_) | (refine step_append_run rfl (.tmp 60) (.tmp 63) 35 35 rfl _ _ HR4.out ?_))
    all_goals
      rcases hr : rootL ((rootB a s.data.toList).take 512 ++ (rootB b t.data.toList).drop 512) with _ | ⟨g, u⟩
      · go_wp2_with fail
        refine (rootopen_any v4 _ w4 (by rw [HZ.out]; omega) HB4.out).mono ?_
        rintro x w5 ⟨he, c5⟩
        rw [hr] at he
        simp only [rootV] at he
        subst he
        have HC5 := hid (HC4.out.trans c5)
        clear hr c5
        go_wp2_with (first | (go_at_call 35; refine (no2_any _ _).mono ?_; rintro e w' ⟨rfl, rfl⟩) | (go_at_call 28; refine (alive2 _).mono ?_; rintro e wz ⟨rfl, hch⟩))
        go_ret
        exact ⟨rfl, HC5.out.trans hch⟩
      · have hqq : (((b : Nat) : Int) == (a : Int)) = false := by rw [beq_eq_false_iff_ne]; omega
        go_wp2_with fail
        refine (rootopen_any v4 _ w4 (by rw [HZ.out]; omega) HB4.out).mono ?_
        rintro x w5 ⟨he, c5⟩
        rw [hr] at he
        have HC5 := hid (HC4.out.trans c5)
        have HB5 := hid (HB4.out.ch c5 (fun _ _ h => h))
        have hx5 := HX1.out.ch (HC24.out.trans c5) (fun _ _ h => h)
        have hy5 := HB2.out.ch (HC24.out.trans c5) (fun _ _ h => h)
        rcases torn ha hb (s := s.data.toList) (t := t.data.toList) hs ht hab hC hr with ⟨rfl, hZ⟩ | ⟨rfl, hZ⟩
        · rw [hZ, root_seal g _ ha1 ha hs] at hr
          cases hr
          simp only [rootV] at he
          rw [← str_eq (t := s) rfl] at he
          subst he
          rw [hZ] at HB5
          have k1 := str_of HB5.out
          have k2 := str_of hx5
          obtain ⟨L, HL⟩ : ∃ L, Hid ((⟨(rootB g s.data.toList).toArray⟩ : ByteArray) = L) := ⟨_, hid rfl⟩
          rw [HL.out] at k1 k2
          clear hx5 hy5 hZ c5
          go_wp2_with (first | (go_at_call 35; refine (no2_any _ _).mono ?_; rintro e w' ⟨rfl, rfl⟩) | (go_at_call 28; refine (alive2 _).mono ?_; rintro e wz ⟨rfl, hch⟩))
          go_ret
          exact ⟨rfl, HC5.out.trans hch⟩
        · rw [hZ, root_seal g _ hb1 hb ht] at hr
          cases hr
          simp only [rootV] at he
          rw [← str_eq (t := t) rfl] at he
          subst he
          rw [hZ] at HB5
          have k1 := str_of HB5.out
          have k2 := str_of hy5
          obtain ⟨L, HL⟩ : ∃ L, Hid ((⟨(rootB g t.data.toList).toArray⟩ : ByteArray) = L) := ⟨_, hid rfl⟩
          rw [HL.out] at k1 k2
          clear hx5 hy5 hZ c5
          go_wp2_with (first | (go_at_call 35; refine (no2_any _ _).mono ?_; rintro e w' ⟨rfl, rfl⟩) | (go_at_call 28; refine (alive2 _).mono ?_; rintro e wz ⟨rfl, hch⟩))
          go_ret
          exact ⟨rfl, HC5.out.trans hch⟩
  · rw [if_neg h512] at HR4
    go_region_law (first | (refine step_append_run rfl (.tmp 56) (.tmp 59) 35 35 rfl _ _ HR3.out ?_) | (refine step_append_run rfl (.tmp 60) (.tmp 63) 35 35 rfl _ _ HR4.out ?_))
    all_goals
      rcases hr : rootL ((rootB a s.data.toList).take C ++ (rootB b t.data.toList).drop C) with _ | ⟨g, u⟩
      · go_wp2_with fail
        refine (rootopen_any v4 _ w4 (by rw [HZ.out]; omega) HB4.out).mono ?_
        rintro x w5 ⟨he, c5⟩
        rw [hr] at he
        simp only [rootV] at he
        subst he
        have HC5 := hid (HC4.out.trans c5)
        clear hr c5
        go_wp2_with (first | (go_at_call 35; refine (no2_any _ _).mono ?_; rintro e w' ⟨rfl, rfl⟩) | (go_at_call 28; refine (alive2 _).mono ?_; rintro e wz ⟨rfl, hch⟩))
        go_ret
        exact ⟨rfl, HC5.out.trans hch⟩
      · have hqq : (((b : Nat) : Int) == (a : Int)) = false := by rw [beq_eq_false_iff_ne]; omega
        go_wp2_with fail
        refine (rootopen_any v4 _ w4 (by rw [HZ.out]; omega) HB4.out).mono ?_
        rintro x w5 ⟨he, c5⟩
        rw [hr] at he
        have HC5 := hid (HC4.out.trans c5)
        have HB5 := hid (HB4.out.ch c5 (fun _ _ h => h))
        have hx5 := HX1.out.ch (HC24.out.trans c5) (fun _ _ h => h)
        have hy5 := HB2.out.ch (HC24.out.trans c5) (fun _ _ h => h)
        rcases torn ha hb (s := s.data.toList) (t := t.data.toList) hs ht hab hC hr with ⟨rfl, hZ⟩ | ⟨rfl, hZ⟩
        · rw [hZ, root_seal g _ ha1 ha hs] at hr
          cases hr
          simp only [rootV] at he
          rw [← str_eq (t := s) rfl] at he
          subst he
          rw [hZ] at HB5
          have k1 := str_of HB5.out
          have k2 := str_of hx5
          obtain ⟨L, HL⟩ : ∃ L, Hid ((⟨(rootB g s.data.toList).toArray⟩ : ByteArray) = L) := ⟨_, hid rfl⟩
          rw [HL.out] at k1 k2
          clear hx5 hy5 hZ c5
          go_wp2_with (first | (go_at_call 35; refine (no2_any _ _).mono ?_; rintro e w' ⟨rfl, rfl⟩) | (go_at_call 28; refine (alive2 _).mono ?_; rintro e wz ⟨rfl, hch⟩))
          go_ret
          exact ⟨rfl, HC5.out.trans hch⟩
        · rw [hZ, root_seal g _ hb1 hb ht] at hr
          cases hr
          simp only [rootV] at he
          rw [← str_eq (t := t) rfl] at he
          subst he
          rw [hZ] at HB5
          have k1 := str_of HB5.out
          have k2 := str_of hy5
          obtain ⟨L, HL⟩ : ∃ L, Hid ((⟨(rootB g t.data.toList).toArray⟩ : ByteArray) = L) := ⟨_, hid rfl⟩
          rw [HL.out] at k1 k2
          clear hx5 hy5 hZ c5
          go_wp2_with (first | (go_at_call 35; refine (no2_any _ _).mono ?_; rintro e w' ⟨rfl, rfl⟩) | (go_at_call 28; refine (alive2 _).mono ?_; rintro e wz ⟨rfl, hch⟩))
          go_ret
          exact ⟨rfl, HC5.out.trans hch⟩

theorem srootE_le (g : Int) (n : Nat) : srootE g n ≤ 4 := by
  rcases srootE_cases g n with ⟨h, _⟩ | ⟨h, _⟩ | ⟨h, _⟩ <;> omega

set_option maxRecDepth 100000 in
set_option maxHeartbeats 1000000 in
theorem torn_walk (a b : Int) (s t : ByteArray) (c : Int) (w : World) :
    Calls Try.prog 8 #[.int .i64 a, .int .i64 b, .string s, .string t, .int .i64 c] w fun e w' => e = .returned (.bool true) ∧ Ch (fun _ => False) w w' := by
  by_cases h : srootE a s.size = 0 ∧ srootE b t.size = 0 ∧ a ≠ b
  · obtain ⟨h1, h2, h3⟩ := h
    rcases srootE_cases a s.size with ⟨h, _⟩ | ⟨h, _⟩ | ⟨_, g1, g2, g3⟩
    · omega
    · omega
    rcases srootE_cases b t.size with ⟨h, _⟩ | ⟨h, _⟩ | ⟨_, g4, g5, g6⟩
    · omega
    · omega
    obtain ⟨a, rfl⟩ := Int.eq_ofNat_of_zero_le (show 0 ≤ a by omega)
    obtain ⟨b, rfl⟩ := Int.eq_ofNat_of_zero_le (show 0 ≤ b by omega)
    exact torn_ok a b s t c w (by omega) (by omega) (by omega) (by omega) g1 g4 (by omega)
  · have hle1 := srootE_le a s.size
    have hle2 := srootE_le b t.size
    go_enter Try.func8, Try.ntmps8
    go_wp2_with fail
    refine (sroot_any a s _).mono ?_
    rintro e w1 ⟨v1, rfl, _, c1, _⟩
    go_wp2_with fail
    refine (sroot_any b t _).mono ?_
    rintro e w2 ⟨v2, rfl, _, c2, _⟩
    have HC := hid (c1.trans c2)
    clear c1 c2
    obtain ⟨E1, HE1⟩ : ∃ E, Hid (srootE a s.size = E) := ⟨_, hid rfl⟩
    obtain ⟨E2, HE2⟩ : ∃ E, Hid (srootE b t.size = E) := ⟨_, hid rfl⟩
    rw [HE1.out, HE2.out] at h ⊢
    rw [HE1.out] at hle1
    rw [HE2.out] at hle2
    by_cases hz : E1 = 0 ∧ E2 = 0
    · obtain ⟨z1, z2⟩ := hz
      have hab : a = b := by
        by_cases hab : a = b
        · exact hab
        · exact absurd ⟨z1, z2, hab⟩ h
      subst hab
      rw [z1, z2]
      clear h z1 z2 hle1 hle2
      go_wp2_with (first | (go_at_call 35; refine (no2_any _ _).mono ?_; rintro e w' ⟨rfl, rfl⟩) | (go_at_call 28; refine (alive2 _).mono ?_; rintro e wz ⟨rfl, hch⟩))
      go_ret
      exact ⟨rfl, HC.out.trans hch⟩
    · have hq : (((E1 : Nat) : Int) + (E2 : Int) != 0) = true := by rw [bne_iff_ne]; omega
      clear h hz
      go_wp2_with (first | (go_at_call 35; refine (no2_any _ _).mono ?_; rintro e w' ⟨rfl, rfl⟩) | (go_at_call 28; refine (alive2 _).mono ?_; rintro e wz ⟨rfl, hch⟩))
      go_ret
      exact ⟨rfl, HC.out.trans hch⟩

end Go.Proofs.Ytadhibemadgcoaa
