/- DiskPlays answers true. Conditions: the second argument is a slice of calls. -/
import Derived.Test.YtadhibemadgcoaaDiskDo
namespace Go.Proofs.Ytadhibemadgcoaa
open Go.RowKit

set_option maxRecDepth 100000 in
set_option maxHeartbeats 4000000 in
theorem plays_any (n : Int) (a : Option Addr) (cap : Nat) (l : List AcV) (w : World) (h : Acs w (.slice a l.length cap) l) :
    Calls Try.prog 12 #[.int .i64 n, .slice a l.length cap] w fun e w' => e = .returned (.bool true) ∧ Ch (fun _ => False) w w' := by
  have HA := hid h
  clear h
  by_cases hn : n < 1 ∨ 4096 < n
  · go_enter Try.func12, Try.ntmps12
    go_wp2_with (first | (go_at_call 41; refine (new_bad n _ hn).mono ?_; rintro e w' ⟨rfl, rfl⟩) | (go_at_call 22; refine (no1_any _ _).mono ?_; rintro e w' ⟨rfl, rfl⟩) | (go_at_call 45; refine (rnew_bad n _ hn).mono ?_; rintro e w' ⟨rfl, rfl⟩))
    refine (alive1 _).mono ?_
    rintro e w1 ⟨rfl, c1⟩
    have HC1 := hid c1
    clear c1
    go_wp2_with fail
    go_ret
    exact ⟨rfl, HC1.out⟩
  obtain ⟨n, rfl⟩ : ∃ k : Nat, n = (k : Int) := ⟨n.toNat, by omega⟩
  have hn1 : 1 ≤ n := by omega
  have hn2 : n ≤ 4096 := by omega
  clear hn
  go_enter Try.func12, Try.ntmps12
  go_wp2_with fail
  refine (new_ok n _ hn1 hn2).mono ?_
  rintro e w1 ⟨p, M, rfl, hD, c1, m1⟩
  have HD1 := hid hD
  have HM1 := hid m1
  have HC1 := hid c1
  clear hD c1 m1
  go_wp2_with fail
  refine (rnew_ok n _ hn1 hn2).mono ?_
  rintro e w2 ⟨q, Mr, rfl, hR, c2, m2⟩
  have HB2 : Hid (Both w w2 p q { L := List.replicate n (zeros 512), wait := [], steps := 0, fuse := -1, gone := false }) := hid ⟨M, M, Mr, HD1.out.ch c2 (fun _ _ h => h), hR, fun k hk hf => (by have := m2 k hk; have := HD1.out.lt k hf; omega), HM1.out, fun k hk => Nat.le_trans HC1.out.size (m2 k hk), HC1.out.trans c2⟩
  clear hR c2 m2 HD1 HM1 HC1
  go_wp2_with (go_at_call 22; refine (no1_any _ _).mono ?_; rintro e w' ⟨rfl, rfl⟩)
  refine (alive1 _).mono ?_
  rintro e w3 ⟨rfl, c3⟩
  have HB3 := hid (HB2.out.ch c3)
  have HC3 := hid (show Ch (fun _ => False) w w3 by obtain ⟨_, _, _, _, _, _, _, _, h⟩ := HB3.out; exact h)
  clear c3
  go_wp2_with fail
  refine (few_any a cap l _ (HA.out.ch HC3.out (fun _ _ h => h))).mono ?_
  rintro e w' ⟨b, rfl, rfl, hb⟩
  cases b with
  | false =>
    clear hb
    go_wp2_with fail
    go_ret
    exact ⟨rfl, HC3.out⟩
  | true =>
    have hl80 := (hb rfl).1
    have HK := hid (hb rfl).2
    clear hb
    go_wp2_with fail
    go_loopw [5, 7, 46] (fun dv rv i wr => ∃ (j p q : Nat), i = .int .i64 (j : Int) ∧ dv = .pointer (some ⟨p, 0, none⟩) ∧ rv = .pointer (some ⟨q, 0, none⟩) ∧ j ≤ l.length ∧ Hid (∃ d, Both w wr p q d ∧ Pl d n j)) (fun _ _ i _ => l.length - (intOf i).toNat)
    case atStart => exact ⟨0, p, q, rfl, rfl, rfl, Nat.zero_le _, hid ⟨_, HB3.out, Pl.start n⟩⟩
    case round =>
      obtain ⟨j, p, q, rfl, rfl, rfl, hj, HI⟩ := hrel
      obtain ⟨d, hB, hPl⟩ := HI.out
      have HB := hid hB
      have HP := hid hPl
      obtain ⟨M, F, Mr, hD, hR, hX, hM, hMr, hC⟩ := hB
      have HC := hid hC
      by_cases hlt : j < l.length
      · obtain ⟨x, HX⟩ : ∃ x, Hid (l[j]? = some x) := ⟨l[j]'hlt, hid (List.getElem?_eq_getElem _)⟩
        obtain ⟨b, off, rfl, hat⟩ := (HA.out.ch HC.out (fun _ _ h => h)).get HX.out
        have hkl := HK.out x (List.mem_of_getElem? HX.out)
        obtain ⟨k, a', n', c, kv, kept⟩ := x
        obtain ⟨c0, c1, c2, c3, c4, hkept, hn', hblt⟩ := hat
        dsimp only at c0 c1 c2 c3 c4 hkept hn' hkl
        obtain ⟨ka, kcap, hkv⟩ := hkept.form
        subst hkv
        have HKp := hid hkept
        have HD := hid hD
        have HDF := hid hD.ltF
        have HR := hid hR
        have HXX := hid hX
        have HM := hid hM
        have HMr := hid hMr
        have HSt : Hid (d.steps ≤ 1000000) := hid (by have := hPl.steps; omega)
        have HWt : Hid (d.wait.length ≤ 1000000) := hid (by have := hPl.wait; omega)
        have HKl : Hid (kept.length ≤ 1000000) := hid (by omega)
        have HF5 := hid (five_new wr (.int .i64 k) (.int .i64 a') (.int .i64 n') (.int .u8 (c.toNat : Int)) (.slice ka kept.length kcap))
        have HC0 := hid ((Ch.refl (fun _ => False) wr).alloc (.cells #[.int .i64 k, .int .i64 a', .int .i64 n', .int .u8 (c.toNat : Int), .slice ka kept.length kcap] 33))
        clear hD hR hX hM hMr hC hPl HI hkept
        by_cases k4 : k = 4
        · subst k4
          have HPn := hid (HP.out.crash kept)
          go_wp2_with fail
          refine wp_region_noPanic ?_
          refine wp_region_held_drew (S := (fun W => W.cell? ⟨wr.heap.size, 0, none⟩ = some (.int .i64 4) ∧ W.cell? ⟨wr.heap.size, 1, none⟩ = some (.int .i64 a') ∧ W.cell? ⟨wr.heap.size, 2, none⟩ = some (.int .i64 n') ∧ W.cell? ⟨wr.heap.size, 3, none⟩ = some (.int .u8 (c.toNat : Int)) ∧ W.cell? ⟨wr.heap.size, 4, none⟩ = some (.slice ka kept.length kcap))) (by kernel_rfl) HF5.out (fun hHeld => ?_)
          refine wpAnyH_take (i := 0) (v := ?_) rfl (by kernel_rfl) (by kernel_rfl) (by kernel_rfl) (fun _ _ _ h => h) (Or.inl ⟨by rfl, ?_⟩) (by assumption) ?_
          rotate_left
          · intro w hSw
            try dsimp only at hSw
            go_simp
            all_goals with_reducible rfl
          try simp only [lay_all]
          refine wpAnyH_take (i := 1) (v := ?_) rfl (by kernel_rfl) (by kernel_rfl) (by kernel_rfl) (fun _ _ _ h => h) (Or.inl ⟨by rfl, ?_⟩) (by assumption) ?_
          rotate_left
          · intro w hSw
            try dsimp only at hSw
            go_simp
            all_goals with_reducible rfl
          try simp only [lay_all]
          refine wpAnyH_take (i := 2) (v := ?_) rfl (by kernel_rfl) (by kernel_rfl) (by kernel_rfl) (fun _ _ _ h => h) (Or.inl ⟨by rfl, ?_⟩) (by assumption) ?_
          rotate_left
          · intro w hSw
            try dsimp only at hSw
            go_simp
            all_goals with_reducible rfl
          try simp only [lay_all]
          refine wpAnyH_take (i := 4) (v := ?_) rfl (by kernel_rfl) (by kernel_rfl) (by kernel_rfl) (fun _ _ _ h => h) (Or.inl ⟨by rfl, ?_⟩) (by assumption) ?_
          rotate_left
          · intro w hSw
            try dsimp only at hSw
            go_simp
            all_goals with_reducible rfl
          try simp only [lay_all]
          refine wpAnyH_take (i := 5) (v := ?_) rfl (by kernel_rfl) (by kernel_rfl) (by kernel_rfl) (fun _ _ _ h => h) (Or.inl ⟨by rfl, ?_⟩) (by assumption) ?_
          rotate_left
          · intro w hSw
            try dsimp only at hSw
            go_simp
            all_goals with_reducible rfl
          try simp only [lay_all]
          refine wpAnyH_take (i := 6) (v := ?_) rfl (by kernel_rfl) (by kernel_rfl) (by kernel_rfl) (fun _ _ _ h => h) (Or.inl ⟨by rfl, ?_⟩) (by assumption) ?_
          rotate_left
          · intro w hSw
            try dsimp only at hSw
            go_simp
            all_goals with_reducible rfl
          try simp only [lay_all]
          refine wpAnyH_ready (rs := [3]) (by kernel_rfl) (by simp) ?_
          refine AllReadyH.cons rfl (fun K hK => ?_) AllReadyH.nil
          go_simp
          have c01 := ((Ch.refl (fun _ => False) wr).alloc (.cells #[.int .i64 4, .int .i64 a', .int .i64 n', .int .u8 (c.toNat : Int), .slice ka kept.length kcap] 33)).drew
          refine (crash_any ka kcap kept _ (HD.out.ch c01 (fun _ _ h => h)) HWt.out HKl.out (HKp.out.ch c01 (fun _ _ h => h))).mono ?_
          rintro e w3 ⟨p3, M3, rfl, hD3, c3, m3⟩
          have c13 := c01.trans c3
          have HD3 := hid hD3
          have HC3 := hid c13
          have HM3 := hid (fun k hk => Nat.le_trans c01.size (m3 k hk))
          have HS2 := hid (keep5 hHeld c3 (fun _ _ h => h))
          clear hD3 c3 m3 c13 c01
          go_wp2_with fail
          refine hK.out _ _ ?_ (fun hHeld => ?_)
          · first | exact HS2.out | assumption
          clear hK K
          try simp only [lay_all]
          refine wpAnyH_ready (rs := [7]) (by kernel_rfl) (by simp) ?_
          refine AllReadyH.cons rfl (fun K hK => ?_) AllReadyH.nil
          go_simp
          refine (rcrash_any ka kcap kept _ (HR.out.ch HC3.out (fun _ _ h => h)) HWt.out HKl.out (HKp.out.ch HC3.out (fun _ _ h => h))).mono ?_
          rintro e w4 ⟨q4, M4, rfl, hR4, c4, m4⟩
          have HB4 : Hid (Both w w4 p3 q4 (crashD d kept)) := hid ⟨M3, M3, M4, HD3.out.ch c4 (fun _ _ h => h), hR4, fun k hk hf => (by have := m4 k hk; have := HD3.out.lt k hf; omega), fun k hk => Nat.le_trans HC.out.size (HM3.out k hk), fun k hk => Nat.le_trans (HC.out.trans HC3.out).size (m4 k hk), (HC.out.trans HC3.out).trans c4⟩
          have HS2 := hid (keep5 HS2.out c4 (fun _ _ h => h))
          clear hR4 c4 m4
          go_wp2_with fail
          refine hK.out _ _ ?_ (fun hHeld => ?_)
          · first | exact HS2.out | assumption
          clear hK K
          try simp only [lay_all]
          refine wpAnyH_take (i := 8) (v := ?_) rfl (by kernel_rfl) (by kernel_rfl) (by kernel_rfl) (fun _ _ _ h => h) (Or.inl ⟨by rfl, ?_⟩) (by assumption) ?_
          rotate_left
          · intro w hSw
            try dsimp only at hSw
            go_simp
            all_goals with_reducible rfl
          try simp only [lay_all]
          refine wpAnyH_take (i := 9) (v := ?_) rfl (by kernel_rfl) (by kernel_rfl) (by kernel_rfl) (fun _ _ _ h => h) (Or.inl ⟨by rfl, ?_⟩) (by assumption) ?_
          rotate_left
          · intro w hSw
            try dsimp only at hSw
            go_simp
            all_goals with_reducible rfl
          try simp only [lay_all]
          refine wpAnyH_done (by kernel_rfl) ?_ _
          refine NoPanic.normal ?_
          go_wp2_with fail
          refine (alike_any _ HB4.out (by have := HPn.out.wait; omega)).mono ?_
          rintro e w9 ⟨rfl, c9⟩
          have HB9 := hid (HB4.out.ch c9)
          clear c9
          go_wp2_with fail
          go_roundw
          case rel => exact ⟨j + 1, _, _, by go_num, rfl, rfl, by omega, hid ⟨_, HB9.out, HPn.out⟩⟩
          case measure => simp [intOf]; omega
        have b4 : (k == 4) = false := by simpa using k4
        clear k4
        by_cases k5 : k = 5
        · subst k5
          clear b4
          have HPn := hid HP.out.up
          go_wp2_with fail
          refine (copy_any _ (HD.out.ch HC0.out (fun _ _ h => h)) HWt.out).mono ?_
          rintro e w3 ⟨p3, M3, F3, rfl, hD3, c3, m3, f3⟩
          have q3 : w3.cell? ⟨wr.heap.size, 3, none⟩ = some (.int .u8 (c.toNat : Int)) := cell_ch (S := fun _ => False) (w := wr.alloc (.cells #[.int .i64 5, .int .i64 a', .int .i64 n', .int .u8 (c.toNat : Int), .slice ka kept.length kcap] 33)) HF5.out.2.2.2.1 c3 (fun h => h)
          have HD3 := hid hD3
          have HC3 := hid (HC0.out.trans c3)
          have HM3 := hid (fun k hk => Nat.le_trans HC0.out.size (m3 k hk))
          have HF3 : Hid (∀ k, F3 k → ¬ M k) := hid (fun k hk hm => by
            have h1 := HD.out.lt k hm
            have h2 := HC0.out.size
            rcases f3 k hk with h | h
            · exact h.2 hm
            · omega)
          clear hD3 c3 m3 f3
          go_wp2_with fail
          refine (of_any c _).mono ?_
          rintro e w4 ⟨rfl, hs4, c4⟩
          have HB4 := hid hs4.bts
          have HC4 := hid (HC3.out.trans c4)
          have HD4 := hid (HD3.out.ch c4 (fun _ _ h => h))
          have HG : Hid (∀ q, (secV (w3.heap.size, 512)).ownBlock = some q → ¬ M q) := hid (fun q hq hm => by
            obtain rfl : w3.heap.size = q := by simpa [secV, Value.ownBlock] using hq
            have := HD.out.lt _ hm
            have := HC3.out.size
            omega)
          clear hs4 c4 q3
          go_wp2_with fail
          refine (write_any 0 _ 512 512 (ofB c) _ (HD.out.ch HC4.out (fun _ _ h => h)) HSt.out HWt.out HB4.out (ofB_length _) HG.out).mono ?_
          rintro e w5 ⟨rfl, -, -, -, -, -, c5⟩
          have HD5 := hid (HD4.out.ch c5 HF3.out)
          have HR5 := hid ((HR.out.ch HC4.out (fun _ _ h => h)).ch c5 (fun k hk hm => HXX.out k hk (HDF.out.2 k hm)))
          have HC5 : Hid (Ch (fun _ => False) w w5) := hid ((HC.out.trans HC4.out).then c5 (fun i hi h => by have := HM.out i h; omega))
          have HZ5 := hid (Nat.le_trans HC4.out.size c5.size)
          clear c5
          go_wp2_with fail
          refine (rcopy_any _ HR5.out HWt.out).mono ?_
          rintro e w6 ⟨q6, M6, rfl, hR6, c6, m6⟩
          have HB6 : Hid (Both w w6 p3 q6 d) := hid ⟨M3, F3, M6, HD5.out.ch c6 (fun _ _ h => h), hR6, fun k hk hf => (by have := m6 k hk; have := HD5.out.ltF.1 k hf; omega), fun k hk => Nat.le_trans HC.out.size (HM3.out k hk), fun k hk => Nat.le_trans HC5.out.size (m6 k hk), HC5.out.trans c6⟩
          clear hR6 c6 m6
          go_wp2_with fail
          refine (alike_any _ HB6.out (by have := HPn.out.wait; omega)).mono ?_
          rintro e w9 ⟨rfl, c9⟩
          have HB9 := hid (HB6.out.ch c9)
          clear c9
          go_wp2_with fail
          go_roundw
          case rel => exact ⟨j + 1, _, _, by go_num, rfl, rfl, by omega, hid ⟨_, HB9.out, HPn.out⟩⟩
          case measure => simp [intOf]; omega
        have b5 : (k == 5) = false := by simpa using k5
        clear k5
        go_wp2_with fail
        refine (do_any (n := n) (i := j) k a' n' c ka kept.length kcap _ (HB.out.ch HC0.out) HP.out (by omega) hn').mono ?_
        rintro e w3 ⟨rfl, dd, hB3, hP3⟩
        have HB7 := hid hB3
        have HP7 := hid hP3
        clear hB3 hP3
        go_wp2_with fail
        refine (alike_any _ HB7.out (by have := HP7.out.wait; omega)).mono ?_
        rintro e w9 ⟨rfl, c9⟩
        have HB9 := hid (HB7.out.ch c9)
        clear c9
        go_wp2_with fail
        go_roundw
        case rel => exact ⟨j + 1, _, _, by go_num, rfl, rfl, by omega, hid ⟨_, HB9.out, HP7.out⟩⟩
        case measure => simp [intOf]; omega
      · obtain rfl : j = l.length := by omega
        clear hD hR hX hM hMr hC hPl HI
        go_wp2_with fail
        go_ret
        exact ⟨rfl, HC.out⟩

end Go.Proofs.Ytadhibemadgcoaa
