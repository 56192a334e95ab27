/- DiskFlushed answers true. Conditions: the second argument is a slice of calls, the third one of keeps. -/
import Derived.Test.YtadhibemadgcoaaLawAll
namespace Go.Proofs.Ytadhibemadgcoaa
open Go.RowKit

set_option maxRecDepth 20000 in
set_option maxHeartbeats 2000000 in
theorem flushed_any (n : Int) (a : Option Addr) (cap : Nat) (l : List AcV) (ka : Option Addr) (kcap : Nat) (kept : List (Int × Int)) (w : World)
    (h : Acs w (.slice a l.length cap) l) (hk : Kps w (.slice ka kept.length kcap) kept) :
    Calls Try.prog 11 #[.int .i64 n, .slice a l.length cap, .slice ka kept.length kcap] w fun e w' => e = .returned (.bool true) ∧ Ch (fun _ => False) w w' := by
  have HA := hid h
  have HK := hid hk
  clear h hk
  go_enter Try.func11, Try.ntmps11
  go_wp2_with fail
  refine (play_any n a cap l _ HA.out).mono ?_
  rintro e w1 ⟨c1, he⟩
  have HC1 := hid c1
  clear c1
  rcases he with rfl | ⟨p, d, M, F, rfl, hn1, hn2, hD, hPl, hM⟩
  · go_wp2_with fail
    refine (alive1 _).mono ?_
    rintro e w2 ⟨rfl, c2⟩
    have HC2 := hid (HC1.out.trans c2)
    clear c2
    go_wp2_with fail
    go_ret
    exact ⟨rfl, HC2.out⟩
  by_cases h200 : (200 : Int) < kept.length
  · clear hD hPl hM
    go_wp2_with fail
    refine (alive1 _).mono ?_
    rintro e w2 ⟨rfl, c2⟩
    have HC2 := hid (HC1.out.trans c2)
    clear c2
    go_wp2_with fail
    go_ret
    exact ⟨rfl, HC2.out⟩
  obtain ⟨n, rfl⟩ : ∃ k : Nat, n = (k : Int) := ⟨n.toNat, by omega⟩
  rw [Int.toNat_natCast] at hPl
  have HP := hid hPl
  have HM := hid hM
  have hfl := flush_any w1 hD (by have := hPl.steps; omega) (by have := hPl.wait; omega)
  have HFl := hid hfl
  clear hD hPl hM HA hfl
  by_cases hE : (flushD d).1 = 0
  · rw [hE] at HFl
    have HY := hid (flush_yes hE)
    have HPf := hid (HP.out.flush)
    clear hE
    go_wp2_with fail
    refine HFl.out.mono ?_
    rintro e w2 ⟨rfl, hD2, c2⟩
    have HD2 := hid hD2
    have HC2 := hid (HC1.out.then c2 (fun i hi h => by have := HM.out i h; omega))
    obtain ⟨d2, Hd2⟩ : ∃ d2, Hid ((flushD d).2 = d2) := ⟨_, hid rfl⟩
    have hw0 : d2.wait = [] := by rw [← Hd2.out, HY.out.2]
    have hg0 : d2.gone = false := by rw [← Hd2.out, HY.out.2]; exact HY.out.1
    rw [Hd2.out] at HD2 HPf
    have HW0 := hid hw0
    have HG0 := hid hg0
    clear hD2 c2 hw0 hg0 HY HFl
    go_wp2_with (go_at_call 22; refine (no1_any _ _).mono ?_; rintro e w' ⟨rfl, rfl⟩)
    refine (crash_any ka kcap kept _ HD2.out (by rw [HW0.out]; simp) (by omega) (HK.out.ch HC2.out (fun _ _ h => h))).mono ?_
    rintro e w3 ⟨p3, M3, rfl, hD3, c3, -⟩
    have HD3 := hid hD3
    have HDd := hid (HD2.out.ch c3 (fun _ _ h => h))
    have HC3 := hid (HC2.out.trans c3)
    have hwt := waiting_any w3 HDd.out
    have hsz := size_any w3 HD3.out
    rw [HW0.out] at hwt
    have hl3 : (crashD d2 kept).L.length = n := by rw [crash_wait_nil HW0.out]; exact HPf.out.len
    rw [hl3] at hsz
    have HWt := hid hwt
    have HSz := hid hsz
    have HRd : Hid (∀ i : Nat, i < n → (readD d2 (i : Int)).1 = 0 ∧ readD (crashD d2 kept) (i : Int) = readD d2 (i : Int)) := hid (fun i hi => flushed_read HW0.out HG0.out kept i (by rw [HPf.out.len]; exact hi))
    clear hD3 c3 hwt hsz hl3
    go_wp2_with (first | (go_at_call 40; refine HWt.out.mono ?_; rintro e w' ⟨rfl, rfl⟩) | (go_at_call 44; refine HSz.out.mono ?_; rintro e w' ⟨rfl, rfl⟩))
    go_loopw [9] (fun i wr => ∃ k : Nat, i = .int .i64 (k : Int) ∧ k ≤ n ∧ k ≤ 40 ∧ Hid (DiskAt wr p d2 M F) ∧ Hid (DiskAt wr p3 (crashD d2 kept) M3 M3) ∧ Hid (Ch (fun _ => False) w wr)) (fun i _ => 100 - (intOf i).toNat)
    case atStart => exact ⟨0, rfl, Nat.zero_le _, Nat.zero_le _, HDd, HD3, HC3⟩
    case round =>
      obtain ⟨k, rfl, hk, hk40, HA, HB, HC⟩ := hrel
      by_cases hlt : k < n
      · by_cases h40 : k < 40
        · have hr1 := read_any (k : Int) wr HA.out (by rw [HW0.out]; simp)
          have hr2 := fun w2 (hc : Ch (fun _ => False) wr w2) => read_any (k : Int) w2 (HB.out.ch hc (fun _ _ h => h)) (by show ([] : List (Nat × List UInt8)).length ≤ _; simp)
          obtain ⟨q1, q2⟩ := HRd.out k hlt
          rw [q2, q1] at hr2
          rw [q1] at hr1
          obtain ⟨R, HR⟩ : ∃ R, Hid ((readD d2 (k : Int)).2 = R) := ⟨_, hid rfl⟩
          rw [HR.out] at hr1 hr2
          have H1 := hid hr1
          have H2 := hid hr2
          clear hr1 hr2 q1 q2
          go_wp2_with fail
          refine H1.out.mono ?_
          rintro e w4 ⟨v1, rfl, hb1, c4, -, ⟨x1, cap1, rfl⟩⟩
          have HB1 := hid hb1
          have HC4 := hid c4
          clear hb1 c4
          go_wp2_with fail
          refine (H2.out _ HC4.out).mono ?_
          rintro e w5 ⟨v2, rfl, hb2, c5, -, ⟨x2, cap2, rfl⟩⟩
          have hs1 := str_of (HB1.out.ch c5 (fun _ _ h => h))
          have hs2 := str_of hb2
          obtain ⟨S, hS⟩ : ∃ S, S = (⟨R.toArray⟩ : ByteArray) := ⟨_, rfl⟩
          rw [← hS] at hs1 hs2
          have hbq : (S.toList == S.toList) = true := beq_str_eq rfl
          have HC5 := hid (HC4.out.trans c5)
          clear hb2 c5 hS
          go_wp2_with (go_at_call 22; refine (no1_any _ _).mono ?_; rintro e w' ⟨rfl, rfl⟩)
          go_roundw
          case rel => exact ⟨k + 1, by go_num, by omega, by omega, hid (HA.out.ch HC5.out (fun _ _ h => h)), hid (HB.out.ch HC5.out (fun _ _ h => h)), hid (HC.out.trans HC5.out)⟩
          case measure => simp [intOf]; omega
        · obtain rfl : k = 40 := by omega
          go_wp2_with fail
          refine (alive1 _).mono ?_
          rintro e w4 ⟨rfl, c4⟩
          have HC4 := hid (HC.out.trans c4)
          clear c4
          go_wp2_with fail
          go_ret
          exact ⟨rfl, HC4.out⟩
      · obtain rfl : k = n := by omega
        go_wp2_with fail
        refine (alive1 _).mono ?_
        rintro e w4 ⟨rfl, c4⟩
        have HC4 := hid (HC.out.trans c4)
        clear c4
        go_wp2_with fail
        go_ret
        exact ⟨rfl, HC4.out⟩
  · obtain ⟨E, HE⟩ : ∃ E, Hid ((flushD d).1 = E) := ⟨_, hid rfl⟩
    rw [HE.out] at HFl hE
    have hEb : ((E : Int) == 0) = false := by simpa using hE
    clear hE
    go_wp2_with fail
    refine HFl.out.mono ?_
    rintro e w2 ⟨rfl, -, c2⟩
    have HC2 := hid (HC1.out.then c2 (fun i hi h => by have := HM.out i h; omega))
    clear c2
    go_wp2_with (go_at_call 22; refine (no1_any _ _).mono ?_; rintro e w' ⟨rfl, rfl⟩)
    refine (alive1 _).mono ?_
    rintro e w3 ⟨rfl, c3⟩
    have HC3 := hid (HC2.out.trans c3)
    clear c3
    go_wp2_with fail
    go_ret
    exact ⟨rfl, HC3.out⟩

end Go.Proofs.Ytadhibemadgcoaa
