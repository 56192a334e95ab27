/- DiskFuses answers true. Conditions: the third argument is a slice of bools. -/
import Derived.Test.YtadhibemadgcoaaDiskL
namespace Go.Proofs.Ytadhibemadgcoaa
open Go.RowKit

set_option maxRecDepth 20000 in
set_option maxHeartbeats 2000000 in
theorem fuses_any (n f : Int) (a : Option Addr) (cap : Nat) (l : List Bool) (w : World) (hl : Bls w (.slice a l.length cap) l) :
    Calls Try.prog 10 #[.int .i64 n, .int .i64 f, .slice a l.length cap] w fun e w' => e = .returned (.bool true) ∧ Ch (fun _ => False) w w' := by
  have HB := hid hl
  clear hl
  by_cases hn : n < 1 ∨ 4096 < n
  · go_enter Try.func10, Try.ntmps10
    go_wp2_with (first | (go_at_call 41; refine (new_bad n _ hn).mono ?_; rintro e w' ⟨rfl, rfl⟩) | (go_at_call 22; refine (no1_any _ _).mono ?_; rintro e w' ⟨rfl, rfl⟩))
    refine (alive1 _).mono ?_
    rintro e w' ⟨rfl, hc⟩
    have HC := hid hc
    clear hc
    go_wp2_with fail
    go_ret
    exact ⟨rfl, HC.out⟩
  obtain ⟨n, rfl⟩ : ∃ k : Nat, n = (k : Int) := ⟨n.toNat, by omega⟩
  by_cases hlen : 60 < l.length
  · go_enter Try.func10, Try.ntmps10
    go_wp2_with fail
    refine (new_ok n _ (by omega) (by omega)).mono ?_
    rintro e w1 ⟨p, M, rfl, -, c1, -⟩
    have HC1 := hid c1
    clear c1
    go_wp2_with (go_at_call 22; refine (no1_any _ _).mono ?_; rintro e w' ⟨rfl, rfl⟩)
    refine (alive1 _).mono ?_
    rintro e w' ⟨rfl, hc⟩
    have HC := hid (HC1.out.trans hc)
    clear hc HC1
    go_wp2_with fail
    go_ret
    exact ⟨rfl, HC.out⟩
  have hl60 : l.length ≤ 60 := by omega
  have hn1 : 1 ≤ n := by omega
  have hn2 : n ≤ 4096 := by omega
  clear hn hlen
  obtain ⟨F, hF, hF60⟩ : ∃ F : Nat, Int.tmod (Int.tmod f 61 + 61) 61 = (F : Int) ∧ F ≤ 60 := by
    have h1 := Int.tmod_lt_of_pos f (show (0 : Int) < 61 by omega)
    have h2 : -61 < Int.tmod f 61 := by
      have := Int.tmod_lt_of_pos (-f) (show (0 : Int) < 61 by omega)
      rw [Int.neg_tmod] at this
      omega
    have h3 := Int.tmod_nonneg (a := Int.tmod f 61 + 61) 61 (by omega)
    have h4 := Int.tmod_lt_of_pos (Int.tmod f 61 + 61) (show (0 : Int) < 61 by omega)
    exact ⟨(Int.tmod (Int.tmod f 61 + 61) 61).toNat, by omega, by omega⟩
  have hw1 : IntKind.i64.wrap (Int.tmod f 61) = Int.tmod f 61 := by
    have h1 := Int.tmod_lt_of_pos f (show (0 : Int) < 61 by omega)
    have h2 : -61 < Int.tmod f 61 := by
      have := Int.tmod_lt_of_pos (-f) (show (0 : Int) < 61 by omega)
      rw [Int.neg_tmod] at this
      omega
    exact wrap_id (by omega) (by omega)
  have hw2 : IntKind.i64.wrap (Int.tmod f 61 + 61) = Int.tmod f 61 + 61 := by
    have h1 := Int.tmod_lt_of_pos f (show (0 : Int) < 61 by omega)
    have h2 : -61 < Int.tmod f 61 := by
      have := Int.tmod_lt_of_pos (-f) (show (0 : Int) < 61 by omega)
      rw [Int.neg_tmod] at this
      omega
    exact wrap_id (by omega) (by omega)
  have hw3 : IntKind.i64.wrap (F : Int) = F := wrap_id (by omega) (by omega)
  go_enter Try.func10, Try.ntmps10
  go_wp2_with fail
  refine (new_ok n _ hn1 hn2).mono ?_
  rintro e w1 ⟨p, M, rfl, hD, c1, m1⟩
  have HD1 := hid hD
  have HM1 := hid m1
  have HC1 := hid c1
  clear hD c1 m1
  go_wp2_with (go_at_call 22; refine (no1_any _ _).mono ?_; rintro e w' ⟨rfl, rfl⟩)
  refine (fuse_any (F : Int) _ (by omega) HD1.out).mono ?_
  rintro e w2 ⟨rfl, hD2, c2⟩
  have HD2 := hid hD2
  have HC2 := hid (HC1.out.then c2 (fun i hi h => by have := HM1.out i h; omega))
  clear hD2 c2 HD1 HC1 hw1 hw2 hw3 hF
  go_wp2
  go_loopw [37] (fun k wr => ∃ j : Nat, k = .int .i64 (j : Int) ∧ j ≤ l.length ∧ Hid (∃ d M F', DiskAt wr p d M F' ∧ Fu d n F j ∧ ∀ k, M k → w.heap.size ≤ k) ∧ Hid (Ch (fun _ => False) w wr)) (fun k _ => l.length - (intOf k).toNat)
  case atStart => exact ⟨0, rfl, Nat.zero_le _, hid ⟨_, _, _, HD2.out, Fu.start n F, HM1.out⟩, HC2⟩
  case round =>
    obtain ⟨j, rfl, hj, HI, HC⟩ := hrel
    obtain ⟨d, M', F', hD, hFu, hM'⟩ := HI.out
    have HD := hid hD
    have HF := hid hFu
    have HM' := hid hM'
    have hst : d.steps ≤ 1000000 := by rw [hFu.steps]; omega
    have hwt : d.wait.length ≤ 1000000 := by have := hFu.wait; omega
    clear hD hFu hM' HI
    by_cases hlt : j < l.length
    · obtain ⟨x, HX⟩ : ∃ x, Hid (l[j]? = some x) := ⟨l[j]'hlt, hid (List.getElem?_eq_getElem _)⟩
      obtain ⟨b, off, rfl, k1, k2⟩ := (HB.out.ch HC.out (fun _ _ h => h)).get HX.out
      cases x
      · have hof := of_any (UInt8.ofNat j) wr
        rw [show ((UInt8.ofNat j).toNat : Int) = (j : Int) by simp; omega] at hof
        have HOf := hid hof
        have hw8 : IntKind.u8.wrap (j : Int) = (j : Int) := by rw [IntKind.wrap_u8]; omega
        have hMlt : ∀ k, M' k → k < wr.heap.size := by obtain ⟨_, _, _, _, _, _, _, _, h4, h5⟩ := HD.out; exact fun k h => h5 k (h4 k h)
        have hlt' : ∀ k, (secV (wr.heap.size, 512)).ownBlock = some k → ¬ M' k := fun k hk hm => by
          have := hMlt k hm
          obtain rfl : wr.heap.size = k := by simpa [secV, Value.ownBlock] using hk
          omega
        obtain ⟨e1, e2⟩ := HF.out.write hn1 (ofB (UInt8.ofNat j)) (ofB_length _)
        have HE2 := hid e2
        clear e2 hof hMlt
        by_cases hi : j < F
        · rw [fuE, if_pos hi] at e1
          have HE1 := hid e1
          clear e1
          go_wp2_with fail
          refine HOf.out.mono ?_
          rintro e w3 ⟨rfl, hs3, c3⟩
          have HB3 := hid hs3.bts
          have HD3 := hid (HD.out.ch c3 (fun _ _ h => h))
          have HC3 := hid (HC.out.trans c3)
          have HL := hid hlt'
          clear hs3 c3
          go_wp2_with fail
          refine (write_any 0 _ 512 512 _ _ HD3.out hst hwt HB3.out (ofB_length _) HL.out).mono ?_
          rintro e w4 ⟨he, M4, F4, hD4, hm4, -, c4⟩
          rw [HE1.out] at he
          subst he
          have HD4 := hid hD4
          have HM4 : Hid (∀ k, M4 k → w.heap.size ≤ k) := hid (fun k hk => by
            rcases hm4 k hk with h | h
            · exact HM'.out k h
            · exact Nat.le_trans HC3.out.size h)
          have HC4 := hid (HC3.out.then c4 (fun i hi h => by have := HM'.out i h; omega))
          clear hD4 hm4 c4
          go_wp2_with (go_at_call 22; refine (no1_any _ _).mono ?_; rintro e w' ⟨rfl, rfl⟩)
          go_roundw
          case rel => exact ⟨j + 1, by go_num, by omega, hid ⟨_, _, _, HD4.out, HE2.out, HM4.out⟩, HC4⟩
          case measure => simp [intOf]; omega
        · rw [fuE, if_neg hi] at e1
          have HE1 := hid e1
          clear e1
          go_wp2_with fail
          refine HOf.out.mono ?_
          rintro e w3 ⟨rfl, hs3, c3⟩
          have HB3 := hid hs3.bts
          have HD3 := hid (HD.out.ch c3 (fun _ _ h => h))
          have HC3 := hid (HC.out.trans c3)
          have HL := hid hlt'
          clear hs3 c3
          go_wp2_with fail
          refine (write_any 0 _ 512 512 _ _ HD3.out hst hwt HB3.out (ofB_length _) HL.out).mono ?_
          rintro e w4 ⟨he, M4, F4, hD4, hm4, -, c4⟩
          rw [HE1.out] at he
          subst he
          have HD4 := hid hD4
          have HM4 : Hid (∀ k, M4 k → w.heap.size ≤ k) := hid (fun k hk => by
            rcases hm4 k hk with h | h
            · exact HM'.out k h
            · exact Nat.le_trans HC3.out.size h)
          have HC4 := hid (HC3.out.then c4 (fun i hi h => by have := HM'.out i h; omega))
          clear hD4 hm4 c4
          go_wp2_with (go_at_call 22; refine (no1_any _ _).mono ?_; rintro e w' ⟨rfl, rfl⟩)
          go_roundw
          case rel => exact ⟨j + 1, by go_num, by omega, hid ⟨_, _, _, HD4.out, HE2.out, HM4.out⟩, HC4⟩
          case measure => simp [intOf]; omega
      · have HFl := hid (flush_any wr HD.out hst hwt)
        obtain ⟨e1, e2⟩ := HF.out.flush
        rw [e1] at HFl
        have HE2 := hid e2
        clear e1 e2
        by_cases hi : j < F
        · rw [fuE, if_pos hi] at HFl
          go_wp2_with (first
            | (go_at_call 23; refine HFl.out.mono ?_; rintro e w3 ⟨rfl, hD3, c3⟩; have HD3 := hid hD3; have HC3 := hid c3; clear hD3 c3)
            | (go_at_call 22; refine (no1_any _ _).mono ?_; rintro e w' ⟨rfl, rfl⟩))
          go_roundw
          case rel => exact ⟨j + 1, by go_num, by omega, hid ⟨_, _, _, HD3.out, HE2.out, HM'.out⟩, hid (HC.out.then HC3.out (fun i hi h => by have := HM'.out i h; omega))⟩
          case measure => simp [intOf]; omega
        · rw [fuE, if_neg hi] at HFl
          go_wp2_with (first
            | (go_at_call 23; refine HFl.out.mono ?_; rintro e w3 ⟨rfl, hD3, c3⟩; have HD3 := hid hD3; have HC3 := hid c3; clear hD3 c3)
            | (go_at_call 22; refine (no1_any _ _).mono ?_; rintro e w' ⟨rfl, rfl⟩))
          go_roundw
          case rel => exact ⟨j + 1, by go_num, by omega, hid ⟨_, _, _, HD3.out, HE2.out, HM'.out⟩, hid (HC.out.then HC3.out (fun i hi h => by have := HM'.out i h; omega))⟩
          case measure => simp [intOf]; omega
    · obtain rfl : j = l.length := by omega
      have hRd := read_any 0 wr HD.out hwt
      have hE := HF.out.read hn1
      rw [hE] at hRd
      by_cases hi : l.length ≤ F
      · rw [if_pos hi] at hRd
        have HRd := hid hRd
        have hmin : min l.length F = l.length := by omega
        clear hRd hE
        go_wp2_with fail
        refine HRd.out.mono ?_
        rintro e w3 ⟨v, rfl, -, c3, -, -⟩
        have HD3 := hid (HD.out.ch c3 (fun _ _ h => h))
        have HC3 := hid (HC.out.trans c3)
        have hst3 := steps_any w3 HD3.out
        rw [HF.out.steps, hmin] at hst3
        have HS3 := hid hst3
        clear c3 hst3 HRd
        go_wp2_with (first | (go_at_call 22; refine (no1_any _ _).mono ?_; rintro e w' ⟨rfl, rfl⟩) | (go_at_call 43; refine HS3.out.mono ?_; rintro e w' ⟨rfl, rfl⟩))
        all_goals refine (alive1 _).mono ?_
        all_goals rintro e w4 ⟨rfl, c4⟩
        all_goals have HC4 := hid (HC3.out.trans c4)
        all_goals clear c4
        all_goals go_wp2_with fail
        all_goals go_ret
        all_goals refine ⟨?_, HC4.out⟩
        all_goals first | rfl | (simp; omega)
      · rw [if_neg hi] at hRd
        have HRd := hid hRd
        have hmin : min l.length F = F := by omega
        clear hRd hE
        go_wp2_with fail
        refine HRd.out.mono ?_
        rintro e w3 ⟨v, rfl, -, c3, -, -⟩
        have HD3 := hid (HD.out.ch c3 (fun _ _ h => h))
        have HC3 := hid (HC.out.trans c3)
        have hst3 := steps_any w3 HD3.out
        rw [HF.out.steps, hmin] at hst3
        have HS3 := hid hst3
        clear c3 hst3 HRd
        go_wp2_with (first | (go_at_call 22; refine (no1_any _ _).mono ?_; rintro e w' ⟨rfl, rfl⟩) | (go_at_call 43; refine HS3.out.mono ?_; rintro e w' ⟨rfl, rfl⟩))
        all_goals refine (alive1 _).mono ?_
        all_goals rintro e w4 ⟨rfl, c4⟩
        all_goals have HC4 := hid (HC3.out.trans c4)
        all_goals clear c4
        all_goals go_wp2_with fail
        all_goals go_ret
        all_goals refine ⟨?_, HC4.out⟩
        all_goals first | rfl | (simp; omega)

end Go.Proofs.Ytadhibemadgcoaa
