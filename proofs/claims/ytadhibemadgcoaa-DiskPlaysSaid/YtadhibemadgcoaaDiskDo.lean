/- The disk laws' do and alike: a call of the disk and of the reference's; do both tell the same. Conditions: as each theorem says. -/
import Derived.Test.YtadhibemadgcoaaDiskCo
import Derived.Deep.RegionHeld3
namespace Go.Proofs.Ytadhibemadgcoaa
open Go.RowKit

theorem quiet_left {P : Program} {f : FuncId} {args : Array Value} {w : World} {n : Nat} {v : Value}
    (h : Calls P f args (w.drewN n) fun e w' => e = .returned v ∧ w.drewN n = w') : Calls P f args (w.drewN n) fun e w'' => e = .returned v ∧ ∃ m, w'' = w.drewN m :=
  h.mono fun _ _ ⟨he, hm⟩ => ⟨he, n, hm.symm⟩
theorem ch_drewN (w : World) (n : Nat) : Ch (fun _ => False) w (w.drewN n) := ⟨rfl, rfl, rfl, Nat.le_refl _, fun _ _ _ => rfl⟩

/-- A disk and the reference's, alike, both new since w0. -/
def Both (w0 w : World) (p q : Nat) (d : Dk) : Prop :=
  ∃ M F Mr, DiskAt w p d M F ∧ RAt w q d Mr ∧ (∀ k, Mr k → ¬ F k) ∧ (∀ k, M k → w0.heap.size ≤ k) ∧ (∀ k, Mr k → w0.heap.size ≤ k) ∧ Ch (fun _ => False) w0 w
theorem Both.ch {w0 w w' : World} {p q : Nat} {d : Dk} (h : Both w0 w p q d) (hc : Ch (fun _ => False) w w') : Both w0 w' p q d := by
  obtain ⟨M, F, Mr, h1, h2, h3, h4, h5, h6⟩ := h
  exact ⟨M, F, Mr, h1.ch hc (fun _ _ h => h), h2.ch hc (fun _ _ h => h), h3, h4, h5, h6.trans hc⟩

set_option maxRecDepth 20000 in
set_option maxHeartbeats 2000000 in
theorem alike_any {w0 : World} {p q : Nat} {d : Dk} (w : World) (h : Both w0 w p q d) (hwt : d.wait.length ≤ 1000000) :
    Calls Try.prog 51 #[.pointer (some ⟨p, 0, none⟩), .pointer (some ⟨q, 0, none⟩)] w fun e w' => e = .returned (.bool true) ∧ Ch (fun _ => False) w w' := by
  obtain ⟨M, F, Mr, hD, hR, _⟩ := h
  have HD := hid hD
  have HR := hid hR
  obtain ⟨Lv, Wv, h1, _⟩ := hR
  obtain ⟨n, HN⟩ : ∃ n, Hid (d.L.length = n) := ⟨_, hid rfl⟩
  obtain ⟨wl, HWl⟩ : ∃ n, Hid (d.wait.length = n) := ⟨_, hid rfl⟩
  obtain ⟨st, HSt⟩ : ∃ n : Int, Hid ((d.steps : Int) = n) := ⟨_, hid rfl⟩
  have hc0 := cell_blk h1.hp 0
  have hc1 := cell_blk h1.hp 1
  have hc2 := cell_blk h1.hp 2
  simp at hc0 hc1 hc2
  obtain ⟨la, lc, rfl⟩ := owns_form h1.hL
  obtain ⟨wa, wc, rfl⟩ := owns_form h1.hW
  rw [HN.out] at hc0
  rw [HWl.out] at hc1 hwt
  rw [HSt.out] at hc2
  have hn2 := h1.n2
  rw [HN.out] at hn2
  have K1 := hid (fun k => size_any (w.drewN k) (HD.out.ch (ch_drewN w k) (fun _ _ h => h)))
  have K2 := hid (fun k => waiting_any (w.drewN k) (HD.out.ch (ch_drewN w k) (fun _ _ h => h)))
  have K3 := hid (fun k => steps_any (w.drewN k) (HD.out.ch (ch_drewN w k) (fun _ _ h => h)))
  rw [HN.out] at K1
  rw [HWl.out] at K2
  rw [HSt.out] at K3
  clear hD h1
  go_enter Try.func51, Try.ntmps51
  go_wp2_with fail
  go_quiet (first | (go_at_call 44; exact quiet_left (K1.out _)) | (go_at_call 40; exact quiet_left (K2.out _)) | (go_at_call 43; exact quiet_left (K3.out _)))
  go_wp2_with fail
  clear hc0 hc1 hc2
  go_loopw [5] (fun i wr => ∃ k : Nat, i = .int .i64 (k : Int) ∧ k ≤ n ∧ k ≤ 12 ∧ Hid (Ch (fun _ => False) w wr)) (fun i _ => 100 - (intOf i).toNat)
  case atStart => exact ⟨0, rfl, Nat.zero_le _, Nat.zero_le _, hid (ch_drewN w _)⟩
  case round =>
    obtain ⟨k, rfl, hk, hk12, HC⟩ := hrel
    have hR := HR.out.ch HC.out (fun _ _ h => h)
    obtain ⟨Lv2, Wv2, h1, _⟩ := hR
    have hc0 := cell_blk h1.hp 0
    simp at hc0
    obtain ⟨la2, lc2, rfl⟩ := owns_form h1.hL
    rw [HN.out] at hc0
    clear h1
    by_cases hlt : k < n
    · by_cases h12 : k < 12
      · have hr1 := read_any (k : Int) wr (HD.out.ch HC.out (fun _ _ h => h)) (by rw [HWl.out]; exact hwt)
        have hr2 := fun w2 (hc : Ch (fun _ => False) w w2) => rread_any (k : Int) w2 (HR.out.ch hc (fun _ _ h => h)) (by rw [HWl.out]; exact hwt)
        obtain ⟨R, HRR⟩ : ∃ R, Hid ((readD d (k : Int)).2 = R) := ⟨_, hid rfl⟩
        obtain ⟨E, HE⟩ : ∃ E, Hid ((readD d (k : Int)).1 = E) := ⟨_, hid rfl⟩
        rw [HRR.out, HE.out] at hr1
        rw [HRR.out, HE.out] at hr2
        unfold strV at hr2
        obtain ⟨S, HS⟩ : ∃ S, Hid ((⟨R.toArray⟩ : ByteArray) = S) := ⟨_, hid rfl⟩
        rw [HS.out] at hr2
        have H1 := hid hr1
        have H2 := hid hr2
        clear hr1 hr2
        go_wp2_with fail
        refine H1.out.mono ?_
        rintro e w4 ⟨v1, rfl, hb1, c4, -, ⟨x1, cap1, rfl⟩⟩
        have HB1 := hid hb1
        have HC4 := hid (HC.out.trans c4)
        clear hb1 c4
        go_wp2_with fail
        refine (H2.out _ HC4.out).mono ?_
        rintro e w' ⟨rfl, rfl⟩
        have hs1 := str_of HB1.out
        rw [HS.out] at hs1
        have hbq : (S.toList == S.toList) = true := beq_str_eq rfl
        go_wp2_with (go_at_call 22; refine (no1_any _ _).mono ?_; rintro e w' ⟨rfl, rfl⟩)
        go_roundw
        case rel => exact ⟨k + 1, by go_num, by omega, by omega, HC4⟩
        case measure => simp [intOf]; omega
      · obtain rfl : k = 12 := by omega
        go_wp2_with fail
        go_ret
        exact ⟨rfl, HC.out⟩
    · obtain rfl : k = n := by omega
      go_wp2_with fail
      go_ret
      exact ⟨rfl, HC.out⟩

def DoPost (w0 : World) (p q n i : Nat) (e : Ending) (w' : World) : Prop := e = .returned (.bool true) ∧ ∃ d', Both w0 w' p q d' ∧ Pl d' n (i + 1)

set_option maxRecDepth 20000 in
set_option maxHeartbeats 4000000 in
theorem do_any {w0 : World} {p q n i : Nat} {d : Dk} (k a' n' : Int) (c : UInt8) (ka : Option Addr) (kl kcap : Nat) (w : World) (h : Both w0 w p q d) (hP : Pl d n i) (hi : i ≤ 1000) (hn' : n' ≤ 9223372036854775807) :
    Calls Try.prog 50 #[.pointer (some ⟨p, 0, none⟩), .pointer (some ⟨q, 0, none⟩), .agg #[.int .i64 k, .int .i64 a', .int .i64 n', .int .u8 (c.toNat : Int), .slice ka kl kcap]] w (DoPost w0 p q n i) := by
  obtain ⟨M, F, Mr, hD, hR, hX, hM, hMr, hC⟩ := h
  have HD := hid hD
  have HDF := hid hD.ltF.2
  have HR := hid hR
  have HX := hid hX
  have HM := hid hM
  have HMr := hid hMr
  have HC := hid hC
  have HP := hid hP
  have HSt : Hid (d.steps ≤ 1000000) := hid (by have := hP.steps; omega)
  have HWt : Hid (d.wait.length ≤ 1000000) := hid (by have := hP.wait; omega)
  have HF5 := hid (five_new w (.int .i64 k) (.int .i64 a') (.int .i64 n') (.int .u8 (c.toNat : Int)) (.slice ka kl kcap))
  clear hD hR hX hM hMr hC hP
  have c1 := (Ch.refl (fun _ => False) w).alloc (.cells #[.int .i64 k, .int .i64 a', .int .i64 n', .int .u8 (c.toNat : Int), .slice ka kl kcap] 33)
  have HC1 := hid c1
  clear c1
  by_cases k0 : k = 0
  · subst k0
    go_enter Try.func50, Try.ntmps50
    go_wp2_with fail
    refine wp_region_noPanic ?_
    refine wp_region_held_drew (S := (fun W => W.cell? ⟨w.heap.size, 0, none⟩ = some (.int .i64 0) ∧ W.cell? ⟨w.heap.size, 1, none⟩ = some (.int .i64 a') ∧ W.cell? ⟨w.heap.size, 2, none⟩ = some (.int .i64 n') ∧ W.cell? ⟨w.heap.size, 3, none⟩ = some (.int .u8 (c.toNat : Int)) ∧ W.cell? ⟨w.heap.size, 4, none⟩ = some (.slice ka kl kcap))) (by kernel_rfl) HF5.out (fun hHeld => ?_)
    refine wpAnyH_take (i := 0) (v := ?_) rfl (by kernel_rfl) (by kernel_rfl) (by kernel_rfl) (fun _ _ _ h => h) (Or.inl ⟨by rfl, ?_⟩) (by assumption) ?_
    rotate_left
    · intro w hSw
      try dsimp only at hSw
      go_simp
      all_goals with_reducible rfl
    try simp only [lay_all]
    refine wpAnyH_take (i := 1) (v := ?_) rfl (by kernel_rfl) (by kernel_rfl) (by kernel_rfl) (fun _ _ _ h => h) (Or.inl ⟨by rfl, ?_⟩) (by assumption) ?_
    rotate_left
    · intro w hSw
      try dsimp only at hSw
      go_simp
      all_goals with_reducible rfl
    try simp only [lay_all]
    refine wpAnyH_take (i := 2) (v := ?_) rfl (by kernel_rfl) (by kernel_rfl) (by kernel_rfl) (fun _ _ _ h => h) (Or.inl ⟨by rfl, ?_⟩) (by assumption) ?_
    rotate_left
    · intro w hSw
      try dsimp only at hSw
      go_simp
      all_goals with_reducible rfl
    try simp only [lay_all]
    refine wpAnyH_take (i := 3) (v := ?_) rfl (by kernel_rfl) (by kernel_rfl) (by kernel_rfl) (fun _ _ _ h => h) (Or.inl ⟨by rfl, ?_⟩) (by assumption) ?_
    rotate_left
    · intro w hSw
      try dsimp only at hSw
      go_simp
      all_goals with_reducible rfl
    try simp only [lay_all]
    refine wpAnyH_take (i := 7) (v := ?_) rfl (by kernel_rfl) (by kernel_rfl) (by kernel_rfl) (fun _ _ _ h => h) (Or.inl ⟨by rfl, ?_⟩) (by assumption) ?_
    rotate_left
    · intro w hSw
      try dsimp only at hSw
      go_simp
      all_goals with_reducible rfl
    try simp only [lay_all]
    refine wpAnyH_take (i := 8) (v := ?_) rfl (by kernel_rfl) (by kernel_rfl) (by kernel_rfl) (fun _ _ _ h => h) (Or.inl ⟨by rfl, ?_⟩) (by assumption) ?_
    rotate_left
    · intro w hSw
      try dsimp only at hSw
      go_simp
      all_goals with_reducible rfl
    try simp only [lay_all]
    refine wpAnyH_take (i := 9) (v := ?_) rfl (by kernel_rfl) (by kernel_rfl) (by kernel_rfl) (fun _ _ _ h => h) (Or.inl ⟨by rfl, ?_⟩) (by assumption) ?_
    rotate_left
    · intro w hSw
      try dsimp only at hSw
      go_simp
      all_goals with_reducible rfl
    try simp only [lay_all]
    refine wpAnyH_take (i := 10) (v := ?_) rfl (by kernel_rfl) (by kernel_rfl) (by kernel_rfl) (fun _ _ _ h => h) (Or.inl ⟨by rfl, ?_⟩) (by assumption) ?_
    rotate_left
    · intro w hSw
      try dsimp only at hSw
      go_simp
      all_goals with_reducible rfl
    try simp only [lay_all]
    refine wpAnyH_ready (rs := [4]) (by kernel_rfl) (by simp) ?_
    refine AllReadyH.cons rfl (fun K hK => ?_) AllReadyH.nil
    go_simp
    refine (bytes_any 0 a' n' c (.slice ka kl kcap) _ hn').mono ?_
    rintro e w2 ⟨g, cp, rfl, hb2, c2, hg1, hg2⟩
    have HB2 := hid hb2
    have c02 := (((Ch.refl (fun _ => False) w).alloc (.cells #[.int .i64 0, .int .i64 a', .int .i64 n', .int .u8 (c.toNat : Int), .slice ka kl kcap] 33)).drew).trans c2
    have HD2 := hid (HD.out.ch c02 (fun _ _ h => h))
    have HR2 := hid (HR.out.ch c02 (fun _ _ h => h))
    have HC2 := hid (HC.out.trans c02)
    have HZ2 := hid c02.size
    have HS2 := hid (keep5 hHeld c2 (fun _ _ h => h))
    have HG : Hid (∀ k, (Value.slice (some ⟨g, 0, none⟩) (actB n' c).length cp).ownBlock = some k → ¬ M k) := hid (fun k hk hm => by
        obtain rfl : g = k := by simpa [Value.ownBlock] using hk
        have := HD.out.lt g hm
        simp at hg1
        omega)
    clear hb2 c2 c02 hg1 hg2
    go_wp2_with fail
    refine hK.out _ _ ?_ (fun hHeld => ?_)
    · first | exact HS2.out | assumption
    clear hK K
    try simp only [lay_all]
    refine wpAnyH_ready (rs := [5]) (by kernel_rfl) (by simp) ?_
    refine AllReadyH.cons rfl (fun K hK => ?_) AllReadyH.nil
    go_simp
    refine (write_any a' _ _ cp _ _ HD2.out HSt.out HWt.out HB2.out rfl HG.out).mono ?_
    rintro e w3 ⟨rfl, M4, F4, hD4, hm4, hf4, c4⟩
    have HD4 := hid hD4
    have HM4 : Hid (∀ k, M4 k → w0.heap.size ≤ k) := hid (fun k hk => by
        rcases hm4 k hk with h | h
        · exact HM.out k h
        · exact Nat.le_trans HC2.out.size h)
    have HX4 : Hid (∀ k, Mr k → ¬ F4 k) := hid (fun k hk hf => by
        rcases hf4 k hf with h | h
        · exact HX.out k hk h
        · have := HR2.out.lt k hk; omega)
    have HR4 := hid (HR2.out.ch c4 (fun k hk hm => HX.out k hk (HDF.out k hm)))
    have HC4 := hid (HC2.out.then c4 (fun i hi h => by have := HM.out i h; omega))
    have HZ4 := hid (Nat.le_trans HZ2.out c4.size)
    have HS2 := hid (keep5 HS2.out c4 (fun q hq hm => by have := HD.out.lt _ hm; omega))
    clear hD4 hm4 hf4 c4
    go_wp2_with fail
    refine hK.out _ _ ?_ (fun hHeld => ?_)
    · first | exact HS2.out | assumption
    clear hK K
    try simp only [lay_all]
    refine wpAnyH_ready (rs := [6]) (by kernel_rfl) (by simp) ?_
    refine AllReadyH.cons rfl (fun K hK => ?_) AllReadyH.nil
    go_simp
    refine (no1_any _ _).mono ?_
    rintro e w' ⟨rfl, rfl⟩
    go_wp2_with fail
    refine hK.out _ _ ?_ (fun hHeld => ?_)
    · first | exact HS2.out | assumption
    clear hK K
    try simp only [lay_all]
    refine wpAnyH_ready (rs := [11]) (by kernel_rfl) (by simp) ?_
    refine AllReadyH.cons rfl (fun K hK => ?_) AllReadyH.nil
    go_simp
    refine (bytes_any 0 a' n' c (.slice ka kl kcap) _ hn').mono ?_
    rintro e w5 ⟨g5, cp5, rfl, hb5, c5, hg1, hg2⟩
    have HB5 := hid hb5
    have HD5 := hid (HD4.out.ch c5 (fun _ _ h => h))
    have HR5 := hid (HR4.out.ch c5 (fun _ _ h => h))
    have HC5 := hid (HC4.out.trans c5)
    have HS2 := hid (keep5 HS2.out c5 (fun _ _ h => h))
    have HG5 : Hid (∀ k, (Value.slice (some ⟨g5, 0, none⟩) (actB n' c).length cp5).ownBlock = some k → ¬ Mr k) := hid (fun k hk hm => by
        obtain rfl : g5 = k := by simpa [Value.ownBlock] using hk
        have := HR4.out.lt g5 hm
        omega)
    clear hb5 c5 hg1 hg2
    go_wp2_with fail
    refine hK.out _ _ ?_ (fun hHeld => ?_)
    · first | exact HS2.out | assumption
    clear hK K
    try simp only [lay_all]
    refine wpAnyH_ready (rs := [12]) (by kernel_rfl) (by simp) ?_
    refine AllReadyH.cons rfl (fun K hK => ?_) AllReadyH.nil
    go_simp
    refine (rwrite_any a' _ _ cp5 _ _ HR5.out HSt.out HWt.out HB5.out rfl HG5.out).mono ?_
    rintro e w6 ⟨rfl, M6, hR6, hm6, c6⟩
    have HFin : Hid (Both w0 w6 p q (writeD d a' (actB n' c)).2) := hid ⟨M4, F4, M6, HD5.out.ch c6 (fun k hk hm => HX4.out k hm hk), hR6, fun k hk hf => (by
        rcases hm6 k hk with h | h
        · exact HX4.out k h hf
        · have := HD5.out.ltF.1 k hf; omega), HM4.out, fun k hk => (by
        rcases hm6 k hk with h | h
        · exact HMr.out k h
        · exact Nat.le_trans HC5.out.size h), HC5.out.then c6 (fun i hi h => by have := HMr.out i h; omega)⟩
    have HS2 := hid (keep5 HS2.out c6 (fun q hq hm => by have := HR.out.lt _ hm; omega))
    clear hR6 hm6 c6
    go_wp2_with fail
    refine hK.out _ _ ?_ (fun hHeld => ?_)
    · first | exact HS2.out | assumption
    clear hK K
    try simp only [lay_all]
    refine wpAnyH_take (i := 13) (v := ?_) rfl (by kernel_rfl) (by kernel_rfl) (by kernel_rfl) (fun _ _ _ h => h) (Or.inl ⟨by rfl, ?_⟩) (by assumption) ?_
    rotate_left
    · intro w hSw
      try dsimp only at hSw
      go_simp
      all_goals with_reducible rfl
    try simp only [lay_all]
    refine wpAnyH_take (i := 14) (v := ?_) rfl (by kernel_rfl) (by kernel_rfl) (by kernel_rfl) (fun _ _ _ h => h) (Or.inl ⟨by rfl, ?_⟩) (by assumption) ?_
    rotate_left
    · intro w hSw
      try dsimp only at hSw
      go_simp
      all_goals with_reducible rfl
    try simp only [lay_all]
    refine wpAnyH_done (by kernel_rfl) ?_ _
    refine NoPanic.normal ?_
    go_wp2_with fail
    go_ret
    exact ⟨rfl, _, HFin.out, HP.out.write _ _⟩
  have b0 : (k == 0) = false := by simpa using k0
  clear k0
  by_cases k1 : k = 1
  · subst k1
    clear b0
    have hr1 := read_any a' _ (HD.out.ch HC1.out (fun _ _ h => h)) HWt.out
    have hr2 := fun w2 (hc : Ch (fun _ => False) w w2) => rread_any a' w2 (HR.out.ch hc (fun _ _ h => h)) HWt.out
    obtain ⟨R, HRR⟩ : ∃ R, Hid ((readD d a').2 = R) := ⟨_, hid rfl⟩
    obtain ⟨E, HE⟩ : ∃ E, Hid ((readD d a').1 = E) := ⟨_, hid rfl⟩
    rw [HRR.out, HE.out] at hr1
    rw [HRR.out, HE.out] at hr2
    unfold strV at hr2
    obtain ⟨S, HS⟩ : ∃ S, Hid ((⟨R.toArray⟩ : ByteArray) = S) := ⟨_, hid rfl⟩
    rw [HS.out] at hr2
    have H1 := hid hr1
    have H2 := hid hr2
    clear hr1 hr2
    go_enter Try.func50, Try.ntmps50
    go_wp2_with fail
    refine H1.out.mono ?_
    rintro e w4 ⟨v1, rfl, hb1, c4, -, ⟨x1, cap1, rfl⟩⟩
    have hcell : w4.cell? ⟨w.heap.size, 1, none⟩ = some (.int .i64 a') := cell_ch (S := fun _ => False) (w := w.alloc (.cells #[.int .i64 1, .int .i64 a', .int .i64 n', .int .u8 (c.toNat : Int), .slice ka kl kcap] 33)) HF5.out.2.1 c4 (fun h => h)
    have HB1 := hid hb1
    have HC4 := hid (HC1.out.trans c4)
    clear hb1 c4
    go_wp2_with fail
    refine (H2.out _ HC4.out).mono ?_
    rintro e w' ⟨rfl, rfl⟩
    have hs1 := str_of HB1.out
    rw [HS.out] at hs1
    have hbq : (S.toList == S.toList) = true := beq_str_eq rfl
    go_wp2_with (go_at_call 22; refine (no1_any _ _).mono ?_; rintro e w' ⟨rfl, rfl⟩)
    go_ret
    exact ⟨rfl, d, Both.ch ⟨M, F, Mr, HD.out, HR.out, HX.out, HM.out, HMr.out, HC.out⟩ HC4.out, HP.out.up⟩
  have b1 : (k == 1) = false := by simpa using k1
  clear k1
  by_cases k2 : k = 2
  · subst k2
    clear b0 b1
    have hf1 := flush_any _ (HD.out.ch HC1.out (fun _ _ h => h)) HSt.out HWt.out
    have hf2 := fun w2 (hc : Ch M w w2) => rflush_any w2 (HR.out.ch hc (fun k hk hm => HX.out k hk (HDF.out k hm))) HSt.out HWt.out
    obtain ⟨E, HE⟩ : ∃ E, Hid ((flushD d).1 = E) := ⟨_, hid rfl⟩
    rw [HE.out] at hf1
    rw [HE.out] at hf2
    have H1 := hid hf1
    have H2 := hid hf2
    clear hf1 hf2
    go_enter Try.func50, Try.ntmps50
    go_wp2_with fail
    refine H1.out.mono ?_
    rintro e w4 ⟨rfl, hD4, c4⟩
    have HD4 := hid hD4
    have HC4 := hid ((HC1.out.mono (T := M) (fun _ _ h => h.elim)).trans c4)
    clear hD4 c4
    go_wp2_with (go_at_call 22; refine (no1_any _ _).mono ?_; rintro e w' ⟨rfl, rfl⟩)
    refine (H2.out _ HC4.out).mono ?_
    rintro e w5 ⟨rfl, hR5, c5⟩
    have HFin : Hid (Both w0 w5 p q (flushD d).2) := hid ⟨M, F, Mr, HD4.out.ch c5 (fun k hk hm => HX.out k hm hk), hR5, HX.out, HM.out, HMr.out, (HC.out.then HC4.out (fun i hi h => by have := HM.out i h; omega)).then c5 (fun i hi h => by have := HMr.out i h; omega)⟩
    clear hR5 c5
    go_wp2_with fail
    go_ret
    exact ⟨rfl, _, HFin.out, HP.out.flush⟩
  have b2 : (k == 2) = false := by simpa using k2
  clear k2
  by_cases k3 : k = 3
  · subst k3
    clear b0 b1 b2
    go_enter Try.func50, Try.ntmps50
    go_wp2_with fail
    refine (fuse_any n' _ hn' (HD.out.ch HC1.out (fun _ _ h => h))).mono ?_
    rintro e w4 ⟨rfl, hD4, c4⟩
    have hcell : w4.cell? ⟨w.heap.size, 2, none⟩ = some (.int .i64 n') := cell_ch (w := w.alloc (.cells #[.int .i64 3, .int .i64 a', .int .i64 n', .int .u8 (c.toNat : Int), .slice ka kl kcap] 33)) HF5.out.2.2.1 c4 (fun h => by have : w.heap.size < w.heap.size := HD.out.lt _ h; omega)
    have HD4 := hid hD4
    have HC4 := hid ((HC1.out.mono (T := M) (fun _ _ h => h.elim)).trans c4)
    clear hD4 c4
    go_wp2_with fail
    refine (rfuse_any n' _ hn' (HR.out.ch HC4.out (fun k hk hm => HX.out k hk (HDF.out k hm)))).mono ?_
    rintro e w5 ⟨rfl, hR5, c5⟩
    have HFin : Hid (Both w0 w5 p q (fuseD d n')) := hid ⟨M, F, Mr, HD4.out.ch c5 (fun k hk hm => HX.out k hm hk), hR5, HX.out, HM.out, HMr.out, (HC.out.then HC4.out (fun i hi h => by have := HM.out i h; omega)).then c5 (fun i hi h => by have := HMr.out i h; omega)⟩
    clear hR5 c5
    go_wp2_with fail
    go_ret
    exact ⟨rfl, _, HFin.out, HP.out.fuse _⟩
  have b3 : (k == 3) = false := by simpa using k3
  clear k3
  go_enter Try.func50, Try.ntmps50
  go_wp2_with fail
  go_ret
  exact ⟨rfl, d, Both.ch ⟨M, F, Mr, HD.out, HR.out, HX.out, HM.out, HMr.out, HC.out⟩ HC1.out, HP.out.up⟩

end Go.Proofs.Ytadhibemadgcoaa
