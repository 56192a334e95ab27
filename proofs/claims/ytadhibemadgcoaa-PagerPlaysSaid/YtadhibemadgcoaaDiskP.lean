/- The disk laws' play: a disk behind some calls. Conditions: as each theorem says. -/
import Derived.Test.YtadhibemadgcoaaDiskO
import Derived.Test.YtadhibemadgcoaaDiskN
import Derived.Deep.RegionHeld3
namespace Go.Proofs.Ytadhibemadgcoaa
open Go.RowKit

/-- play: no disk; or one of so many sectors, behind at most 80 calls, in memory that is new. -/
def PlayPost (n : Int) (w : World) (e : Ending) (w' : World) : Prop :=
  Ch (fun _ => False) w w' ∧ (e = .returned (.pointer none) ∨ ∃ p d M F, e = .returned (.pointer (some ⟨p, 0, none⟩)) ∧ 1 ≤ n ∧ n ≤ 4096 ∧ DiskAt w' p d M F ∧ Pl d n.toNat 80 ∧ ∀ k, M k → w.heap.size ≤ k)

theorem DiskAt.lt {w : World} {p : Nat} {d : Dk} {M F : Nat → Prop} (h : DiskAt w p d M F) : ∀ k, M k → k < w.heap.size := by
  obtain ⟨_, _, _, _, _, _, _, _, h4, h5⟩ := h; exact fun k hk => h5 k (h4 k hk)

theorem five_new (wr : World) (v0 v1 v2 v3 v4 : Value) :
    (wr.alloc (.cells #[v0, v1, v2, v3, v4] 33)).drew.cell? ⟨wr.heap.size, 0, none⟩ = some v0 ∧ (wr.alloc (.cells #[v0, v1, v2, v3, v4] 33)).drew.cell? ⟨wr.heap.size, 1, none⟩ = some v1 ∧
    (wr.alloc (.cells #[v0, v1, v2, v3, v4] 33)).drew.cell? ⟨wr.heap.size, 2, none⟩ = some v2 ∧ (wr.alloc (.cells #[v0, v1, v2, v3, v4] 33)).drew.cell? ⟨wr.heap.size, 3, none⟩ = some v3 ∧
    (wr.alloc (.cells #[v0, v1, v2, v3, v4] 33)).drew.cell? ⟨wr.heap.size, 4, none⟩ = some v4 := by
  have h : (wr.alloc (.cells #[v0, v1, v2, v3, v4] 33)).drew.heap[wr.heap.size]? = some (.cells #[v0, v1, v2, v3, v4] 33 (0, 0)) := heap_new _
  refine ⟨?_, ?_, ?_, ?_, ?_⟩ <;> (rw [cell_blk h]; rfl)
theorem cell_ch {S : Nat → Prop} {w w' : World} {p : Addr} {v : Value} (h : w.cell? p = some v) (hc : Ch S w w') (hn : ¬ S p.block) : w'.cell? p = some v := by
  rw [World.cell?_of_block (hc.block p.block (World.block_lt_of_cell? w _ h) hn)]; exact h
theorem keep5 {S : Nat → Prop} {w w' : World} {b : Nat} {v0 v1 v2 v3 v4 : Value}
    (h : w.cell? ⟨b, 0, none⟩ = some v0 ∧ w.cell? ⟨b, 1, none⟩ = some v1 ∧ w.cell? ⟨b, 2, none⟩ = some v2 ∧ w.cell? ⟨b, 3, none⟩ = some v3 ∧ w.cell? ⟨b, 4, none⟩ = some v4) (hc : Ch S w w') (hn : ∀ q, q = b → ¬ S q) :
    w'.cell? ⟨b, 0, none⟩ = some v0 ∧ w'.cell? ⟨b, 1, none⟩ = some v1 ∧ w'.cell? ⟨b, 2, none⟩ = some v2 ∧ w'.cell? ⟨b, 3, none⟩ = some v3 ∧ w'.cell? ⟨b, 4, none⟩ = some v4 :=
  ⟨cell_ch h.1 hc (hn _ rfl), cell_ch h.2.1 hc (hn _ rfl), cell_ch h.2.2.1 hc (hn _ rfl), cell_ch h.2.2.2.1 hc (hn _ rfl), cell_ch h.2.2.2.2 hc (hn _ rfl)⟩

set_option maxRecDepth 20000 in
set_option maxHeartbeats 2000000 in
theorem play_any (n : Int) (a : Option Addr) (cap : Nat) (l : List AcV) (w : World) (h : Acs w (.slice a l.length cap) l) :
    Calls Try.prog 20 #[.int .i64 n, .slice a l.length cap] w (PlayPost n w) := by
  have HA := hid h
  clear h
  by_cases hn : n < 1 ∨ 4096 < n
  · go_enter Try.func20, Try.ntmps20
    go_wp2_with (first | (go_at_call 41; refine (new_bad n _ hn).mono ?_; rintro e w' ⟨rfl, rfl⟩) | (go_at_call 22; refine (no1_any _ _).mono ?_; rintro e w' ⟨rfl, rfl⟩))
    go_ret
    exact ⟨Ch.refl _ _, .inl rfl⟩
  obtain ⟨n, rfl⟩ : ∃ k : Nat, n = (k : Int) := ⟨n.toNat, by omega⟩
  have hn1 : 1 ≤ n := by omega
  have hn2 : n ≤ 4096 := by omega
  clear hn
  go_enter Try.func20, Try.ntmps20
  go_wp2_with fail
  refine (new_ok n _ hn1 hn2).mono ?_
  rintro e w1 ⟨p, M, rfl, hD, c1, m1⟩
  have HD1 := hid hD
  have HM1 := hid m1
  have HC1 := hid c1
  have HA1 := hid (HA.out.ch c1 (fun _ _ h => h))
  clear hD c1 m1
  go_wp2_with (go_at_call 22; refine (no1_any _ _).mono ?_; rintro e w' ⟨rfl, rfl⟩)
  refine (few_any a cap l _ HA1.out).mono ?_
  rintro e w' ⟨b, rfl, rfl, hb⟩
  cases b with
  | false =>
    clear hb
    go_wp2_with fail
    go_ret
    exact ⟨HC1.out, .inl rfl⟩
  | true =>
    have hl80 := (hb rfl).1
    have HK := hid (hb rfl).2
    clear hb
    go_wp2_with fail
    go_loopw [5, 24] (fun dv i wr => ∃ (j p : Nat), i = .int .i64 (j : Int) ∧ dv = .pointer (some ⟨p, 0, none⟩) ∧ j ≤ l.length ∧ Hid (∃ d M F, DiskAt wr p d M F ∧ Pl d n j ∧ ∀ k, M k → w.heap.size ≤ k) ∧ Hid (Ch (fun _ => False) w wr)) (fun _ i _ => l.length - (intOf i).toNat)
    case atStart => exact ⟨0, p, rfl, rfl, Nat.zero_le _, hid ⟨_, _, _, HD1.out, Pl.start n, HM1.out⟩, HC1⟩
    case round =>
      obtain ⟨j, p, rfl, rfl, hj, HI, HC⟩ := hrel
      by_cases hlt : j < l.length
      · obtain ⟨x, HX⟩ : ∃ x, Hid (l[j]? = some x) := ⟨l[j]'hlt, hid (List.getElem?_eq_getElem _)⟩
        obtain ⟨b, off, rfl, hat⟩ := (HA.out.ch HC.out (fun _ _ h => h)).get HX.out
        have hkl := HK.out x (List.mem_of_getElem? HX.out)
        obtain ⟨k, a', n', c, kv, kept⟩ := x
        obtain ⟨c0, c1, c2, c3, c4, hkept, hn', hblt⟩ := hat
        dsimp only at c0 c1 c2 c3 c4 hkept hn' hkl
        obtain ⟨ka, kcap, hkv⟩ := hkept.form
        subst hkv
        have HKp := hid hkept
        obtain ⟨d, M, F, hD, hPl, hM⟩ := HI.out
        have HD := hid (hD.ch ((Ch.refl (fun _ => False) wr).alloc (.cells #[.int .i64 k, .int .i64 a', .int .i64 n', .int .u8 (c.toNat : Int), .slice ka kept.length kcap] 33)) (fun _ _ h => h))
        have HDo := hid hD
        have HP := hid hPl
        have HM := hid hM
        clear hD hPl hM HI hkept
        by_cases k0 : k = 0
        · subst k0
          go_wp2_with fail
          have hS0 : (wr.alloc (.cells #[.int .i64 0, .int .i64 a', .int .i64 n', .int .u8 (c.toNat : Int), .slice ka kept.length kcap] 33)).drew.cell? ⟨wr.heap.size, 0, none⟩ = some (.int .i64 0) ∧ (wr.alloc (.cells #[.int .i64 0, .int .i64 a', .int .i64 n', .int .u8 (c.toNat : Int), .slice ka kept.length kcap] 33)).drew.cell? ⟨wr.heap.size, 1, none⟩ = some (.int .i64 a') ∧ (wr.alloc (.cells #[.int .i64 0, .int .i64 a', .int .i64 n', .int .u8 (c.toNat : Int), .slice ka kept.length kcap] 33)).drew.cell? ⟨wr.heap.size, 2, none⟩ = some (.int .i64 n') ∧ (wr.alloc (.cells #[.int .i64 0, .int .i64 a', .int .i64 n', .int .u8 (c.toNat : Int), .slice ka kept.length kcap] 33)).drew.cell? ⟨wr.heap.size, 3, none⟩ = some (.int .u8 (c.toNat : Int)) ∧ (wr.alloc (.cells #[.int .i64 0, .int .i64 a', .int .i64 n', .int .u8 (c.toNat : Int), .slice ka kept.length kcap] 33)).drew.cell? ⟨wr.heap.size, 4, none⟩ = some (.slice ka kept.length kcap) := five_new wr _ _ _ _ _
          refine wp_region_noPanic ?_
          refine wp_region_held_drew (S := (fun W => W.cell? ⟨wr.heap.size, 0, none⟩ = some (.int .i64 0) ∧ W.cell? ⟨wr.heap.size, 1, none⟩ = some (.int .i64 a') ∧ W.cell? ⟨wr.heap.size, 2, none⟩ = some (.int .i64 n') ∧ W.cell? ⟨wr.heap.size, 3, none⟩ = some (.int .u8 (c.toNat : Int)) ∧ W.cell? ⟨wr.heap.size, 4, none⟩ = some (.slice ka kept.length kcap))) (by kernel_rfl) hS0 (fun hHeld => ?_)
          refine wpAnyH_take (i := 0) (v := ?_) rfl (by kernel_rfl) (by kernel_rfl) (by kernel_rfl) (fun _ _ _ h => h) (Or.inl ⟨by rfl, ?_⟩) (by assumption) ?_
          rotate_left
          · intro w hSw
            try dsimp only at hSw
            go_simp
            all_goals with_reducible rfl
          try simp only [lay_all]
          refine wpAnyH_take (i := 1) (v := ?_) rfl (by kernel_rfl) (by kernel_rfl) (by kernel_rfl) (fun _ _ _ h => h) (Or.inl ⟨by rfl, ?_⟩) (by assumption) ?_
          rotate_left
          · intro w hSw
            try dsimp only at hSw
            go_simp
            all_goals with_reducible rfl
          try simp only [lay_all]
          refine wpAnyH_take (i := 2) (v := ?_) rfl (by kernel_rfl) (by kernel_rfl) (by kernel_rfl) (fun _ _ _ h => h) (Or.inl ⟨by rfl, ?_⟩) (by assumption) ?_
          rotate_left
          · intro w hSw
            try dsimp only at hSw
            go_simp
            all_goals with_reducible rfl
          try simp only [lay_all]
          refine wpAnyH_take (i := 3) (v := ?_) rfl (by kernel_rfl) (by kernel_rfl) (by kernel_rfl) (fun _ _ _ h => h) (Or.inl ⟨by rfl, ?_⟩) (by assumption) ?_
          rotate_left
          · intro w hSw
            try dsimp only at hSw
            go_simp
            all_goals with_reducible rfl
          try simp only [lay_all]
          refine wpAnyH_ready (rs := [4]) (by kernel_rfl) (by simp) ?_
          refine AllReadyH.cons rfl (fun K hK => ?_) AllReadyH.nil
          go_simp
          refine (bytes_any 0 a' n' c (.slice ka kept.length kcap) _ hn').mono ?_
          rintro e w2 ⟨g, cp, rfl, hb2, c2, hg1, hg2⟩
          have HB2 := hid hb2
          have HD2 := hid ((HD.out.ch (Ch.refl (fun _ => False) _).drew (fun _ _ h => h)).ch c2 (fun _ _ h => h))
          have HC2 := hid ((HC.out.alloc (.cells #[.int .i64 0, .int .i64 a', .int .i64 n', .int .u8 (c.toNat : Int), .slice ka kept.length kcap] 33)).drew.trans c2)
          have HS2 := hid (keep5 hHeld c2 (fun _ _ h => h))
          have HG : Hid (∀ k, (Value.slice (some ⟨g, 0, none⟩) (actB n' c).length cp).ownBlock = some k → ¬ M k) := hid (fun k hk hm => by
              obtain rfl : g = k := by simpa [Value.ownBlock] using hk
              have := HDo.out.lt g hm
              simp at hg1
              omega)
          clear hb2 c2
          go_wp2_with fail
          refine hK.out _ _ ?_ (fun hHeld => ?_)
          · first | exact HS2.out | assumption
          clear hK K
          try simp only [lay_all]
          refine wpAnyH_ready (rs := [5]) (by kernel_rfl) (by simp) ?_
          refine AllReadyH.cons rfl (fun K hK => ?_) AllReadyH.nil
          go_simp
          refine (write_any a' _ _ cp _ _ HD2.out (by have := HP.out.steps; omega) (by have := HP.out.wait; omega) HB2.out rfl HG.out).mono ?_
          rintro e w3 ⟨rfl, M4, F4, hD4, hm4, -, c4⟩
          have HD4 := hid hD4
          have HM4 : Hid (∀ k, M4 k → w.heap.size ≤ k) := hid (fun k hk => by
              rcases hm4 k hk with h | h
              · exact HM.out k h
              · exact Nat.le_trans HC2.out.size h)
          have HC4 := hid (HC2.out.then c4 (fun i hi h => by have := HM.out i h; omega))
          have HS2 := hid (keep5 HS2.out c4 (fun q hq hm => by have := HDo.out.lt _ hm; omega))
          clear hD4 hm4 c4
          go_wp2_with fail
          refine hK.out _ _ ?_ (fun hHeld => ?_)
          · first | exact HS2.out | assumption
          clear hK K
          try simp only [lay_all]
          refine wpAnyH_done (by kernel_rfl) ?_ _
          refine NoPanic.normal ?_
          go_wp2_with fail
          go_roundw
          case rel => exact ⟨j + 1, p, by go_num, rfl, by omega, hid ⟨_, _, _, HD4.out, HP.out.write _ _, HM4.out⟩, HC4⟩
          case measure => simp [intOf]; omega
        have b0 : (k == 0) = false := by simpa using k0
        clear k0
        by_cases k2 : k = 2
        · subst k2
          clear b0
          go_wp2_with fail
          refine (flush_any _ HD.out (by have := HP.out.steps; omega) (by have := HP.out.wait; omega)).mono ?_
          rintro e w3 ⟨rfl, hD3, c3⟩
          have HD3 := hid hD3
          have HC3 := hid ((HC.out.alloc _).then c3 (fun i hi h => by have := HM.out i h; omega))
          clear hD3 c3
          go_wp2_with fail
          go_roundw
          case rel => exact ⟨j + 1, p, by go_num, rfl, by omega, hid ⟨_, _, _, HD3.out, HP.out.flush, HM.out⟩, HC3⟩
          case measure => simp [intOf]; omega
        have b2 : (k == 2) = false := by simpa using k2
        clear k2
        by_cases k3 : k = 3
        · subst k3
          clear b0 b2
          go_wp2_with fail
          refine (fuse_any n' _ hn' HD.out).mono ?_
          rintro e w3 ⟨rfl, hD3, c3⟩
          have HD3 := hid hD3
          have HC3 := hid ((HC.out.alloc _).then c3 (fun i hi h => by have := HM.out i h; omega))
          clear hD3 c3
          go_wp2_with fail
          go_roundw
          case rel => exact ⟨j + 1, p, by go_num, rfl, by omega, hid ⟨_, _, _, HD3.out, HP.out.fuse _, HM.out⟩, HC3⟩
          case measure => simp [intOf]; omega
        have b3 : (k == 3) = false := by simpa using k3
        clear k3
        by_cases k4 : k = 4
        · subst k4
          clear b0 b2 b3
          have HKq := hid (HKp.out.ch ((Ch.refl (fun _ => False) wr).alloc (.cells #[.int .i64 4, .int .i64 a', .int .i64 n', .int .u8 (c.toNat : Int), .slice ka kept.length kcap] 33)) (fun _ _ h => h))
          go_wp2_with fail
          refine (crash_any ka kcap kept _ HD.out (by have := HP.out.wait; omega) (by omega) HKq.out).mono ?_
          rintro e w3 ⟨p3, M3, rfl, hD3, c3, m3⟩
          have HD3 := hid hD3
          have HC3 := hid ((HC.out.alloc _).trans c3)
          have HM3 := hid (fun k hk => Nat.le_trans (HC.out.alloc (.cells #[.int .i64 4, .int .i64 a', .int .i64 n', .int .u8 (c.toNat : Int), .slice ka kept.length kcap] 33)).size (m3 k hk))
          clear hD3 c3 m3
          go_wp2_with fail
          go_roundw
          case rel => exact ⟨j + 1, p3, by go_num, rfl, by omega, hid ⟨_, _, _, HD3.out, HP.out.crash _, HM3.out⟩, HC3⟩
          case measure => simp [intOf]; omega
        have b4 : (k == 4) = false := by simpa using k4
        clear k4
        go_wp2_with fail
        go_roundw
        case rel => exact ⟨j + 1, p, by go_num, rfl, by omega, hid ⟨_, _, _, HD.out, HP.out.up, HM.out⟩, hid (HC.out.alloc _)⟩
        case measure => simp [intOf]; omega
      · obtain rfl : j = l.length := by omega
        obtain ⟨d, M, F, hD, hPl, hM⟩ := HI.out
        have hfin : Hid (PlayPost n w (.returned (.pointer (some ⟨p, 0, none⟩))) wr) := hid ⟨HC.out, .inr ⟨p, d, M, F, rfl, by omega, by omega, hD, ⟨hPl.len, by have := hPl.steps; omega, by have := hPl.wait; omega⟩, hM⟩⟩
        clear hD hPl hM HI
        go_wp2_with fail
        go_ret
        exact hfin.out

end Go.Proofs.Ytadhibemadgcoaa
