/- PagerPlays answers true. Conditions: the third argument is a slice of calls. -/
import Derived.Test.YtadhibemadgcoaaKp
namespace Go.Proofs.Ytadhibemadgcoaa
open Go.RowKit

set_option maxRecDepth 100000 in
set_option maxHeartbeats 16000000 in
theorem playsp_f (n : Int) (fm : Bool) (hfm : Hid (fm = false)) (a : Option Addr) (cap : Nat) (l : List AcP) (w : World) (h : Aps w (.slice a l.length cap) l) :
    Calls Try.prog 19 #[.int .i64 n, .bool fm, .slice a l.length cap] w fun e w' => e = .returned (.bool true) ∧ Ch (fun _ => False) w w' := by
  have HA := hid h
  clear h
  by_cases hn : n < 1 ∨ 4096 < n
  · go_enter Try.func19, Try.ntmps19
    go_wp2_with (first | (go_at_call 41; refine (new_bad n _ hn).mono ?_; rintro e w' ⟨rfl, rfl⟩) | (go_at_call 55; refine (no3_any _ _).mono ?_; rintro e w' ⟨rfl, rfl⟩) | (go_at_call 45; refine (rnew_bad n _ hn).mono ?_; rintro e w' ⟨rfl, rfl⟩))
    refine (alive3 _).mono ?_
    rintro e w1 ⟨rfl, c1⟩
    have HC1 := hid c1
    clear c1
    go_wp2_with fail
    go_ret
    exact ⟨rfl, HC1.out⟩
  obtain ⟨n, rfl⟩ : ∃ k : Nat, n = (k : Int) := ⟨n.toNat, by omega⟩
  have hn1 : 1 ≤ n := by omega
  have hn2 : n ≤ 4096 := by omega
  clear hn
  go_enter Try.func19, Try.ntmps19
  go_wp2_with fail
  refine (new_ok n _ hn1 hn2).mono ?_
  rintro e w1 ⟨dp0, M, rfl, hD, c1, m1⟩
  have HD1 := hid hD
  have HM1 := hid m1
  have HC1 := hid c1
  clear hD c1 m1
  go_wp2_with fail
  refine (rnew_ok n _ hn1 hn2).mono ?_
  rintro e w2 ⟨rq0, Mr, rfl, hR, c2, m2⟩
  obtain ⟨d0, HD0⟩ : ∃ d0 : Dk, Hid (({ L := List.replicate n (zeros 512), wait := [], steps := 0, fuse := -1, gone := false } : Dk) = d0) := ⟨_, hid rfl⟩
  have HPl0 : Hid (Pl d0 n 0) := hid (by rw [← HD0.out]; exact Pl.start n)
  rw [HD0.out] at hR HD1
  have HQ2 : Hid (DQ w w2 dp0 d0 M ∧ RQ w w2 rq0 d0 Mr ∧ ∀ k, M k → ¬ Mr k) := hid ⟨⟨M, M, HD1.out.ch c2 (fun _ _ h => h), fun k hk => hk, fun k hk => ⟨HM1.out k hk, by have := (disk_ltF HD1.out).1 k hk; have := c2.size; omega⟩, HC1.out.trans c2⟩,
    ⟨Mr, hR, fun k hk => hk, fun k hk => ⟨by have := m2 k hk; have := HC1.out.size; omega, hR.lt k hk⟩, HC1.out.trans c2⟩, fun k hk hr => by have := m2 k hr; have := (disk_ltF HD1.out).1 k hk; omega⟩
  clear hR c2 m2 HD1 HM1 HC1
  go_wp2_with (go_at_call 55; refine (no3_any _ _).mono ?_; rintro e w' ⟨rfl, rfl⟩)
  refine (alive3 _).mono ?_
  rintro e w3 ⟨rfl, c3⟩
  have HQ3 : Hid (DQ w w3 dp0 d0 M ∧ RQ w w3 rq0 d0 Mr ∧ ∀ k, M k → ¬ Mr k) := hid ⟨HQ2.out.1.ch c3 (fun _ _ h => h) (fun _ _ h => h), HQ2.out.2.1.ch c3 (fun _ _ h => h) (fun _ _ h => h), HQ2.out.2.2⟩
  have HC3 := hid (show Ch (fun _ => False) w w3 by obtain ⟨_, _, _, _, h⟩ := HQ3.out.2.1; exact h)
  clear c3
  go_wp2_with fail
  refine (fewp_any a cap l _ (HA.out.ch HC3.out (fun _ _ h => h))).mono ?_
  rintro e w4 ⟨b, rfl, hc4, hb⟩
  have HQ4 : Hid (DQ w w4 dp0 d0 M ∧ RQ w w4 rq0 d0 Mr ∧ ∀ k, M k → ¬ Mr k) := hid ⟨HQ3.out.1.ch hc4 (fun _ _ h => h) (fun _ _ h => h), HQ3.out.2.1.ch hc4 (fun _ _ h => h) (fun _ _ h => h), HQ3.out.2.2⟩
  have HC4 := hid (HC3.out.trans hc4)
  clear hc4
  cases b with
  | false =>
    clear hb
    go_wp2_with fail
    go_ret
    exact ⟨rfl, HC4.out⟩
  | true =>
    have hl60 := (hb rfl).1
    have HK := hid (hb rfl).2
    clear hb
    have HSt0 : Hid (d0.steps ≤ 900000 ∧ d0.wait.length ≤ 900000) := hid ⟨by have := HPl0.out.steps; omega, by have := HPl0.out.wait; omega⟩
    cases fm with
    | false =>
      have HQW := HQ4
      have HCW := HC4
      have HPlW : Hid (Pl d0 n 5) := hid (HPl0.out.more (by omega))
      clear HQ4 HC4 HQ3 HQ2 HC3
      have hx0 : w.heap.size ≤ w4.heap.size := HCW.out.size
      have hbo := bopen_any (w0 := w) (xb := w4.heap.size) none none (w4.alloc (.cells #[.pointer (some ⟨dp0, 0, none⟩), .pointer none, .pointer (some ⟨rq0, 0, none⟩), .pointer none] 110)) (HQW.out.1.ch ((Ch.refl (fun _ => False) w4).alloc _) (fun _ _ h => h) (fun _ _ h => h)) (HQW.out.2.1.ch ((Ch.refl (fun _ => False) w4).alloc _) (fun _ _ h => h) (fun _ _ h => h)) HQW.out.2.2 (by have := HPlW.out.wait; omega) (heap_new _)
        (fun h => by obtain ⟨_, _, _, _, h3, _⟩ := HQW.out.1; have := (h3 _ h).2; omega) (fun h => by obtain ⟨_, _, _, h3, _⟩ := HQW.out.2.1; have := (h3 _ h).2; omega) hx0
      have HBo := hid hbo
      clear hbo hx0
      go_wp2_with fail
      refine HBo.out.mono ?_
      rintro e w7 ⟨rfl, ⟨po0, ro0, p0, Q7, Qr7, hX7, hd7, hpi7, hop7⟩, hcx⟩
      have HX7 := hid hX7
      have HPB7 := hid (PB.open_ HPlW.out hd7 hpi7 hop7)
      obtain ⟨xb, HXb⟩ : ∃ x, Hid (w4.heap.size = x) := ⟨_, hid rfl⟩
      rw [HXb.out] at HX7
      clear hX7 hd7 hpi7 hop7 hcx HBo
      go_wp2_with fail
      rw [HXb.out]
      go_loopw [58] (fun i wr => ∃ j : Nat, i = .int .i64 (j : Int) ∧ j ≤ l.length ∧ Hid (∃ dp rq po ro p Q Qr, Xs w wr xb dp rq po ro p Q Qr ∧ PB p (20 + 5 * j))) (fun i _ => 100 - (intOf i).toNat)
      case atStart => exact ⟨0, rfl, Nat.zero_le _, hid ⟨_, _, _, _, _, _, _, HX7.out, HPB7.out.up (by omega)⟩⟩
      case round =>
        obtain ⟨j, rfl, hj, HI⟩ := hrel
        obtain ⟨dp, rq, po, ro, p, Q, Qr, hX, hPB⟩ := HI.out
        have HXs := hid hX
        have HPB := hid hPB
        have HC := hid hX.base
        clear hX hPB HI
        by_cases hlt : j < l.length
        · obtain ⟨x, HX⟩ : ∃ x, Hid (l[j]? = some x) := ⟨l[j]'hlt, hid (List.getElem?_eq_getElem _)⟩
          obtain ⟨b, off, rfl, hat⟩ := (HA.out.ch HC.out (fun _ _ h => h)).get HX.out
          have hkl := HK.out x (List.mem_of_getElem? HX.out)
          obtain ⟨k, n', m', s', kv, kept⟩ := x
          obtain ⟨c0, c1, c2, c3, c4, hkept, hwn, hwm, hblt⟩ := hat
          dsimp only at c0 c1 c2 c3 c4 hkept hwn hwm hkl
          obtain ⟨ka, kcap, hkv⟩ := hkept.form
          subst hkv
          have HKp := hid hkept
          have HW := hid (And.intro hwn hwm)
          have HNm : Hid (n' ≤ 9223372036854775807) := hid (by
            simp only [Lit.wf, Bool.and_eq_true, decide_eq_true_eq] at hwn
            have h2 : IntKind.i64.max = 9223372036854775807 := by decide
            rw [h2] at hwn
            exact hwn.2)
          have HXh := hid HXs.out.xh
          have HX00 := hid (HXh.out.quiet ((Ch.refl (fun _ => False) wr).alloc (.cells #[.int .i64 k, .int .i64 n', .int .i64 m', .string s', .slice ka kept.length kcap] 112)))
          have HX0 := hid (HX00.out.quiet ((Ch.refl (fun _ => False) _).drew))
          have HBx : Hid ((wr.alloc (.cells #[.int .i64 k, .int .i64 n', .int .i64 m', .string s', .slice ka kept.length kcap] 112)).drew.heap[wr.heap.size]? = some (.cells #[.int .i64 k, .int .i64 n', .int .i64 m', .string s', .slice ka kept.length kcap] 112 (0, 0))) := hid (heap_drew (heap_new _))
          have HAb : Hid (¬ Q wr.heap.size ∧ ¬ Qr wr.heap.size) := hid ⟨fun h => by have := (HXh.out.ltq.1 _ h).2; omega, fun h => by have := (HXh.out.ltq.2.1 _ h).2; omega⟩
          have HSx := hid (show (wr.alloc (.cells #[.int .i64 k, .int .i64 n', .int .i64 m', .string s', .slice ka kept.length kcap] 112)).cell? ⟨xb, 0, none⟩ = some (.pointer (some ⟨dp, 0, none⟩)) ∧ (wr.alloc (.cells #[.int .i64 k, .int .i64 n', .int .i64 m', .string s', .slice ka kept.length kcap] 112)).cell? ⟨xb, 2, none⟩ = some (.pointer (some ⟨rq, 0, none⟩)) ∧ (wr.alloc (.cells #[.int .i64 k, .int .i64 n', .int .i64 m', .string s', .slice ka kept.length kcap] 112)).cell? ⟨wr.heap.size, 1, none⟩ = some (.int .i64 n') from
            ⟨by rw [cell_blk HX00.out.hx]; rfl, by rw [cell_blk HX00.out.hx]; rfl, by rw [cell_blk (heap_new _)]; rfl⟩)
          have hxne : ¬ xb = wr.heap.size := fun e => by have := blk_lt HXs.out.hx; omega
          clear hkept hwn hwm
          by_cases h8 : k = 8
          · subst h8
            have HS0 := hid (show ((wr.alloc (.cells #[.int .i64 8, .int .i64 n', .int .i64 m', .string s', .slice ka kept.length kcap] 112)).drew).cell? ⟨xb, 0, none⟩ = some (.pointer (some ⟨dp, 0, none⟩)) ∧ ((wr.alloc (.cells #[.int .i64 8, .int .i64 n', .int .i64 m', .string s', .slice ka kept.length kcap] 112)).drew).cell? ⟨xb, 2, none⟩ = some (.pointer (some ⟨rq, 0, none⟩)) ∧ ((wr.alloc (.cells #[.int .i64 8, .int .i64 n', .int .i64 m', .string s', .slice ka kept.length kcap] 112)).drew).cell? ⟨wr.heap.size, 1, none⟩ = some (.int .i64 n') from ⟨by rw [cell_blk HX0.out.hx]; rfl, by rw [cell_blk HX0.out.hx]; rfl, by rw [cell_blk HBx.out]; rfl⟩)
            go_wp2_with fail
            refine wp_region_noPanic ?_
            refine wp_region_held_drew (S := (fun W => W.cell? ⟨xb, 0, none⟩ = some (.pointer (some ⟨dp, 0, none⟩)) ∧ W.cell? ⟨xb, 2, none⟩ = some (.pointer (some ⟨rq, 0, none⟩)) ∧ W.cell? ⟨wr.heap.size, 1, none⟩ = some (.int .i64 n'))) (by kernel_rfl) HS0.out (fun hHeld => ?_)
            refine wpAnyH_take (i := 0) (v := ?_) rfl (by kernel_rfl) (by kernel_rfl) (by kernel_rfl) (fun _ _ _ h => h) (Or.inl ⟨by rfl, ?_⟩) (by assumption) ?_
            rotate_left
            · intro w hSw
              try dsimp only at hSw
              go_simp
              all_goals with_reducible rfl
            try simp only [lay_all]
            refine wpAnyH_take (i := 1) (v := ?_) rfl (by kernel_rfl) (by kernel_rfl) (by kernel_rfl) (fun _ _ _ h => h) (Or.inl ⟨by rfl, ?_⟩) (by assumption) ?_
            rotate_left
            · intro w hSw
              try dsimp only at hSw
              go_simp
              all_goals with_reducible rfl
            try simp only [lay_all]
            refine wpAnyH_take (i := 2) (v := ?_) rfl (by kernel_rfl) (by kernel_rfl) (by kernel_rfl) (fun _ _ _ h => h) (Or.inl ⟨by rfl, ?_⟩) (by assumption) ?_
            rotate_left
            · intro w hSw
              try dsimp only at hSw
              go_simp
              all_goals with_reducible rfl
            try simp only [lay_all]
            refine wpAnyH_take (i := 3) (v := ?_) rfl (by kernel_rfl) (by kernel_rfl) (by kernel_rfl) (fun _ _ _ h => h) (Or.inl ⟨by rfl, ?_⟩) (by assumption) ?_
            rotate_left
            · intro w hSw
              try dsimp only at hSw
              go_simp
              all_goals with_reducible rfl
            try simp only [lay_all]
            refine wpAnyH_take (i := 4) (v := ?_) rfl (by kernel_rfl) (by kernel_rfl) (by kernel_rfl) (fun _ _ _ h => h) (Or.inl ⟨by rfl, ?_⟩) (by assumption) ?_
            rotate_left
            · intro w hSw
              try dsimp only at hSw
              go_simp
              all_goals with_reducible rfl
            try simp only [lay_all]
            refine wpAnyH_take (i := 5) (v := ?_) rfl (by kernel_rfl) (by kernel_rfl) (by kernel_rfl) (fun _ _ _ h => h) (Or.inl ⟨by rfl, ?_⟩) (by assumption) ?_
            rotate_left
            · intro w hSw
              try dsimp only at hSw
              go_simp
              all_goals with_reducible rfl
            try simp only [lay_all]
            refine wpAnyH_ready (rs := [6]) (by kernel_rfl) (by simp) ?_
            refine AllReadyH.cons rfl (fun K hK => ?_) AllReadyH.nil
            go_simp
            obtain ⟨M, F, hD, hFQ, -, hup⟩ := HX0.out.getD
            refine (fuse_any n' _ HNm.out hD).mono ?_
            rintro e w1 ⟨rfl, k1, k2⟩
            obtain ⟨Q1, hx1, hc1⟩ := hup _ _ _ _ k1 rfl (Fresh.refl _ _) k2
            have HX1 := hid hx1
            have HS2 := hid (keep3 HS0.out hc1 (fun q hq => by subst hq; exact HX0.out.xq) (fun q hq hQ => by subst hq; exact HAb.out.1 hQ))
            clear hD hFQ hup k1 k2 hx1 hc1
            go_wp2_with fail
            refine hK.out _ _ ?_ (fun hHeld => ?_)
            · first | exact HS2.out | assumption
            clear hK K
            try simp only [lay_all]
            refine wpAnyH_done (by kernel_rfl) ?_ _
            refine NoPanic.normal ?_
            go_wp2_with fail
            have HS1 := hid (keep3 HS2.out (Ch.refl (fun _ => False) w1).drew (fun _ _ h => h) (fun _ _ h => h))
            clear HS2
            refine wp_region_noPanic ?_
            refine wp_region_held_drew (S := (fun W => W.cell? ⟨xb, 0, none⟩ = some (.pointer (some ⟨dp, 0, none⟩)) ∧ W.cell? ⟨xb, 2, none⟩ = some (.pointer (some ⟨rq, 0, none⟩)) ∧ W.cell? ⟨wr.heap.size, 1, none⟩ = some (.int .i64 n'))) (by kernel_rfl) HS1.out (fun hHeld => ?_)
            refine wpAnyH_take (i := 0) (v := ?_) rfl (by kernel_rfl) (by kernel_rfl) (by kernel_rfl) (fun _ _ _ h => h) (Or.inl ⟨by rfl, ?_⟩) (by assumption) ?_
            rotate_left
            · intro w hSw
              try dsimp only at hSw
              go_simp
              all_goals with_reducible rfl
            try simp only [lay_all]
            refine wpAnyH_take (i := 1) (v := ?_) rfl (by kernel_rfl) (by kernel_rfl) (by kernel_rfl) (fun _ _ _ h => h) (Or.inl ⟨by rfl, ?_⟩) (by assumption) ?_
            rotate_left
            · intro w hSw
              try dsimp only at hSw
              go_simp
              all_goals with_reducible rfl
            try simp only [lay_all]
            refine wpAnyH_take (i := 2) (v := ?_) rfl (by kernel_rfl) (by kernel_rfl) (by kernel_rfl) (fun _ _ _ h => h) (Or.inl ⟨by rfl, ?_⟩) (by assumption) ?_
            rotate_left
            · intro w hSw
              try dsimp only at hSw
              go_simp
              all_goals with_reducible rfl
            try simp only [lay_all]
            refine wpAnyH_take (i := 3) (v := ?_) rfl (by kernel_rfl) (by kernel_rfl) (by kernel_rfl) (fun _ _ _ h => h) (Or.inl ⟨by rfl, ?_⟩) (by assumption) ?_
            rotate_left
            · intro w hSw
              try dsimp only at hSw
              go_simp
              all_goals with_reducible rfl
            try simp only [lay_all]
            refine wpAnyH_take (i := 4) (v := ?_) rfl (by kernel_rfl) (by kernel_rfl) (by kernel_rfl) (fun _ _ _ h => h) (Or.inl ⟨by rfl, ?_⟩) (by assumption) ?_
            rotate_left
            · intro w hSw
              try dsimp only at hSw
              go_simp
              all_goals with_reducible rfl
            try simp only [lay_all]
            refine wpAnyH_take (i := 5) (v := ?_) rfl (by kernel_rfl) (by kernel_rfl) (by kernel_rfl) (fun _ _ _ h => h) (Or.inl ⟨by rfl, ?_⟩) (by assumption) ?_
            rotate_left
            · intro w hSw
              try dsimp only at hSw
              go_simp
              all_goals with_reducible rfl
            try simp only [lay_all]
            refine wpAnyH_ready (rs := [6]) (by kernel_rfl) (by simp) ?_
            refine AllReadyH.cons rfl (fun K hK => ?_) AllReadyH.nil
            go_simp
            obtain ⟨Mr, hR, hMQ, hup⟩ := (HX1.out.quiet (Ch.refl (fun _ => False) w1).drew).getR
            refine (rfuse_any n' _ HNm.out hR).mono ?_
            rintro e w3 ⟨rfl, k1, k2⟩
            obtain ⟨Qr1, hx3, hc3⟩ := hup _ _ _ k1 rfl (Fresh.refl _ _) k2
            have HX3 := hid hx3
            have HS2 := hid (keep3 HS1.out hc3 (fun q hq => by subst hq; exact HX1.out.xr) (fun q hq hQ => by subst hq; exact HAb.out.2 hQ))
            clear hR hMQ hup k1 k2 hx3 hc3
            go_wp2_with fail
            refine hK.out _ _ ?_ (fun hHeld => ?_)
            · first | exact HS2.out | assumption
            clear hK K
            try simp only [lay_all]
            refine wpAnyH_done (by kernel_rfl) ?_ _
            refine NoPanic.normal ?_
            go_wp2_with fail
            go_roundw
            case rel => exact ⟨j + 1, by go_num, by omega, hid ⟨dp, rq, po, ro, { p with d := fuseD p.d n' }, Q1, Qr1, HX3.out.xs, HPB.out.disk (show 20 + 5 * j ≤ 20 + 5 * (j + 1) by omega) ((HPB.out.pl.fuse n').more (by omega)) rfl rfl rfl⟩⟩
            case measure => simp [intOf]; omega
          by_cases h9 : k = 9
          · subst h9
            obtain ⟨y0, y2, yf0, yf2, yl⟩ := xfacts HX0.out.hx
            have y4 : (wr.alloc (.cells #[.int .i64 9, .int .i64 n', .int .i64 m', .string s', .slice ka kept.length kcap] 112)).drew.cell? ⟨wr.heap.size, 4, none⟩ = some (.slice ka kept.length kcap) := by rw [cell_blk HBx.out]; rfl
            obtain ⟨M, F, hD, -, -, -⟩ := HX0.out.getD
            obtain ⟨Mr, hR, -, -⟩ := HX0.out.getR
            have HKp0 := hid ((HKp.out.ch2 ((Ch.refl (fun _ => False) wr).alloc (.cells #[.int .i64 9, .int .i64 n', .int .i64 m', .string s', .slice ka kept.length kcap] 112)) (fun _ _ h => h)).ch2 ((Ch.refl (fun _ => False) _).drew) (fun _ _ h => h))
            have HCr := hid (crash_any ka kcap kept _ hD (by have := HPB.out.pl.wait; omega) (by omega) HKp0.out)
            have HCr2 := hid (fun (W : World) (hc : Ch (fun _ => False) (wr.alloc (.cells #[.int .i64 9, .int .i64 n', .int .i64 m', .string s', .slice ka kept.length kcap] 112)).drew W) => rcrash_any ka kcap kept W (hR.ch hc (fun _ _ h => h)) (by have := HPB.out.pl.wait; omega) (by omega) (HKp0.out.ch2 hc (fun _ _ h => h)))
            unfold RCPost at HCr2
            clear hD hR
            go_wp2_with fail
            refine wp_region_noPanic ?_
            refine wp_region_J (Ca := (fun W => W.cell? ⟨wr.heap.size, 4, none⟩ = some (.slice ka kept.length kcap))) (Cx := (fun W => W.cell? ⟨xb, 0, none⟩ = some (.pointer (some ⟨dp, 0, none⟩)) ∧ W.cell? ⟨xb, 2, none⟩ = some (.pointer (some ⟨rq, 0, none⟩)))) (z := 18) (by kernel_rfl) ?_
            refine wpAnyJ_take (i := 0) (v := ?_) rfl (by kernel_rfl) (by kernel_rfl) (by kernel_rfl) (fun _ _ _ h => h) (by kernel_rfl) (Or.inl ⟨by rfl, ?_⟩) (Jh.all y4 ⟨y0, y2⟩) ?_
            rotate_left
            · intro w hSw
              try dsimp only at hSw
              go_simp
              all_goals with_reducible rfl
            try simp only [lay_all]
            refine wpAnyJ_take (i := 1) (v := ?_) rfl (by kernel_rfl) (by kernel_rfl) (by kernel_rfl) (fun _ _ _ h => h) (by kernel_rfl) (Or.inl ⟨by rfl, ?_⟩) (Jh.all y4 ⟨y0, y2⟩) ?_
            rotate_left
            · intro w hSw
              try dsimp only at hSw
              go_simp
              all_goals with_reducible rfl
            try simp only [lay_all]
            refine wpAnyJ_take (i := 2) (v := ?_) rfl (by kernel_rfl) (by kernel_rfl) (by kernel_rfl) (fun _ _ _ h => h) (by kernel_rfl) (Or.inl ⟨by rfl, ?_⟩) (Jh.all y4 ⟨y0, y2⟩) ?_
            rotate_left
            · intro w hSw
              try dsimp only at hSw
              go_simp
              all_goals with_reducible rfl
            try simp only [lay_all]
            refine wpAnyJ_take (i := 3) (v := ?_) rfl (by kernel_rfl) (by kernel_rfl) (by kernel_rfl) (fun _ _ _ h => h) (by kernel_rfl) (Or.inl ⟨by rfl, ?_⟩) (Jh.all y4 ⟨y0, y2⟩) ?_
            rotate_left
            · intro w hSw
              try dsimp only at hSw
              go_simp
              all_goals with_reducible rfl
            try simp only [lay_all]
            refine wpAnyJ_take (i := 4) (v := ?_) rfl (by kernel_rfl) (by kernel_rfl) (by kernel_rfl) (fun _ _ _ h => h) (by kernel_rfl) (Or.inl ⟨by rfl, ?_⟩) (Jh.all y4 ⟨y0, y2⟩) ?_
            rotate_left
            · intro w hSw
              try dsimp only at hSw
              go_simp
              all_goals with_reducible rfl
            try simp only [lay_all]
            refine wpAnyJ_takeX (i := 5) (v := ?_) rfl (by kernel_rfl) (by kernel_rfl) (by kernel_rfl) (fun _ _ _ h => h) (by kernel_rfl) (by kernel_rfl) (by kernel_rfl) (Or.inl ⟨by rfl, ?_⟩) (Jh.all y4 ⟨y0, y2⟩) ?_
            rotate_left
            · intro w hSw
              try dsimp only at hSw
              go_simp
              all_goals with_reducible rfl
            try simp only [lay_all]
            refine wpAnyJ_take (i := 6) (v := ?_) rfl (by kernel_rfl) (by kernel_rfl) (by kernel_rfl) (fun _ _ _ h => h) (by kernel_rfl) (Or.inl ⟨by rfl, ?_⟩) (Jh.all y4 ⟨y0, y2⟩) ?_
            rotate_left
            · intro w hSw
              try dsimp only at hSw
              go_simp
              all_goals with_reducible rfl
            try simp only [lay_all]
            refine wpAnyJ_take (i := 7) (v := ?_) rfl (by kernel_rfl) (by kernel_rfl) (by kernel_rfl) (fun _ _ _ h => h) (by kernel_rfl) (Or.inl ⟨by rfl, ?_⟩) (Jh.all y4 ⟨y0, y2⟩) ?_
            rotate_left
            · intro w hSw
              try dsimp only at hSw
              go_simp
              all_goals with_reducible rfl
            try simp only [lay_all]
            refine wpAnyJ_take (i := 9) (v := ?_) rfl (by kernel_rfl) (by kernel_rfl) (by kernel_rfl) (fun _ _ _ h => h) (by kernel_rfl) (Or.inl ⟨by rfl, ?_⟩) (Jh.all y4 ⟨y0, y2⟩) ?_
            rotate_left
            · intro w hSw
              try dsimp only at hSw
              go_simp
              all_goals with_reducible rfl
            try simp only [lay_all]
            refine wpAnyJ_take (i := 10) (v := ?_) rfl (by kernel_rfl) (by kernel_rfl) (by kernel_rfl) (fun _ _ _ h => h) (by kernel_rfl) (Or.inl ⟨by rfl, ?_⟩) (Jh.all y4 ⟨y0, y2⟩) ?_
            rotate_left
            · intro w hSw
              try dsimp only at hSw
              go_simp
              all_goals with_reducible rfl
            try simp only [lay_all]
            refine wpAnyJ_take (i := 11) (v := ?_) rfl (by kernel_rfl) (by kernel_rfl) (by kernel_rfl) (fun _ _ _ h => h) (by kernel_rfl) (Or.inl ⟨by rfl, ?_⟩) (Jh.all y4 ⟨y0, y2⟩) ?_
            rotate_left
            · intro w hSw
              try dsimp only at hSw
              go_simp
              all_goals with_reducible rfl
            try simp only [lay_all]
            refine wpAnyJ_takeX (i := 12) (v := ?_) rfl (by kernel_rfl) (by kernel_rfl) (by kernel_rfl) (fun _ _ _ h => h) (by kernel_rfl) (by kernel_rfl) (by kernel_rfl) (Or.inl ⟨by rfl, ?_⟩) (Jh.all y4 ⟨y0, y2⟩) ?_
            rotate_left
            · intro w hSw
              try dsimp only at hSw
              go_simp
              all_goals with_reducible rfl
            try simp only [lay_all]
            refine wpAnyJ_take (i := 13) (v := ?_) rfl (by kernel_rfl) (by kernel_rfl) (by kernel_rfl) (fun _ _ _ h => h) (by kernel_rfl) (Or.inl ⟨by rfl, ?_⟩) (Jh.all y4 ⟨y0, y2⟩) ?_
            rotate_left
            · intro w hSw
              try dsimp only at hSw
              go_simp
              all_goals with_reducible rfl
            try simp only [lay_all]
            refine wpAnyJ_take (i := 14) (v := ?_) rfl (by kernel_rfl) (by kernel_rfl) (by kernel_rfl) (fun _ _ _ h => h) (by kernel_rfl) (Or.inl ⟨by rfl, ?_⟩) (Jh.all y4 ⟨y0, y2⟩) ?_
            rotate_left
            · intro w hSw
              try dsimp only at hSw
              go_simp
              all_goals with_reducible rfl
            try simp only [lay_all]
            refine wpAnyJ_one (i := 8) (by kernel_rfl) rfl (fun K hK => ?_)
            go_simp
            refine HCr.out.mono ?_
            rintro e w1 ⟨dpn, Mn, rfl, hDn, hcn, hmn⟩
            have z4 := cell_ch2 y4 hcn (fun h => h)
            have z0 := cell_ch2 y0 hcn (fun h => h)
            have z2 := cell_ch2 y2 hcn (fun h => h)
            have HDn := hid hDn
            have HCn := hid hcn
            have HMn := hid hmn
            clear hDn hcn hmn y0 y2 y4 yf0 yf2 yl
            go_wp2_with fail
            refine hK.out _ _ (Jh.all z4 ⟨z0, z2⟩) (fun _ => ?_)
            clear hK K
            try simp only [lay_all]
            refine wpAnyJ_one (i := 15) (by kernel_rfl) rfl (fun K hK => ?_)
            go_simp
            refine (HCr2.out _ HCn.out).mono ?_
            rintro e w3 ⟨rqn, Mrn, rfl, hRn, hcr, hmr⟩
            have t4 := cell_ch2 z4 hcr (fun h => h)
            have hx3 := (hcr.block xb (Nat.lt_of_lt_of_le (blk_lt HX0.out.hx) HCn.out.size) (fun h => h)).trans ((HCn.out.block xb (blk_lt HX0.out.hx) (fun h => h)).trans HX0.out.hx)
            have HRe := hid (reopen HX0.out HDn.out HCn.out HMn.out hRn hcr hmr)
            obtain ⟨t0, t2, u0, u2, tl⟩ := xfacts hx3
            have s4 : (w3.setCell ⟨xb, 0, none⟩ (.pointer (some ⟨dpn, 0, none⟩))).cell? ⟨wr.heap.size, 4, none⟩ = some (.slice ka kept.length kcap) := by rw [World.cell?_setCell_far _ _ _ _ hxne]; exact t4
            have v4 : ((w3.setCell ⟨xb, 0, none⟩ (.pointer (some ⟨dpn, 0, none⟩))).setCell ⟨xb, 2, none⟩ (.pointer (some ⟨rqn, 0, none⟩))).cell? ⟨wr.heap.size, 4, none⟩ = some (.slice ka kept.length kcap) := by rw [World.cell?_setCell_far _ _ _ _ hxne]; exact s4
            clear hRn hcr hmr hx3 z0 z2 z4
            go_wp2_with fail
            refine hK.out _ _ (Jh.all t4 ⟨t0, t2⟩) (fun _ => ?_)
            clear hK K
            try simp only [lay_all]
            refine wpAnyJ_take (i := 16) (v := ?_) rfl (by kernel_rfl) (by kernel_rfl) (by kernel_rfl) (fun _ _ _ h => h) (by kernel_rfl) (Or.inl ⟨by rfl, ?_⟩) (Jh.all t4 ⟨t0, t2⟩) ?_
            rotate_left
            · intro w hSw
              try dsimp only at hSw
              go_simp
              all_goals with_reducible rfl
            try simp only [lay_all]
            refine wpAnyJ_take (i := 17) (v := ?_) rfl (by kernel_rfl) (by kernel_rfl) (by kernel_rfl) (fun _ _ _ h => h) (by kernel_rfl) (Or.inl ⟨by rfl, ?_⟩) (Jh.all t4 ⟨t0, t2⟩) ?_
            rotate_left
            · intro w hSw
              try dsimp only at hSw
              go_simp
              all_goals with_reducible rfl
            try simp only [lay_all]
            refine wpAnyJ_one (i := 18) (by kernel_rfl) rfl (fun K hK => ?_)
            go_simp
            refine hK.out _ _ (Jh.late s4 (by kernel_rfl)) (fun _ => ?_)
            clear hK K
            try simp only [lay_all]
            refine wpAnyJ_take (i := 19) (v := ?_) rfl (by kernel_rfl) (by kernel_rfl) (by kernel_rfl) (fun _ _ _ h => h) (by kernel_rfl) (Or.inl ⟨by rfl, ?_⟩) (Jh.late s4 (by kernel_rfl)) ?_
            rotate_left
            · intro w hSw
              try dsimp only at hSw
              go_simp
              all_goals with_reducible rfl
            try simp only [lay_all]
            refine wpAnyJ_take (i := 20) (v := ?_) rfl (by kernel_rfl) (by kernel_rfl) (by kernel_rfl) (fun _ _ _ h => h) (by kernel_rfl) (Or.inl ⟨by rfl, ?_⟩) (Jh.late s4 (by kernel_rfl)) ?_
            rotate_left
            · intro w hSw
              try dsimp only at hSw
              go_simp
              all_goals with_reducible rfl
            try simp only [lay_all]
            refine wpAnyJ_one (i := 21) (by kernel_rfl) rfl (fun K hK => ?_)
            go_simp
            refine hK.out _ _ (Jh.late v4 (by kernel_rfl)) (fun _ => ?_)
            clear hK K
            try simp only [lay_all]
            refine wpAnyJ_done (by kernel_rfl) ?_ _
            refine NoPanic.normal ?_
            clear t0 t2 t4 u0 u2 tl s4 v4
            go_wp2_with fail
            refine (HRe.out _ rfl).mono ?_
            rintro e w7 ⟨rfl, ⟨po1, ro1, p1, Q1, Qr1, hX1, hd1, hpi, hop⟩, hcx⟩
            have HX1 := hid hX1
            have HPB1 := hid (PB.open_ (HPB.out.pl.crash kept) hd1 hpi hop)
            clear hX1 hd1 hpi hop hcx
            go_wp2_with fail
            go_roundw
            case rel => exact ⟨j + 1, by go_num, by omega, hid ⟨dpn, rqn, po1, ro1, p1, Q1, Qr1, HX1.out, HPB1.out.up (by omega)⟩⟩
            case measure => (simp [intOf]; omega)
          by_cases h10 : k = 10
          · subst h10
            obtain ⟨u, HU⟩ : ∃ u : UInt8, Hid (m' % 256 = (u.toNat : Int)) := ⟨_, hid (u8_mod m')⟩
            have hw8 : IntKind.u8.wrap m' = (u.toNat : Int) := by rw [IntKind.wrap_u8]; exact HU.out
            have hmb := make_blank (wr.alloc (.cells #[.int .i64 10, .int .i64 n', .int .i64 m', .string s', .slice ka kept.length kcap] 112))
            have hbb := blank_bts (wr.alloc (.cells #[.int .i64 10, .int .i64 n', .int .i64 m', .string s', .slice ka kept.length kcap] 112)) u
            obtain ⟨BC, HBC⟩ : ∃ BC, Hid (blankCells = BC) := ⟨_, hid rfl⟩
            have hbh : ((wr.alloc (.cells #[.int .i64 10, .int .i64 n', .int .i64 m', .string s', .slice ka kept.length kcap] 112)).alloc (.cells blankCells 5)).heap[wr.heap.size + 1]? = some (.cells blankCells 5 (0, 0)) := by
              have := heap_new (w := wr.alloc (.cells #[.int .i64 10, .int .i64 n', .int .i64 m', .string s', .slice ka kept.length kcap] 112)) (.cells blankCells 5)
              rw [World.size_alloc] at this
              exact this
            have hb0 : blankCells[0]? = some (.int .u8 0) := by
              simp [blankCells, bcells, zeros]
            have hb1 := cell_blk hbh 0
            rw [hb0] at hb1
            have hb2 := frozen_blk hbh 0
            rw [HBC.out] at hmb hbb hb1 hb2
            rw [World.size_alloc] at hmb hbb
            have HBt := hid (hbb.1.ch ((Ch.refl (fun _ => False) _).drew) (fun _ _ h => h))
            have hx0b := (HX00.out.quiet hbb.2).quiet ((Ch.refl (fun _ => False) _).drew)
            have HX0b := hid hx0b
            have HNb : Hid ((∀ k, (Value.slice (some ⟨wr.heap.size + 1, 0, none⟩) 512 512).ownBlock = some k → ¬ Q k) ∧ (∀ k, (Value.slice (some ⟨wr.heap.size + 1, 0, none⟩) 512 512).ownBlock = some k → ¬ Qr k)) := hid ⟨fun k hk hq => (by
              obtain rfl : wr.heap.size + 1 = k := by simpa [Value.ownBlock] using hk
              have := (HXh.out.ltq.1 _ hq).2
              omega), fun k hk hq => (by
              obtain rfl : wr.heap.size + 1 = k := by simpa [Value.ownBlock] using hk
              have := (HXh.out.ltq.2.1 _ hq).2
              omega)⟩
            have HS0b := hid (keep3 HSx.out (hbb.2.trans ((Ch.refl (fun _ => False) _).drew)) (fun _ _ h => h) (fun _ _ h => h))
            clear hbb hbh hb0 hx0b
            go_wp2_with fail
            refine wp_region_noPanic ?_
            refine wp_region_held_drew (S := (fun W => W.cell? ⟨xb, 0, none⟩ = some (.pointer (some ⟨dp, 0, none⟩)) ∧ W.cell? ⟨xb, 2, none⟩ = some (.pointer (some ⟨rq, 0, none⟩)) ∧ W.cell? ⟨wr.heap.size, 1, none⟩ = some (.int .i64 n'))) (by kernel_rfl) HS0b.out (fun hHeld => ?_)
            refine wpAnyH_take (i := 0) (v := ?_) rfl (by kernel_rfl) (by kernel_rfl) (by kernel_rfl) (fun _ _ _ h => h) (Or.inl ⟨by rfl, ?_⟩) (by assumption) ?_
            rotate_left
            · intro w hSw
              try dsimp only at hSw
              go_simp
              all_goals with_reducible rfl
            try simp only [lay_all]
            refine wpAnyH_take (i := 1) (v := ?_) rfl (by kernel_rfl) (by kernel_rfl) (by kernel_rfl) (fun _ _ _ h => h) (Or.inl ⟨by rfl, ?_⟩) (by assumption) ?_
            rotate_left
            · intro w hSw
              try dsimp only at hSw
              go_simp
              all_goals with_reducible rfl
            try simp only [lay_all]
            refine wpAnyH_take (i := 2) (v := ?_) rfl (by kernel_rfl) (by kernel_rfl) (by kernel_rfl) (fun _ _ _ h => h) (Or.inl ⟨by rfl, ?_⟩) (by assumption) ?_
            rotate_left
            · intro w hSw
              try dsimp only at hSw
              go_simp
              all_goals with_reducible rfl
            try simp only [lay_all]
            refine wpAnyH_take (i := 3) (v := ?_) rfl (by kernel_rfl) (by kernel_rfl) (by kernel_rfl) (fun _ _ _ h => h) (Or.inl ⟨by rfl, ?_⟩) (by assumption) ?_
            rotate_left
            · intro w hSw
              try dsimp only at hSw
              go_simp
              all_goals with_reducible rfl
            try simp only [lay_all]
            refine wpAnyH_take (i := 4) (v := ?_) rfl (by kernel_rfl) (by kernel_rfl) (by kernel_rfl) (fun _ _ _ h => h) (Or.inl ⟨by rfl, ?_⟩) (by assumption) ?_
            rotate_left
            · intro w hSw
              try dsimp only at hSw
              go_simp
              all_goals with_reducible rfl
            try simp only [lay_all]
            refine wpAnyH_take (i := 5) (v := ?_) rfl (by kernel_rfl) (by kernel_rfl) (by kernel_rfl) (fun _ _ _ h => h) (Or.inl ⟨by rfl, ?_⟩) (by assumption) ?_
            rotate_left
            · intro w hSw
              try dsimp only at hSw
              go_simp
              all_goals with_reducible rfl
            try simp only [lay_all]
            refine wpAnyH_take (i := 6) (v := ?_) rfl (by kernel_rfl) (by kernel_rfl) (by kernel_rfl) (fun _ _ _ h => h) (Or.inl ⟨by rfl, ?_⟩) (by assumption) ?_
            rotate_left
            · intro w hSw
              try dsimp only at hSw
              go_simp
              all_goals with_reducible rfl
            try simp only [lay_all]
            refine wpAnyH_ready (rs := [7]) (by kernel_rfl) (by simp) ?_
            refine AllReadyH.cons rfl (fun K hK => ?_) AllReadyH.nil
            go_simp
            obtain ⟨M, F, hD, hFQ, hMF, hup⟩ := HX0b.out.getD
            refine (write_any n' _ 512 512 _ _ hD (by have := HPB.out.pl.steps; omega) (by have := HPB.out.pl.wait; omega) HBt.out (by simp [zeros_length]) (fun k hk hm => HNb.out.1 k hk (hFQ k (hMF k hm)))).mono ?_
            rintro e w1 ⟨rfl, M1, F1, k1, k2, k3, k4⟩
            obtain ⟨Q1, hx1, hc1⟩ := hup _ _ _ _ k1 (write_len _ _ _) k3 k4
            have HX1 := hid hx1
            have HBt1 := hid (HBt.out.ch hc1 HNb.out.1)
            have HS2 := hid (keep3 HS0b.out hc1 (fun q hq => by subst hq; exact HX0b.out.xq) (fun q hq hQ => by subst hq; exact HAb.out.1 hQ))
            clear hD hFQ hMF hup k1 k2 k3 k4 hx1 hc1
            go_wp2_with fail
            refine hK.out _ _ ?_ (fun hHeld => ?_)
            · first | exact HS2.out | assumption
            clear hK K
            try simp only [lay_all]
            refine wpAnyH_done (by kernel_rfl) ?_ _
            refine NoPanic.normal ?_
            go_wp2_with fail
            have HS1 := hid (keep3 HS2.out (Ch.refl (fun _ => False) w1).drew (fun _ _ h => h) (fun _ _ h => h))
            clear HS2
            refine wp_region_noPanic ?_
            refine wp_region_held_drew (S := (fun W => W.cell? ⟨xb, 0, none⟩ = some (.pointer (some ⟨dp, 0, none⟩)) ∧ W.cell? ⟨xb, 2, none⟩ = some (.pointer (some ⟨rq, 0, none⟩)) ∧ W.cell? ⟨wr.heap.size, 1, none⟩ = some (.int .i64 n'))) (by kernel_rfl) HS1.out (fun hHeld => ?_)
            refine wpAnyH_take (i := 0) (v := ?_) rfl (by kernel_rfl) (by kernel_rfl) (by kernel_rfl) (fun _ _ _ h => h) (Or.inl ⟨by rfl, ?_⟩) (by assumption) ?_
            rotate_left
            · intro w hSw
              try dsimp only at hSw
              go_simp
              all_goals with_reducible rfl
            try simp only [lay_all]
            refine wpAnyH_take (i := 1) (v := ?_) rfl (by kernel_rfl) (by kernel_rfl) (by kernel_rfl) (fun _ _ _ h => h) (Or.inl ⟨by rfl, ?_⟩) (by assumption) ?_
            rotate_left
            · intro w hSw
              try dsimp only at hSw
              go_simp
              all_goals with_reducible rfl
            try simp only [lay_all]
            refine wpAnyH_take (i := 2) (v := ?_) rfl (by kernel_rfl) (by kernel_rfl) (by kernel_rfl) (fun _ _ _ h => h) (Or.inl ⟨by rfl, ?_⟩) (by assumption) ?_
            rotate_left
            · intro w hSw
              try dsimp only at hSw
              go_simp
              all_goals with_reducible rfl
            try simp only [lay_all]
            refine wpAnyH_take (i := 3) (v := ?_) rfl (by kernel_rfl) (by kernel_rfl) (by kernel_rfl) (fun _ _ _ h => h) (Or.inl ⟨by rfl, ?_⟩) (by assumption) ?_
            rotate_left
            · intro w hSw
              try dsimp only at hSw
              go_simp
              all_goals with_reducible rfl
            try simp only [lay_all]
            refine wpAnyH_take (i := 4) (v := ?_) rfl (by kernel_rfl) (by kernel_rfl) (by kernel_rfl) (fun _ _ _ h => h) (Or.inl ⟨by rfl, ?_⟩) (by assumption) ?_
            rotate_left
            · intro w hSw
              try dsimp only at hSw
              go_simp
              all_goals with_reducible rfl
            try simp only [lay_all]
            refine wpAnyH_take (i := 5) (v := ?_) rfl (by kernel_rfl) (by kernel_rfl) (by kernel_rfl) (fun _ _ _ h => h) (Or.inl ⟨by rfl, ?_⟩) (by assumption) ?_
            rotate_left
            · intro w hSw
              try dsimp only at hSw
              go_simp
              all_goals with_reducible rfl
            try simp only [lay_all]
            refine wpAnyH_take (i := 6) (v := ?_) rfl (by kernel_rfl) (by kernel_rfl) (by kernel_rfl) (fun _ _ _ h => h) (Or.inl ⟨by rfl, ?_⟩) (by assumption) ?_
            rotate_left
            · intro w hSw
              try dsimp only at hSw
              go_simp
              all_goals with_reducible rfl
            try simp only [lay_all]
            refine wpAnyH_ready (rs := [7]) (by kernel_rfl) (by simp) ?_
            refine AllReadyH.cons rfl (fun K hK => ?_) AllReadyH.nil
            go_simp
            obtain ⟨Mr, hR, hMQ, hup⟩ := (HX1.out.quiet (Ch.refl (fun _ => False) w1).drew).getR
            refine (rwrite_any n' _ 512 512 _ _ hR (by have := HPB.out.pl.steps; omega) (by have := HPB.out.pl.wait; omega) (HBt1.out.ch (Ch.refl (fun _ => False) w1).drew (fun _ _ h => h)) (by simp [zeros_length]) (fun k hk hm => HNb.out.2 k hk (hMQ k hm))).mono ?_
            rintro e w3 ⟨rfl, M3, k1, k2, k3⟩
            obtain ⟨Qr1, hx3, hc3⟩ := hup _ _ _ k1 (write_len _ _ _) k2 k3
            have HX3 := hid hx3
            have HS2 := hid (keep3 HS1.out hc3 (fun q hq => by subst hq; exact HX1.out.xr) (fun q hq hQ => by subst hq; exact HAb.out.2 hQ))
            clear hR hMQ hup k1 k2 k3 hx3 hc3
            go_wp2_with fail
            refine hK.out _ _ ?_ (fun hHeld => ?_)
            · first | exact HS2.out | assumption
            clear hK K
            try simp only [lay_all]
            refine wpAnyH_done (by kernel_rfl) ?_ _
            refine NoPanic.normal ?_
            go_wp2_with fail
            go_roundw
            case rel => exact ⟨j + 1, by go_num, by omega, hid ⟨dp, rq, po, ro, { p with d := (writeD p.d n' ((zeros 512).set 0 u)).2 }, Q1, Qr1, HX3.out.xs, HPB.out.disk (show 20 + 5 * j ≤ 20 + 5 * (j + 1) by omega) ((HPB.out.pl.write n' _).more (by omega)) rfl rfl rfl⟩⟩
            case measure => simp [intOf]; omega
          · skip
            have e8 : (k == 8) = false := by rw [beq_eq_false_iff_ne]; exact h8
            have e9 : (k == 9) = false := by rw [beq_eq_false_iff_ne]; exact h9
            have e10 : (k == 10) = false := by rw [beq_eq_false_iff_ne]; exact h10
            rcases HXs.out.st with ⟨rfl, rfl, _, _⟩ | ⟨pp, rp, rfl, rfl, hT⟩
            · have y3 := cell_blk HX00.out.hx 3
              simp at y3
              have HXq := hid (HXs.out.quiet ((Ch.refl (fun _ => False) wr).alloc (.cells #[.int .i64 k, .int .i64 n', .int .i64 m', .string s', .slice ka kept.length kcap] 112)))
              clear h8 h9 h10
              go_wp2_with fail
              go_roundw
              case rel => exact ⟨j + 1, by go_num, by omega, hid ⟨dp, rq, none, none, p, Q, Qr, HXq.out, HPB.out.up (by omega)⟩⟩
              case measure => simp [intOf]; omega
            · have y3 := cell_blk HX00.out.hx 3
              simp at y3
              have HT0 := hid (hT.quiet (((Ch.refl (fun _ => False) wr).alloc (.cells #[.int .i64 k, .int .i64 n', .int .i64 m', .string s', .slice ka kept.length kcap] 112)).drew))
              have HS0 := hid (show ((wr.alloc (.cells #[.int .i64 k, .int .i64 n', .int .i64 m', .string s', .slice ka kept.length kcap] 112)).drew).cell? ⟨xb, 1, none⟩ = some (.pointer (some ⟨pp, 0, none⟩)) ∧ ((wr.alloc (.cells #[.int .i64 k, .int .i64 n', .int .i64 m', .string s', .slice ka kept.length kcap] 112)).drew).cell? ⟨xb, 3, none⟩ = some (.pointer (some ⟨rp, 0, none⟩)) ∧ ((wr.alloc (.cells #[.int .i64 k, .int .i64 n', .int .i64 m', .string s', .slice ka kept.length kcap] 112)).drew).cell? ⟨wr.heap.size, 0, none⟩ = some (.int .i64 k) ∧ ((wr.alloc (.cells #[.int .i64 k, .int .i64 n', .int .i64 m', .string s', .slice ka kept.length kcap] 112)).drew).cell? ⟨wr.heap.size, 1, none⟩ = some (.int .i64 n') ∧ ((wr.alloc (.cells #[.int .i64 k, .int .i64 n', .int .i64 m', .string s', .slice ka kept.length kcap] 112)).drew).cell? ⟨wr.heap.size, 2, none⟩ = some (.int .i64 m') ∧ ((wr.alloc (.cells #[.int .i64 k, .int .i64 n', .int .i64 m', .string s', .slice ka kept.length kcap] 112)).drew).cell? ⟨wr.heap.size, 3, none⟩ = some (.string s') ∧ ((wr.alloc (.cells #[.int .i64 k, .int .i64 n', .int .i64 m', .string s', .slice ka kept.length kcap] 112)).drew).cell? ⟨wr.heap.size, 4, none⟩ = some (.slice ka kept.length kcap) from ⟨by rw [cell_blk HX0.out.hx]; rfl, by rw [cell_blk HX0.out.hx]; rfl, by rw [cell_blk HBx.out]; rfl, by rw [cell_blk HBx.out]; rfl, by rw [cell_blk HBx.out]; rfl, by rw [cell_blk HBx.out]; rfl, by rw [cell_blk HBx.out]; rfl⟩)
              clear h8 h9 h10 hT
              go_wp2_with fail
              refine wp_region_noPanic ?_
              refine wp_region_held_drew (S := (fun W => W.cell? ⟨xb, 1, none⟩ = some (.pointer (some ⟨pp, 0, none⟩)) ∧ W.cell? ⟨xb, 3, none⟩ = some (.pointer (some ⟨rp, 0, none⟩)) ∧ W.cell? ⟨wr.heap.size, 0, none⟩ = some (.int .i64 k) ∧ W.cell? ⟨wr.heap.size, 1, none⟩ = some (.int .i64 n') ∧ W.cell? ⟨wr.heap.size, 2, none⟩ = some (.int .i64 m') ∧ W.cell? ⟨wr.heap.size, 3, none⟩ = some (.string s') ∧ W.cell? ⟨wr.heap.size, 4, none⟩ = some (.slice ka kept.length kcap))) (by kernel_rfl) HS0.out (fun hHeld => ?_)
              refine wpAnyH_take (i := 0) (v := ?_) rfl (by kernel_rfl) (by kernel_rfl) (by kernel_rfl) (fun _ _ _ h => h) (Or.inl ⟨by rfl, ?_⟩) (by assumption) ?_
              rotate_left
              · intro w hSw
                try dsimp only at hSw
                go_simp
                all_goals with_reducible rfl
              try simp only [lay_all]
              refine wpAnyH_take (i := 1) (v := ?_) rfl (by kernel_rfl) (by kernel_rfl) (by kernel_rfl) (fun _ _ _ h => h) (Or.inl ⟨by rfl, ?_⟩) (by assumption) ?_
              rotate_left
              · intro w hSw
                try dsimp only at hSw
                go_simp
                all_goals with_reducible rfl
              try simp only [lay_all]
              refine wpAnyH_ready (rs := [2]) (by kernel_rfl) (by simp) ?_
              refine AllReadyH.cons rfl (fun K hK => ?_) AllReadyH.nil
              go_simp
              refine (bdo_any k n' m' s' ka kept.length kcap _ HT0.out HPB.out (by omega) HS0.out.1 HS0.out.2.1 ⟨HX0.out.xq, HX0.out.xr⟩ HW.out.1 HW.out.2).mono ?_
              rintro e w1 ⟨rfl, p1, ⟨Q1, Qr1, hT1, hf1, hf2, hc1⟩, hPB1⟩
              have HS2 := hid (keep7 HS0.out hc1 (fun q hq => by
                subst hq
                exact fun h => h.elim HX0.out.xq HX0.out.xr) (fun q hq => by
                subst hq
                exact fun h => h.elim HAb.out.1 HAb.out.2))
              have HT1 := hid hT1
              have HPB1 := hid hPB1
              have HF1 := hid (And.intro hf1 hf2)
              have HX1 := hid ((hc1.block xb (blk_lt HX0.out.hx) (fun h => h.elim HX0.out.xq HX0.out.xr)).trans HX0.out.hx)
              have HZ1 := hid hc1.size
              have HNx : Hid (¬ Q1 xb ∧ ¬ Qr1 xb ∧ ¬ Q1 wr.heap.size ∧ ¬ Q1 rp) := hid ⟨fun h => (by
                rcases hf1 xb h with h | h
                · exact HX0.out.xq h
                · have := blk_lt HX0.out.hx; omega), fun h => (by
                rcases hf2 xb h with h | h
                · exact HX0.out.xr h
                · have := blk_lt HX0.out.hx; omega), fun h => (by
                rcases hf1 _ h with h | h
                · exact HAb.out.1 h
                · have := blk_lt HBx.out; omega), fun h => hT1.dj _ h (rz_three hT1.r).2.2.1⟩
              have hbn0 : ((p1.gen : Int) != (p1.gen : Int)) = false := by simp
              have hbn1 : ((⟨p1.root.toArray⟩ : ByteArray).toList != (⟨p1.root.toArray⟩ : ByteArray).toList) = false := by simp
              have hbn2 : ((freeL p1.pages : Int) != (freeL p1.pages : Int)) = false := by simp
              have HS3 := hid (And.intro HS2.out (And.intro (rz_three hT1.r).1 (rz_three hT1.r).2.1))
              clear hT1 hf1 hf2 hc1 hPB1
              go_wp2_with fail
              refine hK.out _ _ ?_ (fun hHeld => ?_)
              · exact HS2.out
              clear hK K
              try simp only [lay_all]
              refine anyH_more (S' := (fun W => (W.cell? ⟨xb, 1, none⟩ = some (.pointer (some ⟨pp, 0, none⟩)) ∧ W.cell? ⟨xb, 3, none⟩ = some (.pointer (some ⟨rp, 0, none⟩)) ∧ W.cell? ⟨wr.heap.size, 0, none⟩ = some (.int .i64 k) ∧ W.cell? ⟨wr.heap.size, 1, none⟩ = some (.int .i64 n') ∧ W.cell? ⟨wr.heap.size, 2, none⟩ = some (.int .i64 m') ∧ W.cell? ⟨wr.heap.size, 3, none⟩ = some (.string s') ∧ W.cell? ⟨wr.heap.size, 4, none⟩ = some (.slice ka kept.length kcap)) ∧ W.cell? ⟨rp, 1, none⟩ = some (.int .i64 (p1.gen : Int)) ∧ W.cell? ⟨rp, 2, none⟩ = some (.string ⟨p1.root.toArray⟩))) (fun _ h => h.1) _ _ _ _ ?_
              clear hHeld
              have hHeld := HS3.out
              refine wpAnyH_take (i := 3) (v := ?_) rfl (by kernel_rfl) (by kernel_rfl) (by kernel_rfl) (fun _ _ _ h => h) (Or.inl ⟨by rfl, ?_⟩) (by assumption) ?_
              rotate_left
              · intro w hSw
                try dsimp only at hSw
                go_simp
                all_goals with_reducible rfl
              try simp only [lay_all]
              refine wpAnyH_take (i := 4) (v := ?_) rfl (by kernel_rfl) (by kernel_rfl) (by kernel_rfl) (fun _ _ _ h => h) (Or.inl ⟨by rfl, ?_⟩) (by assumption) ?_
              rotate_left
              · intro w hSw
                try dsimp only at hSw
                go_simp
                all_goals with_reducible rfl
              try simp only [lay_all]
              refine wpAnyH_take (i := 5) (v := ?_) rfl (by kernel_rfl) (by kernel_rfl) (by kernel_rfl) (fun _ _ _ h => h) (Or.inl ⟨by rfl, ?_⟩) (by assumption) ?_
              rotate_left
              · intro w hSw
                try dsimp only at hSw
                go_simp
                all_goals with_reducible rfl
              try simp only [lay_all]
              refine wpAnyH_take (i := 6) (v := ?_) rfl (by kernel_rfl) (by kernel_rfl) (by kernel_rfl) (fun _ _ _ h => h) (Or.inl ⟨by rfl, ?_⟩) (by assumption) ?_
              rotate_left
              · intro w hSw
                try dsimp only at hSw
                go_simp
                all_goals with_reducible rfl
              try simp only [lay_all]
              refine wpAnyH_take (i := 7) (v := ?_) rfl (by kernel_rfl) (by kernel_rfl) (by kernel_rfl) (fun _ _ _ h => h) (Or.inl ⟨by rfl, ?_⟩) (by assumption) ?_
              rotate_left
              · intro w hSw
                try dsimp only at hSw
                go_simp
                all_goals with_reducible rfl
              try simp only [lay_all]
              refine wpAnyH_take (i := 8) (v := ?_) rfl (by kernel_rfl) (by kernel_rfl) (by kernel_rfl) (fun _ _ _ h => h) (Or.inl ⟨by rfl, ?_⟩) (by assumption) ?_
              rotate_left
              · intro w hSw
                try dsimp only at hSw
                go_simp
                all_goals with_reducible rfl
              try simp only [lay_all]
              refine wpAnyH_take (i := 10) (v := ?_) rfl (by kernel_rfl) (by kernel_rfl) (by kernel_rfl) (fun _ _ _ h => h) (Or.inl ⟨by rfl, ?_⟩) (by assumption) ?_
              rotate_left
              · intro w hSw
                try dsimp only at hSw
                go_simp
                all_goals with_reducible rfl
              try simp only [lay_all]
              refine wpAnyH_take (i := 11) (v := ?_) rfl (by kernel_rfl) (by kernel_rfl) (by kernel_rfl) (fun _ _ _ h => h) (Or.inl ⟨by rfl, ?_⟩) (by assumption) ?_
              rotate_left
              · intro w hSw
                try dsimp only at hSw
                go_simp
                all_goals with_reducible rfl
              try simp only [lay_all]
              refine wpAnyH_take (i := 12) (v := ?_) rfl (by kernel_rfl) (by kernel_rfl) (by kernel_rfl) (fun _ _ _ h => h) (Or.inl ⟨by rfl, ?_⟩) (by assumption) ?_
              rotate_left
              · intro w hSw
                try dsimp only at hSw
                go_simp
                all_goals with_reducible rfl
              try simp only [lay_all]
              refine wpAnyH_take (i := 13) (v := ?_) rfl (by kernel_rfl) (by kernel_rfl) (by kernel_rfl) (fun _ _ _ h => h) (Or.inl ⟨by rfl, ?_⟩) (by assumption) ?_
              rotate_left
              · intro w hSw
                try dsimp only at hSw
                go_simp
                all_goals with_reducible rfl
              try simp only [lay_all]
              refine wpAnyH_take (i := 14) (v := ?_) rfl (by kernel_rfl) (by kernel_rfl) (by kernel_rfl) (fun _ _ _ h => h) (Or.inl ⟨by rfl, ?_⟩) (by assumption) ?_
              rotate_left
              · intro w hSw
                try dsimp only at hSw
                go_simp
                all_goals with_reducible rfl
              try simp only [lay_all]
              refine wpAnyH_take (i := 15) (v := ?_) rfl (by kernel_rfl) (by kernel_rfl) (by kernel_rfl) (fun _ _ _ h => h) (Or.inl ⟨by rfl, ?_⟩) (by assumption) ?_
              rotate_left
              · intro w hSw
                try dsimp only at hSw
                go_simp
                all_goals with_reducible rfl
              try simp only [lay_all]
              refine wpAnyH_take (i := 16) (v := ?_) rfl (by kernel_rfl) (by kernel_rfl) (by kernel_rfl) (fun _ _ _ h => h) (Or.inl ⟨by rfl, ?_⟩) (by assumption) ?_
              rotate_left
              · intro w hSw
                try dsimp only at hSw
                go_simp
                all_goals with_reducible rfl
              try simp only [lay_all]
              refine wpAnyH_ready (rs := [9]) (by kernel_rfl) (by simp) ?_
              refine AllReadyH.cons rfl (fun K hK => ?_) AllReadyH.nil
              go_simp
              refine (gen_z _ HT1.out.z).mono ?_
              rintro e w' ⟨rfl, rfl⟩
              go_wp2_with fail
              refine hK.out _ _ ?_ (fun hHeld => ?_)
              · exact HS3.out
              clear hK K
              try simp only [lay_all]
              refine wpAnyH_take (i := 17) (v := ?_) rfl (by kernel_rfl) (by kernel_rfl) (by kernel_rfl) (fun _ _ _ h => h) (Or.inl ⟨by rfl, ?_⟩) (by assumption) ?_
              rotate_left
              · intro w hSw
                try dsimp only at hSw
                go_simp
                all_goals with_reducible rfl
              try simp only [lay_all]
              refine wpAnyH_take (i := 18) (v := ?_) rfl (by kernel_rfl) (by kernel_rfl) (by kernel_rfl) (fun _ _ _ h => h) (Or.inl ⟨by rfl, ?_⟩) (by assumption) ?_
              rotate_left
              · intro w hSw
                try dsimp only at hSw
                go_simp
                all_goals with_reducible rfl
              try simp only [lay_all]
              refine wpAnyH_take (i := 19) (v := ?_) rfl (by kernel_rfl) (by kernel_rfl) (by kernel_rfl) (fun _ _ _ h => h) (Or.inl ⟨by rfl, ?_⟩) (by assumption) ?_
              rotate_left
              · intro w hSw
                try dsimp only at hSw
                go_simp
                all_goals with_reducible rfl
              try simp only [lay_all]
              refine wpAnyH_take (i := 20) (v := ?_) rfl (by kernel_rfl) (by kernel_rfl) (by kernel_rfl) (fun _ _ _ h => h) (Or.inl ⟨by rfl, ?_⟩) (by assumption) ?_
              rotate_left
              · intro w hSw
                try dsimp only at hSw
                go_simp
                all_goals with_reducible rfl
              try simp only [lay_all]
              refine wpAnyH_take (i := 21) (v := ?_) rfl (by kernel_rfl) (by kernel_rfl) (by kernel_rfl) (fun _ _ _ h => h) (Or.inl ⟨by rfl, ?_⟩) (by assumption) ?_
              rotate_left
              · intro w hSw
                try dsimp only at hSw
                go_simp
                all_goals with_reducible rfl
              try simp only [lay_all]
              refine wpAnyH_take (i := 22) (v := ?_) rfl (by kernel_rfl) (by kernel_rfl) (by kernel_rfl) (fun _ _ _ h => h) (Or.inl ⟨by rfl, ?_⟩) (by assumption) ?_
              rotate_left
              · intro w hSw
                try dsimp only at hSw
                go_simp
                all_goals with_reducible rfl
              try simp only [lay_all]
              refine wpAnyH_take (i := 23) (v := ?_) rfl (by kernel_rfl) (by kernel_rfl) (by kernel_rfl) (fun _ _ _ h => h) (Or.inl ⟨by rfl, ?_⟩) (by assumption) ?_
              rotate_left
              · intro w hSw
                try dsimp only at hSw
                go_simp
                all_goals with_reducible rfl
              try simp only [lay_all]
              refine wpAnyH_take (i := 25) (v := ?_) rfl (by kernel_rfl) (by kernel_rfl) (by kernel_rfl) (fun _ _ _ h => h) (Or.inl ⟨by rfl, ?_⟩) (by assumption) ?_
              rotate_left
              · intro w hSw
                try dsimp only at hSw
                go_simp
                all_goals with_reducible rfl
              try simp only [lay_all]
              refine wpAnyH_take (i := 26) (v := ?_) rfl (by kernel_rfl) (by kernel_rfl) (by kernel_rfl) (fun _ _ _ h => h) (Or.inl ⟨by rfl, ?_⟩) (by assumption) ?_
              rotate_left
              · intro w hSw
                try dsimp only at hSw
                go_simp
                all_goals with_reducible rfl
              try simp only [lay_all]
              refine wpAnyH_take (i := 27) (v := ?_) rfl (by kernel_rfl) (by kernel_rfl) (by kernel_rfl) (fun _ _ _ h => h) (Or.inl ⟨by rfl, ?_⟩) (by assumption) ?_
              rotate_left
              · intro w hSw
                try dsimp only at hSw
                go_simp
                all_goals with_reducible rfl
              try simp only [lay_all]
              refine wpAnyH_take (i := 28) (v := ?_) rfl (by kernel_rfl) (by kernel_rfl) (by kernel_rfl) (fun _ _ _ h => h) (Or.inl ⟨by rfl, ?_⟩) (by assumption) ?_
              rotate_left
              · intro w hSw
                try dsimp only at hSw
                go_simp
                all_goals with_reducible rfl
              try simp only [lay_all]
              refine wpAnyH_take (i := 29) (v := ?_) rfl (by kernel_rfl) (by kernel_rfl) (by kernel_rfl) (fun _ _ _ h => h) (Or.inl ⟨by rfl, ?_⟩) (by assumption) ?_
              rotate_left
              · intro w hSw
                try dsimp only at hSw
                go_simp
                all_goals with_reducible rfl
              try simp only [lay_all]
              refine wpAnyH_take (i := 30) (v := ?_) rfl (by kernel_rfl) (by kernel_rfl) (by kernel_rfl) (fun _ _ _ h => h) (Or.inl ⟨by rfl, ?_⟩) (by assumption) ?_
              rotate_left
              · intro w hSw
                try dsimp only at hSw
                go_simp
                all_goals with_reducible rfl
              try simp only [lay_all]
              refine wpAnyH_take (i := 31) (v := ?_) rfl (by kernel_rfl) (by kernel_rfl) (by kernel_rfl) (fun _ _ _ h => h) (Or.inl ⟨by rfl, ?_⟩) (by assumption) ?_
              rotate_left
              · intro w hSw
                try dsimp only at hSw
                go_simp
                all_goals with_reducible rfl
              try simp only [lay_all]
              refine wpAnyH_ready (rs := [24]) (by kernel_rfl) (by simp) ?_
              refine AllReadyH.cons rfl (fun K hK => ?_) AllReadyH.nil
              go_simp
              refine (root_z _ HT1.out.z).mono ?_
              rintro e w' ⟨rfl, rfl⟩
              go_wp2_with fail
              refine hK.out _ _ ?_ (fun hHeld => ?_)
              · exact HS3.out
              clear hK K
              try simp only [lay_all]
              refine wpAnyH_take (i := 32) (v := ?_) rfl (by kernel_rfl) (by kernel_rfl) (by kernel_rfl) (fun _ _ _ h => h) (Or.inl ⟨by rfl, ?_⟩) (by assumption) ?_
              rotate_left
              · intro w hSw
                try dsimp only at hSw
                go_simp
                all_goals with_reducible rfl
              try simp only [lay_all]
              refine wpAnyH_take (i := 33) (v := ?_) rfl (by kernel_rfl) (by kernel_rfl) (by kernel_rfl) (fun _ _ _ h => h) (Or.inl ⟨by rfl, ?_⟩) (by assumption) ?_
              rotate_left
              · intro w hSw
                try dsimp only at hSw
                go_simp
                all_goals with_reducible rfl
              try simp only [lay_all]
              refine wpAnyH_take (i := 34) (v := ?_) rfl (by kernel_rfl) (by kernel_rfl) (by kernel_rfl) (fun _ _ _ h => h) (Or.inl ⟨by rfl, ?_⟩) (by assumption) ?_
              rotate_left
              · intro w hSw
                try dsimp only at hSw
                go_simp
                all_goals with_reducible rfl
              try simp only [lay_all]
              refine wpAnyH_take (i := 35) (v := ?_) rfl (by kernel_rfl) (by kernel_rfl) (by kernel_rfl) (fun _ _ _ h => h) (Or.inl ⟨by rfl, ?_⟩) (by assumption) ?_
              rotate_left
              · intro w hSw
                try dsimp only at hSw
                go_simp
                all_goals with_reducible rfl
              try simp only [lay_all]
              refine wpAnyH_take (i := 36) (v := ?_) rfl (by kernel_rfl) (by kernel_rfl) (by kernel_rfl) (fun _ _ _ h => h) (Or.inl ⟨by rfl, ?_⟩) (by assumption) ?_
              rotate_left
              · intro w hSw
                try dsimp only at hSw
                go_simp
                all_goals with_reducible rfl
              try simp only [lay_all]
              refine wpAnyH_take (i := 37) (v := ?_) rfl (by kernel_rfl) (by kernel_rfl) (by kernel_rfl) (fun _ _ _ h => h) (Or.inl ⟨by rfl, ?_⟩) (by assumption) ?_
              rotate_left
              · intro w hSw
                try dsimp only at hSw
                go_simp
                all_goals with_reducible rfl
              try simp only [lay_all]
              refine wpAnyH_take (i := 38) (v := ?_) rfl (by kernel_rfl) (by kernel_rfl) (by kernel_rfl) (fun _ _ _ h => h) (Or.inl ⟨by rfl, ?_⟩) (by assumption) ?_
              rotate_left
              · intro w hSw
                try dsimp only at hSw
                go_simp
                all_goals with_reducible rfl
              try simp only [lay_all]
              refine wpAnyH_take (i := 40) (v := ?_) rfl (by kernel_rfl) (by kernel_rfl) (by kernel_rfl) (fun _ _ _ h => h) (Or.inl ⟨by rfl, ?_⟩) (by assumption) ?_
              rotate_left
              · intro w hSw
                try dsimp only at hSw
                go_simp
                all_goals with_reducible rfl
              try simp only [lay_all]
              refine wpAnyH_take (i := 41) (v := ?_) rfl (by kernel_rfl) (by kernel_rfl) (by kernel_rfl) (fun _ _ _ h => h) (Or.inl ⟨by rfl, ?_⟩) (by assumption) ?_
              rotate_left
              · intro w hSw
                try dsimp only at hSw
                go_simp
                all_goals with_reducible rfl
              try simp only [lay_all]
              refine wpAnyH_take (i := 42) (v := ?_) rfl (by kernel_rfl) (by kernel_rfl) (by kernel_rfl) (fun _ _ _ h => h) (Or.inl ⟨by rfl, ?_⟩) (by assumption) ?_
              rotate_left
              · intro w hSw
                try dsimp only at hSw
                go_simp
                all_goals with_reducible rfl
              try simp only [lay_all]
              refine wpAnyH_take (i := 43) (v := ?_) rfl (by kernel_rfl) (by kernel_rfl) (by kernel_rfl) (fun _ _ _ h => h) (Or.inl ⟨by rfl, ?_⟩) (by assumption) ?_
              rotate_left
              · intro w hSw
                try dsimp only at hSw
                go_simp
                all_goals with_reducible rfl
              try simp only [lay_all]
              refine wpAnyH_ready (rs := [39]) (by kernel_rfl) (by simp) ?_
              refine AllReadyH.cons rfl (fun K hK => ?_) AllReadyH.nil
              go_simp
              refine (free_z _ HT1.out.z).mono ?_
              rintro e w2 ⟨rfl, hz2⟩
              have HS4 := hid (keep9 HS3.out (zch hz2) (fun q hq => by
                subst hq
                exact HNx.out.1) (fun q hq => by
                subst hq
                exact HNx.out.2.2.1) (fun q hq => by
                subst hq
                exact HNx.out.2.2.2))
              have HX2 := hid (((zch hz2).block xb (blk_lt HX1.out) HNx.out.1).trans HX1.out)
              obtain ⟨Q2, z2, r2, d2, f2, c2⟩ := HT1.out.mid hz2
              have HNy : Hid (¬ Q2 xb) := hid (fun h => by
                rcases f2 xb h with h | h
                · exact HNx.out.1 h
                · have := blk_lt HX1.out; omega)
              have HT2 : Hid (Two w w2 pp dp rp rq p1 Q2 Qr1) := hid ⟨z2, r2, d2⟩
              clear hz2 z2 r2 d2 f2 c2
              go_wp2_with fail
              refine hK.out _ _ ?_ (fun hHeld => ?_)
              · exact HS4.out
              clear hK K
              try simp only [lay_all]
              refine wpAnyH_ready (rs := [44]) (by kernel_rfl) (by simp) ?_
              refine AllReadyH.cons rfl (fun K hK => ?_) AllReadyH.nil
              go_simp
              refine (rfree_any _ HT2.out.r).mono ?_
              rintro e w' ⟨rfl, rfl⟩
              go_wp2_with fail
              refine hK.out _ _ ?_ (fun hHeld => ?_)
              · exact HS4.out
              clear hK K
              try simp only [lay_all]
              refine wpAnyH_take (i := 45) (v := ?_) rfl (by kernel_rfl) (by kernel_rfl) (by kernel_rfl) (fun _ _ _ h => h) (Or.inl ⟨by rfl, ?_⟩) (by assumption) ?_
              rotate_left
              · intro w hSw
                try dsimp only at hSw
                go_simp
                all_goals with_reducible rfl
              try simp only [lay_all]
              refine wpAnyH_take (i := 46) (v := ?_) rfl (by kernel_rfl) (by kernel_rfl) (by kernel_rfl) (fun _ _ _ h => h) (Or.inl ⟨by rfl, ?_⟩) (by assumption) ?_
              rotate_left
              · intro w hSw
                try dsimp only at hSw
                go_simp
                all_goals with_reducible rfl
              try simp only [lay_all]
              refine wpAnyH_done (by kernel_rfl) ?_ _
              refine NoPanic.normal ?_
              go_wp2_with fail
              go_roundw
              case rel => exact ⟨j + 1, by go_num, by omega, hid ⟨dp, rq, some ⟨pp, 0, none⟩, some ⟨rp, 0, none⟩, p1, Q2, Qr1, ⟨HX2.out, HNy.out, HNx.out.2.1, HX0.out.x0, HT2.out.dj, .inr ⟨pp, rp, rfl, rfl, HT2.out⟩⟩, HPB1.out.up (by omega)⟩⟩
              case measure => simp [intOf]; omega
        · go_wp2_with fail
          go_ret
          exact ⟨rfl, HC.out⟩
    | true => exact absurd hfm.out (by simp)

end Go.Proofs.Ytadhibemadgcoaa
