/- OpenRoot of package page, and the four functions' contracts in one form. Conditions: none on the bytes but their number. -/
import Derived.Test.YtadhibemadgcoaaPageD
namespace Go.Proofs.Ytadhibemadgcoaa
open Go.RowKit

/-- What a root's sector holds. -/
def rootL (l : List UInt8) : Option (Nat × List UInt8) :=
  if l.length = 512 ∧ rdl ((l.drop 8).take 2) ≤ 490 ∧ (1 ≤ rdl (l.take 8) ∧ rdl (l.take 8) ≤ 4611686018427387904) ∧ rootB (rdl (l.take 8)) ((l.drop 10).take (rdl ((l.drop 8).take 2))) = l
  then some (rdl (l.take 8), (l.drop 10).take (rdl ((l.drop 8).take 2))) else none
def rootV : Option (Nat × List UInt8) → Value
  | some (g, s) => .tuple #[.int .i64 (g : Int), .string ⟨s.toArray⟩, .int .i64 0]
  | none => .tuple #[.int .i64 0, .string ⟨#[]⟩, .int .i64 11]

set_option maxHeartbeats 400000 in
theorem rootopen_short (v : Value) (l : List UInt8) (w : World) (hlen : l.length ≤ 140737488355328) (h : l.length ≠ 512) (hv : Bts w v l) :
    Calls Try.prog 38 #[v] w fun e w' => e = .returned (rootV none) ∧ w = w' := by
  rcases hv with ⟨a, c0, rfl, rfl⟩ | ⟨b, off, cap, cs, e, fz, rfl, hcap, hb, hc⟩
  · go_enter Try.func38, Try.ntmps38
    go_wp2
    go_ret3
    exact ⟨rfl, rfl⟩
  · clear hb hc
    have hn : ((l.length : Int) != 512) = true := by rw [bne_iff_ne]; omega
    clear h
    go_enter Try.func38, Try.ntmps38
    go_wp2
    go_ret3
    exact ⟨rfl, rfl⟩

theorem rootB_length (g : Nat) (s : List UInt8) : (rootB g s).length = 512 := by unfold rootB; simp [putAt_length, zeros_length]
theorem sealB_length (k g : Nat) (s : List UInt8) : (sealB k g s).length = 512 := by unfold sealB seal0; simp [putAt_length, zeros_length]

set_option maxRecDepth 100000 in
set_option maxHeartbeats 1000000 in
theorem rootopen_full (v : Value) (l : List UInt8) (w : World) (h : l.length = 512) (hv : Bts w v l) :
    Calls Try.prog 38 #[v] w fun e w' => e = .returned (rootV (rootL l)) ∧ Ch (fun _ => False) w w' := by
  rcases hv with ⟨a, c0, rfl, rfl⟩ | ⟨b, off, cap, cs, e, fz, rfl, hcap, hb, hc⟩
  · simp at h
  · have HB := hid hb
    have HC := hid hc
    have hblt := blk_lt hb
    have hne : w.heap.size ≠ b := by omega
    have H := hid h
    rw [h] at hcap
    clear hb hc h
    rw [H.out]
    go_enter Try.func38, Try.ntmps38
    go_wp2_with fail
    obtain ⟨g, HG⟩ : ∃ k, Hid (rdl (l.take 8) = k) := ⟨_, hid rfl⟩
    obtain ⟨n, HN⟩ : ∃ k, Hid (rdl ((l.drop 8).take 2) = k) := ⟨_, hid rfl⟩
    obtain ⟨z, HZ⟩ : ∃ z, Hid (wrap64 (g : Nat) = z) := ⟨_, hid rfl⟩
    have hn : n < 65536 := by have := rdl_take_lt l 8 2; rw [HN.out] at this; omega
    have hg : g < 18446744073709551616 := by have := rdl_take_lt l 0 8; rw [List.drop_zero, HG.out] at this; omega
    have HT0 : Hid (Tk ((w.alloc (.cells #[.slice (some ⟨b, off, none⟩) 512 cap, .int .i64 0] 136)).drew) w.heap.size b off cap l 0) := hid ⟨cs, _, fz, by show (w.alloc _).heap[_]? = _; rw [heap_new, H.out]; rfl, heap_old HB.out _, HC.out, hne⟩
    have hch0 : Ch (fun _ => False) w (w.alloc (.cells #[.slice (some ⟨b, off, none⟩) 512 cap, .int .i64 0] 136)).drew := ((Ch.refl _ _).alloc _).drew
    have HQ := hid (take_tk 8 z w.heap.size b off cap l 0 8 _ rfl (by omega) (by rw [H.out]; omega) (by rw [H.out]; omega) HT0.out (by rw [List.drop_zero, HG.out, HZ.out]))
    have HN2 : Hid (wrap64 (rdl ((l.drop 8).take 2) : Nat) = (n : Int)) := hid (by rw [HN.out, wrap64_id (by omega) (by omega)])
    have hHG := hid hg
    clear hg
    go_region_with (first | (go_at_call 88; (with_reducible refine HQ.out.mono ?_); rintro e w3 ⟨rfl, hT3, hch3⟩; have HT3 := hid hT3; clear hT3) | (go_at_call 88; refine (take_tk 2 n w.heap.size b off cap l 8 2 _ rfl (by omega) (by rw [H.out]; omega) (by rw [H.out]; omega) HT3.out HN2.out).mono ?_; rintro e w4 ⟨rfl, hT4, hch4⟩; have HT4 := hid hT4; clear hT4))
    have hch : Ch (fun _ => False) w w4 := by
      have hx : ∀ k, k < w.heap.size → k = w.heap.size → False := by intro k h1 h2; omega
      exact ((hch0.then hch3 hx).then hch4 hx)
    have HCH := hid hch
    clear hch hch0 hch3 hch4 HT0 HT3 HQ HN2
    by_cases hn2 : n ≤ 490
    · have hbts : Bts w4 (.slice (some ⟨b, off + 10, none⟩) n (cap - 10)) ((l.drop 10).take n) := by
        obtain ⟨cs4, e4, fz4, h1, h2, h3, h4⟩ := HT4.out
        have hl : ((l.drop 10).take n).length = n := by simp [H.out]; omega
        refine .inr ⟨b, off + 10, cap - 10, cs4, e4, fz4, by rw [hl], by omega, h2, fun j hj => ?_⟩
        rw [hl] at hj
        rw [Nat.add_assoc, h3 (10 + j) (by rw [H.out]; omega)]
        simp
      obtain ⟨s, HS⟩ : ∃ s, Hid ((l.drop 10).take n = s) := ⟨_, hid rfl⟩
      have hsl : s.length ≤ 490 := by rw [← HS.out]; simp; omega
      rw [HS.out] at hbts
      have hstr := str_of hbts
      clear hbts
      have hc20 : ¬ cap = 10 := by omega
      go_wp2_with fail
      by_cases hgr : 1 ≤ g ∧ g ≤ 4611686018427387904
      · obtain ⟨hg1, hg2⟩ := hgr
        obtain rfl : z = (g : Int) := by rw [← HZ.out]; exact wrap64_id (by omega) (by omega)
        refine (root_ok g ⟨s.toArray⟩ _ hg1 hg2 (by simpa [ByteArray.size] using hsl)).mono ?_
        rintro e w5 ⟨ob, rfl, hob, hch5, hob2⟩
        have hq1 : Bts w5 (.slice (some ⟨ob, 0, none⟩) 512 512) (rootB g s) := by
          have := bts_cells (cs := []) (by simpa using hob) 512 (by rw [rootB_length]; omega)
          rwa [rootB_length] at this
        have hq2 : Bts w5 (.slice (some ⟨b, off, none⟩) 512 cap) l := by
          obtain ⟨cs4, e4, fz4, h1, h2, h3, h4⟩ := HT4.out
          exact .inr ⟨b, off, cap, cs4, e4, fz4, by rw [H.out], by rw [H.out]; exact hcap, hch5.keep h2 (fun h => h), h3⟩
        have HQ := hid (equal_any _ _ _ _ w5 hq1 hq2)
        have HCH5 := hid (HCH.out.trans hch5)
        clear hq1 hq2 hch5 hob hstr
        go_wp2_with fail
        refine HQ.out.mono ?_
        rintro e w6 ⟨rfl, rfl⟩
        by_cases hq : rootB g s = l
        · have hqb : (rootB g s == l) = true := by rw [hq]; exact beq_self_eq_true _
          have HO : Hid (rootL l = some (g, s)) := hid (by rw [rootL, if_pos ⟨H.out, by rw [HN.out]; exact hn2, by rw [HG.out]; exact ⟨hg1, hg2⟩, by rw [HN.out, HG.out, HS.out]; exact hq⟩, HN.out, HG.out, HS.out])
          clear hq
          go_wp2
          go_ret3
          exact ⟨by rw [HO.out]; rfl, HCH5.out⟩
        · have hqb : (rootB g s == l) = false := by simpa using hq
          have HO : Hid (rootL l = none) := hid (by rw [rootL, if_neg (by rw [HN.out, HG.out, HS.out]; exact fun h => hq h.2.2.2)])
          clear hq
          go_wp2
          go_ret3
          exact ⟨by rw [HO.out]; rfl, HCH5.out⟩
      · have hz : z < 1 ∨ 4611686018427387904 < z := by
          have := hHG.out
          rw [← HZ.out]; unfold wrap64; omega
        have HO : Hid (rootL l = none) := hid (by rw [rootL, if_neg (by rw [HG.out]; exact fun h => hgr h.2.2.1)])
        refine (root_bad z ⟨s.toArray⟩ _ hz).mono ?_
        rintro e w5 ⟨rfl, rfl⟩
        clear hz hgr
        go_wp2
        go_ret3
        exact ⟨by rw [HO.out]; rfl, HCH.out⟩
    · go_wp2
      go_ret3
      exact ⟨by rw [rootL, if_neg (by rw [HN.out]; omega)]; rfl, HCH.out⟩

end Go.Proofs.Ytadhibemadgcoaa
