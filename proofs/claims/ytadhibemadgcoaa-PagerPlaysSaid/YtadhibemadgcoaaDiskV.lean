/- The reference's disk: Write in one contract, Read, Flush. Conditions: as each theorem says. -/
import Derived.Test.YtadhibemadgcoaaDiskU
namespace Go.Proofs.Ytadhibemadgcoaa
open Go.RowKit

theorem rwrite_any {q : Nat} {d : Dk} {M : Nat → Prop} (a : Int) (x : Option Addr) (len cap : Nat) (b : List UInt8) (w : World) (h : RAt w q d M) (hst : d.steps ≤ 1000000) (hwt : d.wait.length ≤ 1000000)
    (hb : Bts w (.slice x len cap) b) (hbl : b.length = len) (hbM : ∀ k, (Value.slice x len cap).ownBlock = some k → ¬ M k) :
    Calls Try.prog 74 #[.pointer (some ⟨q, 0, none⟩), .int .i64 a, .slice x len cap] w fun e w' => e = .returned (.int .i64 ((writeD d a b).1 : Nat)) ∧
      ∃ M', RAt w' q (writeD d a b).2 M' ∧ Fresh w M M' ∧ Ch M w w' := by
  by_cases h1 : len = 512
  · subst h1
    by_cases h2 : 0 ≤ a ∧ a < d.L.length
    · by_cases h3 : d.gone = true ∨ d.fuse = 0
      · have e : writeD d a b = (9, { d with gone := true }) := by
          rw [writeD, if_neg (by omega), if_neg (fun h => h h2), stepD_no h3, if_pos rfl]
        rw [e]
        exact (rwrite_power a x cap w h h2 h3).mono fun e w' ⟨he, hD, hc⟩ => ⟨he, M, hD, Fresh.refl _ _, hc⟩
      · have e : writeD d a b = (0, { stepY d with wait := d.wait ++ [(a.toNat, b)] }) := by
          rw [writeD, if_neg (by omega), if_neg (fun h => h h2), stepD_yes h3, if_neg (by simp)]
        rw [e]
        obtain ⟨n, rfl⟩ := Int.eq_ofNat_of_zero_le h2.1
        exact rwrite_ok n x cap b w h (by omega) h3 hst hwt hb hbl hbM
    · have e : writeD d a b = (3, d) := by rw [writeD, if_neg (by omega), if_pos h2]
      rw [e]
      exact (rwrite_range a x cap w h h2).mono fun e w' ⟨he, hw⟩ => ⟨he, M, hw ▸ h, Fresh.refl _ _, hw ▸ Ch.refl _ _⟩
  · have e : writeD d a b = (2, d) := by rw [writeD, if_pos (by omega)]
    rw [e]
    exact (rwrite_arg a x len cap w h h1).mono fun e w' ⟨he, hw⟩ => ⟨he, M, hw ▸ h, Fresh.refl _ _, hw ▸ Ch.refl _ _⟩

theorem rread_range {q : Nat} {d : Dk} {M : Nat → Prop} (a : Int) (w : World) (h : RAt w q d M) (hr : ¬ (0 ≤ a ∧ a < d.L.length)) :
    Calls Try.prog 92 #[.pointer (some ⟨q, 0, none⟩), .int .i64 a] w fun e w' => e = .returned (.tuple #[.string ⟨#[]⟩, .int .i64 3]) ∧ w = w' := by
  obtain ⟨Lv, Wv, h1, _⟩ := h
  have hc := cell_blk h1.hp 0
  simp at hc
  obtain ⟨la, lc, rfl⟩ := owns_form h1.hL
  clear h1
  by_cases h0 : a < 0
  · clear hr
    go_enter Try.func92, Try.ntmps92
    go_wp2
    go_ret2
    exact ⟨rfl, rfl⟩
  · have h1 : ¬ a < d.L.length := fun h => hr ⟨by omega, h⟩
    clear hr
    go_enter Try.func92, Try.ntmps92
    go_wp2
    go_ret2
    exact ⟨rfl, rfl⟩
theorem rread_power {q : Nat} {d : Dk} {M : Nat → Prop} (a : Int) (w : World) (h : RAt w q d M) (hr : 0 ≤ a ∧ a < d.L.length) (hg : d.gone = true) :
    Calls Try.prog 92 #[.pointer (some ⟨q, 0, none⟩), .int .i64 a] w fun e w' => e = .returned (.tuple #[.string ⟨#[]⟩, .int .i64 9]) ∧ w = w' := by
  obtain ⟨Lv, Wv, h1, _⟩ := h
  have hc := cell_blk h1.hp 0
  have hc4 := cell_blk h1.hp 4
  simp at hc hc4
  rw [hg] at hc4
  obtain ⟨la, lc, rfl⟩ := owns_form h1.hL
  have r1 := hr.1
  have r2 := hr.2
  clear h1 hr hg
  go_enter Try.func92, Try.ntmps92
  go_wp2
  go_ret2
  exact ⟨rfl, rfl⟩

/-- Where a row's cells lie. -/
theorem owns_cells {w : World} {base e size n : Nat} {v : Value} {xs : List Value} (h : w.ownsRow base e size v n xs) (hn : 0 < n) :
    ∃ g cap, v = .slice (some ⟨g, 0, none⟩) n cap ∧ g < w.heap.size ∧ ∀ (j : Nat) (u : Value), xs[j]? = some u → w.cell? ⟨g, j, none⟩ = some u := by
  obtain ⟨g, cap, rfl, hg⟩ := slice_of_owns h hn
  have hc := h.cells (g := g) rfl
  exact ⟨g, cap, rfl, hg, fun j u hu => by have := hc j u hu; rw [add_plain, Nat.zero_add] at this; exact this⟩

set_option maxRecDepth 20000 in
set_option maxHeartbeats 1000000 in
theorem rread_ok {q : Nat} {d : Dk} {M : Nat → Prop} (a : Nat) (w : World) (h : RAt w q d M) (hr : a < d.L.length) (hg : d.gone = false) (hwt : d.wait.length ≤ 1000000) :
    Calls Try.prog 92 #[.pointer (some ⟨q, 0, none⟩), .int .i64 a] w fun e w' => e = .returned (.tuple #[strV (readW d.wait a (d.L.getD a [])), .int .i64 0]) ∧ w = w' := by
  obtain ⟨Lv, Wv, h1, _⟩ := h
  have hc := cell_blk h1.hp 0
  have hc1 := cell_blk h1.hp 1
  have hc4 := cell_blk h1.hp 4
  simp at hc hc1 hc4
  rw [hg] at hc4
  obtain ⟨gl, lc, rfl, _, hcl⟩ := owns_cells h1.hL (by omega)
  obtain ⟨wa, wc, hwv⟩ := owns_form h1.hW
  obtain ⟨l, HL⟩ : ∃ l, Hid (d.L[a]? = some l) := ⟨d.L[a]'hr, hid (List.getElem?_eq_getElem _)⟩
  have hcl0 := hcl a (strV l) (by rw [List.getElem?_map, HL.out]; rfl)
  have HLd : Hid (d.L.getD a [] = l) := hid (by rw [List.getD, HL.out]; rfl)
  have HW := hid h1.hW
  have HWV := hid hwv
  have hr1 : (a : Int) < (d.L.length : Int) := by omega
  have hn2 := h1.n2
  rw [hwv] at hc1
  clear h1 hg hcl hwv hr
  rw [HLd.out]
  unfold strV at hcl0
  go_enter Try.func92, Try.ntmps92
  go_wp2
  go_loop [6, 7] (fun s i => ∃ j : Nat, i = .int .i64 (j : Int) ∧ j ≤ d.wait.length ∧ s = strV (readW (d.wait.take j) a l)) (fun _ i => d.wait.length - (intOf i).toNat)
  case atStart => exact ⟨0, rfl, Nat.zero_le _, rfl⟩
  case round =>
    obtain ⟨j, rfl, hj, rfl⟩ := hrel
    by_cases hlt : j < d.wait.length
    · obtain ⟨x, HX⟩ : ∃ x, Hid (d.wait[j]? = some x) := ⟨d.wait[j]'hlt, hid (List.getElem?_eq_getElem _)⟩
      obtain ⟨gw, wc2, he, hgz, hcw⟩ := owns_cells HW.out (by omega)
      rw [HWV.out] at he
      simp at he
      obtain ⟨rfl, rfl⟩ := he
      obtain ⟨k1, k2⟩ := rwCells_get d.wait j x HX.out
      have e1 := hcw _ _ k1
      have e2 := hcw _ _ k2
      unfold strV at e2
      have HN : Hid (d.wait.take (j + 1) = d.wait.take j ++ [x]) := hid (by rw [List.take_add_one, HX.out]; rfl)
      clear hcw k1 k2
      by_cases hq : x.1 = a
      · have hqb : ((x.1 : Int) == (a : Int)) = true := by rw [beq_iff_eq]; omega
        have HE : Hid (readW (d.wait.take (j + 1)) a l = x.2) := hid (by rw [HN.out, readW_snoc, if_pos hq])
        clear hq
        go_wp2
        go_round
        case rel => exact ⟨j + 1, by go_num, by omega, by rw [HE.out]; rfl⟩
        case measure => simp [intOf]; omega
      · have hqb : ((x.1 : Int) == (a : Int)) = false := by rw [beq_eq_false_iff_ne]; omega
        have HE : Hid (readW (d.wait.take (j + 1)) a l = readW (d.wait.take j) a l) := hid (by rw [HN.out, readW_snoc, if_neg hq])
        clear hq
        go_wp2
        go_round
        case rel => exact ⟨j + 1, by go_num, by omega, by rw [HE.out]⟩
        case measure => simp [intOf]; omega
    · obtain rfl : j = d.wait.length := by omega
      go_wp2
      go_ret2
      exact ⟨rfl, rfl⟩

theorem rdread_any {q : Nat} {d : Dk} {M : Nat → Prop} (a : Int) (w : World) (h : RAt w q d M) (hwt : d.wait.length ≤ 1000000) :
    Calls Try.prog 92 #[.pointer (some ⟨q, 0, none⟩), .int .i64 a] w fun e w' => e = .returned (.tuple #[strV (readD d a).2, .int .i64 ((readD d a).1 : Nat)]) ∧ w = w' := by
  by_cases h2 : 0 ≤ a ∧ a < d.L.length
  · by_cases h3 : d.gone = true
    · have e : readD d a = (9, []) := by rw [readD, if_neg (fun h => h h2), if_pos h3]
      rw [e]
      exact rread_power a w h h2 h3
    · have e : readD d a = (0, readW d.wait a.toNat (d.L.getD a.toNat [])) := by rw [readD, if_neg (fun h => h h2), if_neg h3]
      rw [e]
      obtain ⟨n, rfl⟩ := Int.eq_ofNat_of_zero_le h2.1
      exact rread_ok n w h (by omega) (by simpa using h3) hwt
  · have e : readD d a = (3, []) := by rw [readD, if_pos h2]
    rw [e]
    exact rread_range a w h h2

/-- A cell of a row written. -/
theorem owns_set {w : World} {base e n : Nat} {g cap : Nat} {xs : List Value} (h : w.ownsRow base e 1 (.slice (some ⟨g, 0, none⟩) n cap) n xs) (i : Nat) (u : Value) (_hi : i < n) :
    (w.setCell ⟨g, i, none⟩ u).ownsRow base e 1 (.slice (some ⟨g, 0, none⟩) n cap) n (xs.set i u) := by
  refine ⟨by rw [List.length_set]; exact h.1, ?_⟩
  rcases h.2 with ⟨h0, _⟩ | ⟨g', cap', cur, h0, hb, hg, hc, hm, hs, ht⟩
  · cases h0
  · cases h0
    refine .inr ⟨g, cap, _, rfl, hb, heap_set hg i u, hc, hm, by simpa using hs, ?_⟩
    rw [Array.toList_setIfInBounds, List.take_set, ht]
theorem RIn.sector {w : World} {q g cap : Nat} {Wv : Value} {d : Dk} (h : RIn w q (.slice (some ⟨g, 0, none⟩) d.L.length cap) Wv d) (i : Nat) (b : List UInt8) (hb : b.length = 512) (hi : i < d.L.length) :
    RIn (w.setCell ⟨g, i, none⟩ (strV b)) q (.slice (some ⟨g, 0, none⟩) d.L.length cap) Wv { d with L := d.L.set i b } := by
  have hgq : q ≠ g := fun e => h.q1 (by rw [e]; rfl)
  have hgw : ∀ k, Wv.ownBlock = some k → k ≠ g := fun k hk e => h.q3 g rfl (e ▸ hk)
  refine ⟨by simpa using h.n2, h.f1, h.f2, heap_set_ne h.hp hgq _, ?_, ownsRow_frame h.hW (fun k hk => Below.heap_setCell _ _ _ _ (hgw k hk)), ?_, ?_, h.q1, h.q2, h.q3⟩
  · have := owns_set h.hL i (strV b) hi
    rw [List.length_set, List.map_set]
    exact this
  · intro l hl
    rcases List.mem_or_eq_of_mem_set hl with h1 | h1
    · exact h.secs l h1
    · rw [h1]; exact hb
  · intro x hx
    rw [List.length_set]
    exact h.wait x hx

end Go.Proofs.Ytadhibemadgcoaa
