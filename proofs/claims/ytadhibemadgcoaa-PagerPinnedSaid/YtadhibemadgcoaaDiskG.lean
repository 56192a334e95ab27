/- Package disk: Read. Conditions: a disk as New makes it, or none; not more than a million writes that wait. -/
import Derived.Test.YtadhibemadgcoaaDiskF
namespace Go.Proofs.Ytadhibemadgcoaa
open Go.RowKit

theorem waitCells_get (ws : List (Nat × Value × List UInt8)) : ∀ (i : Nat) (x : Nat × Value × List UInt8), ws[i]? = some x → (waitCells ws)[i * 2]? = some (.int .i64 (x.1 : Int)) ∧ (waitCells ws)[i * 2 + 1]? = some x.2.1 := by
  induction ws with
  | nil => intro i x h; simp at h
  | cons y ws ih =>
    intro i x h
    cases i with
    | zero => simp at h; subst h; simp [waitCells]
    | succ i =>
      have h2 : ws[i]? = some x := by simpa using h
      have := ih i x h2
      have e : waitCells (y :: ws) = .int .i64 (y.1 : Int) :: y.2.1 :: waitCells ws := by simp [waitCells]
      rw [e]
      refine ⟨?_, ?_⟩
      · rw [show (i + 1) * 2 = (i * 2 + 1) + 1 by omega]; simpa using this.1
      · rw [show (i + 1) * 2 + 1 = (i * 2 + 1 + 1) + 1 by omega]; simpa using this.2
/-- The cells of a write that waits. -/
theorem wait_cells {w : World} {wv : Value} {ws : List (Nat × Value × List UInt8)} (h : w.ownsRow 0 124 2 wv ws.length (waitCells ws)) {i : Nat} {x : Nat × Value × List UInt8} (hx : ws[i]? = some x) :
    ∃ g cap, wv = .slice (some ⟨g, 0, none⟩) ws.length cap ∧ w.cell? ⟨g, i * 2, none⟩ = some (.int .i64 (x.1 : Int)) ∧ w.cell? ⟨g, i * 2 + 1, none⟩ = some x.2.1 := by
  have hi := (List.getElem?_eq_some_iff.1 hx).1
  obtain ⟨g, cap, rfl, _⟩ := slice_of_owns h (by omega)
  have hc := h.cells (g := g) rfl
  have := waitCells_get ws i x hx
  refine ⟨g, cap, rfl, ?_, ?_⟩
  · have := hc _ _ this.1; rw [add_plain, Nat.zero_add] at this; exact this
  · have := hc _ _ this.2; rw [add_plain, Nat.zero_add] at this; exact this

theorem readW_snoc (l : List (Nat × List UInt8)) (x : Nat × List UInt8) (a : Nat) (s : List UInt8) : readW (l ++ [x]) a s = if x.1 = a then x.2 else readW l a s := by simp [readW]

theorem read_none (a : Int) (w : World) : Calls Try.prog 27 #[.pointer none, .int .i64 a] w fun e w' => e = .returned (.tuple #[.slice none 0 0, .int .i64 1]) ∧ w = w' := by
  go_enter Try.func27, Try.ntmps27
  go_wp2_with (go_at_call 78; refine (made_none _).mono ?_; rintro e w' ⟨rfl, rfl⟩)
  go_ret2
  exact ⟨rfl, rfl⟩

theorem read_range {p : Nat} {d : Dk} {M F : Nat → Prop} (a : Int) (w : World) (h : DiskAt w p d M F) (hr : ¬ (0 ≤ a ∧ a < d.L.length)) :
    Calls Try.prog 27 #[.pointer (some ⟨p, 0, none⟩), .int .i64 a] w fun e w' => e = .returned (.tuple #[.slice none 0 0, .int .i64 3]) ∧ w = w' := by
  have HM := hid (made_any w h)
  obtain ⟨sb, rb, bs, wv, ws, h1, _⟩ := h
  have HT := hid (there_any a w h1.n2 h1.hs)
  rw [decide_eq_false hr] at HT
  have hc := cell_blk h1.hp 0
  simp at hc
  clear h1 hr
  go_enter Try.func27, Try.ntmps27
  go_wp2_with (first | (go_at_call 78; refine HM.out.mono ?_; rintro e w' ⟨rfl, rfl⟩) | (go_at_call 82; refine HT.out.mono ?_; rintro e w' ⟨rfl, rfl⟩))
  go_ret2
  exact ⟨rfl, rfl⟩

theorem read_power {p : Nat} {d : Dk} {M F : Nat → Prop} (a : Int) (w : World) (h : DiskAt w p d M F) (hr : 0 ≤ a ∧ a < d.L.length) (hg : d.gone = true) :
    Calls Try.prog 27 #[.pointer (some ⟨p, 0, none⟩), .int .i64 a] w fun e w' => e = .returned (.tuple #[.slice none 0 0, .int .i64 9]) ∧ w = w' := by
  have HM := hid (made_any w h)
  obtain ⟨sb, rb, bs, wv, ws, h1, _⟩ := h
  have HT := hid (there_any a w h1.n2 h1.hs)
  rw [decide_eq_true hr] at HT
  have hc := cell_blk h1.hp 0
  have hc4 := cell_blk h1.hp 4
  simp at hc hc4
  rw [hg] at hc4
  clear h1 hr hg
  go_enter Try.func27, Try.ntmps27
  go_wp2_with (first | (go_at_call 78; refine HM.out.mono ?_; rintro e w' ⟨rfl, rfl⟩) | (go_at_call 82; refine HT.out.mono ?_; rintro e w' ⟨rfl, rfl⟩))
  go_ret2
  exact ⟨rfl, rfl⟩

set_option maxRecDepth 20000 in
set_option maxHeartbeats 1000000 in
theorem read_ok {p : Nat} {d : Dk} {M F : Nat → Prop} (a : Nat) (w : World) (h : DiskAt w p d M F) (hr : a < d.L.length) (hg : d.gone = false) (hwt : d.wait.length ≤ 1000000) :
    Calls Try.prog 27 #[.pointer (some ⟨p, 0, none⟩), .int .i64 a] w fun e w' => ∃ g cap, e = .returned (.tuple #[.slice (some ⟨g, 0, none⟩) 512 cap, .int .i64 0]) ∧
      SecIn w' (g, cap) (readW d.wait a (d.L.getD a [])) ∧ Ch (fun _ => False) w w' ∧ w.heap.size ≤ g := by
  have HM := hid (made_any w h)
  obtain ⟨sb, rb, bs, wv, ws, h1, h2, h3, h4, h5⟩ := h
  have HT := hid (there_any (a : Int) w h1.n2 h1.hs)
  rw [decide_eq_true (show 0 ≤ (a : Int) ∧ (a : Int) < d.L.length by omega)] at HT
  have hc := cell_blk h1.hp 0
  have hc1 := cell_blk h1.hp 1
  have hc4 := cell_blk h1.hp 4
  have hcs := cell_blk h1.hs 0
  simp at hc hc1 hc4 hcs
  rw [hg] at hc4
  have hlen : ws.length ≤ 1000000 := by rw [h1.hwl, List.length_map] at hwt; exact hwt
  obtain ⟨ad, wcap, hwv⟩ : ∃ ad cap, wv = .slice ad ws.length cap := by
    rcases h1.hw.2 with ⟨rfl, h0⟩ | ⟨g, cap, cur, rfl, _⟩
    · exact ⟨none, 0, by rw [h0]⟩
    · exact ⟨_, _, rfl⟩
  rw [hwv] at hc1
  have H1 := hid h1
  have HWV := hid hwv
  have HA := hid hr
  clear h1 h2 h3 h4 h5 hg hwt hwv
  obtain ⟨n, HN⟩ : ∃ n, Hid (d.L.length = n) := ⟨_, hid rfl⟩
  rw [HN.out] at hcs HA
  obtain ⟨R, HRR⟩ : ∃ R, Hid (readW d.wait a (d.L.getD a []) = R) := ⟨_, hid rfl⟩
  rw [HRR.out]
  go_enter Try.func27, Try.ntmps27
  go_wp2_with (first | (go_at_call 78; refine HM.out.mono ?_; rintro e w' ⟨rfl, rfl⟩) | (go_at_call 82; refine HT.out.mono ?_; rintro e w' ⟨rfl, rfl⟩))
  go_loop [6] (fun i => ∃ j : Nat, i = .int .i64 ((j : Int) - 1) ∧ j ≤ ws.length ∧ Hid (R = readW (d.wait.take j) a (d.L.getD a []))) (fun i => (intOf i + 1).toNat)
  case atStart => exact ⟨ws.length, rfl, Nat.le_refl _, hid (by rw [← HRR.out, List.take_of_length_le]; rw [H1.out.hwl]; simp)⟩
  case round =>
    obtain ⟨j, rfl, hj, HR⟩ := hrel
    have hpz := blk_lt H1.out.hp
    have hsz := blk_lt H1.out.hs
    have hrz := blk_lt H1.out.hr
    cases j with
    | zero =>
      obtain ⟨x, HX⟩ : ∃ x, Hid (bs[a]? = some x) := ⟨bs[a]'(by rw [H1.out.hb]; exact hr), hid (List.getElem?_eq_getElem _)⟩
      obtain ⟨l, HLl⟩ : ∃ l, Hid (d.L[a]? = some l) := ⟨d.L[a]'hr, hid (List.getElem?_eq_getElem _)⟩
      have hsec := H1.out.hl a x l HX.out HLl.out
      have hcr := cell_blk H1.out.hr a
      rw [List.getElem?_toArray, List.getElem?_map, HX.out] at hcr
      simp only [Option.map_some, secV] at hcr
      obtain ⟨v', w2, hrun, hown, hch2⟩ := run_clone_bts (P := Try.prog) w 35 35 5 Try.underlying35 Try.info5 (secV x) l hsec.bts (by rw [hsec.1]; omega)
      rw [hsec.1] at hown
      obtain ⟨y, rfl, hy, hy2⟩ := sec_of_owns hown hsec.1
      have HRun := hid hrun
      unfold secV at HRun
      have hA : (a : Int) < (n : Int) := by have := HA.out; omega
      have fin : Hid (SecIn w2 (y.1, y.2) R ∧ Ch (fun _ => False) w w2 ∧ w.heap.size ≤ y.1) := hid ⟨by
        rw [HR.out, List.take_zero, List.getD, HLl.out]; exact hy, hch2, hy2⟩
      clear hrun hown hy hy2 hch2 hsec
      go_wp2_with (at_builtin; refine wpList_append_run rfl (.tmp 54) (.tmp 63) 35 35 rfl _ _ HRun.out ?_)
      go_ret2
      exact ⟨y.1, y.2, rfl, fin.out⟩
    | succ j =>
      obtain ⟨x, HX⟩ : ∃ x, Hid (ws[j]? = some x) := ⟨ws[j]'(by omega), hid (List.getElem?_eq_getElem _)⟩
      obtain ⟨g, cap, hg, k1, k2⟩ := wait_cells H1.out.hw HX.out
      rw [HWV.out] at hg
      simp at hg
      obtain ⟨rfl, rfl⟩ := hg
      have hgz := World.block_lt_of_cell? w _ k1
      have hx := H1.out.hwb x (List.mem_of_getElem? HX.out)
      have hw1 : Hid (d.wait.take (j + 1) = d.wait.take j ++ [(x.1, x.2.2)]) := hid (by
        rw [List.take_add_one, H1.out.hwl, List.getElem?_map, HX.out]; rfl)
      by_cases hq : x.1 = a
      · have hqb : ((x.1 : Int) == (a : Int)) = true := by rw [beq_iff_eq]; omega
        obtain ⟨v', w2, hrun, hown, hch2⟩ := run_clone_bts (P := Try.prog) w 35 35 5 Try.underlying35 Try.info5 x.2.1 x.2.2 hx.1 (by rw [hx.2.1]; omega)
        rw [hx.2.1] at hown
        obtain ⟨y, rfl, hy, hy2⟩ := sec_of_owns hown hx.2.1
        have HRun := hid hrun
        unfold secV at HRun
        have fin : Hid (SecIn w2 (y.1, y.2) R ∧ Ch (fun _ => False) w w2 ∧ w.heap.size ≤ y.1) := hid ⟨by
          rw [HR.out, hw1.out, readW_snoc, if_pos hq]; exact hy, hch2, hy2⟩
        clear hrun hown hy hy2 hch2 hq hx
        go_wp2_with (at_builtin; refine wpList_append_run rfl (.tmp 44) (.tmp 52) 35 35 rfl _ _ HRun.out ?_)
        go_ret2
        exact ⟨y.1, y.2, rfl, fin.out⟩
      · have hqb : ((x.1 : Int) == (a : Int)) = false := by rw [beq_eq_false_iff_ne]; omega
        have HNext : Hid (R = readW (d.wait.take j) a (d.L.getD a [])) := hid (by
          rw [HR.out, hw1.out, readW_snoc, if_neg hq])
        clear hq hx hw1
        go_wp2
        go_round
        case rel => exact ⟨j, by go_num, by omega, HNext⟩
        case measure => simp [intOf]

theorem read_any {p : Nat} {d : Dk} {M F : Nat → Prop} (a : Int) (w : World) (h : DiskAt w p d M F) (hwt : d.wait.length ≤ 1000000) :
    Calls Try.prog 27 #[.pointer (some ⟨p, 0, none⟩), .int .i64 a] w fun e w' => ∃ v, e = .returned (.tuple #[v, .int .i64 ((readD d a).1 : Nat)]) ∧
      Bts w' v (readD d a).2 ∧ Ch (fun _ => False) w w' ∧ (∀ k, v.ownBlock = some k → w.heap.size ≤ k) ∧ ∃ x cap, v = .slice x (readD d a).2.length cap := by
  by_cases h2 : 0 ≤ a ∧ a < d.L.length
  · by_cases h3 : d.gone = true
    · have e : readD d a = (9, []) := by rw [readD, if_neg (fun h => h h2), if_pos h3]
      rw [e]
      exact (read_power a w h h2 h3).mono fun e w' ⟨he, hw⟩ => ⟨.slice none 0 0, he, .inl ⟨none, 0, rfl, rfl⟩, hw ▸ Ch.refl (fun _ => False) w, fun k hk => (by cases hk), none, 0, rfl⟩
    · have e : readD d a = (0, readW d.wait a.toNat (d.L.getD a.toNat [])) := by rw [readD, if_neg (fun h => h h2), if_neg h3]
      rw [e]
      obtain ⟨n, rfl⟩ := Int.eq_ofNat_of_zero_le h2.1
      refine (read_ok n w h (by omega) (by simpa using h3) hwt).mono fun e w' ⟨g, cap, he, hs, hc, hg⟩ => ⟨.slice (some ⟨g, 0, none⟩) 512 cap, he, hs.bts, hc, fun k hk => (by cases hk; exact hg), some ⟨g, 0, none⟩, cap, ?_⟩
      rw [show (0, readW d.wait (Int.toNat n) (d.L.getD (Int.toNat n) [])).2.length = 512 from hs.1]
  · have e : readD d a = (3, []) := by rw [readD, if_pos h2]
    rw [e]
    exact (read_range a w h h2).mono fun e w' ⟨he, hw⟩ => ⟨.slice none 0 0, he, .inl ⟨none, 0, rfl, rfl⟩, hw ▸ Ch.refl (fun _ => False) w, fun k hk => (by cases hk), none, 0, rfl⟩

end Go.Proofs.Ytadhibemadgcoaa
