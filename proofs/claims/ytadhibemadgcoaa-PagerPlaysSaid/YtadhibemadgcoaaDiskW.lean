/- The reference's disk: Flush. Conditions: as each theorem says. -/
import Derived.Test.YtadhibemadgcoaaDiskV
namespace Go.Proofs.Ytadhibemadgcoaa
open Go.RowKit

theorem rflush_power {q : Nat} {d : Dk} {M : Nat → Prop} (w : World) (h : RAt w q d M) (hg : d.gone = true ∨ d.fuse = 0) :
    Calls Try.prog 93 #[.pointer (some ⟨q, 0, none⟩)] w fun e w' => e = .returned (.int .i64 9) ∧ RAt w' q { d with gone := true } M ∧ Ch M w w' := by
  have HS := hid (rstep_no w h hg)
  clear h hg
  go_enter Try.func93, Try.ntmps93
  go_wp2_with fail
  refine HS.out.mono ?_
  rintro e w' ⟨rfl, h1, h2⟩
  have H1 := hid h1
  have H2 := hid h2
  clear h1 h2
  go_wp2_with fail
  go_ret
  exact ⟨rfl, H1.out, H2.out⟩

set_option maxRecDepth 20000 in
set_option maxHeartbeats 2000000 in
theorem rflush_ok {q : Nat} {d : Dk} {M : Nat → Prop} (w : World) (h : RAt w q d M) (hg : ¬ (d.gone = true ∨ d.fuse = 0)) (hst : d.steps ≤ 1000000) (hwt : d.wait.length ≤ 1000000) :
    Calls Try.prog 93 #[.pointer (some ⟨q, 0, none⟩)] w fun e w' => e = .returned (.int .i64 0) ∧ RAt w' q { stepY d with L := applyW d.wait d.L, wait := [] } M ∧ Ch M w w' := by
  have HS := hid (rstep_yes w h hst hg)
  clear h hg hst
  obtain ⟨D, HD⟩ : ∃ D, Hid (stepY d = D) := ⟨_, hid rfl⟩
  have HDw : Hid (d.wait = D.wait ∧ d.L = D.L) := hid (by rw [← HD.out]; exact ⟨rfl, rfl⟩)
  rw [HD.out] at HS ⊢
  rw [HDw.out.1] at hwt ⊢
  rw [HDw.out.2]
  go_enter Try.func93, Try.ntmps93
  go_wp2_with fail
  refine HS.out.mono ?_
  rintro e w1 ⟨rfl, hR, hch⟩
  have HCh := hid hch
  obtain ⟨Lv, Wv, h1, h2, h3, h4, h5⟩ := hR
  obtain ⟨wa, wc, rfl⟩ := owns_form h1.hW
  obtain ⟨la, lc, rfl⟩ := owns_form h1.hL
  have H2 := hid h2
  have H3 := hid h3
  have H4 := hid h4
  have H5 := hid h5
  have HI : Hid (RIn w1 q (.slice la D.L.length lc) (.slice wa D.wait.length wc) D) := hid h1
  have HWt := hid h1.wait
  obtain ⟨nl, HNl⟩ : ∃ n, Hid (D.L.length = n) := ⟨_, hid rfl⟩
  rw [HNl.out] at HI H3
  have hn2 : nl ≤ 4096 := by have := h1.n2; rw [HNl.out] at this; exact this
  have hc0 := cell_blk h1.hp 1
  simp at hc0
  clear h1 h2 h3 h4 h5 hch HS
  go_wp2_with fail
  clear hc0
  go_loopw [3] (fun i wr => ∃ j : Nat, i = .int .i64 (j : Int) ∧ j ≤ D.wait.length ∧ Hid (RIn wr q (.slice la nl lc) (.slice wa D.wait.length wc) { D with L := applyW (D.wait.take j) D.L }) ∧ Hid (Ch M w1 wr)) (fun i _ => D.wait.length - (intOf i).toNat)
  case atStart => exact ⟨0, rfl, Nat.zero_le _, HI, hid (Ch.refl _ _)⟩
  case round =>
    obtain ⟨j, rfl, hj, HI, HC⟩ := hrel
    have hc0 := cell_blk HI.out.hp 0
    have hc1 := cell_blk HI.out.hp 1
    have hf1 := frozen_blk HI.out.hp 1
    simp at hc0 hc1
    have HLn : Hid ((applyW (D.wait.take j) D.L).length = nl) := hid (by rw [applyW_length, HNl.out])
    by_cases hlt : j < D.wait.length
    · obtain ⟨x, HX⟩ : ∃ x, Hid (D.wait[j]? = some x) := ⟨D.wait[j]'hlt, hid (List.getElem?_eq_getElem _)⟩
      have hx := HWt.out x (List.mem_of_getElem? HX.out)
      rw [HNl.out] at hx
      obtain ⟨hx1, hx2⟩ := hx
      obtain ⟨gw, wc2, he, hgz, hcw⟩ := owns_cells HI.out.hW (by show 0 < D.wait.length; omega)
      simp at he
      obtain ⟨rfl, rfl⟩ := he
      obtain ⟨k1, k2⟩ := rwCells_get D.wait j x HX.out
      have e1 := hcw _ _ k1
      have e2 := hcw _ _ k2
      unfold strV at e2
      have hLo := HI.out.hL
      have hLe : ({ D with L := applyW (D.wait.take j) D.L } : Dk).L.length = nl := HLn.out
      rw [hLe] at hLo
      obtain ⟨gl, lc2, he2, hglz, hcl⟩ := owns_cells hLo (by omega)
      simp at he2
      obtain ⟨rfl, rfl⟩ := he2
      have hfl : wr.frozen? ⟨gl, x.1, none⟩ = false := by
        rcases hLo.2 with ⟨h0, _⟩ | ⟨g', cap', cur, h0, hb, hg, _⟩
        · cases h0
        · cases h0; exact frozen_blk hg _
      obtain ⟨l0, hl0⟩ : ∃ l0, (applyW (D.wait.take j) D.L)[x.1]? = some l0 := ⟨_, List.getElem?_eq_getElem (by rw [HLn.out]; exact hx2)⟩
      have hcl0 := hcl x.1 (strV l0) (by show ((applyW (D.wait.take j) D.L).map strV)[x.1]? = _; rw [List.getElem?_map, hl0]; rfl)
      have hxn : (x.1 : Int) < (nl : Int) := by omega
      have hx0 : (0 : Int) ≤ (x.1 : Int) := Int.natCast_nonneg _
      have hj0 : (0 : Int) ≤ (j : Int) := Int.natCast_nonneg _
      have hj1 : (j : Int) < (D.wait.length : Int) := by omega
      have HN : Hid (applyW (D.wait.take (j + 1)) D.L = (applyW (D.wait.take j) D.L).set x.1 x.2) := hid (by rw [List.take_add_one, HX.out, Option.toList_some, applyW_snoc])
      have HNext : Hid (∀ w', w' = wr.drew.setCell ⟨gl, x.1, none⟩ (strV x.2) → RIn w' q (.slice (some ⟨gl, 0, none⟩) nl lc) (.slice (some ⟨gw, 0, none⟩) D.wait.length wc) { D with L := applyW (D.wait.take (j + 1)) D.L } ∧ Ch M w1 w') := hid (by
        rintro w' rfl
        rw [HN.out]
        have hI2 := HI.out.frame (w' := wr.drew) rfl (fun _ _ => rfl) (fun _ _ => rfl)
        have := RIn.sector (d := { D with L := applyW (D.wait.take j) D.L }) (g := gl) (cap := lc) (by rw [hLe]; exact hI2) x.1 x.2 hx1 (by rw [hLe]; exact hx2)
        rw [hLe] at this
        exact ⟨this, HC.out.drew.setCell (fun _ => H3.out gl rfl) _⟩)
      clear hcw hcl k1 k2 hLo hLe hl0 hf1 hc0 hc1
      have hc0 := cell_blk HI.out.hp 0
      have hc1 := cell_blk HI.out.hp 1
      simp at hc0 hc1
      go_wp2
      refine region_tail 21 (by kernel_rfl) (by kernel_rfl) ?_
      simp only [List.take_succ_cons, List.take_zero, List.drop_succ_cons, List.drop_zero]
      repeat still_step
      refine wpStill_nil ?_
      go_wp2
      go_roundw
      case rel => exact ⟨j + 1, by go_num, by omega, hid (HNext.out _ rfl).1, hid (HNext.out _ rfl).2⟩
      case measure => simp [intOf]; omega
    · obtain rfl : j = D.wait.length := by omega
      have fin : Hid (∀ w', w' = wr.setCell ⟨q, 1, none⟩ (.slice none 0 0) → RAt w' q { D with L := applyW D.wait D.L, wait := [] } M ∧ Ch M w w') := hid (by
        rintro w' rfl
        have hI := HI.out
        rw [List.take_length] at hI
        have hz := HC.out.size
        refine ⟨⟨_, .slice none 0 0, ⟨hI.n2, hI.f1, hI.f2, by rw [heap_set hI.hp 1 _]; rfl, ownsRow_frame hI.hL (fun k hk => Below.heap_setCell _ _ _ _ (fun e => hI.q1 (by rw [hk, e]))), ⟨rfl, .inl ⟨rfl, rfl⟩⟩, hI.secs, by simp, hI.q1, by simp [Value.ownBlock], fun k _ => by simp [Value.ownBlock]⟩,
          H2.out, H3.out, by simp [Value.ownBlock], fun k hk => ?_⟩, (HCh.out.then HC.out (fun _ _ h => h)).setCell (fun _ => H2.out) _⟩
        have := H5.out k hk
        simp [World.setCell]; omega)
      go_wp2
      go_ret
      exact ⟨rfl, fin.out _ rfl⟩

theorem rflush_any {q : Nat} {d : Dk} {M : Nat → Prop} (w : World) (h : RAt w q d M) (hst : d.steps ≤ 1000000) (hwt : d.wait.length ≤ 1000000) :
    Calls Try.prog 93 #[.pointer (some ⟨q, 0, none⟩)] w fun e w' => e = .returned (.int .i64 ((flushD d).1 : Nat)) ∧ RAt w' q (flushD d).2 M ∧ Ch M w w' := by
  by_cases hg : d.gone = true ∨ d.fuse = 0
  · have e : flushD d = (9, { d with gone := true }) := by rw [flushD, stepD_no hg, if_pos rfl]
    rw [e]
    exact rflush_power w h hg
  · have e : flushD d = (0, { stepY d with L := applyW d.wait d.L, wait := [] }) := by rw [flushD, stepD_yes hg, if_neg (by simp)]
    rw [e]
    exact rflush_ok w h hg hst hwt

end Go.Proofs.Ytadhibemadgcoaa
