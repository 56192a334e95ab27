/- Package disk: Flush. Conditions: a disk as New makes it, or none; not more than a million steps and writes that wait. -/
import Derived.Test.YtadhibemadgcoaaDiskG
namespace Go.Proofs.Ytadhibemadgcoaa
open Go.RowKit

/-- One sector holds other bytes: the disk in memory. -/
theorem DiskIn.sector {w w' : World} {p sb rb : Nat} {bs : List (Nat × Nat)} {wv : Value} {ws : List (Nat × Value × List UInt8)} {d : Dk} (h : DiskIn w p sb rb bs wv ws d) (i : Nat) (x : Nat × Nat) (m : List UInt8)
    (hx : bs[i]? = some x) (hs : SecIn w' x m) (hk : ∀ k, k < w.heap.size → k ≠ x.1 → w'.heap[k]? = w.heap[k]?) (hws : ∀ y ∈ ws, ∀ k, y.2.1.ownBlock = some k → k < w.heap.size ∧ k ≠ x.1) :
    DiskIn w' p sb rb bs wv ws { d with L := d.L.set i m } := by
  have nd := h.nd
  simp only [List.nodup_cons, List.mem_cons, List.mem_append, not_or] at nd
  obtain ⟨⟨n1, n2, n3, n4⟩, ⟨n5, n6, n7⟩, ⟨n8, n9⟩, n10⟩ := nd
  have hx1 : x.1 ∈ bs.map Prod.fst := List.mem_map.2 ⟨x, List.mem_of_getElem? hx, rfl⟩
  have ndb := (List.nodup_append.1 n10).2.1
  exact {
    n1 := by simpa using h.n1
    n2 := by simpa using h.n2
    f1 := h.f1
    f2 := h.f2
    hp := (hk p (blk_lt h.hp) (fun e => n4 (e ▸ hx1))).trans h.hp
    hs := by simpa using (hk sb (blk_lt h.hs) (fun e => n7 (e ▸ hx1))).trans h.hs
    hr := (hk rb (blk_lt h.hr) (fun e => n9 (e ▸ hx1))).trans h.hr
    hb := by simpa using h.hb
    hl := by
      intro j y l hy hl
      by_cases hj : j = i
      · subst hj
        rw [hx] at hy
        cases hy
        have hi : j < d.L.length := by rw [← h.hb]; exact (List.getElem?_eq_some_iff.1 hx).1
        rw [List.getElem?_set_self hi] at hl
        cases hl
        exact hs
      · rw [List.getElem?_set_ne (Ne.symm hj)] at hl
        have hsec := h.hl j y l hy hl
        have hyz : y.1 < w.heap.size := by obtain ⟨_, _, cur, h3, _⟩ := hsec; exact blk_lt h3
        refine hsec.frame (hk y.1 hyz (fun e => hj ?_))
        have h1 : (bs.map Prod.fst)[j]? = some y.1 := by rw [List.getElem?_map, hy]; rfl
        have h2 : (bs.map Prod.fst)[i]? = some y.1 := by rw [List.getElem?_map, hx, e]; rfl
        exact (List.getElem?_inj (List.getElem?_eq_some_iff.1 h1).1 ndb).1 (h1.trans h2.symm)
    hw := ownsRow_frame h.hw fun k hkk => hk k (h.hw.lt k hkk).2 (fun e => (List.nodup_append.1 n10).2.2 k (mem_blockList hkk) x.1 hx1 e)
    hwl := h.hwl
    hwb := fun y hy => ⟨(h.hwb y hy).1.frame (fun k hkk => hk k (hws y hy k hkk).1 (hws y hy k hkk).2), (h.hwb y hy).2.1, by simpa using (h.hwb y hy).2.2⟩
    nd := h.nd }
theorem Bts.form {w : World} {v : Value} {l : List UInt8} (h : Bts w v l) : ∃ a cap, v = .slice a l.length cap := by
  rcases h with ⟨a, cap, rfl, rfl⟩ | ⟨b, off, cap, cs, e, fz, rfl, _⟩
  · exact ⟨a, cap, rfl⟩
  · exact ⟨_, cap, rfl⟩
theorem applyW_snoc (l : List (Nat × List UInt8)) (x : Nat × List UInt8) (L : List (List UInt8)) : applyW (l ++ [x]) L = (applyW l L).set x.1 x.2 := by simp [applyW]

/-- Nothing waits any more: the disk in memory. -/
theorem DiskIn.clear {w w' : World} {p sb rb : Nat} {bs : List (Nat × Nat)} {wv : Value} {ws : List (Nat × Value × List UInt8)} {d : Dk} (h : DiskIn w p sb rb bs wv ws d)
    (hp : w'.heap[p]? = some (.cells #[.pointer (some ⟨sb, 0, none⟩), .slice none 0 0, .int .i64 (d.steps : Int), .int .i64 d.fuse, .bool d.gone] 122 (0, 0)))
    (hk : ∀ k, k ≠ p → w'.heap[k]? = w.heap[k]?) : DiskIn w' p sb rb bs (.slice none 0 0) [] { d with wait := [] } := by
  have nd := h.nd
  simp only [List.nodup_cons, List.mem_cons, List.mem_append, not_or] at nd
  obtain ⟨⟨n1, n2, n3, n4⟩, ⟨n5, n6, n7⟩, ⟨n8, n9⟩, n10⟩ := nd
  exact {
    n1 := h.n1, n2 := h.n2, f1 := h.f1, f2 := h.f2, hp := hp
    hs := (hk sb (Ne.symm n1)).trans h.hs
    hr := (hk rb (Ne.symm n2)).trans h.hr
    hb := h.hb
    hl := fun i x l hx hl => (h.hl i x l hx hl).frame (hk x.1 (fun e => n4 (by rw [← e]; exact List.mem_map.2 ⟨x, List.mem_of_getElem? hx, rfl⟩)))
    hw := ⟨rfl, .inl ⟨rfl, rfl⟩⟩
    hwl := rfl
    hwb := fun x hx => by simp at hx
    nd := by
      have s : (p :: sb :: rb :: (blockList (.slice none 0 0) ++ bs.map Prod.fst)).Sublist (p :: sb :: rb :: (blockList wv ++ bs.map Prod.fst)) := by
        refine List.Sublist.cons_cons _ (List.Sublist.cons_cons _ (List.Sublist.cons_cons _ ?_))
        exact List.sublist_append_right _ _
      exact s.nodup h.nd }

theorem flush_none (w : World) : Calls Try.prog 23 #[.pointer none] w fun e w' => e = .returned (.int .i64 1) ∧ w = w' := by
  go_enter Try.func23, Try.ntmps23
  go_wp2_with (go_at_call 78; refine (made_none _).mono ?_; rintro e w' ⟨rfl, rfl⟩)
  go_ret
  exact ⟨rfl, rfl⟩
theorem flush_power {p : Nat} {d : Dk} {M F : Nat → Prop} (w : World) (h : DiskAt w p d M F) (hg : d.gone = true ∨ d.fuse = 0) :
    Calls Try.prog 23 #[.pointer (some ⟨p, 0, none⟩)] w fun e w' => e = .returned (.int .i64 9) ∧ DiskAt w' p { d with gone := true } M F ∧ Ch M w w' := by
  have HM := hid (made_any w h)
  have HS := hid (step_no w h hg)
  clear h hg
  go_enter Try.func23, Try.ntmps23
  go_wp2_with (first | (go_at_call 78; refine HM.out.mono ?_; rintro e w' ⟨rfl, rfl⟩) | (go_at_call 79; refine HS.out.mono ?_; rintro e w1 ⟨rfl, hD, hch⟩))
  go_ret
  exact ⟨rfl, hD, hch⟩

set_option maxRecDepth 20000 in
set_option maxHeartbeats 1000000 in
theorem flush_ok {p : Nat} {d : Dk} {M F : Nat → Prop} (w : World) (h : DiskAt w p d M F) (hg : ¬ (d.gone = true ∨ d.fuse = 0)) (hst : d.steps ≤ 1000000) (hwt : d.wait.length ≤ 1000000) :
    Calls Try.prog 23 #[.pointer (some ⟨p, 0, none⟩)] w fun e w' => e = .returned (.int .i64 0) ∧ DiskAt w' p { stepY d with L := applyW d.wait d.L, wait := [] } M F ∧ Ch M w w' := by
  have HM := hid (made_any w h)
  have HS := hid (step_yes w h hst hg)
  clear h hg
  go_enter Try.func23, Try.ntmps23
  go_wp2_with (go_at_call 78; refine HM.out.mono ?_; rintro e w' ⟨rfl, rfl⟩)
  refine HS.out.mono ?_
  rintro e w1 ⟨rfl, hD, hch⟩
  have HD := hid hD
  clear hD
  obtain ⟨sb, rb, bs, wv, ws, h1, h2, h3, h4, h5⟩ := HD.out
  have hlen : ws.length ≤ 1000000 := by
    have : d.wait.length = ws.length := by rw [show d.wait = ws.map _ from h1.hwl, List.length_map]
    omega
  obtain ⟨ad, wcap, hwv⟩ : ∃ ad cap, wv = .slice ad ws.length cap := by
    rcases h1.hw.2 with ⟨rfl, h0⟩ | ⟨g, cap, cur, rfl, _⟩
    · exact ⟨none, 0, by rw [h0]⟩
    · exact ⟨_, _, rfl⟩
  have hc1 := cell_blk h1.hp 1
  simp at hc1
  rw [hwv] at hc1
  have H1 := hid h1
  have H2 := hid h2
  have H3 := hid h3
  have H4 := hid h4
  have H5 := hid h5
  have HWV := hid hwv
  clear h1 h2 h3 h4 h5 hwv
  go_wp2
  go_loopw [18] (fun k wr => ∃ j : Nat, k = .int .i64 (j : Int) ∧ j ≤ ws.length ∧ Hid (DiskIn wr p sb rb bs wv ws { stepY d with L := applyW (d.wait.take j) d.L }) ∧ Hid (Ch M w1 wr)) (fun k _ => ws.length - (intOf k).toNat)
  case atStart => exact ⟨0, rfl, Nat.zero_le _, H1, hid (Ch.refl _ _)⟩
  case round =>
    obtain ⟨j, rfl, hj, HI, HC⟩ := hrel
    have hc0 := cell_blk HI.out.hp 0
    have hc1' := cell_blk HI.out.hp 1
    have hf1 := frozen_blk HI.out.hp 1
    have hpz := blk_lt HI.out.hp
    simp at hc0 hc1'
    by_cases hlt : j < ws.length
    · obtain ⟨x, HX⟩ : ∃ x, Hid (ws[j]? = some x) := ⟨ws[j]'(by omega), hid (List.getElem?_eq_getElem _)⟩
      obtain ⟨g, cap, hg, k1, k2⟩ := wait_cells HI.out.hw HX.out
      rw [HWV.out] at hg
      simp at hg
      obtain ⟨rfl, rfl⟩ := hg
      have hgz := World.block_lt_of_cell? wr _ k1
      have hx := HI.out.hwb x (List.mem_of_getElem? HX.out)
      obtain ⟨xa, xc, hxv⟩ := hx.1.form
      rw [hx.2.1] at hxv
      rw [hxv] at k2
      have HXV := hid hxv
      have hxa := hx.2.2
      have hxbs : x.1 < bs.length := by rw [HI.out.hb]; exact hxa
      obtain ⟨z, HZ⟩ : ∃ z, Hid (bs[x.1]? = some z) := ⟨bs[x.1]'hxbs, hid (List.getElem?_eq_getElem _)⟩
      obtain ⟨l, HLl⟩ : ∃ l, Hid ((applyW (d.wait.take j) d.L)[x.1]? = some l) := ⟨(applyW (d.wait.take j) d.L)[x.1]'hxa, hid (List.getElem?_eq_getElem _)⟩
      have hsec := HI.out.hl x.1 z l HZ.out HLl.out
      have hzz : z.1 < wr.heap.size := by obtain ⟨_, _, cur, h3, _⟩ := hsec; exact blk_lt h3
      have HPut := hid (put_any (x.1 : Int) (wr.alloc (.cells #[.int .i64 (x.1 : Int), .slice xa 512 xc] 124)).drew (heap_old HI.out.hs _) (heap_old HI.out.hr _) rfl hxa HZ.out
        (hsec.frame (w' := (wr.alloc (.cells #[.int .i64 (x.1 : Int), .slice xa 512 xc] 124)).drew) (Below.heap_alloc _ _ _ hzz)) (m := x.2.2) (v := .slice xa 512 xc) (by rw [hx.2.1]; omega)
        (by
          rw [← hxv]
          refine hx.1.frame (fun k hk => Below.heap_alloc _ _ _ ?_)
          have := H5.out k (H3.out x (List.mem_of_getElem? HX.out) k hk).1
          have := HC.out.size
          omega) HI.out.n2)
      have hl512 := hsec.1
      rw [show x.2.2 ++ l.drop x.2.2.length = x.2.2 by rw [hx.2.1, List.drop_of_length_le (by omega), List.append_nil]] at HPut
      have HWJ : Hid (d.wait.take (j + 1) = d.wait.take j ++ [(x.1, x.2.2)]) := hid (by
        rw [List.take_add_one, show d.wait = ws.map _ from H1.out.hwl, List.getElem?_map, HX.out]; rfl)
      clear hsec hx hxv hl512
      go_wp2
      refine region_tail 8 (by kernel_rfl) (by kernel_rfl) ?_
      simp only [List.take_succ_cons, List.take_zero, List.drop_succ_cons, List.drop_zero]
      repeat still_step
      refine wpStill_nil ?_
      go_wp2_with (go_at_call 80; refine HPut.out.mono ?_; rintro e w2 ⟨rfl, hs2, hc2⟩; have HS2 := hid hs2; have HC2 := hid hc2; clear hs2 hc2)
      go_roundw
      case rel =>
        refine ⟨j + 1, by go_num, by omega, hid ?_, hid ?_⟩
        · rw [HWJ.out, applyW_snoc]
          have hW : DiskIn (wr.alloc (.cells #[.int .i64 (x.1 : Int), .slice xa 512 xc] 124)).drew p sb rb bs wv ws { stepY d with L := applyW (d.wait.take j) d.L } := by
            refine HI.out.frame (fun k hk => Below.heap_alloc _ _ _ ?_) (fun y hy k hk => Below.heap_alloc _ _ _ ?_)
            · have := H5.out k (H4.out k (H2.out k hk)); have := HC.out.size; omega
            · have := H5.out k (H3.out y hy k hk).1; have := HC.out.size; omega
          refine hW.sector x.1 z x.2.2 HZ.out HS2.out (fun k hk hne => HC2.out.block k hk hne) (fun y hy k hk => ?_)
          have hf := H3.out y hy k hk
          have h1 := H5.out k hf.1
          have h2 := HC.out.size
          refine ⟨by show k < ((wr.alloc _).drew).heap.size; simp [World.drew]; omega, fun e => hf.2 (e ▸ H2.out z.1 ?_)⟩
          simp only [mine, List.mem_cons, List.mem_append, List.mem_map]
          exact .inr (.inr (.inr (.inr ⟨z, List.mem_of_getElem? HZ.out, rfl⟩)))
        · refine ((HC.out.alloc _).drew).then HC2.out (fun i _ e => ?_)
          subst e
          refine H2.out z.1 ?_
          simp only [mine, List.mem_cons, List.mem_append, List.mem_map]
          exact .inr (.inr (.inr (.inr ⟨z, List.mem_of_getElem? HZ.out, rfl⟩)))
      case measure => simp [intOf]; omega
    · obtain rfl : j = ws.length := by omega
      go_wp2
      go_ret
      have hMp := H2.out p (by simp [mine])
      refine ⟨rfl, ?_, (hch.trans HC.out).setCell (fun _ => hMp) _⟩
      have hI := HI.out
      rw [List.take_of_length_le (by rw [show d.wait = ws.map _ from H1.out.hwl]; simp)] at hI
      refine ⟨sb, rb, bs, .slice none 0 0, [], hI.clear (by rw [heap_set hI.hp]; rfl) (fun k hk => Below.heap_setCell _ _ _ _ hk), ?_, by simp, H4.out, ?_⟩
      · intro k hk
        refine H2.out k ?_
        simp only [mine, blockList, Value.ownBlock, List.nil_append, List.mem_cons, List.mem_append] at hk ⊢
        rcases hk with h | h | h | h
        · exact .inl h
        · exact .inr (.inl h)
        · exact .inr (.inr (.inl h))
        · exact .inr (.inr (.inr (.inr h)))
      · intro k hk
        have h1 := H5.out k hk
        have h2 := HC.out.size
        simp [World.setCell]
        omega

theorem flush_any {p : Nat} {d : Dk} {M F : Nat → Prop} (w : World) (h : DiskAt w p d M F) (hst : d.steps ≤ 1000000) (hwt : d.wait.length ≤ 1000000) :
    Calls Try.prog 23 #[.pointer (some ⟨p, 0, none⟩)] w fun e w' => e = .returned (.int .i64 ((flushD d).1 : Nat)) ∧ DiskAt w' p (flushD d).2 M F ∧ Ch M w w' := by
  by_cases h3 : d.gone = true ∨ d.fuse = 0
  · have e : flushD d = (9, { d with gone := true }) := by rw [flushD, stepD_no h3, if_pos rfl]
    rw [e]
    exact flush_power w h h3
  · have e : flushD d = (0, { stepY d with L := applyW d.wait d.L, wait := [] }) := by rw [flushD, stepD_yes h3, if_neg (by simp)]
    rw [e]
    exact flush_ok w h h3 hst hwt

end Go.Proofs.Ytadhibemadgcoaa
