/- Package disk: same: other sectors with the same bytes. Conditions: sectors as New makes them. -/
import Derived.Test.YtadhibemadgcoaaDiskC
namespace Go.Proofs.Ytadhibemadgcoaa
open Go.RowKit

theorem SecIn.bts {w : World} {x : Nat × Nat} {l : List UInt8} (h : SecIn w x l) : Bts w (secV x) l := by
  obtain ⟨h1, h2, cur, h3, h4, h5⟩ := h
  refine .inr ⟨x.1, 0, x.2, cur, 5, (0, 0), by rw [h1]; rfl, by omega, h3, fun j hj => ?_⟩
  have := bcells_get l j hj
  rw [← h5, List.getElem?_take, if_pos (by omega)] at this
  simpa using this
/-- A clone of a sector is a sector. -/
theorem sec_of_owns {w : World} {base : Nat} {v : Value} {l : List UInt8} (h : w.ownsRow base 5 1 v 512 (bcells l)) (hl : l.length = 512) : ∃ x : Nat × Nat, v = secV x ∧ SecIn w x l ∧ base ≤ x.1 := by
  rcases h.2 with ⟨_, h0⟩ | ⟨g, cap, cur, rfl, hb, hg, hc, _, hs, ht⟩
  · omega
  · exact ⟨(g, cap), rfl, ⟨hl, hc, cur, hg, by simp at hs; omega, by simpa using ht⟩, hb⟩

set_option maxRecDepth 20000 in
set_option maxHeartbeats 1000000 in
theorem same_any {sb rb n : Nat} {bs : List (Nat × Nat)} {L : List (List UInt8)} (w : World) (hn : n ≤ 4096) (hs : w.heap[sb]? = some (.cells #[.slice (some ⟨rb, 0, none⟩) n n] 129 (0, 0)))
    (hr : w.heap[rb]? = some (.cells (bs.map secV).toArray 35 (0, 0))) (hb : bs.length = n) (hL : L.length = n) (hl : ∀ (i : Nat) (x : Nat × Nat) (l : List UInt8), bs[i]? = some x → L[i]? = some l → SecIn w x l) :
    Calls Try.prog 81 #[.pointer (some ⟨sb, 0, none⟩)] w fun e w' => ∃ sb' rb' bs', e = .returned (.pointer (some ⟨sb', 0, none⟩)) ∧ bs'.length = n ∧ Build w w' sb' rb' n bs' L := by
  have hc0 := cell_blk hs 0
  simp at hc0
  have hmk := run_make_n (P := Try.prog) 129 35 (.slice none 0 0) 24 Try.underlying129 Try.info35 rfl n (by omega) (by omega) w
  rw [made_nils] at hmk
  obtain ⟨C, HC⟩ : ∃ C, Hid ((List.replicate n (Value.slice none 0 0)).toArray = C) := ⟨_, hid rfl⟩
  rw [HC.out] at hmk
  have hsb0 := blk_lt hs
  have hrb0 := blk_lt hr
  have HS := hid hs
  have HR := hid hr
  have HB := hid hb
  have HL := hid hL
  have HSec := hid hl
  clear hs hr hb hL hl
  go_enter Try.func81, Try.ntmps81
  go_wp2
  go_loopw [15] (fun k wr => ∃ (j : Nat) (bs' : List (Nat × Nat)), k = .int .i64 (j : Int) ∧ j ≤ n ∧ Hid (bs'.length = j) ∧ Hid (Build w wr (w.heap.size + 1) w.heap.size n bs' (L.take j))) (fun k _ => n - (intOf k).toNat)
  case atStart =>
    refine ⟨0, [], rfl, by omega, hid rfl, hid ⟨?_, ?_, rfl, by simp, ?_, by simp, ?_, ((Ch.refl _ _).alloc _).alloc _⟩⟩
    · have h1 := heap_new (w := w.alloc (.cells C 35)) (.cells #[.slice (some ⟨w.heap.size, 0, none⟩) n n] 129)
      simpa using h1
    · rw [heap_old (heap_new (w := w) (.cells C 35)), ← HC.out]; simp
    · intro i x l h; simp at h
    · intro k hk; simp at hk; simp; omega
  case round =>
    obtain ⟨j, bs', rfl, hj, HJ, HBd⟩ := hrel
    have hc0 := cell_blk HBd.out.hs 0
    simp at hc0
    have hnew := HBd.out.new
    have hrb := (hnew w.heap.size (by simp)).2
    have hsb := (hnew (w.heap.size + 1) (by simp)).2
    have hcj := cell_blk HBd.out.hr j
    have hfj := frozen_blk HBd.out.hr j
    have hn1 : ¬ wr.heap.size = w.heap.size := by omega
    have hn2 : ¬ wr.heap.size = w.heap.size + 1 := by omega
    have hn3 : ¬ w.heap.size + 1 = w.heap.size := by omega
    clear hnew
    by_cases hlt : j < n
    · have hcj2 : wr.cell? ⟨w.heap.size, j, none⟩ = some (.slice none 0 0) := by
        rw [hcj, List.getElem?_toArray, List.getElem?_append_right (by simp [HJ.out]), List.length_map, HJ.out, Nat.sub_self, List.getElem?_replicate, if_pos (by omega)]
      obtain ⟨x, HX⟩ : ∃ x, Hid (bs[j]? = some x) := ⟨bs[j]'(by rw [HB.out]; exact hlt), hid (List.getElem?_eq_getElem _)⟩
      obtain ⟨l, HLl⟩ : ∃ l, Hid (L[j]? = some l) := ⟨L[j]'(by rw [HL.out]; exact hlt), hid (List.getElem?_eq_getElem _)⟩
      have hcr := cell_blk (HBd.out.ch.keep HR.out (fun h => h)) j
      rw [List.getElem?_toArray, List.getElem?_map, HX.out] at hcr
      have hsec := HSec.out j x l HX.out HLl.out
      have hl512 := hsec.1
      obtain ⟨v', w2, hrun, hown, hch2⟩ := run_clone_bts_drew (P := Try.prog) wr 35 35 5 Try.underlying35 Try.info5 (secV x) l (hsec.bts.ch HBd.out.ch (fun _ _ h => h)) (by omega)
      rw [hl512] at hown
      obtain ⟨y, rfl, hy, hy2⟩ := sec_of_owns hown hl512
      have HY := hid hy
      have HRun := hid hrun
      have hsz2 := hch2.size
      have hw2 := cell_blk (hch2.keep HBd.out.hs (fun h => h)) 0
      have hwj := cell_blk (hch2.keep HBd.out.hr (fun h => h)) j
      rw [← cell_blk HBd.out.hr j, hcj2] at hwj
      have hfw := frozen_blk (hch2.keep HBd.out.hr (fun h => h)) j
      simp at hw2
      simp only [Option.map_some, secV] at hcr
      have HCH2 := hid hch2
      unfold secV at HRun
      clear hcj hrun hown hy hch2 hsec
      go_wp2
      go_region_law (refine step_append_run rfl (.tmp 22) (.tmp 23) 35 35 rfl _ _ HRun.out ?_)
      all_goals go_wp2
      all_goals go_roundw
      all_goals first
        | (case rel =>
            refine ⟨j + 1, bs' ++ [y], by go_num, by omega, hid (by simp [HJ.out]), hid ?_⟩
            rw [List.take_add_one, HLl.out]
            refine HBd.out.more (by rw [HJ.out]; exact hlt) y l (HY.out.frame (Below.heap_setCell _ _ _ _ (by show y.1 ≠ w.heap.size; omega))) hy2 ?_ ?_ ?_ ?_
            · have h1 : y.1 < w2.heap.size := by obtain ⟨_, _, cur, h3, _⟩ := HY.out; exact blk_lt h3
              simpa [World.setCell] using h1
            · rw [heap_set (HCH2.out.keep HBd.out.hr (fun h => h)), HJ.out]; rfl
            · intro k hk hne
              rw [Below.heap_setCell _ _ _ _ hne]
              exact HCH2.out.block k hk (fun h => h)
            · exact (HBd.out.ch.trans HCH2.out).setCell (fun h => by simp at h) _)
        | (case measure => simp [intOf]; omega)
    · clear hcj
      obtain rfl : j = n := by omega
      go_wp2
      go_ret
      refine ⟨w.heap.size + 1, w.heap.size, bs', rfl, HJ.out, ?_⟩
      have := HBd.out
      rwa [List.take_of_length_le (by rw [HL.out]; exact Nat.le_refl _)] at this

end Go.Proofs.Ytadhibemadgcoaa
