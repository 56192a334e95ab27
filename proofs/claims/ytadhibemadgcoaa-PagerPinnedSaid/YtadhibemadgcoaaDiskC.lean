/- Package disk: same and New: sectors that are made one by one. Conditions: as each theorem says. -/
import Derived.Test.YtadhibemadgcoaaDiskB
namespace Go.Proofs.Ytadhibemadgcoaa
open Go.RowKit

/-- Sectors under way: of n, those of Ls are made, at the places bs; all is new since w0. -/
structure Build (w0 w : World) (sb rb n : Nat) (bs : List (Nat × Nat)) (Ls : List (List UInt8)) : Prop where
  hs : w.heap[sb]? = some (.cells #[.slice (some ⟨rb, 0, none⟩) n n] 129 (0, 0))
  hr : w.heap[rb]? = some (.cells (bs.map secV ++ List.replicate (n - bs.length) (Value.slice none 0 0)).toArray 35 (0, 0))
  hb : bs.length = Ls.length
  hn : bs.length ≤ n
  hl : ∀ (i : Nat) (x : Nat × Nat) (l : List UInt8), bs[i]? = some x → Ls[i]? = some l → SecIn w x l
  nd : (sb :: rb :: bs.map Prod.fst).Nodup
  new : ∀ k ∈ (sb :: rb :: bs.map Prod.fst), w0.heap.size ≤ k ∧ k < w.heap.size
  ch : Ch (fun _ => False) w0 w

theorem set_mid {α : Type} (a r : List α) (x v : α) (i : Nat) (h : i = a.length) : ((a ++ (x :: r)).toArray.setIfInBounds i v) = (a ++ (v :: r)).toArray := by
  subst h; simp
/-- One more sector. -/
theorem Build.more {w0 w w' : World} {sb rb n : Nat} {bs : List (Nat × Nat)} {Ls : List (List UInt8)} (h : Build w0 w sb rb n bs Ls) (hlt : bs.length < n) (x : Nat × Nat) (l : List UInt8) (hx : SecIn w' x l)
    (hnew : w.heap.size ≤ x.1) (hx2 : x.1 < w'.heap.size) (hr : w'.heap[rb]? = some (.cells ((bs.map secV ++ List.replicate (n - bs.length) (Value.slice none 0 0)).toArray.setIfInBounds bs.length (secV x)) 35 (0, 0)))
    (hk : ∀ k, k < w.heap.size → k ≠ rb → w'.heap[k]? = w.heap[k]?) (hch : Ch (fun _ => False) w0 w') : Build w0 w' sb rb n (bs ++ [x]) (Ls ++ [l]) := by
  have nd := h.nd
  have new := h.new
  have hz : w.heap.size ≤ w'.heap.size := by omega
  have nd2 := nd
  simp only [List.nodup_cons, List.mem_cons, not_or] at nd2
  obtain ⟨⟨n1, n2⟩, n3, n4⟩ := nd2
  refine ⟨(hk sb (new sb (by simp)).2 n1).trans h.hs, ?_, by simp [h.hb], by simp; omega, ?_, ?_, ?_, hch⟩
  · rw [hr, show n - bs.length = (n - (bs ++ [x]).length) + 1 by simp; omega, List.replicate_succ, set_mid _ _ _ _ _ (by simp)]
    simp
  · intro i y m hy hm
    by_cases hi : i < bs.length
    · rw [List.getElem?_append_left hi] at hy
      rw [List.getElem?_append_left (by rw [← h.hb]; exact hi)] at hm
      refine (h.hl i y m hy hm).frame (hk y.1 (new y.1 (by simp; exact .inr (.inr ⟨y.2, List.mem_of_getElem? hy⟩))).2 (fun e => n3 ?_))
      rw [← e]; exact List.mem_map.2 ⟨y, List.mem_of_getElem? hy, rfl⟩
    · have hi2 : i = bs.length := by
        have := (List.getElem?_eq_some_iff.1 hy).1
        simp at this
        omega
      subst hi2
      rw [List.getElem?_append_right (Nat.le_refl _)] at hy
      rw [h.hb, List.getElem?_append_right (Nat.le_refl _)] at hm
      simp at hy hm
      subst hy hm
      exact hx
  · rw [List.map_append]
    have e : sb :: rb :: (bs.map Prod.fst ++ [x].map Prod.fst) = (sb :: rb :: bs.map Prod.fst) ++ [x.1] := by simp
    rw [e, List.nodup_append]
    refine ⟨nd, by simp, ?_⟩
    intro a ha b hb2
    simp at hb2
    subst hb2
    have := (new a ha).2
    omega
  · intro k hk2
    rw [List.map_append] at hk2
    have hk3 : k ∈ (sb :: rb :: bs.map Prod.fst) ∨ k = x.1 := by
      simp only [List.mem_cons, List.mem_append, List.map_cons, List.map_nil, List.not_mem_nil, or_false] at hk2 ⊢
      rcases hk2 with h | h | h | h
      · exact .inl (.inl h)
      · exact .inl (.inr (.inl h))
      · exact .inl (.inr (.inr h))
      · exact .inr h
    have h0 := h.ch.size
    rcases hk3 with h1 | rfl
    · have := new k h1; omega
    · omega

theorem made_nils (n : Nat) : madeCells #[Value.slice none 0 0] n = (List.replicate n (Value.slice none 0 0)).toArray := by
  apply Array.ext'
  simp [madeCells, List.eq_replicate_iff, Nat.mod_one]

set_option maxRecDepth 20000 in
set_option maxHeartbeats 1000000 in
theorem new_ok (n : Nat) (w : World) (h1 : 1 ≤ n) (h2 : n ≤ 4096) :
    Calls Try.prog 41 #[.int .i64 n] w fun e w' => ∃ p M, e = .returned (.tuple #[.pointer (some ⟨p, 0, none⟩), .int .i64 0]) ∧
      DiskAt w' p { L := List.replicate n (zeros 512), wait := [], steps := 0, fuse := -1, gone := false } M M ∧ Ch (fun _ => False) w w' ∧ (∀ k, M k → w.heap.size ≤ k) := by
  have hmk := run_make_n (P := Try.prog) 129 35 (.slice none 0 0) 24 Try.underlying129 Try.info35 rfl n (by omega) (by omega) w
  rw [made_nils] at hmk
  obtain ⟨C, HC⟩ : ∃ C, Hid ((List.replicate n (Value.slice none 0 0)).toArray = C) := ⟨_, hid rfl⟩
  rw [HC.out] at hmk
  have hmb := make_blank
  go_enter Try.func41, Try.ntmps41
  go_wp2
  go_loopw [16] (fun k wr => ∃ (j : Nat) (bs : List (Nat × Nat)), k = .int .i64 (j : Int) ∧ j ≤ n ∧ Hid (bs.length = j) ∧ Hid (Build w wr (w.heap.size + 1) w.heap.size n bs (List.replicate j (zeros 512)))) (fun k _ => n - (intOf k).toNat)
  case atStart =>
    refine ⟨0, [], rfl, by omega, hid rfl, hid ⟨?_, ?_, rfl, by simp, ?_, by simp, ?_, ((Ch.refl _ _).alloc _).alloc _⟩⟩
    · have h1 := heap_new (w := w.alloc (.cells C 35)) (.cells #[.slice (some ⟨w.heap.size, 0, none⟩) n n] 129)
      simpa using h1
    · rw [heap_old (heap_new (w := w) (.cells C 35)), ← HC.out]; simp
    · intro i x l h; simp at h
    · intro k hk; simp at hk; simp; omega
  case round =>
    obtain ⟨j, bs, rfl, hj, HJ, HBd⟩ := hrel
    have hc0 := cell_blk HBd.out.hs 0
    simp at hc0
    have hnew := HBd.out.new
    have hrb := (hnew w.heap.size (by simp)).2
    have hsb := (hnew (w.heap.size + 1) (by simp)).2
    have hcj := cell_blk HBd.out.hr j
    have hfj := frozen_blk HBd.out.hr j
    have hn1 : ¬ wr.heap.size = w.heap.size := by omega
    have hn2 : ¬ wr.heap.size = w.heap.size + 1 := by omega
    have hn3 : ¬ w.heap.size + 1 = w.heap.size := by omega
    clear hnew
    by_cases hlt : j < n
    · have hcj2 : wr.cell? ⟨w.heap.size, j, none⟩ = some (.slice none 0 0) := by
        rw [hcj, List.getElem?_toArray, List.getElem?_append_right (by simp [HJ.out]), List.length_map, HJ.out, Nat.sub_self, List.getElem?_replicate, if_pos (by omega)]
      clear hcj
      go_wp2
      go_region
      all_goals go_wp2
      all_goals go_roundw
      case rel =>
        refine ⟨j + 1, bs ++ [(wr.heap.size, 512)], by go_num, by omega, hid (by simp [HJ.out]), hid ?_⟩
        rw [List.replicate_succ']
        have hz : (wr.setCell ⟨w.heap.size, j, none⟩ (.slice (some ⟨wr.heap.size, 0, none⟩) 512 512)).heap.size = wr.heap.size := by simp [World.setCell]
        have h9 := heap_new (w := wr.setCell ⟨w.heap.size, j, none⟩ (.slice (some ⟨wr.heap.size, 0, none⟩) 512 512)) (.cells blankCells 5)
        rw [hz] at h9
        refine HBd.out.more (by rw [HJ.out]; exact hlt) (wr.heap.size, 512) (zeros 512) ⟨zeros_length _, Nat.le_refl _, blankCells, h9, by simp [blankCells, bcells_length, zeros_length], ?_⟩ (Nat.le_refl _) ?_ ?_ ?_ ?_
        · show (bcells (zeros 512)).take 512 = _
          rw [List.take_of_length_le (by rw [bcells_length, zeros_length]; omega)]
        · show wr.heap.size < ((wr.setCell _ _).alloc _).heap.size
          simp [World.setCell]
        · show ((wr.setCell _ _).alloc _).heap[_]? = _
          refine heap_old ?_ _
          rw [heap_set HBd.out.hr, HJ.out]; rfl
        · intro k hk hne
          show ((wr.setCell _ _).alloc _).heap[_]? = _
          rw [Below.heap_alloc _ _ _ (by rw [hz]; exact hk), Below.heap_setCell _ _ _ _ hne]
        · exact ((HBd.out.ch.setCell (p := ⟨w.heap.size, j, none⟩) (fun h => by simp at h) _).alloc _).drew
      case measure => simp [intOf]; omega
    · clear hcj
      obtain rfl : j = n := by omega
      go_wp2
      go_ret2
      have hB := HBd.out
      have hz := hB.ch.size
      refine ⟨wr.heap.size, fun k => w.heap.size ≤ k ∧ k < wr.heap.size + 1, rfl, ⟨w.heap.size + 1, w.heap.size, bs, .slice none 0 0, [], ?_, ?_, by simp, fun _ h => h, fun k hk => by simp; omega⟩, hB.ch.alloc _, fun k hk => hk.1⟩
      · have hr := hB.hr
        rw [HJ.out, Nat.sub_self, List.replicate_zero, List.append_nil] at hr
        refine ⟨by simpa using h1, by simpa using h2, by simp, by simp, heap_new _, ?_, heap_old hr _, by simpa using hB.hb, ?_, ?_, rfl, by simp, ?_⟩
        · rw [List.length_replicate]; exact heap_old hB.hs _
        · intro i x l hx hl
          exact (hB.hl i x l hx hl).frame (Below.heap_alloc _ _ _ (hB.new x.1 (by simp; exact .inr (.inr ⟨x.2, List.mem_of_getElem? hx⟩))).2)
        · exact ⟨rfl, .inl ⟨rfl, rfl⟩⟩
        · have : (wr.heap.size :: (w.heap.size + 1) :: w.heap.size :: bs.map Prod.fst).Nodup := List.nodup_cons.2 ⟨fun h => by have := (hB.new _ h).2; omega, hB.nd⟩
          simpa [blockList, Value.ownBlock] using this
      · intro k hk
        simp only [mine, blockList, Value.ownBlock, List.nil_append, List.mem_cons] at hk
        rcases hk with rfl | hk
        · omega
        · have := hB.new k (by simpa using hk); omega

theorem new_bad (n : Int) (w : World) (h : n < 1 ∨ 4096 < n) :
    Calls Try.prog 41 #[.int .i64 n] w fun e w' => e = .returned (.tuple #[.pointer none, .int .i64 2]) ∧ w = w' := by
  by_cases h1 : n < 1
  · clear h
    go_enter Try.func41, Try.ntmps41
    go_wp2
    go_ret2
    exact ⟨rfl, rfl⟩
  · have h2 : 4096 < n := by omega
    clear h
    go_enter Try.func41, Try.ntmps41
    go_wp2
    go_ret2
    exact ⟨rfl, rfl⟩

end Go.Proofs.Ytadhibemadgcoaa
