/- The reference's disk: Crash. Conditions: as each theorem says. -/
import Derived.Test.YtadhibemadgcoaaDiskX
namespace Go.Proofs.Ytadhibemadgcoaa
open Go.RowKit

/-- 'append([]T{}, x...)'. -/
theorem run_clone_row {P : Program} (w : World) (t ty e : TypeId) (z : Value) (size bytes : Nat) (ht : P.underlying t = some (.slice e)) (hinfo : (P.info? e).map (fun i => (i.zero, i.size, i.bytes)) = some (some z, size, bytes))
    (hzs : z.cells.size = size) (hsz : 0 < size) (x : Value) (n : Nat) (xs : List Value) (hx : w.ownsRow 0 e size x n xs) (h1 : ∀ u ∈ xs, u.oneCell' = true) (h63 : n ≤ maxLen) (hbytes : n * bytes ≤ 140737488355328) :
    ∃ v' w', (Builtin.append_ #[t, t] ty #[.slice (some ⟨w.heap.size, 0, none⟩) 0 0, x]).run P (w.alloc (.cells #[] e)) = .ok v' w' ∧ w'.ownsRow w.heap.size e size v' n xs ∧ Ch (fun _ => False) w w' := by
  obtain ⟨i, hi, hzz⟩ := Option.map_eq_some_iff.1 hinfo
  simp only [Prod.mk.injEq] at hzz
  obtain ⟨hz, hs, hb⟩ := hzz
  have hown : (w.alloc (.cells #[] e)).ownsRow w.heap.size e size (.slice (some ⟨w.heap.size, 0, none⟩) 0 0) 0 [] :=
    ⟨by simp, .inr ⟨w.heap.size, 0, #[], rfl, Nat.le_refl _, heap_new _, Nat.le_refl _, Nat.zero_le _, by simp, by simp⟩⟩
  have ch1 : Ch (fun _ => False) w (w.alloc (.cells #[] e)) := (Ch.refl _ w).alloc _
  rcases hx.2 with ⟨rfl, rfl⟩ | ⟨g, cap, cur, rfl, _, hg, hnc, _, hcs, ht2⟩
  · have hxs : xs = [] := List.eq_nil_of_length_eq_zero (by rw [hx.1]; simp)
    subst hxs
    refine ⟨_, _, ?_, hown, ch1⟩
    simp [Builtin.append_, run_underlying ht, sizeOf, typeInfo, hi, Builtin.lenOf, Builtin.firstCells, storeCells]
  · have hx' := hx.alloc (.cells #[] e)
    have hcell : ∀ j u, xs[j]? = some u → (w.alloc (.cells #[] e)).cell? ((⟨g, 0, none⟩ : Addr).add j) = some u := hx'.cells (g := g) rfl
    obtain ⟨v', w', r1, r2, r3, _⟩ := run_append_own (P := P) (w.alloc (.cells #[] e)) w.heap.size t ty e i z size bytes ht hi hz hs hb hzs hsz _ 0 [] hown ⟨g, 0, none⟩ n cap xs hx.1 hcell h1 (by omega) (by simpa using hbytes) (by simp)
    refine ⟨v', w', r1, by simpa using r2, ch1.grown r3 (fun k hk hk2 => ?_)⟩
    obtain rfl : w.heap.size = k := by simpa [Value.ownBlock] using hk
    omega
theorem strs_one (l : List (List UInt8)) : ∀ u ∈ l.map strV, u.oneCell' = true := by
  intro u hu
  obtain ⟨x, _, rfl⟩ := List.mem_map.1 hu
  rfl
theorem rw_one (l : List (Nat × List UInt8)) : ∀ u ∈ rwCells l, u.oneCell' = true := by
  intro u hu
  obtain ⟨x, _, hx⟩ := List.mem_flatMap.1 hu
  simp at hx
  rcases hx with rfl | rfl <;> rfl

theorem strEq {t : ByteArray} {l : List UInt8} (h : t.data.toList = l) : t = ⟨l.toArray⟩ := by
  cases t with | mk d => simp at h; subst h; rfl
theorem cut_strs (S1 S2 : ByteArray) (N : Nat) : (S1.extract 0 N ++ S2.extract N S2.size).data.toList = S1.data.toList.take N ++ S2.data.toList.drop N := by
  rw [ByteArray.data_append, Array.toList_append, ByteArray.data_extract, ByteArray.data_extract, Array.toList_extract, Array.toList_extract, List.extract_eq_take_drop, List.extract_eq_take_drop, List.drop_zero, Nat.sub_zero]
  congr 1
  exact List.take_of_length_le (by rw [List.length_drop]; exact Nat.le_refl _)
theorem cut0 (S : ByteArray) (n : Nat) (h : S.size = n) : (S.extract 0 n).data.toList = S.data.toList := by
  rw [ByteArray.data_extract, Array.toList_extract, List.extract_eq_take_drop, List.drop_zero, Nat.sub_zero]
  exact List.take_of_length_le (by rw [← h]; exact Nat.le_refl _)
/-- The crashed disk under way. -/
def RCr (w0 w : World) (ob : Nat) (lc : Option Addr) (n c : Nat) (L : List (List UInt8)) : Prop :=
  RIn w ob (.slice lc n c) (.slice none 0 0) { L := L, wait := [], steps := 0, fuse := -1, gone := false } ∧ L.length = n ∧ w0.heap.size ≤ ob ∧ (∀ k, (Value.slice lc n c).ownBlock = some k → w0.heap.size ≤ k) ∧ Ch (fun _ => False) w0 w
theorem RCr.ch {w0 w w' : World} {ob n c : Nat} {lc : Option Addr} {L : List (List UInt8)} (h : RCr w0 w ob lc n c L) (hc : Ch (fun _ => False) w w') : RCr w0 w' ob lc n c L := by
  obtain ⟨h1, h2, h3, h4, h5⟩ := h
  exact ⟨h1.frame (hc.block _ (blk_lt h1.hp) (fun h => h)) (fun k hk => hc.block _ (h1.hL.lt k hk).2 (fun h => h)) (fun k hk => by cases hk), h2, h3, h4, h5.trans hc⟩
/-- One sector of it is another. -/
theorem RCr.sector {w0 w : World} {ob n c gl : Nat} {L : List (List UInt8)} (h : RCr w0 w ob (some ⟨gl, 0, none⟩) n c L) (i : Nat) (b : List UInt8) (hb : b.length = 512) (hi : i < n) :
    RCr w0 (w.setCell ⟨gl, i, none⟩ (strV b)) ob (some ⟨gl, 0, none⟩) n c (L.set i b) := by
  obtain ⟨h1, h2, h3, h4, h5⟩ := h
  subst h2
  refine ⟨RIn.sector (d := { L := L, wait := [], steps := 0, fuse := -1, gone := false }) h1 i b hb hi, by simp, h3, h4, h5.setCell (fun hh => ?_) _⟩
  have := h4 gl rfl
  have : gl < w0.heap.size := hh
  omega

theorem keepD_no {wait : List (Nat × List UInt8)} {L : List (List UInt8)} {k : Int × Int} (h : ¬ (0 ≤ k.1 ∧ k.1 < wait.length)) : keepD wait L k = L := by rw [keepD, if_neg h]
theorem keepD_yes {wait : List (Nat × List UInt8)} {L : List (List UInt8)} {i : Nat} {x2 : Int} {y : Nat × List UInt8} {l : List UInt8} (hy : wait[i]? = some y) (hl : L[y.1]? = some l) (N : Nat) (hN : N = min x2.toNat 512) :
    keepD wait L ((i : Int), x2) = L.set y.1 (y.2.take N ++ l.drop N) := by
  have hi := (List.getElem?_eq_some_iff.1 hy).1
  rw [keepD, if_pos (by constructor <;> simp <;> omega)]
  simp only [Int.toNat_natCast, hy, ← hN]
  rw [List.getD, hl]
  rfl

def RCPost (w : World) (d : Dk) (kept : List (Int × Int)) (e : Ending) (w' : World) : Prop := ∃ q' M', e = .returned (.pointer (some ⟨q', 0, none⟩)) ∧ RAt w' q' (crashD d kept) M' ∧ Ch (fun _ => False) w w' ∧ (∀ k, M' k → w.heap.size ≤ k)

set_option maxRecDepth 20000 in
set_option maxHeartbeats 4000000 in
theorem rcrash_any {q : Nat} {d : Dk} {M : Nat → Prop} (a : Option Addr) (cap : Nat) (kept : List (Int × Int)) (w : World) (h : RAt w q d M) (hwt : d.wait.length ≤ 1000000) (hkl : kept.length ≤ 1000000) (hkv : Kps w (.slice a kept.length cap) kept) :
    Calls Try.prog 47 #[.pointer (some ⟨q, 0, none⟩), .slice a kept.length cap] w (RCPost w d kept) := by
  obtain ⟨Lv, Wv, h1, h2, h3, h4, h5⟩ := h
  have hn2 := h1.n2
  obtain ⟨lv, w1, hrun, hown, hch⟩ := run_clone_row (P := Try.prog) w 89 89 9 (.string ⟨#[]⟩) 1 16 Try.underlying89 Try.info9 rfl (by omega) Lv d.L.length (d.L.map strV) h1.hL (strs_one _) (by unfold maxLen; omega) (by omega)
  have hc0 := cell_blk (heap_old h1.hp (.cells #[] 9)) 0
  simp at hc0
  have hc0w := cell_blk h1.hp 0
  simp at hc0w
  have hqz := blk_lt h1.hp
  have hnq : ¬ q = w.heap.size := by omega
  obtain ⟨ol, oc, rfl⟩ := owns_form hown
  obtain ⟨wa, wc, hwv⟩ := owns_form h1.hW
  have HRun := hid hrun
  have HK := hid hkv
  have HQ := hid (fun (w' : World) (hc : Ch (fun _ => False) w w') => h1.frame (hc.block q (h5 q h2) (fun h => h)) (fun k hk => hc.block k (h5 k (h3 k hk)) (fun h => h)) (fun k hk => hc.block k (h5 k (h4 k hk)) (fun h => h)))
  have HW := hid hwv
  obtain ⟨nl, HNl⟩ : ∃ n, Hid (d.L.length = n) := ⟨_, hid rfl⟩
  rw [HNl.out] at hn2 hown HRun
  have HWt := hid h1.wait
  have HI : Hid (∀ W, W = w1.alloc (.cells #[.slice ol nl oc, .slice none 0 0, .int .i64 0, .int .i64 (-1), .bool false] 145) → RCr w W w1.heap.size ol nl oc d.L) := hid (by
    rintro W rfl
    have hz := hch.size
    refine ⟨⟨by rw [HNl.out]; exact hn2, by simp, by simp, heap_new _, ?_, ⟨rfl, .inl ⟨rfl, rfl⟩⟩, h1.secs, by simp, ?_, by simp [Value.ownBlock], fun k _ => by simp [Value.ownBlock]⟩, HNl.out, hz, fun k hk => (hown.lt k hk).1, hch.alloc _⟩
    · rw [HNl.out]
      have := hown.alloc (.cells #[.slice ol nl oc, .slice none 0 0, .int .i64 0, .int .i64 (-1), .bool false] 145)
      refine ⟨this.1, ?_⟩
      rcases this.2 with h | ⟨g, cap, cur, e1, _, r⟩
      · exact .inl h
      · exact .inr ⟨g, cap, cur, e1, Nat.zero_le _, r⟩
    · intro e; have := (hown.lt _ e).2; omega)
  have hzw := hch.size
  clear h1 h2 h3 h4 h5 hrun hkv hown hch hwv hqz
  go_enter Try.func47, Try.ntmps47
  go_wp2_with (at_builtin; refine wpList_append_run rfl (.tmp 9) (.tmp 13) 89 89 rfl _ _ HRun.out ?_)
  have HI := hid (HI.out _ rfl)
  clear hc0 hc0w hnq
  go_loopw [6] (fun i wr => ∃ j : Nat, i = .int .i64 (j : Int) ∧ j ≤ kept.length ∧ Hid (RCr w wr w1.heap.size ol nl oc ((kept.take j).foldl (keepD d.wait) d.L))) (fun i _ => kept.length - (intOf i).toNat)
  case atStart => exact ⟨0, rfl, Nat.zero_le _, HI⟩
  case round =>
    obtain ⟨j, rfl, hj, HI⟩ := hrel
    by_cases hlt : j < kept.length
    · obtain ⟨x, HX⟩ : ∃ x, Hid (kept[j]? = some x) := ⟨kept[j]'hlt, hid (List.getElem?_eq_getElem _)⟩
      have HCh := hid HI.out.2.2.2.2
      obtain ⟨kb, ko, rfl, k1, k2, k3⟩ := (HK.out.ch HCh.out (fun _ _ h => h)).get HX.out
      have hQ := HQ.out wr HCh.out
      have hcq1 := cell_blk hQ.hp 1
      simp at hcq1
      rw [HW.out] at hcq1
      have HHt : Hid (kept.take (j + 1) = kept.take j ++ [x]) := hid (by rw [List.take_add_one, HX.out]; rfl)
      obtain ⟨x1, x2⟩ := x
      dsimp only at k1 k2
      have hj0 : (0 : Int) ≤ (j : Int) := Int.natCast_nonneg _
      have hj1 : (j : Int) < (kept.length : Int) := by omega
      by_cases hr : 0 ≤ x1 ∧ x1 < d.wait.length
      · obtain ⟨hx0, hx1⟩ := hr
        obtain ⟨i, rfl⟩ := Int.eq_ofNat_of_zero_le hx0
        obtain ⟨y, HY⟩ : ∃ y, Hid (d.wait[i]? = some y) := ⟨d.wait[i]'(by omega), hid (List.getElem?_eq_getElem _)⟩
        obtain ⟨gw, wc2, he, hgz, hcw⟩ := owns_cells hQ.hW (by omega)
        rw [HW.out] at he
        simp at he
        obtain ⟨rfl, rfl⟩ := he
        obtain ⟨m1, m2⟩ := rwCells_get d.wait i y HY.out
        have e1 := hcw _ _ m1
        have e2 := hcw _ _ m2
        obtain ⟨hy1, hy2⟩ := HWt.out y (List.mem_of_getElem? HY.out)
        rw [HNl.out] at hy2
        obtain ⟨q1, q2, q3, q4, q5⟩ := HI.out
        have q0 := q1.hL
        simp only [q2] at q0
        obtain ⟨gl, lc2, he2, hglz, hcl⟩ := owns_cells q0 (by omega)
        simp at he2
        obtain ⟨rfl, rfl⟩ := he2
        obtain ⟨l, HL⟩ : ∃ l, Hid (((kept.take j).foldl (keepD d.wait) d.L)[y.1]? = some l) := ⟨_, hid (List.getElem?_eq_getElem (by rw [q2]; exact hy2))⟩
        have hl12 := q1.secs l (List.mem_of_getElem? HL.out)
        have e3 := hcl y.1 (strV l) (by rw [List.getElem?_map, HL.out]; rfl)
        have e3f : wr.frozen? ⟨gl, y.1, none⟩ = false := by
          rcases q0.2 with ⟨h0, _⟩ | ⟨g', cap', cur, h0, hb, hg, _⟩
          · cases h0
          · cases h0; exact frozen_blk hg _
        have hco0 := cell_blk q1.hp 0
        simp at hco0
        have hobz := blk_lt q1.hp
        obtain ⟨S1, hS1, HS1⟩ : ∃ S1 : ByteArray, S1 = ⟨y.2.toArray⟩ ∧ Hid (S1.data.toList = y.2) := ⟨_, rfl, hid rfl⟩
        obtain ⟨S2, hS2, HS2⟩ : ∃ S2 : ByteArray, S2 = ⟨l.toArray⟩ ∧ Hid (S2.data.toList = l) := ⟨_, rfl, hid rfl⟩
        have z1 : S1.size = 512 := by rw [hS1]; exact hy1
        have z2 : S2.size = 512 := by rw [hS2]; exact hl12
        unfold strV at e2 e3
        rw [← hS1] at e2
        rw [← hS2] at e3
        have hyn : (y.1 : Int) < (nl : Int) := by omega
        have hy0 : (0 : Int) ≤ (y.1 : Int) := Int.natCast_nonneg _
        have hi1 : (i : Int) < (d.wait.length : Int) := hx1
        have hqz := blk_lt hQ.hp
        have HFin : Hid (∀ (N : Nat) (T : ByteArray) (W : World), N = min x2.toNat 512 → T.data.toList = y.2.take N ++ l.drop N → Ch (fun _ => False) (wr.setCell ⟨gl, y.1, none⟩ (.string T)) W → RCr w W w1.heap.size (some ⟨gl, 0, none⟩) nl oc ((kept.take (j + 1)).foldl (keepD d.wait) d.L)) := hid (fun N T W hN hT hW => by
          rw [HHt.out, List.foldl_append, List.foldl_cons, List.foldl_nil, keepD_yes HY.out HL.out N hN]
          have e : (Value.string T) = strV (y.2.take N ++ l.drop N) := by rw [strEq hT]; rfl
          rw [e] at hW
          exact (HI.out.sector y.1 _ (by simp; omega) hy2).ch hW)
        have HT0 : Hid ((S2.extract 0 512).data.toList = y.2.take 0 ++ l.drop 0) := hid (by rw [cut0 S2 512 z2, HS2.out]; rfl)
        have HT5 : Hid ((S1.extract 0 512).data.toList = y.2.take 512 ++ l.drop 512) := hid (by rw [cut0 S1 512 z1, HS1.out, List.take_of_length_le (by omega), List.drop_of_length_le (by omega), List.append_nil])
        have HTN : Hid (∀ N, (S1.extract 0 N ++ S2.extract N 512).data.toList = y.2.take N ++ l.drop N) := hid (fun N => by
          have := cut_strs S1 S2 N
          rw [z2, HS1.out, HS2.out] at this
          exact this)
        clear m1 m2 hcw hcl q0 q1 q2 q3 q4 q5 hS1 hS2 hQ
        by_cases hneg : x2 < 0
        · go_wp2_with fail
          refine region_reads (by kernel_rfl) (by kernel_rfl) ?_
          repeat still_step
          refine wpStill_nil ?_
          go_wp2
          go_region
          all_goals go_wp2
          all_goals refine region_tail 22 (by kernel_rfl) (by kernel_rfl) ?_
          all_goals simp only [List.take_succ_cons, List.take_zero, List.drop_succ_cons, List.drop_zero]
          all_goals repeat still_step
          all_goals refine wpStill_nil ?_
          all_goals go_wp2
          go_roundw
          case rel =>
            refine ⟨j + 1, by go_num, by omega, hid ?_⟩
            exact HFin.out 0 _ _ (by omega) HT0.out ((Ch.refl _ _).alloc _).drew.drew.drew
          case measure => simp [intOf]; omega
        by_cases hbig : 512 < x2
        · go_wp2_with fail
          refine region_reads (by kernel_rfl) (by kernel_rfl) ?_
          repeat still_step
          refine wpStill_nil ?_
          go_wp2
          go_region
          all_goals go_wp2
          all_goals refine region_tail 22 (by kernel_rfl) (by kernel_rfl) ?_
          all_goals simp only [List.take_succ_cons, List.take_zero, List.drop_succ_cons, List.drop_zero]
          all_goals repeat still_step
          all_goals refine wpStill_nil ?_
          all_goals go_wp2
          go_roundw
          case rel =>
            refine ⟨j + 1, by go_num, by omega, hid ?_⟩
            exact HFin.out 512 _ _ (by omega) HT5.out ((Ch.refl _ _).alloc _).drew.drew.drew
          case measure => simp [intOf]; omega
        · obtain ⟨N, rfl⟩ := Int.eq_ofNat_of_zero_le (show 0 ≤ x2 by omega)
          have hN : N ≤ 512 := by omega
          go_wp2_with fail
          refine region_reads (by kernel_rfl) (by kernel_rfl) ?_
          repeat still_step
          refine wpStill_nil ?_
          go_wp2
          go_region
          all_goals go_wp2
          all_goals refine region_tail 22 (by kernel_rfl) (by kernel_rfl) ?_
          all_goals simp only [List.take_succ_cons, List.take_zero, List.drop_succ_cons, List.drop_zero]
          all_goals repeat still_step
          all_goals refine wpStill_nil ?_
          all_goals go_wp2
          go_roundw
          case rel =>
            refine ⟨j + 1, by go_num, by omega, hid ?_⟩
            exact HFin.out N _ _ (by simp; omega) (HTN.out N) ((Ch.refl _ _).alloc _).drew.drew.drew
          case measure => simp [intOf]; omega
      · have HNext : Hid (∀ W, Ch (fun _ => False) wr W → RCr w W w1.heap.size ol nl oc ((kept.take (j + 1)).foldl (keepD d.wait) d.L)) := hid (fun W hW => by
          rw [HHt.out, List.foldl_append, List.foldl_cons, List.foldl_nil, keepD_no hr]
          exact HI.out.ch hW)
        clear hQ
        by_cases h0 : x1 < 0
        · clear hr
          go_wp2
          go_quiet (fail)
          go_wp2
          go_roundw
          case rel => exact ⟨j + 1, by go_num, by omega, hid (HNext.out _ ⟨rfl, rfl, rfl, Nat.le_refl _, fun _ _ _ => rfl⟩)⟩
          case measure => simp [intOf]; omega
        · have h9 : ¬ x1 < d.wait.length := fun h => hr ⟨by omega, h⟩
          clear hr
          go_wp2
          refine region_reads (by kernel_rfl) (by kernel_rfl) ?_
          repeat still_step
          refine wpStill_nil ?_
          go_wp2
          go_roundw
          case rel => exact ⟨j + 1, by go_num, by omega, hid (HNext.out _ ⟨rfl, rfl, rfl, Nat.le_refl _, fun _ _ _ => rfl⟩)⟩
          case measure => simp [intOf]; omega
    · obtain rfl : j = kept.length := by omega
      go_wp2
      go_ret
      obtain ⟨h1, h2, h3, h4, h5⟩ := HI.out
      rw [List.take_length] at h1 h2
      refine ⟨w1.heap.size, fun k => w.heap.size ≤ k ∧ k < wr.heap.size, rfl, ⟨_, _, by rw [← h2] at h1; exact h1, ⟨h3, blk_lt h1.hp⟩, fun k hk => ⟨h4 k (by rw [← h2]; exact hk), (h1.hL.lt k (by rw [h2] at hk; exact hk)).2⟩, by simp [Value.ownBlock], fun k hk => hk.2⟩, h5, fun k hk => hk.1⟩

end Go.Proofs.Ytadhibemadgcoaa
