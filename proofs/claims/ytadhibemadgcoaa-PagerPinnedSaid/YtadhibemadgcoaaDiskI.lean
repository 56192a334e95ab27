/- Package disk: Crash. Conditions: a disk as New makes it, or none; not more than a million writes that wait. -/
import Derived.Test.YtadhibemadgcoaaDiskH
import Derived.BigQuiet
namespace Go.Proofs.Ytadhibemadgcoaa
open Go.RowKit

/-- v is a slice of keeps that reads as l. -/
def Kps (w : World) (v : Value) (l : List (Int × Int)) : Prop :=
  (∃ a cap, v = .slice a 0 cap ∧ l = []) ∨ ∃ b off cap cs e fz, v = .slice (some ⟨b, off, none⟩) l.length cap ∧ w.heap[b]? = some (.cells cs e fz) ∧
    ∀ (j : Nat) (x : Int × Int), l[j]? = some x → cs[off + j * 2]? = some (.int .i64 x.1) ∧ cs[off + j * 2 + 1]? = some (.int .i64 x.2)
theorem Kps.ch {S : Nat → Prop} {w w' : World} {v : Value} {l : List (Int × Int)} (h : Kps w v l) (hc : Ch S w w') (hn : ∀ k, v.ownBlock = some k → ¬ S k) : Kps w' v l := by
  rcases h with h | ⟨b, off, cap, cs, e, fz, rfl, hb, hcs⟩
  · exact .inl h
  · exact .inr ⟨b, off, cap, cs, e, fz, rfl, hc.keep hb (hn b rfl), hcs⟩
theorem Kps.form {w : World} {v : Value} {l : List (Int × Int)} (h : Kps w v l) : ∃ a cap, v = .slice a l.length cap := by
  rcases h with ⟨a, cap, rfl, rfl⟩ | ⟨b, off, cap, cs, e, fz, rfl, _⟩
  · exact ⟨a, cap, rfl⟩
  · exact ⟨_, cap, rfl⟩
theorem Kps.get {w : World} {a : Option Addr} {n cap : Nat} {l : List (Int × Int)} (h : Kps w (.slice a n cap) l) {j : Nat} {x : Int × Int} (hx : l[j]? = some x) :
    ∃ b off, a = some ⟨b, off, none⟩ ∧ w.cell? ⟨b, off + j * 2, none⟩ = some (.int .i64 x.1) ∧ w.cell? ⟨b, off + j * 2 + 1, none⟩ = some (.int .i64 x.2) ∧ b < w.heap.size := by
  rcases h with ⟨_, _, h, rfl⟩ | ⟨b, off, c, cs, e, fz, h, hb, hcs⟩
  · simp at hx
  · cases h
    exact ⟨b, off, rfl, by rw [cell_blk hb]; exact (hcs j x hx).1, by rw [cell_blk hb]; exact (hcs j x hx).2, blk_lt hb⟩

theorem Bts.form2 {w : World} {v : Value} {l : List UInt8} (h : Bts w v l) : ∃ a cap, v = .slice a l.length cap ∧ (0 < l.length → l.length ≤ cap) := by
  rcases h with ⟨a, cap, rfl, rfl⟩ | ⟨b, off, cap, cs, e, fz, rfl, hc, _⟩
  · exact ⟨a, cap, rfl, fun h => by simp at h⟩
  · exact ⟨_, cap, rfl, fun _ => hc⟩
theorem Bts.less {w : World} {a : Option Addr} {n cap k : Nat} {l : List UInt8} (h : Bts w (.slice a n cap) l) (hk : k ≤ n) : Bts w (.slice a k cap) (l.take k) := by
  rcases h with ⟨a, c0, h, rfl⟩ | ⟨b', off', cap', cs, e, fz, h, hcap, hb, hc⟩
  · cases h
    obtain rfl : k = 0 := by omega
    exact .inl ⟨_, _, rfl, by simp⟩
  · cases h
    refine .inr ⟨b', off', cap, cs, e, fz, by simp [Nat.min_eq_left hk], by simp; omega, hb, fun j hj => ?_⟩
    simp at hj
    rw [hc j (by omega)]
    simp

theorem crash_none (x : Option Addr) (len cap : Nat) (w : World) : Calls Try.prog 24 #[.pointer none, .slice x len cap] w fun e w' => e = .returned (.pointer none) ∧ w = w' := by
  go_enter Try.func24, Try.ntmps24
  go_wp2_with (go_at_call 78; refine (made_none _).mono ?_; rintro e w' ⟨rfl, rfl⟩)
  go_ret
  exact ⟨rfl, rfl⟩

/-- What a build makes, boxed: a disk. -/
theorem Build.disk {w0 w w' : World} {sb rb n : Nat} {bs : List (Nat × Nat)} {L : List (List UInt8)} (h : Build w0 w sb rb n bs L) (hbn : bs.length = n) (h1 : 1 ≤ n) (h2 : n ≤ 4096)
    (hw : w' = w.alloc (.cells #[.pointer (some ⟨sb, 0, none⟩), .slice none 0 0, .int .i64 0, .int .i64 (-1), .bool false] 122)) :
    DiskIn w' w.heap.size sb rb bs (.slice none 0 0) [] { L := L, wait := [], steps := 0, fuse := -1, gone := false } := by
  subst hw
  have hLn : L.length = n := by rw [← h.hb, hbn]
  have hr := h.hr
  rw [hbn, Nat.sub_self, List.replicate_zero, List.append_nil] at hr
  refine ⟨by show 1 ≤ L.length; omega, by show L.length ≤ 4096; omega, by simp, by simp, heap_new _, ?_, heap_old hr _, h.hb, ?_, ?_, rfl, by simp, ?_⟩
  · rw [hLn]; exact heap_old h.hs _
  · intro i x l hx hl
    exact (h.hl i x l hx hl).frame (Below.heap_alloc _ _ _ (h.new x.1 (by simp; exact .inr (.inr ⟨x.2, List.mem_of_getElem? hx⟩))).2)
  · exact ⟨rfl, .inl ⟨rfl, rfl⟩⟩
  · have : (w.heap.size :: sb :: rb :: bs.map Prod.fst).Nodup := List.nodup_cons.2 ⟨fun hm => by have := (h.new _ hm).2; omega, h.nd⟩
    simpa [blockList, Value.ownBlock] using this

set_option maxRecDepth 20000 in
set_option maxHeartbeats 2000000 in
theorem crash_any {p : Nat} {d : Dk} {M F : Nat → Prop} (a : Option Addr) (cap : Nat) (kept : List (Int × Int)) (w : World) (h : DiskAt w p d M F) (hwt : d.wait.length ≤ 1000000) (hkl : kept.length ≤ 1000000) (hkv : Kps w (.slice a kept.length cap) kept) :
    Calls Try.prog 24 #[.pointer (some ⟨p, 0, none⟩), .slice a kept.length cap] w fun e w' => ∃ p' M', e = .returned (.pointer (some ⟨p', 0, none⟩)) ∧
      DiskAt w' p' (crashD d kept) M' M' ∧ Ch (fun _ => False) w w' ∧ (∀ k, M' k → w.heap.size ≤ k) := by
  have HM := hid (made_any w h)
  have HD := hid h
  obtain ⟨sb, rb, bs, wv, ws, h1, h2, h3, h4, h5⟩ := h
  have hlen : ws.length ≤ 1000000 := by
    have : d.wait.length = ws.length := by rw [show d.wait = ws.map _ from h1.hwl, List.length_map]
    omega
  obtain ⟨ad, wcap, hwv⟩ : ∃ ad cap, wv = .slice ad ws.length cap := by
    rcases h1.hw.2 with ⟨rfl, h0⟩ | ⟨g, cap, cur, rfl, _⟩
    · exact ⟨none, 0, by rw [h0]⟩
    · exact ⟨_, _, rfl⟩
  have hc0 := cell_blk h1.hp 0
  simp at hc0
  have HSame := hid (same_any w h1.n2 h1.hs h1.hr h1.hb rfl h1.hl)
  have H1 := hid h1
  have H2 := hid h2
  have H3 := hid h3
  have H4 := hid h4
  have H5 := hid h5
  have HWV := hid hwv
  have HK := hid hkv
  clear h1 h2 h3 h4 h5 hwv hkv
  go_enter Try.func24, Try.ntmps24
  go_wp2_with (go_at_call 78; refine HM.out.mono ?_; rintro e w' ⟨rfl, rfl⟩)
  refine HSame.out.mono ?_
  rintro e w1 ⟨sb', rb', bs', rfl, hb', hB⟩
  have HB := hid hB
  have HBl := hid hb'
  clear hB hb'
  go_wp2
  go_loopw [21] (fun k wr => ∃ j : Nat, k = .int .i64 (j : Int) ∧ j ≤ kept.length ∧
    Hid (DiskIn wr w1.heap.size sb' rb' bs' (.slice none 0 0) [] { L := (kept.take j).foldl (keepD d.wait) d.L, wait := [], steps := 0, fuse := -1, gone := false }) ∧ Hid (Ch (fun _ => False) w wr)) (fun k _ => kept.length - (intOf k).toNat)
  case atStart => exact ⟨0, rfl, Nat.zero_le _, hid (HB.out.disk HBl.out H1.out.n1 H1.out.n2 rfl), hid (HB.out.ch.alloc _)⟩
  case round =>
    obtain ⟨j, rfl, hj, HI, HC⟩ := hrel
    by_cases hlt : j < kept.length
    · obtain ⟨x, HX⟩ : ∃ x, Hid (kept[j]? = some x) := ⟨kept[j]'(by omega), hid (List.getElem?_eq_getElem _)⟩
      have hkk := HK.out.ch HC.out (fun _ _ h => h)
      obtain ⟨kb, koff, rfl, k1, k2, k3⟩ := hkk.get HX.out
      have hI1 := H1.out.frame (w' := wr) (fun k hk => HC.out.block k (H5.out k (H4.out k (H2.out k hk))) (fun h => h)) (fun y hy k hk => HC.out.block k (H5.out k (H3.out y hy k hk).1) (fun h => h))
      have hcp := cell_blk hI1.hp 1
      simp at hcp
      rw [HWV.out] at hcp
      have hpz := blk_lt hI1.hp
      have HI1 := hid hI1
      clear hI1 hkk
      obtain ⟨x1, x2⟩ := x
      by_cases hkr : 0 ≤ x1 ∧ x1 < ws.length
      · obtain ⟨q1, q2⟩ := hkr
        obtain ⟨i, rfl⟩ := Int.eq_ofNat_of_zero_le q1
        obtain ⟨y, HY⟩ : ∃ y, Hid (ws[i]? = some y) := ⟨ws[i]'(by omega), hid (List.getElem?_eq_getElem _)⟩
        obtain ⟨g, cap', hg, l1, l2⟩ := wait_cells HI1.out.hw HY.out
        rw [HWV.out] at hg
        simp at hg
        obtain ⟨rfl, rfl⟩ := hg
        have hgz := World.block_lt_of_cell? wr _ l1
        have hy := HI1.out.hwb y (List.mem_of_getElem? HY.out)
        obtain ⟨ya, yc, hyv, hyc⟩ := hy.1.form2
        rw [hy.2.1] at hyv hyc
        have hyc := hyc (by omega)
        rw [hyv] at l2
        have hcn := cell_blk HI.out.hp 0
        have hnz := blk_lt HI.out.hp
        simp at hcn
        have hyb : y.1 < bs'.length := by rw [HBl.out]; exact hy.2.2
        obtain ⟨z, HZ⟩ : ∃ z, Hid (bs'[y.1]? = some z) := ⟨bs'[y.1]'hyb, hid (List.getElem?_eq_getElem _)⟩
        obtain ⟨l, HLl⟩ : ∃ l, Hid (((kept.take j).foldl (keepD d.wait) d.L)[y.1]? = some l) := ⟨((kept.take j).foldl (keepD d.wait) d.L)[y.1]'(by rw [← HI.out.hb]; exact hyb), hid (List.getElem?_eq_getElem _)⟩
        have hsec := HI.out.hl y.1 z l HZ.out HLl.out
        have hzz : z.1 < wr.heap.size := by obtain ⟨_, _, cur, h3, _⟩ := hsec; exact blk_lt h3
        have hbts := hy.1
        rw [hyv] at hbts
        obtain ⟨N, HN, hN⟩ : ∃ N, Hid (N = min x2.toNat 512) ∧ N ≤ 512 := ⟨_, hid rfl, Nat.min_le_right _ _⟩
        have HPut : Hid (∀ W, W.heap = ((wr.alloc (.cells #[.int .i64 (i : Int), .int .i64 x2] 62)).alloc (.cells #[.int .i64 (y.1 : Int), .slice ya 512 yc] 124)).heap →
            Calls Try.prog 80 #[.pointer (some ⟨sb', 0, none⟩), .int .i64 (y.1 : Int), .slice ya N yc] W fun e w' => e = .returned (.tuple #[]) ∧ SecIn w' z (y.2.2.take N ++ l.drop N) ∧ Ch (fun k => k = z.1) W w') := hid (by
          intro W hW
          have old : ∀ {k : Nat} {o : Obj}, wr.heap[k]? = some o → W.heap[k]? = some o := by
            intro k o ho
            rw [hW]
            exact heap_old (heap_old ho _) _
          have same : ∀ k, k < wr.heap.size → W.heap[k]? = wr.heap[k]? := by
            intro k hk
            rw [hW, Below.heap_alloc _ _ _ (by simp; omega), Below.heap_alloc _ _ _ hk]
          have hml : (y.2.2.take N).length = N := by simp [hy.2.1]; omega
          have := put_any (y.1 : Int) W (old HI.out.hs) (old HI.out.hr) rfl (by rw [← HI.out.hb]; exact hyb) HZ.out (hsec.frame (same z.1 hzz)) (m := y.2.2.take N) (v := .slice ya N yc) (by omega)
            ((hbts.less hN).frame (fun k hk => same k (by
              have := HC.out.size
              have h9 := H5.out k (H3.out y (List.mem_of_getElem? HY.out) k (by rw [hyv]; cases ya with | none => simp [Value.ownBlock] at hk | some q => exact hk)).1
              omega))) HI.out.n2
          rw [hml] at this
          exact this)
        have HKeep : Hid ((kept.take (j + 1)).foldl (keepD d.wait) d.L = ((kept.take j).foldl (keepD d.wait) d.L).set y.1 (y.2.2.take N ++ l.drop N)) := hid (by
          rw [List.take_add_one, HX.out, Option.toList_some, List.foldl_append, List.foldl_cons, List.foldl_nil]
          have hw : d.wait[i]? = some (y.1, y.2.2) := by rw [show d.wait = ws.map _ from H1.out.hwl, List.getElem?_map, HY.out]; rfl
          have hwl : d.wait.length = ws.length := by rw [show d.wait = ws.map _ from H1.out.hwl, List.length_map]
          rw [keepD, if_pos (by rw [hwl]; exact ⟨q1, q2⟩)]
          simp only [Int.toNat_natCast, hw, ← HN.out]
          rw [List.getD, HLl.out]
          rfl)
        have fin : Hid (∀ W w2, W.heap = ((wr.alloc (.cells #[.int .i64 (i : Int), .int .i64 x2] 62)).alloc (.cells #[.int .i64 (y.1 : Int), .slice ya 512 yc] 124)).heap → Ch (fun _ => False) wr W →
            SecIn w2 z (y.2.2.take N ++ l.drop N) → Ch (fun k => k = z.1) W w2 →
            DiskIn w2 w1.heap.size sb' rb' bs' (.slice none 0 0) [] { L := (kept.take (j + 1)).foldl (keepD d.wait) d.L, wait := [], steps := 0, fuse := -1, gone := false } ∧ Ch (fun _ => False) w w2) := hid (by
          intro W w2 hW hch1 hs2 hch2
          rw [HKeep.out]
          have hm : ∀ k ∈ mine w1.heap.size sb' rb' bs' (.slice none 0 0), k < wr.heap.size := by
            intro k hk
            simp only [mine, blockList, Value.ownBlock, List.nil_append, List.mem_cons] at hk
            rcases hk with rfl | rfl | rfl | hk
            · exact blk_lt HI.out.hp
            · exact blk_lt HI.out.hs
            · exact blk_lt HI.out.hr
            · have := (HB.out.new k (by simp only [List.mem_cons]; exact .inr (.inr (by simpa using hk)))).2
              have h8 := blk_lt HI.out.hp
              omega
          have hW1 := HI.out.frame (w' := W) (fun k hk => hch1.block k (hm k hk) (fun h => h)) (by simp)
          refine ⟨hW1.sector y.1 z _ HZ.out hs2 (fun k hk hne => hch2.block k hk hne) (by simp), ?_⟩
          have hz9 := HB.out.new z.1 (by simp; exact .inr (.inr ⟨z.2, List.mem_of_getElem? HZ.out⟩))
          exact (HC.out.trans hch1).then hch2 (fun k hk e => by omega))
        clear hsec hy hyv hbts HKeep
        obtain ⟨X, hX⟩ : ∃ X : Int, (if 512 < x2 then 512 else x2) = X := ⟨_, rfl⟩
        have hXN : (if 0 < X then X else 0) = (N : Int) := by
          rw [HN.out, ← hX]
          split <;> split at * <;> omega
        have hNyc : (N : Int) ≤ (yc : Int) := by omega
        go_wp2
        refine region_reads (by kernel_rfl) (by kernel_rfl) ?_
        repeat still_step
        refine wpStill_nil ?_
        go_wp2
        go_region
        all_goals go_wp2
        all_goals refine region_tail 13 (by kernel_rfl) (by kernel_rfl) ?_
        all_goals simp only [List.take_succ_cons, List.take_zero, List.drop_succ_cons, List.drop_zero]
        all_goals repeat still_step
        all_goals refine wpStill_nil ?_
        all_goals go_wp2_with (go_at_call 80; refine (HPut.out _ (by rfl)).mono ?_; rintro e w2 ⟨rfl, hs2, hc2⟩; have HF := hid (fin.out _ _ (by rfl) (by exact ((((Ch.refl _ wr).alloc _).alloc _).drew).drew.drew) hs2 hc2); clear hs2 hc2)
        all_goals go_roundw
        all_goals first
          | (case rel => exact ⟨j + 1, by go_num, by omega, hid HF.out.1, hid HF.out.2⟩)
          | (case measure => simp [intOf]; omega)
      · have HKeep : Hid ((kept.take (j + 1)).foldl (keepD d.wait) d.L = (kept.take j).foldl (keepD d.wait) d.L) := hid (by
          rw [List.take_add_one, HX.out, Option.toList_some, List.foldl_append, List.foldl_cons, List.foldl_nil]
          have hwl : d.wait.length = ws.length := by rw [show d.wait = ws.map _ from H1.out.hwl, List.length_map]
          rw [keepD, if_neg (by rw [hwl]; exact hkr)])
        have fin : Hid (DiskIn (wr.alloc (.cells #[.int .i64 x1, .int .i64 x2] 62)).drew w1.heap.size sb' rb' bs' (.slice none 0 0) [] { L := (kept.take (j + 1)).foldl (keepD d.wait) d.L, wait := [], steps := 0, fuse := -1, gone := false } ∧
            Ch (fun _ => False) w (wr.alloc (.cells #[.int .i64 x1, .int .i64 x2] 62)).drew) := hid (by
          rw [HKeep.out]
          have hm : ∀ k ∈ mine w1.heap.size sb' rb' bs' (.slice none 0 0), k < wr.heap.size := by
            intro k hk
            simp only [mine, blockList, Value.ownBlock, List.nil_append, List.mem_cons] at hk
            rcases hk with rfl | rfl | rfl | hk
            · exact blk_lt HI.out.hp
            · exact blk_lt HI.out.hs
            · exact blk_lt HI.out.hr
            · have := (HB.out.new k (by simp only [List.mem_cons]; exact .inr (.inr (by simpa using hk)))).2
              have h8 := blk_lt HI.out.hp
              omega
          exact ⟨HI.out.frame (fun k hk => Below.heap_alloc _ _ _ (hm k hk)) (by simp), (HC.out.alloc _).drew⟩)
        clear HKeep
        by_cases h0 : 0 ≤ x1
        · have h9 : ¬ x1 < ws.length := fun h => hkr ⟨h0, h⟩
          clear hkr
          go_wp2
          refine region_reads (by kernel_rfl) (by kernel_rfl) ?_
          repeat still_step
          refine wpStill_nil ?_
          go_wp2
          go_roundw
          case rel => exact ⟨j + 1, by go_num, by omega, hid fin.out.1, hid fin.out.2⟩
          case measure => simp [intOf]; omega
        · have hd : decide (0 ≤ x1) = false := decide_eq_false h0
          clear hkr
          go_wp2
          go_quiet (fail)
          go_wp2
          go_roundw
          case rel => exact ⟨j + 1, by go_num, by omega, hid (fin.out.1.frame (fun _ _ => rfl) (by simp)), hid (⟨fin.out.2.os, fin.out.2.tape, fin.out.2.output, fin.out.2.size, fin.out.2.block⟩)⟩
          case measure => simp [intOf]; omega
    · obtain rfl : j = kept.length := by omega
      go_wp2
      go_ret
      have hI := HI.out
      rw [List.take_of_length_le (Nat.le_refl _)] at hI
      have hz := HC.out.size
      have hz1 := HB.out.ch.size
      refine ⟨w1.heap.size, fun k => w.heap.size ≤ k ∧ k < wr.heap.size, rfl, ⟨sb', rb', bs', .slice none 0 0, [], hI, ?_, by simp, fun _ h => h, fun k hk => hk.2⟩, HC.out, fun k hk => hk.1⟩
      intro k hk
      simp only [mine, blockList, Value.ownBlock, List.nil_append, List.mem_cons] at hk
      rcases hk with rfl | rfl | rfl | hk
      · exact ⟨hz1, blk_lt hI.hp⟩
      · exact ⟨(HB.out.new _ (by simp)).1, blk_lt hI.hs⟩
      · exact ⟨(HB.out.new _ (by simp)).1, blk_lt hI.hr⟩
      · have h7 := HB.out.new k (by simp only [List.mem_cons]; exact .inr (.inr (by simpa using hk)))
        have h8 := blk_lt hI.hp
        exact ⟨h7.1, by omega⟩

end Go.Proofs.Ytadhibemadgcoaa
