/- Package disk: Write, where it waits; Write in one contract. Conditions: not more than a million steps and writes that wait. -/
import Derived.Test.YtadhibemadgcoaaDiskE
namespace Go.Proofs.Ytadhibemadgcoaa
open Go.RowKit

theorem slice_of_owns {w : World} {base e size : Nat} {v : Value} {n : Nat} {xs : List Value} (h : w.ownsRow base e size v n xs) (hn : 0 < n) : ∃ g cap, v = .slice (some ⟨g, 0, none⟩) n cap ∧ g < w.heap.size := by
  rcases h.2 with ⟨_, h0⟩ | ⟨g, cap, cur, rfl, _, hg, _⟩
  · omega
  · exact ⟨g, cap, rfl, blk_lt hg⟩

set_option maxRecDepth 20000 in
set_option maxHeartbeats 1000000 in
theorem write_ok {p : Nat} {d : Dk} {M F : Nat → Prop} (a : Nat) (x : Option Addr) (cap : Nat) (b : List UInt8) (w : World) (h : DiskAt w p d M F) (hr : a < d.L.length) (hg : ¬ (d.gone = true ∨ d.fuse = 0)) (hst : d.steps ≤ 1000000) (hwt : d.wait.length ≤ 1000000)
    (hb : Bts w (.slice x 512 cap) b) (hb12 : b.length = 512) (hbM : ∀ k, (Value.slice x 512 cap).ownBlock = some k → ¬ M k) :
    Calls Try.prog 25 #[.pointer (some ⟨p, 0, none⟩), .int .i64 a, .slice x 512 cap] w fun e w' => e = .returned (.int .i64 0) ∧
      ∃ M' F', DiskAt w' p { stepY d with wait := d.wait ++ [(a, b)] } M' F' ∧ Fresh w M M' ∧ Fresh w F F' ∧ Ch M w w' := by
  have HM := hid (made_any w h)
  have HS := hid (step_yes w h hst hg)
  have HT : Hid (∃ sb rb n, w.cell? ⟨p, 0, none⟩ = some (.pointer (some ⟨sb, 0, none⟩)) ∧ n = d.L.length ∧ n ≤ 4096 ∧ w.heap[sb]? = some (.cells #[.slice (some ⟨rb, 0, none⟩) n n] 129 (0, 0))) := by
    obtain ⟨sb, rb, bs, wv, ws, h1, _⟩ := h
    exact ⟨sb, rb, _, by rw [cell_blk h1.hp]; rfl, rfl, h1.n2, h1.hs⟩
  obtain ⟨sb0, rb0, n0, hc0, hN, hn4, HSB⟩ := HT.out
  have HN := hid hN
  clear hN
  have HT2 := hid (there_any (a : Int) w hn4 HSB)
  rw [decide_eq_true (show 0 ≤ (a : Int) ∧ (a : Int) < (n0 : Int) by have := HN.out; omega)] at HT2
  have HBM := hid hbM
  have HBt := hid hb
  have HR0 := hid hr
  clear HSB HT h hr hg hst hbM hb
  go_enter Try.func25, Try.ntmps25
  go_wp2_with (first | (go_at_call 78; refine HM.out.mono ?_; rintro e w' ⟨rfl, rfl⟩) | (go_at_call 82; refine HT2.out.mono ?_; rintro e w' ⟨rfl, rfl⟩) | (go_at_call 79; refine HS.out.mono ?_; rintro e w1 ⟨rfl, hD, hch⟩; have HD := hid hD; clear hD))
  obtain ⟨sb, rb, bs, wv, ws, h1, h2, h3, h4, h5⟩ := HD.out
  have hMp : M p := h2 p (by simp [mine])
  have hpF := h5 p (h4 p hMp)
  have hb1 : Bts w1 (.slice x 512 cap) b := HBt.out.ch hch HBM.out
  obtain ⟨v', w2, hrun, hown, hch2⟩ := run_clone_bts_drew (P := Try.prog) w1 35 35 5 Try.underlying35 Try.info5 _ b hb1 (by omega)
  rw [hb12] at hown
  obtain ⟨y, rfl, hy, hy2⟩ := sec_of_owns hown hb12
  have hyz : y.1 < w2.heap.size := by obtain ⟨_, _, cur, h3, _⟩ := hy; exact blk_lt h3
  have hwl : d.wait.length = ws.length := by rw [show d.wait = ws.map _ from h1.hwl, List.length_map]
  have hsz2 := hch2.size
  -- the world behind the write's own struct
  have hown3 : (w2.alloc (.cells #[.int .i64 (a : Int), secV y] 124)).ownsRow 0 124 2 wv ws.length (waitCells ws) := by
    refine ownsRow_frame h1.hw fun k hk => ?_
    have hk1 : k < w1.heap.size := h5 k (h4 k (h2 k (by simp only [mine, List.mem_cons, List.mem_append]; exact .inr (.inr (.inr (.inl (mem_blockList hk)))))))
    rw [Below.heap_alloc _ _ _ (by omega)]
    exact hch2.block k hk1 (fun h => h)
  obtain ⟨v2, w4, hrun2, hown4, hch4, hv2⟩ := run_append_own2 (P := Try.prog) (w2.alloc (.cells #[.int .i64 (a : Int), secV y] 124)) 120 120 124 (.agg #[.int .i64 0, .slice none 0 0]) 2 32 Try.underlying120 Try.info124 rfl (by omega) wv ws.length (waitCells ws) hown3
    ⟨w2.heap.size, 0, none⟩ 1 1 [.int .i64 (a : Int), secV y] rfl (by
      intro j u hu
      rw [add_plain, cell_blk (heap_new _), Nat.zero_add]
      simpa using hu) (by intro u hu; simp at hu; rcases hu with rfl | rfl <;> rfl) (by unfold maxLen; omega) (by omega)
  obtain ⟨g, cap2, rfl, hgz⟩ := slice_of_owns hown4 (by omega)
  have hsz4 := hch4.size
  simp at hsz4
  have hp1 := cell_blk h1.hp 1
  have hp2 := cell_blk (hch2.keep h1.hp (fun h => h)) 1
  have hwvp : wv.ownBlock ≠ some p := by
    intro e
    have nd := h1.nd
    simp only [List.nodup_cons, List.mem_cons, List.mem_append, not_or] at nd
    exact nd.1.2.2.1 (mem_blockList e)
  have hpw4 : w4.heap[p]? = some (.cells #[.pointer (some ⟨sb, 0, none⟩), wv, .int .i64 ((stepY d).steps : Int), .int .i64 (stepY d).fuse, .bool (stepY d).gone] 122 (0, 0)) :=
    hch4.keep (heap_old (hch2.keep h1.hp (fun h => h)) _) hwvp
  have hp4 := cell_blk hpw4 1
  have hf4 := frozen_blk hpw4 1
  simp at hp1 hp2 hp4
  have hpz1 : p < w1.heap.size := hpF
  have hpz2 : p < w2.heap.size := by omega
  have hnp : ¬ p = w2.heap.size := by omega
  have hnp1 : ¬ p = w1.heap.size := by omega
  have HR1 := hid hrun
  have HR2 := hid hrun2
  unfold secV at HR1 HR2
  have fin : Hid (∀ w5, w5 = w4.setCell ⟨p, 1, none⟩ (.slice (some ⟨g, 0, none⟩) (ws.length + 1) cap2) →
      ∃ M' F', DiskAt w5 p { stepY d with wait := d.wait ++ [(a, b)] } M' F' ∧ Fresh w M M' ∧ Fresh w F F' ∧ Ch M w w5) := hid (by
    rintro w5 rfl
    have hgp : g ≠ p := by
      rcases hv2 with e | e
      · exact fun h => hwvp (by rw [← e, h]; rfl)
      · have := e g rfl; simp at this; omega
    have hyp : y.1 ≠ p := by omega
    have hyw : wv.ownBlock ≠ some y.1 := by
      intro e
      have := h5 y.1 (h4 _ (h2 _ (by simp only [mine, List.mem_cons, List.mem_append]; exact .inr (.inr (.inr (.inl (mem_blockList e)))))))
      omega
    obtain ⟨M', F', q1, q2, q3⟩ := DiskIn.more (w5 := w4.setCell ⟨p, 1, none⟩ (.slice (some ⟨g, 0, none⟩) (ws.length + 1) cap2)) h1 h2 h3 h4 h5 (.slice (some ⟨g, 0, none⟩) (ws.length + 1) cap2) a y b HR0.out
      (by
        have e1 : SecIn (w2.alloc (.cells #[.int .i64 (a : Int), secV y] 124)) y b := hy.frame (Below.heap_alloc _ _ _ hyz)
        have e2 : SecIn w4 y b := e1.frame (hch4.block y.1 (by simp; omega) hyw)
        exact e2.frame (Below.heap_setCell _ _ _ _ hyp)) hy2
      (ownsRow_frame hown4 (fun k hk => Below.heap_setCell _ _ _ _ (by simp [Value.ownBlock] at hk; subst hk; exact hgp)))
      (by
        rcases hv2 with e | e
        · exact .inl e
        · refine .inr fun k hk => ?_
          have := e k hk
          simp at this
          simp [Value.ownBlock] at hk
          subst hk
          exact ⟨by omega, by simpa [World.setCell] using hgz⟩)
      (by rw [heap_set hpw4]; rfl)
      (fun k hk hkp hkw => by
        rw [Below.heap_setCell _ _ _ _ hkp, hch4.block k (by simp; omega) hkw, Below.heap_alloc _ _ _ (by omega)]
        exact hch2.block k hk (fun h => h))
      (by simp [World.setCell]; omega)
    refine ⟨M', F', q1, fun k hk => ?_, fun k hk => ?_, ?_⟩
    · have := hch.size
      rcases q2 k hk with h | h
      · exact .inl h
      · exact .inr (by omega)
    · have := hch.size
      rcases q3 k hk with h | h
      · exact .inl h
      · exact .inr (by omega)
    · have c1 : Ch M w w2 := hch.then hch2 (fun _ _ h => h.elim)
      have c2 := (c1.alloc (.cells #[.int .i64 (a : Int), secV y] 124)).then hch4 (fun i hi e => h2 i (by simp only [mine, List.mem_cons, List.mem_append]; exact .inr (.inr (.inr (.inl (mem_blockList e))))))
      exact c2.setCell (fun _ => hMp) _)
  clear h1 h2 h3 h4 h5 hb1 hrun hown hy hown3 hrun2 hown4 hch4 hv2 hpw4 hch2 hwvp hgz hsz2 hsz4 hyz hy2
  go_region_law (first | (refine step_append_run rfl (.tmp 34) (.tmp 35) 35 35 rfl _ _ HR1.out ?_) | (refine step_append_run rfl (.tmp 32) (.tmp 38) 120 120 rfl _ _ HR2.out ?_))
  all_goals go_wp2
  all_goals go_ret
  all_goals exact ⟨rfl, fin.out _ rfl⟩

theorem Fresh.refl (w : World) (A : Nat → Prop) : Fresh w A A := fun _ h => .inl h

theorem write_any {p : Nat} {d : Dk} {M F : Nat → Prop} (a : Int) (x : Option Addr) (len cap : Nat) (b : List UInt8) (w : World) (h : DiskAt w p d M F) (hst : d.steps ≤ 1000000) (hwt : d.wait.length ≤ 1000000)
    (hb : Bts w (.slice x len cap) b) (hbl : b.length = len) (hbM : ∀ k, (Value.slice x len cap).ownBlock = some k → ¬ M k) :
    Calls Try.prog 25 #[.pointer (some ⟨p, 0, none⟩), .int .i64 a, .slice x len cap] w fun e w' => e = .returned (.int .i64 ((writeD d a b).1 : Nat)) ∧
      ∃ M' F', DiskAt w' p (writeD d a b).2 M' F' ∧ Fresh w M M' ∧ Fresh w F F' ∧ Ch M w w' := by
  by_cases h1 : len = 512
  · subst h1
    by_cases h2 : 0 ≤ a ∧ a < d.L.length
    · by_cases h3 : d.gone = true ∨ d.fuse = 0
      · have e : writeD d a b = (9, { d with gone := true }) := by
          rw [writeD, if_neg (by omega), if_neg (fun h => h h2), stepD_no h3, if_pos rfl]
        rw [e]
        exact (write_power a x cap w h h2 h3).mono fun e w' ⟨he, hD, hc⟩ => ⟨he, M, F, hD, Fresh.refl _ _, Fresh.refl _ _, hc⟩
      · have e : writeD d a b = (0, { stepY d with wait := d.wait ++ [(a.toNat, b)] }) := by
          rw [writeD, if_neg (by omega), if_neg (fun h => h h2), stepD_yes h3, if_neg (by simp)]
        rw [e]
        obtain ⟨n, rfl⟩ := Int.eq_ofNat_of_zero_le h2.1
        exact write_ok n x cap b w h (by omega) h3 hst hwt hb hbl hbM
    · have e : writeD d a b = (3, d) := by rw [writeD, if_neg (by omega), if_pos h2]
      rw [e]
      exact (write_range a x cap w h h2).mono fun e w' ⟨he, hw⟩ => ⟨he, M, F, hw ▸ h, Fresh.refl _ _, Fresh.refl _ _, hw ▸ Ch.refl _ _⟩
  · have e : writeD d a b = (2, d) := by rw [writeD, if_pos (by omega)]
    rw [e]
    exact (write_arg a x len cap w h h1).mono fun e w' ⟨he, hw⟩ => ⟨he, M, F, hw ▸ h, Fresh.refl _ _, Fresh.refl _ _, hw ▸ Ch.refl _ _⟩

end Go.Proofs.Ytadhibemadgcoaa
