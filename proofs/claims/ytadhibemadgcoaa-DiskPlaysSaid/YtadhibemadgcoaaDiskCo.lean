/- Package disk: Copy. Conditions: a disk as New makes it; not more than a million writes that wait. -/
import Derived.Test.YtadhibemadgcoaaDiskZ
namespace Go.Proofs.Ytadhibemadgcoaa
open Go.RowKit

theorem waits_one (ws : List (Nat × Value × List UInt8)) (h : ∀ x ∈ ws, ∃ a n c, x.2.1 = .slice a n c) : ∀ u ∈ waitCells ws, u.oneCell' = true := by
  intro u hu
  obtain ⟨x, hx, hx2⟩ := List.mem_flatMap.1 hu
  simp at hx2
  rcases hx2 with rfl | rfl
  · rfl
  · obtain ⟨a, n, c, e⟩ := h x hx
    rw [e]; rfl
theorem waitCells_length (ws : List (Nat × Value × List UInt8)) : (waitCells ws).length = ws.length * 2 := by
  induction ws with
  | nil => rfl
  | cons x l ih => show (_ :: _ :: waitCells l).length = _; simp [ih]; omega

/-- A copy in memory. -/
theorem DiskIn.copied {w w1 w2 w5 : World} {p sb rb sb' rb' : Nat} {bs bs' : List (Nat × Nat)} {wv wv' : Value} {ws : List (Nat × Value × List UInt8)} {d : Dk} {M F : Nat → Prop} (h : DiskIn w p sb rb bs wv ws d)
    (h3 : ∀ x ∈ ws, ∀ k, x.2.1.ownBlock = some k → F k ∧ ¬ M k) (h5 : ∀ k, F k → k < w.heap.size)
    (hz1 : w1.heap.size = w.heap.size + 1) (hB : Build w1 w2 sb' rb' d.L.length bs' d.L) (hbn : bs'.length = d.L.length) (hc : Ch (fun _ => False) w w5) (hz2 : w2.heap.size ≤ w5.heap.size)
    (hkeep : ∀ k, k < w2.heap.size → k ≠ w.heap.size → w5.heap[k]? = w2.heap[k]?)
    (hp : w5.heap[w.heap.size]? = some (.cells #[.pointer (some ⟨sb', 0, none⟩), wv', .int .i64 (d.steps : Int), .int .i64 d.fuse, .bool d.gone] 122 (0, 0)))
    (hw : w5.ownsRow w2.heap.size 124 2 wv' ws.length (waitCells ws)) :
    ∃ M' F', DiskAt w5 w.heap.size d M' F' ∧ (∀ k, M' k → w.heap.size ≤ k) ∧ (∀ k, F' k → (F k ∧ ¬ M k) ∨ w.heap.size ≤ k) := by
  have new := hB.new
  have hold : ∀ k ∈ (sb' :: rb' :: bs'.map Prod.fst), w5.heap[k]? = w2.heap[k]? := fun k hk => hkeep k (new k hk).2 (by have := (new k hk).1; omega)
  have hr := hB.hr
  rw [hbn, Nat.sub_self, List.replicate_zero, List.append_nil] at hr
  have hwn : ∀ k, wv'.ownBlock = some k → w2.heap.size ≤ k ∧ k < w5.heap.size := fun k hk => hw.lt k hk
  have z2 := hB.ch.size
  refine ⟨fun k => w.heap.size ≤ k ∧ k < w5.heap.size, fun k => (w.heap.size ≤ k ∧ k < w5.heap.size) ∨ (F k ∧ ¬ M k), ⟨sb', rb', bs', wv', ws, ⟨h.n1, h.n2, h.f1, h.f2, hp, ?_, ?_, hbn, ?_, ?_, h.hwl, ?_, ?_⟩, ?_, ?_, fun k hk => .inl hk, ?_⟩, fun k hk => hk.1, fun k hk => ?_⟩
  · rw [hold sb' (by simp)]; exact hB.hs
  · rw [hold rb' (by simp)]; exact hr
  · intro i x l hx hl
    exact (hB.hl i x l hx hl).frame (hold x.1 (by simp; exact .inr (.inr ⟨x.2, List.mem_of_getElem? hx⟩)))
  · refine ⟨hw.1, ?_⟩
    rcases hw.2 with h | ⟨g, cap, cur, e1, _, r⟩
    · exact .inl h
    · exact .inr ⟨g, cap, cur, e1, Nat.zero_le _, r⟩
  · intro x hx
    have := h.hwb x hx
    exact ⟨this.1.frame (fun k hk => hc.block k (h5 k (h3 x hx k hk).1) (fun h => h)), this.2⟩
  · have nd := hB.nd
    cases hv : wv'.ownBlock with
    | none =>
      have : blockList wv' = [] := by simp [blockList, hv]
      rw [this]
      exact List.nodup_cons.2 ⟨fun hm => by have := (new _ (by simpa using hm)).1; omega, by simpa using nd⟩
    | some g =>
      have hb : blockList wv' = [g] := by simp [blockList, hv]
      rw [hb]
      have hg := (hwn g hv).1
      have hperm : (w.heap.size :: sb' :: rb' :: ([g] ++ bs'.map Prod.fst)).Perm (g :: (w.heap.size :: sb' :: rb' :: bs'.map Prod.fst)) := by
        have e3 : w.heap.size :: sb' :: rb' :: ([g] ++ bs'.map Prod.fst) = [w.heap.size, sb', rb'] ++ g :: (bs'.map Prod.fst) := rfl
        rw [e3]
        exact List.perm_middle
      refine hperm.nodup_iff.2 (List.nodup_cons.2 ⟨fun hm => ?_, List.nodup_cons.2 ⟨fun hm => by have := (new _ hm).1; omega, nd⟩⟩)
      rcases List.mem_cons.1 hm with e | e
      · omega
      · have := (new _ e).2; omega
  · intro k hk
    simp only [mine, List.mem_cons, List.mem_append] at hk
    have hin : ∀ k ∈ (sb' :: rb' :: bs'.map Prod.fst), w.heap.size ≤ k ∧ k < w5.heap.size := fun k hk => by have := new k hk; omega
    rcases hk with rfl | rfl | rfl | hk | hk
    · exact ⟨Nat.le_refl _, blk_lt hp⟩
    · exact hin _ (by simp)
    · exact hin _ (by simp)
    · unfold blockList at hk
      cases hv : wv'.ownBlock with
      | none => rw [hv] at hk; simp at hk
      | some g => rw [hv] at hk; simp at hk; subst hk; have := hwn _ hv; omega
    · exact hin _ (by simp only [List.mem_cons]; exact .inr (.inr hk))
  · intro x hx k hk
    have hf := h3 x hx k hk
    exact ⟨.inr hf, fun hm => by have := h5 k hf.1; omega⟩
  · intro k hk
    rcases hk with hk | hk
    · exact hk.2
    · have := h5 k hk.1; have := hc.size; omega
  · rcases hk with hk | hk
    · exact .inr hk.1
    · exact .inl hk

def CopyPost (w : World) (d : Dk) (M F : Nat → Prop) (e : Ending) (w' : World) : Prop := ∃ p' M' F', e = .returned (.pointer (some ⟨p', 0, none⟩)) ∧ DiskAt w' p' d M' F' ∧ Ch (fun _ => False) w w' ∧ (∀ k, M' k → w.heap.size ≤ k) ∧ (∀ k, F' k → (F k ∧ ¬ M k) ∨ w.heap.size ≤ k)

set_option maxRecDepth 20000 in
set_option maxHeartbeats 2000000 in
theorem copy_any {p : Nat} {d : Dk} {M F : Nat → Prop} (w : World) (h : DiskAt w p d M F) (hwt : d.wait.length ≤ 1000000) :
    Calls Try.prog 48 #[.pointer (some ⟨p, 0, none⟩)] w (CopyPost w d M F) := by
  have HM := hid (made_any w h)
  obtain ⟨sb, rb, bs, wv, ws, h1, h2, h3, h4, h5⟩ := h
  have hp0 := cell_blk h1.hp 0
  have hp1 := cell_blk h1.hp 1
  have hp2 := cell_blk h1.hp 2
  have hp3 := cell_blk h1.hp 3
  have hp4 := cell_blk h1.hp 4
  simp at hp0 hp1 hp2 hp3 hp4
  have hpz := blk_lt h1.hp
  have hnp : ¬ p = w.heap.size := by omega
  obtain ⟨wa, wc, hwv⟩ := owns_form h1.hw
  subst hwv
  have hwl : d.wait.length = ws.length := by rw [show d.wait = ws.map _ from h1.hwl, List.length_map]
  obtain ⟨st, HSt⟩ : ∃ st : Int, Hid ((d.steps : Int) = st) := ⟨_, hid rfl⟩
  obtain ⟨fu, HFu⟩ : ∃ fu : Int, Hid (d.fuse = fu) := ⟨_, hid rfl⟩
  obtain ⟨go, HGo⟩ : ∃ go, Hid (d.gone = go) := ⟨_, hid rfl⟩
  rw [HSt.out] at hp2
  rw [HFu.out] at hp3
  rw [HGo.out] at hp4
  have ca := (Ch.refl (fun _ => False) w).alloc (.cells #[.pointer (some ⟨sb, 0, none⟩), .slice wa ws.length wc, .int .i64 st, .int .i64 fu, .bool go] 122)
  have hI1 := h1.frame (w' := w.alloc (.cells #[.pointer (some ⟨sb, 0, none⟩), .slice wa ws.length wc, .int .i64 st, .int .i64 fu, .bool go] 122)) (fun k hk => ca.block k (h5 k (h4 k (h2 k hk))) (fun h => h)) (fun y hy k hk => ca.block k (h5 k (h3 y hy k hk).1) (fun h => h))
  have HSame := hid (same_any _ hI1.n2 hI1.hs hI1.hr hI1.hb rfl hI1.hl)
  have H1 := hid h1
  have H3 := hid h3
  have H4 := hid h4
  have H5 := hid h5
  have H2 := hid h2
  have HWl : Hid (ws.length ≤ 1000000) := hid (by omega)
  clear h1 h2 h3 h4 h5 hI1 ca hwl hwt
  go_enter Try.func48, Try.ntmps48
  go_wp2_with (go_at_call 78; refine HM.out.mono ?_; rintro e w' ⟨rfl, rfl⟩)
  refine HSame.out.mono ?_
  rintro e w2 ⟨sb', rb', bs', rfl, hb', hB⟩
  have hz2 := hB.ch.size
  simp at hz2
  have hpo : w2.heap[w.heap.size]? = some (.cells #[.pointer (some ⟨sb, 0, none⟩), .slice wa ws.length wc, .int .i64 st, .int .i64 fu, .bool go] 122 (0, 0)) := hB.ch.keep (heap_new _) (fun h => h)
  have cw2 : Ch (fun _ => False) w w2 := ((Ch.refl (fun _ => False) w).alloc _).trans hB.ch
  have hpo0 := cell_blk hpo 0
  have hpf0 := frozen_blk hpo 0
  simp at hpo0
  have cw3 : Ch (fun _ => False) w (w2.setCell ⟨w.heap.size, 0, none⟩ (.pointer (some ⟨sb', 0, none⟩))) := cw2.setCell (fun h => by have : w.heap.size < w.heap.size := h; omega) _
  have hwo : (w2.setCell ⟨w.heap.size, 0, none⟩ (.pointer (some ⟨sb', 0, none⟩))).ownsRow 0 124 2 (.slice wa ws.length wc) ws.length (waitCells ws) := ownsRow_frame H1.out.hw (fun k hk => cw3.block k (H5.out k (H4.out k (H2.out k (by simp only [mine, List.mem_cons, List.mem_append]; exact .inr (.inr (.inr (.inl (mem_blockList hk)))))))) (fun h => h))
  obtain ⟨v', w4, hrun, hown, hch⟩ := run_clone_row (P := Try.prog) (w2.setCell ⟨w.heap.size, 0, none⟩ (.pointer (some ⟨sb', 0, none⟩))) 120 120 124 (.agg #[.int .i64 0, .slice none 0 0]) 2 32 Try.underlying120 Try.info124 rfl (by omega) _ ws.length (waitCells ws) hwo
    (waits_one ws (fun x hx => by obtain ⟨a, c, e⟩ := (H1.out.hwb x hx).1.form; exact ⟨a, _, c, e⟩)) (by have := HWl.out; unfold maxLen; omega) (by have := HWl.out; omega)
  obtain ⟨va, vc, rfl⟩ := owns_form hown
  have hz4 := hch.size
  simp [World.setCell] at hz4
  have hpo3 : (w2.setCell ⟨w.heap.size, 0, none⟩ (.pointer (some ⟨sb', 0, none⟩))).heap[w.heap.size]? = some (.cells #[.pointer (some ⟨sb', 0, none⟩), .slice wa ws.length wc, .int .i64 st, .int .i64 fu, .bool go] 122 (0, 0)) := by rw [heap_set hpo 0 _]; rfl
  have hpo4 := hch.keep hpo3 (fun h => h)
  have k1 := cell_blk hpo4 1
  have kf := frozen_blk hpo4 1
  simp at k1
  have hp1b : w2.cell? ⟨p, 1, none⟩ = some (.slice wa ws.length wc) := by rw [World.cell?_of_block (cw2.block p hpz (fun h => h))]; exact hp1
  have hnz : ¬ p = w2.heap.size := by omega
  have hp3b : ((w2.setCell ⟨w.heap.size, 0, none⟩ (.pointer (some ⟨sb', 0, none⟩))).alloc (.cells #[] 124)).cell? ⟨p, 1, none⟩ = some (.slice wa ws.length wc) := by
    rw [World.cell?_of_block ((cw3.alloc _).block p hpz (fun h => h))]; exact hp1
  have hzz0 : (w2.setCell ⟨w.heap.size, 0, none⟩ (.pointer (some ⟨sb', 0, none⟩))).heap.size = w2.heap.size := by simp [World.setCell]
  rw [hzz0] at hrun
  have HR := hid hrun
  clear hzz0
  have fin : Hid (∀ w5, w5 = w4.setCell ⟨w.heap.size, 1, none⟩ (.slice va ws.length vc) → CopyPost w d M F (.returned (.pointer (some ⟨w.heap.size, 0, none⟩))) w5) := hid (by
    rintro w5 rfl
    have hown5 : (w4.setCell ⟨w.heap.size, 1, none⟩ (.slice va ws.length vc)).ownsRow w2.heap.size 124 2 (.slice va ws.length vc) ws.length (waitCells ws) := by
      have hzz : (w2.setCell ⟨w.heap.size, 0, none⟩ (.pointer (some ⟨sb', 0, none⟩))).heap.size = w2.heap.size := by simp [World.setCell]
      rw [hzz] at hown
      exact ownsRow_frame hown fun k hk => Below.heap_setCell _ _ _ _ (by have := (hown.lt k hk).1; show k ≠ w.heap.size; omega)
    have cw5 : Ch (fun _ => False) w (w4.setCell ⟨w.heap.size, 1, none⟩ (.slice va ws.length vc)) := (cw3.trans hch).setCell (fun h => by have : w.heap.size < w.heap.size := h; omega) _
    obtain ⟨M', F', g1, g2, g3⟩ := H1.out.copied (w1 := w.alloc (.cells #[.pointer (some ⟨sb, 0, none⟩), .slice wa ws.length wc, .int .i64 st, .int .i64 fu, .bool go] 122)) H3.out H5.out (by simp) hB hb' cw5 (by simp [World.setCell]; omega)
      (fun k hk hne => by
        rw [Below.heap_setCell _ _ _ _ hne, hch.block k (by simpa [World.setCell] using hk) (fun h => h)]
        exact Below.heap_setCell _ _ _ _ hne)
      (by rw [heap_set hpo4 1 _, HSt.out, HFu.out, HGo.out]; rfl) hown5
    exact ⟨w.heap.size, M', F', rfl, g1, cw5, g2, g3⟩)
  clear hB hpo cw2 cw3 hwo hrun hown hch hpo3 hpo4 hz4 hb' hp2 hp3 hp4 hp0 HSame
  go_wp2_with (at_builtin; refine wpList_append_run rfl (.tmp 16) (.tmp 20) 120 120 rfl _ _ HR.out ?_)
  go_ret
  exact fin.out _ rfl

end Go.Proofs.Ytadhibemadgcoaa
