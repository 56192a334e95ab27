/- Package disk: Write. Conditions: a disk as New makes it, or none; not more than a million steps and writes that wait. -/
import Derived.Test.YtadhibemadgcoaaDiskD
namespace Go.Proofs.Ytadhibemadgcoaa
open Go.RowKit

theorem Try.info124 : (Try.prog.info? 124).map (fun i => (i.zero, i.size, i.bytes)) = some (some (.agg #[.int .i64 0, .slice none 0 0]), 2, 32) := by kernel_rfl

theorem stepD_no {d : Dk} (h : d.gone = true ∨ d.fuse = 0) : stepD d = (false, { d with gone := true }) := by rw [stepD, if_pos h]
theorem stepD_yes {d : Dk} (h : ¬ (d.gone = true ∨ d.fuse = 0)) : stepD d = (true, stepY d) := by rw [stepD, if_neg h]

theorem write_none (a : Int) (x : Option Addr) (len cap : Nat) (w : World) : Calls Try.prog 25 #[.pointer none, .int .i64 a, .slice x len cap] w fun e w' => e = .returned (.int .i64 1) ∧ w = w' := by
  go_enter Try.func25, Try.ntmps25
  go_wp2_with (go_at_call 78; refine (made_none _).mono ?_; rintro e w' ⟨rfl, rfl⟩)
  go_ret
  exact ⟨rfl, rfl⟩

theorem write_arg {p : Nat} {d : Dk} {M F : Nat → Prop} (a : Int) (x : Option Addr) (len cap : Nat) (w : World) (h : DiskAt w p d M F) (hl : len ≠ 512) :
    Calls Try.prog 25 #[.pointer (some ⟨p, 0, none⟩), .int .i64 a, .slice x len cap] w fun e w' => e = .returned (.int .i64 2) ∧ w = w' := by
  have hq : ((len : Int) != 512) = true := by rw [bne_iff_ne]; omega
  have HM := hid (made_any w h)
  clear hl h
  go_enter Try.func25, Try.ntmps25
  go_wp2_with (go_at_call 78; refine HM.out.mono ?_; rintro e w' ⟨rfl, rfl⟩)
  go_ret
  exact ⟨rfl, rfl⟩

theorem write_range {p : Nat} {d : Dk} {M F : Nat → Prop} (a : Int) (x : Option Addr) (cap : Nat) (w : World) (h : DiskAt w p d M F) (hr : ¬ (0 ≤ a ∧ a < d.L.length)) :
    Calls Try.prog 25 #[.pointer (some ⟨p, 0, none⟩), .int .i64 a, .slice x 512 cap] w fun e w' => e = .returned (.int .i64 3) ∧ w = w' := by
  have HM := hid (made_any w h)
  obtain ⟨sb, rb, bs, wv, ws, h1, _⟩ := h
  have HT := hid (there_any a w h1.n2 h1.hs)
  rw [decide_eq_false hr] at HT
  have hc := cell_blk h1.hp 0
  simp at hc
  clear h1 hr
  go_enter Try.func25, Try.ntmps25
  go_wp2_with (first | (go_at_call 78; refine HM.out.mono ?_; rintro e w' ⟨rfl, rfl⟩) | (go_at_call 82; refine HT.out.mono ?_; rintro e w' ⟨rfl, rfl⟩))
  go_ret
  exact ⟨rfl, rfl⟩

theorem write_power {p : Nat} {d : Dk} {M F : Nat → Prop} (a : Int) (x : Option Addr) (cap : Nat) (w : World) (h : DiskAt w p d M F) (hr : 0 ≤ a ∧ a < d.L.length) (hg : d.gone = true ∨ d.fuse = 0) :
    Calls Try.prog 25 #[.pointer (some ⟨p, 0, none⟩), .int .i64 a, .slice x 512 cap] w fun e w' => e = .returned (.int .i64 9) ∧ DiskAt w' p { d with gone := true } M F ∧ Ch M w w' := by
  have HM := hid (made_any w h)
  have HS := hid (step_no w h hg)
  obtain ⟨sb, rb, bs, wv, ws, h1, _⟩ := h
  have HT := hid (there_any a w h1.n2 h1.hs)
  rw [decide_eq_true hr] at HT
  have hc := cell_blk h1.hp 0
  simp at hc
  clear h1 hr hg
  go_enter Try.func25, Try.ntmps25
  go_wp2_with (first | (go_at_call 78; refine HM.out.mono ?_; rintro e w' ⟨rfl, rfl⟩) | (go_at_call 82; refine HT.out.mono ?_; rintro e w' ⟨rfl, rfl⟩) | (go_at_call 79; refine HS.out.mono ?_; rintro e w1 ⟨rfl, hD, hch⟩))
  go_ret
  exact ⟨rfl, hD, hch⟩

/-- The disk behind a write that waits: in memory. -/
theorem DiskIn.more {w w5 : World} {p sb rb : Nat} {bs : List (Nat × Nat)} {wv : Value} {ws : List (Nat × Value × List UInt8)} {d : Dk} {M F : Nat → Prop} (h : DiskIn w p sb rb bs wv ws d)
    (h2 : ∀ k ∈ mine p sb rb bs wv, M k) (h3 : ∀ x ∈ ws, ∀ k, x.2.1.ownBlock = some k → F k ∧ ¬ M k) (h4 : ∀ k, M k → F k) (h5 : ∀ k, F k → k < w.heap.size)
    (v2 : Value) (a : Nat) (y : Nat × Nat) (b : List UInt8) (ha : a < d.L.length) (hy : SecIn w5 y b) (hy1 : w.heap.size ≤ y.1)
    (hown : w5.ownsRow 0 124 2 v2 (ws.length + 1) (waitCells ws ++ [.int .i64 (a : Int), secV y]))
    (hv2 : v2.ownBlock = wv.ownBlock ∨ ∀ k, v2.ownBlock = some k → y.1 < k ∧ k < w5.heap.size)
    (hp : w5.heap[p]? = some (.cells #[.pointer (some ⟨sb, 0, none⟩), v2, .int .i64 (d.steps : Int), .int .i64 d.fuse, .bool d.gone] 122 (0, 0)))
    (hk : ∀ k, k < w.heap.size → k ≠ p → wv.ownBlock ≠ some k → w5.heap[k]? = w.heap[k]?) (_hz : w.heap.size ≤ w5.heap.size) :
    ∃ M' F', DiskAt w5 p { d with wait := d.wait ++ [(a, b)] } M' F' ∧ Fresh w M M' ∧ Fresh w F F' := by
  have nd := h.nd
  have nd2 := nd
  simp only [List.nodup_cons, List.mem_cons, List.mem_append, not_or] at nd2
  obtain ⟨⟨n1, n2, n3, n4⟩, ⟨n5, n6, n7⟩, ⟨n8, n9⟩, n10⟩ := nd2
  have hb12 : b.length = 512 := hy.1
  have hyz : y.1 < w5.heap.size := by obtain ⟨_, _, cur, h3, _⟩ := hy; exact blk_lt h3
  have hML : ∀ k, M k → k < w.heap.size := fun k hk => h5 k (h4 k hk)
  have mem : ∀ k ∈ mine p sb rb bs wv, k < w.heap.size := fun k hk => hML k (h2 k hk)
  have notwv : ∀ k, k ∈ blockList wv ↔ wv.ownBlock = some k := by
    intro k; unfold blockList; cases wv.ownBlock <;> simp [eq_comm]
  refine ⟨fun k => M k ∨ v2.ownBlock = some k, fun k => F k ∨ v2.ownBlock = some k ∨ k = y.1, ⟨sb, rb, bs, v2, ws ++ [(a, secV y, b)], ?_, ?_, ?_, ?_, ?_⟩, ?_, ?_⟩
  · refine ⟨h.n1, h.n2, h.f1, h.f2, hp, ?_, ?_, h.hb, ?_, ?_, ?_, ?_, ?_⟩
    · exact (hk sb (mem sb (by simp [mine])) (Ne.symm n1) (fun e => n6 ((notwv sb).2 e))).trans h.hs
    · exact (hk rb (mem rb (by simp [mine])) (Ne.symm n2) (fun e => n8 ((notwv rb).2 e))).trans h.hr
    · intro i x l hx hl
      have hx1 : x.1 ∈ bs.map Prod.fst := List.mem_map.2 ⟨x, List.mem_of_getElem? hx, rfl⟩
      refine (h.hl i x l hx hl).frame (hk x.1 (mem x.1 (by simp only [mine, List.mem_cons, List.mem_append]; exact .inr (.inr (.inr (.inr hx1))))) (fun e => n4 (e ▸ hx1)) (fun e => ?_))
      have := List.nodup_append.1 n10
      exact this.2.2 x.1 ((notwv x.1).2 e) x.1 hx1 rfl
    · have e : waitCells (ws ++ [(a, secV y, b)]) = waitCells ws ++ [.int .i64 (a : Int), secV y] := by simp [waitCells]
      rw [e, List.length_append]
      exact hown
    · rw [List.map_append, ← h.hwl]; rfl
    · intro x hx
      rcases List.mem_append.1 hx with hx | hx
      · have := h.hwb x hx
        refine ⟨this.1.frame (fun k hkk => ?_), this.2⟩
        have hf := h3 x hx k hkk
        exact hk k (h5 k hf.1) (fun e => hf.2 (e ▸ h2 p (by simp [mine]))) (fun e => hf.2 (h2 k (by simp only [mine, List.mem_cons, List.mem_append]; exact .inr (.inr (.inr (.inl ((notwv k).2 e)))))))
      · simp at hx
        subst hx
        exact ⟨hy.bts, hb12, ha⟩
    · rcases hv2 with e | e
      · unfold blockList; rw [e]; exact nd
      · cases hv : v2.ownBlock with
        | none => 
          have : blockList v2 = [] := by simp [blockList, hv]
          rw [this]
          have s : (p :: sb :: rb :: ([] ++ bs.map Prod.fst)).Sublist (p :: sb :: rb :: (blockList wv ++ bs.map Prod.fst)) := by
            refine List.Sublist.cons_cons _ (List.Sublist.cons_cons _ (List.Sublist.cons_cons _ ?_))
            exact List.sublist_append_right _ _
          exact s.nodup nd
        | some g =>
          have : blockList v2 = [g] := by simp [blockList, hv]
          rw [this]
          have hg := (e g hv).1
          have s : (p :: sb :: rb :: ([] ++ bs.map Prod.fst)).Nodup := by
            have s : (p :: sb :: rb :: ([] ++ bs.map Prod.fst)).Sublist (p :: sb :: rb :: (blockList wv ++ bs.map Prod.fst)) := by
              refine List.Sublist.cons_cons _ (List.Sublist.cons_cons _ (List.Sublist.cons_cons _ ?_))
              exact List.sublist_append_right _ _
            exact s.nodup nd
          have hgm : ∀ k ∈ (p :: sb :: rb :: ([] ++ bs.map Prod.fst)), k ≠ g := by
            intro k hk2 e2
            have : k ∈ mine p sb rb bs wv := by
              simp only [mine, List.mem_cons, List.mem_append, List.nil_append] at hk2 ⊢
              rcases hk2 with h | h | h | h
              · exact .inl h
              · exact .inr (.inl h)
              · exact .inr (.inr (.inl h))
              · exact .inr (.inr (.inr (.inr h)))
            have := mem k this
            omega
          have hperm : (p :: sb :: rb :: ([g] ++ bs.map Prod.fst)).Perm (g :: (p :: sb :: rb :: ([] ++ bs.map Prod.fst))) := by
            have e3 : p :: sb :: rb :: ([g] ++ bs.map Prod.fst) = [p, sb, rb] ++ g :: (bs.map Prod.fst) := rfl
            rw [e3]
            exact List.perm_middle
          exact hperm.nodup_iff.2 (List.nodup_cons.2 ⟨fun hm => hgm g hm rfl, s⟩)
  · intro k hk2
    simp only [mine, List.mem_cons, List.mem_append] at hk2
    rcases hk2 with h | h | h | h | h
    · exact .inl (h2 k (by simp [mine, h]))
    · exact .inl (h2 k (by simp [mine, h]))
    · exact .inl (h2 k (by simp [mine, h]))
    · refine .inr ?_
      unfold blockList at h
      cases hv : v2.ownBlock with
      | none => rw [hv] at h; simp at h
      | some g => rw [hv] at h; simp at h; rw [h]
    · exact .inl (h2 k (by simp only [mine, List.mem_cons, List.mem_append]; exact .inr (.inr (.inr (.inr h)))))
  · intro x hx k hkk
    rcases List.mem_append.1 hx with hx | hx
    · have hf := h3 x hx k hkk
      refine ⟨.inl hf.1, fun hm => ?_⟩
      rcases hm with hm | hm
      · exact hf.2 hm
      · rcases hv2 with e | e
        · rw [e] at hm
          exact hf.2 (h2 k (by simp only [mine, List.mem_cons, List.mem_append]; exact .inr (.inr (.inr (.inl ((notwv k).2 hm))))))
        · have := (e k hm).1
          have := h5 k hf.1
          omega
    · simp at hx
      subst hx
      simp [secV, Value.ownBlock] at hkk
      subst hkk
      refine ⟨.inr (.inr rfl), fun hm => ?_⟩
      rcases hm with hm | hm
      · have := hML _ hm; omega
      · rcases hv2 with e | e
        · rw [e] at hm
          have := mem y.1 (by simp only [mine, List.mem_cons, List.mem_append]; exact .inr (.inr (.inr (.inl ((notwv y.1).2 hm)))))
          omega
        · have := (e _ hm).1; omega
  · intro k hm
    rcases hm with hm | hm
    · exact .inl (h4 k hm)
    · exact .inr (.inl hm)
  · intro k hf
    rcases hf with hf | hf | rfl
    · have := h5 k hf; omega
    · rcases hv2 with e | e
      · rw [e] at hf
        have := mem k (by simp only [mine, List.mem_cons, List.mem_append]; exact .inr (.inr (.inr (.inl ((notwv k).2 hf)))))
        omega
      · exact (e k hf).2
    · exact hyz
  · intro k hm
    rcases hm with hm | hm
    · exact .inl hm
    · rcases hv2 with e | e
      · rw [e] at hm
        exact .inl (h2 k (by simp only [mine, List.mem_cons, List.mem_append]; exact .inr (.inr (.inr (.inl ((notwv k).2 hm))))))
      · have := (e k hm).1
        exact .inr (by omega)
  · intro k hf
    rcases hf with hf | hf | rfl
    · exact .inl hf
    · rcases hv2 with e | e
      · rw [e] at hf
        exact .inl (h4 k (h2 k (by simp only [mine, List.mem_cons, List.mem_append]; exact .inr (.inr (.inr (.inl ((notwv k).2 hf)))))))
      · have := (e k hf).1
        exact .inr (by omega)
    · exact .inr hy1

end Go.Proofs.Ytadhibemadgcoaa
