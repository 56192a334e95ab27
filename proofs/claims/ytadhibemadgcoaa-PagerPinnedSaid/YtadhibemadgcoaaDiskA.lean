/- The small calls of package disk: made, there, Size, step, Waiting, Steps, Fuse. Conditions: a disk as New makes it, or none at all; as each theorem says. -/
import Derived.Test.YtadhibemadgcoaaRows
import Derived.Test.YtadhibemadgcoaaDiskRep
import Derived.WalkLawsBesides
import Derived.Deep.QuietTactic
import Derived.BigQuiet
import Derived.Deep.RegionLaw
import Derived.Deep.RegionWith
namespace Go.Proofs.Ytadhibemadgcoaa
open Go.RowKit

/-- The disk's own five cells turned: all else stays. -/
theorem DiskIn.head {w w' : World} {p sb rb : Nat} {bs : List (Nat × Nat)} {wv : Value} {ws : List (Nat × Value × List UInt8)} {d : Dk} (h : DiskIn w p sb rb bs wv ws d) (steps : Nat) (fuse : Int) (gone : Bool) (hf1 : -1 ≤ fuse) (hf2 : fuse ≤ 9223372036854775807)
    (hp : w'.heap[p]? = some (.cells #[.pointer (some ⟨sb, 0, none⟩), wv, .int .i64 (steps : Int), .int .i64 fuse, .bool gone] 122 (0, 0)))
    (hk : ∀ k, k ≠ p → w'.heap[k]? = w.heap[k]?) (hws : ∀ x ∈ ws, x.2.1.ownBlock ≠ some p) : DiskIn w' p sb rb bs wv ws { d with steps := steps, fuse := fuse, gone := gone } := by
  have nd := h.nd
  simp only [List.nodup_cons, List.mem_cons, List.mem_append, not_or] at nd
  obtain ⟨⟨n1, n2, n3, n4⟩, ⟨n5, n6, n7⟩, ⟨n8, n9⟩, n10⟩ := nd
  exact {
    n1 := h.n1, n2 := h.n2, f1 := hf1, f2 := hf2, hp := hp
    hs := (hk sb (Ne.symm n1)).trans h.hs
    hr := (hk rb (Ne.symm n2)).trans h.hr
    hb := h.hb
    hl := fun i x l hx hl => (h.hl i x l hx hl).frame (hk x.1 (fun e => n4 (by rw [← e]; exact List.mem_map.2 ⟨x, List.mem_of_getElem? hx, rfl⟩)))
    hw := ownsRow_frame h.hw fun k hkk => hk k (fun e => n3 (by rw [← e]; exact mem_blockList hkk))
    hwl := h.hwl
    hwb := fun x hx => ⟨(h.hwb x hx).1.frame (fun k hkk => hk k (fun e => hws x hx (by rw [hkk, e]))), (h.hwb x hx).2⟩
    nd := h.nd }

theorem made_none (w : World) : Calls Try.prog 78 #[.pointer none] w fun e w' => e = .returned (.bool false) ∧ w = w' := by
  go_enter Try.func78, Try.ntmps78
  go_wp2
  go_ret
  exact ⟨rfl, rfl⟩
theorem made_any {p : Nat} {d : Dk} {M F : Nat → Prop} (w : World) (h : DiskAt w p d M F) : Calls Try.prog 78 #[.pointer (some ⟨p, 0, none⟩)] w fun e w' => e = .returned (.bool true) ∧ w = w' := by
  obtain ⟨sb, rb, bs, wv, ws, h1, _⟩ := h
  have hc := cell_blk h1.hp 0
  simp at hc
  clear h1
  go_enter Try.func78, Try.ntmps78
  go_wp2
  go_ret
  exact ⟨rfl, rfl⟩

theorem there_any {sb rb n : Nat} (x : Int) (w : World) (_hn : n ≤ 4096) (h : w.heap[sb]? = some (.cells #[.slice (some ⟨rb, 0, none⟩) n n] 129 (0, 0))) :
    Calls Try.prog 82 #[.pointer (some ⟨sb, 0, none⟩), .int .i64 x] w fun e w' => e = .returned (.bool (decide (0 ≤ x ∧ x < n))) ∧ w = w' := by
  have hc := cell_blk h 0
  simp at hc
  clear h
  by_cases h0 : 0 ≤ x
  · by_cases h1 : x < n
    · rw [decide_eq_true (show 0 ≤ x ∧ x < n from ⟨h0, h1⟩)]
      go_enter Try.func82, Try.ntmps82
      go_wp2
      go_ret
      exact ⟨rfl, rfl⟩
    · rw [decide_eq_false (show ¬ (0 ≤ x ∧ x < n) from fun h => h1 h.2)]
      go_enter Try.func82, Try.ntmps82
      go_wp2
      go_ret
      exact ⟨rfl, rfl⟩
  · rw [decide_eq_false (show ¬ (0 ≤ x ∧ x < n) from fun h => h0 h.1)]
    go_enter Try.func82, Try.ntmps82
    go_wp2
    go_ret
    exact ⟨rfl, rfl⟩

theorem ssize_any {sb rb n : Nat} (w : World) (h : w.heap[sb]? = some (.cells #[.slice (some ⟨rb, 0, none⟩) n n] 129 (0, 0))) :
    Calls Try.prog 91 #[.pointer (some ⟨sb, 0, none⟩)] w fun e w' => e = .returned (.int .i64 n) ∧ w = w' := by
  have hc := cell_blk h 0
  simp at hc
  clear h
  go_enter Try.func91, Try.ntmps91
  go_wp2
  go_ret
  exact ⟨rfl, rfl⟩

theorem size_none (w : World) : Calls Try.prog 44 #[.pointer none] w fun e w' => e = .returned (.int .i64 0) ∧ w = w' := by
  go_enter Try.func44, Try.ntmps44
  go_wp2_with (go_at_call 78; refine (made_none _).mono ?_; rintro e w' ⟨rfl, rfl⟩)
  go_ret
  exact ⟨rfl, rfl⟩
theorem size_any {p : Nat} {d : Dk} {M F : Nat → Prop} (w : World) (h : DiskAt w p d M F) : Calls Try.prog 44 #[.pointer (some ⟨p, 0, none⟩)] w fun e w' => e = .returned (.int .i64 d.L.length) ∧ w = w' := by
  have HM := hid (made_any w h)
  obtain ⟨sb, rb, bs, wv, ws, h1, _⟩ := h
  have hc := cell_blk h1.hp 0
  simp at hc
  have HS := hid (ssize_any w h1.hs)
  clear h1
  go_enter Try.func44, Try.ntmps44
  go_wp2_with (first | (go_at_call 78; refine HM.out.mono ?_; rintro e w' ⟨rfl, rfl⟩) | (go_at_call 91; refine HS.out.mono ?_; rintro e w' ⟨rfl, rfl⟩))
  go_ret
  exact ⟨rfl, rfl⟩

theorem waiting_none (w : World) : Calls Try.prog 40 #[.pointer none] w fun e w' => e = .returned (.int .i64 0) ∧ w = w' := by
  go_enter Try.func40, Try.ntmps40
  go_wp2_with (go_at_call 78; refine (made_none _).mono ?_; rintro e w' ⟨rfl, rfl⟩)
  go_ret
  exact ⟨rfl, rfl⟩
theorem waiting_any {p : Nat} {d : Dk} {M F : Nat → Prop} (w : World) (h : DiskAt w p d M F) : Calls Try.prog 40 #[.pointer (some ⟨p, 0, none⟩)] w fun e w' => e = .returned (.int .i64 d.wait.length) ∧ w = w' := by
  have HM := hid (made_any w h)
  obtain ⟨sb, rb, bs, wv, ws, h1, _⟩ := h
  have hc := cell_blk h1.hp 1
  simp at hc
  have hl : d.wait.length = ws.length := by rw [h1.hwl, List.length_map]
  rw [hl]
  obtain ⟨a, cap, rfl⟩ : ∃ a cap, wv = .slice a ws.length cap := by
    rcases h1.hw.2 with ⟨rfl, h0⟩ | ⟨g, cap, cur, rfl, _⟩
    · exact ⟨none, 0, by rw [h0]⟩
    · exact ⟨_, _, rfl⟩
  clear h1 hl
  go_enter Try.func40, Try.ntmps40
  go_wp2_with (go_at_call 78; refine HM.out.mono ?_; rintro e w' ⟨rfl, rfl⟩)
  go_ret
  exact ⟨rfl, rfl⟩

theorem steps_none (w : World) : Calls Try.prog 43 #[.pointer none] w fun e w' => e = .returned (.int .i64 0) ∧ w = w' := by
  go_enter Try.func43, Try.ntmps43
  go_wp2_with (go_at_call 78; refine (made_none _).mono ?_; rintro e w' ⟨rfl, rfl⟩)
  go_ret
  exact ⟨rfl, rfl⟩
theorem steps_any {p : Nat} {d : Dk} {M F : Nat → Prop} (w : World) (h : DiskAt w p d M F) : Calls Try.prog 43 #[.pointer (some ⟨p, 0, none⟩)] w fun e w' => e = .returned (.int .i64 d.steps) ∧ w = w' := by
  have HM := hid (made_any w h)
  obtain ⟨sb, rb, bs, wv, ws, h1, _⟩ := h
  have hc := cell_blk h1.hp 2
  simp at hc
  clear h1
  go_enter Try.func43, Try.ntmps43
  go_wp2_with (go_at_call 78; refine HM.out.mono ?_; rintro e w' ⟨rfl, rfl⟩)
  go_ret
  exact ⟨rfl, rfl⟩

theorem fuse_none (n : Int) (w : World) : Calls Try.prog 42 #[.pointer none, .int .i64 n] w fun e w' => e = .returned (.tuple #[]) ∧ w = w' := by
  go_enter Try.func42, Try.ntmps42
  go_wp2_with (go_at_call 78; refine (made_none _).mono ?_; rintro e w' ⟨rfl, rfl⟩)
  go_end0
  exact ⟨rfl, rfl⟩
theorem DiskAt.turn {w w' : World} {p sb rb : Nat} {bs : List (Nat × Nat)} {wv : Value} {ws : List (Nat × Value × List UInt8)} {d : Dk} {M F : Nat → Prop} (h : DiskIn w p sb rb bs wv ws d)
    (h2 : ∀ k ∈ mine p sb rb bs wv, M k) (h3 : ∀ x ∈ ws, ∀ k, x.2.1.ownBlock = some k → F k ∧ ¬ M k) (h4 : ∀ k, M k → F k) (h5 : ∀ k, F k → k < w.heap.size)
    (steps : Nat) (fuse : Int) (gone : Bool) (hf1 : -1 ≤ fuse) (hf2 : fuse ≤ 9223372036854775807)
    (hp : w'.heap[p]? = some (.cells #[.pointer (some ⟨sb, 0, none⟩), wv, .int .i64 (steps : Int), .int .i64 fuse, .bool gone] 122 (0, 0)))
    (hk : ∀ k, k ≠ p → w'.heap[k]? = w.heap[k]?) (hz : w.heap.size ≤ w'.heap.size) : DiskAt w' p { d with steps := steps, fuse := fuse, gone := gone } M F :=
  ⟨sb, rb, bs, wv, ws, h.head steps fuse gone hf1 hf2 hp hk (fun x hx e => (h3 x hx p e).2 (h2 p (by simp [mine]))), h2, h3, h4, fun k hk2 => Nat.lt_of_lt_of_le (h5 k hk2) hz⟩

theorem fuse_any {p : Nat} {d : Dk} {M F : Nat → Prop} (n : Int) (w : World) (hn : n ≤ 9223372036854775807) (h : DiskAt w p d M F) :
    Calls Try.prog 42 #[.pointer (some ⟨p, 0, none⟩), .int .i64 n] w fun e w' => e = .returned (.tuple #[]) ∧ DiskAt w' p (fuseD d n) M F ∧ Ch M w w' := by
  have HM := hid (made_any w h)
  obtain ⟨sb, rb, bs, wv, ws, h1, h2, h3, h4, h5⟩ := h
  have hc := cell_blk h1.hp 3
  have hf := frozen_blk h1.hp 3
  simp at hc
  have H1 := hid h1
  have H2 := hid h2
  have H3 := hid h3
  have H4 := hid h4
  have H5 := hid h5
  clear h1 h2 h3 h4 h5
  by_cases hn1 : n < -1
  · go_enter Try.func42, Try.ntmps42
    go_wp2_with (go_at_call 78; refine HM.out.mono ?_; rintro e w' ⟨rfl, rfl⟩)
    go_end0
    refine ⟨rfl, ?_, (Ch.refl _ _).setCell (fun _ => H2.out p (by simp [mine])) _⟩
    unfold fuseD
    rw [if_pos hn1]
    exact DiskAt.turn H1.out H2.out H3.out H4.out H5.out d.steps (-1) d.gone (by omega) (by omega) (by rw [heap_set H1.out.hp]; rfl) (fun k hk => Below.heap_setCell _ _ _ _ hk) (by simp [World.setCell])
  · have HN := hid hn1
    go_enter Try.func42, Try.ntmps42
    go_wp2_with (go_at_call 78; refine HM.out.mono ?_; rintro e w' ⟨rfl, rfl⟩)
    all_goals
      go_end0
      refine ⟨rfl, ?_, (Ch.refl _ _).setCell (fun _ => H2.out p (by simp [mine])) _⟩
      unfold fuseD
      rw [if_neg (by have := HN.out; omega)]
      exact DiskAt.turn H1.out H2.out H3.out H4.out H5.out d.steps n d.gone (by have := HN.out; omega) (by omega) (by rw [heap_set H1.out.hp]; rfl) (fun k hk => Below.heap_setCell _ _ _ _ hk) (by simp [World.setCell])

theorem step_no {p : Nat} {d : Dk} {M F : Nat → Prop} (w : World) (h : DiskAt w p d M F) (hg : d.gone = true ∨ d.fuse = 0) :
    Calls Try.prog 79 #[.pointer (some ⟨p, 0, none⟩)] w fun e w' => e = .returned (.int .i64 9) ∧ DiskAt w' p { d with gone := true } M F ∧ Ch M w w' := by
  obtain ⟨sb, rb, bs, wv, ws, h1, h2, h3, h4, h5⟩ := h
  have hc3 := cell_blk h1.hp 3
  have hc4 := cell_blk h1.hp 4
  have hf4 := frozen_blk h1.hp 4
  simp at hc3 hc4
  have fin : Hid (∀ w', w' = w.setCell ⟨p, 4, none⟩ (.bool true) → DiskAt w' p { d with gone := true } M F ∧ Ch M w w') := hid (by
    rintro w' rfl
    exact ⟨DiskAt.turn h1 h2 h3 h4 h5 d.steps d.fuse true h1.f1 h1.f2 (by rw [heap_set h1.hp]; rfl) (fun k hk => Below.heap_setCell _ _ _ _ hk) (by simp [World.setCell]), (Ch.refl _ _).setCell (fun _ => h2 p (by simp [mine])) _⟩)
  clear h1 h2 h3 h4 h5
  cases hgn : d.gone with
  | true =>
    rw [hgn] at hc4
    clear hg hgn
    go_enter Try.func79, Try.ntmps79
    go_wp2
    go_ret
    exact ⟨rfl, fin.out _ rfl⟩
  | false =>
    have hz : d.fuse = 0 := by rcases hg with h | h; · rw [hgn] at h; cases h
                               · exact h
    rw [hgn] at hc4
    rw [hz] at hc3
    clear hg hgn hz
    go_enter Try.func79, Try.ntmps79
    go_wp2
    go_ret
    exact ⟨rfl, fin.out _ rfl⟩

theorem step_yes {p : Nat} {d : Dk} {M F : Nat → Prop} (w : World) (h : DiskAt w p d M F) (hst : d.steps ≤ 1000000) (hg : ¬ (d.gone = true ∨ d.fuse = 0)) :
    Calls Try.prog 79 #[.pointer (some ⟨p, 0, none⟩)] w fun e w' => e = .returned (.int .i64 0) ∧ DiskAt w' p (stepY d) M F ∧ Ch M w w' := by
  unfold stepY
  obtain ⟨sb, rb, bs, wv, ws, h1, h2, h3, h4, h5⟩ := h
  have hc2 := cell_blk h1.hp 2
  have hf2 := frozen_blk h1.hp 2
  have hc3 := cell_blk h1.hp 3
  have hf3 := frozen_blk h1.hp 3
  have hc4 := cell_blk h1.hp 4
  have hf4 := frozen_blk h1.hp 4
  have hgn : d.gone = false := by cases h : d.gone; · rfl
                                  · exact absurd (.inl h) hg
  have hz : d.fuse ≠ 0 := fun h => hg (.inr h)
  simp at hc2 hc3 hc4
  rw [hgn] at hc4
  have hb1 := h1.f1
  have hb2 := h1.f2
  have hzb : (d.fuse == 0) = false := by simpa using hz
  have H1 := hid h1
  have H2 := hid h2
  have H3 := hid h3
  have H4 := hid h4
  have H5 := hid h5
  have HG := hid hgn
  clear h1 h2 h3 h4 h5 hg hgn
  have hp := H2.out p (by simp [mine])
  have HP := hid hp
  clear hp
  obtain ⟨f, HF⟩ : ∃ f, Hid (d.fuse = f) := ⟨_, hid rfl⟩
  rw [HF.out] at hc3 hz hb1 hb2 hzb ⊢
  obtain ⟨st, HS⟩ : ∃ f, Hid (d.steps = f) := ⟨_, hid rfl⟩
  rw [HS.out] at hc2 hst ⊢
  by_cases hpos : 0 < f
  · rw [if_pos hpos]
    go_enter Try.func79, Try.ntmps79
    go_wp2
    go_ret
    refine ⟨rfl, ?_, (((Ch.refl _ _).setCell (fun _ => HP.out) _).setCell (fun _ => HP.out) _).setCell (fun _ => HP.out) _⟩
    have := DiskAt.turn H1.out H2.out H3.out H4.out H5.out (st + 1) (f - 1) false (w' := ((w.setCell ⟨p, 4, none⟩ (.bool false)).setCell ⟨p, 3, none⟩ (.int .i64 (f - 1))).setCell ⟨p, 2, none⟩ (.int .i64 ((st : Int) + 1))) (by omega) (by omega)
      (by rw [heap_set (heap_set (heap_set H1.out.hp 4 _) 3 _)]; rfl) (fun k hk => by rw [Below.heap_setCell _ _ _ _ hk, Below.heap_setCell _ _ _ _ hk, Below.heap_setCell _ _ _ _ hk]) (by simp [World.setCell])
    rw [HG.out]
    exact this
  · rw [if_neg hpos]
    go_enter Try.func79, Try.ntmps79
    go_wp2
    go_ret
    refine ⟨rfl, ?_, ((Ch.refl _ _).setCell (fun _ => HP.out) _).setCell (fun _ => HP.out) _⟩
    have := DiskAt.turn H1.out H2.out H3.out H4.out H5.out (st + 1) f false (w' := (w.setCell ⟨p, 4, none⟩ (.bool false)).setCell ⟨p, 2, none⟩ (.int .i64 ((st : Int) + 1))) (by omega) (by omega)
      (by rw [heap_set (heap_set H1.out.hp 4 _), HF.out.symm]; rfl) (fun k hk => by rw [Below.heap_setCell _ _ _ _ hk, Below.heap_setCell _ _ _ _ hk]) (by simp [World.setCell])
    rw [HG.out]
    exact this

end Go.Proofs.Ytadhibemadgcoaa
