/- The reference's disk: Write, Read, Flush. Conditions: as each theorem says. -/
import Derived.Test.YtadhibemadgcoaaDiskT
namespace Go.Proofs.Ytadhibemadgcoaa
open Go.RowKit

theorem Try.info147 : (Try.prog.info? 147).map (fun i => (i.zero, i.size, i.bytes)) = some (some (.agg #[.int .i64 0, .string ⟨#[]⟩]), 2, 24) := by kernel_rfl
theorem Try.info9 : (Try.prog.info? 9).map (fun i => (i.zero, i.size, i.bytes)) = some (some (.string ⟨#[]⟩), 1, 16) := by kernel_rfl

theorem owns_len {w : World} {base e size n : Nat} {v : Value} {xs : List Value} (h : w.ownsRow base e size v n xs) : ∃ a cap, v = .slice a n cap := owns_form h

/-- One more write waits. -/
theorem RIn.more {w w5 : World} {q : Nat} {Lv Wv : Value} {d : Dk} {M : Nat → Prop} (h : RIn w q Lv Wv d) (h2 : M q) (h3 : ∀ k, Lv.ownBlock = some k → M k) (_h4 : ∀ k, Wv.ownBlock = some k → M k) (h5 : ∀ k, M k → k < w.heap.size)
    (a : Nat) (b : List UInt8) (hb : b.length = 512) (ha : a < d.L.length) (v' : Value) (hown : w5.ownsRow 0 147 2 v' (d.wait.length + 1) (rwCells d.wait ++ [.int .i64 (a : Int), strV b]))
    (hv : v'.ownBlock = Wv.ownBlock ∨ ∀ k, v'.ownBlock = some k → w.heap.size ≤ k ∧ k < w5.heap.size)
    (hp : w5.heap[q]? = some (.cells #[Lv, v', .int .i64 (d.steps : Int), .int .i64 d.fuse, .bool d.gone] 145 (0, 0)))
    (hk : ∀ k, k < w.heap.size → k ≠ q → Wv.ownBlock ≠ some k → w5.heap[k]? = w.heap[k]?) (hz : w.heap.size ≤ w5.heap.size) :
    ∃ M', RAt w5 q { d with wait := d.wait ++ [(a, b)] } M' ∧ Fresh w M M' := by
  have hqz := h5 q h2
  refine ⟨fun k => M k ∨ v'.ownBlock = some k, ⟨Lv, v', ⟨h.n2, h.f1, h.f2, hp, ?_, ?_, h.secs, ?_, h.q1, ?_, ?_⟩, .inl h2, fun k hk2 => .inl (h3 k hk2), fun k hk2 => .inr hk2, ?_⟩, ?_⟩
  · exact ownsRow_frame h.hL fun k hkk => hk k (h5 k (h3 k hkk)) (fun e => h.q1 (e ▸ hkk)) (h.q3 k hkk)
  · rw [List.length_append, rwCells_snoc]; exact hown
  · intro x hx
    rcases List.mem_append.1 hx with hx | hx
    · exact h.wait x hx
    · simp at hx; subst hx; exact ⟨hb, ha⟩
  · rcases hv with e | e
    · rw [e]; exact h.q2
    · intro e2; have := (e q e2).1; omega
  · intro k hkk e2
    rcases hv with e | e
    · rw [e] at e2; exact h.q3 k hkk e2
    · have := (e k e2).1; have := h5 k (h3 k hkk); omega
  · intro k hk2
    rcases hk2 with hk2 | hk2
    · have := h5 k hk2; omega
    · rcases hv with e | e
      · rw [e] at hk2; have := h5 k (_h4 k hk2); omega
      · exact (e k hk2).2
  · intro k hk2
    rcases hk2 with hk2 | hk2
    · exact .inl hk2
    · rcases hv with e | e
      · rw [e] at hk2; exact .inl (_h4 k hk2)
      · exact .inr (e k hk2).1

theorem rwrite_arg {q : Nat} {d : Dk} {M : Nat → Prop} (a : Int) (x : Option Addr) (len cap : Nat) (w : World) (_h : RAt w q d M) (hl : len ≠ 512) :
    Calls Try.prog 74 #[.pointer (some ⟨q, 0, none⟩), .int .i64 a, .slice x len cap] w fun e w' => e = .returned (.int .i64 2) ∧ w = w' := by
  have hb : ((len : Int) == 512) = false := by rw [beq_eq_false_iff_ne]; omega
  clear hl
  go_enter Try.func74, Try.ntmps74
  go_wp2
  go_ret
  exact ⟨rfl, rfl⟩
theorem rwrite_range {q : Nat} {d : Dk} {M : Nat → Prop} (a : Int) (x : Option Addr) (cap : Nat) (w : World) (h : RAt w q d M) (hr : ¬ (0 ≤ a ∧ a < d.L.length)) :
    Calls Try.prog 74 #[.pointer (some ⟨q, 0, none⟩), .int .i64 a, .slice x 512 cap] w fun e w' => e = .returned (.int .i64 3) ∧ w = w' := by
  obtain ⟨Lv, Wv, h1, _⟩ := h
  have hc := cell_blk h1.hp 0
  simp at hc
  obtain ⟨la, lc, rfl⟩ := owns_form h1.hL
  clear h1
  by_cases h0 : a < 0
  · clear hr
    go_enter Try.func74, Try.ntmps74
    go_wp2
    go_ret
    exact ⟨rfl, rfl⟩
  · have h1 : ¬ a < d.L.length := fun h => hr ⟨by omega, h⟩
    clear hr
    go_enter Try.func74, Try.ntmps74
    go_wp2
    go_ret
    exact ⟨rfl, rfl⟩
theorem rwrite_power {q : Nat} {d : Dk} {M : Nat → Prop} (a : Int) (x : Option Addr) (cap : Nat) (w : World) (h : RAt w q d M) (hr : 0 ≤ a ∧ a < d.L.length) (hg : d.gone = true ∨ d.fuse = 0) :
    Calls Try.prog 74 #[.pointer (some ⟨q, 0, none⟩), .int .i64 a, .slice x 512 cap] w fun e w' => e = .returned (.int .i64 9) ∧ RAt w' q { d with gone := true } M ∧ Ch M w w' := by
  have HS := hid (rstep_no w h hg)
  obtain ⟨Lv, Wv, h1, _⟩ := h
  have hc := cell_blk h1.hp 0
  simp at hc
  obtain ⟨la, lc, rfl⟩ := owns_form h1.hL
  have r1 := hr.1
  have r2 := hr.2
  clear h1 hr hg
  go_enter Try.func74, Try.ntmps74
  go_wp2_with fail
  refine HS.out.mono ?_
  rintro e w' ⟨rfl, h1, h2⟩
  have H1 := hid h1
  have H2 := hid h2
  clear h1 h2
  go_wp2_with fail
  go_ret
  exact ⟨rfl, H1.out, H2.out⟩

set_option maxRecDepth 20000 in
set_option maxHeartbeats 2000000 in
theorem rwrite_ok {q : Nat} {d : Dk} {M : Nat → Prop} (a : Nat) (x : Option Addr) (cap : Nat) (b : List UInt8) (w : World) (h : RAt w q d M) (hr : a < d.L.length) (hg : ¬ (d.gone = true ∨ d.fuse = 0)) (hst : d.steps ≤ 1000000) (hwt : d.wait.length ≤ 1000000)
    (hb : Bts w (.slice x 512 cap) b) (hb12 : b.length = 512) (hbM : ∀ k, (Value.slice x 512 cap).ownBlock = some k → ¬ M k) :
    Calls Try.prog 74 #[.pointer (some ⟨q, 0, none⟩), .int .i64 a, .slice x 512 cap] w fun e w' => e = .returned (.int .i64 0) ∧
      ∃ M', RAt w' q { stepY d with wait := d.wait ++ [(a, b)] } M' ∧ Fresh w M M' ∧ Ch M w w' := by
  have HS := hid (rstep_yes w h hst hg)
  obtain ⟨Lv, Wv, h1, _⟩ := h
  have hc := cell_blk h1.hp 0
  simp at hc
  obtain ⟨la, lc, rfl⟩ := owns_form h1.hL
  have HN2 := hid h1.n2
  have hr0 : (0 : Int) ≤ (a : Int) := Int.natCast_nonneg _
  have hr1 : (a : Int) < (d.L.length : Int) := by omega
  have HR := hid hr
  have HB := hid hb
  have HBM := hid hbM
  clear h1 hg hr hb hbM
  go_enter Try.func74, Try.ntmps74
  go_wp2_with fail
  refine HS.out.mono ?_
  rintro e w1 ⟨rfl, hR, hch⟩
  obtain ⟨Lv, Wv, h1, h2, h3, h4, h5⟩ := hR
  have hcv := str_of (HB.out.ch hch HBM.out)
  obtain ⟨S, hS⟩ : ∃ S, S = (⟨b.toArray⟩ : ByteArray) := ⟨_, rfl⟩
  have hcv2 : (convert 35 9 (.slice x 512 cap)).run Try.prog w1.drew = .ok (.string S) w1.drew := by
    rw [hS]; exact str_of ((HB.out.ch hch HBM.out).ch (Ch.refl (fun _ => False) w1).drew (fun _ _ h => h))
  have hown3 : (w1.alloc (.cells #[.int .i64 (a : Int), .string S] 147)).drew.ownsRow 0 147 2 Wv d.wait.length (rwCells d.wait) := by
    refine ownsRow_frame h1.hW fun k hk => ?_
    exact Below.heap_alloc _ _ _ (h5 k (h4 k hk))
  have hcv3 : (convert 35 9 (.slice x 512 cap)).run Try.prog (w1.alloc (.cells #[.int .i64 (a : Int), .string S] 147)).drew = .ok (.string S) (w1.alloc (.cells #[.int .i64 (a : Int), .string S] 147)).drew := by
    rw [hS]; exact str_of ((HB.out.ch hch HBM.out).ch ((Ch.refl (fun _ => False) w1).alloc _).drew (fun _ _ h => h))
  obtain ⟨v2, w4, hrun2, hown4, hch4, hv2⟩ := run_append_own2 (P := Try.prog) (w1.alloc (.cells #[.int .i64 (a : Int), .string S] 147)).drew 143 143 147 (.agg #[.int .i64 0, .string ⟨#[]⟩]) 2 24 Try.underlying143 Try.info147 rfl (by omega) Wv d.wait.length (rwCells d.wait) hown3
    ⟨w1.heap.size, 0, none⟩ 1 1 [.int .i64 (a : Int), .string S] rfl (by
      intro j u hu
      rw [add_plain, cell_blk (heap_drew (heap_new _)), Nat.zero_add]
      simpa using hu) (by intro u hu; simp at hu; rcases hu with rfl | rfl <;> rfl) (by unfold maxLen; omega) (by omega)
  obtain ⟨g, cap2, rfl, hgz⟩ := slice_of_owns hown4 (by omega)
  have hqz : q < w1.heap.size := h5 q h2
  have hsz4 := hch4.size
  simp at hsz4
  have hc1 := cell_blk h1.hp 1
  simp at hc1
  have hqw4 : w4.heap[q]? = some (.cells #[Lv, Wv, .int .i64 ((stepY d).steps : Int), .int .i64 (stepY d).fuse, .bool (stepY d).gone] 145 (0, 0)) := hch4.keep (heap_drew (heap_old h1.hp _)) h1.q2
  have hq4 := cell_blk hqw4 1
  have hf4 := frozen_blk hqw4 1
  simp at hq4
  have hnq : ¬ q = w1.heap.size := by omega
  have HR2 := hid hrun2
  have fin : Hid (∀ w5, w5 = w4.setCell ⟨q, 1, none⟩ (.slice (some ⟨g, 0, none⟩) (d.wait.length + 1) cap2) →
      ∃ M', RAt w5 q { stepY d with wait := d.wait ++ [(a, b)] } M' ∧ Fresh w M M' ∧ Ch M w w5) := hid (by
    rintro w5 rfl
    have hgq : g ≠ q := by
      rcases hv2 with e | e
      · exact fun h => h1.q2 (by rw [← e, h]; rfl)
      · have := e g rfl; simp at this; omega
    have hne : ∀ k, (Value.slice (some ⟨g, 0, none⟩) (d.wait.length + 1) cap2).ownBlock = some k → k ≠ q := fun k hk => by
      obtain rfl : g = k := by simpa [Value.ownBlock] using hk
      exact hgq
    have hv' : (Value.slice (some ⟨g, 0, none⟩) (d.wait.length + 1) cap2).ownBlock = Wv.ownBlock ∨ ∀ k, (Value.slice (some ⟨g, 0, none⟩) (d.wait.length + 1) cap2).ownBlock = some k → w1.heap.size ≤ k ∧ k < (w4.setCell ⟨q, 1, none⟩ (.slice (some ⟨g, 0, none⟩) (d.wait.length + 1) cap2)).heap.size := by
      rcases hv2 with e | e
      · exact .inl e
      · refine .inr fun k hk => ?_
        have := e k hk
        simp at this
        obtain rfl : g = k := by simpa [Value.ownBlock] using hk
        exact ⟨by omega, by simpa [World.setCell] using hgz⟩
    obtain ⟨M', k1, k2⟩ := h1.more h2 h3 h4 h5 a b hb12 HR.out (.slice (some ⟨g, 0, none⟩) (d.wait.length + 1) cap2)
      (by
        have e : (Value.string S) = strV b := by rw [hS]; rfl
        rw [← e]
        exact ownsRow_frame hown4 fun k hk => Below.heap_setCell _ _ _ _ (hne k hk)) hv'
      (by rw [heap_set hqw4 1 _]; rfl)
      (fun k hk hkq hkw => by
        rw [Below.heap_setCell _ _ _ _ hkq, hch4.block k (by simp; omega) hkw]
        exact Below.heap_alloc _ _ _ hk)
      (by simp [World.setCell]; omega)
    refine ⟨M', k1, fun k hk => ?_, ?_⟩
    · rcases k2 k hk with h | h
      · exact .inl h
      · have := hch.size; exact .inr (by omega)
    · have c1 : Ch M w (w1.alloc (.cells #[.int .i64 (a : Int), .string S] 147)).drew := (hch.alloc _).drew
      have c2 : Ch M w w4 := c1.then hch4 (fun i hi e => h4 i e)
      exact c2.setCell (fun _ => h2) _)
  clear h1 h2 h3 h4 h5 hcv hown3 hrun2 hown4 hch4 hv2 hqw4 hgz hsz4 hS
  go_wp2_with fail
  go_region_law (refine step_append_run rfl (.tmp 28) (.tmp 33) 143 143 rfl _ _ HR2.out ?_)
  all_goals go_wp2
  all_goals go_ret
  all_goals exact ⟨rfl, fin.out _ rfl⟩

end Go.Proofs.Ytadhibemadgcoaa
