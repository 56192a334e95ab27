/- The reference's pager: Unpin. Conditions: not more than a million pins. -/
import Derived.Test.YtadhibemadgcoaaRpG
namespace Go.Proofs.Ytadhibemadgcoaa
open Go.RowKit

theorem erase_at (l : List Nat) (n : Nat) : ∀ i : Nat, l[i]? = some n → (∀ m, m < i → l[m]? ≠ some n) → l.erase n = l.take i ++ l.drop (i + 1) := by
  induction l with
  | nil => intro i h; simp at h
  | cons x l ih =>
    intro i h hno
    cases i with
    | zero => simp at h; subst h; simp
    | succ i =>
      have hx : x ≠ n := fun e => hno 0 (by omega) (by simp [e])
      rw [List.erase_cons_tail (by simpa using hx), ih i (by simpa using h) (fun m hm => by have := hno (m + 1) (by omega); simpa using this)]
      simp
theorem cnt_pos {l : List Nat} {n : Nat} (h : n ∈ l) : cnt l (n : Int) ≠ 0 := by
  unfold cnt
  intro e
  rw [List.length_eq_zero_iff, List.filter_eq_nil_iff] at e
  exact e n h (by simp)
theorem cnt_none {l : List Nat} {g : Int} (h : ∀ n ∈ l, (n : Int) ≠ g) : cnt l g = 0 := by
  unfold cnt
  rw [List.length_eq_zero_iff, List.filter_eq_nil_iff]
  intro n hn
  simpa using h n hn
theorem pinV_get {l : List Nat} {j : Nat} {u : Value} (h : (pinV l)[j]? = some u) : ∃ g, l[j]? = some g ∧ u = .int .i64 (g : Int) := by
  unfold pinV at h
  rw [List.getElem?_map, Option.map_eq_some_iff] at h
  obtain ⟨g, h1, h2⟩ := h
  exact ⟨g, h1, h2.symm⟩
theorem pinV_one (l : List Nat) : ∀ u ∈ pinV l, u.oneCell' = true := by
  intro u hu
  obtain ⟨x, _, rfl⟩ := List.mem_map.1 hu
  rfl

section
variable {w0 : World} {rp rq : Nat} {p : Pg} {Q : Nat → Prop}
def RUnPost (w0 w : World) (rp rq : Nat) (p : Pg) (Q : Nat → Prop) (g : Int) (e : Ending) (w' : World) : Prop :=
  e = .returned (.int .i64 ((unpinP p g).1 : Nat)) ∧ RPost w0 w rp rq (unpinP p g).2 Q w'
set_option maxRecDepth 20000 in
set_option maxHeartbeats 4000000 in
theorem runpin_any (g : Int) (w : World) (h : RZ w0 w rp rq p Q) (hpl : p.pins.length ≤ 1000000) : Calls Try.prog 110 #[.pointer (some ⟨rp, 0, none⟩), .int .i64 g] w (RUnPost w0 w rp rq p Q g) := by
  have HR0 := hid h
  obtain ⟨ib, fb, Pv, F, M, h1⟩ := h
  obtain ⟨pa, pc, rfl⟩ := owns_form h1.inn.hP
  have HX := hid h1
  have c5 := cell_blk h1.inn.hp 5
  have f5 := frozen_blk h1.inn.hp 5
  simp at c5
  have hrpz := blk_lt h1.inn.hp
  have hne3 := hid h1.inn.ne.2.2
  obtain ⟨n, HN⟩ : ∃ n, Hid (p.pins.length = n) := ⟨_, hid rfl⟩
  rw [HN.out] at c5 HX hpl hne3
  clear h1
  go_enter Try.func110, Try.ntmps110
  go_wp2_with fail
  go_loop [5] (fun i => ∃ j : Nat, i = .int .i64 (j : Int) ∧ j ≤ n ∧ Hid (∀ m x, m < j → p.pins[m]? = some x → (x : Int) ≠ g)) (fun i => n - (intOf i).toNat)
  case atStart => exact ⟨0, rfl, by omega, hid (fun m x h => by omega)⟩
  case round =>
    obtain ⟨j, rfl, hj, HNo⟩ := hrel
    by_cases hlt : j < n
    · obtain ⟨x, HXx⟩ : ∃ x, Hid (p.pins[j]? = some x) := ⟨p.pins[j]'(by rw [HN.out]; exact hlt), hid (List.getElem?_eq_getElem _)⟩
      obtain ⟨b, rfl, s1, s2⟩ := HX.out.pin HXx.out
      by_cases hxg : (x : Int) = g
      · subst hxg
        have hbeq : ((x : Int) == (x : Int)) = true := by simp
        have HEr := hid (erase_at p.pins x j HXx.out (fun m hm e => HNo.out m x hm e rfl))
        have hrpb : b ≠ rp := fun e => hne3.out (by rw [e]; rfl)
        have HU : Hid (unpinP p (x : Int) = (0, settleP { p with pins := p.pins.take j ++ p.pins.drop (j + 1), ops := p.ops + 1 })) := hid (by
          unfold unpinP; rw [if_neg (cnt_pos (List.mem_of_getElem? HXx.out)), Int.toNat_natCast, HEr.out])
        -- the first append
        have hcells : ∀ (W : World), W.heap[b]? = w.heap[b]? → ∀ (off : Nat) (j' : Nat) (u : Value), (pinV (p.pins.drop off))[j']? = some u → W.cell? ((⟨b, off, none⟩ : Addr).add j') = some u := by
          intro W hW off j' u hu
          obtain ⟨gg, hg1, rfl⟩ := pinV_get hu
          rw [List.getElem?_drop] at hg1
          obtain ⟨b', e, s1', _⟩ := HX.out.pin hg1
          cases e
          rw [add_plain, World.cell?_of_block (a := ⟨b, off + j', none⟩) hW]
          exact s1'
        obtain ⟨W0, hW0⟩ : ∃ W0, W0 = (w.alloc (.cells #[] 3)).drew := ⟨_, rfl⟩
        have hb0 : W0.heap[w.heap.size]? = some (.cells #[] 3 (0, 0)) := by rw [hW0]; exact heap_drew (heap_new _)
        have hz0 : W0.heap.size = w.heap.size + 1 := by rw [hW0]; exact World.size_alloc _ _
        have hc0 : Ch (fun _ => False) w W0 := by rw [hW0]; exact ((Ch.refl _ w).alloc _).drew
        obtain ⟨v1, W1, hrun1, hown1, hch1, hv1⟩ := run_append_own2 (P := Try.prog) W0 90 90 3 (.int .i64 0) 1 8 Try.underlying90 Try.info3 rfl (by omega) (.slice (some ⟨w.heap.size, 0, none⟩) 0 0) 0 []
          ⟨by simp, .inr ⟨w.heap.size, 0, #[], rfl, Nat.zero_le _, hb0, Nat.le_refl _, Nat.zero_le _, by simp, by simp⟩⟩
          ⟨b, 0, none⟩ j pc (pinV (p.pins.take j)) (by rw [pinV_length, List.length_take, HN.out]; omega) (fun j' u hu => by
            have hu2 : (pinV (p.pins.drop 0))[j']? = some u := by
              obtain ⟨gg, hg1, rfl⟩ := pinV_get hu
              rw [List.getElem?_take] at hg1
              split at hg1
              · simp [pinV, hg1]
              · cases hg1
            exact hcells W0 (hc0.block b s2 (fun h => h)) 0 j' u hu2) (pinV_one _) (by unfold maxLen; omega) (by omega)
        simp only [Nat.zero_add, List.nil_append] at hown1
        obtain ⟨a1, k1, rfl⟩ := owns_form hown1
        have hbW1 : W1.heap[b]? = w.heap[b]? := (hch1.block b (by omega) (fun e => by
          obtain rfl : w.heap.size = b := by simpa [Value.ownBlock] using e
          omega)).trans (hc0.block b s2 (fun h => h))
        have hnpc : n ≤ pc := by
          rcases HX.out.inn.hP.2 with ⟨e, h0⟩ | ⟨_, c, cur, e, _, _, hc, _⟩
          · cases e
          · cases e; have := HN.out; omega
        obtain ⟨jj, hjj⟩ : ∃ jj, j + 1 = jj := ⟨_, rfl⟩
        obtain ⟨ad, had⟩ : ∃ ad, (if pc = jj then some (⟨b, 0, none⟩ : Addr) else some ⟨b, jj, none⟩) = some ad := by
          split
          · exact ⟨_, rfl⟩
          · exact ⟨_, rfl⟩
        have hcad : ∀ (j' : Nat) (u : Value), (pinV (p.pins.drop jj))[j']? = some u → W1.cell? (ad.add j') = some u := by
          intro j' u hu
          split at had
          · rename_i hpj
            obtain ⟨gg, hg1, _⟩ := pinV_get hu
            have := (List.getElem?_eq_some_iff.1 hg1).1
            rw [List.length_drop, HN.out] at this
            omega
          · cases had
            exact hcells W1 hbW1 jj j' u hu
        obtain ⟨v2, W2, hrun2, hown2, hch2, hv2⟩ := run_append_own2 (P := Try.prog) W1 90 90 3 (.int .i64 0) 1 8 Try.underlying90 Try.info3 rfl (by omega) _ _ _ hown1
          ad (n - jj) (pc - jj) (pinV (p.pins.drop jj)) (by rw [pinV_length, List.length_drop, HN.out]; omega) hcad (pinV_one _) (by unfold maxLen; omega) (by omega)
        obtain ⟨a2, k2, rfl⟩ := owns_form hown2
        have hrp0 : W0.heap[rp]? = w.heap[rp]? := hc0.block rp hrpz (fun h => h)
        have hrp1 : W1.heap[rp]? = w.heap[rp]? := (hch1.block rp (by omega) (fun e => by
          obtain rfl : w.heap.size = rp := by simpa [Value.ownBlock] using e
          omega)).trans hrp0
        have hv1n : ∀ k, (Value.slice a1 j k1).ownBlock = some k → w.heap.size ≤ k := fun k hk => by
          rcases hv1 with e | e
          · rw [e] at hk
            obtain rfl : w.heap.size = k := by simpa [Value.ownBlock] using hk
            exact Nat.le_refl _
          · have := e k hk; omega
        have hrp2 : W2.heap[rp]? = w.heap[rp]? := (hch2.block rp (by have := hch1.size; omega) (fun e => by have := hv1n rp e; omega)).trans hrp1
        have hv2n : ∀ k, (Value.slice a2 (j + (n - jj)) k2).ownBlock = some k → w.heap.size ≤ k := fun k hk => by
          rcases hv2 with e | e
          · rw [e] at hk; exact hv1n k hk
          · have := e k hk; have := hch1.size; omega
        have q51 := (World.cell?_of_block (a := ⟨rp, 5, none⟩) hrp1).trans c5
        have q52 := (World.cell?_of_block (a := ⟨rp, 5, none⟩) hrp2).trans c5
        have q5f := (World.frozen?_of_block (a := ⟨rp, 5, none⟩) hrp2).trans f5
        have hi1 : (j : Int) ≤ (pc : Int) := by omega
        have hi2 : (j : Int) + 1 ≤ (n : Int) := by omega
        have hi3 : (n : Int) ≤ (pc : Int) := by omega
        have hi0 : (0 : Int) ≤ (j : Int) := Int.natCast_nonneg _
        have hwj : IntKind.i64.wrap ((j : Int) + 1) = (jj : Int) := by rw [wrap_id (by omega) (by omega)]; omega
        have hi4 : (jj : Int) ≤ (n : Int) := by omega
        have hi5 : (0 : Int) ≤ (jj : Int) := Int.natCast_nonneg _
        have hnq : ¬ rp = w.heap.size := by omega
        have hzb : ¬ b = w.heap.size := by omega
        have fin : Hid (∀ w5, w5 = W2.setCell ⟨rp, 5, none⟩ (.slice a2 (j + (n - jj)) k2) → RPost w0 w rp rq { p with pins := p.pins.take j ++ p.pins.drop jj, ops := p.ops + 1 } Q w5) := hid (by
          rintro w5 rfl
          have hhp0 := hrp2.trans HX.out.inn.hp
          have hhp := heap_set hhp0 5 (.slice a2 (j + (n - jj)) k2)
          have hcW2 : Ch (fun _ => False) w W2 := (hc0.then hch1 (fun i hi e => by
            obtain rfl : w.heap.size = i := by simpa [Value.ownBlock] using e
            omega)).then hch2 (fun i hi e => by have := hv1n i e; omega)
          have hl : (p.pins.take j ++ p.pins.drop jj).length = j + (n - jj) := by
            rw [List.length_append, List.length_take, List.length_drop, HN.out]; omega
          refine HX.out.pinned _ (p.ops + 1) (fun y hy => ?_) ((hcW2.mono (T := fun k => k = rp ∨ (Value.slice (some ⟨b, 0, none⟩) n pc).ownBlock = some k) (fun _ _ h => h.elim)).setCell (fun _ => .inl rfl) _) (by rw [hhp]; rfl) ?_ (fun k hk => .inr (hv2n k hk))
          · rcases List.mem_append.1 hy with hy | hy
            · exact HX.out.inn.pn y (List.mem_of_mem_take hy)
            · exact HX.out.inn.pn y (List.mem_of_mem_drop hy)
          · rw [hl, show pinV (p.pins.take j ++ p.pins.drop jj) = pinV (p.pins.take j) ++ pinV (p.pins.drop jj) by simp [pinV]]
            exact ownsRow_frame hown2 fun k hk => Below.heap_setCell _ _ _ _ (fun e => by
              have h1 := hv2n k hk
              have e2 : k = rp := e
              omega))
        rw [hW0] at hrun1
        have HR1 := hid hrun1
        have HR2 := hid hrun2
        rw [hjj] at HU
        clear hcad hcells hW0 hb0 hz0 hc0 hrun1 hown1 hch1 hv1 hbW1 hrun2 hown2 hch2 hv2 hrp0 hrp1 hv1n hrp2 hv2n hrpb hjj
        go_wp2_with fail
        go_region_law (first | (refine step_append_run rfl (.tmp 25) (.tmp 31) 90 90 rfl _ _ HR1.out ?_) | (refine step_append_run rfl (.tmp 32) (.tmp 39) 90 90 rfl _ _ HR2.out ?_))
        all_goals (
          obtain ⟨Q5, hr5, hf5, hc5⟩ := fin.out _ rfl
          have HSt := hid (rsettle_any _ hr5)
          have HF5 := hid hf5
          have HC5 := hid hc5
          clear hr5 hf5 hc5
          go_wp2_with fail
          refine HSt.out.mono ?_
          rintro e w6 ⟨rfl, hr6⟩
          have hend : RUnPost w0 w rp rq p Q (x : Int) (.returned (.int .i64 0)) w6 := by
            unfold RUnPost
            rw [HU.out]
            exact ⟨rfl, RPost.trans HF5.out HC5.out hr6⟩
          have HEnd := hid hend
          clear hr6 hend
          go_wp2_with fail
          go_ret
          exact HEnd.out)
      · have hbne : ((x : Int) == g) = false := by rw [beq_eq_false_iff_ne]; exact hxg
        have HNo2 : Hid (∀ m y, m < j + 1 → p.pins[m]? = some y → (y : Int) ≠ g) := hid (fun m y hm hy => by
          by_cases hmj : m = j
          · subst hmj; rw [HXx.out] at hy; cases hy; exact hxg
          · exact HNo.out m y (by omega) hy)
        clear hxg
        go_wp2_with fail
        go_round
        case rel => exact ⟨j + 1, by go_num, by omega, HNo2⟩
        case measure => simp [intOf]; omega
    · obtain rfl : j = n := by omega
      have fin : Hid (RUnPost w0 w rp rq p Q g (.returned (.int .i64 7)) w) := hid (by
        unfold RUnPost unpinP
        rw [if_pos (cnt_none (fun y hy => by
          obtain ⟨m, hm⟩ := List.getElem?_of_mem hy
          exact HNo.out m y (by have := (List.getElem?_eq_some_iff.1 hm).1; rw [HN.out] at this; exact this) hm))]
        exact ⟨rfl, HR0.out.post (Ch.refl _ _)⟩)
      go_wp2_with fail
      go_ret
      exact fin.out
end

end Go.Proofs.Ytadhibemadgcoaa
