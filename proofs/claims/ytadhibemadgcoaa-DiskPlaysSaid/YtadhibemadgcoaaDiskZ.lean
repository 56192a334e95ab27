/- The disk's Copy, and the reference's. Conditions: as each theorem says. -/
import Derived.Test.YtadhibemadgcoaaDiskY
namespace Go.Proofs.Ytadhibemadgcoaa
open Go.RowKit

theorem wpAnyH_name {P : Program} {md : Region.Mode} {ops : Array Oper} {Q : Exit → Act → World → Prop} {S : World → Prop} {fuel : Nat} {listed : Array Bool} {a : Act} {w : World} (F : World → Prop) (hF : F w) (h : ∀ W, F W → wpAnyH P md ops Q S fuel listed a W) :
    wpAnyH P md ops Q S fuel listed a w := h w hF

/-- append to an empty row of the call's own. -/
theorem run_append_onto {P : Program} (w : World) (base : Nat) (t ty e : TypeId) (z : Value) (size bytes : Nat) (ht : P.underlying t = some (.slice e)) (hinfo : (P.info? e).map (fun i => (i.zero, i.size, i.bytes)) = some (some z, size, bytes))
    (hzs : z.cells.size = size) (hsz : 0 < size) (b0 : Nat) (hb0 : w.heap[b0]? = some (.cells #[] e (0, 0))) (hbase : base ≤ b0) (x : Value) (n : Nat) (xs : List Value) (hx : w.ownsRow 0 e size x n xs) (h1 : ∀ u ∈ xs, u.oneCell' = true) (h63 : n ≤ maxLen) (hbytes : n * bytes ≤ 140737488355328) :
    ∃ v' w', (Builtin.append_ #[t, t] ty #[.slice (some ⟨b0, 0, none⟩) 0 0, x]).run P w = .ok v' w' ∧ w'.ownsRow base e size v' n xs ∧ Ch (fun k => k = b0) w w' ∧ (∀ k, v'.ownBlock = some k → k = b0 ∨ w.heap.size ≤ k) := by
  have hbz := blk_lt hb0
  have hown : w.ownsRow 0 e size (.slice (some ⟨b0, 0, none⟩) 0 0) 0 [] :=
    ⟨by simp, .inr ⟨b0, 0, #[], rfl, Nat.zero_le _, hb0, Nat.le_refl _, Nat.zero_le _, by simp, by simp⟩⟩
  have up : ∀ {w' : World} {v' : Value} {xs' : List Value} {m : Nat}, w'.ownsRow 0 e size v' m xs' → (∀ k, v'.ownBlock = some k → k = b0 ∨ w.heap.size ≤ k) → w'.ownsRow base e size v' m xs' := by
    intro w' v' xs' m h hk
    refine ⟨h.1, ?_⟩
    rcases h.2 with h2 | ⟨g, cap, cur, rfl, _, r⟩
    · exact .inl h2
    · exact .inr ⟨g, cap, cur, rfl, by rcases hk g rfl with h | h <;> omega, r⟩
  rcases hx.2 with ⟨rfl, rfl⟩ | ⟨g, cap, cur, rfl, _, hg, hnc, _, hcs, ht2⟩
  · have hxs : xs = [] := List.eq_nil_of_length_eq_zero (by rw [hx.1]; simp)
    subst hxs
    obtain ⟨i, hi, hzz⟩ := Option.map_eq_some_iff.1 hinfo
    have hk : ∀ k, (Value.slice (some ⟨b0, 0, none⟩) 0 0).ownBlock = some k → k = b0 ∨ w.heap.size ≤ k := fun k hk => by
      obtain rfl : b0 = k := by simpa [Value.ownBlock] using hk
      exact .inl rfl
    refine ⟨_, w, ?_, up hown hk, Ch.refl _ _, hk⟩
    simp [Builtin.append_, run_underlying ht, sizeOf, typeInfo, hi, Builtin.lenOf, Builtin.firstCells, storeCells]
  · have hcell : ∀ j u, xs[j]? = some u → w.cell? ((⟨g, 0, none⟩ : Addr).add j) = some u := hx.cells (g := g) rfl
    obtain ⟨v', w', r1, r2, r3, r4⟩ := run_append_own2 (P := P) w t ty e z size bytes ht hinfo hzs hsz _ 0 [] hown ⟨g, 0, none⟩ n cap xs hx.1 hcell h1 (by omega) (by simpa using hbytes)
    have hk : ∀ k, v'.ownBlock = some k → k = b0 ∨ w.heap.size ≤ k := fun k hk => by
      rcases r4 with e | e
      · rw [e] at hk
        obtain rfl : b0 = k := by simpa [Value.ownBlock] using hk
        exact .inl rfl
      · exact .inr (e k hk)
    refine ⟨v', w', r1, up (by simpa using r2) hk, r3.mono (fun k _ h => ?_), hk⟩
    obtain rfl : b0 = k := by simpa [Value.ownBlock] using h
    rfl

def RCoPost (w : World) (d : Dk) (e : Ending) (w' : World) : Prop := ∃ q' M', e = .returned (.pointer (some ⟨q', 0, none⟩)) ∧ RAt w' q' d M' ∧ Ch (fun _ => False) w w' ∧ (∀ k, M' k → w.heap.size ≤ k)
theorem rcopy_end {w W W' : World} {q : Nat} {Lv Wv vl vw : Value} {d : Dk} (h : RIn w q Lv Wv d) (hc : Ch (fun _ => False) w W) (hl : W.ownsRow w.heap.size 9 1 vl d.L.length (d.L.map strV)) (hw : W.ownsRow w.heap.size 147 2 vw d.wait.length (rwCells d.wait))
    (hd : ∀ k, vl.ownBlock = some k → vw.ownBlock ≠ some k) (hW : W' = W.alloc (.cells #[vl, vw, .int .i64 (d.steps : Int), .int .i64 d.fuse, .bool d.gone] 145)) : RCoPost w d (.returned (.pointer (some ⟨W.heap.size, 0, none⟩))) W' := by
  subst hW
  have down : ∀ {e size : Nat} {v : Value} {n : Nat} {xs : List Value}, W.ownsRow w.heap.size e size v n xs → (W.alloc (.cells #[vl, vw, .int .i64 (d.steps : Int), .int .i64 d.fuse, .bool d.gone] 145)).ownsRow 0 e size v n xs := by
    intro e size v n xs h
    have := h.alloc (.cells #[vl, vw, .int .i64 (d.steps : Int), .int .i64 d.fuse, .bool d.gone] 145)
    refine ⟨this.1, ?_⟩
    rcases this.2 with h | ⟨g, cap, cur, e1, _, r⟩
    · exact .inl h
    · exact .inr ⟨g, cap, cur, e1, Nat.zero_le _, r⟩
  have z := hc.size
  refine ⟨W.heap.size, fun k => w.heap.size ≤ k ∧ k < (W.alloc (.cells #[vl, vw, .int .i64 (d.steps : Int), .int .i64 d.fuse, .bool d.gone] 145)).heap.size, rfl,
    ⟨vl, vw, ⟨h.n2, h.f1, h.f2, heap_new _, down hl, down hw, h.secs, h.wait, fun e => ?_, fun e => ?_, hd⟩, ⟨z, by simp⟩, fun k hk => ?_, fun k hk => ?_, fun k hk => hk.2⟩, hc.alloc _, fun k hk => hk.1⟩
  · have := (hl.lt _ e).2; omega
  · have := (hw.lt _ e).2; omega
  · have := hl.lt k hk; simp; omega
  · have := hw.lt k hk; simp; omega

set_option maxRecDepth 20000 in
set_option maxHeartbeats 8000000 in
theorem rcopy_any {q : Nat} {d : Dk} {M : Nat → Prop} (w : World) (h : RAt w q d M) (hwt : d.wait.length ≤ 1000000) :
    Calls Try.prog 49 #[.pointer (some ⟨q, 0, none⟩)] w (RCoPost w d) := by
  obtain ⟨Lv, Wv, h1, h2, h3, h4, h5⟩ := h
  have hn2 := h1.n2
  have HI := hid h1
  have HQ := hid (fun (w' : World) (hc : Ch (fun _ => False) w w') => h1.frame (hc.block q (h5 q h2) (fun h => h)) (fun k hk => hc.block k (h5 k (h3 k hk)) (fun h => h)) (fun k hk => hc.block k (h5 k (h4 k hk)) (fun h => h)))
  have hqz := blk_lt h1.hp
  have SW := hid (show w.cell? ⟨q, 0, none⟩ = some Lv ∧ w.cell? ⟨q, 1, none⟩ = some Wv ∧ w.cell? ⟨q, 2, none⟩ = some (.int .i64 (d.steps : Int)) ∧ w.cell? ⟨q, 3, none⟩ = some (.int .i64 d.fuse) ∧ w.cell? ⟨q, 4, none⟩ = some (.bool d.gone) by
    refine ⟨?_, ?_, ?_, ?_, ?_⟩ <;> (rw [cell_blk h1.hp]; rfl))
  clear h1 h2 h3 h4 h5
  go_enter Try.func49, Try.ntmps49
  go_wp2_with fail
  refine wp_region_noPanic ?_
  refine wp_region_held_drew (S := (fun W => W.cell? ⟨q, 0, none⟩ = some Lv ∧ W.cell? ⟨q, 1, none⟩ = some Wv ∧ W.cell? ⟨q, 2, none⟩ = some (.int .i64 (d.steps : Int)) ∧ W.cell? ⟨q, 3, none⟩ = some (.int .i64 d.fuse) ∧ W.cell? ⟨q, 4, none⟩ = some (.bool d.gone))) (by kernel_rfl) SW.out (fun hHeld => ?_)
  refine wpAnyH_take (i := 1) (v := ?_) rfl (by kernel_rfl) (by kernel_rfl) (by kernel_rfl) (fun _ _ _ h => h) (Or.inl ⟨by rfl, ?_⟩) (by assumption) ?_
  rotate_left
  · intro w hSw
    try dsimp only at hSw
    go_simp
    all_goals with_reducible rfl
  try simp only [lay_all]
  refine wpAnyH_take (i := 2) (v := ?_) rfl (by kernel_rfl) (by kernel_rfl) (by kernel_rfl) (fun _ _ _ h => h) (Or.inl ⟨by rfl, ?_⟩) (by assumption) ?_
  rotate_left
  · intro w hSw
    try dsimp only at hSw
    go_simp
    all_goals with_reducible rfl
  try simp only [lay_all]
  refine wpAnyH_take (i := 3) (v := ?_) rfl (by kernel_rfl) (by kernel_rfl) (by kernel_rfl) (fun _ _ _ h => h) (Or.inl ⟨by rfl, ?_⟩) (by assumption) ?_
  rotate_left
  · intro w hSw
    try dsimp only at hSw
    go_simp
    all_goals with_reducible rfl
  try simp only [lay_all]
  refine wpAnyH_take (i := 4) (v := ?_) rfl (by kernel_rfl) (by kernel_rfl) (by kernel_rfl) (fun _ _ _ h => h) (Or.inl ⟨by rfl, ?_⟩) (by assumption) ?_
  rotate_left
  · intro w hSw
    try dsimp only at hSw
    go_simp
    all_goals with_reducible rfl
  try simp only [lay_all]
  refine wpAnyH_take (i := 7) (v := ?_) rfl (by kernel_rfl) (by kernel_rfl) (by kernel_rfl) (fun _ _ _ h => h) (Or.inl ⟨by rfl, ?_⟩) (by assumption) ?_
  rotate_left
  · intro w hSw
    try dsimp only at hSw
    go_simp
    all_goals with_reducible rfl
  try simp only [lay_all]
  refine wpAnyH_take (i := 8) (v := ?_) rfl (by kernel_rfl) (by kernel_rfl) (by kernel_rfl) (fun _ _ _ h => h) (Or.inl ⟨by rfl, ?_⟩) (by assumption) ?_
  rotate_left
  · intro w hSw
    try dsimp only at hSw
    go_simp
    all_goals with_reducible rfl
  try simp only [lay_all]
  refine wpAnyH_take (i := 9) (v := ?_) rfl (by kernel_rfl) (by kernel_rfl) (by kernel_rfl) (fun _ _ _ h => h) (Or.inl ⟨by rfl, ?_⟩) (by assumption) ?_
  rotate_left
  · intro w hSw
    try dsimp only at hSw
    go_simp
    all_goals with_reducible rfl
  try simp only [lay_all]
  refine wpAnyH_take (i := 10) (v := ?_) rfl (by kernel_rfl) (by kernel_rfl) (by kernel_rfl) (fun _ _ _ h => h) (Or.inl ⟨by rfl, ?_⟩) (by assumption) ?_
  rotate_left
  · intro w hSw
    try dsimp only at hSw
    go_simp
    all_goals with_reducible rfl
  try simp only [lay_all]
  refine wpAnyH_take (i := 12) (v := ?_) rfl (by kernel_rfl) (by kernel_rfl) (by kernel_rfl) (fun _ _ _ h => h) (Or.inl ⟨by rfl, ?_⟩) (by assumption) ?_
  rotate_left
  · intro w hSw
    try dsimp only at hSw
    go_simp
    all_goals with_reducible rfl
  try simp only [lay_all]
  refine wpAnyH_take (i := 13) (v := ?_) rfl (by kernel_rfl) (by kernel_rfl) (by kernel_rfl) (fun _ _ _ h => h) (Or.inl ⟨by rfl, ?_⟩) (by assumption) ?_
  rotate_left
  · intro w hSw
    try dsimp only at hSw
    go_simp
    all_goals with_reducible rfl
  try simp only [lay_all]
  refine wpAnyH_take (i := 14) (v := ?_) rfl (by kernel_rfl) (by kernel_rfl) (by kernel_rfl) (fun _ _ _ h => h) (Or.inl ⟨by rfl, ?_⟩) (by assumption) ?_
  rotate_left
  · intro w hSw
    try dsimp only at hSw
    go_simp
    all_goals with_reducible rfl
  try simp only [lay_all]
  refine wpAnyH_take (i := 15) (v := ?_) rfl (by kernel_rfl) (by kernel_rfl) (by kernel_rfl) (fun _ _ _ h => h) (Or.inl ⟨by rfl, ?_⟩) (by assumption) ?_
  rotate_left
  · intro w hSw
    try dsimp only at hSw
    go_simp
    all_goals with_reducible rfl
  try simp only [lay_all]
  refine wpAnyH_take (i := 16) (v := ?_) rfl (by kernel_rfl) (by kernel_rfl) (by kernel_rfl) (fun _ _ _ h => h) (Or.inl ⟨by rfl, ?_⟩) (by assumption) ?_
  rotate_left
  · intro w hSw
    try dsimp only at hSw
    go_simp
    all_goals with_reducible rfl
  try simp only [lay_all]
  refine wpAnyH_take (i := 17) (v := ?_) rfl (by kernel_rfl) (by kernel_rfl) (by kernel_rfl) (fun _ _ _ h => h) (Or.inl ⟨by rfl, ?_⟩) (by assumption) ?_
  rotate_left
  · intro w hSw
    try dsimp only at hSw
    go_simp
    all_goals with_reducible rfl
  try simp only [lay_all]
  refine wpAnyH_take (i := 18) (v := ?_) rfl (by kernel_rfl) (by kernel_rfl) (by kernel_rfl) (fun _ _ _ h => h) (Or.inl ⟨by rfl, ?_⟩) (by assumption) ?_
  rotate_left
  · intro w hSw
    try dsimp only at hSw
    go_simp
    all_goals with_reducible rfl
  try simp only [lay_all]
  refine wpAnyH_take (i := 19) (v := ?_) rfl (by kernel_rfl) (by kernel_rfl) (by kernel_rfl) (fun _ _ _ h => h) (Or.inl ⟨by rfl, ?_⟩) (by assumption) ?_
  rotate_left
  · intro w hSw
    try dsimp only at hSw
    go_simp
    all_goals with_reducible rfl
  try simp only [lay_all]
  refine wpAnyH_take (i := 20) (v := ?_) rfl (by kernel_rfl) (by kernel_rfl) (by kernel_rfl) (fun _ _ _ h => h) (Or.inl ⟨by rfl, ?_⟩) (by assumption) ?_
  rotate_left
  · intro w hSw
    try dsimp only at hSw
    go_simp
    all_goals with_reducible rfl
  try simp only [lay_all]
  refine wpAnyH_take (i := 21) (v := ?_) rfl (by kernel_rfl) (by kernel_rfl) (by kernel_rfl) (fun _ _ _ h => h) (Or.inl ⟨by rfl, ?_⟩) (by assumption) ?_
  rotate_left
  · intro w hSw
    try dsimp only at hSw
    go_simp
    all_goals with_reducible rfl
  try simp only [lay_all]
  refine wpAnyH_take (i := 22) (v := ?_) rfl (by kernel_rfl) (by kernel_rfl) (by kernel_rfl) (fun _ _ _ h => h) (Or.inl ⟨by rfl, ?_⟩) (by assumption) ?_
  rotate_left
  · intro w hSw
    try dsimp only at hSw
    go_simp
    all_goals with_reducible rfl
  try simp only [lay_all]
  refine wpAnyH_take (i := 23) (v := ?_) rfl (by kernel_rfl) (by kernel_rfl) (by kernel_rfl) (fun _ _ _ h => h) (Or.inl ⟨by rfl, ?_⟩) (by assumption) ?_
  rotate_left
  · intro w hSw
    try dsimp only at hSw
    go_simp
    all_goals with_reducible rfl
  try simp only [lay_all]
  refine wpAnyH_name (fun W => Ch (fun _ => False) w W ∧ w.heap.size ≤ W.heap.size) ⟨(Ch.refl _ w).drew, Nat.le_refl _⟩ ?_
  rintro W0 ⟨ch, zW0⟩
  have SW0 := hid (keep5 SW.out ch (fun _ _ h => h))
  have CW0 := hid ch
  clear ch hHeld
  refine wpAnyH_ready (rs := [0, 6]) (by kernel_rfl) (by simp) ?_
  refine (AllReadyH.cons rfl (fun K hK => ?_) (AllReadyH.cons rfl (fun K hK => ?_) AllReadyH.nil))
  · go_simp
    refine hK.out _ _ (keep5 SW0.out ((Ch.refl (fun _ => False) W0).alloc _) (fun _ _ h => h)) (fun hHeld => ?_)
    clear hK K
    try simp only [lay_all]
    refine wpAnyH_name (fun W => Ch (fun _ => False) W0 W ∧ W.heap[W0.heap.size]? = some (.cells #[] 9 (0, 0)) ∧ W0.heap.size < W.heap.size) ⟨(Ch.refl _ _).alloc _, heap_new _, by simp⟩ ?_
    rintro W1 ⟨ch, hb, zW1⟩
    have SW1 := hid (keep5 SW0.out ch (fun _ _ h => h))
    have HB0 := hid hb
    have CW1 := hid (CW0.out.trans ch)
    clear hHeld ch hb
    refine wpAnyH_ready (rs := [5, 6]) (by kernel_rfl) (by simp) ?_
    refine (AllReadyH.cons rfl (fun K hK => ?_) (AllReadyH.cons rfl (fun K hK => ?_) AllReadyH.nil))
    · have CC := CW1.out.size
      have CB := CW0.out.size
      obtain ⟨vl, W2, hrun, hown, hch, hv⟩ := run_append_onto (P := Try.prog) W1 w.heap.size 89 89 9 (.string ⟨#[]⟩) 1 16 Try.underlying89 Try.info9 rfl (by omega) W0.heap.size HB0.out (by omega) Lv d.L.length (d.L.map strV) (HQ.out _ CW1.out).hL (strs_one _) (by unfold maxLen; omega) (by omega)
      refine step_append_run rfl (.tmp 3) (.tmp 7) 89 89 rfl _ _ hrun ?_
      have CW2 := hid (CW1.out.then hch (fun i hi e => by omega))
      have SW2 := hid (keep5 SW1.out hch (fun i hi e => by omega))
      refine hK.out _ _ SW2.out (fun hHeld => ?_)
      clear hK K
      try simp only [lay_all]
      have zW2 := hch.size
      have HVl : Hid (∀ k, vl.ownBlock = some k → (k = W0.heap.size ∨ W1.heap.size ≤ k) ∧ k < W2.heap.size) := hid (fun k hk => ⟨hv k hk, (hown.lt k hk).2⟩)
      have HOl := hid hown
      clear hrun hown hch hv hHeld CC CB
      refine wpAnyH_ready (rs := [6]) (by kernel_rfl) (by simp) ?_
      refine (AllReadyH.cons rfl (fun K hK => ?_) AllReadyH.nil)
      · go_simp
        refine hK.out _ _ (keep5 SW2.out ((Ch.refl (fun _ => False) W2).alloc _) (fun _ _ h => h)) (fun hHeld => ?_)
        clear hK K
        try simp only [lay_all]
        refine wpAnyH_name (fun W => Ch (fun _ => False) W2 W ∧ W.heap[W2.heap.size]? = some (.cells #[] 147 (0, 0)) ∧ W2.heap.size < W.heap.size) ⟨(Ch.refl _ _).alloc _, heap_new _, by simp⟩ ?_
        rintro W3 ⟨ch, hb, zW3⟩
        have SW3 := hid (keep5 SW2.out ch (fun _ _ h => h))
        have HB6 := hid hb
        have CW3 := hid (CW2.out.trans ch)
        have HOl := hid (ownsRow_frame HOl.out (fun k hk => ch.block k (HOl.out.lt k hk).2 (fun h => h)))
        clear hHeld ch hb
        refine wpAnyH_ready (rs := [11]) (by kernel_rfl) (by simp) ?_
        refine (AllReadyH.cons rfl (fun K hK => ?_) AllReadyH.nil)
        · have CC := CW3.out.size
          have CB := CW2.out.size
          obtain ⟨vw, W4, hrun, hown, hch, hv⟩ := run_append_onto (P := Try.prog) W3 w.heap.size 143 143 147 (.agg #[.int .i64 0, .string ⟨#[]⟩]) 2 24 Try.underlying143 Try.info147 rfl (by omega) W2.heap.size HB6.out (by omega) Wv d.wait.length (rwCells d.wait) (HQ.out _ CW3.out).hW (rw_one _) (by unfold maxLen; omega) (by omega)
          refine step_append_run rfl (.tmp 9) (.tmp 13) 143 143 rfl _ _ hrun ?_
          have CW4 := hid (CW3.out.then hch (fun i hi e => by omega))
          have SW4 := hid (keep5 SW3.out hch (fun i hi e => by omega))
          refine hK.out _ _ SW4.out (fun hHeld => ?_)
          clear hK K
          try simp only [lay_all]
          have zW4 := hch.size
          have HVw : Hid (∀ k, vw.ownBlock = some k → (k = W2.heap.size ∨ W3.heap.size ≤ k) ∧ k < W4.heap.size) := hid (fun k hk => ⟨hv k hk, (hown.lt k hk).2⟩)
          have HOw := hid hown
          have HOl := hid (ownsRow_frame HOl.out (fun k hk => hch.block k (HOl.out.lt k hk).2 (fun e => by have h1 := HVl.out k hk; omega)))
          clear hrun hown hch hv hHeld CC CB
          have hHeld := SW4.out
          obtain ⟨la, lc, hfl⟩ := owns_form HOl.out
          obtain ⟨wa, wc, hfw⟩ := owns_form HOw.out
          have HF := hid (And.intro hfl hfw)
          have fin : Hid (∀ W, W = W4.alloc (.cells #[vl, vw, .int .i64 (d.steps : Int), .int .i64 d.fuse, .bool d.gone] 145) → RCoPost w d (.returned (.pointer (some ⟨W4.heap.size, 0, none⟩))) W) := hid (fun W hW => rcopy_end HI.out CW4.out HOl.out HOw.out (fun k h1 h2 => by have := HVl.out k h1; have := HVw.out k h2; omega) hW)
          rw [hfl, hfw] at fin
          rw [hfl, hfw]
          clear hHeld hfl hfw
          refine wpAnyH_take (i := 24) (v := ?_) rfl (by kernel_rfl) (by kernel_rfl) (by kernel_rfl) (fun _ _ _ h => h) (Or.inl ⟨by rfl, ?_⟩) (by assumption) ?_
          rotate_left
          · intro w hSw
            try dsimp only at hSw
            go_simp
            all_goals with_reducible rfl
          try simp only [lay_all]
          refine wpAnyH_ready (rs := [25]) (by kernel_rfl) (by simp) ?_
          refine AllReadyH.cons rfl (fun K hK => ?_) AllReadyH.nil
          go_simp
          refine hK.out _ _ ?_ (fun hHeld => ?_)
          · exact keep5 SW4.out ((Ch.refl (fun _ => False) W4).alloc _) (fun _ _ h => h)
          clear hK K
          try simp only [lay_all]
          refine wpAnyH_take (i := 26) (v := ?_) rfl (by kernel_rfl) (by kernel_rfl) (by kernel_rfl) (fun _ _ _ h => h) (Or.inl ⟨by rfl, ?_⟩) (by assumption) ?_
          rotate_left
          · intro w hSw
            try dsimp only at hSw
            go_simp
            all_goals with_reducible rfl
          try simp only [lay_all]
          refine wpAnyH_done (by kernel_rfl) ?_ _
          refine NoPanic.normal ?_
          go_wp2_with fail
          go_ret
          exact fin.out _ rfl
    · go_simp
      refine hK.out _ _ (keep5 SW1.out ((Ch.refl (fun _ => False) W1).alloc _) (fun _ _ h => h)) (fun hHeld => ?_)
      clear hK K
      try simp only [lay_all]
      refine wpAnyH_name (fun W => Ch (fun _ => False) W1 W ∧ W.heap[W1.heap.size]? = some (.cells #[] 147 (0, 0)) ∧ W1.heap.size < W.heap.size) ⟨(Ch.refl _ _).alloc _, heap_new _, by simp⟩ ?_
      rintro W5 ⟨ch, hb, zW5⟩
      have SW5 := hid (keep5 SW1.out ch (fun _ _ h => h))
      have HB6 := hid hb
      have CW5 := hid (CW1.out.trans ch)
      have HB0 := hid (ch.keep HB0.out (fun h => h))
      clear hHeld ch hb
      refine wpAnyH_ready (rs := [5]) (by kernel_rfl) (by simp) ?_
      refine (AllReadyH.cons rfl (fun K hK => ?_) AllReadyH.nil)
      · have CC := CW5.out.size
        have CB := CW0.out.size
        obtain ⟨vl, W6, hrun, hown, hch, hv⟩ := run_append_onto (P := Try.prog) W5 w.heap.size 89 89 9 (.string ⟨#[]⟩) 1 16 Try.underlying89 Try.info9 rfl (by omega) W0.heap.size HB0.out (by omega) Lv d.L.length (d.L.map strV) (HQ.out _ CW5.out).hL (strs_one _) (by unfold maxLen; omega) (by omega)
        refine step_append_run rfl (.tmp 3) (.tmp 7) 89 89 rfl _ _ hrun ?_
        have CW6 := hid (CW5.out.then hch (fun i hi e => by omega))
        have SW6 := hid (keep5 SW5.out hch (fun i hi e => by omega))
        refine hK.out _ _ SW6.out (fun hHeld => ?_)
        clear hK K
        try simp only [lay_all]
        have zW6 := hch.size
        have HVl : Hid (∀ k, vl.ownBlock = some k → (k = W0.heap.size ∨ W5.heap.size ≤ k) ∧ k < W6.heap.size) := hid (fun k hk => ⟨hv k hk, (hown.lt k hk).2⟩)
        have HOl := hid hown
        have HB6 := hid (hch.keep HB6.out (by omega))
        clear hrun hown hch hv hHeld CC CB
        refine wpAnyH_ready (rs := [11]) (by kernel_rfl) (by simp) ?_
        refine (AllReadyH.cons rfl (fun K hK => ?_) AllReadyH.nil)
        · have CC := CW6.out.size
          have CB := CW1.out.size
          obtain ⟨vw, W7, hrun, hown, hch, hv⟩ := run_append_onto (P := Try.prog) W6 w.heap.size 143 143 147 (.agg #[.int .i64 0, .string ⟨#[]⟩]) 2 24 Try.underlying143 Try.info147 rfl (by omega) W1.heap.size HB6.out (by omega) Wv d.wait.length (rwCells d.wait) (HQ.out _ CW6.out).hW (rw_one _) (by unfold maxLen; omega) (by omega)
          refine step_append_run rfl (.tmp 9) (.tmp 13) 143 143 rfl _ _ hrun ?_
          have CW7 := hid (CW6.out.then hch (fun i hi e => by omega))
          have SW7 := hid (keep5 SW6.out hch (fun i hi e => by omega))
          refine hK.out _ _ SW7.out (fun hHeld => ?_)
          clear hK K
          try simp only [lay_all]
          have zW7 := hch.size
          have HVw : Hid (∀ k, vw.ownBlock = some k → (k = W1.heap.size ∨ W6.heap.size ≤ k) ∧ k < W7.heap.size) := hid (fun k hk => ⟨hv k hk, (hown.lt k hk).2⟩)
          have HOw := hid hown
          have HOl := hid (ownsRow_frame HOl.out (fun k hk => hch.block k (HOl.out.lt k hk).2 (fun e => by have h1 := HVl.out k hk; omega)))
          clear hrun hown hch hv hHeld CC CB
          have hHeld := SW7.out
          obtain ⟨la, lc, hfl⟩ := owns_form HOl.out
          obtain ⟨wa, wc, hfw⟩ := owns_form HOw.out
          have HF := hid (And.intro hfl hfw)
          have fin : Hid (∀ W, W = W7.alloc (.cells #[vl, vw, .int .i64 (d.steps : Int), .int .i64 d.fuse, .bool d.gone] 145) → RCoPost w d (.returned (.pointer (some ⟨W7.heap.size, 0, none⟩))) W) := hid (fun W hW => rcopy_end HI.out CW7.out HOl.out HOw.out (fun k h1 h2 => by have := HVl.out k h1; have := HVw.out k h2; omega) hW)
          rw [hfl, hfw] at fin
          rw [hfl, hfw]
          clear hHeld hfl hfw
          refine wpAnyH_take (i := 24) (v := ?_) rfl (by kernel_rfl) (by kernel_rfl) (by kernel_rfl) (fun _ _ _ h => h) (Or.inl ⟨by rfl, ?_⟩) (by assumption) ?_
          rotate_left
          · intro w hSw
            try dsimp only at hSw
            go_simp
            all_goals with_reducible rfl
          try simp only [lay_all]
          refine wpAnyH_ready (rs := [25]) (by kernel_rfl) (by simp) ?_
          refine AllReadyH.cons rfl (fun K hK => ?_) AllReadyH.nil
          go_simp
          refine hK.out _ _ ?_ (fun hHeld => ?_)
          · exact keep5 SW7.out ((Ch.refl (fun _ => False) W7).alloc _) (fun _ _ h => h)
          clear hK K
          try simp only [lay_all]
          refine wpAnyH_take (i := 26) (v := ?_) rfl (by kernel_rfl) (by kernel_rfl) (by kernel_rfl) (fun _ _ _ h => h) (Or.inl ⟨by rfl, ?_⟩) (by assumption) ?_
          rotate_left
          · intro w hSw
            try dsimp only at hSw
            go_simp
            all_goals with_reducible rfl
          try simp only [lay_all]
          refine wpAnyH_done (by kernel_rfl) ?_ _
          refine NoPanic.normal ?_
          go_wp2_with fail
          go_ret
          exact fin.out _ rfl
  · go_simp
    refine hK.out _ _ (keep5 SW0.out ((Ch.refl (fun _ => False) W0).alloc _) (fun _ _ h => h)) (fun hHeld => ?_)
    clear hK K
    try simp only [lay_all]
    refine wpAnyH_name (fun W => Ch (fun _ => False) W0 W ∧ W.heap[W0.heap.size]? = some (.cells #[] 147 (0, 0)) ∧ W0.heap.size < W.heap.size) ⟨(Ch.refl _ _).alloc _, heap_new _, by simp⟩ ?_
    rintro W8 ⟨ch, hb, zW8⟩
    have SW8 := hid (keep5 SW0.out ch (fun _ _ h => h))
    have HB6 := hid hb
    have CW8 := hid (CW0.out.trans ch)
    clear hHeld ch hb
    refine wpAnyH_ready (rs := [0]) (by kernel_rfl) (by simp) ?_
    refine (AllReadyH.cons rfl (fun K hK => ?_) AllReadyH.nil)
    · go_simp
      refine hK.out _ _ (keep5 SW8.out ((Ch.refl (fun _ => False) W8).alloc _) (fun _ _ h => h)) (fun hHeld => ?_)
      clear hK K
      try simp only [lay_all]
      refine wpAnyH_name (fun W => Ch (fun _ => False) W8 W ∧ W.heap[W8.heap.size]? = some (.cells #[] 9 (0, 0)) ∧ W8.heap.size < W.heap.size) ⟨(Ch.refl _ _).alloc _, heap_new _, by simp⟩ ?_
      rintro W9 ⟨ch, hb, zW9⟩
      have SW9 := hid (keep5 SW8.out ch (fun _ _ h => h))
      have HB0 := hid hb
      have CW9 := hid (CW8.out.trans ch)
      have HB6 := hid (ch.keep HB6.out (fun h => h))
      clear hHeld ch hb
      refine wpAnyH_ready (rs := [5]) (by kernel_rfl) (by simp) ?_
      refine (AllReadyH.cons rfl (fun K hK => ?_) AllReadyH.nil)
      · have CC := CW9.out.size
        have CB := CW8.out.size
        obtain ⟨vl, W10, hrun, hown, hch, hv⟩ := run_append_onto (P := Try.prog) W9 w.heap.size 89 89 9 (.string ⟨#[]⟩) 1 16 Try.underlying89 Try.info9 rfl (by omega) W8.heap.size HB0.out (by omega) Lv d.L.length (d.L.map strV) (HQ.out _ CW9.out).hL (strs_one _) (by unfold maxLen; omega) (by omega)
        refine step_append_run rfl (.tmp 3) (.tmp 7) 89 89 rfl _ _ hrun ?_
        have CW10 := hid (CW9.out.then hch (fun i hi e => by omega))
        have SW10 := hid (keep5 SW9.out hch (fun i hi e => by omega))
        refine hK.out _ _ SW10.out (fun hHeld => ?_)
        clear hK K
        try simp only [lay_all]
        have zW10 := hch.size
        have HVl : Hid (∀ k, vl.ownBlock = some k → (k = W8.heap.size ∨ W9.heap.size ≤ k) ∧ k < W10.heap.size) := hid (fun k hk => ⟨hv k hk, (hown.lt k hk).2⟩)
        have HOl := hid hown
        have HB6 := hid (hch.keep HB6.out (by omega))
        clear hrun hown hch hv hHeld CC CB
        refine wpAnyH_ready (rs := [11]) (by kernel_rfl) (by simp) ?_
        refine (AllReadyH.cons rfl (fun K hK => ?_) AllReadyH.nil)
        · have CC := CW10.out.size
          have CB := CW0.out.size
          obtain ⟨vw, W11, hrun, hown, hch, hv⟩ := run_append_onto (P := Try.prog) W10 w.heap.size 143 143 147 (.agg #[.int .i64 0, .string ⟨#[]⟩]) 2 24 Try.underlying143 Try.info147 rfl (by omega) W0.heap.size HB6.out (by omega) Wv d.wait.length (rwCells d.wait) (HQ.out _ CW10.out).hW (rw_one _) (by unfold maxLen; omega) (by omega)
          refine step_append_run rfl (.tmp 9) (.tmp 13) 143 143 rfl _ _ hrun ?_
          have CW11 := hid (CW10.out.then hch (fun i hi e => by omega))
          have SW11 := hid (keep5 SW10.out hch (fun i hi e => by omega))
          refine hK.out _ _ SW11.out (fun hHeld => ?_)
          clear hK K
          try simp only [lay_all]
          have zW11 := hch.size
          have HVw : Hid (∀ k, vw.ownBlock = some k → (k = W0.heap.size ∨ W10.heap.size ≤ k) ∧ k < W11.heap.size) := hid (fun k hk => ⟨hv k hk, (hown.lt k hk).2⟩)
          have HOw := hid hown
          have HOl := hid (ownsRow_frame HOl.out (fun k hk => hch.block k (HOl.out.lt k hk).2 (fun e => by have h1 := HVl.out k hk; omega)))
          clear hrun hown hch hv hHeld CC CB
          have hHeld := SW11.out
          obtain ⟨la, lc, hfl⟩ := owns_form HOl.out
          obtain ⟨wa, wc, hfw⟩ := owns_form HOw.out
          have HF := hid (And.intro hfl hfw)
          have fin : Hid (∀ W, W = W11.alloc (.cells #[vl, vw, .int .i64 (d.steps : Int), .int .i64 d.fuse, .bool d.gone] 145) → RCoPost w d (.returned (.pointer (some ⟨W11.heap.size, 0, none⟩))) W) := hid (fun W hW => rcopy_end HI.out CW11.out HOl.out HOw.out (fun k h1 h2 => by have := HVl.out k h1; have := HVw.out k h2; omega) hW)
          rw [hfl, hfw] at fin
          rw [hfl, hfw]
          clear hHeld hfl hfw
          refine wpAnyH_take (i := 24) (v := ?_) rfl (by kernel_rfl) (by kernel_rfl) (by kernel_rfl) (fun _ _ _ h => h) (Or.inl ⟨by rfl, ?_⟩) (by assumption) ?_
          rotate_left
          · intro w hSw
            try dsimp only at hSw
            go_simp
            all_goals with_reducible rfl
          try simp only [lay_all]
          refine wpAnyH_ready (rs := [25]) (by kernel_rfl) (by simp) ?_
          refine AllReadyH.cons rfl (fun K hK => ?_) AllReadyH.nil
          go_simp
          refine hK.out _ _ ?_ (fun hHeld => ?_)
          · exact keep5 SW11.out ((Ch.refl (fun _ => False) W11).alloc _) (fun _ _ h => h)
          clear hK K
          try simp only [lay_all]
          refine wpAnyH_take (i := 26) (v := ?_) rfl (by kernel_rfl) (by kernel_rfl) (by kernel_rfl) (fun _ _ _ h => h) (Or.inl ⟨by rfl, ?_⟩) (by assumption) ?_
          rotate_left
          · intro w hSw
            try dsimp only at hSw
            go_simp
            all_goals with_reducible rfl
          try simp only [lay_all]
          refine wpAnyH_done (by kernel_rfl) ?_ _
          refine NoPanic.normal ?_
          go_wp2_with fail
          go_ret
          exact fin.out _ rfl

end Go.Proofs.Ytadhibemadgcoaa
