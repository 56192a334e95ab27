/- The reference's pager: Commit. Conditions: not more than 900000 steps and writes that wait. -/
import Derived.Test.YtadhibemadgcoaaRpE
import Derived.Deep.RegionHeld3
namespace Go.Proofs.Ytadhibemadgcoaa
open Go.RowKit

theorem rz_two {w0 w : World} {rp rq g : Nat} {p : Pg} {Q : Nat → Prop} (h : RZ w0 w rp rq p Q) (hg : p.gen = g) : w.cell? ⟨rp, 0, none⟩ = some (.pointer (some ⟨rq, 0, none⟩)) ∧ w.cell? ⟨rp, 1, none⟩ = some (.int .i64 (g : Int)) := by
  obtain ⟨ib, fb, Pv, F, M, h⟩ := h
  subst hg
  refine ⟨?_, ?_⟩ <;> (rw [cell_blk h.inn.hp]; simp)
theorem RZ.drew {w0 w : World} {rp rq : Nat} {p : Pg} {Q : Nat → Prop} (h : RZ w0 w rp rq p Q) : RZ w0 w.drew rp rq p Q := h.ch (Ch.refl (fun _ => False) w).drew (fun _ _ h => h) (fun _ _ h => h)
theorem toldP_zero (p : Pg) : toldP p 0 = p := by
  unfold toldP
  rw [show ((0 : Nat) == 9) = false from rfl, Bool.or_false]
def RComPost (w0 w : World) (rp rq : Nat) (p : Pg) (Q : Nat → Prop) (s : List UInt8) (e : Ending) (w' : World) : Prop :=
  e = .returned (.int .i64 ((commitP p s).1 : Nat)) ∧ RPost w0 w rp rq (commitP p s).2 Q w'
section
variable {w0 : World} {rp rq : Nat} {p : Pg} {Q : Nat → Prop}
set_option maxRecDepth 100000 in
set_option maxHeartbeats 4000000 in
theorem rcommit_any (s : ByteArray) (w : World) (h : RZ w0 w rp rq p Q) (hst : p.d.steps ≤ 900000) (hwt : p.d.wait.length ≤ 900000) :
    Calls Try.prog 107 #[.pointer (some ⟨rp, 0, none⟩), .string s] w (RComPost w0 w rp rq p Q s.data.toList) := by
  have HR0 := hid h
  obtain ⟨ib, fb, Pv, F, M, h1⟩ := h
  have n2 := h1.inn.n2
  have hgen := h1.inn.gen
  have c1 := cell_blk h1.inn.hp 1
  have c6 := cell_blk h1.inn.hp 6
  simp at c1 c6
  have HNl : Hid (p.pages.length ≤ 4096) := hid n2
  have HPg := hid h1.inn.pg
  have HZ0 := hid h1.inn.z0
  clear h1
  by_cases hd : p.dead = true
  · have e : commitP p s.data.toList = (9, p) := by unfold commitP; rw [if_pos hd]
    have fin : Hid (RComPost w0 w rp rq p Q s.data.toList (.returned (.int .i64 9)) w) := hid (by
      unfold RComPost; rw [e]; exact ⟨rfl, HR0.out.post (Ch.refl _ _)⟩)
    rw [hd] at c6
    clear c1 e hd
    go_enter Try.func107, Try.ntmps107
    go_wp2_with fail
    go_ret
    exact fin.out
  have hdf : p.dead = false := by simpa using hd
  rw [hdf] at c6
  have HD := hid hd
  clear hd hdf
  obtain ⟨g, HGg⟩ : ∃ g, Hid (p.gen = g) := ⟨_, hid rfl⟩
  rw [HGg.out] at c1 hgen
  have HSeal := hid (rroot_any ((g : Int) + 1) s w)
  by_cases hE : srootE ((g : Int) + 1) s.size ≠ 0
  · have e : commitP p s.data.toList = (srootE ((g : Int) + 1) s.size, p) := by
      unfold commitP; rw [if_neg HD.out, HGg.out, size_toList, if_pos hE]
    have fin : Hid (∀ w', Ch (fun _ => False) w w' → RComPost w0 w rp rq p Q s.data.toList (.returned (.int .i64 (srootE ((g : Int) + 1) s.size : Nat))) w') := hid (fun w' hc => by
      unfold RComPost; rw [e]; exact ⟨rfl, HR0.out.post hc⟩)
    obtain ⟨E, HEE⟩ : ∃ E, Hid (srootE ((g : Int) + 1) s.size = E) := ⟨_, hid rfl⟩
    rw [HEE.out] at fin HSeal hE
    have hEb : ((E : Int) == 0) = false := by simpa using hE
    have hEc : ((E : Int) != 0) = true := by rw [bne_iff_ne]; omega
    clear hE e
    go_enter Try.func107, Try.ntmps107
    go_wp2_with fail
    refine HSeal.out.mono ?_
    rintro e w1 ⟨v, rfl, -, c⟩
    have HC := hid c
    clear c
    go_wp2_with fail
    go_ret
    exact fin.out _ HC.out
  have hE0 : srootE ((g : Int) + 1) s.size = 0 := by omega
  have HE0 := hid hE0
  have HGn : Hid (g + 1 ≤ 4611686018427387904) := hid (by
    rcases srootE_cases ((g : Int) + 1) s.size with ⟨h, _⟩ | ⟨h, _⟩ | ⟨_, _, _, h⟩
    · rw [hE0] at h; cases h
    · rw [hE0] at h; cases h
    · omega)
  rw [hE0] at HSeal
  clear hE hE0
  have HCm : Hid (commitP p s.data.toList = if (rootW p.d (g + 1) (srootL ((g : Int) + 1) s.data.toList)).1 ≠ 0 then ((rootW p.d (g + 1) (srootL ((g : Int) + 1) s.data.toList)).1, toldP { p with d := (rootW p.d (g + 1) (srootL ((g : Int) + 1) s.data.toList)).2 } (rootW p.d (g + 1) (srootL ((g : Int) + 1) s.data.toList)).1)
      else (0, settleP { p with d := (rootW p.d (g + 1) (srootL ((g : Int) + 1) s.data.toList)).2, gen := g + 1, root := s.data.toList, pages := p.pages.map (cmF (g + 1)) })) := hid (by
    unfold commitP
    rw [if_neg HD.out, HGg.out, size_toList, if_neg (by rw [HE0.out]; simp)])
  obtain ⟨B, HB⟩ : ∃ B, Hid (srootL ((g : Int) + 1) s.data.toList = B) := ⟨_, hid rfl⟩
  rw [HB.out] at HSeal HCm
  obtain ⟨E1, HE1⟩ : ∃ E, Hid ((flushD p.d).1 = E) := ⟨_, hid rfl⟩
  obtain ⟨D1, HD1⟩ : ∃ D, Hid ((flushD p.d).2 = D) := ⟨_, hid rfl⟩
  have HPl1 : Hid (D1.steps ≤ 900001 ∧ D1.wait.length ≤ 900001) := hid (by
    have := (Pl.mk (n := p.d.L.length) (i := 900000) rfl hst hwt).flush
    rw [HD1.out] at this
    exact ⟨this.steps, this.wait⟩)
  obtain ⟨E2, HE2⟩ : ∃ E, Hid ((writeD D1 (((g + 1) % 2 : Nat) : Int) B).1 = E) := ⟨_, hid rfl⟩
  obtain ⟨D2, HD2⟩ : ∃ D, Hid ((writeD D1 (((g + 1) % 2 : Nat) : Int) B).2 = D) := ⟨_, hid rfl⟩
  have HPl2 : Hid (D2.steps ≤ 900002 ∧ D2.wait.length ≤ 900002) := hid (by
    have := (Pl.mk (d := D1) (n := D1.L.length) (i := 900001) rfl HPl1.out.1 HPl1.out.2).write (((g + 1) % 2 : Nat) : Int) B
    rw [HD2.out] at this
    exact ⟨this.steps, this.wait⟩)
  obtain ⟨E3, HE3⟩ : ∃ E, Hid ((flushD D2).1 = E) := ⟨_, hid rfl⟩
  obtain ⟨D3, HD3⟩ : ∃ D, Hid ((flushD D2).2 = D) := ⟨_, hid rfl⟩
  go_enter Try.func107, Try.ntmps107
  go_wp2_with fail
  refine HSeal.out.mono ?_
  rintro e w1 ⟨t, rfl, hb, c⟩
  have hR1 := HR0.out.ch c (fun _ _ h => h) (fun _ _ h => h)
  have c0 := (rz_two hR1 HGg.out).1
  have hfl := rflush_r w1 hR1 (by omega) (by omega)
  rw [HE1.out, HD1.out] at hfl
  have HFl := hid hfl
  have HTb := hid hb
  have HC1 := hid c
  clear c hb hR1 hfl c1
  go_wp2_with fail
  refine HFl.out.mono ?_
  rintro e w2 ⟨rfl, Q2, hr2, hf2, hc2⟩
  have HTl := hid (rtold_any E1 w2 hr2)
  have HF2 := hid hf2
  have HC2 := hid hc2
  clear hr2 hf2 hc2 c0
  go_wp2_with fail
  refine HTl.out.mono ?_
  rintro e w3 ⟨rfl, hr3⟩
  have HR3 := hid hr3
  clear hr3
  by_cases hE1 : ¬ E1 = 0
  · have hEb : ((E1 : Int) == 0) = false := by simpa using hE1
    have hEc : ((E1 : Int) != 0) = true := by rw [bne_iff_ne]; omega
    have HE := hid hE1
    clear hE1
    have fin : Hid (RComPost w0 w rp rq p Q s.data.toList (.returned (.int .i64 (E1 : Int))) w3) := hid (by
      unfold RComPost
      have hr : rootW p.d (g + 1) B = (E1, D1) := by unfold rootW; rw [HE1.out, if_pos HE.out, ← HE1.out, ← HD1.out]
      rw [HCm.out, hr, if_pos HE.out]
      exact ⟨rfl, RPost.trans (Fresh.refl _ _) (HC1.out.mono (fun _ _ h => h.elim)) (RPost.trans HF2.out HC2.out HR3.out)⟩)
    go_wp2_with fail
    go_ret
    exact fin.out
  obtain rfl : E1 = 0 := by omega
  clear hE1
  obtain ⟨Q3, hr3, hf3, hc3⟩ := HR3.out
  rw [toldP_zero] at hr3
  have hsd := rz_two hr3.drew HGg.out
  obtain ⟨cap, w4, hcv, hbt, hc4⟩ := conv_bytes w3.drew t
  rw [HTb.out] at hbt
  have hr4 := hr3.drew.ch hc4 (fun _ _ h => h) (fun _ _ h => h)
  have hlt3 := hr3.lt
  have hwr := rwrite_r (((g + 1) % 2 : Nat) : Int) (some ⟨w3.drew.heap.size, 0, none⟩) t.size cap B w4 hr4 (show D1.steps ≤ 1000000 by have := HPl1.out.1; omega) (show D1.wait.length ≤ 1000000 by have := HPl1.out.2; omega) hbt (by rw [← HTb.out, size_toList]) (fun k hk hq => by
    obtain rfl : w3.drew.heap.size = k := by simpa [Value.ownBlock] using hk
    have h2 := (hlt3 _ hq).2
    have h3 : w3.drew.heap.size = w3.heap.size := rfl
    omega)
  rw [show ({ p with d := D1 } : Pg).d = D1 from rfl, HE2.out, HD2.out] at hwr
  have HF3 := hid hf3
  have HC3 := hid hc3
  have HCc := hid hc4
  have HCv := hid hcv
  have HS0 := hid hsd
  have hw1 : IntKind.i64.wrap ((g : Int) + 1) = (g : Int) + 1 := wrap_id (by omega) (by have := HGn.out; omega)
  have hw2 : Int.tmod ((g : Int) + 1) 2 = (((g + 1) % 2 : Nat) : Int) := by
    rw [Int.tmod_eq_emod_of_nonneg (by omega)]; omega
  have hw3 : IntKind.i64.wrap (((g + 1) % 2 : Nat) : Int) = (((g + 1) % 2 : Nat) : Int) := wrap_id (by omega) (by omega)
  obtain ⟨gm, hgm⟩ : ∃ gm : Int, gm = (((g + 1) % 2 : Nat) : Int) := ⟨_, rfl⟩
  rw [← hgm] at hw2 hw3 hwr
  have HWr := hid hwr
  clear hr3 hf3 hc3 hsd hcv hbt hc4 hr4 hlt3 hwr hgm
  go_wp2_with fail
  refine wp_region_noPanic ?_
  refine wp_region_held_drew (S := (fun W => W.cell? ⟨rp, 0, none⟩ = some (.pointer (some ⟨rq, 0, none⟩)) ∧ W.cell? ⟨rp, 1, none⟩ = some (.int .i64 (g : Int)))) (by kernel_rfl) HS0.out (fun hHeld => ?_)
  refine wpAnyH_take (i := 0) (v := ?_) rfl (by kernel_rfl) (by kernel_rfl) (by kernel_rfl) (fun _ _ _ h => h) (Or.inl ⟨by rfl, ?_⟩) (by assumption) ?_
  rotate_left
  · intro w hSw
    try dsimp only at hSw
    go_simp
    all_goals with_reducible rfl
  try simp only [lay_all]
  refine wpAnyH_take (i := 1) (v := ?_) rfl (by kernel_rfl) (by kernel_rfl) (by kernel_rfl) (fun _ _ _ h => h) (Or.inl ⟨by rfl, ?_⟩) (by assumption) ?_
  rotate_left
  · intro w hSw
    try dsimp only at hSw
    go_simp
    all_goals with_reducible rfl
  try simp only [lay_all]
  refine wpAnyH_take (i := 2) (v := ?_) rfl (by kernel_rfl) (by kernel_rfl) (by kernel_rfl) (fun _ _ _ h => h) (Or.inl ⟨by rfl, ?_⟩) (by assumption) ?_
  rotate_left
  · intro w hSw
    try dsimp only at hSw
    go_simp
    all_goals with_reducible rfl
  try simp only [lay_all]
  refine wpAnyH_take (i := 3) (v := ?_) rfl (by kernel_rfl) (by kernel_rfl) (by kernel_rfl) (fun _ _ _ h => h) (Or.inl ⟨by rfl, ?_⟩) (by assumption) ?_
  rotate_left
  · intro w hSw
    try dsimp only at hSw
    go_simp
    all_goals with_reducible rfl
  try simp only [lay_all]
  refine wpAnyH_take (i := 4) (v := ?_) rfl (by kernel_rfl) (by kernel_rfl) (by kernel_rfl) (fun _ _ _ h => h) (Or.inl ⟨by rfl, ?_⟩) (by assumption) ?_
  rotate_left
  · intro w hSw
    try dsimp only at hSw
    go_simp
    all_goals with_reducible rfl
  try simp only [lay_all]
  refine wpAnyH_take (i := 5) (v := ?_) rfl (by kernel_rfl) (by kernel_rfl) (by kernel_rfl) (fun _ _ _ h => h) (Or.inl ⟨by rfl, ?_⟩) (by assumption) ?_
  rotate_left
  · intro w hSw
    try dsimp only at hSw
    go_simp
    all_goals with_reducible rfl
  try simp only [lay_all]
  refine wpAnyH_take (i := 6) (v := ?_) rfl (by kernel_rfl) (by kernel_rfl) (by kernel_rfl) (fun _ _ _ h => h) (Or.inl ⟨by rfl, ?_⟩) (by assumption) ?_
  rotate_left
  · intro w hSw
    try dsimp only at hSw
    go_simp
    all_goals with_reducible rfl
  try simp only [lay_all]
  refine wpAnyH_take (i := 7) (v := ?_) rfl (by kernel_rfl) (by kernel_rfl) (by kernel_rfl) (fun _ _ _ h => h) (Or.inl ⟨by rfl, ?_⟩) (by assumption) ?_
  rotate_left
  · intro w hSw
    try dsimp only at hSw
    go_simp
    all_goals with_reducible rfl
  try simp only [lay_all]
  refine wpAnyH_take (i := 8) (v := ?_) rfl (by kernel_rfl) (by kernel_rfl) (by kernel_rfl) (fun _ _ _ h => h) (Or.inl ⟨by rfl, ?_⟩) (by assumption) ?_
  rotate_left
  · intro w hSw
    try dsimp only at hSw
    go_simp
    all_goals with_reducible rfl
  try simp only [lay_all]
  refine wpAnyH_take (i := 9) (v := ?_) rfl (by kernel_rfl) (by kernel_rfl) (by kernel_rfl) (fun _ _ _ h => h) (Or.inl ⟨by rfl, ?_⟩) (by assumption) ?_
  rotate_left
  · intro w hSw
    try dsimp only at hSw
    go_simp
    all_goals with_reducible rfl
  try simp only [lay_all]
  refine wpAnyH_take (i := 10) (v := ?_) rfl (by kernel_rfl) (by kernel_rfl) (by kernel_rfl) (fun _ _ _ h => h) (Or.inl ⟨by rfl, ?_⟩) (by assumption) ?_
  rotate_left
  · intro w hSw
    try dsimp only at hSw
    go_simp
    all_goals with_reducible rfl
  try simp only [lay_all]
  refine wpAnyH_take (i := 11) (v := ?_) rfl (by kernel_rfl) (by kernel_rfl) (by kernel_rfl) (fun _ _ _ h => h) (Or.inl ⟨by rfl, ?_⟩) (by assumption) ?_
  rotate_left
  · intro w hSw
    try dsimp only at hSw
    go_simp
    all_goals with_reducible rfl
  try simp only [lay_all]
  refine wpAnyH_ready (rs := [12]) (by kernel_rfl) (by simp) ?_
  refine AllReadyH.cons rfl (fun K hK => ?_) AllReadyH.nil
  go_simp
  rw [HCv.out]
  have HS2 := hid (keep2 HS0.out HCc.out (fun q hq h => h))
  refine hK.out _ _ ?_ (fun hHeld => ?_)
  · first | exact HS2.out | assumption
  clear hK K
  try simp only [lay_all]
  refine wpAnyH_ready (rs := [13]) (by kernel_rfl) (by simp) ?_
  refine AllReadyH.cons rfl (fun K hK => ?_) AllReadyH.nil
  go_simp
  refine HWr.out.mono ?_
  rintro e w5 ⟨rfl, Q5, hr5, hf5, hc5⟩
  have hs2 : w5.cell? ⟨rp, 0, none⟩ = some (.pointer (some ⟨rq, 0, none⟩)) ∧ w5.cell? ⟨rp, 1, none⟩ = some (.int .i64 (g : Int)) := rz_two hr5 HGg.out
  have HS2 := hid hs2
  have HTl := hid (rtold_any E2 w5 hr5)
  have HF5 := hid hf5
  have HC5 := hid hc5
  clear hr5 hf5 hc5 hs2
  go_wp2_with fail
  refine hK.out _ _ ?_ (fun hHeld => ?_)
  · first | exact HS2.out | assumption
  clear hK K
  try simp only [lay_all]
  refine wpAnyH_ready (rs := [14]) (by kernel_rfl) (by simp) ?_
  refine AllReadyH.cons rfl (fun K hK => ?_) AllReadyH.nil
  go_simp
  refine HTl.out.mono ?_
  rintro e w6 ⟨rfl, Q6, hr6, hf6, hc6⟩
  have hs2 : w6.cell? ⟨rp, 0, none⟩ = some (.pointer (some ⟨rq, 0, none⟩)) ∧ w6.cell? ⟨rp, 1, none⟩ = some (.int .i64 (g : Int)) := rz_two hr6 HGg.out
  have HS2 := hid hs2
  have HR6 := hid hr6
  have HF6 := hid hf6
  have HC6 := hid hc6
  clear hr6 hf6 hc6 hs2
  go_wp2_with fail
  refine hK.out _ _ ?_ (fun hHeld => ?_)
  · first | exact HS2.out | assumption
  clear hK K
  try simp only [lay_all]
  refine wpAnyH_take (i := 15) (v := ?_) rfl (by kernel_rfl) (by kernel_rfl) (by kernel_rfl) (fun _ _ _ h => h) (Or.inl ⟨by rfl, ?_⟩) (by assumption) ?_
  rotate_left
  · intro w hSw
    try dsimp only at hSw
    go_simp
    all_goals with_reducible rfl
  try simp only [lay_all]
  refine wpAnyH_done (by kernel_rfl) ?_ _
  refine NoPanic.normal ?_
  clear hw2 hw3
  have HUp6 : Hid (∀ p' w', RPost w0 w6 rp rq p' Q6 w' → RPost w0 w rp rq p' Q w') := hid (fun p' w' h => RPost.trans (Fresh.refl _ _) (HC1.out.mono (fun _ _ h => h.elim)) (RPost.trans HF2.out HC2.out (RPost.trans HF3.out HC3.out
    (RPost.trans (Fresh.refl _ _) ((((Ch.refl (fun _ => False) w3).drew).trans HCc.out).mono (fun _ _ h => h.elim)) (RPost.trans HF5.out HC5.out (RPost.trans HF6.out HC6.out h))))))
  by_cases hE2 : ¬ E2 = 0
  · have hEb : ((E2 : Int) == 0) = false := by simpa using hE2
    have hEc : ((E2 : Int) != 0) = true := by rw [bne_iff_ne]; omega
    have HE := hid hE2
    clear hE2
    have fin : Hid (RComPost w0 w rp rq p Q s.data.toList (.returned (.int .i64 (E2 : Int))) w6) := hid (by
      unfold RComPost
      have hr : rootW p.d (g + 1) B = (E2, D2) := by unfold rootW; rw [HE1.out, if_neg (by simp), HD1.out, HE2.out, if_pos HE.out, ← HE2.out, ← HD2.out]
      rw [HCm.out, hr, if_pos HE.out]
      exact ⟨rfl, HUp6.out _ _ (HR6.out.post (Ch.refl _ _))⟩)
    go_wp2_with fail
    go_ret
    exact fin.out
  obtain rfl : E2 = 0 := by omega
  clear hE2
  have hr6 := HR6.out
  rw [toldP_zero] at hr6
  have c0 := (rz_two hr6 HGg.out).1
  have hfl := rflush_r w6 hr6 (show D2.steps ≤ 1000000 by have := HPl2.out.1; omega) (show D2.wait.length ≤ 1000000 by have := HPl2.out.2; omega)
  rw [show ({ p with d := D2 } : Pg).d = D2 from rfl, HE3.out, HD3.out] at hfl
  have HFl3 := hid hfl
  have hr : rootW p.d (g + 1) B = (E3, D3) := by
    unfold rootW
    rw [HE1.out, if_neg (by simp), HD1.out, HE2.out, if_neg (by simp), HD2.out, ← HE3.out, ← HD3.out]
  have HRt := hid hr
  clear hr6 hfl hr
  go_wp2_with fail
  refine HFl3.out.mono ?_
  rintro e w7 ⟨rfl, Q7, hr7, hf7, hc7⟩
  have HTl3 := hid (rtold_any E3 w7 hr7)
  have HF7 := hid hf7
  have HC7 := hid hc7
  clear hr7 hf7 hc7 c0
  go_wp2_with fail
  refine HTl3.out.mono ?_
  rintro e w8 ⟨rfl, Q8, hr8, hf8, hc8⟩
  have HUp8 : Hid (∀ p' w', RPost w0 w8 rp rq p' Q8 w' → RPost w0 w rp rq p' Q w') := hid (fun p' w' h => HUp6.out _ _ (RPost.trans HF7.out HC7.out (RPost.trans hf8 hc8 h)))
  have HR8 := hid hr8
  clear hr8 hf8 hc8
  by_cases hE3 : ¬ E3 = 0
  · have hEb : ((E3 : Int) == 0) = false := by simpa using hE3
    have hEc : ((E3 : Int) != 0) = true := by rw [bne_iff_ne]; omega
    have HE := hid hE3
    clear hE3
    have fin : Hid (RComPost w0 w rp rq p Q s.data.toList (.returned (.int .i64 (E3 : Int))) w8) := hid (by
      unfold RComPost
      rw [HCm.out, HRt.out, if_pos HE.out]
      exact ⟨rfl, HUp8.out _ _ (HR8.out.post (Ch.refl _ _))⟩)
    go_wp2_with fail
    go_ret
    exact fin.out
  obtain rfl : E3 = 0 := by omega
  clear hE3
  have hr8 := HR8.out
  rw [toldP_zero] at hr8
  obtain ⟨ib8, fb8, Pv8, F8, M8, h8⟩ := hr8
  have H8 := hid h8
  have c1 := cell_blk h8.inn.hp 1
  have c2 := cell_blk h8.inn.hp 2
  simp at c1 c2
  have c1' : w8.cell? ⟨rp, 1, none⟩ = some (.int .i64 (g : Int)) := by rw [c1, HGg.out]
  have f1 := frozen_blk h8.inn.hp 1
  have f2 := frozen_blk h8.inn.hp 2
  obtain ⟨n, HN⟩ : ∃ n, Hid (p.pages.length = n) := ⟨_, hid rfl⟩
  have hn4 : n ≤ 4096 := by have := HNl.out; rw [HN.out] at this; exact this
  have hrpz := blk_lt h8.inn.hp
  have HA : Hid (RzI w0 ((w8.setCell ⟨rp, 1, none⟩ (.int .i64 ((g : Int) + 1))).setCell ⟨rp, 2, none⟩ (.string s)) rp rq ib8 fb8 Pv8 { p with d := D3, gen := g + 1, root := s.data.toList } F8 M8 Q8 ∧ Ch Q8 w8 ((w8.setCell ⟨rp, 1, none⟩ (.int .i64 ((g : Int) + 1))).setCell ⟨rp, 2, none⟩ (.string s))) := hid (by
    have hc : Ch (fun k => k = rp) w8 ((w8.setCell ⟨rp, 1, none⟩ (.int .i64 ((g : Int) + 1))).setCell ⟨rp, 2, none⟩ (.string s)) := ((Ch.refl (fun k => k = rp) w8).setCell (fun _ => rfl) _).setCell (fun _ => rfl) _
    refine h8.head (g + 1) s.data.toList p.dead HGn.out hc (fun k hk => by rw [Below.heap_setCell _ _ _ _ hk, Below.heap_setCell _ _ _ _ hk]) ?_
    rw [heap_set (heap_set h8.inn.hp 1 _) 2 _, str_back]
    rfl)
  clear h8 c1
  go_wp2_with fail
  go_loopw [7] (fun i wr => ∃ j : Nat, i = .int .i64 (j : Int) ∧ j ≤ n ∧ Hid (∃ F', RzI w0 wr rp rq ib8 fb8 Pv8 { p with d := D3, gen := g + 1, root := s.data.toList, pages := till (cmF (g + 1)) p.pages j } F' M8 Q8 ∧ Ch Q8 w8 wr)) (fun i _ => n - (intOf i).toNat)
  case atStart => exact ⟨0, rfl, by omega, hid ⟨F8, by rw [till_zero]; exact HA.out.1, HA.out.2⟩⟩
  case round =>
    obtain ⟨j, rfl, hj, HI⟩ := hrel
    obtain ⟨F', hr, hc⟩ := HI.out
    have HR := hid hr
    have HC := hid hc
    have c3 := cell_blk hr.inn.hp 3
    have c4 := cell_blk hr.inn.hp 4
    have c1 := cell_blk hr.inn.hp 1
    simp only [till_length] at c3 c4
    simp at c3 c4 c1
    rw [HN.out] at c3 c4
    have hrpz := blk_lt hr.inn.hp
    clear hr hc
    by_cases hlt : j < n
    · obtain ⟨x, HXx⟩ : ∃ x, Hid (p.pages[j]? = some x) := ⟨p.pages[j]'(by rw [HN.out]; exact hlt), hid (List.getElem?_eq_getElem _)⟩
      have hxx : ({ p with d := D3, gen := g + 1, root := s.data.toList, pages := till (cmF (g + 1)) p.pages j } : Pg).pages[j]? = some x := by
        show (till (cmF (g + 1)) p.pages j)[j]? = some x
        rw [till_get _ _ _ (by rw [HN.out]; exact hj)]; exact HXx.out
      obtain ⟨q1, q2, q3⟩ := HR.out.cell hxx
      obtain ⟨hrp, hrf, -⟩ := HR.out.inn.ne
      have hif := HR.out.inn.e1
      have hsuc := till_succ (cmF (g + 1)) p.pages j x HXx.out
      obtain ⟨v, hv⟩ : ∃ v, F'[j]? = some v := ⟨F'[j]'(by rw [HR.out.inn.fl]; show j < (till _ p.pages j).length; rw [till_length, HN.out]; exact hlt), List.getElem?_eq_getElem _⟩
      obtain ⟨r1, r2, r3⟩ := HR.out.fcell hv
      clear hxx hv
      by_cases h2 : x.1 = 2
      · have HF : cmF (g + 1) x = (1, x.2) := by unfold cmF; rw [if_pos h2]
        have hj2 : 2 ≤ j := Nat.le_of_not_lt fun hlt2 => by have := HZ0.out j x hlt2 HXx.out; omega
        obtain ⟨g1, g2⟩ := HR.out.is1 j (1, x.2) (by simp) (HPg.out x (List.mem_of_getElem? HXx.out)) (.inl hj2)
        rw [HF] at hsuc
        simp only [hsuc] at g1
        have G1 := hid g1
        have G2 := hid (HC.out.trans g2)
        have h2i : (x.1 : Int) = 2 := by omega
        rw [h2i] at q1
        clear g1 g2 h2 h2i hsuc HF hj2
        go_wp2_with fail
        go_roundw
        case rel => exact ⟨j + 1, by go_num, by omega, hid ⟨F', G1.out, G2.out⟩⟩
        case measure => simp [intOf]; omega
      · have h2b : ((x.1 : Int) == 2) = false := by rw [beq_eq_false_iff_ne]; omega
        by_cases h3 : x.1 = 3
        · have HF : cmF (g + 1) x = (4, g + 1) := by unfold cmF; rw [if_neg h2, if_pos h3]
          have hj2 : 2 ≤ j := Nat.le_of_not_lt fun hlt2 => by have := HZ0.out j x hlt2 HXx.out; omega
          obtain ⟨g1, g2⟩ := HR.out.is4 j (g + 1) HGn.out hj2 (by show j < (till _ p.pages j).length; rw [till_length, HN.out]; exact hlt)
          rw [HF] at hsuc
          simp only [hsuc] at g1
          have cd := (Ch.refl (fun _ => False) ((wr.setCell ⟨ib8, j, none⟩ (.int .i64 4)).setCell ⟨fb8, j, none⟩ (.int .i64 ((g + 1 : Nat) : Int)))).drew
          have G1 := hid (g1.ch cd (fun _ _ h => h) (fun _ _ h => h))
          have G2 := hid ((HC.out.trans g2).trans (cd.mono (fun _ _ h => h.elim)))
          have h3i : (x.1 : Int) = 3 := by omega
          rw [h3i] at q1
          clear g1 g2 h2 h2b h3 h3i hsuc HF hj2 cd
          go_wp2_with fail
          refine region_tail 10 (by kernel_rfl) (by kernel_rfl) ?_
          simp only [List.take_succ_cons, List.take_zero, List.drop_succ_cons, List.drop_zero]
          repeat still_step
          refine wpStill_nil ?_
          go_wp2_with fail
          go_roundw
          case rel => exact ⟨j + 1, by go_num, by omega, hid ⟨_, G1.out, G2.out⟩⟩
          case measure => simp [intOf]; omega
        · have h3b : ((x.1 : Int) == 3) = false := by rw [beq_eq_false_iff_ne]; omega
          have HF : cmF (g + 1) x = x := by unfold cmF; rw [if_neg h2, if_neg h3]
          have HNext := HR.out
          rw [← till_same _ _ _ _ HXx.out HF] at HNext
          have HNx := hid HNext
          clear h2 h3 HNext HF hsuc
          go_wp2_with fail
          go_roundw
          case rel => exact ⟨j + 1, by go_num, by omega, hid ⟨F', HNx.out, HC.out⟩⟩
          case measure => simp [intOf]; omega
    · obtain rfl : j = n := by omega
      have hr := HR.out
      rw [show till (cmF (g + 1)) p.pages j = p.pages.map (cmF (g + 1)) by rw [← HN.out]; exact till_all _ _] at hr
      have HSt := hid (rsettle_any wr ⟨ib8, fb8, Pv8, F', M8, hr⟩)
      clear hr
      go_wp2_with fail
      refine HSt.out.mono ?_
      rintro e w9 ⟨rfl, hr9⟩
      have fin : Hid (RComPost w0 w rp rq p Q s.data.toList (.returned (.int .i64 0)) w9) := hid (by
        unfold RComPost
        rw [HCm.out, HRt.out, if_neg (by simp)]
        exact ⟨rfl, HUp8.out _ _ (RPost.trans (Fresh.refl _ _) HC.out hr9)⟩)
      clear hr9
      go_wp2_with fail
      go_ret
      exact fin.out
end

end Go.Proofs.Ytadhibemadgcoaa
