/- Package pager: Commit. Conditions: not more than a million steps and writes that wait. -/
import Derived.Test.YtadhibemadgcoaaPgF
import Derived.Deep.RegionHeld3
namespace Go.Proofs.Ytadhibemadgcoaa
open Go.RowKit Go.MapKept Go.Maps

/-- What Commit makes of a page. -/
def cmF (gen : Nat) (x : Nat × Nat) : Nat × Nat := if x.1 = 2 then (1, x.2) else if x.1 = 3 then (4, gen) else x
/-- The writing of a root: the error, the disk. -/
def rootW (d : Dk) (gen : Nat) (b : List UInt8) : Nat × Dk :=
  if (flushD d).1 ≠ 0 then flushD d
  else if (writeD (flushD d).2 ((gen % 2 : Nat) : Int) b).1 ≠ 0 then writeD (flushD d).2 ((gen % 2 : Nat) : Int) b
  else flushD (writeD (flushD d).2 ((gen % 2 : Nat) : Int) b).2
/-- Commit: the error, and the pager. -/
def commitP (p : Pg) (s : List UInt8) : Nat × Pg :=
  if p.dead = true then (9, p)
  else if srootE ((p.gen : Int) + 1) s.length ≠ 0 then (srootE ((p.gen : Int) + 1) s.length, p)
  else if (rootW p.d (p.gen + 1) (srootL ((p.gen : Int) + 1) s)).1 ≠ 0 then ((rootW p.d (p.gen + 1) (srootL ((p.gen : Int) + 1) s)).1, toldP { p with d := (rootW p.d (p.gen + 1) (srootL ((p.gen : Int) + 1) s)).2 } (rootW p.d (p.gen + 1) (srootL ((p.gen : Int) + 1) s)).1)
  else (0, settleP { p with d := (rootW p.d (p.gen + 1) (srootL ((p.gen : Int) + 1) s)).2, gen := p.gen + 1, root := s, pages := p.pages.map (cmF (p.gen + 1)) })

theorem commit_none (s : ByteArray) (w : World) : Calls Try.prog 58 #[.pointer none, .string s] w fun e w' => e = .returned (.int .i64 1) ∧ w = w' := by
  go_enter Try.func58, Try.ntmps58
  go_wp2_with (go_at_call 98; refine (ready_none _).mono ?_; rintro e w' ⟨rfl, rfl⟩)
  go_ret
  exact ⟨rfl, rfl⟩

theorem PgX.drew {w : World} {pp dp gb mb : Nat} {p : Pg} {M F O : Nat → Prop} (h : PgX w pp dp gb mb p M F O) : PgX w.drew pp dp gb mb p M F O := h.ch (Ch.refl (fun _ => False) w).drew (fun _ _ h => h) (fun _ _ h => h)
theorem cell_ch2 {S : Nat → Prop} {w w' : World} {p : Addr} {v : Value} (h : w.cell? p = some v) (hc : Ch S w w') (hn : ¬ S p.block) : w'.cell? p = some v := by
  rw [World.cell?_of_block (hc.block p.block (World.block_lt_of_cell? w _ h) hn)]; exact h
theorem keep2 {S : Nat → Prop} {w w' : World} {b : Nat} {v0 v1 : Value} (h : w.cell? ⟨b, 0, none⟩ = some v0 ∧ w.cell? ⟨b, 1, none⟩ = some v1) (hc : Ch S w w') (hn : ∀ q, q = b → ¬ S q) : w'.cell? ⟨b, 0, none⟩ = some v0 ∧ w'.cell? ⟨b, 1, none⟩ = some v1 :=
  ⟨cell_ch2 h.1 hc (hn _ rfl), cell_ch2 h.2 hc (hn _ rfl)⟩
theorem str_back (s : ByteArray) : (⟨s.data.toList.toArray⟩ : ByteArray) = s := by cases s; simp

def ComPost (w : World) (pp dp gb mb : Nat) (p : Pg) (M F O : Nat → Prop) (s : List UInt8) (e : Ending) (w' : World) : Prop :=
  e = .returned (.int .i64 ((commitP p s).1 : Nat)) ∧ ∃ M' F', PgX w' pp dp gb mb (commitP p s).2 M' F' O ∧ Fresh w M M' ∧ Fresh w F F' ∧ Ch (fun k => M k ∨ O k) w w'

set_option maxRecDepth 100000 in
set_option maxHeartbeats 4000000 in
theorem commit_any {pp dp gb mb : Nat} {p : Pg} {M F O : Nat → Prop} (s : ByteArray) (w : World) (h : PgX w pp dp gb mb p M F O) (hst : p.d.steps ≤ 900000) (hwt : p.d.wait.length ≤ 900000) :
    Calls Try.prog 58 #[.pointer (some ⟨pp, 0, none⟩), .string s] w (ComPost w pp dp gb mb p M F O s.data.toList) := by
  have HX := hid h
  have hR := ready_any w h.at_
  have c1 := cell_blk h.1.hp 1
  simp at c1
  have n2 := h.1.n2
  have hgen := h.1.gen
  clear h
  by_cases hd : p.dead = true
  · have e : commitP p s.data.toList = (9, p) := by unfold commitP; rw [if_pos hd]
    have fin : Hid (ComPost w pp dp gb mb p M F O s.data.toList (.returned (.int .i64 9)) w) := hid (by
      unfold ComPost; rw [e]; exact ⟨rfl, M, F, HX.out, Fresh.refl _ _, Fresh.refl _ _, Ch.refl _ _⟩)
    rw [hd] at hR
    have HR := hid hR
    clear hR c1 e hd
    go_enter Try.func58, Try.ntmps58
    go_wp2_with (go_at_call 98; refine HR.out.mono ?_; rintro e w' ⟨rfl, rfl⟩)
    go_ret
    exact fin.out
  have hdf : p.dead = false := by simpa using hd
  rw [hdf] at hR
  have HR := hid hR
  have HD := hid hd
  have HDf := hid hdf
  clear hR hd hdf
  obtain ⟨g, HGg⟩ : ∃ g, Hid (p.gen = g) := ⟨_, hid rfl⟩
  rw [HGg.out] at c1 hgen
  have HSeal := hid (sroot_any ((g : Int) + 1) s w)
  by_cases hE : srootE ((g : Int) + 1) s.size ≠ 0
  · have e : commitP p s.data.toList = (srootE ((g : Int) + 1) s.size, p) := by
      unfold commitP; rw [if_neg HD.out, HGg.out, size_toList, if_pos hE]
    have fin : Hid (∀ w', Ch (fun _ => False) w w' → ComPost w pp dp gb mb p M F O s.data.toList (.returned (.int .i64 (srootE ((g : Int) + 1) s.size : Nat))) w') := hid (fun w' hc => by
      unfold ComPost; rw [e]; exact ⟨rfl, M, F, HX.out.ch hc (fun _ _ h => h) (fun _ _ h => h), Fresh.refl _ _, Fresh.refl _ _, hc.mono (fun _ _ h => h.elim)⟩)
    obtain ⟨E, HEE⟩ : ∃ E, Hid (srootE ((g : Int) + 1) s.size = E) := ⟨_, hid rfl⟩
    rw [HEE.out] at fin HSeal hE
    have hEb : ((E : Int) == 0) = false := by simpa using hE
    clear hE e
    go_enter Try.func58, Try.ntmps58
    go_wp2_with (go_at_call 98; refine HR.out.mono ?_; rintro e w' ⟨rfl, rfl⟩)
    refine HSeal.out.mono ?_
    rintro e w1 ⟨v, rfl, -, c, -⟩
    have HC := hid c
    clear c
    go_wp2_with fail
    go_ret
    exact fin.out _ HC.out
  have hE0 : srootE ((g : Int) + 1) s.size = 0 := by omega
  have HE0 := hid hE0
  have HGn : Hid (g + 1 ≤ 4611686018427387904) := hid (by
    rcases srootE_cases ((g : Int) + 1) s.size with ⟨h, _⟩ | ⟨h, _⟩ | ⟨_, _, _, h⟩
    · rw [hE0] at h; cases h
    · rw [hE0] at h; cases h
    · omega)
  rw [hE0] at HSeal
  clear hE hE0
  have HCm : Hid (commitP p s.data.toList = if (rootW p.d (g + 1) (srootL ((g : Int) + 1) s.data.toList)).1 ≠ 0 then ((rootW p.d (g + 1) (srootL ((g : Int) + 1) s.data.toList)).1, toldP { p with d := (rootW p.d (g + 1) (srootL ((g : Int) + 1) s.data.toList)).2 } (rootW p.d (g + 1) (srootL ((g : Int) + 1) s.data.toList)).1)
      else (0, settleP { p with d := (rootW p.d (g + 1) (srootL ((g : Int) + 1) s.data.toList)).2, gen := g + 1, root := s.data.toList, pages := p.pages.map (cmF (g + 1)) })) := hid (by
    unfold commitP
    rw [if_neg HD.out, HGg.out, size_toList, if_neg (by rw [HE0.out]; simp)])
  obtain ⟨B, HB⟩ : ∃ B, Hid (srootL ((g : Int) + 1) s.data.toList = B) := ⟨_, hid rfl⟩
  rw [HB.out] at HSeal HCm
  -- the three steps of the disk, as plain values
  obtain ⟨E1, HE1⟩ : ∃ E, Hid ((flushD p.d).1 = E) := ⟨_, hid rfl⟩
  obtain ⟨D1, HD1⟩ : ∃ D, Hid ((flushD p.d).2 = D) := ⟨_, hid rfl⟩
  have HL1 : Hid (D1.L.length = p.d.L.length) := hid (by rw [← HD1.out]; exact flush_len _)
  have HPl1 : Hid (D1.steps ≤ 900001 ∧ D1.wait.length ≤ 900001) := hid (by
    have := (Pl.mk (n := p.d.L.length) (i := 900000) rfl hst hwt).flush
    rw [HD1.out] at this
    exact ⟨this.steps, this.wait⟩)
  have HFl1 := hid (fun (W : World) (hc : Ch (fun _ => False) w W) => flush_any W (HX.out.2.1.ch hc (fun _ _ h => h)) (by omega) (by omega))
  rw [HE1.out, HD1.out] at HFl1
  by_cases hE1 : ¬ E1 = 0
  · have hEb : ((E1 : Int) == 0) = false := by simpa using hE1
    have HE := hid hE1
    clear hE1
    go_enter Try.func58, Try.ntmps58
    go_wp2_with (go_at_call 98; refine HR.out.mono ?_; rintro e w' ⟨rfl, rfl⟩)
    refine HSeal.out.mono ?_
    rintro e w1 ⟨v, rfl, -, c, -⟩
    have c0 := cell_blk (HX.out.ch c (fun _ _ h => h) (fun _ _ h => h)).1.hp 0
    simp at c0
    have HC := hid c
    clear c
    go_wp2_with fail
    refine (HFl1.out _ HC.out).mono ?_
    rintro e w2 ⟨rfl, hd2, c2⟩
    have HX2 := hid ((HX.out.ch HC.out (fun _ _ h => h) (fun _ _ h => h)).disk c2 hd2 HL1.out (Fresh.refl _ _))
    have HC2 := hid ((HC.out.mono (T := fun k => M k ∨ O k) (fun _ _ h => h.elim)).then c2 (fun i _ h => .inl h))
    clear hd2 c2
    go_wp2_with fail
    refine (told_any E1 _ HX2.out).mono ?_
    rintro e w3 ⟨rfl, hX3, c3⟩
    have fin : Hid (ComPost w pp dp gb mb p M F O s.data.toList (.returned (.int .i64 (E1 : Int))) w3) := hid (by
      unfold ComPost
      have hr : rootW p.d (g + 1) B = (E1, D1) := by unfold rootW; rw [HE1.out, if_pos HE.out, ← HE1.out, ← HD1.out]
      rw [HCm.out, hr, if_pos HE.out]
      exact ⟨rfl, M, F, hX3, Fresh.refl _ _, Fresh.refl _ _, HC2.out.then c3 (fun i _ h => .inr h)⟩)
    clear hX3 c3
    go_wp2_with fail
    go_ret
    exact fin.out
  obtain rfl : E1 = 0 := by omega
  clear hE1
  obtain ⟨E2, HE2⟩ : ∃ E, Hid ((writeD D1 (((g + 1) % 2 : Nat) : Int) B).1 = E) := ⟨_, hid rfl⟩
  obtain ⟨D2, HD2⟩ : ∃ D, Hid ((writeD D1 (((g + 1) % 2 : Nat) : Int) B).2 = D) := ⟨_, hid rfl⟩
  have HL2 : Hid (D2.L.length = ({ p with d := D1 } : Pg).d.L.length) := hid (by rw [← HD2.out]; exact write_len _ _ _)
  have HPl2 : Hid (D2.steps ≤ 900002 ∧ D2.wait.length ≤ 900002) := hid (by
    have := (Pl.mk (d := D1) (n := D1.L.length) (i := 900001) rfl HPl1.out.1 HPl1.out.2).write (((g + 1) % 2 : Nat) : Int) B
    rw [HD2.out] at this
    exact ⟨this.steps, this.wait⟩)
  go_enter Try.func58, Try.ntmps58
  go_wp2_with (go_at_call 98; refine HR.out.mono ?_; rintro e w' ⟨rfl, rfl⟩)
  refine HSeal.out.mono ?_
  rintro e w1 ⟨v, rfl, hb, c, ho⟩
  have c0 := cell_blk (HX.out.ch c (fun _ _ h => h) (fun _ _ h => h)).1.hp 0
  simp at c0
  obtain ⟨va, vc, rfl⟩ := hb.form
  have HBt := hid hb
  have HO := hid ho
  have HC := hid c
  clear c hb ho
  go_wp2_with fail
  refine (HFl1.out _ HC.out).mono ?_
  rintro e w2 ⟨rfl, hd2, c2⟩
  have HX2 := hid ((HX.out.ch HC.out (fun _ _ h => h) (fun _ _ h => h)).disk c2 hd2 HL1.out (Fresh.refl _ _))
  have HC2 := hid ((HC.out.mono (T := fun k => M k ∨ O k) (fun _ _ h => h.elim)).then c2 (fun i _ h => .inl h))
  have HVn : Hid (∀ k, (Value.slice va B.length vc).ownBlock = some k → ¬ M k ∧ ¬ O k) := hid (fun k hk => by
    have h1 := HO.out k hk
    have h2 := HX.out.MF
    exact ⟨fun hm => by have := h2.2.1 k (h2.1 k hm); omega, fun hm => by have := (h2.2.2 k hm).2; omega⟩)
  have HBt2 := hid (HBt.out.ch c2 (fun k hk => (HVn.out k hk).1))
  clear hd2 c2 c0 c1
  go_wp2_with fail
  refine (told_any 0 _ HX2.out).mono ?_
  rintro e w3 ⟨rfl, hX3, c3⟩
  have e3 : toldP { p with d := D1 } 0 = { p with d := D1 } := by unfold toldP; simp
  rw [e3] at hX3
  have HX3 := hid hX3
  have HC3 := hid (HC2.out.then c3 (fun i _ h => .inr h))
  have HBt3 := hid (HBt2.out.ch c3 (fun k hk => (HVn.out k hk).2))
  have HS0 := hid (show w3.drew.cell? ⟨pp, 0, none⟩ = some (.pointer (some ⟨dp, 0, none⟩)) ∧ w3.drew.cell? ⟨pp, 1, none⟩ = some (.int .i64 (g : Int)) from by
    refine ⟨?_, ?_⟩ <;> (rw [cell_blk HX3.out.drew.1.hp]; simp [HGg.out]))
  have hwr := write_any (((g + 1) % 2 : Nat) : Int) va B.length vc B w3.drew HX3.out.drew.2.1 (show D1.steps ≤ 1000000 by have := HPl1.out.1; omega) (show D1.wait.length ≤ 1000000 by have := HPl1.out.2; omega) (HBt3.out.ch (Ch.refl (fun _ => False) w3).drew (fun _ _ h => h)) rfl (fun k hk => (HVn.out k hk).1)
  rw [HE2.out, HD2.out] at hwr
  have HWr := hid hwr
  clear hX3 c3 e3 hwr
  go_wp2_with fail
  have hw1 : IntKind.i64.wrap ((g : Int) + 1) = (g : Int) + 1 := wrap_id (by omega) (by have := HGn.out; omega)
  have hw2 : Int.tmod ((g : Int) + 1) 2 = (((g + 1) % 2 : Nat) : Int) := by
    rw [Int.tmod_eq_emod_of_nonneg (by omega)]; omega
  have hw3 : IntKind.i64.wrap (((g + 1) % 2 : Nat) : Int) = (((g + 1) % 2 : Nat) : Int) := wrap_id (by omega) (by omega)
  obtain ⟨gm, hgm⟩ : ∃ gm : Int, gm = (((g + 1) % 2 : Nat) : Int) := ⟨_, rfl⟩
  rw [← hgm] at hw2 hw3 HWr
  by_cases hE2 : ¬ E2 = 0
  · have hEb : ((E2 : Int) == 0) = false := by simpa using hE2
    have HE := hid hE2
    have HGM := hid hgm
    clear hE2 hgm
    refine wp_region_noPanic ?_
    refine wp_region_held_drew (S := (fun W => W.cell? ⟨pp, 0, none⟩ = some (.pointer (some ⟨dp, 0, none⟩)) ∧ W.cell? ⟨pp, 1, none⟩ = some (.int .i64 (g : Int)))) (by kernel_rfl) HS0.out (fun hHeld => ?_)
    refine wpAnyH_take (i := 0) (v := ?_) rfl (by kernel_rfl) (by kernel_rfl) (by kernel_rfl) (fun _ _ _ h => h) (Or.inl ⟨by rfl, ?_⟩) (by assumption) ?_
    rotate_left
    · intro w hSw
      try dsimp only at hSw
      go_simp
      all_goals with_reducible rfl
    try simp only [lay_all]
    refine wpAnyH_take (i := 1) (v := ?_) rfl (by kernel_rfl) (by kernel_rfl) (by kernel_rfl) (fun _ _ _ h => h) (Or.inl ⟨by rfl, ?_⟩) (by assumption) ?_
    rotate_left
    · intro w hSw
      try dsimp only at hSw
      go_simp
      all_goals with_reducible rfl
    try simp only [lay_all]
    refine wpAnyH_take (i := 2) (v := ?_) rfl (by kernel_rfl) (by kernel_rfl) (by kernel_rfl) (fun _ _ _ h => h) (Or.inl ⟨by rfl, ?_⟩) (by assumption) ?_
    rotate_left
    · intro w hSw
      try dsimp only at hSw
      go_simp
      all_goals with_reducible rfl
    try simp only [lay_all]
    refine wpAnyH_take (i := 3) (v := ?_) rfl (by kernel_rfl) (by kernel_rfl) (by kernel_rfl) (fun _ _ _ h => h) (Or.inl ⟨by rfl, ?_⟩) (by assumption) ?_
    rotate_left
    · intro w hSw
      try dsimp only at hSw
      go_simp
      all_goals with_reducible rfl
    try simp only [lay_all]
    refine wpAnyH_take (i := 4) (v := ?_) rfl (by kernel_rfl) (by kernel_rfl) (by kernel_rfl) (fun _ _ _ h => h) (Or.inl ⟨by rfl, ?_⟩) (by assumption) ?_
    rotate_left
    · intro w hSw
      try dsimp only at hSw
      go_simp
      all_goals with_reducible rfl
    try simp only [lay_all]
    refine wpAnyH_take (i := 5) (v := ?_) rfl (by kernel_rfl) (by kernel_rfl) (by kernel_rfl) (fun _ _ _ h => h) (Or.inl ⟨by rfl, ?_⟩) (by assumption) ?_
    rotate_left
    · intro w hSw
      try dsimp only at hSw
      go_simp
      all_goals with_reducible rfl
    try simp only [lay_all]
    refine wpAnyH_take (i := 6) (v := ?_) rfl (by kernel_rfl) (by kernel_rfl) (by kernel_rfl) (fun _ _ _ h => h) (Or.inl ⟨by rfl, ?_⟩) (by assumption) ?_
    rotate_left
    · intro w hSw
      try dsimp only at hSw
      go_simp
      all_goals with_reducible rfl
    try simp only [lay_all]
    refine wpAnyH_take (i := 7) (v := ?_) rfl (by kernel_rfl) (by kernel_rfl) (by kernel_rfl) (fun _ _ _ h => h) (Or.inl ⟨by rfl, ?_⟩) (by assumption) ?_
    rotate_left
    · intro w hSw
      try dsimp only at hSw
      go_simp
      all_goals with_reducible rfl
    try simp only [lay_all]
    refine wpAnyH_take (i := 8) (v := ?_) rfl (by kernel_rfl) (by kernel_rfl) (by kernel_rfl) (fun _ _ _ h => h) (Or.inl ⟨by rfl, ?_⟩) (by assumption) ?_
    rotate_left
    · intro w hSw
      try dsimp only at hSw
      go_simp
      all_goals with_reducible rfl
    try simp only [lay_all]
    refine wpAnyH_take (i := 9) (v := ?_) rfl (by kernel_rfl) (by kernel_rfl) (by kernel_rfl) (fun _ _ _ h => h) (Or.inl ⟨by rfl, ?_⟩) (by assumption) ?_
    rotate_left
    · intro w hSw
      try dsimp only at hSw
      go_simp
      all_goals with_reducible rfl
    try simp only [lay_all]
    refine wpAnyH_take (i := 10) (v := ?_) rfl (by kernel_rfl) (by kernel_rfl) (by kernel_rfl) (fun _ _ _ h => h) (Or.inl ⟨by rfl, ?_⟩) (by assumption) ?_
    rotate_left
    · intro w hSw
      try dsimp only at hSw
      go_simp
      all_goals with_reducible rfl
    try simp only [lay_all]
    refine wpAnyH_take (i := 11) (v := ?_) rfl (by kernel_rfl) (by kernel_rfl) (by kernel_rfl) (fun _ _ _ h => h) (Or.inl ⟨by rfl, ?_⟩) (by assumption) ?_
    rotate_left
    · intro w hSw
      try dsimp only at hSw
      go_simp
      all_goals with_reducible rfl
    try simp only [lay_all]
    refine wpAnyH_ready (rs := [12]) (by kernel_rfl) (by simp) ?_
    refine AllReadyH.cons rfl (fun K hK => ?_) AllReadyH.nil
    go_simp
    refine HWr.out.mono ?_
    rintro e w4 ⟨rfl, M4, F4, hd4, hm4, hf4, c4⟩
    have HX4 := hid (HX3.out.drew.disk c4 hd4 HL2.out hf4)
    have HM4 := hid hm4
    have HF4 := hid hf4
    have HC4 := hid c4
    have HS2 := hid (keep2 HS0.out c4 (fun q hq hm => by have h1 := HX3.out.MF; have h2 := HX3.out.2.2.2.1; subst hq; exact (h1.2.2 _ h2).1 (h1.1 _ hm)))
    clear hd4 hm4 hf4 c4
    go_wp2_with fail
    refine hK.out _ _ ?_ (fun hHeld => ?_)
    · first | exact HS2.out | assumption
    clear hK K
    try simp only [lay_all]
    refine wpAnyH_ready (rs := [13]) (by kernel_rfl) (by simp) ?_
    refine AllReadyH.cons rfl (fun K hK => ?_) AllReadyH.nil
    go_simp
    refine (told_any E2 _ HX4.out).mono ?_
    rintro e w5 ⟨rfl, hX5, c5⟩
    have HX5 := hid hX5
    have HC5 := hid c5
    have hs2 : w5.cell? ⟨pp, 0, none⟩ = some (.pointer (some ⟨dp, 0, none⟩)) ∧ w5.cell? ⟨pp, 1, none⟩ = some (.int .i64 (g : Int)) := by
      refine ⟨?_, ?_⟩ <;> (rw [cell_blk HX5.out.1.hp]; simp [toldP, HGg.out])
    have HS2 := hid hs2
    clear hs2
    clear hX5 c5
    go_wp2_with fail
    refine hK.out _ _ ?_ (fun hHeld => ?_)
    · first | exact HS2.out | assumption
    clear hK K
    try simp only [lay_all]
    refine wpAnyH_take (i := 14) (v := ?_) rfl (by kernel_rfl) (by kernel_rfl) (by kernel_rfl) (fun _ _ _ h => h) (Or.inl ⟨by rfl, ?_⟩) (by assumption) ?_
    rotate_left
    · intro w hSw
      try dsimp only at hSw
      go_simp
      all_goals with_reducible rfl
    try simp only [lay_all]
    refine wpAnyH_done (by kernel_rfl) ?_ _
    refine NoPanic.normal ?_
    have fin : Hid (ComPost w pp dp gb mb p M F O s.data.toList (.returned (.int .i64 (E2 : Int))) w5) := hid (by
      unfold ComPost
      have hr : rootW p.d (g + 1) B = (E2, D2) := by unfold rootW; rw [HE1.out, if_neg (by simp), HD1.out, HE2.out, if_pos HE.out, ← HE2.out, ← HD2.out]
      rw [HCm.out, hr, if_pos HE.out]
      have hz := HC3.out.size
      refine ⟨rfl, M4, F4, HX5.out, fun k hk => ?_, fun k hk => ?_, ?_⟩
      · rcases HM4.out k hk with h | h
        · exact .inl h
        · exact .inr (Nat.le_trans hz h)
      · rcases HF4.out k hk with h | h
        · exact .inl h
        · exact .inr (Nat.le_trans hz h)
      · exact (HC3.out.drew.then HC4.out (fun i _ h => .inl h)).then HC5.out (fun i _ h => .inr h))
    go_wp2_with fail
    go_ret
    exact fin.out
  obtain rfl : E2 = 0 := by omega
  clear hE2
  have HGM := hid hgm
  clear hgm
  · skip
    refine wp_region_noPanic ?_
    refine wp_region_held_drew (S := (fun W => W.cell? ⟨pp, 0, none⟩ = some (.pointer (some ⟨dp, 0, none⟩)) ∧ W.cell? ⟨pp, 1, none⟩ = some (.int .i64 (g : Int)))) (by kernel_rfl) HS0.out (fun hHeld => ?_)
    refine wpAnyH_take (i := 0) (v := ?_) rfl (by kernel_rfl) (by kernel_rfl) (by kernel_rfl) (fun _ _ _ h => h) (Or.inl ⟨by rfl, ?_⟩) (by assumption) ?_
    rotate_left
    · intro w hSw
      try dsimp only at hSw
      go_simp
      all_goals with_reducible rfl
    try simp only [lay_all]
    refine wpAnyH_take (i := 1) (v := ?_) rfl (by kernel_rfl) (by kernel_rfl) (by kernel_rfl) (fun _ _ _ h => h) (Or.inl ⟨by rfl, ?_⟩) (by assumption) ?_
    rotate_left
    · intro w hSw
      try dsimp only at hSw
      go_simp
      all_goals with_reducible rfl
    try simp only [lay_all]
    refine wpAnyH_take (i := 2) (v := ?_) rfl (by kernel_rfl) (by kernel_rfl) (by kernel_rfl) (fun _ _ _ h => h) (Or.inl ⟨by rfl, ?_⟩) (by assumption) ?_
    rotate_left
    · intro w hSw
      try dsimp only at hSw
      go_simp
      all_goals with_reducible rfl
    try simp only [lay_all]
    refine wpAnyH_take (i := 3) (v := ?_) rfl (by kernel_rfl) (by kernel_rfl) (by kernel_rfl) (fun _ _ _ h => h) (Or.inl ⟨by rfl, ?_⟩) (by assumption) ?_
    rotate_left
    · intro w hSw
      try dsimp only at hSw
      go_simp
      all_goals with_reducible rfl
    try simp only [lay_all]
    refine wpAnyH_take (i := 4) (v := ?_) rfl (by kernel_rfl) (by kernel_rfl) (by kernel_rfl) (fun _ _ _ h => h) (Or.inl ⟨by rfl, ?_⟩) (by assumption) ?_
    rotate_left
    · intro w hSw
      try dsimp only at hSw
      go_simp
      all_goals with_reducible rfl
    try simp only [lay_all]
    refine wpAnyH_take (i := 5) (v := ?_) rfl (by kernel_rfl) (by kernel_rfl) (by kernel_rfl) (fun _ _ _ h => h) (Or.inl ⟨by rfl, ?_⟩) (by assumption) ?_
    rotate_left
    · intro w hSw
      try dsimp only at hSw
      go_simp
      all_goals with_reducible rfl
    try simp only [lay_all]
    refine wpAnyH_take (i := 6) (v := ?_) rfl (by kernel_rfl) (by kernel_rfl) (by kernel_rfl) (fun _ _ _ h => h) (Or.inl ⟨by rfl, ?_⟩) (by assumption) ?_
    rotate_left
    · intro w hSw
      try dsimp only at hSw
      go_simp
      all_goals with_reducible rfl
    try simp only [lay_all]
    refine wpAnyH_take (i := 7) (v := ?_) rfl (by kernel_rfl) (by kernel_rfl) (by kernel_rfl) (fun _ _ _ h => h) (Or.inl ⟨by rfl, ?_⟩) (by assumption) ?_
    rotate_left
    · intro w hSw
      try dsimp only at hSw
      go_simp
      all_goals with_reducible rfl
    try simp only [lay_all]
    refine wpAnyH_take (i := 8) (v := ?_) rfl (by kernel_rfl) (by kernel_rfl) (by kernel_rfl) (fun _ _ _ h => h) (Or.inl ⟨by rfl, ?_⟩) (by assumption) ?_
    rotate_left
    · intro w hSw
      try dsimp only at hSw
      go_simp
      all_goals with_reducible rfl
    try simp only [lay_all]
    refine wpAnyH_take (i := 9) (v := ?_) rfl (by kernel_rfl) (by kernel_rfl) (by kernel_rfl) (fun _ _ _ h => h) (Or.inl ⟨by rfl, ?_⟩) (by assumption) ?_
    rotate_left
    · intro w hSw
      try dsimp only at hSw
      go_simp
      all_goals with_reducible rfl
    try simp only [lay_all]
    refine wpAnyH_take (i := 10) (v := ?_) rfl (by kernel_rfl) (by kernel_rfl) (by kernel_rfl) (fun _ _ _ h => h) (Or.inl ⟨by rfl, ?_⟩) (by assumption) ?_
    rotate_left
    · intro w hSw
      try dsimp only at hSw
      go_simp
      all_goals with_reducible rfl
    try simp only [lay_all]
    refine wpAnyH_take (i := 11) (v := ?_) rfl (by kernel_rfl) (by kernel_rfl) (by kernel_rfl) (fun _ _ _ h => h) (Or.inl ⟨by rfl, ?_⟩) (by assumption) ?_
    rotate_left
    · intro w hSw
      try dsimp only at hSw
      go_simp
      all_goals with_reducible rfl
    try simp only [lay_all]
    refine wpAnyH_ready (rs := [12]) (by kernel_rfl) (by simp) ?_
    refine AllReadyH.cons rfl (fun K hK => ?_) AllReadyH.nil
    go_simp
    refine HWr.out.mono ?_
    rintro e w4 ⟨rfl, M4, F4, hd4, hm4, hf4, c4⟩
    have HX4 := hid (HX3.out.drew.disk c4 hd4 HL2.out hf4)
    have HM4 := hid hm4
    have HF4 := hid hf4
    have HC4 := hid c4
    have HS2 := hid (keep2 HS0.out c4 (fun q hq hm => by have h1 := HX3.out.MF; have h2 := HX3.out.2.2.2.1; subst hq; exact (h1.2.2 _ h2).1 (h1.1 _ hm)))
    clear hd4 hm4 hf4 c4
    go_wp2_with fail
    refine hK.out _ _ ?_ (fun hHeld => ?_)
    · first | exact HS2.out | assumption
    clear hK K
    try simp only [lay_all]
    refine wpAnyH_ready (rs := [13]) (by kernel_rfl) (by simp) ?_
    refine AllReadyH.cons rfl (fun K hK => ?_) AllReadyH.nil
    go_simp
    refine (told_any 0 _ HX4.out).mono ?_
    rintro e w5 ⟨rfl, hX5, c5⟩
    have HX5 := hid hX5
    have HC5 := hid c5
    have hs2 : w5.cell? ⟨pp, 0, none⟩ = some (.pointer (some ⟨dp, 0, none⟩)) ∧ w5.cell? ⟨pp, 1, none⟩ = some (.int .i64 (g : Int)) := by
      refine ⟨?_, ?_⟩ <;> (rw [cell_blk HX5.out.1.hp]; simp [toldP, HGg.out])
    have HS2 := hid hs2
    clear hs2
    clear hX5 c5
    go_wp2_with fail
    refine hK.out _ _ ?_ (fun hHeld => ?_)
    · first | exact HS2.out | assumption
    clear hK K
    try simp only [lay_all]
    refine wpAnyH_take (i := 14) (v := ?_) rfl (by kernel_rfl) (by kernel_rfl) (by kernel_rfl) (fun _ _ _ h => h) (Or.inl ⟨by rfl, ?_⟩) (by assumption) ?_
    rotate_left
    · intro w hSw
      try dsimp only at hSw
      go_simp
      all_goals with_reducible rfl
    try simp only [lay_all]
    refine wpAnyH_done (by kernel_rfl) ?_ _
    refine NoPanic.normal ?_
    clear hw1 hw2 hw3
    have e5 : toldP { p with d := D2 } 0 = { p with d := D2 } := by unfold toldP; simp
    have hx5 := HX5.out
    rw [e5] at hx5
    have HX6 := hid hx5
    have hm5 : Fresh w M M4 := fun k hk => (HM4.out k hk).imp id (fun h => Nat.le_trans HC3.out.size h)
    have hf5 : Fresh w F F4 := fun k hk => (HF4.out k hk).imp id (fun h => Nat.le_trans HC3.out.size h)
    have HFr := hid (And.intro hm5 hf5)
    have HC5b : Hid (Ch (fun k => M k ∨ O k) w w5) := hid ((HC3.out.drew.then HC4.out (fun i _ h => .inl h)).then HC5.out (fun i _ h => .inr h))
    obtain ⟨E3, HE3⟩ : ∃ E, Hid ((flushD D2).1 = E) := ⟨_, hid rfl⟩
    obtain ⟨D3, HD3⟩ : ∃ D, Hid ((flushD D2).2 = D) := ⟨_, hid rfl⟩
    have HL3 : Hid (D3.L.length = ({ p with d := D2 } : Pg).d.L.length) := hid (by rw [← HD3.out]; exact flush_len _)
    have hfl := flush_any w5 HX6.out.2.1 (show D2.steps ≤ 1000000 by have := HPl2.out.1; omega) (show D2.wait.length ≤ 1000000 by have := HPl2.out.2; omega)
    rw [show ({ p with d := D2 } : Pg).d = D2 from rfl, HE3.out, HD3.out] at hfl
    have HFl3 := hid hfl
    have hr : rootW p.d (g + 1) B = (E3, D3) := by
      unfold rootW
      rw [HE1.out, if_neg (by simp), HD1.out, HE2.out, if_neg (by simp), HD2.out, ← HE3.out, ← HD3.out]
    have HRt := hid hr
    have up : ∀ (k : Nat), M4 k → M k ∨ w.heap.size ≤ k := fun k hk => hm5 k hk
    have HUp := hid up
    have c0 := cell_blk HX6.out.1.hp 0
    simp at c0
    clear e5 hx5 hfl hr hm5 hf5 up
    go_wp2_with fail
    refine HFl3.out.mono ?_
    rintro e w6 ⟨rfl, hd6, c6⟩
    have HX7 := hid (HX6.out.disk c6 hd6 HL3.out (Fresh.refl _ _))
    have HC6 : Hid (Ch (fun k => M k ∨ O k) w w6) := hid (HC5b.out.then c6 (fun i hi h => by
      rcases HUp.out i h with h | h
      · exact .inl h
      · omega))
    clear hd6 c6 c0
    go_wp2_with fail
    refine (told_any E3 _ HX7.out).mono ?_
    rintro e w7 ⟨rfl, hX8, c7⟩
    have HX8 := hid hX8
    have HC7 := hid (HC6.out.then c7 (fun i _ h => .inr h))
    clear hX8 c7
    by_cases hE3 : ¬ E3 = 0
    · have hEb : ((E3 : Int) == 0) = false := by simpa using hE3
      have HE := hid hE3
      clear hE3
      have fin : Hid (ComPost w pp dp gb mb p M F O s.data.toList (.returned (.int .i64 (E3 : Int))) w7) := hid (by
        unfold ComPost
        rw [HCm.out, HRt.out, if_pos HE.out]
        exact ⟨rfl, M4, F4, HX8.out, HFr.out.1, HFr.out.2, HC7.out⟩)
      go_wp2_with fail
      go_ret
      exact fin.out
    obtain rfl : E3 = 0 := by omega
    have e8 : toldP { p with d := D3 } 0 = { p with d := D3 } := by unfold toldP; simp
    have hx8 : PgX w7 pp dp gb mb { p with d := D3 } M4 F4 O := by rw [← e8]; exact HX8.out
    have c1 := cell_blk hx8.1.hp 1
    have c2 := cell_blk hx8.1.hp 2
    have f1 := frozen_blk hx8.1.hp 1
    have f2 := frozen_blk hx8.1.hp 2
    simp at c1 c2
    rw [HGg.out] at c1
    have HX9 : Hid (∀ W, W = (w7.setCell ⟨pp, 1, none⟩ (.int .i64 ((g : Int) + 1))).setCell ⟨pp, 2, none⟩ (.string s) → PgX W pp dp gb mb { p with d := D3, gen := g + 1, root := s.data.toList } M4 F4 O ∧ Ch (fun k => M k ∨ O k) w W) := hid (by
      rintro W rfl
      obtain ⟨h1, h2, h3, h4, h5, h6, h7⟩ := hx8
      refine ⟨PgAt.head h1 h2 h3 h4 h5 h6 h7 (g + 1) s.data.toList p.dead HGn.out ?_ (fun k hk => by rw [Below.heap_setCell _ _ _ _ hk, Below.heap_setCell _ _ _ _ hk]) (by simp [World.setCell]), ?_⟩
      · rw [heap_set (heap_set h1.hp 1 _) 2 _, str_back]
        rfl
      · exact (HC7.out.setCell (fun _ => .inr h4) _).setCell (fun _ => .inr h4) _)
    have HG2 : Hid ((g : Int) + 1 ≤ 4611686018427387904) := hid (by have := HGn.out; omega)
    obtain ⟨n, HN⟩ : ∃ n, Hid (p.pages.length = n) := ⟨_, hid rfl⟩
    rw [HN.out] at n2
    have c3w := cell_blk (HX9.out _ rfl).1.1.hp 3
    simp at c3w
    rw [HN.out] at c3w
    clear e8 hx8 hE3
    go_wp2_with fail
    have HX9 := hid (HX9.out _ rfl)
    clear c3w c1 c2 f1 f2
    obtain ⟨w8, hw8⟩ : ∃ w8, w8 = (w7.setCell ⟨pp, 1, none⟩ (.int .i64 ((g : Int) + 1))).setCell ⟨pp, 2, none⟩ (.string s) := ⟨_, rfl⟩
    rw [← hw8] at HX9 ⊢
    clear hw8
    go_loopw [84] (fun i wr => ∃ j : Nat, i = .int .i64 (j : Int) ∧ j ≤ n ∧ Hid (PgX wr pp dp gb mb { p with d := D3, gen := g + 1, root := s.data.toList, pages := till (cmF (g + 1)) p.pages j } M4 F4 O) ∧ Hid (Ch (fun k => M k ∨ O k) w wr)) (fun i _ => n - (intOf i).toNat)
    case atStart => exact ⟨0, rfl, Nat.zero_le _, hid (by rw [till_zero]; exact HX9.out.1), hid HX9.out.2⟩
    case round =>
      obtain ⟨j, rfl, hj, HI, HC⟩ := hrel
      have c3 := cell_blk HI.out.1.hp 3
      have c1 := cell_blk HI.out.1.hp 1
      simp only [till_length] at c3
      simp at c3 c1
      rw [HN.out] at c3
      by_cases hlt : j < n
      · obtain ⟨x, HXx⟩ : ∃ x, Hid (p.pages[j]? = some x) := ⟨p.pages[j]'(by rw [HN.out]; exact hlt), hid (List.getElem?_eq_getElem _)⟩
        have hxx : ({ p with d := D3, gen := g + 1, root := s.data.toList, pages := till (cmF (g + 1)) p.pages j } : Pg).pages[j]? = some x := by
          show (till (cmF (g + 1)) p.pages j)[j]? = some x
          rw [till_get _ _ _ (by rw [HN.out]; exact hj)]; exact HXx.out
        obtain ⟨q1, q2, q3, q4, q5⟩ := HI.out.cells hxx
        have HXX := hid hxx
        have hppz := blk_lt HI.out.1.hp
        have hnp : ¬ pp = wr.heap.size := by omega
        have hng : ¬ gb = wr.heap.size := by omega
        have hj0 : (0 : Int) ≤ (j : Int) := Int.natCast_nonneg _
        have hj1 : (j : Int) < (n : Int) := by omega
        clear hxx
        by_cases h2 : x.1 = 2
        · have HF : Hid (cmF (g + 1) x = (1, x.2)) := hid (by unfold cmF; rw [if_pos h2])
          obtain ⟨g1, g2⟩ := HI.out.page1 j 1 x HXX.out
          have HNext : Hid (∀ (v : Value) (W : World), W = (wr.setCell ⟨gb, j * 2, none⟩ (.int .i64 1)).alloc (.cells #[v, .int .i64 (x.2 : Int)] 155) → PgX W pp dp gb mb { p with d := D3, gen := g + 1, root := s.data.toList, pages := till (cmF (g + 1)) p.pages (j + 1) } M4 F4 O ∧ Ch (fun k => M k ∨ O k) w W) := hid (by
            rintro v W rfl
            rw [← till_succ _ _ _ _ HXx.out, HF.out]
            have g3 := (Ch.refl (fun _ => False) (wr.setCell ⟨gb, j * 2, none⟩ (.int .i64 1))).alloc (.cells #[v, .int .i64 (x.2 : Int)] 155)
            exact ⟨PgX.ch g1 g3 (fun _ _ h => h) (fun _ _ h => h), (HC.out.then g2 (fun _ _ h => .inr h)).alloc _⟩)
          have h2i : (x.1 : Int) = 2 := by omega
          rw [h2i] at q1
          clear g1 g2 h2 h2i
          go_wp2
          go_roundw
          case rel => exact ⟨j + 1, by go_num, by omega, hid (HNext.out _ _ rfl).1, hid (HNext.out _ _ rfl).2⟩
          case measure => simp [intOf]; omega
        · by_cases h3 : x.1 = 3
          · have HF : Hid (cmF (g + 1) x = (4, g + 1)) := hid (by unfold cmF; rw [if_neg h2, if_pos h3])
            obtain ⟨g1, g2⟩ := HI.out.page2 j (4, g + 1) HGn.out
            have HNext : Hid (∀ (v : Value) (W : World), Ch (fun _ => False) ((wr.setCell ⟨gb, j * 2, none⟩ (.int .i64 4)).setCell ⟨gb, j * 2 + 1, none⟩ (.int .i64 ((g : Int) + 1))) W → PgX W pp dp gb mb { p with d := D3, gen := g + 1, root := s.data.toList, pages := till (cmF (g + 1)) p.pages (j + 1) } M4 F4 O ∧ Ch (fun k => M k ∨ O k) w W) := hid (by
              intro v W hW
              rw [← till_succ _ _ _ _ HXx.out, HF.out]
              exact ⟨PgX.ch g1 hW (fun _ _ h => h) (fun _ _ h => h), (HC.out.then g2 (fun _ _ h => .inr h)).trans (hW.mono (fun _ _ h => h.elim))⟩)
            have h3i : (x.1 : Int) = 3 := by omega
            rw [h3i] at q1
            clear g1 g2 h2 h3 h3i
            go_wp2_with fail
            refine region_tail 11 (by kernel_rfl) (by kernel_rfl) ?_
            simp only [List.take_succ_cons, List.take_zero, List.drop_succ_cons, List.drop_zero]
            repeat still_step
            refine wpStill_nil ?_
            go_wp2
            go_roundw
            case rel => exact ⟨j + 1, by go_num, by omega, hid (HNext.out (.int .i64 0) _ (((Ch.refl _ _).alloc _).drew)).1, hid (HNext.out (.int .i64 0) _ (((Ch.refl _ _).alloc _).drew)).2⟩
            case measure => simp [intOf]; omega
          · have HF : Hid (cmF (g + 1) x = x) := hid (by unfold cmF; rw [if_neg h2, if_neg h3])
            have ca := (Ch.refl (fun _ => False) wr).alloc (.cells #[.int .i64 (x.1 : Int), .int .i64 (x.2 : Int)] 155)
            have HNext : Hid (PgX (wr.alloc (.cells #[.int .i64 (x.1 : Int), .int .i64 (x.2 : Int)] 155)) pp dp gb mb { p with d := D3, gen := g + 1, root := s.data.toList, pages := till (cmF (g + 1)) p.pages (j + 1) } M4 F4 O) := hid (by
              rw [till_same _ _ _ _ HXx.out HF.out]; exact HI.out.ch ca (fun _ _ h => h) (fun _ _ h => h))
            have h2b : ((x.1 : Int) == 2) = false := by rw [beq_eq_false_iff_ne]; omega
            have h3b : ((x.1 : Int) == 3) = false := by rw [beq_eq_false_iff_ne]; omega
            clear h2 h3 ca
            go_wp2
            go_roundw
            case rel => exact ⟨j + 1, by go_num, by omega, HNext, hid (HC.out.alloc _)⟩
            case measure => simp [intOf]; omega
      · obtain rfl : j = n := by omega
        have hfin : PgX wr pp dp gb mb { p with d := D3, gen := g + 1, root := s.data.toList, pages := p.pages.map (cmF (g + 1)) } M4 F4 O := by
          have := HI.out
          rw [← HN.out, till_all] at this
          exact this
        have HSe := hid (settle_any wr hfin)
        clear hfin
        go_wp2_with fail
        refine HSe.out.mono ?_
        rintro e w9 ⟨rfl, hX9, c9⟩
        have fin : Hid (ComPost w pp dp gb mb p M F O s.data.toList (.returned (.int .i64 0)) w9) := hid (by
          unfold ComPost
          rw [HCm.out, HRt.out, if_neg (by simp)]
          exact ⟨rfl, M4, F4, hX9, HFr.out.1, HFr.out.2, HC.out.then c9 (fun i _ h => .inr h)⟩)
        clear hX9 c9
        go_wp2_with fail
        go_ret
        exact fin.out

end Go.Proofs.Ytadhibemadgcoaa
