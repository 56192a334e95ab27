/- Format of a disk and of the reference's; a blank sector with one byte. Conditions: as each theorem says. -/
import Derived.Test.YtadhibemadgcoaaBoE
import Derived.Test.YtadhibemadgcoaaPlA
namespace Go.Proofs.Ytadhibemadgcoaa
open Go.RowKit

theorem DQ.turn {w0 w w' : World} {dp : Nat} {d d' : Dk} {Q M F M' F' : Nat → Prop} (h1 : DiskAt w dp d M F) (h2 : ∀ k, F k → Q k) (h3 : ∀ k, Q k → w0.heap.size ≤ k ∧ k < w.heap.size) (h4 : Ch (fun _ => False) w0 w) (k1 : DiskAt w' dp d' M' F') (k3 : Fresh w F F') (k4 : Ch M w w') :
    ∃ Q', DQ w0 w' dp d' Q' ∧ Fresh w Q Q' ∧ Ch Q w w' := by
  have hcq : Ch Q w w' := k4.mono (fun k _ hm => h2 k ((disk_ltF h1).2 k hm))
  refine ⟨fun k => Q k ∨ (w.heap.size ≤ k ∧ k < w'.heap.size), ⟨M', F', k1, fun k hk => ?_, fun k hk => ?_, h4.then hcq (fun i hi hq => by have := (h3 i hq).1; omega)⟩, fun k hk => hk.imp id (fun h => h.1), hcq⟩
  · rcases k3 k hk with h | h
    · exact .inl (h2 k h)
    · exact .inr ⟨h, (disk_ltF k1).1 k hk⟩
  · have := hcq.size
    have := h4.size
    rcases hk with hk | hk
    · have := h3 k hk; omega
    · omega
theorem pformat_q {w0 : World} {dp : Nat} {d : Dk} {Q : Nat → Prop} (w : World) (h : DQ w0 w dp d Q) (hst : d.steps ≤ 900000) (hwt : d.wait.length ≤ 900000) :
    Calls Try.prog 53 #[.pointer (some ⟨dp, 0, none⟩)] w fun e w' => e = .returned (.int .i64 ((formatD d).1 : Nat)) ∧ ∃ Q', DQ w0 w' dp (formatD d).2 Q' ∧ Fresh w Q Q' ∧ Ch Q w w' := by
  obtain ⟨M, F, h1, h2, h3, h4⟩ := h
  by_cases hl : d.L.length < 4
  · have e : formatD d = (2, d) := by unfold formatD; rw [if_pos hl]
    rw [e]
    refine (format_bad w h1 hl).mono ?_
    rintro e w' ⟨rfl, hc⟩
    exact ⟨rfl, DQ.turn h1 h2 h3 h4 (h1.ch hc (fun _ _ h => h)) (Fresh.refl _ _) (hc.mono (fun _ _ h => h.elim))⟩
  · have e : formatD d = chD (fmtL (srootL 1 [])) d := by unfold formatD; rw [if_neg hl]
    rw [e]
    refine (format_ok w h1 (by omega) hst hwt).mono ?_
    rintro e w' ⟨rfl, M', F', k1, k2, k3, k4⟩
    exact ⟨rfl, DQ.turn h1 h2 h3 h4 k1 k3 k4⟩
theorem rformat_q {w0 : World} {rq : Nat} {d : Dk} {Q : Nat → Prop} (w : World) (h : RQ w0 w rq d Q) (hst : d.steps ≤ 900000) (hwt : d.wait.length ≤ 900000) :
    Calls Try.prog 71 #[.pointer (some ⟨rq, 0, none⟩)] w fun e w' => e = .returned (.int .i64 ((formatD d).1 : Nat)) ∧ ∃ Q', RQ w0 w' rq (formatD d).2 Q' ∧ Fresh w Q Q' ∧ Ch Q w w' := by
  obtain ⟨M, h1, h2, h3, h4⟩ := h
  refine (rformat_any w h1 hst hwt).mono ?_
  rintro e w' ⟨rfl, M', k1, k2, k3⟩
  have hcq : Ch Q w w' := k3.mono (fun k _ hm => h2 k hm)
  refine ⟨rfl, fun k => Q k ∨ (w.heap.size ≤ k ∧ k < w'.heap.size), ⟨M', k1, fun k hk => ?_, fun k hk => ?_, h4.then hcq (fun i hi hq => by have := (h3 i hq).1; omega)⟩, fun k hk => hk.imp id (fun h => h.1), hcq⟩
  · rcases k2 k hk with h | h
    · exact .inl (h2 k h)
    · exact .inr ⟨h, k1.lt k hk⟩
  · have := hcq.size
    have := h4.size
    rcases hk with hk | hk
    · have := h3 k hk; omega
    · omega
theorem Pl.format {d : Dk} {n i : Nat} (h : Pl d n i) : Pl (formatD d).2 n (i + 5) := by
  obtain ⟨E1, HE1⟩ : ∃ E, (writeD d 0 (zeros 512)).1 = E := ⟨_, rfl⟩
  obtain ⟨D1, HD1⟩ : ∃ D, (writeD d 0 (zeros 512)).2 = D := ⟨_, rfl⟩
  obtain ⟨E2, HE2⟩ : ∃ E, (writeD D1 1 (zeros 512)).1 = E := ⟨_, rfl⟩
  obtain ⟨D2, HD2⟩ : ∃ D, (writeD D1 1 (zeros 512)).2 = D := ⟨_, rfl⟩
  obtain ⟨E3, HE3⟩ : ∃ E, (flushD D2).1 = E := ⟨_, rfl⟩
  obtain ⟨D3, HD3⟩ : ∃ D, (flushD D2).2 = D := ⟨_, rfl⟩
  obtain ⟨E4, HE4⟩ : ∃ E, (writeD D3 1 (srootL 1 [])).1 = E := ⟨_, rfl⟩
  obtain ⟨D4, HD4⟩ : ∃ D, (writeD D3 1 (srootL 1 [])).2 = D := ⟨_, rfl⟩
  obtain ⟨E5, HE5⟩ : ∃ E, (flushD D4).1 = E := ⟨_, rfl⟩
  obtain ⟨D5, HD5⟩ : ∃ D, (flushD D4).2 = D := ⟨_, rfl⟩
  have P1 : Pl D1 n (i + 1) := by rw [← HD1]; exact h.write _ _
  have P2 : Pl D2 n (i + 2) := by rw [← HD2]; exact P1.write _ _
  have P3 : Pl D3 n (i + 3) := by rw [← HD3]; exact P2.flush
  have P4 : Pl D4 n (i + 4) := by rw [← HD4]; exact P3.write _ _
  have P5 : Pl D5 n (i + 5) := by rw [← HD5]; exact P4.flush
  by_cases hl : d.L.length < 4
  · have e : formatD d = (2, d) := by unfold formatD; rw [if_pos hl]
    rw [e]; exact h.more (by omega)
  · rw [format_eq hl rfl rfl (Prod.ext HE1 HD1 : writeD d 0 (zeros 512) = (E1, D1)) (Prod.ext HE2 HD2 : writeD D1 1 (zeros 512) = (E2, D2)) (Prod.ext HE3 HD3 : flushD D2 = (E3, D3)) (Prod.ext HE4 HD4 : writeD D3 1 (srootL 1 []) = (E4, D4)) (Prod.ext HE5 HD5 : flushD D4 = (E5, D5))]
    split
    · exact P1.more (by omega)
    · split
      · exact P2.more (by omega)
      · split
        · exact P3.more (by omega)
        · split
          · exact P4.more (by omega)
          · split
            · exact P5
            · exact P5
/-- A sector that was made just now, its first byte set. -/
theorem blank_bts (w : World) (u : UInt8) : Bts (w.alloc (.cells (blankCells.setIfInBounds 0 (.int .u8 (u.toNat : Int))) 5)) (.slice (some ⟨w.heap.size, 0, none⟩) 512 512) ((zeros 512).set 0 u) ∧ Ch (fun _ => False) w (w.alloc (.cells (blankCells.setIfInBounds 0 (.int .u8 (u.toNat : Int))) 5)) := by
  have hsec : SecIn (w.alloc (.cells (blankCells.setIfInBounds 0 (.int .u8 (u.toNat : Int))) 5)) (w.heap.size, 512) ((zeros 512).set 0 u) :=
    SecIn.set (x := (w.heap.size, 512)) (l := zeros 512) (cur := blankCells) (zeros_length _) (Nat.le_refl _) (by simp [blankCells, bcells_length, zeros_length]) (by
      show (bcells (zeros 512)).take 512 = _
      rw [List.take_of_length_le (by rw [bcells_length, zeros_length]; omega)]) 0 u (heap_new _)
  have hbt := hsec.bts
  exact ⟨by simpa [secV] using hbt, (Ch.refl (fun _ => False) w).alloc _⟩

end Go.Proofs.Ytadhibemadgcoaa
