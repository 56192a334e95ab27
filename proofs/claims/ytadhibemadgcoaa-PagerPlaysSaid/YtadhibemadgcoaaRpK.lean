/- The reference's pager: Format. Conditions: not more than 900000 steps and writes that wait. -/
import Derived.Test.YtadhibemadgcoaaRpJ
namespace Go.Proofs.Ytadhibemadgcoaa
open Go.RowKit

/-- The reference's disk at rq is now d', its blocks of old among M. -/
def RCh (w : World) (rq : Nat) (M : Nat → Prop) (d' : Dk) (w' : World) : Prop := ∃ M', RAt w' rq d' M' ∧ Fresh w M M' ∧ Ch M w w'
theorem RCh.quiet {w : World} {rq : Nat} {M : Nat → Prop} {d' : Dk} {w1 w2 : World} (h : RCh w rq M d' w1) (hc : Ch (fun _ => False) w1 w2) : RCh w rq M d' w2 := by
  obtain ⟨M', h1, h2, h3⟩ := h
  exact ⟨M', h1.ch hc (fun _ _ h => h), h2, h3.trans (hc.mono (fun _ _ h => h.elim))⟩
theorem RCh.next {w : World} {rq : Nat} {M M1 M2 : Nat → Prop} {d' : Dk} {w1 w2 : World} (h2 : Fresh w M M1) (h3 : Ch M w w1) (k1 : RAt w2 rq d' M2) (k2 : Fresh w1 M1 M2) (k3 : Ch M1 w1 w2) : RCh w rq M d' w2 := by
  refine ⟨M2, k1, fun k hk => ?_, h3.then k3 (fun i hi hm => ?_)⟩
  · rcases k2 k hk with h | h
    · exact h2 k h
    · have := h3.size; exact .inr (by omega)
  · rcases h2 i hm with h | h
    · exact h
    · omega
theorem RCh.write {w : World} {rq : Nat} {M : Nat → Prop} {D : Dk} {w1 : World} (h : RCh w rq M D w1) (a : Int) (S : ByteArray) (B : List UInt8) (hS : S.data.toList = B) (hst : D.steps ≤ 1000000) (hwt : D.wait.length ≤ 1000000) :
    ∃ cap w2, (convert 9 35 (.string S)).run Try.prog w1 = .ok (.slice (some ⟨w1.heap.size, 0, none⟩) S.size cap) w2 ∧
      Calls Try.prog 74 #[.pointer (some ⟨rq, 0, none⟩), .int .i64 a, .slice (some ⟨w1.heap.size, 0, none⟩) S.size cap] w2 fun e w3 => e = .returned (.int .i64 ((writeD D a B).1 : Nat)) ∧ RCh w rq M (writeD D a B).2 w3 := by
  obtain ⟨M1, h1, h2, h3⟩ := h
  obtain ⟨cap, w2, hcv, hbt, hc⟩ := conv_bytes w1 S
  rw [hS] at hbt
  refine ⟨cap, w2, hcv, (rwrite_any a _ _ cap B w2 (h1.ch hc (fun _ _ h => h)) hst hwt hbt (by rw [← hS, size_toList]) (fun k hk hm => by
    obtain rfl : w1.heap.size = k := by simpa [Value.ownBlock] using hk
    have := h1.lt _ hm
    omega)).mono ?_⟩
  rintro e w3 ⟨rfl, M', k1, k2, k3⟩
  exact ⟨rfl, RCh.next h2 (h3.trans (hc.mono (fun _ _ h => h.elim))) k1 k2 k3⟩
theorem RCh.flush {w : World} {rq : Nat} {M : Nat → Prop} {D : Dk} {w1 : World} (h : RCh w rq M D w1) (hst : D.steps ≤ 1000000) (hwt : D.wait.length ≤ 1000000) :
    Calls Try.prog 93 #[.pointer (some ⟨rq, 0, none⟩)] w1 fun e w3 => e = .returned (.int .i64 ((flushD D).1 : Nat)) ∧ RCh w rq M (flushD D).2 w3 := by
  obtain ⟨M1, h1, h2, h3⟩ := h
  refine (rflush_any w1 h1 hst hwt).mono ?_
  rintro e w3 ⟨rfl, k1, k3⟩
  exact ⟨rfl, RCh.next h2 h3 k1 (Fresh.refl _ _) k3⟩

theorem format_eq {d D1 D2 D3 D4 D5 : Dk} {E1 E2 E3 E4 E5 : Nat} {Z R : List UInt8} (h4 : ¬ d.L.length < 4) (hZ : zeros 512 = Z) (hR : srootL 1 [] = R) (p1 : writeD d 0 Z = (E1, D1)) (p2 : writeD D1 1 Z = (E2, D2)) (p3 : flushD D2 = (E3, D3)) (p4 : writeD D3 1 R = (E4, D4)) (p5 : flushD D4 = (E5, D5)) :
    formatD d = if E1 ≠ 0 then (E1, D1) else if E2 ≠ 0 then (E2, D2) else if E3 ≠ 0 then (E3, D3) else if E4 ≠ 0 then (E4, D4) else if E5 ≠ 0 then (E5, D5) else (0, D5) := by
  unfold formatD fmtL
  rw [if_neg h4, hZ, hR]
  simp only [chD, p1, p2, p3, p4, p5]

set_option maxRecDepth 20000 in
set_option maxHeartbeats 4000000 in
theorem rformat_any {rq : Nat} {d : Dk} {M : Nat → Prop} (w : World) (h : RAt w rq d M) (hst : d.steps ≤ 900000) (hwt : d.wait.length ≤ 900000) :
    Calls Try.prog 71 #[.pointer (some ⟨rq, 0, none⟩)] w fun e w' => e = .returned (.int .i64 ((formatD d).1 : Nat)) ∧ RCh w rq M (formatD d).2 w' := by
  have HD := hid h
  obtain ⟨Lv, Wv, h1, hq, h3, h4, h5⟩ := id h
  obtain ⟨la, lc, rfl⟩ := owns_form h1.hL
  have c0 := cell_blk h1.hp 0
  simp at c0
  have n2 := h1.n2
  obtain ⟨n, HN⟩ : ∃ n, Hid (d.L.length = n) := ⟨_, hid rfl⟩
  rw [HN.out] at c0 n2
  have HPl : Hid (Pl d n 900000) := hid ⟨HN.out, hst, hwt⟩
  clear h1 hq h3 h4 h5 h hst hwt
  by_cases h4 : n < 4
  · have e : formatD d = (2, d) := by unfold formatD; rw [if_pos (by rw [HN.out]; exact h4)]
    rw [e]
    have h4i : (n : Int) < 4 := by omega
    clear h4 e
    go_enter Try.func71, Try.ntmps71
    go_wp2_with fail
    go_ret
    exact ⟨rfl, M, HD.out, Fresh.refl _ _, Ch.refl _ _⟩
  have h4i : ¬ (n : Int) < 4 := by omega
  obtain ⟨R, HRr⟩ : ∃ R, Hid (srootL 1 [] = R) := ⟨_, hid rfl⟩
  obtain ⟨ZL, HZl⟩ : ∃ z, Hid (zeros 512 = z) := ⟨_, hid rfl⟩
  obtain ⟨E1, HE1⟩ : ∃ E, Hid ((writeD d 0 ZL).1 = E) := ⟨_, hid rfl⟩
  obtain ⟨D1, HD1⟩ : ∃ D, Hid ((writeD d 0 ZL).2 = D) := ⟨_, hid rfl⟩
  obtain ⟨E2, HE2⟩ : ∃ E, Hid ((writeD D1 1 ZL).1 = E) := ⟨_, hid rfl⟩
  obtain ⟨D2, HD2⟩ : ∃ D, Hid ((writeD D1 1 ZL).2 = D) := ⟨_, hid rfl⟩
  obtain ⟨E3, HE3⟩ : ∃ E, Hid ((flushD D2).1 = E) := ⟨_, hid rfl⟩
  obtain ⟨D3, HD3⟩ : ∃ D, Hid ((flushD D2).2 = D) := ⟨_, hid rfl⟩
  obtain ⟨E4, HE4⟩ : ∃ E, Hid ((writeD D3 1 R).1 = E) := ⟨_, hid rfl⟩
  obtain ⟨D4, HD4⟩ : ∃ D, Hid ((writeD D3 1 R).2 = D) := ⟨_, hid rfl⟩
  obtain ⟨E5, HE5⟩ : ∃ E, Hid ((flushD D4).1 = E) := ⟨_, hid rfl⟩
  obtain ⟨D5, HD5⟩ : ∃ D, Hid ((flushD D4).2 = D) := ⟨_, hid rfl⟩
  have HP1 : Hid (Pl D1 n 900001) := hid (by rw [← HD1.out]; exact HPl.out.write _ _)
  have HP2 : Hid (Pl D2 n 900002) := hid (by rw [← HD2.out]; exact HP1.out.write _ _)
  have HP3 : Hid (Pl D3 n 900003) := hid (by rw [← HD3.out]; exact HP2.out.flush)
  have HP4 : Hid (Pl D4 n 900004) := hid (by rw [← HD4.out]; exact HP3.out.write _ _)
  have e := format_eq (by rw [HN.out]; exact h4) HZl.out HRr.out (Prod.ext HE1.out HD1.out : writeD d 0 ZL = (E1, D1)) (Prod.ext HE2.out HD2.out : writeD D1 1 ZL = (E2, D2)) (Prod.ext HE3.out HD3.out : flushD D2 = (E3, D3)) (Prod.ext HE4.out HD4.out : writeD D3 1 R = (E4, D4)) (Prod.ext HE5.out HD5.out : flushD D4 = (E5, D5))
  have HE := hid e
  have hmb := make_blank
  have hsr := rroot_any 1 ⟨#[]⟩ w
  have hs0 : (⟨#[]⟩ : ByteArray).size = 0 := rfl
  have hs1 : srootE 1 0 = 0 := srootE_ok (by omega) (by omega) (by omega)
  rw [hs0, hs1, show (⟨#[]⟩ : ByteArray).data.toList = [] from rfl, HRr.out] at hsr
  clear hs0 hs1
  have HSr := hid hsr
  clear e hsr h4
  go_enter Try.func71, Try.ntmps71
  go_wp2_with fail
  refine HSr.out.mono ?_
  rintro e w1 ⟨t, rfl, htb, hc1⟩
  obtain ⟨Z, hZ⟩ : ∃ Z, Z = (⟨ZL.toArray⟩ : ByteArray) := ⟨_, rfl⟩
  have HZb : Hid (Z.data.toList = ZL) := hid (by rw [hZ])
  have hbl : (w1.alloc (.cells blankCells 5)).heap[w1.heap.size]? = some (.cells blankCells 5 (0, 0)) := heap_new _
  have hcz : (convert 35 9 (.slice (some ⟨w1.heap.size, 0, none⟩) 512 512)).run Try.prog (w1.alloc (.cells blankCells 5)) = .ok (.string Z) (w1.alloc (.cells blankCells 5)) := by
    have hsec : SecIn (w1.alloc (.cells blankCells 5)) (w1.heap.size, 512) (zeros 512) := ⟨zeros_length _, Nat.le_refl _, blankCells, hbl, by simp [blankCells, bcells_length, zeros_length], by
      show (bcells (zeros 512)).take 512 = _
      rw [List.take_of_length_le (by rw [bcells_length, zeros_length]; omega)]⟩
    rw [hZ, ← HZl.out]
    exact str_of hsec.bts
  have HTb := hid htb
  have hr1 : RCh w rq M d (w1.alloc (.cells blankCells 5)) := RCh.quiet (⟨M, HD.out, Fresh.refl _ _, Ch.refl _ _⟩ : RCh w rq M d w) (hc1.alloc _)
  obtain ⟨cap1, w2, hcv, hcl⟩ := hr1.write 0 Z ZL HZb.out (by have := HPl.out.steps; omega) (by have := HPl.out.wait; omega)
  rw [HE1.out, HD1.out] at hcl
  rw [World.size_alloc] at hcv hcl
  have HCl := hid hcl
  clear htb hc1 hZ hbl hr1 hcl
  go_wp2_with fail
  refine HCl.out.mono ?_
  rintro e w3 ⟨rfl, hr3⟩
  have HR3 := hid hr3
  clear hr3 hcv hcz
  by_cases hE1 : ¬ E1 = 0
  · have hEb : ((E1 : Int) == 0) = false := by simpa using hE1
    have fin : Hid (RCh w rq M D1 w3 ∧ formatD d = (E1, D1)) := hid ⟨HR3.out, HE.out.trans (by rw [if_pos hE1])⟩
    clear hE1
    go_wp2_with fail
    go_ret
    rw [fin.out.2]
    exact ⟨rfl, fin.out.1⟩
  obtain rfl : E1 = 0 := by omega
  clear hE1
  obtain ⟨cap2, w4, hcv, hcl⟩ := HR3.out.write 1 Z ZL HZb.out (by have := HP1.out.steps; omega) (by have := HP1.out.wait; omega)
  rw [HE2.out, HD2.out] at hcl
  have HCl2 := hid hcl
  clear hcl
  go_wp2_with fail
  refine HCl2.out.mono ?_
  rintro e w5 ⟨rfl, hr5⟩
  have HR5 := hid hr5
  clear hr5 hcv
  by_cases hE2 : ¬ E2 = 0
  · have hEb : ((E2 : Int) == 0) = false := by simpa using hE2
    have fin : Hid (RCh w rq M D2 w5 ∧ formatD d = (E2, D2)) := hid ⟨HR5.out, HE.out.trans (by rw [if_neg (by simp), if_pos hE2])⟩
    clear hE2
    go_wp2_with fail
    go_ret
    rw [fin.out.2]
    exact ⟨rfl, fin.out.1⟩
  obtain rfl : E2 = 0 := by omega
  clear hE2
  have hcl := HR5.out.flush (by have := HP2.out.steps; omega) (by have := HP2.out.wait; omega)
  rw [HE3.out, HD3.out] at hcl
  have HCl3 := hid hcl
  clear hcl
  go_wp2_with fail
  refine HCl3.out.mono ?_
  rintro e w6 ⟨rfl, hr6⟩
  have HR6 := hid hr6
  clear hr6
  by_cases hE3 : ¬ E3 = 0
  · have hEb : ((E3 : Int) == 0) = false := by simpa using hE3
    have fin : Hid (RCh w rq M D3 w6 ∧ formatD d = (E3, D3)) := hid ⟨HR6.out, HE.out.trans (by rw [if_neg (by simp), if_neg (by simp), if_pos hE3])⟩
    clear hE3
    go_wp2_with fail
    go_ret
    rw [fin.out.2]
    exact ⟨rfl, fin.out.1⟩
  obtain rfl : E3 = 0 := by omega
  clear hE3
  obtain ⟨cap4, w7, hcv, hcl⟩ := HR6.out.write 1 t R HTb.out (by have := HP3.out.steps; omega) (by have := HP3.out.wait; omega)
  rw [HE4.out, HD4.out] at hcl
  have HCl4 := hid hcl
  clear hcl
  go_wp2_with fail
  refine HCl4.out.mono ?_
  rintro e w8 ⟨rfl, hr8⟩
  have HR8 := hid hr8
  clear hr8 hcv
  by_cases hE4 : ¬ E4 = 0
  · have hEb : ((E4 : Int) == 0) = false := by simpa using hE4
    have fin : Hid (RCh w rq M D4 w8 ∧ formatD d = (E4, D4)) := hid ⟨HR8.out, HE.out.trans (by rw [if_neg (by simp), if_neg (by simp), if_neg (by simp), if_pos hE4])⟩
    clear hE4
    go_wp2_with fail
    go_ret
    rw [fin.out.2]
    exact ⟨rfl, fin.out.1⟩
  obtain rfl : E4 = 0 := by omega
  clear hE4
  have hcl := HR8.out.flush (by have := HP4.out.steps; omega) (by have := HP4.out.wait; omega)
  rw [HE5.out, HD5.out] at hcl
  have HCl5 := hid hcl
  clear hcl
  go_wp2_with fail
  refine HCl5.out.mono ?_
  rintro e w9 ⟨rfl, hr9⟩
  have fin : Hid (RCh w rq M D5 w9 ∧ formatD d = (E5, D5)) := hid ⟨hr9, HE.out.trans (by
    rw [if_neg (by simp), if_neg (by simp), if_neg (by simp), if_neg (by simp)]
    by_cases h : E5 = 0
    · rw [if_neg (by simp [h]), h]
    · rw [if_pos h])⟩
  clear hr9
  go_wp2_with fail
  go_ret
  rw [fin.out.2]
  exact ⟨rfl, fin.out.1⟩

end Go.Proofs.Ytadhibemadgcoaa
