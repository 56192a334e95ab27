/- The disk laws' own helpers: alive. Conditions: none. -/
import Derived.Test.YtadhibemadgcoaaDiskJ
import Derived.Deep.RegionHeld3
namespace Go.Proofs.Ytadhibemadgcoaa
open Go.RowKit

def aD0 : Dk := { L := List.replicate 4 (zeros 512), wait := [], steps := 0, fuse := -1, gone := false }
def aD1 : Dk := { L := List.replicate 4 (zeros 512), wait := [(1, ofB 120)], steps := 1, fuse := -1, gone := false }
def aC : List UInt8 := [120, 120, 120] ++ zeros 509
theorem a_write : writeD aD0 1 (ofB 120) = (0, aD1) := by
  rw [writeD, if_neg (by rw [ofB_length]; omega), if_neg (by simp [aD0])]
  rfl
theorem a_read : readD aD1 1 = (0, ofB 120) := by
  rw [readD, if_neg (by simp [aD1]), if_neg (by simp [aD1])]
  rfl
theorem a_readb : readD (crashD aD1 []) 1 = (0, zeros 512) := by
  rw [readD, if_neg (by simp [aD1, crashD]), if_neg (by simp [crashD])]
  rfl
theorem a_crash : (crashD aD1 [(0, 3)]).L = [zeros 512, aC, zeros 512, zeros 512] := by
  have h1 : (ofB 120).take (min (Int.toNat 3) 512) = [120, 120, 120] := by rw [ofB, List.take_replicate]; rfl
  have h2 : (zeros 512).drop (min (Int.toNat 3) 512) = zeros 509 := by rw [zeros, List.drop_replicate]; rfl
  show [(0, 3)].foldl (keepD aD1.wait) aD1.L = _
  rw [List.foldl_cons, List.foldl_nil, keepD, if_pos (by simp [aD1])]
  show List.set (List.replicate 4 (zeros 512)) 1 ((ofB 120).take (min (Int.toNat 3) 512) ++ (zeros 512).drop (min (Int.toNat 3) 512)) = _
  rw [h1, h2]
  rfl
theorem a_readc : readD (crashD aD1 [(0, 3)]) 1 = (0, aC) := by
  have hw : (crashD aD1 [(0, 3)]).wait = [] := rfl
  rw [readD, a_crash, hw, if_neg (by simp), if_neg (by simp [crashD])]
  rfl
theorem a_flush : (flushD (fuseD aD1 0)).1 = 9 := by
  rw [flushD, stepD_no (by right; rfl), if_pos rfl]
theorem aC_length : aC.length = 512 := by simp [aC, zeros_length]

/-- The bytes from some on. -/
theorem Bts.from {w : World} {b off n cap k : Nat} {l : List UInt8} (h : Bts w (.slice (some ⟨b, off, none⟩) n cap) l) (hk : k ≤ n) : Bts w (.slice (some ⟨b, off + k, none⟩) (n - k) (cap - k)) (l.drop k) := by
  rcases h with ⟨a, c, e, rfl⟩ | ⟨b', off', cap', cs, e, fz, h, hcap, hb, hc⟩
  · cases e
    exact .inl ⟨_, _, by rw [Nat.zero_sub], by simp⟩
  · cases h
    refine .inr ⟨b, off + k, cap - k, cs, e, fz, by simp, by simp; omega, hb, fun j hj => ?_⟩
    simp at hj
    rw [Nat.add_assoc, hc (k + j) (by omega)]
    simp

/-- What alive's last statement leans on. -/
def AliveS (p : Nat) (v4 v6 v8 : Value) (w W : World) : Prop :=
  ∃ d M F, DiskAt W p d M F ∧ (flushD d).1 = 9 ∧ (d.gone = true ∨ d.fuse = 0) ∧ d.steps ≤ 1000000 ∧ d.wait.length ≤ 1000000 ∧ (∀ k, M k → w.heap.size ≤ k) ∧
    (Bts W v4 (ofB 120) ∧ ∀ k, v4.ownBlock = some k → ¬ M k) ∧ (Bts W v6 (zeros 512) ∧ ∀ k, v6.ownBlock = some k → ¬ M k) ∧ (Bts W v8 aC ∧ ∀ k, v8.ownBlock = some k → ¬ M k) ∧ Ch (fun _ => False) w W
def AliveT (p : Nat) (v4 v6 v8 : Value) (w W : World) : Prop :=
  (convert 35 9 v4).run Try.prog W = .ok (.string ⟨(ofB 120).toArray⟩) W ∧ (convert 35 9 v6).run Try.prog W = .ok (.string ⟨(zeros 512).toArray⟩) W ∧ (convert 35 9 v8).run Try.prog W = .ok (.string ⟨aC.toArray⟩) W ∧ AliveS p v4 v6 v8 w W
theorem AliveS.all {p : Nat} {v4 v6 v8 : Value} {w W : World} (h : AliveS p v4 v6 v8 w W) : AliveT p v4 v6 v8 w W := by
  have h0 := h
  obtain ⟨d, M, F, h1, h2, h3, h4, h5, h6, h7, h8, h9, h10⟩ := h
  exact ⟨str_of h7.1, str_of h8.1, str_of h9.1, h0⟩
theorem AliveS.still {p : Nat} {v4 v6 v8 : Value} {w W W' : World} (h : AliveS p v4 v6 v8 w W) (hc : Ch (fun _ => False) W W') : AliveT p v4 v6 v8 w W' := by
  obtain ⟨d, M, F, h1, h2, h3, h4, h5, h6, h7, h8, h9, h10⟩ := h
  exact AliveS.all ⟨d, M, F, h1.ch hc (fun _ _ h => h), h2, h3, h4, h5, h6, ⟨h7.1.ch hc (fun _ _ h => h), h7.2⟩, ⟨h8.1.ch hc (fun _ _ h => h), h8.2⟩, ⟨h9.1.ch hc (fun _ _ h => h), h9.2⟩, h10.trans hc⟩
theorem AliveS.flush {p : Nat} {v4 v6 v8 : Value} {w W : World} (h : AliveS p v4 v6 v8 w W) : Calls Try.prog 23 #[.pointer (some ⟨p, 0, none⟩)] W fun e w' => e = .returned (.int .i64 9) ∧ AliveT p v4 v6 v8 w w' := by
  obtain ⟨d, M, F, h1, h2, h3, h4, h5, h6, h7, h8, h9, h10⟩ := h
  refine (flush_any W h1 h4 h5).mono ?_
  rintro e w' ⟨rfl, hd, hc⟩
  rw [h2]
  have e1 : (flushD d).2 = { d with gone := true } := by rw [flushD, stepD_no h3, if_pos rfl]
  rw [e1] at hd
  refine ⟨rfl, AliveS.all ⟨_, M, F, hd, ?_, .inl rfl, h4, h5, h6, ⟨h7.1.ch hc h7.2, h7.2⟩, ⟨h8.1.ch hc h8.2, h8.2⟩, ⟨h9.1.ch hc h9.2, h9.2⟩, h10.then hc (fun i hi h => by have := h6 i h; omega)⟩⟩
  rw [flushD, stepD_no (.inl rfl), if_pos rfl]
/-- In an alive's world: a sector of one byte, and what its bytes read as. -/
theorem AliveS.of {p : Nat} {v4 v6 v8 : Value} {w W : World} (h : AliveS p v4 v6 v8 w W) (c : UInt8) : Calls Try.prog 26 #[.int .u8 (c.toNat : Int)] W fun e w' => e = .returned (.slice (some ⟨W.heap.size, 0, none⟩) 512 512) ∧
    AliveT p v4 v6 v8 w w' ∧ (convert 35 9 (.slice (some ⟨W.heap.size, 0, none⟩) 512 512)).run Try.prog w' = .ok (.string ⟨(ofB c).toArray⟩) w' ∧
    (convert 35 9 (.slice (some ⟨W.heap.size, 3, none⟩) 509 509)).run Try.prog w' = .ok (.string ⟨((ofB c).drop 3).toArray⟩) w' := by
  refine (of_any c W).mono ?_
  rintro e w' ⟨rfl, hs, hc⟩
  exact ⟨rfl, h.still hc, str_of hs.bts, str_of (by simpa using Bts.from (k := 3) hs.bts (by omega))⟩

theorem lay_all : (∀ (a : Act) (d : Nat) (v : Value), a.put (some d) v = { a with tmps := a.tmps.setIfInBounds d v }) ∧
    (∀ {α : Type} (l : List α) (i : Nat) (v : α), l.toArray.setIfInBounds i v = (l.set i v).toArray) ∧ (∀ {α : Type} (a b : α) (l : List α), (a :: l).set 0 b = b :: l) ∧
    (∀ {α : Type} (a b : α) (l : List α) (n : Nat), (a :: l).set (n + 1) b = a :: l.set n b) ∧
    (∀ {α : Type} (l : List α) (i : Nat) (h : i < l.toArray.size), l.toArray[i] = l[i]'(by simpa using h)) ∧ (∀ {α : Type} (a : α) (l : List α) (h : 0 < (a :: l).length), (a :: l)[0] = a) ∧
    (∀ {α : Type} (a : α) (l : List α) (n : Nat) (h : n + 1 < (a :: l).length), (a :: l)[n + 1] = l[n]'(by simpa using h)) :=
  ⟨fun _ _ _ => rfl, fun l i v => by simp, fun _ _ _ => rfl, fun _ _ _ _ => rfl, fun _ _ _ => by simp, fun _ _ _ => rfl, fun _ _ _ _ => rfl⟩

set_option maxRecDepth 100000 in
set_option maxHeartbeats 1000000 in
theorem alive1 (w : World) : Calls Try.prog 21 #[] w fun e w' => e = .returned (.bool true) ∧ Ch (fun _ => False) w w' := by
  go_enter Try.func21, Try.ntmps21
  go_wp2_with fail
  refine (new_ok 4 _ (by omega) (by omega)).mono ?_
  rintro e w1 ⟨p, M, rfl, hD, c1, m1⟩
  have HD : Hid (DiskAt w1 p aD0 M M) := hid hD
  have HM := hid m1
  have HC := hid c1
  clear hD c1 m1
  go_wp2_with (go_at_call 22; refine (no1_any _ _).mono ?_; rintro e w' ⟨rfl, rfl⟩)
  refine (of_any 120 _).mono ?_
  rintro e w2 ⟨rfl, hs2, c2⟩
  have HB2 := hid hs2.bts
  have HD2 := hid (HD.out.ch c2 (fun _ _ h => h))
  have HC2 := hid (HC.out.trans c2)
  have hlt : ∀ k, M k → k < w1.heap.size := by obtain ⟨_, _, _, _, _, _, _, _, _, h5⟩ := HD.out; exact h5
  have hm2 : ∀ k, (secV (w1.heap.size, 512)).ownBlock = some k → ¬ M k := fun k hk hm => by
    have := hlt k hm
    obtain rfl : w1.heap.size = k := by simpa [secV, Value.ownBlock] using hk
    omega
  have HL := hid hm2
  clear hs2 c2 hlt hm2
  go_wp2_with fail
  refine (write_any 1 _ 512 512 (ofB 120) _ HD2.out (by decide) (by decide) HB2.out (ofB_length _) HL.out).mono ?_
  rintro e w3 ⟨he, M3, F3, hD3, hm3, hf3, c3⟩
  rw [a_write] at he hD3
  subst he
  have HD3 := hid hD3
  have HM3 : Hid (∀ k, M3 k → w.heap.size ≤ k) := hid (fun k hk => by
    rcases hm3 k hk with h | h
    · exact HM.out k h
    · exact Nat.le_trans HC2.out.size h)
  have HZ3 : Hid (∀ k, M3 k → k < w3.heap.size) := hid (by obtain ⟨_, _, _, _, _, _, _, _, h4, h5⟩ := hD3; exact fun k hk => h5 k (h4 k hk))
  have HC3 := hid (HC2.out.then c3 (fun i hi h => by have := HM.out i h; omega))
  clear hD3 hm3 hf3 c3 HD2 HD HL HB2 HC HC2
  go_wp2_with (go_at_call 22; refine (no1_any _ _).mono ?_; rintro e w' ⟨rfl, rfl⟩)
  refine (read_any 1 _ HD3.out (by decide)).mono ?_
  rintro e w4 ⟨v4, he, hb4, c4, n4, -⟩
  rw [a_read] at he hb4
  subst he
  have HB4 := hid hb4
  have HD4 := hid (HD3.out.ch c4 (fun _ _ h => h))
  have HC4 := hid (HC3.out.trans c4)
  have HN4 : Hid (∀ k, v4.ownBlock = some k → ¬ M3 k) := hid (fun k hk hm => by have := n4 k hk; have := HZ3.out k hm; omega)
  have HZ4 : Hid (∀ k, M3 k → k < w4.heap.size) := hid (fun k hm => Nat.lt_of_lt_of_le (HZ3.out k hm) c4.size)
  clear hb4 c4 HD3 HC3 n4 HZ3
  go_wp2_with fail
  refine (crash_any none 0 [] _ HD4.out (by decide) (by decide) (.inl ⟨_, _, rfl, rfl⟩)).mono ?_
  rintro e w5 ⟨p5, M5, rfl, hD5, c5, m5⟩
  have HB5 := hid (HB4.out.ch c5 (fun _ _ h => h))
  have HD5 := hid (HD4.out.ch c5 (fun _ _ h => h))
  have HC5 := hid (HC4.out.trans c5)
  have HE5 := hid hD5
  have HZ5 : Hid (∀ k, M3 k → k < w5.heap.size) := hid (fun k hm => Nat.lt_of_lt_of_le (HZ4.out k hm) c5.size)
  clear hD5 c5 m5 HB4 HD4 HC4
  go_wp2_with fail
  refine (read_any 1 _ HE5.out (by decide)).mono ?_
  rintro e w6 ⟨v6, he, hb6, c6, n6, -⟩
  rw [a_readb] at he hb6
  subst he
  have HB6 := hid hb6
  have HA6 := hid (HB5.out.ch c6 (fun _ _ h => h))
  have HD6 := hid (HD5.out.ch c6 (fun _ _ h => h))
  have HC6 := hid (HC5.out.trans c6)
  have HN6 : Hid (∀ k, v6.ownBlock = some k → ¬ M3 k) := hid (fun k hk hm => by have := n6 k hk; have := HZ5.out k hm; omega)
  have HZ6 : Hid (∀ k, M3 k → k < w6.heap.size) := hid (fun k hm => Nat.lt_of_lt_of_le (HZ5.out k hm) c6.size)
  clear hb6 c6 HB5 HD5 HC5 HE5 n6 HZ5 HZ4
  go_wp2_with fail
  refine (crash_any (some ⟨w6.heap.size, 0, none⟩) 1 [(0, 3)] _ (HD6.out.ch ((Ch.refl (fun _ => False) _).alloc _) (fun _ _ h => h)) (by decide) (by decide)
    (.inr ⟨w6.heap.size, 0, 1, _, 62, (0, 0), rfl, heap_new _, fun j x hx => by cases j with | zero => (simp at hx; subst hx; exact ⟨rfl, rfl⟩) | succ j => simp at hx⟩)).mono ?_
  rintro e w7 ⟨p7, M7, rfl, hD7, c7, m7⟩
  have c67 := ((Ch.refl (fun _ => False) w6).alloc (.cells #[.int .i64 0, .int .i64 3] 62)).trans c7
  have HA7 := hid (HA6.out.ch c67 (fun _ _ h => h))
  have HB7 := hid (HB6.out.ch c67 (fun _ _ h => h))
  have HD7 := hid (HD6.out.ch c67 (fun _ _ h => h))
  have HC7 := hid (HC6.out.trans c67)
  have HE7 := hid hD7
  have HZ7 : Hid (∀ k, M3 k → k < w7.heap.size) := hid (fun k hm => Nat.lt_of_lt_of_le (HZ6.out k hm) c67.size)
  clear hD7 c7 m7 c67 HA6 HB6 HD6 HC6 HZ6
  go_wp2_with fail
  refine (read_any 1 _ HE7.out (by decide)).mono ?_
  rintro e w8 ⟨v8, he, hb8, c8, n8, -⟩
  rw [a_readc] at he hb8
  subst he
  have HG8 := hid hb8
  have HA8 := hid (HA7.out.ch c8 (fun _ _ h => h))
  have HB8 := hid (HB7.out.ch c8 (fun _ _ h => h))
  have HD8 := hid (HD7.out.ch c8 (fun _ _ h => h))
  have HC8 := hid (HC7.out.trans c8)
  have HN8 : Hid (∀ k, v8.ownBlock = some k → ¬ M3 k) := hid (fun k hk hm => by have := n8 k hk; have := HZ7.out k hm; omega)
  clear hb8 c8 HA7 HB7 HD7 HC7 HE7 n8 HZ7
  go_wp2_with fail
  refine (fuse_any 0 _ (by omega) HD8.out).mono ?_
  rintro e w9 ⟨rfl, hD9, c9⟩
  have HS : Hid (AliveS p v4 v6 v8 w w9) := hid ⟨_, _, _, hD9, a_flush, .inr rfl, by decide, by decide, HM3.out, ⟨HA8.out.ch c9 HN4.out, HN4.out⟩, ⟨HB8.out.ch c9 HN6.out, HN6.out⟩, ⟨HG8.out.ch c9 HN8.out, HN8.out⟩,
    HC8.out.then c9 (fun i hi h => by have := HM3.out i h; omega)⟩
  clear hD9 c9 HA8 HB8 HG8 HD8 HC8 HM HM3 HN4 HN6 HN8
  have HT : Hid (AliveT p v4 v6 v8 w w9.drew) := hid (HS.out.still (Ch.refl _ _).drew)
  clear HS
  go_wp2
  obtain ⟨s4, h4⟩ : ∃ s, s = (⟨(ofB 120).toArray⟩ : ByteArray) := ⟨_, rfl⟩
  obtain ⟨s6, h6⟩ : ∃ s, s = (⟨(zeros 512).toArray⟩ : ByteArray) := ⟨_, rfl⟩
  obtain ⟨s8, h8⟩ : ∃ s, s = (⟨aC.toArray⟩ : ByteArray) := ⟨_, rfl⟩
  obtain ⟨s9, h9⟩ : ∃ s, s = (⟨((ofB 0).drop 3).toArray⟩ : ByteArray) := ⟨_, rfl⟩
  have h46 : s6 = ⟨(ofB 0).toArray⟩ := h6
  have b4 : (s4.toList == s4.toList) = true := beq_str_eq rfl
  have b6 : (s6.toList == s6.toList) = true := beq_str_eq rfl
  have b8 : (s8.toList == ((⟨#[120, 120, 120]⟩ : ByteArray) ++ s9).toList) = true := beq_str_eq (by
    rw [h8, h9]; simp [aC, ofB, zeros])
  have hz9 : s9.size = 509 := by rw [h9]; simp [ByteArray.size, ofB_length]
  have HSS : Hid (∀ W, AliveT p v4 v6 v8 w W → (convert 35 9 v4).run Try.prog W = .ok (.string s4) W ∧ (convert 35 9 v6).run Try.prog W = .ok (.string s6) W ∧ (convert 35 9 v8).run Try.prog W = .ok (.string s8) W ∧ AliveS p v4 v6 v8 w W) := hid (by
    rw [h4, h6, h8]; exact fun W h => h)
  have HO : Hid (∀ W (x : Int), ((convert 35 9 v4).run Try.prog W = .ok (.string s4) W ∧ (convert 35 9 v6).run Try.prog W = .ok (.string s6) W ∧ (convert 35 9 v8).run Try.prog W = .ok (.string s8) W ∧ AliveS p v4 v6 v8 w W) → x = 120 ∨ x = 0 → Calls Try.prog 26 #[.int .u8 x] W fun e w' => ∃ n, e = .returned (.slice (some ⟨n, 0, none⟩) 512 512) ∧ AliveT p v4 v6 v8 w w' ∧
      (x = 120 → (convert 35 9 (.slice (some ⟨n, 0, none⟩) 512 512)).run Try.prog w' = .ok (.string s4) w') ∧
      (x = 0 → (convert 35 9 (.slice (some ⟨n, 0, none⟩) 512 512)).run Try.prog w' = .ok (.string s6) w') ∧
      (x = 0 → (convert 35 9 (.slice (some ⟨n, 3, none⟩) 509 509)).run Try.prog w' = .ok (.string s9) w')) := hid (by
    rintro W x h (rfl | rfl)
    · refine (h.2.2.2.of 120).mono fun e w' h => ⟨_, h.1, h.2.1, fun _ => ?_, fun h => by omega, fun h => by omega⟩
      rw [h4]; exact h.2.2.1
    · refine (h.2.2.2.of 0).mono fun e w' h => ⟨_, h.1, h.2.1, fun h => by omega, fun _ => ?_, fun _ => ?_⟩
      · rw [h46]; exact h.2.2.1
      · rw [h9]; exact h.2.2.2)
  have HFl : Hid (∀ W, ((convert 35 9 v4).run Try.prog W = .ok (.string s4) W ∧ (convert 35 9 v6).run Try.prog W = .ok (.string s6) W ∧ (convert 35 9 v8).run Try.prog W = .ok (.string s8) W ∧ AliveS p v4 v6 v8 w W) → Calls Try.prog 23 #[.pointer (some ⟨p, 0, none⟩)] W fun e w' => e = .returned (.int .i64 9) ∧ AliveT p v4 v6 v8 w w') := hid (fun W h => h.2.2.2.flush)
  clear h4 h6 h8 h9 h46
  refine wp_region_noPanic ?_
  refine wp_region_held_drew (S := (fun W => (convert 35 9 v4).run Try.prog W = .ok (.string s4) W ∧ (convert 35 9 v6).run Try.prog W = .ok (.string s6) W ∧ (convert 35 9 v8).run Try.prog W = .ok (.string s8) W ∧ AliveS p v4 v6 v8 w W)) (by kernel_rfl) (HSS.out _ HT.out) (fun hHeld => ?_)
  refine wpAnyH_take (i := 0) (v := ?_) rfl (by kernel_rfl) (by kernel_rfl) (by kernel_rfl) (fun _ _ _ h => h) (Or.inl ⟨by rfl, ?_⟩) (by assumption) ?_
  rotate_left
  · intro w hSw
    try dsimp only at hSw
    go_simp
    all_goals with_reducible rfl
  try simp only [lay_all]
  refine wpAnyH_take (i := 2) (v := ?_) rfl (by kernel_rfl) (by kernel_rfl) (by kernel_rfl) (fun _ _ _ h => h) (Or.inl ⟨by rfl, ?_⟩) (by assumption) ?_
  rotate_left
  · intro w hSw
    try dsimp only at hSw
    go_simp
    all_goals with_reducible rfl
  try simp only [lay_all]
  refine wpAnyH_take (i := 5) (v := ?_) rfl (by kernel_rfl) (by kernel_rfl) (by kernel_rfl) (fun _ _ _ h => h) (Or.inl ⟨by rfl, ?_⟩) (by assumption) ?_
  rotate_left
  · intro w hSw
    try dsimp only at hSw
    go_simp
    all_goals with_reducible rfl
  try simp only [lay_all]
  refine wpAnyH_ready (rs := [1]) (by kernel_rfl) (by simp) ?_
  refine AllReadyH.cons rfl (fun K hK => ?_) AllReadyH.nil
  go_simp
  refine (no1_any _ _).mono ?_
  rintro e w' ⟨rfl, rfl⟩
  go_wp2_with fail
  refine hK.out _ _ ?_ (fun hHeld => ?_)
  · first | exact HSS.out _ HT.out | exact HSS.out _ hT | assumption
  clear hK K
  try simp only [lay_all]
  refine wpAnyH_ready (rs := [3]) (by kernel_rfl) (by simp) ?_
  refine AllReadyH.cons rfl (fun K hK => ?_) AllReadyH.nil
  go_simp
  refine (no1_any _ _).mono ?_
  rintro e w' ⟨rfl, rfl⟩
  go_wp2_with fail
  refine hK.out _ _ ?_ (fun hHeld => ?_)
  · first | exact HSS.out _ HT.out | exact HSS.out _ hT | assumption
  clear hK K
  try simp only [lay_all]
  refine wpAnyH_take (i := 4) (v := ?_) rfl (by kernel_rfl) (by kernel_rfl) (by kernel_rfl) (fun _ _ _ h => h) (Or.inl ⟨by rfl, ?_⟩) (by assumption) ?_
  rotate_left
  · intro w hSw
    try dsimp only at hSw
    go_simp
    all_goals with_reducible rfl
  try simp only [lay_all]
  refine wpAnyH_ready (rs := [6]) (by kernel_rfl) (by simp) ?_
  refine AllReadyH.cons rfl (fun K hK => ?_) AllReadyH.nil
  go_simp
  refine (no1_any _ _).mono ?_
  rintro e w' ⟨rfl, rfl⟩
  go_wp2_with fail
  refine hK.out _ _ ?_ (fun hHeld => ?_)
  · first | exact HSS.out _ HT.out | exact HSS.out _ hT | assumption
  clear hK K
  try simp only [lay_all]
  refine wpAnyH_take (i := 7) (v := ?_) rfl (by kernel_rfl) (by kernel_rfl) (by kernel_rfl) (fun _ _ _ h => h) (Or.inl ⟨by rfl, ?_⟩) (by assumption) ?_
  rotate_left
  · intro w hSw
    try dsimp only at hSw
    go_simp
    all_goals with_reducible rfl
  try simp only [lay_all]
  refine wpAnyH_take (i := 8) (v := ?_) rfl (by kernel_rfl) (by kernel_rfl) (by kernel_rfl) (fun _ _ _ h => h) (Or.inl ⟨by rfl, ?_⟩) (by assumption) ?_
  rotate_left
  · intro w hSw
    try dsimp only at hSw
    go_simp
    all_goals with_reducible rfl
  try simp only [lay_all]
  refine wpAnyH_take (i := 9) (v := ?_) rfl (by kernel_rfl) (by kernel_rfl) (by kernel_rfl) (fun _ _ _ h => h) (Or.inl ⟨by rfl, ?_⟩) (by assumption) ?_
  rotate_left
  · intro w hSw
    try dsimp only at hSw
    go_simp
    all_goals with_reducible rfl
  try simp only [lay_all]
  refine wpAnyH_take (i := 10) (v := ?_) rfl (by kernel_rfl) (by kernel_rfl) (by kernel_rfl) (fun _ _ _ h => h) (Or.inl ⟨by rfl, ?_⟩) (by assumption) ?_
  rotate_left
  · intro w hSw
    try dsimp only at hSw
    go_simp
    all_goals with_reducible rfl
  try simp only [lay_all]
  refine wpAnyH_take (i := 11) (v := ?_) rfl (by kernel_rfl) (by kernel_rfl) (by kernel_rfl) (fun _ _ _ h => h) (Or.inl ⟨by rfl, ?_⟩) (by assumption) ?_
  rotate_left
  · intro w hSw
    try dsimp only at hSw
    go_simp
    all_goals with_reducible rfl
  try simp only [lay_all]
  refine wpAnyH_ready (rs := [12]) (by kernel_rfl) (by simp) ?_
  refine AllReadyH.cons rfl (fun K hK => ?_) AllReadyH.nil
  go_simp
  refine (HO.out _ _ (by assumption) (by decide)).mono ?_
  rintro e w' ⟨n, rfl, hT, hx, -, -⟩
  have hcv := hx rfl
  clear hx
  go_wp2_with fail
  refine hK.out _ _ ?_ (fun hHeld => ?_)
  · first | exact HSS.out _ HT.out | exact HSS.out _ hT | assumption
  clear hK K
  try simp only [lay_all]
  refine wpAnyH_ready (rs := [13]) (by kernel_rfl) (by simp) ?_
  refine AllReadyH.cons rfl (fun K hK => ?_) AllReadyH.nil
  go_simp
  refine hK.out _ _ ?_ (fun hHeld => ?_)
  · first | exact HSS.out _ HT.out | exact HSS.out _ hT | assumption
  clear hK K
  try simp only [lay_all]
  refine wpAnyH_take (i := 14) (v := ?_) rfl (by kernel_rfl) (by kernel_rfl) (by kernel_rfl) (fun _ _ _ h => h) (Or.inl ⟨by rfl, ?_⟩) (by assumption) ?_
  rotate_left
  · intro w hSw
    try dsimp only at hSw
    go_simp
    all_goals with_reducible rfl
  try simp only [lay_all]
  refine wpAnyH_take (i := 15) (v := ?_) rfl (by kernel_rfl) (by kernel_rfl) (by kernel_rfl) (fun _ _ _ h => h) (Or.inl ⟨by rfl, ?_⟩) (by assumption) ?_
  rotate_left
  · intro w hSw
    try dsimp only at hSw
    go_simp
    all_goals with_reducible rfl
  try simp only [lay_all]
  refine wpAnyH_take (i := 16) (v := ?_) rfl (by kernel_rfl) (by kernel_rfl) (by kernel_rfl) (fun _ _ _ h => h) (Or.inl ⟨by rfl, ?_⟩) (by assumption) ?_
  rotate_left
  · intro w hSw
    try dsimp only at hSw
    go_simp
    all_goals with_reducible rfl
  try simp only [lay_all]
  refine wpAnyH_take (i := 17) (v := ?_) rfl (by kernel_rfl) (by kernel_rfl) (by kernel_rfl) (fun _ _ _ h => h) (Or.inl ⟨by rfl, ?_⟩) (by assumption) ?_
  rotate_left
  · intro w hSw
    try dsimp only at hSw
    go_simp
    all_goals with_reducible rfl
  try simp only [lay_all]
  refine wpAnyH_take (i := 18) (v := ?_) rfl (by kernel_rfl) (by kernel_rfl) (by kernel_rfl) (fun _ _ _ h => h) (Or.inl ⟨by rfl, ?_⟩) (by assumption) ?_
  rotate_left
  · intro w hSw
    try dsimp only at hSw
    go_simp
    all_goals with_reducible rfl
  try simp only [lay_all]
  refine wpAnyH_ready (rs := [19]) (by kernel_rfl) (by simp) ?_
  refine AllReadyH.cons rfl (fun K hK => ?_) AllReadyH.nil
  go_simp
  refine (HO.out _ _ (by assumption) (by decide)).mono ?_
  rintro e w' ⟨n, rfl, hT, -, hx, hy⟩
  have hcv := hx rfl
  have hcv2 := hy rfl
  clear hx hy
  go_wp2_with fail
  refine hK.out _ _ ?_ (fun hHeld => ?_)
  · first | exact HSS.out _ HT.out | exact HSS.out _ hT | assumption
  clear hK K
  try simp only [lay_all]
  refine wpAnyH_ready (rs := [20]) (by kernel_rfl) (by simp) ?_
  refine AllReadyH.cons rfl (fun K hK => ?_) AllReadyH.nil
  go_simp
  refine hK.out _ _ ?_ (fun hHeld => ?_)
  · first | exact HSS.out _ HT.out | exact HSS.out _ hT | assumption
  clear hK K
  try simp only [lay_all]
  refine wpAnyH_take (i := 21) (v := ?_) rfl (by kernel_rfl) (by kernel_rfl) (by kernel_rfl) (fun _ _ _ h => h) (Or.inl ⟨by rfl, ?_⟩) (by assumption) ?_
  rotate_left
  · intro w hSw
    try dsimp only at hSw
    go_simp
    all_goals with_reducible rfl
  try simp only [lay_all]
  refine wpAnyH_take (i := 22) (v := ?_) rfl (by kernel_rfl) (by kernel_rfl) (by kernel_rfl) (fun _ _ _ h => h) (Or.inl ⟨by rfl, ?_⟩) (by assumption) ?_
  rotate_left
  · intro w hSw
    try dsimp only at hSw
    go_simp
    all_goals with_reducible rfl
  try simp only [lay_all]
  refine wpAnyH_take (i := 23) (v := ?_) rfl (by kernel_rfl) (by kernel_rfl) (by kernel_rfl) (fun _ _ _ h => h) (Or.inl ⟨by rfl, ?_⟩) (by assumption) ?_
  rotate_left
  · intro w hSw
    try dsimp only at hSw
    go_simp
    all_goals with_reducible rfl
  try simp only [lay_all]
  refine wpAnyH_take (i := 24) (v := ?_) rfl (by kernel_rfl) (by kernel_rfl) (by kernel_rfl) (fun _ _ _ h => h) (Or.inl ⟨by rfl, ?_⟩) (by assumption) ?_
  rotate_left
  · intro w hSw
    try dsimp only at hSw
    go_simp
    all_goals with_reducible rfl
  try simp only [lay_all]
  refine wpAnyH_take (i := 25) (v := ?_) rfl (by kernel_rfl) (by kernel_rfl) (by kernel_rfl) (fun _ _ _ h => h) (Or.inl ⟨by rfl, ?_⟩) (by assumption) ?_
  rotate_left
  · intro w hSw
    try dsimp only at hSw
    go_simp
    all_goals with_reducible rfl
  try simp only [lay_all]
  refine wpAnyH_ready (rs := [26]) (by kernel_rfl) (by simp) ?_
  refine AllReadyH.cons rfl (fun K hK => ?_) AllReadyH.nil
  go_simp
  refine (HO.out _ _ (by assumption) (by decide)).mono ?_
  rintro e w' ⟨n, rfl, hT, -, hx, hy⟩
  have hcv := hx rfl
  have hcv2 := hy rfl
  clear hx hy
  go_wp2_with fail
  refine hK.out _ _ ?_ (fun hHeld => ?_)
  · first | exact HSS.out _ HT.out | exact HSS.out _ hT | assumption
  clear hK K
  try simp only [lay_all]
  refine wpAnyH_take (i := 27) (v := ?_) rfl (by kernel_rfl) (by kernel_rfl) (by kernel_rfl) (fun _ _ _ h => h) (Or.inl ⟨by rfl, ?_⟩) (by assumption) ?_
  rotate_left
  · intro w hSw
    try dsimp only at hSw
    go_simp
    all_goals with_reducible rfl
  try simp only [lay_all]
  refine wpAnyH_ready (rs := [28]) (by kernel_rfl) (by simp) ?_
  refine AllReadyH.cons rfl (fun K hK => ?_) AllReadyH.nil
  go_simp
  refine hK.out _ _ ?_ (fun hHeld => ?_)
  · first | exact HSS.out _ HT.out | exact HSS.out _ hT | assumption
  clear hK K
  try simp only [lay_all]
  refine wpAnyH_take (i := 29) (v := ?_) rfl (by kernel_rfl) (by kernel_rfl) (by kernel_rfl) (fun _ _ _ h => h) (Or.inl ⟨by rfl, ?_⟩) (by assumption) ?_
  rotate_left
  · intro w hSw
    try dsimp only at hSw
    go_simp
    all_goals with_reducible rfl
  try simp only [lay_all]
  refine wpAnyH_take (i := 30) (v := ?_) rfl (by kernel_rfl) (by kernel_rfl) (by kernel_rfl) (fun _ _ _ h => h) (Or.inl ⟨by rfl, ?_⟩) (by assumption) ?_
  rotate_left
  · intro w hSw
    try dsimp only at hSw
    go_simp
    all_goals with_reducible rfl
  try simp only [lay_all]
  refine wpAnyH_take (i := 31) (v := ?_) rfl (by kernel_rfl) (by kernel_rfl) (by kernel_rfl) (fun _ _ _ h => h) (Or.inl ⟨by rfl, ?_⟩) (by assumption) ?_
  rotate_left
  · intro w hSw
    try dsimp only at hSw
    go_simp
    all_goals with_reducible rfl
  try simp only [lay_all]
  refine wpAnyH_take (i := 32) (v := ?_) rfl (by kernel_rfl) (by kernel_rfl) (by kernel_rfl) (fun _ _ _ h => h) (Or.inl ⟨by rfl, ?_⟩) (by assumption) ?_
  rotate_left
  · intro w hSw
    try dsimp only at hSw
    go_simp
    all_goals with_reducible rfl
  try simp only [lay_all]
  refine wpAnyH_take (i := 33) (v := ?_) rfl (by kernel_rfl) (by kernel_rfl) (by kernel_rfl) (fun _ _ _ h => h) (Or.inl ⟨by rfl, ?_⟩) (by assumption) ?_
  rotate_left
  · intro w hSw
    try dsimp only at hSw
    go_simp
    all_goals with_reducible rfl
  try simp only [lay_all]
  refine wpAnyH_ready (rs := [34]) (by kernel_rfl) (by simp) ?_
  refine AllReadyH.cons rfl (fun K hK => ?_) AllReadyH.nil
  go_simp
  refine (HFl.out _ (by assumption)).mono ?_
  rintro e w' ⟨rfl, hT⟩
  go_wp2_with fail
  refine hK.out _ _ ?_ (fun hHeld => ?_)
  · first | exact HSS.out _ HT.out | exact HSS.out _ hT | assumption
  clear hK K
  try simp only [lay_all]
  refine wpAnyH_ready (rs := [35]) (by kernel_rfl) (by simp) ?_
  refine AllReadyH.cons rfl (fun K hK => ?_) AllReadyH.nil
  go_simp
  refine (no1_any _ _).mono ?_
  rintro e w' ⟨rfl, rfl⟩
  go_wp2_with fail
  refine hK.out _ _ ?_ (fun hHeld => ?_)
  · first | exact HSS.out _ HT.out | exact HSS.out _ hT | assumption
  clear hK K
  try simp only [lay_all]
  refine wpAnyH_take (i := 36) (v := ?_) rfl (by kernel_rfl) (by kernel_rfl) (by kernel_rfl) (fun _ _ _ h => h) (Or.inl ⟨by rfl, ?_⟩) (by assumption) ?_
  rotate_left
  · intro w hSw
    try dsimp only at hSw
    go_simp
    all_goals with_reducible rfl
  try simp only [lay_all]
  refine wpAnyH_take (i := 37) (v := ?_) rfl (by kernel_rfl) (by kernel_rfl) (by kernel_rfl) (fun _ _ _ h => h) (Or.inl ⟨by rfl, ?_⟩) (by assumption) ?_
  rotate_left
  · intro w hSw
    try dsimp only at hSw
    go_simp
    all_goals with_reducible rfl
  try simp only [lay_all]
  refine wpAnyH_take (i := 38) (v := ?_) rfl (by kernel_rfl) (by kernel_rfl) (by kernel_rfl) (fun _ _ _ h => h) (Or.inl ⟨by rfl, ?_⟩) (by assumption) ?_
  rotate_left
  · intro w hSw
    try dsimp only at hSw
    go_simp
    all_goals with_reducible rfl
  try simp only [lay_all]
  refine wpAnyH_done (by kernel_rfl) ?_ _
  refine NoPanic.normal ?_
  go_wp2
  go_ret
  obtain ⟨_, _, _, _, _, _, _, _, _, _, _, _, _, _, _, hch⟩ := hT
  exact ⟨rfl, hch⟩

end Go.Proofs.Ytadhibemadgcoaa
