/- Seal and SealRoot of package page: which bytes they make, or which error. Conditions: none on the arguments. -/
import Derived.Test.YtadhibemadgcoaaPageB
import Derived.Deep.RegionWith
namespace Go.Proofs.Ytadhibemadgcoaa
open Go.RowKit

/-- A page's sector ahead of its sum, and with it. -/
def seal0 (kind gen : Nat) (s : List UInt8) : List UInt8 :=
  putAt (putAt (putAt (putAt (putAt (putAt (zeros 512) 0 (be 18550 2)) 2 (be kind 1)) 3 (be 0 1)) 4 (be s.length 2)) 6 (be gen 6)) 20 s
def sealB (kind gen : Nat) (s : List UInt8) : List UInt8 := putAt (seal0 kind gen s) 12 (be (sumB (seal0 kind gen s)) 4)

set_option maxHeartbeats 1000000 in
theorem seal_ok (kind gen : Nat) (s : ByteArray) (w : World) (hk : kind ≤ 255) (hg : gen ≤ 281474976710655) (hs : s.size ≤ 492) :
    Calls Try.prog 31 #[.int .i64 kind, .int .i64 gen, .string s] w fun e w' => ∃ b, e = .returned (.tuple #[.slice (some ⟨b, 0, none⟩) 512 512, .int .i64 0]) ∧
      w'.heap[b]? = some (.cells (bcells (sealB kind gen s.data.toList)).toArray 5 (0, 0)) ∧ Ch (fun _ => False) w w' ∧ w.heap.size ≤ b := by
  go_enter Try.func31, Try.ntmps31
  go_wp2_with fail
  refine (blank_any _).mono ?_
  rintro e w1 ⟨a, b, rfl, hA1, hch1, ha, hb⟩
  have HA1 := hid hA1
  clear hA1
  go_wp2_with fail
  refine (number_any a b _ _ 18550 2 _ (by omega) (by omega) (by omega) HA1.out).mono ?_
  rintro e w2 ⟨rfl, hA2, hch2⟩
  have HA2 := hid hA2
  clear hA2
  go_wp2_with fail
  refine (number_any a b _ _ kind 1 _ (by omega) (by omega) (by omega) HA2.out).mono ?_
  rintro e w3 ⟨rfl, hA3, hch3⟩
  have HA3 := hid hA3
  clear hA3
  go_wp2_with fail
  refine (number_any a b _ _ 0 1 _ (by omega) (by omega) (by omega) HA3.out).mono ?_
  rintro e w4 ⟨rfl, hA4, hch4⟩
  have HA4 := hid hA4
  clear hA4
  go_wp2_with fail
  refine (number_any a b _ _ s.size 2 _ (by omega) (by omega) (by omega) HA4.out).mono ?_
  rintro e w5 ⟨rfl, hA5, hch5⟩
  have HA5 := hid hA5
  clear hA5
  go_wp2_with fail
  refine (number_any a b _ _ gen 6 _ (by omega) (by omega) (by omega) HA5.out).mono ?_
  rintro e w6 ⟨rfl, hA6, hch6⟩
  have HA6 := hid hA6
  have h1 := cell_blk hA6.1 1
  have hf1 := frozen_blk hA6.1 1
  simp at h1
  clear hA6
  go_wp2_with fail
  refine (text_any a b _ 20 s _ (by omega) (by omega) (HA6.out.go 20 _ rfl)).mono ?_
  rintro e w7 ⟨rfl, hA7, hch7⟩
  have HA7 := hid hA7
  have h1 := cell_blk hA7.1 1
  have hf1 := frozen_blk hA7.1 1
  simp at h1
  have HA8 := hid (hA7.go 12 _ rfl)
  have hch8 : Ch (fun k => k = a ∨ k = b) w7 (w7.setCell ⟨a, 1, none⟩ (.int .i64 12)) := (Ch.refl _ _).setCell (fun _ => .inl rfl) _
  clear hA7
  go_wp2_with fail
  have h0 := cell_blk HA8.out.1 0
  simp at h0
  clear h1 hf1
  generalize HW : w7.setCell ⟨a, 1, none⟩ (.int .i64 12) = w8 at *
  clear HW
  have HB := hid (AtB.bts (HA8.out.frame (w' := w8.drew) rfl rfl))
  have hlen : (seal0 kind gen s.data.toList).length ≤ 140737488355328 := by unfold seal0; simp [putAt_length, zeros_length]
  have hsum := sumB_lt (seal0 kind gen s.data.toList)
  have HE : Hid (putAt (putAt (putAt (putAt (putAt (putAt (zeros 512) 0 (be 18550 2)) 2 (be kind 1)) 3 (be 0 1)) 4 (be s.size 2)) 6 (be gen 6)) 20 s.data.toList = seal0 kind gen s.data.toList) := hid rfl
  simp only [Nat.zero_add, Nat.reduceAdd] at HA8 HB
  rw [HE.out] at HA8 HB
  obtain ⟨L, HL⟩ : ∃ L, Hid (seal0 kind gen s.data.toList = L) := ⟨_, hid rfl⟩
  rw [HL.out] at HA8 HB hlen hsum
  obtain ⟨S, HS⟩ : ∃ S, Hid (sumB L = S) := ⟨_, hid rfl⟩
  rw [HS.out] at hsum
  have hsm := sum_any (.slice (some ⟨b, 0, none⟩) 512 512) L w8.drew hlen HB.out
  rw [HS.out] at hsm
  have HSM := hid hsm
  clear hsm
  have HN := hid (number_any a b L 12 S 4 w8.drew (by omega) (by omega) (by omega) (HA8.out.frame (w' := w8.drew) rfl rfl))
  have hwr : IntKind.i64.wrap (S : Int) = (S : Int) := wrap_id (by omega) (by omega)
  go_region_with (first | (go_at_call 29; refine HSM.out.mono ?_; rintro e w' ⟨rfl, rfl⟩) | (go_at_call 84; refine HN.out.mono ?_; rintro e w9 ⟨rfl, hA9, hch9⟩))
  have h9 := cell_blk hA9.1 0
  simp at h9
  have HA9 := hid hA9
  clear hA9 h0 hwr
  go_wp2
  go_ret2
  refine ⟨b, rfl, ?_, ?_, hb⟩
  · rw [HA9.out.2.1, ← HS.out, ← HL.out]; rfl
  · have hn : ∀ k, k < w.heap.size → (k = a ∨ k = b) → False := by intro k hk h; omega
    have c7 := ((((((hch1.then hch2 hn).then hch3 hn).then hch4 hn).then hch5 hn).then hch6 hn).setCell (p := ⟨a, 1, none⟩) (fun h => by simp at h; omega) (.int .i64 20)).then hch7 hn
    exact ((c7.then hch8 hn).drew).then hch9 hn

set_option maxHeartbeats 400000 in
theorem seal_bad (kind gen : Int) (s : ByteArray) (w : World) (h : kind < 0 ∨ 255 < kind ∨ gen < 0 ∨ 281474976710655 < gen) :
    Calls Try.prog 31 #[.int .i64 kind, .int .i64 gen, .string s] w fun e w' => e = .returned (.tuple #[.slice none 0 0, .int .i64 2]) ∧ w = w' := by
  by_cases h1 : kind < 0
  · clear h
    go_enter Try.func31, Try.ntmps31
    go_wp2
    go_ret2
    exact ⟨rfl, rfl⟩
  · by_cases h2 : 255 < kind
    · clear h
      go_enter Try.func31, Try.ntmps31
      go_wp2
      go_ret2
      exact ⟨rfl, rfl⟩
    · by_cases h3 : gen < 0
      · clear h
        go_enter Try.func31, Try.ntmps31
        go_wp2
        go_ret2
        exact ⟨rfl, rfl⟩
      · have h4 : 281474976710655 < gen := by omega
        clear h
        go_enter Try.func31, Try.ntmps31
        go_wp2
        go_ret2
        exact ⟨rfl, rfl⟩

theorem seal_long (kind gen : Nat) (s : ByteArray) (w : World) (hk : kind ≤ 255) (hg : gen ≤ 281474976710655) (hs : 492 < s.size) :
    Calls Try.prog 31 #[.int .i64 kind, .int .i64 gen, .string s] w fun e w' => e = .returned (.tuple #[.slice none 0 0, .int .i64 4]) ∧ w = w' := by
  go_enter Try.func31, Try.ntmps31
  go_wp2
  go_ret2
  exact ⟨rfl, rfl⟩

/-- A root's sector. -/
def rootB (gen : Nat) (s : List UInt8) : List UInt8 :=
  putAt (putAt (putAt (putAt (zeros 512) 0 (be gen 8)) 8 (be s.length 2)) 10 s) 504 (be gen 8)

set_option maxHeartbeats 1000000 in
theorem root_ok (gen : Nat) (s : ByteArray) (w : World) (h1g : 1 ≤ gen) (hg : gen ≤ 4611686018427387904) (hs : s.size ≤ 490) :
    Calls Try.prog 33 #[.int .i64 gen, .string s] w fun e w' => ∃ b, e = .returned (.tuple #[.slice (some ⟨b, 0, none⟩) 512 512, .int .i64 0]) ∧
      w'.heap[b]? = some (.cells (bcells (rootB gen s.data.toList)).toArray 5 (0, 0)) ∧ Ch (fun _ => False) w w' ∧ w.heap.size ≤ b := by
  go_enter Try.func33, Try.ntmps33
  go_wp2_with fail
  refine (blank_any _).mono ?_
  rintro e w1 ⟨a, b, rfl, hA1, hch1, ha, hb⟩
  have HA1 := hid hA1
  clear hA1
  go_wp2_with fail
  refine (number_any a b _ _ gen 8 _ (by omega) (by omega) (by omega) HA1.out).mono ?_
  rintro e w2 ⟨rfl, hA2, hch2⟩
  have HA2 := hid hA2
  clear hA2
  go_wp2_with fail
  refine (number_any a b _ _ s.size 2 _ (by omega) (by omega) (by omega) HA2.out).mono ?_
  rintro e w3 ⟨rfl, hA3, hch3⟩
  have HA3 := hid hA3
  clear hA3
  go_wp2_with fail
  refine (text_any a b _ 10 s _ (by omega) (by omega) HA3.out).mono ?_
  rintro e w4 ⟨rfl, hA4, hch4⟩
  have HA4 := hid hA4
  have h1 := cell_blk hA4.1 1
  have hf1 := frozen_blk hA4.1 1
  simp at h1
  clear hA4
  go_wp2_with fail
  refine (number_any a b _ 504 gen 8 _ (by omega) (by omega) (by omega) (HA4.out.go 504 _ rfl)).mono ?_
  rintro e w5 ⟨rfl, hA5, hch5⟩
  have h9 := cell_blk hA5.1 0
  simp at h9
  have HA5 := hid hA5
  clear hA5
  go_wp2
  go_ret2
  refine ⟨b, rfl, ?_, ?_, hb⟩
  · rw [HA5.out.2.1]; rfl
  · have hn : ∀ k, k < w.heap.size → (k = a ∨ k = b) → False := by intro k hk h; omega
    exact (((((hch1.then hch2 hn).then hch3 hn).then hch4 hn).setCell (p := ⟨a, 1, none⟩) (fun h => by simp at h; omega) (.int .i64 504)).then hch5 hn)

theorem root_bad (gen : Int) (s : ByteArray) (w : World) (h : gen < 1 ∨ 4611686018427387904 < gen) :
    Calls Try.prog 33 #[.int .i64 gen, .string s] w fun e w' => e = .returned (.tuple #[.slice none 0 0, .int .i64 2]) ∧ w = w' := by
  by_cases h1 : gen < 1
  · clear h
    go_enter Try.func33, Try.ntmps33
    go_wp2
    go_ret2
    exact ⟨rfl, rfl⟩
  · have h2 : 4611686018427387904 < gen := by omega
    clear h
    go_enter Try.func33, Try.ntmps33
    go_wp2
    go_ret2
    exact ⟨rfl, rfl⟩

theorem root_long (gen : Nat) (s : ByteArray) (w : World) (h1g : 1 ≤ gen) (hg : gen ≤ 4611686018427387904) (hs : 490 < s.size) :
    Calls Try.prog 33 #[.int .i64 gen, .string s] w fun e w' => e = .returned (.tuple #[.slice none 0 0, .int .i64 4]) ∧ w = w' := by
  go_enter Try.func33, Try.ntmps33
  go_wp2
  go_ret2
  exact ⟨rfl, rfl⟩

end Go.Proofs.Ytadhibemadgcoaa
