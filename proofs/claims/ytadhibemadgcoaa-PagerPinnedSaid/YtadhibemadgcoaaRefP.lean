/- The reference of layer 2 (page): what its functions answer. Conditions: as each theorem says. -/
import Derived.Test.YtadhibemadgcoaaPageF
namespace Go.Proofs.Ytadhibemadgcoaa
open Go.RowKit

set_option maxHeartbeats 400000 in
theorem rsum_any (s : ByteArray) (w : World) (hs : s.size ≤ 140737488355328) :
    Calls Try.prog 30 #[.string s] w fun e w' => e = .returned (.int .u32 (sumB s.data.toList : Nat)) ∧ w = w' := by
  go_enter Try.func30, Try.ntmps30
  go_wp2
  go_loop [3, 4] (fun x k => ∃ (j t : Nat), x = .int .u32 (t : Int) ∧ k = .int .i64 (j : Int) ∧ j ≤ s.size ∧ t < 4294967296 ∧ Hid ((t + sumF j (s.data.toList.drop j)) % 4294967296 = sumB s.data.toList)) (fun _ k => s.size - (intOf k).toNat)
  case atStart => exact ⟨0, 0, rfl, rfl, by omega, by omega, hid (by simp [sumB])⟩
  case round =>
    obtain ⟨j, t, rfl, rfl, hj, ht, HS⟩ := hrel
    by_cases hlt : j < s.size
    · have HD := hid (sumF_drop s.data.toList j j hlt)
      have HE : Hid ((s.data.toList[j]'hlt).toNat = s[j].toNat) := hid rfl
      have hc256 : s[j].toNat < 256 := s[j].toNat_lt
      go_wp2
      go_round
      case rel =>
        refine ⟨j + 1, ((t : Nat) + (j + 1) % 4294967296 * s[j].toNat % 4294967296) % 4294967296, by simp only [Int.natCast_emod, Int.natCast_add, Int.natCast_mul]; rfl, by go_num, by omega, by omega, hid ?_⟩
        rw [← HS.out, HD.out, HE.out]
        generalize s[j].toNat = c
        rw [Nat.add_mod _ (sumF _ _), Nat.mod_mod, ← Nat.add_mod]
        rw [← Nat.add_assoc, Nat.add_mod _ (sumF _ _), Nat.add_mod ((t + (j + 1) * c)) (sumF _ _)]
        congr 2
        rw [Nat.add_mod t, Nat.add_mod t ((j + 1) * c), Nat.mod_mod, Nat.mul_mod (j + 1), Nat.mul_mod ((j + 1) % 4294967296), Nat.mod_mod]
      case measure => simp [intOf]; omega
    · go_wp2
      go_ret
      obtain rfl : j = s.size := by omega
      have h := HS.out
      have hd : s.data.toList.drop s.size = [] := List.drop_eq_nil_of_le (by rw [size_toList]; omega)
      rw [hd] at h
      simp [sumF] at h
      refine ⟨?_, rfl⟩
      show Ending.returned (.int .u32 (t : Int)) = _
      rw [← h, Nat.mod_eq_of_lt ht]

theorem rdl_take_le (l : List UInt8) (k : Nat) : rdl (l.take k) ≤ rdl l := by
  have h : ∀ (m : List UInt8) (x : Nat), x ≤ m.foldl (fun x c => x * 256 + c.toNat) x := by
    intro m
    induction m with
    | nil => intro x; exact Nat.le_refl _
    | cons c cs ih => intro x; exact Nat.le_trans (show x ≤ x * 256 + c.toNat by omega) (ih _)
  have := h (l.drop k) (rdl (l.take k))
  rw [rdl, ← List.foldl_append, List.take_append_drop] at this
  exact this
theorem byte_mod (x : Nat) : ((x : Int) % 256) = ((UInt8.ofNat x).toNat : Int) := by
  rw [UInt8.toNat_ofNat', show (2 : Nat) ^ 8 = 256 from rfl, Int.natCast_emod]; rfl

set_option maxHeartbeats 400000 in
theorem rread_any (s : ByteArray) (w : World) (hs : s.size ≤ 8) (hb : rdl s.data.toList < 9223372036854775808) :
    Calls Try.prog 90 #[.string s] w fun e w' => e = .returned (.int .i64 (rdl s.data.toList : Nat)) ∧ w = w' := by
  have HB := hid hb
  clear hb
  go_enter Try.func90, Try.ntmps90
  go_wp2
  go_loop [3, 4] (fun x k => ∃ (j t : Nat), x = .int .i64 (t : Int) ∧ k = .int .i64 (j : Int) ∧ j ≤ s.size ∧ Hid (t = rdl (s.data.toList.take j))) (fun _ k => s.size - (intOf k).toNat)
  case atStart => exact ⟨0, 0, rfl, rfl, by omega, hid (by simp [rdl])⟩
  case round =>
    obtain ⟨j, t, rfl, rfl, hj, HT⟩ := hrel
    by_cases hlt : j < s.size
    · have HD := hid (take_snoc_at s.data.toList 0 j (by rw [size_toList]; omega))
      have HE : Hid ((s.data.toList[j]'hlt).toNat = s[j].toNat) := hid rfl
      have hc256 : s[j].toNat < 256 := s[j].toNat_lt
      rw [List.drop_zero] at HD
      simp only [Nat.zero_add] at HD
      have HR : Hid (256 * t + s[j].toNat = rdl (s.data.toList.take (j + 1))) := hid (by rw [HD.out, rdl_snoc, HE.out, HT.out]; omega)
      have hbd : 256 * (t : Int) + s[j].toNat < 9223372036854775808 := by
        have h1 := rdl_take_le s.data.toList (j + 1)
        have h2 := HB.out
        rw [← HR.out] at h1
        omega
      go_wp2
      go_round
      case rel => exact ⟨j + 1, 256 * t + s[j].toNat, by go_num, by go_num, by omega, HR⟩
      case measure => simp [intOf]; omega
    · go_wp2
      go_ret
      obtain rfl : j = s.size := by omega
      exact ⟨by rw [HT.out, List.take_of_length_le (by rw [size_toList]; omega)]; rfl, rfl⟩

set_option maxRecDepth 100000 in
set_option maxHeartbeats 400000 in
theorem rnumber_any (x n : Nat) (w : World) (hx : x ≤ 4611686018427387904) (hn : n ≤ 8) :
    Calls Try.prog 86 #[.int .i64 x, .int .i64 n] w fun e w' => ∃ s, e = .returned (.string s) ∧ s.data.toList = be x n ∧ Ch (fun _ => False) w w' := by
  go_enter Try.func86, Try.ntmps86
  go_wp2
  go_loopw [0, 5, 6] (fun xv sv k wr => ∃ (j xc : Nat) (s : ByteArray), xv = .int .i64 (xc : Int) ∧ xc ≤ 4611686018427387904 ∧ sv = .string s ∧ k = .int .i64 (j : Int) ∧ j ≤ n ∧ s.size ≤ 8 ∧ Hid (xc = x / 256 ^ j) ∧ Hid (s.data.toList = be x j) ∧ Ch (fun _ => False) w wr) (fun _ _ k _ => n - (intOf k).toNat)
  case atStart => exact ⟨0, x, ⟨#[]⟩, rfl, hx, rfl, rfl, by omega, by decide, hid (by simp), hid rfl, Ch.refl _ _⟩
  case round =>
    obtain ⟨j, xc, s, rfl, hxc, rfl, rfl, hj, hss, HX, HS, hch⟩ := hrel
    by_cases hlt : j < n
    · have HBM := hid (byte_mod xc)
      have hcv : (convert 35 9 (.slice (some ⟨wr.heap.size, 0, none⟩) 1 1)).run Try.prog (wr.alloc (.cells #[.int .u8 ((xc : Int) % 256)] 5)) = .ok (.string ⟨#[UInt8.ofNat xc]⟩) (wr.alloc (.cells #[.int .u8 ((xc : Int) % 256)] 5)) :=
        str_of (l := [UInt8.ofNat xc]) (bts_cells (l := [UInt8.ofNat xc]) (cs := []) (e := 5) (fz := (0, 0)) (by rw [heap_new, HBM.out]; rfl) 1 (by simp))
      go_wp2
      go_roundw
      case rel =>
        refine ⟨j + 1, xc / 256, ⟨#[UInt8.ofNat xc]⟩ ++ s, by go_num, by omega, rfl, by go_num, by omega, ?_, hid ?_, hid ?_, hch.alloc _⟩
        · have h1 : s.size = j := by rw [← size_toList, HS.out, be_length]
          rw [ByteArray.size_append, h1]
          show 1 + j ≤ 8
          omega
        · rw [HX.out, Nat.div_div_eq_div_mul, Nat.pow_succ]
        · rw [ByteArray.data_append]
          simp [be, HS.out, HX.out]
      case measure => simp [intOf]; omega
    · go_wp2
      go_ret
      obtain rfl : j = n := by omega
      exact ⟨s, rfl, HS.out, hch⟩

theorem noughts_any (n : Nat) (w : World) (hn : n ≤ 1000) :
    Calls Try.prog 87 #[.int .i64 n] w fun e w' => ∃ s, e = .returned (.string s) ∧ s.data.toList = zeros n ∧ Ch (fun _ => False) w w' := by
  have hmk := run_make_n (P := Try.prog) 35 5 (.int .u8 0) 1 Try.underlying35 Try.info5 rfl n (by omega) (by omega) w
  rw [made_zeros] at hmk
  have hcv := str_of (bts_cells (w := w.alloc (.cells (bcells (zeros n)).toArray 5)) (l := zeros n) (cs := []) (e := 5) (fz := (0, 0)) (by rw [List.append_nil]; exact heap_new _) n (by rw [zeros_length]; exact Nat.le_refl _))
  rw [zeros_length] at hcv
  obtain ⟨C, HC⟩ : ∃ C, Hid ((bcells (zeros n)).toArray = C) := ⟨_, hid rfl⟩
  obtain ⟨S, HS⟩ : ∃ S, Hid ((⟨(zeros n).toArray⟩ : ByteArray) = S) := ⟨_, hid rfl⟩
  rw [HC.out] at hmk hcv
  rw [HS.out] at hcv
  go_enter Try.func87, Try.ntmps87
  go_wp2
  go_ret
  exact ⟨S, rfl, by rw [← HS.out], (Ch.refl _ _).alloc _⟩

end Go.Proofs.Ytadhibemadgcoaa
