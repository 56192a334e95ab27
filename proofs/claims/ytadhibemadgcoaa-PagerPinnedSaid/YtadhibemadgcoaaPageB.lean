/- The sum of bytes, a blank sector, the equality of bytes: what they do. Conditions: as each theorem says. -/
import Derived.Test.YtadhibemadgcoaaPageA
namespace Go.Proofs.Ytadhibemadgcoaa
open Go.RowKit

theorem Try.info5 : (Try.prog.info? 5).map (fun i => (i.zero, i.size, i.bytes)) = some (some (.int .u8 0), 1, 1) := by kernel_rfl

/-- So many noughts. -/
def zeros (n : Nat) : List UInt8 := List.replicate n 0
theorem zeros_length (n : Nat) : (zeros n).length = n := by simp [zeros]

/-- A new sector's cells. -/
def blankCells : Array Value := (bcells (zeros 512)).toArray
theorem made_zeros (n : Nat) : madeCells #[Value.int .u8 0] n = (bcells (zeros n)).toArray := by
  apply Array.ext'
  simp [madeCells, bcells, zeros, List.map_replicate, List.eq_replicate_iff, Nat.mod_one]
theorem make_blank (w : World) : (Instr.makeSlice 35 (.int .i64 512) (.int .i64 512)).run Try.prog w = .ok (.slice (some ⟨w.heap.size, 0, none⟩) 512 512) (w.alloc (.cells blankCells 5)) := by
  have h := run_make_n (P := Try.prog) 35 5 (.int .u8 0) 1 Try.underlying35 Try.info5 rfl 512 (by omega) (by omega) w
  rw [made_zeros] at h
  exact h

set_option maxHeartbeats 400000 in
theorem blank_any (w : World) :
    Calls Try.prog 83 #[] w fun e w' => ∃ a b, e = .returned (.pointer (some ⟨a, 0, none⟩)) ∧ AtB w' a b (zeros 512) 0 ∧ Ch (fun _ => False) w w' ∧ w.heap.size ≤ a ∧ w.heap.size ≤ b := by
  have hmk := make_blank
  go_enter Try.func83, Try.ntmps83
  go_wp2
  go_ret
  have h1 := heap_new (w := w.alloc (.cells blankCells 5)) (.cells #[.slice (some ⟨w.heap.size, 0, none⟩) 512 512, .int .i64 0] 136)
  simp at h1
  exact ⟨w.heap.size + 1, w.heap.size, rfl, ⟨by simpa using h1, heap_old (heap_new _) _, zeros_length _, by omega⟩, ((Ch.refl _ _).alloc _).alloc _, by omega, by omega⟩

set_option maxHeartbeats 400000 in
theorem sum_any (v : Value) (l : List UInt8) (w : World) (hlen : l.length ≤ 140737488355328) (hv : Bts w v l) :
    Calls Try.prog 29 #[v] w fun e w' => e = .returned (.int .u32 (sumB l : Nat)) ∧ w = w' := by
  rcases hv with ⟨a, c0, rfl, rfl⟩ | ⟨b, off, cap, cs, e, fz, rfl, hcap, hb, hc⟩
  · go_enter Try.func29, Try.ntmps29
    go_wp2
    go_loop [3, 8] (fun x k => x = .int .u32 0 ∧ k = .int .i64 0) (fun _ _ => 0)
    case atStart => exact ⟨rfl, rfl⟩
    case round =>
      obtain ⟨rfl, rfl⟩ := hrel
      go_wp2
      go_ret
      exact ⟨rfl, rfl⟩
  · have HC := hid hc
    have HB := hid hb
    clear hc hb
    go_enter Try.func29, Try.ntmps29
    go_wp2
    go_loop [3, 8] (fun x k => ∃ (j s : Nat), x = .int .u32 (s : Int) ∧ k = .int .i64 (j : Int) ∧ j ≤ l.length ∧ s < 4294967296 ∧ Hid ((s + sumF j (l.drop j)) % 4294967296 = sumB l)) (fun _ k => l.length - (intOf k).toNat)
    case atStart => exact ⟨0, 0, rfl, rfl, by omega, by omega, hid (by simp [sumB])⟩
    case round =>
      obtain ⟨j, s, rfl, rfl, hj, hs, HS⟩ := hrel
      by_cases hlt : j < l.length
      · have hv := cell_blk HB.out (off + j)
        rw [HC.out j hlt] at hv
        have HD := hid (sumF_drop l j j hlt)
        have hc256 : (l[j]).toNat < 256 := (l[j]).toNat_lt
        obtain ⟨c, HCc⟩ : ∃ c : Nat, Hid ((l[j]).toNat = c) := ⟨_, hid rfl⟩
        rw [HCc.out] at hv hc256
        go_wp2
        go_round
        case rel =>
          refine ⟨j + 1, ((s : Nat) + (j + 1) % 4294967296 * c % 4294967296) % 4294967296, by simp only [Int.natCast_emod, Int.natCast_add, Int.natCast_mul]; rfl, by go_num, by omega, by omega, hid ?_⟩
          rw [← HS.out, HD.out, HCc.out]
          rw [Nat.add_mod _ (sumF _ _), Nat.mod_mod, ← Nat.add_mod]
          rw [← Nat.add_assoc, Nat.add_mod _ (sumF _ _), Nat.add_mod ((s + (j + 1) * c)) (sumF _ _)]
          congr 2
          rw [Nat.add_mod s, Nat.add_mod s ((j + 1) * c), Nat.mod_mod, Nat.mul_mod (j + 1), Nat.mul_mod ((j + 1) % 4294967296), Nat.mod_mod]
        case measure => simp [intOf]; omega
      · go_wp2
        go_ret
        obtain rfl : j = l.length := by omega
        have h := HS.out
        simp [sumF] at h
        refine ⟨?_, rfl⟩
        show Ending.returned (.int .u32 (s : Int)) = _
        rw [← h, Nat.mod_eq_of_lt hs]

/-- 'string(b)'. -/
theorem str_of {w : World} {v : Value} {l : List UInt8} (h : Bts w v l) : (convert 35 9 v).run Try.prog w = .ok (.string ⟨l.toArray⟩) w :=
  run_string_bts h 35 5 9 Try.underlying35 Try.underlying5 Try.underlying9

set_option maxHeartbeats 400000 in
theorem equal_any (v1 v2 : Value) (l1 l2 : List UInt8) (w : World) (h1 : Bts w v1 l1) (h2 : Bts w v2 l2) :
    Calls Try.prog 89 #[v1, v2] w fun e w' => e = .returned (.bool (l1 == l2)) ∧ w = w' := by
  have k1 := str_of h1
  have k2 := str_of h2
  go_enter Try.func89, Try.ntmps89
  go_wp2
  go_ret
  exact ⟨rfl, rfl⟩
end Go.Proofs.Ytadhibemadgcoaa
