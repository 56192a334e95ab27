/- Pages: plain laws, and the walks of package page and of the reference. Conditions: as each theorem says. -/
import Derived.Test.YtadhibemadgcoaaBase
import Derived.Test.YtadhibemadgcoaaRows
import Derived.WalkLawsBesides
import Derived.Deep.QuietTactic
import Derived.BigQuiet
import Derived.StillTailTactics
import Derived.Deep.RegionLaw
import Derived.Deep.RegionWith
namespace Go.Proofs.Ytadhibemadgcoaa

section
open Go.RowKit

/-- The n bytes of x, the highest first. -/
def be (x : Nat) : Nat → List UInt8
  | 0 => []
  | n + 1 => UInt8.ofNat (x / 256 ^ n) :: be x n
theorem be_length (x n : Nat) : (be x n).length = n := by
  induction n with
  | zero => rfl
  | succ n ih => simp [be, ih]

theorem byte_of (x m : Nat) : ((x : Int) / 2 ^ (8 * m) % 256) = ((UInt8.ofNat (x / 256 ^ m)).toNat : Int) := by
  have h : (2 : Nat) ^ (8 * m) = 256 ^ m := by rw [Nat.pow_mul]
  have h2 : ((2 : Int) ^ (8 * m)) = ((256 ^ m : Nat) : Int) := by rw [← h]; simp
  rw [h2, UInt8.toNat_ofNat']
  generalize 256 ^ m = p
  rw [show (2 : Nat) ^ 8 = 256 from rfl, Int.natCast_emod, Int.natCast_ediv]
  rfl

/-- Bytes laid into a list from place i on. -/
def putAt : List UInt8 → Nat → List UInt8 → List UInt8
  | l, _, [] => l
  | l, i, b :: bs => putAt (l.set i b) (i + 1) bs
theorem putAt_length (bs : List UInt8) : ∀ (l : List UInt8) (i : Nat), (putAt l i bs).length = l.length := by
  induction bs with
  | nil => intro l i; rfl
  | cons b bs ih => intro l i; simp [putAt, ih]
theorem putAt_eq (bs : List UInt8) : ∀ (l : List UInt8) (i : Nat), i + bs.length ≤ l.length → putAt l i bs = l.take i ++ bs ++ l.drop (i + bs.length) := by
  induction bs with
  | nil => intro l i _; simp [putAt]
  | cons b bs ih =>
    intro l i h
    simp only [List.length_cons] at h
    have hi : i < l.length := by omega
    rw [putAt, ih _ _ (by simp; omega)]
    have h1 : (l.set i b).take (i + 1) = l.take i ++ [b] := by
      rw [List.take_add_one]
      simp [hi, List.take_set_of_le]
    have h2 : (l.set i b).drop (i + 1 + bs.length) = l.drop (i + (bs.length + 1)) := by
      rw [List.drop_set_of_lt (by omega)]
      congr 1; omega
    rw [h1, h2]
    simp

/-- The sum of bytes: each times one more than its place. -/
def sumF : Nat → List UInt8 → Nat
  | _, [] => 0
  | i, c :: cs => (i + 1) * c.toNat + sumF (i + 1) cs
def sumB (l : List UInt8) : Nat := sumF 0 l % 4294967296
theorem sumB_lt (l : List UInt8) : sumB l < 4294967296 := Nat.mod_lt _ (by omega)
theorem sumF_drop (l : List UInt8) (k i : Nat) (h : k < l.length) : sumF i (l.drop k) = (i + 1) * l[k].toNat + sumF (i + 1) (l.drop (k + 1)) := by
  rw [List.drop_eq_getElem_cons h]; rfl

/-- The number of some bytes, the highest first. -/
def rdl (l : List UInt8) : Nat := l.foldl (fun x c => x * 256 + c.toNat) 0
theorem rdl_snoc (l : List UInt8) (c : UInt8) : rdl (l ++ [c]) = rdl l * 256 + c.toNat := by simp [rdl]
theorem take_snoc_at {α : Type} (l : List α) (i j : Nat) (h : i + j < l.length) : (l.drop i).take (j + 1) = (l.drop i).take j ++ [l[i + j]] := by
  rw [List.take_succ_eq_append_getElem (by simp; omega)]
  simp

theorem or_step (z : Int) (c : Nat) (hc : c < 256) : bits .or .i64 (wrap64 (wrap64 z * 256)) (c : Int) = wrap64 (z * 256 + c) := by
  unfold bits
  have h1 : (BitVec.ofInt 64 (wrap64 (wrap64 z * 256))).toNat = 256 * ((z % 72057594037927936).toNat) := by
    rw [BitVec.toNat_ofInt]; unfold wrap64; omega
  have h2 : (BitVec.ofInt 64 (c : Int)).toNat = c := by
    rw [BitVec.toNat_ofInt]; omega
  show IntKind.i64.wrap ((BitVec.ofInt 64 (wrap64 (wrap64 z * 256)) ||| BitVec.ofInt 64 (c : Int)).toNat : Int) = _
  rw [BitVec.toNat_or, h1, h2]
  have h3 := Nat.two_pow_add_eq_or_of_lt (i := 8) (b := c) hc ((z % 72057594037927936).toNat)
  rw [show (2 : Nat) ^ 8 = 256 from rfl] at h3
  rw [← h3, IntKind.wrap_i64]
  unfold wrap64
  omega
end

section
open Go.RowKit

/-- A sector under way: its two cells at block a, its 512 bytes at block b, the place i. -/
def AtB (w : World) (a b : Nat) (l : List UInt8) (i : Nat) : Prop :=
  w.heap[a]? = some (.cells #[.slice (some ⟨b, 0, none⟩) 512 512, .int .i64 (i : Int)] 136 (0, 0)) ∧
  w.heap[b]? = some (.cells (bcells l).toArray 5 (0, 0)) ∧ l.length = 512 ∧ a ≠ b

theorem AtB.frame {w w' : World} {a b : Nat} {l : List UInt8} {i : Nat} (h : AtB w a b l i) (ha : w'.heap[a]? = w.heap[a]?) (hb : w'.heap[b]? = w.heap[b]?) : AtB w' a b l i :=
  ⟨ha.trans h.1, hb.trans h.2.1, h.2.2⟩
theorem AtB.put {w : World} {a b : Nat} {l : List UInt8} {i : Nat} (h : AtB w a b l i) (c : UInt8) (j : Nat) (v : Value) (hv : v = .int .u8 (c.toNat : Int)) : AtB (w.setCell ⟨b, j, none⟩ v) a b (l.set j c) i := by
  obtain ⟨h1, h2, h3, h4⟩ := h
  subst hv
  exact ⟨heap_set_ne h1 h4 _, by rw [heap_set h2, bcells_set], by simp [h3], h4⟩
theorem AtB.go {w : World} {a b : Nat} {l : List UInt8} {i : Nat} (h : AtB w a b l i) (j : Nat) (v : Value) (hv : v = .int .i64 (j : Int)) : AtB (w.setCell ⟨a, 1, none⟩ v) a b l j := by
  obtain ⟨h1, h2, h3, h4⟩ := h
  subst hv
  exact ⟨by rw [heap_set h1]; rfl, heap_set_ne h2 (Ne.symm h4) _, h3, h4⟩

theorem bts_cells {w : World} {b : Nat} {l : List UInt8} {e : TypeId} {fz : Nat × Nat} {cs : List Value} (h : w.heap[b]? = some (.cells (bcells l ++ cs).toArray e fz)) (cap : Nat) (hcap : l.length ≤ cap) : Bts w (.slice (some ⟨b, 0, none⟩) l.length cap) l :=
  .inr ⟨b, 0, cap, _, e, fz, rfl, hcap, h, fun j hj => by
    rw [List.getElem?_toArray, Nat.zero_add, List.getElem?_append_left (by rw [bcells_length]; exact hj)]
    exact bcells_get l j hj⟩
theorem AtB.bts {w : World} {a b : Nat} {l : List UInt8} {i : Nat} (h : AtB w a b l i) : Bts w (.slice (some ⟨b, 0, none⟩) 512 512) l := by
  have := bts_cells (cs := []) (by simpa using h.2.1) 512 (by rw [h.2.2.1]; omega)
  rwa [h.2.2.1] at this

set_option maxHeartbeats 400000 in
theorem number_any (a b : Nat) (l : List UInt8) (i x n : Nat) (w : World) (_hx : x ≤ 4611686018427387904) (hn : n ≤ 8) (hi : i + n ≤ 512) (hA : AtB w a b l i) :
    Calls Try.prog 84 #[.pointer (some ⟨a, 0, none⟩), .int .i64 x, .int .i64 n] w fun e w' =>
      e = .returned (.tuple #[]) ∧ AtB w' a b (putAt l i (be x n)) (i + n) ∧ Ch (fun k => k = a ∨ k = b) w w' := by
  have HA := hid hA
  have hne1 : a ≠ b := hA.2.2.2
  have hne2 : b ≠ a := Ne.symm hne1
  clear hA
  go_enter Try.func84, Try.ntmps84
  go_wp2
  go_loopw [6] (fun v wr => ∃ (m ci : Nat) (lc : List UInt8), v = .int .i64 ((m : Int) - 1) ∧ m ≤ n ∧ Hid (AtB wr a b lc ci) ∧ Hid (ci + m = i + n) ∧ Hid (putAt lc ci (be x m) = putAt l i (be x n)) ∧ Ch (fun k => k = a ∨ k = b) w wr) (fun v _ => (intOf v + 1).toNat)
  case atStart => exact ⟨n, i, l, rfl, Nat.le_refl _, HA, rfl, rfl, Ch.refl _ _⟩
  case round =>
    obtain ⟨m, ci, lc, rfl, hm, HC, HI, HP, hch⟩ := hrel
    have hc0 := cell_blk HC.out.1 0
    have hc1 := cell_blk HC.out.1 1
    have hf1 := frozen_blk HC.out.1 1
    have hv := cell_blk HC.out.2.1 ci
    have hfv := frozen_blk HC.out.2.1 ci
    have hlen := HC.out.2.2.1
    simp at hc0 hc1
    rcases m with _ | m
    · go_wp2
      go_end0
      have e1 := HP.out
      have e2 := HI.out
      simp only [be, putAt] at e1
      refine ⟨rfl, ?_, hch⟩
      rw [← e1]
      have : ci = i + n := by omega
      rw [← this]; exact HC.out
    · have hcl : ci < 512 := by have := HI.out; omega
      obtain ⟨c, hcc⟩ : ∃ c, lc[ci]? = some c := ⟨lc[ci]'(by omega), by simp⟩
      rw [List.getElem?_toArray, bcells, List.getElem?_map, hcc] at hv
      simp at hv
      have HL := hid hlen
      clear hlen hcc
      go_wp2
      go_region
      all_goals go_wp2
      all_goals go_roundw
      case rel =>
        refine ⟨m, ci + 1, lc.set ci (UInt8.ofNat (x / 256 ^ m)), by go_num, by omega, ?_, ?_, HP.out, ?_⟩
        · exact hid (((HC.out.put _ ci _ (by rw [byte_of])).go (ci + 1) _ (by go_num)).frame rfl rfl)
        · have := HI.out; show ci + 1 + m = i + n; omega
        · exact ((hch.setCell (fun _ => .inr rfl) _).setCell (fun _ => .inl rfl) _).drew
      case measure => simp [intOf]

set_option maxHeartbeats 400000 in
theorem take_any (a : Nat) (l : List UInt8) (i n : Nat) (w : World) (b off cap : Nat) (cs : Array Value) (e : TypeId) (fz : Nat × Nat) (hn : n ≤ 8) (hi : i + n ≤ l.length)
    (hlen : l.length ≤ 140737488355328) (hb : w.heap[b]? = some (.cells cs e fz)) (hcs : ∀ j, (h : j < l.length) → cs[off + j]? = some (.int .u8 (l[j].toNat : Int)))
    (ha : w.heap[a]? = some (.cells #[.slice (some ⟨b, off, none⟩) l.length cap, .int .i64 (i : Int)] 136 (0, 0))) (hab : a ≠ b) :
    Calls Try.prog 88 #[.pointer (some ⟨a, 0, none⟩), .int .i64 n] w fun e w' =>
      e = .returned (.int .i64 (wrap64 (rdl ((l.drop i).take n) : Nat))) ∧ Ch (fun k => k = a) w w' ∧
      w'.heap[a]? = some (.cells #[.slice (some ⟨b, off, none⟩) l.length cap, .int .i64 ((i + n : Nat) : Int)] 136 (0, 0)) := by
  have HA := hid ha
  have HB := hid hb
  have HCS := hid hcs
  have hne2 : b ≠ a := Ne.symm hab
  clear ha hb hcs
  go_enter Try.func88, Try.ntmps88
  go_wp2
  go_loopw [5, 7] (fun x k wr => ∃ (j : Nat), Hid (x = .int .i64 (wrap64 (rdl ((l.drop i).take j) : Nat))) ∧ k = .int .i64 j ∧ j ≤ n ∧ Hid (wr.heap[a]? = some (.cells #[.slice (some ⟨b, off, none⟩) l.length cap, .int .i64 ((i + j : Nat) : Int)] 136 (0, 0))) ∧ Hid (wr.heap[b]? = some (.cells cs e fz)) ∧ Ch (fun k => k = a) w wr) (fun _ k _ => n - (intOf k).toNat)
  case atStart => exact ⟨0, hid (by simp [rdl, wrap64]), rfl, by omega, HA, HB, Ch.refl _ _⟩
  case round =>
    obtain ⟨j, HX, rfl, hj, HC, HB2, hch⟩ := hrel
    have hc0 := cell_blk HC.out 0
    have hc1 := cell_blk HC.out 1
    have hf1 := frozen_blk HC.out 1
    have hv := cell_blk HB2.out (off + (i + j))
    simp at hc0 hc1
    by_cases hlt : j < n
    · rw [HCS.out (i + j) (by omega)] at hv
      have hil : i + j < l.length := by omega
      have HS := hid (take_snoc_at l i j hil)
      have hc256 : (l[i + j]).toNat < 256 := (l[i + j]).toNat_lt
      have HC256 := hid hc256
      obtain ⟨c, HCc⟩ : ∃ c : Nat, Hid ((l[i + j]).toNat = c) := ⟨_, hid rfl⟩
      rw [HCc.out] at hv hc256
      obtain ⟨z, HZ⟩ : ∃ z : Nat, Hid (rdl ((l.drop i).take j) = z) := ⟨_, hid rfl⟩
      rw [HZ.out] at HX
      have HX := HX.out
      subst HX
      go_wp2
      go_region
      all_goals go_wp2
      all_goals go_roundw
      case rel =>
        refine ⟨j + 1, hid ?_, by go_num, by omega, hid ?_, hid (heap_set_ne HB2.out hne2 _), (hch.setCell (fun _ => rfl) _).drew⟩
        · rw [or_step _ _ hc256, HS.out, rdl_snoc, HZ.out, HCc.out]; congr 2
        · show (wr.setCell ⟨a, 1, none⟩ _).heap[a]? = _
          rw [heap_set HC.out]
          simp
          omega
      case measure => simp [intOf]; omega
    · have HX := HX.out
      subst HX
      go_wp2
      go_ret
      obtain rfl : j = n := by omega
      exact ⟨rfl, hch, HC.out⟩

set_option maxHeartbeats 400000 in
theorem text_any (a b : Nat) (l : List UInt8) (i : Nat) (s : ByteArray) (w : World) (hi : i + s.size ≤ 512) (hi2 : i < 512) (hA : AtB w a b l i) :
    Calls Try.prog 85 #[.pointer (some ⟨a, 0, none⟩), .string s] w fun e w' =>
      e = .returned (.tuple #[]) ∧ AtB w' a b (putAt l i s.data.toList) (i + s.size) ∧ Ch (fun k => k = a ∨ k = b) w w' := by
  have HA := hid hA
  have hne1 : a ≠ b := hA.2.2.2
  have hne2 : b ≠ a := Ne.symm hne1
  have hc0 := cell_blk hA.1 0
  have hc1 := cell_blk hA.1 1
  have hf1 := frozen_blk hA.1 1
  simp at hc0 hc1
  clear hA
  have hi3 : (i : Int) ≤ 512 := by omega
  have hi4 : ¬ 512 = i := by omega
  go_enter Try.func85, Try.ntmps85
  go_wp2
  go_region_law (refine step_copy_run rfl _ _ _ _ rfl _ _ (run_copy_str (P := Try.prog) _ _ _ _ 5 b i (512 - i) (512 - i) s l 5 Try.underlying35 (by kernel_rfl) HA.out.2.1 (by omega) (by have := HA.out.2.2.1; omega)) ?_)
  all_goals go_wp2
  all_goals go_end0
  all_goals
    refine ⟨rfl, ?_, (((Ch.refl _ w).drew.setRow (fun _ => .inr rfl) _).setCell (fun _ => .inl rfl) _)⟩
    have hA := HA.out
    refine AtB.go (l := putAt l i s.data.toList) (i := i) ⟨?_, ?_, ?_, hne1⟩ _ _ ?_
    · rw [heap_setRow_ne hne1]; exact hA.1
    · rw [setRow_heap w.drew b (bcells l).toArray _ 5 (0, 0) hA.2.1, putAt_eq _ _ _ (by rw [hA.2.2.1]; exact hi)]
      simp
    · rw [putAt_length]; exact hA.2.2.1
    · rw [wrap_id (by omega) (by omega), Int.natCast_add]
end

section
open Go.RowKit

theorem Try.info5 : (Try.prog.info? 5).map (fun i => (i.zero, i.size, i.bytes)) = some (some (.int .u8 0), 1, 1) := by kernel_rfl

/-- So many noughts. -/
def zeros (n : Nat) : List UInt8 := List.replicate n 0
theorem zeros_length (n : Nat) : (zeros n).length = n := by simp [zeros]

/-- A new sector's cells. -/
def blankCells : Array Value := (bcells (zeros 512)).toArray
theorem made_zeros (n : Nat) : madeCells #[Value.int .u8 0] n = (bcells (zeros n)).toArray := by
  apply Array.ext'
  simp [madeCells, bcells, zeros, List.map_replicate, List.eq_replicate_iff, Nat.mod_one]
theorem make_blank (w : World) : (Instr.makeSlice 35 (.int .i64 512) (.int .i64 512)).run Try.prog w = .ok (.slice (some ⟨w.heap.size, 0, none⟩) 512 512) (w.alloc (.cells blankCells 5)) := by
  have h := run_make_n (P := Try.prog) 35 5 (.int .u8 0) 1 Try.underlying35 Try.info5 rfl 512 (by omega) (by omega) w
  rw [made_zeros] at h
  exact h

set_option maxHeartbeats 400000 in
theorem blank_any (w : World) :
    Calls Try.prog 83 #[] w fun e w' => ∃ a b, e = .returned (.pointer (some ⟨a, 0, none⟩)) ∧ AtB w' a b (zeros 512) 0 ∧ Ch (fun _ => False) w w' ∧ w.heap.size ≤ a ∧ w.heap.size ≤ b := by
  have hmk := make_blank
  go_enter Try.func83, Try.ntmps83
  go_wp2
  go_ret
  have h1 := heap_new (w := w.alloc (.cells blankCells 5)) (.cells #[.slice (some ⟨w.heap.size, 0, none⟩) 512 512, .int .i64 0] 136)
  simp at h1
  exact ⟨w.heap.size + 1, w.heap.size, rfl, ⟨by simpa using h1, heap_old (heap_new _) _, zeros_length _, by omega⟩, ((Ch.refl _ _).alloc _).alloc _, by omega, by omega⟩

set_option maxHeartbeats 400000 in
theorem sum_any (v : Value) (l : List UInt8) (w : World) (hlen : l.length ≤ 140737488355328) (hv : Bts w v l) :
    Calls Try.prog 29 #[v] w fun e w' => e = .returned (.int .u32 (sumB l : Nat)) ∧ w = w' := by
  rcases hv with ⟨a, c0, rfl, rfl⟩ | ⟨b, off, cap, cs, e, fz, rfl, hcap, hb, hc⟩
  · go_enter Try.func29, Try.ntmps29
    go_wp2
    go_loop [3, 8] (fun x k => x = .int .u32 0 ∧ k = .int .i64 0) (fun _ _ => 0)
    case atStart => exact ⟨rfl, rfl⟩
    case round =>
      obtain ⟨rfl, rfl⟩ := hrel
      go_wp2
      go_ret
      exact ⟨rfl, rfl⟩
  · have HC := hid hc
    have HB := hid hb
    clear hc hb
    go_enter Try.func29, Try.ntmps29
    go_wp2
    go_loop [3, 8] (fun x k => ∃ (j s : Nat), x = .int .u32 (s : Int) ∧ k = .int .i64 (j : Int) ∧ j ≤ l.length ∧ s < 4294967296 ∧ Hid ((s + sumF j (l.drop j)) % 4294967296 = sumB l)) (fun _ k => l.length - (intOf k).toNat)
    case atStart => exact ⟨0, 0, rfl, rfl, by omega, by omega, hid (by simp [sumB])⟩
    case round =>
      obtain ⟨j, s, rfl, rfl, hj, hs, HS⟩ := hrel
      by_cases hlt : j < l.length
      · have hv := cell_blk HB.out (off + j)
        rw [HC.out j hlt] at hv
        have HD := hid (sumF_drop l j j hlt)
        have hc256 : (l[j]).toNat < 256 := (l[j]).toNat_lt
        obtain ⟨c, HCc⟩ : ∃ c : Nat, Hid ((l[j]).toNat = c) := ⟨_, hid rfl⟩
        rw [HCc.out] at hv hc256
        go_wp2
        go_round
        case rel =>
          refine ⟨j + 1, ((s : Nat) + (j + 1) % 4294967296 * c % 4294967296) % 4294967296, by simp only [Int.natCast_emod, Int.natCast_add, Int.natCast_mul]; rfl, by go_num, by omega, by omega, hid ?_⟩
          rw [← HS.out, HD.out, HCc.out]
          rw [Nat.add_mod _ (sumF _ _), Nat.mod_mod, ← Nat.add_mod]
          rw [← Nat.add_assoc, Nat.add_mod _ (sumF _ _), Nat.add_mod ((s + (j + 1) * c)) (sumF _ _)]
          congr 2
          rw [Nat.add_mod s, Nat.add_mod s ((j + 1) * c), Nat.mod_mod, Nat.mul_mod (j + 1), Nat.mul_mod ((j + 1) % 4294967296), Nat.mod_mod]
        case measure => simp [intOf]; omega
      · go_wp2
        go_ret
        obtain rfl : j = l.length := by omega
        have h := HS.out
        simp [sumF] at h
        refine ⟨?_, rfl⟩
        show Ending.returned (.int .u32 (s : Int)) = _
        rw [← h, Nat.mod_eq_of_lt hs]

/-- 'string(b)'. -/
theorem str_of {w : World} {v : Value} {l : List UInt8} (h : Bts w v l) : (convert 35 9 v).run Try.prog w = .ok (.string ⟨l.toArray⟩) w :=
  run_string_bts h 35 5 9 Try.underlying35 Try.underlying5 Try.underlying9

set_option maxHeartbeats 400000 in
theorem equal_any (v1 v2 : Value) (l1 l2 : List UInt8) (w : World) (h1 : Bts w v1 l1) (h2 : Bts w v2 l2) :
    Calls Try.prog 89 #[v1, v2] w fun e w' => e = .returned (.bool (l1 == l2)) ∧ w = w' := by
  have k1 := str_of h1
  have k2 := str_of h2
  go_enter Try.func89, Try.ntmps89
  go_wp2
  go_ret
  exact ⟨rfl, rfl⟩
end

section
open Go.RowKit

/-- A page's sector ahead of its sum, and with it. -/
def seal0 (kind gen : Nat) (s : List UInt8) : List UInt8 :=
  putAt (putAt (putAt (putAt (putAt (putAt (zeros 512) 0 (be 18550 2)) 2 (be kind 1)) 3 (be 0 1)) 4 (be s.length 2)) 6 (be gen 6)) 20 s
def sealB (kind gen : Nat) (s : List UInt8) : List UInt8 := putAt (seal0 kind gen s) 12 (be (sumB (seal0 kind gen s)) 4)

set_option maxHeartbeats 1000000 in
theorem seal_ok (kind gen : Nat) (s : ByteArray) (w : World) (hk : kind ≤ 255) (hg : gen ≤ 281474976710655) (hs : s.size ≤ 492) :
    Calls Try.prog 31 #[.int .i64 kind, .int .i64 gen, .string s] w fun e w' => ∃ b, e = .returned (.tuple #[.slice (some ⟨b, 0, none⟩) 512 512, .int .i64 0]) ∧
      w'.heap[b]? = some (.cells (bcells (sealB kind gen s.data.toList)).toArray 5 (0, 0)) ∧ Ch (fun _ => False) w w' ∧ w.heap.size ≤ b := by
  go_enter Try.func31, Try.ntmps31
  go_wp2_with fail
  refine (blank_any _).mono ?_
  rintro e w1 ⟨a, b, rfl, hA1, hch1, ha, hb⟩
  have HA1 := hid hA1
  clear hA1
  go_wp2_with fail
  refine (number_any a b _ _ 18550 2 _ (by omega) (by omega) (by omega) HA1.out).mono ?_
  rintro e w2 ⟨rfl, hA2, hch2⟩
  have HA2 := hid hA2
  clear hA2
  go_wp2_with fail
  refine (number_any a b _ _ kind 1 _ (by omega) (by omega) (by omega) HA2.out).mono ?_
  rintro e w3 ⟨rfl, hA3, hch3⟩
  have HA3 := hid hA3
  clear hA3
  go_wp2_with fail
  refine (number_any a b _ _ 0 1 _ (by omega) (by omega) (by omega) HA3.out).mono ?_
  rintro e w4 ⟨rfl, hA4, hch4⟩
  have HA4 := hid hA4
  clear hA4
  go_wp2_with fail
  refine (number_any a b _ _ s.size 2 _ (by omega) (by omega) (by omega) HA4.out).mono ?_
  rintro e w5 ⟨rfl, hA5, hch5⟩
  have HA5 := hid hA5
  clear hA5
  go_wp2_with fail
  refine (number_any a b _ _ gen 6 _ (by omega) (by omega) (by omega) HA5.out).mono ?_
  rintro e w6 ⟨rfl, hA6, hch6⟩
  have HA6 := hid hA6
  have h1 := cell_blk hA6.1 1
  have hf1 := frozen_blk hA6.1 1
  simp at h1
  clear hA6
  go_wp2_with fail
  refine (text_any a b _ 20 s _ (by omega) (by omega) (HA6.out.go 20 _ rfl)).mono ?_
  rintro e w7 ⟨rfl, hA7, hch7⟩
  have HA7 := hid hA7
  have h1 := cell_blk hA7.1 1
  have hf1 := frozen_blk hA7.1 1
  simp at h1
  have HA8 := hid (hA7.go 12 _ rfl)
  have hch8 : Ch (fun k => k = a ∨ k = b) w7 (w7.setCell ⟨a, 1, none⟩ (.int .i64 12)) := (Ch.refl _ _).setCell (fun _ => .inl rfl) _
  clear hA7
  go_wp2_with fail
  have h0 := cell_blk HA8.out.1 0
  simp at h0
  clear h1 hf1
  generalize HW : w7.setCell ⟨a, 1, none⟩ (.int .i64 12) = w8 at *
  clear HW
  have HB := hid (AtB.bts (HA8.out.frame (w' := w8.drew) rfl rfl))
  have hlen : (seal0 kind gen s.data.toList).length ≤ 140737488355328 := by unfold seal0; simp [putAt_length, zeros_length]
  have hsum := sumB_lt (seal0 kind gen s.data.toList)
  have HE : Hid (putAt (putAt (putAt (putAt (putAt (putAt (zeros 512) 0 (be 18550 2)) 2 (be kind 1)) 3 (be 0 1)) 4 (be s.size 2)) 6 (be gen 6)) 20 s.data.toList = seal0 kind gen s.data.toList) := hid rfl
  simp only [Nat.zero_add, Nat.reduceAdd] at HA8 HB
  rw [HE.out] at HA8 HB
  obtain ⟨L, HL⟩ : ∃ L, Hid (seal0 kind gen s.data.toList = L) := ⟨_, hid rfl⟩
  rw [HL.out] at HA8 HB hlen hsum
  obtain ⟨S, HS⟩ : ∃ S, Hid (sumB L = S) := ⟨_, hid rfl⟩
  rw [HS.out] at hsum
  have hsm := sum_any (.slice (some ⟨b, 0, none⟩) 512 512) L w8.drew hlen HB.out
  rw [HS.out] at hsm
  have HSM := hid hsm
  clear hsm
  have HN := hid (number_any a b L 12 S 4 w8.drew (by omega) (by omega) (by omega) (HA8.out.frame (w' := w8.drew) rfl rfl))
  have hwr : IntKind.i64.wrap (S : Int) = (S : Int) := wrap_id (by omega) (by omega)
  go_region_with (first | (go_at_call 29; refine HSM.out.mono ?_; rintro e w' ⟨rfl, rfl⟩) | (go_at_call 84; refine HN.out.mono ?_; rintro e w9 ⟨rfl, hA9, hch9⟩))
  have h9 := cell_blk hA9.1 0
  simp at h9
  have HA9 := hid hA9
  clear hA9 h0 hwr
  go_wp2
  go_ret2
  refine ⟨b, rfl, ?_, ?_, hb⟩
  · rw [HA9.out.2.1, ← HS.out, ← HL.out]; rfl
  · have hn : ∀ k, k < w.heap.size → (k = a ∨ k = b) → False := by intro k hk h; omega
    have c7 := ((((((hch1.then hch2 hn).then hch3 hn).then hch4 hn).then hch5 hn).then hch6 hn).setCell (p := ⟨a, 1, none⟩) (fun h => by simp at h; omega) (.int .i64 20)).then hch7 hn
    exact ((c7.then hch8 hn).drew).then hch9 hn

set_option maxHeartbeats 400000 in
theorem seal_bad (kind gen : Int) (s : ByteArray) (w : World) (h : kind < 0 ∨ 255 < kind ∨ gen < 0 ∨ 281474976710655 < gen) :
    Calls Try.prog 31 #[.int .i64 kind, .int .i64 gen, .string s] w fun e w' => e = .returned (.tuple #[.slice none 0 0, .int .i64 2]) ∧ w = w' := by
  by_cases h1 : kind < 0
  · clear h
    go_enter Try.func31, Try.ntmps31
    go_wp2
    go_ret2
    exact ⟨rfl, rfl⟩
  · by_cases h2 : 255 < kind
    · clear h
      go_enter Try.func31, Try.ntmps31
      go_wp2
      go_ret2
      exact ⟨rfl, rfl⟩
    · by_cases h3 : gen < 0
      · clear h
        go_enter Try.func31, Try.ntmps31
        go_wp2
        go_ret2
        exact ⟨rfl, rfl⟩
      · have h4 : 281474976710655 < gen := by omega
        clear h
        go_enter Try.func31, Try.ntmps31
        go_wp2
        go_ret2
        exact ⟨rfl, rfl⟩

theorem seal_long (kind gen : Nat) (s : ByteArray) (w : World) (hk : kind ≤ 255) (hg : gen ≤ 281474976710655) (hs : 492 < s.size) :
    Calls Try.prog 31 #[.int .i64 kind, .int .i64 gen, .string s] w fun e w' => e = .returned (.tuple #[.slice none 0 0, .int .i64 4]) ∧ w = w' := by
  go_enter Try.func31, Try.ntmps31
  go_wp2
  go_ret2
  exact ⟨rfl, rfl⟩

/-- A root's sector. -/
def rootB (gen : Nat) (s : List UInt8) : List UInt8 :=
  putAt (putAt (putAt (putAt (zeros 512) 0 (be gen 8)) 8 (be s.length 2)) 10 s) 504 (be gen 8)

set_option maxHeartbeats 1000000 in
theorem root_ok (gen : Nat) (s : ByteArray) (w : World) (h1g : 1 ≤ gen) (hg : gen ≤ 4611686018427387904) (hs : s.size ≤ 490) :
    Calls Try.prog 33 #[.int .i64 gen, .string s] w fun e w' => ∃ b, e = .returned (.tuple #[.slice (some ⟨b, 0, none⟩) 512 512, .int .i64 0]) ∧
      w'.heap[b]? = some (.cells (bcells (rootB gen s.data.toList)).toArray 5 (0, 0)) ∧ Ch (fun _ => False) w w' ∧ w.heap.size ≤ b := by
  go_enter Try.func33, Try.ntmps33
  go_wp2_with fail
  refine (blank_any _).mono ?_
  rintro e w1 ⟨a, b, rfl, hA1, hch1, ha, hb⟩
  have HA1 := hid hA1
  clear hA1
  go_wp2_with fail
  refine (number_any a b _ _ gen 8 _ (by omega) (by omega) (by omega) HA1.out).mono ?_
  rintro e w2 ⟨rfl, hA2, hch2⟩
  have HA2 := hid hA2
  clear hA2
  go_wp2_with fail
  refine (number_any a b _ _ s.size 2 _ (by omega) (by omega) (by omega) HA2.out).mono ?_
  rintro e w3 ⟨rfl, hA3, hch3⟩
  have HA3 := hid hA3
  clear hA3
  go_wp2_with fail
  refine (text_any a b _ 10 s _ (by omega) (by omega) HA3.out).mono ?_
  rintro e w4 ⟨rfl, hA4, hch4⟩
  have HA4 := hid hA4
  have h1 := cell_blk hA4.1 1
  have hf1 := frozen_blk hA4.1 1
  simp at h1
  clear hA4
  go_wp2_with fail
  refine (number_any a b _ 504 gen 8 _ (by omega) (by omega) (by omega) (HA4.out.go 504 _ rfl)).mono ?_
  rintro e w5 ⟨rfl, hA5, hch5⟩
  have h9 := cell_blk hA5.1 0
  simp at h9
  have HA5 := hid hA5
  clear hA5
  go_wp2
  go_ret2
  refine ⟨b, rfl, ?_, ?_, hb⟩
  · rw [HA5.out.2.1]; rfl
  · have hn : ∀ k, k < w.heap.size → (k = a ∨ k = b) → False := by intro k hk h; omega
    exact (((((hch1.then hch2 hn).then hch3 hn).then hch4 hn).setCell (p := ⟨a, 1, none⟩) (fun h => by simp at h; omega) (.int .i64 504)).then hch5 hn)

theorem root_bad (gen : Int) (s : ByteArray) (w : World) (h : gen < 1 ∨ 4611686018427387904 < gen) :
    Calls Try.prog 33 #[.int .i64 gen, .string s] w fun e w' => e = .returned (.tuple #[.slice none 0 0, .int .i64 2]) ∧ w = w' := by
  by_cases h1 : gen < 1
  · clear h
    go_enter Try.func33, Try.ntmps33
    go_wp2
    go_ret2
    exact ⟨rfl, rfl⟩
  · have h2 : 4611686018427387904 < gen := by omega
    clear h
    go_enter Try.func33, Try.ntmps33
    go_wp2
    go_ret2
    exact ⟨rfl, rfl⟩

theorem root_long (gen : Nat) (s : ByteArray) (w : World) (h1g : 1 ≤ gen) (hg : gen ≤ 4611686018427387904) (hs : 490 < s.size) :
    Calls Try.prog 33 #[.int .i64 gen, .string s] w fun e w' => e = .returned (.tuple #[.slice none 0 0, .int .i64 4]) ∧ w = w' := by
  go_enter Try.func33, Try.ntmps33
  go_wp2
  go_ret2
  exact ⟨rfl, rfl⟩
end

section
open Go.RowKit

/-- A sector that is read: its two cells at block a, its bytes at block b. -/
def Tk (w : World) (a b off cap : Nat) (l : List UInt8) (i : Nat) : Prop :=
  ∃ cs e fz, w.heap[a]? = some (.cells #[.slice (some ⟨b, off, none⟩) l.length cap, .int .i64 (i : Int)] 136 (0, 0)) ∧ w.heap[b]? = some (.cells cs e fz) ∧
    (∀ j, (h : j < l.length) → cs[off + j]? = some (.int .u8 (l[j].toNat : Int))) ∧ a ≠ b
theorem Tk.frame {w w' : World} {a b off cap : Nat} {l : List UInt8} {i : Nat} (h : Tk w a b off cap l i) (ha : w'.heap[a]? = w.heap[a]?) (hb : w'.heap[b]? = w.heap[b]?) : Tk w' a b off cap l i := by
  obtain ⟨cs, e, fz, h1, h2, h3, h4⟩ := h
  exact ⟨cs, e, fz, ha.trans h1, hb.trans h2, h3, h4⟩
theorem take_tk (m z : Int) (a b off cap : Nat) (l : List UInt8) (i n : Nat) (w : World) (hm : m = (n : Int)) (hn : n ≤ 8) (hi : i + n ≤ l.length) (hlen : l.length ≤ 140737488355328) (hT : Tk w a b off cap l i) (hz : wrap64 (rdl ((l.drop i).take n) : Nat) = z) :
    Calls Try.prog 88 #[.pointer (some ⟨a, 0, none⟩), .int .i64 m] w fun e w' =>
      e = .returned (.int .i64 z) ∧ Tk w' a b off cap l (i + n) ∧ Ch (fun k => k = a) w w' := by
  subst hm
  subst hz
  obtain ⟨cs, e, fz, h1, h2, h3, h4⟩ := hT
  refine (take_any a l i n w b off cap cs e fz hn hi hlen h2 h3 h1 h4).mono ?_
  rintro e w' ⟨rfl, hch, hh⟩
  exact ⟨rfl, ⟨cs, _, fz, hh, hch.keep h2 (Ne.symm h4), h3, h4⟩, hch⟩

theorem rdl_lt (l : List UInt8) : rdl l < 256 ^ l.length := by
  suffices h : ∀ (l : List UInt8) (x n : Nat), x < 256 ^ n → l.foldl (fun x c => x * 256 + c.toNat) x < 256 ^ (n + l.length) by simpa [rdl] using h l 0 0 (by simp)
  intro l
  induction l with
  | nil => intro x n h; simpa using h
  | cons c cs ih =>
    intro x n h
    have := ih (x * 256 + c.toNat) (n + 1) (by have := c.toNat_lt; rw [Nat.pow_succ]; omega)
    simpa [Nat.add_assoc, Nat.add_comm 1] using this
theorem rdl_take_lt (l : List UInt8) (i n : Nat) : rdl ((l.drop i).take n) < 256 ^ n := by
  refine Nat.lt_of_lt_of_le (rdl_lt _) (Nat.pow_le_pow_right (by omega) ?_)
  simp; omega

/-- What a page's sector holds. -/
def openL (l : List UInt8) : Option (Nat × Nat × List UInt8) :=
  if l.length = 512 ∧ rdl ((l.drop 4).take 2) ≤ 492 ∧ sealB (rdl ((l.drop 2).take 1)) (rdl ((l.drop 6).take 6)) ((l.drop 20).take (rdl ((l.drop 4).take 2))) = l
  then some (rdl ((l.drop 2).take 1), rdl ((l.drop 6).take 6), (l.drop 20).take (rdl ((l.drop 4).take 2))) else none
def openV : Option (Nat × Nat × List UInt8) → Value
  | some (k, g, s) => .tuple #[.int .i64 (k : Int), .int .i64 (g : Int), .string ⟨s.toArray⟩, .int .i64 0]
  | none => .tuple #[.int .i64 0, .int .i64 0, .string ⟨#[]⟩, .int .i64 11]

set_option maxHeartbeats 400000 in
theorem open_short (v : Value) (l : List UInt8) (w : World) (hlen : l.length ≤ 140737488355328) (h : l.length ≠ 512) (hv : Bts w v l) :
    Calls Try.prog 36 #[v] w fun e w' => e = .returned (openV none) ∧ w = w' := by
  rcases hv with ⟨a, c0, rfl, rfl⟩ | ⟨b, off, cap, cs, e, fz, rfl, hcap, hb, hc⟩
  · go_enter Try.func36, Try.ntmps36
    go_wp2
    exact bodyPost_ret (v := openV none) (by simp [results, Try.results36, go_sem, openV]) rfl ⟨rfl, rfl⟩
  · clear hb hc
    have hn : ((l.length : Int) != 512) = true := by rw [bne_iff_ne]; omega
    clear h
    go_enter Try.func36, Try.ntmps36
    go_wp2
    exact bodyPost_ret (v := openV none) (by simp [results, Try.results36, go_sem, openV]) rfl ⟨rfl, rfl⟩

set_option maxRecDepth 100000 in
set_option maxHeartbeats 1000000 in
theorem open_full (v : Value) (l : List UInt8) (w : World) (h : l.length = 512) (hv : Bts w v l) :
    Calls Try.prog 36 #[v] w fun e w' => e = .returned (openV (openL l)) ∧ Ch (fun _ => False) w w' := by
  rcases hv with ⟨a, c0, rfl, rfl⟩ | ⟨b, off, cap, cs, e, fz, rfl, hcap, hb, hc⟩
  · simp at h
  · have HB := hid hb
    have HC := hid hc
    have hblt := blk_lt hb
    have hne : w.heap.size ≠ b := by omega
    have H := hid h
    rw [h] at hcap
    clear hb hc h
    rw [H.out]
    go_enter Try.func36, Try.ntmps36
    go_wp2_with fail
    obtain ⟨kind, HK⟩ : ∃ k, Hid (rdl ((l.drop 2).take 1) = k) := ⟨_, hid rfl⟩
    obtain ⟨n, HN⟩ : ∃ k, Hid (rdl ((l.drop 4).take 2) = k) := ⟨_, hid rfl⟩
    obtain ⟨gen, HG⟩ : ∃ k, Hid (rdl ((l.drop 6).take 6) = k) := ⟨_, hid rfl⟩
    have hk : kind < 256 := by have := rdl_take_lt l 2 1; rw [HK.out] at this; omega
    have hn : n < 65536 := by have := rdl_take_lt l 4 2; rw [HN.out] at this; omega
    have hg : gen < 281474976710656 := by have := rdl_take_lt l 6 6; rw [HG.out] at this; omega
    have HT0 : Hid (Tk (w.alloc (.cells #[.slice (some ⟨b, off, none⟩) 512 cap, .int .i64 2] 136)) w.heap.size b off cap l 2) := hid ⟨cs, _, fz, by rw [heap_new, H.out]; rfl, heap_old HB.out _, HC.out, hne⟩
    have hch0 : Ch (fun _ => False) w (w.alloc (.cells #[.slice (some ⟨b, off, none⟩) 512 cap, .int .i64 2] 136)) := (Ch.refl _ _).alloc _
    refine (take_tk 1 kind w.heap.size b off cap l 2 1 _ rfl (by omega) (by rw [H.out]; omega) (by rw [H.out]; omega) HT0.out (by rw [HK.out, wrap64_id (by omega) (by omega)])).mono ?_
    rintro e w1 ⟨rfl, hT1, hch1⟩
    have HT1 := hid hT1
    clear hT1
    go_wp2_with fail
    refine (take_tk 1 _ w.heap.size b off cap l _ 1 _ rfl (by omega) (by rw [H.out]; omega) (by rw [H.out]; omega) HT1.out rfl).mono ?_
    rintro e w2 ⟨rfl, hT2, hch2⟩
    have HT2 := hid hT2
    clear hT2
    go_wp2_with fail
    have HQ := hid (take_tk 2 n w.heap.size b off cap l 4 2 w2.drew rfl (by omega) (by rw [H.out]; omega) (by rw [H.out]; omega) (HT2.out.frame (w' := w2.drew) rfl rfl) (by rw [HN.out, wrap64_id (by omega) (by omega)]))
    have HG6 : Hid (wrap64 (rdl ((l.drop 6).take 6) : Nat) = (gen : Int)) := hid (by rw [HG.out, wrap64_id (by omega) (by omega)])
    go_region_with (first | (go_at_call 88; (with_reducible refine HQ.out.mono ?_); rintro e w3 ⟨rfl, hT3, hch3⟩; have HT3 := hid hT3; clear hT3) | (go_at_call 88; refine (take_tk 6 gen w.heap.size b off cap l 6 6 _ rfl (by omega) (by rw [H.out]; omega) (by rw [H.out]; omega) HT3.out HG6.out).mono ?_; rintro e w4 ⟨rfl, hT4, hch4⟩; have HT4 := hid hT4; clear hT4))
    have hch : Ch (fun _ => False) w w4 := by
      have hx : ∀ k, k < w.heap.size → k = w.heap.size → False := by intro k h1 h2; omega
      exact ((((hch0.then hch1 hx).then hch2 hx).drew.then hch3 hx).then hch4 hx)
    have HCH := hid hch
    have hb4 := hid (HT4.out)
    clear hch hch0 hch1 hch2 hch3 hch4 HT0 HT1 HT2 HT3 HQ HG6
    by_cases hn2 : n ≤ 492
    · have hbts : Bts w4 (.slice (some ⟨b, off + 20, none⟩) n (cap - 20)) ((l.drop 20).take n) := by
        obtain ⟨cs4, e4, fz4, h1, h2, h3, h4⟩ := HT4.out
        have hl : ((l.drop 20).take n).length = n := by simp [H.out]; omega
        refine .inr ⟨b, off + 20, cap - 20, cs4, e4, fz4, by rw [hl], by omega, h2, fun j hj => ?_⟩
        rw [hl] at hj
        rw [Nat.add_assoc, h3 (20 + j) (by rw [H.out]; omega)]
        simp
      obtain ⟨s, HS⟩ : ∃ s, Hid ((l.drop 20).take n = s) := ⟨_, hid rfl⟩
      have hsl : s.length ≤ 492 := by rw [← HS.out]; simp; omega
      rw [HS.out] at hbts
      have hstr := str_of hbts
      clear hbts hb4
      have hc20 : ¬ cap = 20 := by omega
      go_wp2_with fail
      refine (seal_ok kind gen ⟨s.toArray⟩ _ (by omega) (by omega) (by simpa [ByteArray.size] using hsl)).mono ?_
      rintro e w5 ⟨ob, rfl, hob, hch5, hob2⟩
      have hq1 : Bts w5 (.slice (some ⟨ob, 0, none⟩) 512 512) (sealB kind gen s) := by
        have := bts_cells (cs := []) (by simpa using hob) 512 (by unfold sealB seal0; simp [putAt_length, zeros_length])
        rwa [show (sealB kind gen s).length = 512 by unfold sealB seal0; simp [putAt_length, zeros_length]] at this
      have hq2 : Bts w5 (.slice (some ⟨b, off, none⟩) 512 cap) l := by
        obtain ⟨cs4, e4, fz4, h1, h2, h3, h4⟩ := HT4.out
        exact .inr ⟨b, off, cap, cs4, e4, fz4, by rw [H.out], by rw [H.out]; exact hcap, hch5.keep h2 (fun h => h), h3⟩
      have HQ := hid (equal_any _ _ _ _ w5 hq1 hq2)
      have HCH5 := hid (HCH.out.trans hch5)
      clear hq1 hq2 hch5 hob hstr
      go_wp2_with fail
      refine HQ.out.mono ?_
      rintro e w6 ⟨rfl, rfl⟩
      by_cases hq : sealB kind gen s = l
      · have hqb : (sealB kind gen s == l) = true := by rw [hq]; exact beq_self_eq_true _
        have HO : Hid (openL l = some (kind, gen, s)) := hid (by rw [openL, if_pos ⟨H.out, by rw [HN.out]; exact hn2, by rw [HK.out, HN.out, HG.out, HS.out]; exact hq⟩, HK.out, HN.out, HG.out, HS.out])
        clear hq
        go_wp2
        exact bodyPost_ret (v := openV (some (kind, gen, s))) (by simp [results, Try.results36, go_sem, openV]) rfl ⟨by rw [HO.out], HCH5.out⟩
      · have hqb : (sealB kind gen s == l) = false := by simpa using hq
        have HO : Hid (openL l = none) := hid (by rw [openL, if_neg (by rw [HK.out, HN.out, HG.out, HS.out]; exact fun h => hq h.2.2)])
        clear hq
        go_wp2
        exact bodyPost_ret (v := openV none) (by simp [results, Try.results36, go_sem, openV]) rfl ⟨by rw [HO.out], HCH5.out⟩
    · go_wp2
      exact bodyPost_ret (v := openV none) (by simp [results, Try.results36, go_sem, openV]) rfl ⟨by rw [openL, if_neg (by rw [HN.out]; omega)], HCH.out⟩
end

section
open Go.RowKit

/-- What a root's sector holds. -/
def rootL (l : List UInt8) : Option (Nat × List UInt8) :=
  if l.length = 512 ∧ rdl ((l.drop 8).take 2) ≤ 490 ∧ (1 ≤ rdl (l.take 8) ∧ rdl (l.take 8) ≤ 4611686018427387904) ∧ rootB (rdl (l.take 8)) ((l.drop 10).take (rdl ((l.drop 8).take 2))) = l
  then some (rdl (l.take 8), (l.drop 10).take (rdl ((l.drop 8).take 2))) else none
def rootV : Option (Nat × List UInt8) → Value
  | some (g, s) => .tuple #[.int .i64 (g : Int), .string ⟨s.toArray⟩, .int .i64 0]
  | none => .tuple #[.int .i64 0, .string ⟨#[]⟩, .int .i64 11]

set_option maxHeartbeats 400000 in
theorem rootopen_short (v : Value) (l : List UInt8) (w : World) (hlen : l.length ≤ 140737488355328) (h : l.length ≠ 512) (hv : Bts w v l) :
    Calls Try.prog 38 #[v] w fun e w' => e = .returned (rootV none) ∧ w = w' := by
  rcases hv with ⟨a, c0, rfl, rfl⟩ | ⟨b, off, cap, cs, e, fz, rfl, hcap, hb, hc⟩
  · go_enter Try.func38, Try.ntmps38
    go_wp2
    go_ret3
    exact ⟨rfl, rfl⟩
  · clear hb hc
    have hn : ((l.length : Int) != 512) = true := by rw [bne_iff_ne]; omega
    clear h
    go_enter Try.func38, Try.ntmps38
    go_wp2
    go_ret3
    exact ⟨rfl, rfl⟩

theorem rootB_length (g : Nat) (s : List UInt8) : (rootB g s).length = 512 := by unfold rootB; simp [putAt_length, zeros_length]
theorem sealB_length (k g : Nat) (s : List UInt8) : (sealB k g s).length = 512 := by unfold sealB seal0; simp [putAt_length, zeros_length]

set_option maxRecDepth 100000 in
set_option maxHeartbeats 1000000 in
theorem rootopen_full (v : Value) (l : List UInt8) (w : World) (h : l.length = 512) (hv : Bts w v l) :
    Calls Try.prog 38 #[v] w fun e w' => e = .returned (rootV (rootL l)) ∧ Ch (fun _ => False) w w' := by
  rcases hv with ⟨a, c0, rfl, rfl⟩ | ⟨b, off, cap, cs, e, fz, rfl, hcap, hb, hc⟩
  · simp at h
  · have HB := hid hb
    have HC := hid hc
    have hblt := blk_lt hb
    have hne : w.heap.size ≠ b := by omega
    have H := hid h
    rw [h] at hcap
    clear hb hc h
    rw [H.out]
    go_enter Try.func38, Try.ntmps38
    go_wp2_with fail
    obtain ⟨g, HG⟩ : ∃ k, Hid (rdl (l.take 8) = k) := ⟨_, hid rfl⟩
    obtain ⟨n, HN⟩ : ∃ k, Hid (rdl ((l.drop 8).take 2) = k) := ⟨_, hid rfl⟩
    obtain ⟨z, HZ⟩ : ∃ z, Hid (wrap64 (g : Nat) = z) := ⟨_, hid rfl⟩
    have hn : n < 65536 := by have := rdl_take_lt l 8 2; rw [HN.out] at this; omega
    have hg : g < 18446744073709551616 := by have := rdl_take_lt l 0 8; rw [List.drop_zero, HG.out] at this; omega
    have HT0 : Hid (Tk ((w.alloc (.cells #[.slice (some ⟨b, off, none⟩) 512 cap, .int .i64 0] 136)).drew) w.heap.size b off cap l 0) := hid ⟨cs, _, fz, by show (w.alloc _).heap[_]? = _; rw [heap_new, H.out]; rfl, heap_old HB.out _, HC.out, hne⟩
    have hch0 : Ch (fun _ => False) w (w.alloc (.cells #[.slice (some ⟨b, off, none⟩) 512 cap, .int .i64 0] 136)).drew := ((Ch.refl _ _).alloc _).drew
    have HQ := hid (take_tk 8 z w.heap.size b off cap l 0 8 _ rfl (by omega) (by rw [H.out]; omega) (by rw [H.out]; omega) HT0.out (by rw [List.drop_zero, HG.out, HZ.out]))
    have HN2 : Hid (wrap64 (rdl ((l.drop 8).take 2) : Nat) = (n : Int)) := hid (by rw [HN.out, wrap64_id (by omega) (by omega)])
    have hHG := hid hg
    clear hg
    go_region_with (first | (go_at_call 88; (with_reducible refine HQ.out.mono ?_); rintro e w3 ⟨rfl, hT3, hch3⟩; have HT3 := hid hT3; clear hT3) | (go_at_call 88; refine (take_tk 2 n w.heap.size b off cap l 8 2 _ rfl (by omega) (by rw [H.out]; omega) (by rw [H.out]; omega) HT3.out HN2.out).mono ?_; rintro e w4 ⟨rfl, hT4, hch4⟩; have HT4 := hid hT4; clear hT4))
    have hch : Ch (fun _ => False) w w4 := by
      have hx : ∀ k, k < w.heap.size → k = w.heap.size → False := by intro k h1 h2; omega
      exact ((hch0.then hch3 hx).then hch4 hx)
    have HCH := hid hch
    clear hch hch0 hch3 hch4 HT0 HT3 HQ HN2
    by_cases hn2 : n ≤ 490
    · have hbts : Bts w4 (.slice (some ⟨b, off + 10, none⟩) n (cap - 10)) ((l.drop 10).take n) := by
        obtain ⟨cs4, e4, fz4, h1, h2, h3, h4⟩ := HT4.out
        have hl : ((l.drop 10).take n).length = n := by simp [H.out]; omega
        refine .inr ⟨b, off + 10, cap - 10, cs4, e4, fz4, by rw [hl], by omega, h2, fun j hj => ?_⟩
        rw [hl] at hj
        rw [Nat.add_assoc, h3 (10 + j) (by rw [H.out]; omega)]
        simp
      obtain ⟨s, HS⟩ : ∃ s, Hid ((l.drop 10).take n = s) := ⟨_, hid rfl⟩
      have hsl : s.length ≤ 490 := by rw [← HS.out]; simp; omega
      rw [HS.out] at hbts
      have hstr := str_of hbts
      clear hbts
      have hc20 : ¬ cap = 10 := by omega
      go_wp2_with fail
      by_cases hgr : 1 ≤ g ∧ g ≤ 4611686018427387904
      · obtain ⟨hg1, hg2⟩ := hgr
        obtain rfl : z = (g : Int) := by rw [← HZ.out]; exact wrap64_id (by omega) (by omega)
        refine (root_ok g ⟨s.toArray⟩ _ hg1 hg2 (by simpa [ByteArray.size] using hsl)).mono ?_
        rintro e w5 ⟨ob, rfl, hob, hch5, hob2⟩
        have hq1 : Bts w5 (.slice (some ⟨ob, 0, none⟩) 512 512) (rootB g s) := by
          have := bts_cells (cs := []) (by simpa using hob) 512 (by rw [rootB_length]; omega)
          rwa [rootB_length] at this
        have hq2 : Bts w5 (.slice (some ⟨b, off, none⟩) 512 cap) l := by
          obtain ⟨cs4, e4, fz4, h1, h2, h3, h4⟩ := HT4.out
          exact .inr ⟨b, off, cap, cs4, e4, fz4, by rw [H.out], by rw [H.out]; exact hcap, hch5.keep h2 (fun h => h), h3⟩
        have HQ := hid (equal_any _ _ _ _ w5 hq1 hq2)
        have HCH5 := hid (HCH.out.trans hch5)
        clear hq1 hq2 hch5 hob hstr
        go_wp2_with fail
        refine HQ.out.mono ?_
        rintro e w6 ⟨rfl, rfl⟩
        by_cases hq : rootB g s = l
        · have hqb : (rootB g s == l) = true := by rw [hq]; exact beq_self_eq_true _
          have HO : Hid (rootL l = some (g, s)) := hid (by rw [rootL, if_pos ⟨H.out, by rw [HN.out]; exact hn2, by rw [HG.out]; exact ⟨hg1, hg2⟩, by rw [HN.out, HG.out, HS.out]; exact hq⟩, HN.out, HG.out, HS.out])
          clear hq
          go_wp2
          go_ret3
          exact ⟨by rw [HO.out]; rfl, HCH5.out⟩
        · have hqb : (rootB g s == l) = false := by simpa using hq
          have HO : Hid (rootL l = none) := hid (by rw [rootL, if_neg (by rw [HN.out, HG.out, HS.out]; exact fun h => hq h.2.2.2)])
          clear hq
          go_wp2
          go_ret3
          exact ⟨by rw [HO.out]; rfl, HCH5.out⟩
      · have hz : z < 1 ∨ 4611686018427387904 < z := by
          have := hHG.out
          rw [← HZ.out]; unfold wrap64; omega
        have HO : Hid (rootL l = none) := hid (by rw [rootL, if_neg (by rw [HG.out]; exact fun h => hgr h.2.2.1)])
        refine (root_bad z ⟨s.toArray⟩ _ hz).mono ?_
        rintro e w5 ⟨rfl, rfl⟩
        clear hz hgr
        go_wp2
        go_ret3
        exact ⟨by rw [HO.out]; rfl, HCH.out⟩
    · go_wp2
      go_ret3
      exact ⟨by rw [rootL, if_neg (by rw [HN.out]; omega)]; rfl, HCH.out⟩
end

section
open Go.RowKit

/-- Seal's error; its bytes. -/
def sealE (kind gen : Int) (n : Nat) : Nat := if kind < 0 ∨ 255 < kind ∨ gen < 0 ∨ 281474976710655 < gen then 2 else if 492 < n then 4 else 0
def sealL (kind gen : Int) (s : List UInt8) : List UInt8 := if sealE kind gen s.length = 0 then sealB kind.toNat gen.toNat s else []
/-- SealRoot's error; its bytes. -/
def srootE (gen : Int) (n : Nat) : Nat := if gen < 1 ∨ 4611686018427387904 < gen then 2 else if 490 < n then 4 else 0
def srootL (gen : Int) (s : List UInt8) : List UInt8 := if srootE gen s.length = 0 then rootB gen.toNat s else []

theorem sealE_cases (kind gen : Int) (n : Nat) : (sealE kind gen n = 2 ∧ (kind < 0 ∨ 255 < kind ∨ gen < 0 ∨ 281474976710655 < gen)) ∨
    (sealE kind gen n = 4 ∧ 492 < n ∧ 0 ≤ kind ∧ kind ≤ 255 ∧ 0 ≤ gen ∧ gen ≤ 281474976710655) ∨ (sealE kind gen n = 0 ∧ n ≤ 492 ∧ 0 ≤ kind ∧ kind ≤ 255 ∧ 0 ≤ gen ∧ gen ≤ 281474976710655) := by
  unfold sealE; split
  · exact .inl ⟨rfl, ‹_›⟩
  · split
    · exact .inr (.inl ⟨rfl, by omega⟩)
    · exact .inr (.inr ⟨rfl, by omega⟩)
theorem srootE_cases (gen : Int) (n : Nat) : (srootE gen n = 2 ∧ (gen < 1 ∨ 4611686018427387904 < gen)) ∨
    (srootE gen n = 4 ∧ 490 < n ∧ 1 ≤ gen ∧ gen ≤ 4611686018427387904) ∨ (srootE gen n = 0 ∧ n ≤ 490 ∧ 1 ≤ gen ∧ gen ≤ 4611686018427387904) := by
  unfold srootE; split
  · exact .inl ⟨rfl, ‹_›⟩
  · split
    · exact .inr (.inl ⟨rfl, by omega⟩)
    · exact .inr (.inr ⟨rfl, by omega⟩)

theorem bts_nil (w : World) : Bts w (.slice none 0 0) [] := .inl ⟨_, _, rfl, rfl⟩
theorem own_nil {n : Nat} : ∀ k, (Value.slice none 0 0).ownBlock = some k → n ≤ k := fun k h => by cases h
theorem own_some {b off l c n : Nat} (h : n ≤ b) : ∀ k, (Value.slice (some ⟨b, off, none⟩) l c).ownBlock = some k → n ≤ k := fun k hk => by cases hk; exact h
theorem size_toList (s : ByteArray) : s.data.toList.length = s.size := rfl

theorem seal_any (kind gen : Int) (s : ByteArray) (w : World) :
    Calls Try.prog 31 #[.int .i64 kind, .int .i64 gen, .string s] w fun e w' => ∃ v, e = .returned (.tuple #[v, .int .i64 (sealE kind gen s.size : Nat)]) ∧
      Bts w' v (sealL kind gen s.data.toList) ∧ Ch (fun _ => False) w w' ∧ ∀ k, v.ownBlock = some k → w.heap.size ≤ k := by
  unfold sealL
  rw [size_toList]
  rcases sealE_cases kind gen s.size with ⟨h, h1⟩ | ⟨h, h1, h2, h3, h4, h5⟩ | ⟨h, h1, h2, h3, h4, h5⟩
  · rw [h]
    exact (seal_bad kind gen s w h1).mono fun e w' ⟨he, hw⟩ => ⟨_, he, bts_nil _, hw ▸ Ch.refl _ _, own_nil⟩
  · rw [h]
    obtain ⟨k, rfl⟩ := Int.eq_ofNat_of_zero_le h2
    obtain ⟨g, rfl⟩ := Int.eq_ofNat_of_zero_le h4
    exact (seal_long k g s w (by omega) (by omega) h1).mono fun e w' ⟨he, hw⟩ => ⟨_, he, bts_nil _, hw ▸ Ch.refl _ _, own_nil⟩
  · rw [h]
    obtain ⟨k, rfl⟩ := Int.eq_ofNat_of_zero_le h2
    obtain ⟨g, rfl⟩ := Int.eq_ofNat_of_zero_le h4
    refine (seal_ok k g s w (by omega) (by omega) h1).mono fun e w' ⟨b, he, hb, hc, hs⟩ => ⟨_, he, ?_, hc, own_some hs⟩
    have := bts_cells (cs := []) (by simpa using hb) 512 (by rw [sealB_length]; omega)
    rw [sealB_length] at this
    simpa using this

theorem sroot_any (gen : Int) (s : ByteArray) (w : World) :
    Calls Try.prog 33 #[.int .i64 gen, .string s] w fun e w' => ∃ v, e = .returned (.tuple #[v, .int .i64 (srootE gen s.size : Nat)]) ∧
      Bts w' v (srootL gen s.data.toList) ∧ Ch (fun _ => False) w w' ∧ ∀ k, v.ownBlock = some k → w.heap.size ≤ k := by
  unfold srootL
  rw [size_toList]
  rcases srootE_cases gen s.size with ⟨h, h1⟩ | ⟨h, h1, h2, h3⟩ | ⟨h, h1, h2, h3⟩
  · rw [h]
    exact (root_bad gen s w h1).mono fun e w' ⟨he, hw⟩ => ⟨_, he, bts_nil _, hw ▸ Ch.refl _ _, own_nil⟩
  · rw [h]
    obtain ⟨g, rfl⟩ := Int.eq_ofNat_of_zero_le (show 0 ≤ gen by omega)
    exact (root_long g s w (by omega) (by omega) h1).mono fun e w' ⟨he, hw⟩ => ⟨_, he, bts_nil _, hw ▸ Ch.refl _ _, own_nil⟩
  · rw [h]
    obtain ⟨g, rfl⟩ := Int.eq_ofNat_of_zero_le (show 0 ≤ gen by omega)
    refine (root_ok g s w (by omega) (by omega) h1).mono fun e w' ⟨b, he, hb, hc, hs⟩ => ⟨_, he, ?_, hc, own_some hs⟩
    have := bts_cells (cs := []) (by simpa using hb) 512 (by rw [rootB_length]; omega)
    rw [rootB_length] at this
    simpa using this

theorem open_any (v : Value) (l : List UInt8) (w : World) (hlen : l.length ≤ 140737488355328) (hv : Bts w v l) :
    Calls Try.prog 36 #[v] w fun e w' => e = .returned (openV (openL l)) ∧ Ch (fun _ => False) w w' := by
  by_cases h : l.length = 512
  · exact open_full v l w h hv
  · rw [show openL l = none by rw [openL, if_neg (fun x => h x.1)]]
    exact (open_short v l w hlen h hv).mono fun e w' ⟨he, hw⟩ => ⟨he, hw ▸ Ch.refl _ _⟩
theorem rootopen_any (v : Value) (l : List UInt8) (w : World) (hlen : l.length ≤ 140737488355328) (hv : Bts w v l) :
    Calls Try.prog 38 #[v] w fun e w' => e = .returned (rootV (rootL l)) ∧ Ch (fun _ => False) w w' := by
  by_cases h : l.length = 512
  · exact rootopen_full v l w h hv
  · rw [show rootL l = none by rw [rootL, if_neg (fun x => h x.1)]]
    exact (rootopen_short v l w hlen h hv).mono fun e w' ⟨he, hw⟩ => ⟨he, hw ▸ Ch.refl _ _⟩
end

section
theorem zeros_add (a b : Nat) : zeros (a + b) = zeros a ++ zeros b := by simp [zeros]
theorem putAt_mid (p q r bs : List UInt8) (h : q.length = bs.length) : putAt (p ++ (q ++ r)) p.length bs = p ++ (bs ++ r) := by
  rw [putAt_eq _ _ _ (by simp; omega)]
  rw [List.take_left, ← h, ← List.length_append, ← List.append_assoc p q r, List.drop_left]
  simp
theorem putAt_zeros (p bs : List UInt8) (i k n : Nat) (hi : i = p.length) (h : bs.length = k) : putAt (p ++ zeros (k + n)) i bs = (p ++ bs) ++ zeros n := by
  subst hi
  rw [zeros_add, putAt_mid p _ _ bs (by rw [zeros_length, h])]
  simp

/-- The head of a page's sector: its first twelve bytes. -/
def headB (kind gen n : Nat) : List UInt8 := [72, 118] ++ be kind 1 ++ [0] ++ be n 2 ++ be gen 6
theorem headB_length (kind gen n : Nat) : (headB kind gen n).length = 12 := by simp [headB, be_length]

theorem seal0_row (kind gen : Nat) (s : List UInt8) (h : s.length ≤ 492) : seal0 kind gen s = headB kind gen s.length ++ (zeros 4 ++ (zeros 4 ++ (s ++ zeros (492 - s.length)))) := by
  have e1 : be 18550 2 = [72, 118] := by decide
  have e2 : be 0 1 = [0] := by decide
  unfold seal0
  rw [e1, e2]
  have s1 : putAt (zeros 512) 0 [72, 118] = [72, 118] ++ zeros 510 := putAt_zeros [] [72, 118] 0 2 510 rfl rfl
  rw [s1]
  have s2 : putAt ([72, 118] ++ zeros 510) 2 (be kind 1) = ([72, 118] ++ be kind 1) ++ zeros 509 := putAt_zeros [72, 118] (be kind 1) 2 1 509 rfl (be_length _ _)
  rw [s2]
  have s3 := putAt_zeros ([72, 118] ++ be kind 1) [0] 3 1 508 (by simp [be_length]) rfl
  rw [show (1 + 508) = 509 from rfl] at s3
  rw [s3]
  have s4 := putAt_zeros ([72, 118] ++ be kind 1 ++ [0]) (be s.length 2) 4 2 506 (by simp [be_length]) (be_length _ _)
  rw [show (2 + 506) = 508 from rfl] at s4
  rw [s4]
  have s5 := putAt_zeros ([72, 118] ++ be kind 1 ++ [0] ++ be s.length 2) (be gen 6) 6 6 500 (by simp [be_length]) (be_length _ _)
  rw [show (6 + 500) = 506 from rfl] at s5
  rw [s5]
  have s6 := putAt_zeros (headB kind gen s.length ++ zeros 8) s 20 s.length (492 - s.length) (by simp [headB_length, zeros_length]) rfl
  rw [show s.length + (492 - s.length) = 492 by omega] at s6
  rw [show (500 : Nat) = 8 + 492 from rfl, zeros_add 8 492, ← List.append_assoc]
  show putAt (headB kind gen s.length ++ zeros 8 ++ zeros 492) 20 s = _
  rw [s6, show (8 : Nat) = 4 + 4 from rfl, zeros_add 4 4]
  simp

theorem sealB_row (kind gen : Nat) (s : List UInt8) (h : s.length ≤ 492) :
    sealB kind gen s = headB kind gen s.length ++ (be (sumB (headB kind gen s.length ++ (zeros 4 ++ (zeros 4 ++ (s ++ zeros (492 - s.length)))))) 4 ++ (zeros 4 ++ (s ++ zeros (492 - s.length)))) := by
  unfold sealB
  rw [seal0_row kind gen s h]
  have := putAt_mid (headB kind gen s.length) (zeros 4) (zeros 4 ++ (s ++ zeros (492 - s.length))) (be (sumB (headB kind gen s.length ++ (zeros 4 ++ (zeros 4 ++ (s ++ zeros (492 - s.length)))))) 4) (by rw [zeros_length, be_length])
  rw [headB_length] at this
  exact this

theorem rootB_row (gen : Nat) (s : List UInt8) (h : s.length ≤ 490) : rootB gen s = be gen 8 ++ (be s.length 2 ++ (s ++ (zeros (494 - s.length) ++ be gen 8))) := by
  unfold rootB
  have s1 : putAt (zeros 512) 0 (be gen 8) = be gen 8 ++ zeros 504 := putAt_zeros [] (be gen 8) 0 8 504 rfl (be_length _ _)
  rw [s1]
  have s2 : putAt (be gen 8 ++ zeros 504) 8 (be s.length 2) = be gen 8 ++ be s.length 2 ++ zeros 502 := putAt_zeros (be gen 8) (be s.length 2) 8 2 502 (by rw [be_length]) (be_length _ _)
  rw [s2]
  have s3 := putAt_zeros (be gen 8 ++ be s.length 2) s 10 s.length (502 - s.length) (by simp [be_length]) rfl
  rw [show s.length + (502 - s.length) = 502 by omega] at s3
  rw [s3]
  have s4 := putAt_zeros (be gen 8 ++ be s.length 2 ++ s ++ zeros (494 - s.length)) (be gen 8) 504 8 0 (by simp [be_length, zeros_length]; omega) (be_length _ _)
  rw [show 502 - s.length = (494 - s.length) + (8 + 0) by omega, zeros_add (494 - s.length), ← List.append_assoc (be gen 8 ++ be s.length 2 ++ s), s4]
  simp [zeros]
end

section
open Go.RowKit

set_option maxHeartbeats 400000 in
theorem rsum_any (s : ByteArray) (w : World) (hs : s.size ≤ 140737488355328) :
    Calls Try.prog 30 #[.string s] w fun e w' => e = .returned (.int .u32 (sumB s.data.toList : Nat)) ∧ w = w' := by
  go_enter Try.func30, Try.ntmps30
  go_wp2
  go_loop [3, 4] (fun x k => ∃ (j t : Nat), x = .int .u32 (t : Int) ∧ k = .int .i64 (j : Int) ∧ j ≤ s.size ∧ t < 4294967296 ∧ Hid ((t + sumF j (s.data.toList.drop j)) % 4294967296 = sumB s.data.toList)) (fun _ k => s.size - (intOf k).toNat)
  case atStart => exact ⟨0, 0, rfl, rfl, by omega, by omega, hid (by simp [sumB])⟩
  case round =>
    obtain ⟨j, t, rfl, rfl, hj, ht, HS⟩ := hrel
    by_cases hlt : j < s.size
    · have HD := hid (sumF_drop s.data.toList j j hlt)
      have HE : Hid ((s.data.toList[j]'hlt).toNat = s[j].toNat) := hid rfl
      have hc256 : s[j].toNat < 256 := s[j].toNat_lt
      go_wp2
      go_round
      case rel =>
        refine ⟨j + 1, ((t : Nat) + (j + 1) % 4294967296 * s[j].toNat % 4294967296) % 4294967296, by simp only [Int.natCast_emod, Int.natCast_add, Int.natCast_mul]; rfl, by go_num, by omega, by omega, hid ?_⟩
        rw [← HS.out, HD.out, HE.out]
        generalize s[j].toNat = c
        rw [Nat.add_mod _ (sumF _ _), Nat.mod_mod, ← Nat.add_mod]
        rw [← Nat.add_assoc, Nat.add_mod _ (sumF _ _), Nat.add_mod ((t + (j + 1) * c)) (sumF _ _)]
        congr 2
        rw [Nat.add_mod t, Nat.add_mod t ((j + 1) * c), Nat.mod_mod, Nat.mul_mod (j + 1), Nat.mul_mod ((j + 1) % 4294967296), Nat.mod_mod]
      case measure => simp [intOf]; omega
    · go_wp2
      go_ret
      obtain rfl : j = s.size := by omega
      have h := HS.out
      have hd : s.data.toList.drop s.size = [] := List.drop_eq_nil_of_le (by rw [size_toList]; omega)
      rw [hd] at h
      simp [sumF] at h
      refine ⟨?_, rfl⟩
      show Ending.returned (.int .u32 (t : Int)) = _
      rw [← h, Nat.mod_eq_of_lt ht]

theorem rdl_take_le (l : List UInt8) (k : Nat) : rdl (l.take k) ≤ rdl l := by
  have h : ∀ (m : List UInt8) (x : Nat), x ≤ m.foldl (fun x c => x * 256 + c.toNat) x := by
    intro m
    induction m with
    | nil => intro x; exact Nat.le_refl _
    | cons c cs ih => intro x; exact Nat.le_trans (show x ≤ x * 256 + c.toNat by omega) (ih _)
  have := h (l.drop k) (rdl (l.take k))
  rw [rdl, ← List.foldl_append, List.take_append_drop] at this
  exact this
theorem byte_mod (x : Nat) : ((x : Int) % 256) = ((UInt8.ofNat x).toNat : Int) := by
  rw [UInt8.toNat_ofNat', show (2 : Nat) ^ 8 = 256 from rfl, Int.natCast_emod]; rfl

set_option maxHeartbeats 400000 in
theorem rread_any (s : ByteArray) (w : World) (hs : s.size ≤ 8) (hb : rdl s.data.toList < 9223372036854775808) :
    Calls Try.prog 90 #[.string s] w fun e w' => e = .returned (.int .i64 (rdl s.data.toList : Nat)) ∧ w = w' := by
  have HB := hid hb
  clear hb
  go_enter Try.func90, Try.ntmps90
  go_wp2
  go_loop [3, 4] (fun x k => ∃ (j t : Nat), x = .int .i64 (t : Int) ∧ k = .int .i64 (j : Int) ∧ j ≤ s.size ∧ Hid (t = rdl (s.data.toList.take j))) (fun _ k => s.size - (intOf k).toNat)
  case atStart => exact ⟨0, 0, rfl, rfl, by omega, hid (by simp [rdl])⟩
  case round =>
    obtain ⟨j, t, rfl, rfl, hj, HT⟩ := hrel
    by_cases hlt : j < s.size
    · have HD := hid (take_snoc_at s.data.toList 0 j (by rw [size_toList]; omega))
      have HE : Hid ((s.data.toList[j]'hlt).toNat = s[j].toNat) := hid rfl
      have hc256 : s[j].toNat < 256 := s[j].toNat_lt
      rw [List.drop_zero] at HD
      simp only [Nat.zero_add] at HD
      have HR : Hid (256 * t + s[j].toNat = rdl (s.data.toList.take (j + 1))) := hid (by rw [HD.out, rdl_snoc, HE.out, HT.out]; omega)
      have hbd : 256 * (t : Int) + s[j].toNat < 9223372036854775808 := by
        have h1 := rdl_take_le s.data.toList (j + 1)
        have h2 := HB.out
        rw [← HR.out] at h1
        omega
      go_wp2
      go_round
      case rel => exact ⟨j + 1, 256 * t + s[j].toNat, by go_num, by go_num, by omega, HR⟩
      case measure => simp [intOf]; omega
    · go_wp2
      go_ret
      obtain rfl : j = s.size := by omega
      exact ⟨by rw [HT.out, List.take_of_length_le (by rw [size_toList]; omega)]; rfl, rfl⟩

set_option maxRecDepth 100000 in
set_option maxHeartbeats 400000 in
theorem rnumber_any (x n : Nat) (w : World) (hx : x ≤ 4611686018427387904) (hn : n ≤ 8) :
    Calls Try.prog 86 #[.int .i64 x, .int .i64 n] w fun e w' => ∃ s, e = .returned (.string s) ∧ s.data.toList = be x n ∧ Ch (fun _ => False) w w' := by
  go_enter Try.func86, Try.ntmps86
  go_wp2
  go_loopw [0, 5, 6] (fun xv sv k wr => ∃ (j xc : Nat) (s : ByteArray), xv = .int .i64 (xc : Int) ∧ xc ≤ 4611686018427387904 ∧ sv = .string s ∧ k = .int .i64 (j : Int) ∧ j ≤ n ∧ s.size ≤ 8 ∧ Hid (xc = x / 256 ^ j) ∧ Hid (s.data.toList = be x j) ∧ Ch (fun _ => False) w wr) (fun _ _ k _ => n - (intOf k).toNat)
  case atStart => exact ⟨0, x, ⟨#[]⟩, rfl, hx, rfl, rfl, by omega, by decide, hid (by simp), hid rfl, Ch.refl _ _⟩
  case round =>
    obtain ⟨j, xc, s, rfl, hxc, rfl, rfl, hj, hss, HX, HS, hch⟩ := hrel
    by_cases hlt : j < n
    · have HBM := hid (byte_mod xc)
      have hcv : (convert 35 9 (.slice (some ⟨wr.heap.size, 0, none⟩) 1 1)).run Try.prog (wr.alloc (.cells #[.int .u8 ((xc : Int) % 256)] 5)) = .ok (.string ⟨#[UInt8.ofNat xc]⟩) (wr.alloc (.cells #[.int .u8 ((xc : Int) % 256)] 5)) :=
        str_of (l := [UInt8.ofNat xc]) (bts_cells (l := [UInt8.ofNat xc]) (cs := []) (e := 5) (fz := (0, 0)) (by rw [heap_new, HBM.out]; rfl) 1 (by simp))
      go_wp2
      go_roundw
      case rel =>
        refine ⟨j + 1, xc / 256, ⟨#[UInt8.ofNat xc]⟩ ++ s, by go_num, by omega, rfl, by go_num, by omega, ?_, hid ?_, hid ?_, hch.alloc _⟩
        · have h1 : s.size = j := by rw [← size_toList, HS.out, be_length]
          rw [ByteArray.size_append, h1]
          show 1 + j ≤ 8
          omega
        · rw [HX.out, Nat.div_div_eq_div_mul, Nat.pow_succ]
        · rw [ByteArray.data_append]
          simp [be, HS.out, HX.out]
      case measure => simp [intOf]; omega
    · go_wp2
      go_ret
      obtain rfl : j = n := by omega
      exact ⟨s, rfl, HS.out, hch⟩

theorem noughts_any (n : Nat) (w : World) (hn : n ≤ 1000) :
    Calls Try.prog 87 #[.int .i64 n] w fun e w' => ∃ s, e = .returned (.string s) ∧ s.data.toList = zeros n ∧ Ch (fun _ => False) w w' := by
  have hmk := run_make_n (P := Try.prog) 35 5 (.int .u8 0) 1 Try.underlying35 Try.info5 rfl n (by omega) (by omega) w
  rw [made_zeros] at hmk
  have hcv := str_of (bts_cells (w := w.alloc (.cells (bcells (zeros n)).toArray 5)) (l := zeros n) (cs := []) (e := 5) (fz := (0, 0)) (by rw [List.append_nil]; exact heap_new _) n (by rw [zeros_length]; exact Nat.le_refl _))
  rw [zeros_length] at hcv
  obtain ⟨C, HC⟩ : ∃ C, Hid ((bcells (zeros n)).toArray = C) := ⟨_, hid rfl⟩
  obtain ⟨S, HS⟩ : ∃ S, Hid ((⟨(zeros n).toArray⟩ : ByteArray) = S) := ⟨_, hid rfl⟩
  rw [HC.out] at hmk hcv
  rw [HS.out] at hcv
  go_enter Try.func87, Try.ntmps87
  go_wp2
  go_ret
  exact ⟨S, rfl, by rw [← HS.out], (Ch.refl _ _).alloc _⟩
end

section
open Go.RowKit

theorem rnumber_z (m : Int) (x n : Nat) (w : World) (hm : m = (n : Int)) (hx : x ≤ 4611686018427387904) (hn : n ≤ 8) :
    Calls Try.prog 86 #[.int .i64 x, .int .i64 m] w fun e w' => ∃ s, e = .returned (.string s) ∧ Hid (s.data.toList = be x n) ∧ s.size ≤ 8 ∧ Ch (fun _ => False) w w' := by
  subst hm; exact (rnumber_any x n w hx hn).mono fun e w' ⟨s, he, hs, hc⟩ => ⟨s, he, hs, by rw [← size_toList, hs, be_length]; exact hn, hc⟩
theorem noughts_z (m : Int) (n : Nat) (w : World) (hm : m = (n : Int)) (hn : n ≤ 1000) :
    Calls Try.prog 87 #[.int .i64 m] w fun e w' => ∃ s, e = .returned (.string s) ∧ Hid (s.data.toList = zeros n) ∧ s.size ≤ 1000 ∧ Ch (fun _ => False) w w' := by
  subst hm; exact (noughts_any n w hn).mono fun e w' ⟨s, he, hs, hc⟩ => ⟨s, he, hs, by rw [← size_toList, hs, zeros_length]; exact hn, hc⟩

theorem lit_toList (l : List UInt8) : (⟨l.toArray⟩ : ByteArray).data.toList = l := rfl

set_option maxRecDepth 100000 in
set_option maxHeartbeats 1000000 in
theorem rseal_ok (kind gen : Nat) (s : ByteArray) (w : World) (hk : kind ≤ 255) (hg : gen ≤ 281474976710655) (hs : s.size ≤ 492) :
    Calls Try.prog 32 #[.int .i64 kind, .int .i64 gen, .string s] w fun e w' => ∃ t, e = .returned (.tuple #[.string t, .int .i64 0]) ∧ t.data.toList = sealB kind gen s.data.toList ∧ Ch (fun _ => False) w w' := by
  go_enter Try.func32, Try.ntmps32
  go_wp2_with fail
  refine (rnumber_z 1 kind 1 _ rfl (by omega) (by omega)).mono ?_
  rintro e w1 ⟨t1, rfl, h1, z1, c1⟩
  go_wp2_with fail
  refine (rnumber_z 2 s.size 2 _ rfl (by omega) (by omega)).mono ?_
  rintro e w2 ⟨t2, rfl, h2, z2, c2⟩
  go_wp2_with fail
  refine (rnumber_z 6 gen 6 _ rfl (by omega) (by omega)).mono ?_
  rintro e w3 ⟨t3, rfl, h3, z3, c3⟩
  go_wp2_with fail
  refine (noughts_z 4 4 _ rfl (by omega)).mono ?_
  rintro e w4 ⟨t4, rfl, h4, z4, c4⟩
  go_wp2_with fail
  refine (noughts_z _ (492 - s.size) _ (by omega) (by omega)).mono ?_
  rintro e w5 ⟨t5, rfl, h5, z5, c5⟩
  go_wp2_with fail
  refine (noughts_z 4 4 _ rfl (by omega)).mono ?_
  rintro e w6 ⟨t6, rfl, h6, z6, c6⟩
  go_wp2_with fail
  obtain ⟨S, HS⟩ : ∃ S, Hid (sumB (headB kind gen s.size ++ (zeros 4 ++ (zeros 4 ++ (s.data.toList ++ zeros (492 - s.size))))) = S) := ⟨_, hid rfl⟩
  have hS : S < 4294967296 := by rw [← HS.out]; exact sumB_lt _
  refine (rsum_any _ _ ?c1).mono ?_
  case c1 =>
    have e1 : (⟨#[72, 118]⟩ : ByteArray).size = 2 := rfl
    have e2 : (⟨#[0]⟩ : ByteArray).size = 1 := rfl
    simp only [ByteArray.size_append]
    omega
  rintro e w7 ⟨rfl, rfl⟩
  rw [show sumB (({ data := #[72, 118] } ++ t1 ++ { data := #[0] } ++ t2 ++ t3 ++ t6 ++ (t4 ++ s ++ t5) : ByteArray)).data.toList = S by
    rw [← HS.out]
    simp only [ByteArray.data_append, Array.toList_append, h1.out, h2.out, h3.out, h4.out, h5.out, h6.out, headB]
    simp]
  go_wp2_with fail
  refine (rnumber_z 4 S 4 _ rfl (by omega) (by omega)).mono ?_
  rintro e w8 ⟨t8, rfl, h8, z8, c8⟩
  go_wp2
  go_ret2
  refine ⟨_, rfl, ?_, ((((((c1.trans c2).trans c3).trans c4).trans c5).trans c6).trans c8)⟩
  rw [sealB_row kind gen _ (by rw [size_toList]; exact hs), size_toList, HS.out]
  simp only [ByteArray.data_append, Array.toList_append, h1.out, h2.out, h3.out, h4.out, h5.out, h8.out, headB]
  simp

theorem rseal_any (kind gen : Int) (s : ByteArray) (w : World) :
    Calls Try.prog 32 #[.int .i64 kind, .int .i64 gen, .string s] w fun e w' => ∃ t, e = .returned (.tuple #[.string t, .int .i64 (sealE kind gen s.size : Nat)]) ∧ t.data.toList = sealL kind gen s.data.toList ∧ Ch (fun _ => False) w w' := by
  unfold sealL
  rw [size_toList]
  rcases sealE_cases kind gen s.size with ⟨h, h1⟩ | ⟨h, h1, h2, h3, h4, h5⟩ | ⟨h, h1, h2, h3, h4, h5⟩
  · rw [h]
    by_cases g1 : kind < 0
    · clear h1 h
      go_enter Try.func32, Try.ntmps32
      go_wp2
      go_ret2
      exact ⟨_, rfl, rfl, Ch.refl _ _⟩
    · by_cases g2 : 255 < kind
      · clear h1 h
        go_enter Try.func32, Try.ntmps32
        go_wp2
        go_ret2
        exact ⟨_, rfl, rfl, Ch.refl _ _⟩
      · by_cases g3 : gen < 0
        · clear h1 h
          go_enter Try.func32, Try.ntmps32
          go_wp2
          go_ret2
          exact ⟨_, rfl, rfl, Ch.refl _ _⟩
        · have g4 : 281474976710655 < gen := by omega
          clear h1 h
          go_enter Try.func32, Try.ntmps32
          go_wp2
          go_ret2
          exact ⟨_, rfl, rfl, Ch.refl _ _⟩
  · rw [h]
    clear h
    go_enter Try.func32, Try.ntmps32
    go_wp2
    go_ret2
    exact ⟨_, rfl, rfl, Ch.refl _ _⟩
  · rw [h]
    obtain ⟨k, rfl⟩ := Int.eq_ofNat_of_zero_le h2
    obtain ⟨g, rfl⟩ := Int.eq_ofNat_of_zero_le h4
    refine (rseal_ok k g s w (by omega) (by omega) h1).mono fun e w' ⟨t, he, ht, hc⟩ => ⟨t, he, ?_, hc⟩
    simpa using ht

set_option maxRecDepth 100000 in
set_option maxHeartbeats 1000000 in
theorem rroot_ok (gen : Nat) (s : ByteArray) (w : World) (h1g : 1 ≤ gen) (hg : gen ≤ 4611686018427387904) (hs : s.size ≤ 490) :
    Calls Try.prog 34 #[.int .i64 gen, .string s] w fun e w' => ∃ t, e = .returned (.tuple #[.string t, .int .i64 0]) ∧ t.data.toList = rootB gen s.data.toList ∧ Ch (fun _ => False) w w' := by
  go_enter Try.func34, Try.ntmps34
  go_wp2_with fail
  refine (rnumber_z 8 gen 8 _ rfl (by omega) (by omega)).mono ?_
  rintro e w1 ⟨t1, rfl, h1, z1, c1⟩
  go_wp2_with fail
  refine (rnumber_z 2 s.size 2 _ rfl (by omega) (by omega)).mono ?_
  rintro e w2 ⟨t2, rfl, h2, z2, c2⟩
  go_wp2_with fail
  refine (noughts_z _ (494 - s.size) _ (by omega) (by omega)).mono ?_
  rintro e w3 ⟨t3, rfl, h3, z3, c3⟩
  go_wp2_with fail
  refine (rnumber_z 8 gen 8 _ rfl (by omega) (by omega)).mono ?_
  rintro e w4 ⟨t4, rfl, h4, z4, c4⟩
  go_wp2
  go_ret2
  refine ⟨_, rfl, ?_, (((c1.trans c2).trans c3).trans c4)⟩
  rw [rootB_row gen _ (by rw [size_toList]; exact hs), size_toList]
  simp only [ByteArray.data_append, Array.toList_append, h1.out, h2.out, h3.out, h4.out]
  simp

theorem rroot_any (gen : Int) (s : ByteArray) (w : World) :
    Calls Try.prog 34 #[.int .i64 gen, .string s] w fun e w' => ∃ t, e = .returned (.tuple #[.string t, .int .i64 (srootE gen s.size : Nat)]) ∧ t.data.toList = srootL gen s.data.toList ∧ Ch (fun _ => False) w w' := by
  unfold srootL
  rw [size_toList]
  rcases srootE_cases gen s.size with ⟨h, h1⟩ | ⟨h, h1, h2, h3⟩ | ⟨h, h1, h2, h3⟩
  · rw [h]
    by_cases g1 : gen < 1
    · clear h1 h
      go_enter Try.func34, Try.ntmps34
      go_wp2
      go_ret2
      exact ⟨_, rfl, rfl, Ch.refl _ _⟩
    · have g4 : 4611686018427387904 < gen := by omega
      clear h1 h
      go_enter Try.func34, Try.ntmps34
      go_wp2
      go_ret2
      exact ⟨_, rfl, rfl, Ch.refl _ _⟩
  · rw [h]
    clear h
    go_enter Try.func34, Try.ntmps34
    go_wp2
    go_ret2
    exact ⟨_, rfl, rfl, Ch.refl _ _⟩
  · rw [h]
    obtain ⟨g, rfl⟩ := Int.eq_ofNat_of_zero_le (show 0 ≤ gen by omega)
    refine (rroot_ok g s w (by omega) (by omega) h1).mono fun e w' ⟨t, he, ht, hc⟩ => ⟨t, he, ?_, hc⟩
    simpa using ht
end

section
open Go.RowKit

theorem extract_toList (s : ByteArray) (i j : Nat) : (s.extract i j).data.toList = (s.data.toList.drop i).take (j - i) := by
  rw [ByteArray.data_extract]
  simp
theorem str_eq {t : ByteArray} {l : List UInt8} (h : t.data.toList = l) : t = ⟨l.toArray⟩ := by
  cases t; subst h; simp
theorem rread_ex (s : ByteArray) (i j : Nat) (w : World) (r : Nat) (hj : j ≤ s.size) (hij : j - i ≤ 7) (hr : rdl ((s.data.toList.drop i).take (j - i)) = r) :
    Calls Try.prog 90 #[.string (s.extract i j)] w fun e w' => e = .returned (.int .i64 (r : Nat)) ∧ w = w' := by
  subst hr
  have h := extract_toList s i j
  have hb : rdl (s.extract i j).data.toList < 9223372036854775808 := by
    rw [h]
    refine Nat.lt_of_lt_of_le (rdl_take_lt _ _ _) (Nat.le_trans (Nat.pow_le_pow_right (by omega) hij) (by decide))
  have := rread_any (s.extract i j) w (by rw [ByteArray.size_extract]; omega) hb
  rw [h] at this
  exact this

set_option maxRecDepth 100000 in
set_option maxHeartbeats 1000000 in
theorem ropen_full (s : ByteArray) (w : World) (hs : s.size = 512) :
    Calls Try.prog 37 #[.string s] w fun e w' => e = .returned (openV (openL s.data.toList)) ∧ Ch (fun _ => False) w w' := by
  obtain ⟨kind, HK⟩ : ∃ k, Hid (rdl ((s.data.toList.drop 2).take 1) = k) := ⟨_, hid rfl⟩
  obtain ⟨n, HN⟩ : ∃ k, Hid (rdl ((s.data.toList.drop 4).take 2) = k) := ⟨_, hid rfl⟩
  obtain ⟨gen, HG⟩ : ∃ k, Hid (rdl ((s.data.toList.drop 6).take 6) = k) := ⟨_, hid rfl⟩
  have hk : kind < 256 := by have := rdl_take_lt s.data.toList 2 1; rw [HK.out] at this; omega
  have hn : n < 65536 := by have := rdl_take_lt s.data.toList 4 2; rw [HN.out] at this; omega
  have hg : gen < 281474976710656 := by have := rdl_take_lt s.data.toList 6 6; rw [HG.out] at this; omega
  have HS := hid hs
  have hlt : 2 < s.size := by omega
  have hk2 : s[2].toNat = kind := by
    rw [← HK.out]
    have := take_snoc_at s.data.toList 2 0 (by rw [size_toList]; omega)
    rw [this]
    simp [rdl]
    rfl
  have hsz1 : 512 ≤ s.size := by omega
  have hsz2 : s.size ≤ 512 := by omega
  have hl : s.data.toList.length = 512 := hs
  have HL := hid hl
  clear hs hl
  go_enter Try.func37, Try.ntmps37
  go_wp2_with fail
  refine (rread_ex s 4 6 _ n (by omega) (by omega) HN.out).mono ?_
  rintro e w' ⟨rfl, rfl⟩
  by_cases hn2 : n ≤ 492
  · go_wp2_with fail
    obtain ⟨T, HT⟩ : ∃ T, Hid (s.extract 20 (20 + n) = T) := ⟨_, hid rfl⟩
    have HTl : Hid (T.data.toList = (s.data.toList.drop 20).take n) := hid (by rw [← HT.out, extract_toList]; congr 1; omega)
    have htl : T.size ≤ 492 := by rw [← size_toList, HTl.out]; simp; omega
    have HQ1 := hid (rread_ex s 6 12 w.drew gen (by omega) (by omega) HG.out)
    have HQ2 := hid (rseal_ok kind gen T w.drew (by omega) (by omega) htl)
    have hw1 : IntKind.i64.wrap (20 + (n : Int)) = 20 + (n : Int) := wrap_id (by omega) (by omega)
    have hw2 : IntKind.i64.wrap (kind : Int) = (kind : Int) := wrap_id (by omega) (by omega)
    have hw3 : (20 + (n : Int)).toNat = 20 + n := by omega
    have ht := HT.out
    have hb1 : (12 : Int) ≤ (s.size : Int) := by omega
    have hb2 : 20 + (n : Int) ≤ (s.size : Int) := by omega
    have hb3 : (20 : Int) ≤ 20 + (n : Int) := by omega
    have hb4 : (0 : Int) ≤ 20 + (n : Int) := by omega
    have hb5 : (20 : Int) + (n : Int) ≤ 512 := by omega
    go_region_with (first | (go_at_call 90; refine HQ1.out.mono ?_; rintro e w' ⟨rfl, rfl⟩) | (go_at_call 32; refine HQ2.out.mono ?_; rintro e w' ⟨t, rfl, h1, c1⟩))
    all_goals
      have HT1 := hid h1
      have HC1 := hid c1
      clear h1 c1
      by_cases hq : sealB kind gen T.data.toList = s.data.toList
      · have hqb := beq_str_eq (HT1.out.trans hq)
        have HO : Hid (openL s.data.toList = some (kind, gen, T.data.toList)) := hid (by
          rw [openL, if_pos ⟨HL.out, by rw [HN.out]; exact hn2, by rw [HK.out, HN.out, HG.out, ← HTl.out]; exact hq⟩, HK.out, HN.out, HG.out, HTl.out])
        have HQ3 := hid (rread_ex s 6 12 w'.drew gen (by omega) (by omega) HG.out)
        clear hq HQ1 HQ2
        go_wp2_with fail
        go_region_with (go_at_call 90; refine HQ3.out.mono ?_; rintro e w2 ⟨rfl, rfl⟩)
        all_goals
          go_wp2
          exact bodyPost_ret (v := openV (some (kind, gen, T.data.toList))) (by simp [results, Try.results37, go_sem, openV]) rfl ⟨by rw [HO.out], HC1.out.undrew.drew⟩
      · have hqb := beq_str_ne (HT1.out.symm ▸ hq)
        have HO : Hid (openL s.data.toList = none) := hid (by rw [openL, if_neg (by rw [HK.out, HN.out, HG.out, ← HTl.out]; exact fun h => hq h.2.2)])
        clear hq
        go_wp2
        exact bodyPost_ret (v := openV none) (by simp [results, Try.results37, go_sem, openV]) rfl ⟨by rw [HO.out], HC1.out.undrew⟩
  · go_wp2
    exact bodyPost_ret (v := openV none) (by simp [results, Try.results37, go_sem, openV]) rfl ⟨by rw [openL, if_neg (by rw [HN.out]; omega)], Ch.refl _ _⟩

theorem ropen_short (s : ByteArray) (w : World) (hs : s.size ≠ 512) (_hl : s.size ≤ 140737488355328) :
    Calls Try.prog 37 #[.string s] w fun e w' => e = .returned (openV (openL s.data.toList)) ∧ Ch (fun _ => False) w w' := by
  have HO : Hid (openL s.data.toList = none) := hid (by rw [openL, if_neg (fun h => hs h.1)])
  have hn : ((s.size : Int) != 512) = true := by rw [bne_iff_ne]; omega
  clear hs
  go_enter Try.func37, Try.ntmps37
  go_wp2
  exact bodyPost_ret (v := openV none) (by simp [results, Try.results37, go_sem, openV]) rfl ⟨by rw [HO.out], Ch.refl _ _⟩
theorem ropen_any (s : ByteArray) (w : World) (hl : s.size ≤ 140737488355328) :
    Calls Try.prog 37 #[.string s] w fun e w' => e = .returned (openV (openL s.data.toList)) ∧ Ch (fun _ => False) w w' := by
  by_cases h : s.size = 512
  · exact ropen_full s w h
  · exact ropen_short s w h hl

theorem rdl_cons (c : UInt8) (cs : List UInt8) : rdl (c :: cs) = c.toNat * 256 ^ cs.length + rdl cs := by
  suffices h : ∀ (cs : List UInt8) (x : Nat), cs.foldl (fun x c => x * 256 + c.toNat) x = x * 256 ^ cs.length + rdl cs by simpa [rdl] using h cs c.toNat
  intro cs
  induction cs with
  | nil => intro x; simp [rdl]
  | cons d ds ih =>
    intro x
    have hd : rdl (d :: ds) = d.toNat * 256 ^ ds.length + rdl ds := by
      show List.foldl _ (0 * 256 + d.toNat) ds = _
      rw [ih, Nat.zero_mul, Nat.zero_add]
    rw [List.foldl_cons, ih, hd, List.length_cons, Nat.pow_succ, Nat.add_mul, Nat.mul_assoc, Nat.mul_comm 256, Nat.add_assoc]
theorem rdl_take8 (l : List UInt8) (h : l.length = 512) : ∃ r, r < 72057594037927936 ∧ rdl (l.take 8) = (l[0]'(by omega)).toNat * 72057594037927936 + r := by
  refine ⟨rdl ((l.drop 1).take 7), ?_, ?_⟩
  · have := rdl_take_lt l 1 7
    omega
  · have : l.take 8 = l[0]'(by omega) :: (l.drop 1).take 7 := by
      cases l with
      | nil => simp at h
      | cons c cs => simp
    rw [this, rdl_cons]
    have h7 : ((l.drop 1).take 7).length = 7 := by simp; omega
    rw [h7]

set_option maxRecDepth 100000 in
set_option maxHeartbeats 1000000 in
theorem rrootopen_full (s : ByteArray) (w : World) (hs : s.size = 512) :
    Calls Try.prog 39 #[.string s] w fun e w' => e = .returned (rootV (rootL s.data.toList)) ∧ Ch (fun _ => False) w w' := by
  have hl : s.data.toList.length = 512 := hs
  obtain ⟨r, hr, h8⟩ := rdl_take8 s.data.toList hl
  obtain ⟨g, HG⟩ : ∃ k, Hid (rdl (s.data.toList.take 8) = k) := ⟨_, hid rfl⟩
  obtain ⟨n, HN⟩ : ∃ k, Hid (rdl ((s.data.toList.drop 8).take 2) = k) := ⟨_, hid rfl⟩
  have hn : n < 65536 := by have := rdl_take_lt s.data.toList 8 2; rw [HN.out] at this; omega
  have hlt : 0 < s.size := by omega
  obtain ⟨c, HC⟩ : ∃ c, Hid (s[0].toNat = c) := ⟨_, hid rfl⟩
  have hc := HC.out
  rw [HG.out, show (s.data.toList[0]'(by omega)).toNat = c from hc] at h8
  have HS := hid hs
  have HL := hid hl
  have H8 := hid h8
  have hsz1 : 512 ≤ s.size := by omega
  have hsz2 : s.size ≤ 512 := by omega
  have hc256 : c < 256 := by rw [← hc]; exact UInt8.toNat_lt _
  clear hs hl h8
  by_cases hc64 : 64 < c
  · have HO : Hid (rootL s.data.toList = none) := hid (by rw [rootL, if_neg (by rw [HG.out]; intro h; have := H8.out; omega)])
    clear hr
    go_enter Try.func39, Try.ntmps39
    go_wp2
    go_ret3
    exact ⟨by rw [HO.out]; rfl, Ch.refl _ _⟩
  · have hgl : g < 4683743612465315840 := by have := H8.out; omega
    have HGL := hid hgl
    have hge : rdl (s.extract 0 8).data.toList = g := by rw [extract_toList]; simpa using HG.out
    have HQ1 := hid (rread_any (s.extract 0 8) w (by rw [ByteArray.size_extract]; omega) (by rw [hge]; omega))
    rw [hge] at HQ1
    clear hr hge hgl
    go_enter Try.func39, Try.ntmps39
    go_wp2_with fail
    refine HQ1.out.mono ?_
    rintro e w' ⟨rfl, rfl⟩
    go_wp2_with fail
    refine (rread_ex s 8 10 _ n (by omega) (by omega) HN.out).mono ?_
    rintro e w' ⟨rfl, rfl⟩
    by_cases hn2 : n ≤ 490
    · obtain ⟨T, HT⟩ : ∃ T, Hid (s.extract 10 (10 + n) = T) := ⟨_, hid rfl⟩
      have HTl : Hid (T.data.toList = (s.data.toList.drop 10).take n) := hid (by rw [← HT.out, extract_toList]; congr 1; omega)
      have htl : T.size ≤ 490 := by rw [← size_toList, HTl.out]; simp; omega
      have ht := HT.out
      go_wp2_with fail
      refine (rroot_any (g : Int) T _).mono ?_
      rintro e w1 ⟨t, rfl, h1, c1⟩
      have HH1 := hid h1
      have HC1 := hid c1
      clear h1 c1
      have hb2 : 10 + (n : Int) ≤ (s.size : Int) := by omega
      have hb3 : (10 : Int) ≤ 10 + (n : Int) := by omega
      have hb4 : (0 : Int) ≤ 10 + (n : Int) := by omega
      have hb5 : (10 : Int) + (n : Int) ≤ 512 := by omega
      have hw1 : IntKind.i64.wrap (10 + (n : Int)) = 10 + (n : Int) := wrap_id (by omega) (by omega)
      have hw3 : (10 + (n : Int)).toNat = 10 + n := by omega
      by_cases hq : srootL g T.data.toList = s.data.toList
      · have hqb := beq_str_eq (HH1.out.trans hq)
        have HO : Hid (rootL s.data.toList = some (g, T.data.toList)) := hid (by
          have hE : srootE g T.data.toList.length = 0 := by
            unfold srootL at hq
            split at hq
            · assumption
            · have := HL.out; rw [← hq] at this; cases this
          rw [srootL, if_pos hE, Int.toNat_natCast] at hq
          rcases srootE_cases g T.data.toList.length with ⟨h, h1⟩ | ⟨h, h1, h2, h3⟩ | ⟨h, h1, h2, h3⟩
          · omega
          · omega
          · rw [rootL, if_pos ⟨HL.out, by rw [HN.out]; exact hn2, by rw [HG.out]; omega, by rw [HN.out, HG.out, ← HTl.out]; exact hq⟩, HN.out, HG.out, HTl.out])
        clear hq
        go_wp2_with fail
        go_region
        all_goals go_wp2
        all_goals go_ret3
        all_goals exact ⟨by rw [HO.out]; rfl, HC1.out.drew⟩
      · have hqb := beq_str_ne (HH1.out.symm ▸ hq)
        have HO : Hid (rootL s.data.toList = none) := hid (by
          rw [rootL, if_neg]
          rw [HN.out, HG.out, ← HTl.out]
          intro h
          refine hq ?_
          rw [srootL, if_pos ?_, Int.toNat_natCast]
          · exact h.2.2.2
          · rcases srootE_cases g T.data.toList.length with ⟨h5, h1⟩ | ⟨h5, h1, h2, h3⟩ | ⟨h5, h1, h2, h3⟩
            · omega
            · rw [size_toList] at h1; omega
            · exact h5)
        clear hq
        go_wp2
        go_ret3
        exact ⟨by rw [HO.out]; rfl, HC1.out⟩
    · go_wp2
      go_ret3
      exact ⟨by rw [rootL, if_neg (by rw [HN.out]; omega)]; rfl, Ch.refl _ _⟩

theorem rrootopen_short (s : ByteArray) (w : World) (hs : s.size ≠ 512) (_hl : s.size ≤ 140737488355328) :
    Calls Try.prog 39 #[.string s] w fun e w' => e = .returned (rootV (rootL s.data.toList)) ∧ Ch (fun _ => False) w w' := by
  have HO : Hid (rootL s.data.toList = none) := hid (by rw [rootL, if_neg (fun h => hs h.1)])
  have hn : ((s.size : Int) != 512) = true := by rw [bne_iff_ne]; omega
  clear hs
  go_enter Try.func39, Try.ntmps39
  go_wp2
  go_ret3
  exact ⟨by rw [HO.out]; rfl, Ch.refl _ _⟩
theorem rrootopen_any (s : ByteArray) (w : World) (hl : s.size ≤ 140737488355328) :
    Calls Try.prog 39 #[.string s] w fun e w' => e = .returned (rootV (rootL s.data.toList)) ∧ Ch (fun _ => False) w w' := by
  by_cases h : s.size = 512
  · exact rrootopen_full s w h
  · exact rrootopen_short s w h hl
end

section
theorem rdl_be (x n : Nat) : rdl (be x n) = x % 256 ^ n := by
  induction n with
  | zero => simp [be, rdl, Nat.mod_one]
  | succ n ih =>
    rw [be, rdl_cons, be_length, ih, UInt8.toNat_ofNat', show (2 : Nat) ^ 8 = 256 from rfl, Nat.pow_succ, Nat.mod_mul, Nat.mul_comm, Nat.add_comm]

theorem cut_mid (p q r : List UInt8) (i n : Nat) (hi : i = p.length) (hn : n = q.length) : ((p ++ (q ++ r)).drop i).take n = q := by
  subst hi hn
  rw [List.drop_left, List.take_left]

theorem open_seal (k g : Nat) (s : List UInt8) (hk : k ≤ 255) (hg : g ≤ 281474976710655) (hs : s.length ≤ 492) : openL (sealB k g s) = some (k, g, s) := by
  have hrow := sealB_row k g s hs
  generalize (sumB (headB k g s.length ++ (zeros 4 ++ (zeros 4 ++ (s ++ zeros (492 - s.length)))))) = S at hrow
  have e1 : ((sealB k g s).drop 2).take 1 = be k 1 := by
    rw [hrow, show headB k g s.length ++ (be S 4 ++ (zeros 4 ++ (s ++ zeros (492 - s.length)))) = [72, 118] ++ (be k 1 ++ ([0] ++ be s.length 2 ++ be g 6 ++ (be S 4 ++ (zeros 4 ++ (s ++ zeros (492 - s.length)))))) by simp [headB]]
    exact cut_mid _ _ _ _ _ rfl (be_length _ _).symm
  have e2 : ((sealB k g s).drop 4).take 2 = be s.length 2 := by
    rw [hrow, show headB k g s.length ++ (be S 4 ++ (zeros 4 ++ (s ++ zeros (492 - s.length)))) = ([72, 118] ++ be k 1 ++ [0]) ++ (be s.length 2 ++ (be g 6 ++ (be S 4 ++ (zeros 4 ++ (s ++ zeros (492 - s.length)))))) by simp [headB]]
    exact cut_mid _ _ _ _ _ (by simp [be_length]) (be_length _ _).symm
  have e3 : ((sealB k g s).drop 6).take 6 = be g 6 := by
    rw [hrow, show headB k g s.length ++ (be S 4 ++ (zeros 4 ++ (s ++ zeros (492 - s.length)))) = ([72, 118] ++ be k 1 ++ [0] ++ be s.length 2) ++ (be g 6 ++ (be S 4 ++ (zeros 4 ++ (s ++ zeros (492 - s.length))))) by simp [headB]]
    exact cut_mid _ _ _ _ _ (by simp [be_length]) (be_length _ _).symm
  have e4 : ((sealB k g s).drop 20).take s.length = s := by
    rw [hrow, show headB k g s.length ++ (be S 4 ++ (zeros 4 ++ (s ++ zeros (492 - s.length)))) = (headB k g s.length ++ (be S 4 ++ zeros 4)) ++ (s ++ zeros (492 - s.length)) by simp]
    exact cut_mid _ _ _ _ _ (by simp [headB_length, be_length, zeros_length]) rfl
  have r1 : rdl (be k 1) = k := by rw [rdl_be]; exact Nat.mod_eq_of_lt (by omega)
  have r2 : rdl (be s.length 2) = s.length := by rw [rdl_be]; exact Nat.mod_eq_of_lt (by omega)
  have r3 : rdl (be g 6) = g := by rw [rdl_be]; exact Nat.mod_eq_of_lt (by omega)
  rw [openL, e1, e2, e3, r1, r2, r3, e4, if_pos ⟨sealB_length _ _ _, hs, rfl⟩]

theorem open_some {l : List UInt8} {k g : Nat} {s : List UInt8} (h : openL l = some (k, g, s)) : l.length = 512 ∧ k ≤ 255 ∧ g ≤ 281474976710655 ∧ s.length ≤ 492 ∧ sealB k g s = l := by
  unfold openL at h
  split at h
  · rename_i hc
    simp only [Option.some.injEq, Prod.mk.injEq] at h
    obtain ⟨rfl, rfl, rfl⟩ := h
    refine ⟨hc.1, ?_, ?_, ?_, hc.2.2⟩
    · have := rdl_take_lt l 2 1; omega
    · have := rdl_take_lt l 6 6; omega
    · simp; omega
  · cases h

theorem root_seal (g : Nat) (s : List UInt8) (h1 : 1 ≤ g) (hg : g ≤ 4611686018427387904) (hs : s.length ≤ 490) : rootL (rootB g s) = some (g, s) := by
  have hrow := rootB_row g s hs
  have e1 : (rootB g s).take 8 = be g 8 := by
    rw [hrow]
    have := cut_mid [] (be g 8) (be s.length 2 ++ (s ++ (zeros (494 - s.length) ++ be g 8))) 0 8 rfl (be_length _ _).symm
    simpa using this
  have e2 : ((rootB g s).drop 8).take 2 = be s.length 2 := by
    rw [hrow]
    exact cut_mid _ _ _ _ _ (be_length _ _).symm (be_length _ _).symm
  have e3 : ((rootB g s).drop 10).take s.length = s := by
    rw [hrow, ← List.append_assoc]
    exact cut_mid _ _ _ _ _ (by simp [be_length]) rfl
  have r1 : rdl (be g 8) = g := by rw [rdl_be]; exact Nat.mod_eq_of_lt (by omega)
  have r2 : rdl (be s.length 2) = s.length := by rw [rdl_be]; exact Nat.mod_eq_of_lt (by omega)
  rw [rootL, e1, e2, r1, r2, e3, if_pos ⟨rootB_length _ _, hs, ⟨h1, hg⟩, rfl⟩]

theorem root_some {l : List UInt8} {g : Nat} {s : List UInt8} (h : rootL l = some (g, s)) : l.length = 512 ∧ 1 ≤ g ∧ g ≤ 4611686018427387904 ∧ s.length ≤ 490 ∧ rootB g s = l := by
  unfold rootL at h
  split at h
  · rename_i hc
    simp only [Option.some.injEq, Prod.mk.injEq] at h
    obtain ⟨rfl, rfl⟩ := h
    refine ⟨hc.1, hc.2.2.1.1, hc.2.2.1.2, ?_, hc.2.2.2⟩
    simp; omega
  · cases h

theorem seal_head (k g : Nat) (s : List UInt8) (hs : s.length ≤ 492) : (sealB k g s).take 12 = headB k g s.length := by
  rw [sealB_row k g s hs]
  have h := headB_length k g s.length
  rw [← h, List.take_left]
end

section
theorem be_inj8 {a b : Nat} (ha : a ≤ 4611686018427387904) (hb : b ≤ 4611686018427387904) (h : be a 8 = be b 8) : a = b := by
  have := congrArg rdl h
  rw [rdl_be, rdl_be, Nat.mod_eq_of_lt (by omega), Nat.mod_eq_of_lt (by omega)] at this
  exact this
theorem rootB_first (g : Nat) (s : List UInt8) (hs : s.length ≤ 490) : (rootB g s).take 8 = be g 8 := by
  rw [rootB_row g s hs]
  exact List.take_left' (be_length g 8)
theorem rootB_last (g : Nat) (s : List UInt8) (hs : s.length ≤ 490) : (rootB g s).drop 504 = be g 8 := by
  rw [rootB_row g s hs, ← List.append_assoc, ← List.append_assoc, ← List.append_assoc]
  exact List.drop_left' (by simp [be_length, zeros_length]; omega)

theorem torn {a b : Nat} {s t : List UInt8} {cut g : Nat} {u : List UInt8} (ha : a ≤ 4611686018427387904) (hb : b ≤ 4611686018427387904) (hs : s.length ≤ 490) (ht : t.length ≤ 490) (hab : a ≠ b)
    (hcut : cut ≤ 512) (h : rootL ((rootB a s).take cut ++ (rootB b t).drop cut) = some (g, u)) :
    (g = a ∧ (rootB a s).take cut ++ (rootB b t).drop cut = rootB a s) ∨ (g = b ∧ (rootB a s).take cut ++ (rootB b t).drop cut = rootB b t) := by
  obtain ⟨_, _, hg2, hu, hz⟩ := root_some h
  have hX := rootB_length a s
  have hY := rootB_length b t
  have hXf := rootB_first a s hs
  have hXl := rootB_last a s hs
  have hYf := rootB_first b t ht
  have hYl := rootB_last b t ht
  have hZf := rootB_first g u hu
  have hZl := rootB_last g u hu
  rw [hz] at hZf hZl
  generalize rootB a s = X at *
  generalize rootB b t = Y at *
  have hlt : (X.take cut).length = cut := by simp; omega
  by_cases h1 : cut ≤ 504
  · have e : (X.take cut ++ Y.drop cut).drop 504 = Y.drop 504 := by
      rw [List.drop_append, hlt, List.drop_drop, List.drop_eq_nil_of_le (by omega), List.nil_append]
      congr 1; omega
    rw [e, hYl] at hZl
    have hgb := be_inj8 hb hg2 hZl
    subst hgb
    by_cases h2 : 8 ≤ cut
    · exfalso
      have e2 : (X.take cut ++ Y.drop cut).take 8 = X.take 8 := by
        rw [List.take_append_of_le_length (by omega), List.take_take]
        congr 1; omega
      rw [e2, hXf] at hZf
      exact hab (be_inj8 ha hb hZf)
    · refine .inr ⟨rfl, ?_⟩
      have e3 : (X.take cut ++ Y.drop cut).drop 8 = Y.drop 8 := by
        rw [List.drop_append, hlt, List.drop_drop, List.drop_eq_nil_of_le (by omega), List.nil_append]
        congr 1; omega
      rw [← List.take_append_drop 8 (X.take cut ++ Y.drop cut), e3, hZf, ← hYf, List.take_append_drop]
  · have e2 : (X.take cut ++ Y.drop cut).take 8 = X.take 8 := by
      rw [List.take_append_of_le_length (by omega), List.take_take]
      congr 1; omega
    rw [e2, hXf] at hZf
    have hga := be_inj8 ha hg2 hZf
    subst hga
    refine .inl ⟨rfl, ?_⟩
    have e3 : (X.take cut ++ Y.drop cut).take 504 = X.take 504 := by
      rw [List.take_append_of_le_length (by omega), List.take_take]
      congr 1; omega
    rw [← List.take_append_drop 504 (X.take cut ++ Y.drop cut), e3, hZl, ← hXl, List.take_append_drop]
end

end Go.Proofs.Ytadhibemadgcoaa
