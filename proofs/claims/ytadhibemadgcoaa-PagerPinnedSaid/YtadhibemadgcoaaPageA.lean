/- What the small functions of package page do to memory. Conditions: as each theorem says. -/
import Derived.Test.YtadhibemadgcoaaRows
import Derived.Test.YtadhibemadgcoaaPagePure
import Derived.WalkLawsBesides
import Derived.Deep.QuietTactic
import Derived.BigQuiet
import Derived.StillTailTactics
import Derived.Deep.RegionLaw
namespace Go.Proofs.Ytadhibemadgcoaa
open Go.RowKit

/-- A sector under way: its two cells at block a, its 512 bytes at block b, the place i. -/
def AtB (w : World) (a b : Nat) (l : List UInt8) (i : Nat) : Prop :=
  w.heap[a]? = some (.cells #[.slice (some ⟨b, 0, none⟩) 512 512, .int .i64 (i : Int)] 136 (0, 0)) ∧
  w.heap[b]? = some (.cells (bcells l).toArray 5 (0, 0)) ∧ l.length = 512 ∧ a ≠ b

theorem AtB.frame {w w' : World} {a b : Nat} {l : List UInt8} {i : Nat} (h : AtB w a b l i) (ha : w'.heap[a]? = w.heap[a]?) (hb : w'.heap[b]? = w.heap[b]?) : AtB w' a b l i :=
  ⟨ha.trans h.1, hb.trans h.2.1, h.2.2⟩
theorem AtB.put {w : World} {a b : Nat} {l : List UInt8} {i : Nat} (h : AtB w a b l i) (c : UInt8) (j : Nat) (v : Value) (hv : v = .int .u8 (c.toNat : Int)) : AtB (w.setCell ⟨b, j, none⟩ v) a b (l.set j c) i := by
  obtain ⟨h1, h2, h3, h4⟩ := h
  subst hv
  exact ⟨heap_set_ne h1 h4 _, by rw [heap_set h2, bcells_set], by simp [h3], h4⟩
theorem AtB.go {w : World} {a b : Nat} {l : List UInt8} {i : Nat} (h : AtB w a b l i) (j : Nat) (v : Value) (hv : v = .int .i64 (j : Int)) : AtB (w.setCell ⟨a, 1, none⟩ v) a b l j := by
  obtain ⟨h1, h2, h3, h4⟩ := h
  subst hv
  exact ⟨by rw [heap_set h1]; rfl, heap_set_ne h2 (Ne.symm h4) _, h3, h4⟩

theorem bts_cells {w : World} {b : Nat} {l : List UInt8} {e : TypeId} {fz : Nat × Nat} {cs : List Value} (h : w.heap[b]? = some (.cells (bcells l ++ cs).toArray e fz)) (cap : Nat) (hcap : l.length ≤ cap) : Bts w (.slice (some ⟨b, 0, none⟩) l.length cap) l :=
  .inr ⟨b, 0, cap, _, e, fz, rfl, hcap, h, fun j hj => by
    rw [List.getElem?_toArray, Nat.zero_add, List.getElem?_append_left (by rw [bcells_length]; exact hj)]
    exact bcells_get l j hj⟩
theorem AtB.bts {w : World} {a b : Nat} {l : List UInt8} {i : Nat} (h : AtB w a b l i) : Bts w (.slice (some ⟨b, 0, none⟩) 512 512) l := by
  have := bts_cells (cs := []) (by simpa using h.2.1) 512 (by rw [h.2.2.1]; omega)
  rwa [h.2.2.1] at this

set_option maxHeartbeats 400000 in
theorem number_any (a b : Nat) (l : List UInt8) (i x n : Nat) (w : World) (_hx : x ≤ 4611686018427387904) (hn : n ≤ 8) (hi : i + n ≤ 512) (hA : AtB w a b l i) :
    Calls Try.prog 84 #[.pointer (some ⟨a, 0, none⟩), .int .i64 x, .int .i64 n] w fun e w' =>
      e = .returned (.tuple #[]) ∧ AtB w' a b (putAt l i (be x n)) (i + n) ∧ Ch (fun k => k = a ∨ k = b) w w' := by
  have HA := hid hA
  have hne1 : a ≠ b := hA.2.2.2
  have hne2 : b ≠ a := Ne.symm hne1
  clear hA
  go_enter Try.func84, Try.ntmps84
  go_wp2
  go_loopw [6] (fun v wr => ∃ (m ci : Nat) (lc : List UInt8), v = .int .i64 ((m : Int) - 1) ∧ m ≤ n ∧ Hid (AtB wr a b lc ci) ∧ Hid (ci + m = i + n) ∧ Hid (putAt lc ci (be x m) = putAt l i (be x n)) ∧ Ch (fun k => k = a ∨ k = b) w wr) (fun v _ => (intOf v + 1).toNat)
  case atStart => exact ⟨n, i, l, rfl, Nat.le_refl _, HA, rfl, rfl, Ch.refl _ _⟩
  case round =>
    obtain ⟨m, ci, lc, rfl, hm, HC, HI, HP, hch⟩ := hrel
    have hc0 := cell_blk HC.out.1 0
    have hc1 := cell_blk HC.out.1 1
    have hf1 := frozen_blk HC.out.1 1
    have hv := cell_blk HC.out.2.1 ci
    have hfv := frozen_blk HC.out.2.1 ci
    have hlen := HC.out.2.2.1
    simp at hc0 hc1
    rcases m with _ | m
    · go_wp2
      go_end0
      have e1 := HP.out
      have e2 := HI.out
      simp only [be, putAt] at e1
      refine ⟨rfl, ?_, hch⟩
      rw [← e1]
      have : ci = i + n := by omega
      rw [← this]; exact HC.out
    · have hcl : ci < 512 := by have := HI.out; omega
      obtain ⟨c, hcc⟩ : ∃ c, lc[ci]? = some c := ⟨lc[ci]'(by omega), by simp⟩
      rw [List.getElem?_toArray, bcells, List.getElem?_map, hcc] at hv
      simp at hv
      have HL := hid hlen
      clear hlen hcc
      go_wp2
      go_region
      all_goals go_wp2
      all_goals go_roundw
      case rel =>
        refine ⟨m, ci + 1, lc.set ci (UInt8.ofNat (x / 256 ^ m)), by go_num, by omega, ?_, ?_, HP.out, ?_⟩
        · exact hid (((HC.out.put _ ci _ (by rw [byte_of])).go (ci + 1) _ (by go_num)).frame rfl rfl)
        · have := HI.out; show ci + 1 + m = i + n; omega
        · exact ((hch.setCell (fun _ => .inr rfl) _).setCell (fun _ => .inl rfl) _).drew
      case measure => simp [intOf]

set_option maxHeartbeats 400000 in
theorem take_any (a : Nat) (l : List UInt8) (i n : Nat) (w : World) (b off cap : Nat) (cs : Array Value) (e : TypeId) (fz : Nat × Nat) (hn : n ≤ 8) (hi : i + n ≤ l.length)
    (hlen : l.length ≤ 140737488355328) (hb : w.heap[b]? = some (.cells cs e fz)) (hcs : ∀ j, (h : j < l.length) → cs[off + j]? = some (.int .u8 (l[j].toNat : Int)))
    (ha : w.heap[a]? = some (.cells #[.slice (some ⟨b, off, none⟩) l.length cap, .int .i64 (i : Int)] 136 (0, 0))) (hab : a ≠ b) :
    Calls Try.prog 88 #[.pointer (some ⟨a, 0, none⟩), .int .i64 n] w fun e w' =>
      e = .returned (.int .i64 (wrap64 (rdl ((l.drop i).take n) : Nat))) ∧ Ch (fun k => k = a) w w' ∧
      w'.heap[a]? = some (.cells #[.slice (some ⟨b, off, none⟩) l.length cap, .int .i64 ((i + n : Nat) : Int)] 136 (0, 0)) := by
  have HA := hid ha
  have HB := hid hb
  have HCS := hid hcs
  have hne2 : b ≠ a := Ne.symm hab
  clear ha hb hcs
  go_enter Try.func88, Try.ntmps88
  go_wp2
  go_loopw [5, 7] (fun x k wr => ∃ (j : Nat), Hid (x = .int .i64 (wrap64 (rdl ((l.drop i).take j) : Nat))) ∧ k = .int .i64 j ∧ j ≤ n ∧ Hid (wr.heap[a]? = some (.cells #[.slice (some ⟨b, off, none⟩) l.length cap, .int .i64 ((i + j : Nat) : Int)] 136 (0, 0))) ∧ Hid (wr.heap[b]? = some (.cells cs e fz)) ∧ Ch (fun k => k = a) w wr) (fun _ k _ => n - (intOf k).toNat)
  case atStart => exact ⟨0, hid (by simp [rdl, wrap64]), rfl, by omega, HA, HB, Ch.refl _ _⟩
  case round =>
    obtain ⟨j, HX, rfl, hj, HC, HB2, hch⟩ := hrel
    have hc0 := cell_blk HC.out 0
    have hc1 := cell_blk HC.out 1
    have hf1 := frozen_blk HC.out 1
    have hv := cell_blk HB2.out (off + (i + j))
    simp at hc0 hc1
    by_cases hlt : j < n
    · rw [HCS.out (i + j) (by omega)] at hv
      have hil : i + j < l.length := by omega
      have HS := hid (take_snoc_at l i j hil)
      have hc256 : (l[i + j]).toNat < 256 := (l[i + j]).toNat_lt
      have HC256 := hid hc256
      obtain ⟨c, HCc⟩ : ∃ c : Nat, Hid ((l[i + j]).toNat = c) := ⟨_, hid rfl⟩
      rw [HCc.out] at hv hc256
      obtain ⟨z, HZ⟩ : ∃ z : Nat, Hid (rdl ((l.drop i).take j) = z) := ⟨_, hid rfl⟩
      rw [HZ.out] at HX
      have HX := HX.out
      subst HX
      go_wp2
      go_region
      all_goals go_wp2
      all_goals go_roundw
      case rel =>
        refine ⟨j + 1, hid ?_, by go_num, by omega, hid ?_, hid (heap_set_ne HB2.out hne2 _), (hch.setCell (fun _ => rfl) _).drew⟩
        · rw [or_step _ _ hc256, HS.out, rdl_snoc, HZ.out, HCc.out]; congr 2
        · show (wr.setCell ⟨a, 1, none⟩ _).heap[a]? = _
          rw [heap_set HC.out]
          simp
          omega
      case measure => simp [intOf]; omega
    · have HX := HX.out
      subst HX
      go_wp2
      go_ret
      obtain rfl : j = n := by omega
      exact ⟨rfl, hch, HC.out⟩

set_option maxHeartbeats 400000 in
theorem text_any (a b : Nat) (l : List UInt8) (i : Nat) (s : ByteArray) (w : World) (hi : i + s.size ≤ 512) (hi2 : i < 512) (hA : AtB w a b l i) :
    Calls Try.prog 85 #[.pointer (some ⟨a, 0, none⟩), .string s] w fun e w' =>
      e = .returned (.tuple #[]) ∧ AtB w' a b (putAt l i s.data.toList) (i + s.size) ∧ Ch (fun k => k = a ∨ k = b) w w' := by
  have HA := hid hA
  have hne1 : a ≠ b := hA.2.2.2
  have hne2 : b ≠ a := Ne.symm hne1
  have hc0 := cell_blk hA.1 0
  have hc1 := cell_blk hA.1 1
  have hf1 := frozen_blk hA.1 1
  simp at hc0 hc1
  clear hA
  have hi3 : (i : Int) ≤ 512 := by omega
  have hi4 : ¬ 512 = i := by omega
  go_enter Try.func85, Try.ntmps85
  go_wp2
  go_region_law (refine step_copy_run rfl _ _ _ _ rfl _ _ (run_copy_str (P := Try.prog) _ _ _ _ 5 b i (512 - i) (512 - i) s l 5 Try.underlying35 (by kernel_rfl) HA.out.2.1 (by omega) (by have := HA.out.2.2.1; omega)) ?_)
  all_goals go_wp2
  all_goals go_end0
  all_goals
    refine ⟨rfl, ?_, (((Ch.refl _ w).drew.setRow (fun _ => .inr rfl) _).setCell (fun _ => .inl rfl) _)⟩
    have hA := HA.out
    refine AtB.go (l := putAt l i s.data.toList) (i := i) ⟨?_, ?_, ?_, hne1⟩ _ _ ?_
    · rw [heap_setRow_ne hne1]; exact hA.1
    · rw [setRow_heap w.drew b (bcells l).toArray _ 5 (0, 0) hA.2.1, putAt_eq _ _ _ (by rw [hA.2.2.1]; exact hi)]
      simp
    · rw [putAt_length]; exact hA.2.2.1
    · rw [wrap_id (by omega) (by omega), Int.natCast_add]

end Go.Proofs.Ytadhibemadgcoaa
