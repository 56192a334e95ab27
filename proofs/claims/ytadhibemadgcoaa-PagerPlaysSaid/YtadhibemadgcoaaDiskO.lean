/- The disk laws' calls: how a list of them lies in memory; few, Act.bytes. Conditions: as each theorem says. -/
import Derived.Test.YtadhibemadgcoaaDiskOne
namespace Go.Proofs.Ytadhibemadgcoaa
open Go.RowKit

theorem Kps.ch2 {S : Nat → Prop} {w w' : World} {v : Value} {l : List (Int × Int)} (h : Kps w v l) (hc : Ch S w w') (hn : ∀ k, k < w.heap.size → ¬ S k) : Kps w' v l := by
  rcases h with h | ⟨b, off, cap, cs, e, fz, rfl, hb, hcs⟩
  · exact .inl h
  · exact .inr ⟨b, off, cap, cs, e, fz, rfl, hc.keep hb (hn b (blk_lt hb)), hcs⟩
/-- A call of a law's, as its argument tells it. -/
structure AcV where
  kind : Int
  at_ : Int
  n : Int
  by_ : UInt8
  kv : Value
  kept : List (Int × Int)
/-- v is a slice of calls that reads as l. -/
def Acs (w : World) (v : Value) (l : List AcV) : Prop :=
  (∃ a cap, v = .slice a 0 cap ∧ l = []) ∨ ∃ b off cap cs e fz, v = .slice (some ⟨b, off, none⟩) l.length cap ∧ w.heap[b]? = some (.cells cs e fz) ∧
    ∀ (j : Nat) (x : AcV), l[j]? = some x → cs[off + j * 5]? = some (.int .i64 x.kind) ∧ cs[off + j * 5 + 1]? = some (.int .i64 x.at_) ∧ cs[off + j * 5 + 2]? = some (.int .i64 x.n) ∧ cs[off + j * 5 + 3]? = some (.int .u8 (x.by_.toNat : Int)) ∧
      cs[off + j * 5 + 4]? = some x.kv ∧ Kps w x.kv x.kept ∧ x.n ≤ 9223372036854775807
theorem Acs.ch {S : Nat → Prop} {w w' : World} {v : Value} {l : List AcV} (h : Acs w v l) (hc : Ch S w w') (hn : ∀ k, k < w.heap.size → ¬ S k) : Acs w' v l := by
  rcases h with h | ⟨b, off, cap, cs, e, fz, rfl, hb, hcs⟩
  · exact .inl h
  · refine .inr ⟨b, off, cap, cs, e, fz, rfl, hc.keep hb (hn b (blk_lt hb)), fun j x hx => ?_⟩
    obtain ⟨h1, h2, h3, h4, h5, h6, h7⟩ := hcs j x hx
    exact ⟨h1, h2, h3, h4, h5, h6.ch2 hc hn, h7⟩
/-- What a call's five cells hold. -/
structure AcAt (w : World) (b o : Nat) (x : AcV) : Prop where
  c0 : w.cell? ⟨b, o, none⟩ = some (.int .i64 x.kind)
  c1 : w.cell? ⟨b, o + 1, none⟩ = some (.int .i64 x.at_)
  c2 : w.cell? ⟨b, o + 2, none⟩ = some (.int .i64 x.n)
  c3 : w.cell? ⟨b, o + 3, none⟩ = some (.int .u8 (x.by_.toNat : Int))
  c4 : w.cell? ⟨b, o + 4, none⟩ = some x.kv
  kept : Kps w x.kv x.kept
  n : x.n ≤ 9223372036854775807
  lt : b < w.heap.size
theorem Acs.get {w : World} {a : Option Addr} {n cap : Nat} {l : List AcV} (h : Acs w (.slice a n cap) l) {j : Nat} {x : AcV} (hx : l[j]? = some x) :
    ∃ b off, a = some ⟨b, off, none⟩ ∧ AcAt w b (off + j * 5) x := by
  rcases h with ⟨_, _, h, rfl⟩ | ⟨b, off, c, cs, e, fz, h, hb, hcs⟩
  · simp at hx
  · cases h
    obtain ⟨h1, h2, h3, h4, h5, h6, h7⟩ := hcs j x hx
    exact ⟨b, off, rfl, by rw [cell_blk hb]; exact h1, by rw [cell_blk hb]; exact h2, by rw [cell_blk hb]; exact h3, by rw [cell_blk hb]; exact h4, by rw [cell_blk hb]; exact h5, h6, h7, blk_lt hb⟩

/-- few: a bool; where it says yes, the calls are 80 at the most, and their keeps 400. -/
def FewPost (w : World) (l : List AcV) (e : Ending) (w' : World) : Prop := ∃ b : Bool, e = .returned (.bool b) ∧ w = w' ∧ (b = true → l.length ≤ 80 ∧ ∀ x ∈ l, x.kept.length ≤ 400)

set_option maxRecDepth 20000 in
set_option maxHeartbeats 1000000 in
theorem few_any (a : Option Addr) (cap : Nat) (l : List AcV) (w : World) (h : Acs w (.slice a l.length cap) l) :
    Calls Try.prog 46 #[.slice a l.length cap] w (FewPost w l) := by
  have HA := hid h
  clear h
  by_cases hbig : 80 < l.length
  · go_enter Try.func46, Try.ntmps46
    go_wp2
    go_loop [3, 4] (fun s i => ∃ (j : Nat) (S : Int), i = .int .i64 (j : Int) ∧ s = .int .i64 S ∧ j ≤ 81) (fun _ i => 100 - (intOf i).toNat)
    case atStart => exact ⟨0, l.length, rfl, rfl, by omega⟩
    case round =>
      obtain ⟨j, S, rfl, rfl, hj81⟩ := hrel
      by_cases h80 : j ≤ 80
      · have hlt : j < l.length := by omega
        obtain ⟨x, HX⟩ : ∃ x, Hid (l[j]? = some x) := ⟨l[j]'hlt, hid (List.getElem?_eq_getElem _)⟩
        obtain ⟨b, off, rfl, hat⟩ := HA.out.get HX.out
        obtain ⟨ka, kcap, hkv⟩ := hat.kept.form
        have hc4 := hat.c4
        rw [hkv] at hc4
        clear hat hkv
        go_wp2
        go_round
        case rel => exact ⟨j + 1, _, by go_num, rfl, by omega⟩
        case measure => simp [intOf]; omega
      · by_cases hlt : j < l.length
        · go_wp2
          go_ret
          exact ⟨false, rfl, rfl, fun h => by cases h⟩
        · go_wp2
          go_ret
          exact ⟨false, rfl, rfl, fun h => by cases h⟩
  have hl80 : l.length ≤ 80 := by omega
  clear hbig
  go_enter Try.func46, Try.ntmps46
  go_wp2
  go_loop [3, 4] (fun s i => ∃ (j : Nat) (S : Int), i = .int .i64 (j : Int) ∧ s = .int .i64 S ∧ j ≤ l.length ∧ l.length ≤ S ∧ S ≤ (l.length : Int) + 1000 * j ∧ Hid (∀ x ∈ l.take j, min (x.kept.length : Int) 1000 ≤ S)) (fun _ i => 100 - (intOf i).toNat)
  case atStart => exact ⟨0, l.length, rfl, rfl, by omega, by omega, by omega, hid (by simp)⟩
  case round =>
    obtain ⟨j, S, rfl, rfl, hj, hS1, hS2, HS⟩ := hrel
    by_cases hlt : j < l.length
    · have h80 : j ≤ 80 := by omega
      obtain ⟨x, HX⟩ : ∃ x, Hid (l[j]? = some x) := ⟨l[j]'hlt, hid (List.getElem?_eq_getElem _)⟩
      obtain ⟨b, off, rfl, hat⟩ := HA.out.get HX.out
      obtain ⟨ka, kcap, hkv⟩ := hat.kept.form
      have hc4 := hat.c4
      rw [hkv] at hc4
      have HN : Hid (l.take (j + 1) = l.take j ++ [x]) := hid (by rw [List.take_add_one, HX.out]; rfl)
      clear hat hkv
      obtain ⟨m, hm1, hm2, hm3⟩ : ∃ m : Int, Hid ((if 1000 < (x.kept.length : Int) then 1000 else (x.kept.length : Int)) = m) ∧ 0 ≤ m ∧ m ≤ 1000 := ⟨_, hid rfl, by split <;> omega, by split <;> omega⟩
      go_wp2
      rw [hm1.out]
      go_round
      case rel =>
        refine ⟨j + 1, S + m, by go_num, ?_, by omega, by omega, by omega, hid (fun y hy => ?_)⟩
        · rfl
        rw [HN.out] at hy
        rcases List.mem_append.1 hy with hy | hy
        · have := HS.out y hy; omega
        · simp at hy; subst hy; have := hm1.out; split at this <;> omega
      case measure => simp [intOf]; omega
    · obtain rfl : j = l.length := by omega
      by_cases h400 : S ≤ 400
      · go_wp2
        go_ret
        refine ⟨true, rfl, rfl, fun _ => ⟨hl80, fun x hx => ?_⟩⟩
        have := HS.out x (by rw [List.take_length]; exact hx)
        omega
      · go_wp2
        go_ret
        exact ⟨false, rfl, rfl, fun h => by cases h⟩

/-- The bytes of a call. -/
def actB (n : Int) (c : UInt8) : List UInt8 :=
  if 0 ≤ n then (ofB c).take (min n.toNat 512) else ((ofB c).set 0 (UInt8.ofNat (n % 256).toNat)).set 500 (UInt8.ofNat (n % 256).toNat)
theorem actB_length (n : Int) (c : UInt8) : (actB n c).length ≤ 512 := by
  unfold actB; split <;> simp [ofB_length]; omega

theorem SecIn.set {w' : World} {x : Nat × Nat} {l : List UInt8} {cur : Array Value} (h1 : l.length = 512) (h2 : 512 ≤ x.2) (hc : 512 ≤ cur.size) (ht : cur.toList.take 512 = bcells l) (i : Nat) (c : UInt8)
    (h : w'.heap[x.1]? = some (.cells (cur.setIfInBounds i (.int .u8 (c.toNat : Int))) 5 (0, 0))) : SecIn w' x (l.set i c) := by
  refine ⟨by simpa using h1, h2, _, h, by simpa using hc, ?_⟩
  rw [Array.toList_setIfInBounds, List.take_set, ht]
  simp [bcells, List.map_set]
theorem u8_mod (n : Int) : n % 256 = ((UInt8.ofNat (n % 256).toNat).toNat : Int) := by
  rw [UInt8.toNat_ofNat', show (2 : Nat) ^ 8 = 256 from rfl]
  omega

set_option maxRecDepth 20000 in
set_option maxHeartbeats 1000000 in
theorem bytes_any (k a n : Int) (c : UInt8) (kv : Value) (w : World) (hn : n ≤ 9223372036854775807) :
    Calls Try.prog 77 #[.agg #[.int .i64 k, .int .i64 a, .int .i64 n, .int .u8 (c.toNat : Int), kv]] w fun e w' => ∃ b cap, e = .returned (.slice (some ⟨b, 0, none⟩) (actB n c).length cap) ∧
      Bts w' (.slice (some ⟨b, 0, none⟩) (actB n c).length cap) (actB n c) ∧ Ch (fun _ => False) w w' ∧ w.heap.size ≤ b ∧ b < w'.heap.size := by
  have HOf := hid (of_any c)
  by_cases h0 : 0 ≤ n
  · by_cases h5 : n < 512
    · obtain ⟨m, rfl⟩ := Int.eq_ofNat_of_zero_le h0
      have hm : m < 512 := by omega
      have HE : Hid (actB (m : Int) c = (ofB c).take m) := hid (by rw [actB, if_pos h0]; congr 1; omega)
      have HL : Hid ((actB (m : Int) c).length = m) := hid (by rw [HE.out]; simp [ofB_length]; omega)
      go_enter Try.func77, Try.ntmps77
      go_wp2_with fail
      refine (HOf.out _).mono ?_
      rintro e w1 ⟨rfl, hs, hc⟩
      have hc2 : w1.cell? ⟨w.heap.size, 2, none⟩ = some (.int .i64 (m : Int)) := by
        rw [cell_blk (hc.keep (heap_new _) (fun h => h))]; rfl
      have HB := hid hs.bts
      have HZ := hid (show w.heap.size + 1 < w1.heap.size by obtain ⟨_, _, cur, h3, _⟩ := hs; simpa using blk_lt h3)
      have HC := hid (((Ch.refl (fun _ => False) w).alloc _).trans hc)
      clear hs hc
      go_wp2
      go_ret
      refine ⟨w.heap.size + 1, 512, by rw [HL.out]; rfl, ?_, HC.out, by omega, HZ.out⟩
      rw [HL.out, HE.out]
      have := Bts.less (k := m) HB.out (by omega)
      simpa using this
    · have HE : Hid (actB n c = ofB c) := hid (by rw [actB, if_pos h0, show min n.toNat 512 = 512 by omega, ← ofB_length c, List.take_length])
      have HL : Hid ((actB n c).length = 512) := hid (by rw [HE.out, ofB_length])
      have h51 : 512 ≤ n := by omega
      clear h5
      go_enter Try.func77, Try.ntmps77
      go_wp2_with fail
      refine (HOf.out _).mono ?_
      rintro e w1 ⟨rfl, hs, hc⟩
      have hc2 : w1.cell? ⟨w.heap.size, 2, none⟩ = some (.int .i64 n) := by
        rw [cell_blk (hc.keep (heap_new _) (fun h => h))]; rfl
      have HB := hid hs.bts
      have HZ := hid (show w.heap.size + 1 < w1.heap.size by obtain ⟨_, _, cur, h3, _⟩ := hs; simpa using blk_lt h3)
      have HC := hid (((Ch.refl (fun _ => False) w).alloc _).trans hc)
      clear hs hc
      have hX : (if 512 < n then 512 else n) = 512 := by split <;> omega
      go_wp2
      go_ret
      refine ⟨w.heap.size + 1, 512, by rw [HL.out]; rfl, ?_, HC.out, by omega, HZ.out⟩
      rw [HL.out, HE.out]
      simpa [secV] using HB.out
  · have h0b : n < 0 := by omega
    obtain ⟨u, HU⟩ : ∃ u : UInt8, Hid (n % 256 = (u.toNat : Int)) := ⟨_, hid (u8_mod n)⟩
    have HE : Hid (actB n c = ((ofB c).set 0 u).set 500 u) := hid (by
      rw [actB, if_neg h0]
      have : UInt8.ofNat (n % 256).toNat = u := by
        rw [HU.out, Int.toNat_natCast, UInt8.ofNat_toNat]
      rw [this])
    have HL : Hid ((actB n c).length = 512) := hid (by rw [HE.out]; simp [ofB_length])
    have hw8 : IntKind.u8.wrap n = (u.toNat : Int) := by rw [IntKind.wrap_u8]; exact HU.out
    clear h0
    go_enter Try.func77, Try.ntmps77
    go_wp2_with fail
    refine (HOf.out _).mono ?_
    rintro e w1 ⟨rfl, hs, hc⟩
    have hc2 : w1.cell? ⟨w.heap.size, 2, none⟩ = some (.int .i64 n) := by
      rw [cell_blk (hc.keep (heap_new _) (fun h => h))]; rfl
    obtain ⟨_, _, cur, h3, h4, h5⟩ := hs
    have h3b : w1.heap[w.heap.size + 1]? = some (.cells cur 5 (0, 0)) := by simpa using h3
    have hz : w.heap.size + 1 < w1.heap.size := blk_lt h3b
    have hf0 := frozen_blk h3b 0
    have hf5 := frozen_blk h3b 500
    have k0 : w1.cell? ⟨w.heap.size + 1, 0, none⟩ = some (cur[0]'(by omega)) := by rw [cell_blk h3b, Array.getElem?_eq_getElem]
    have k5 : w1.cell? ⟨w.heap.size + 1, 500, none⟩ = some (cur[500]'(by omega)) := by rw [cell_blk h3b, Array.getElem?_eq_getElem]
    obtain ⟨x0, hx0⟩ : ∃ x, x = cur[0]'(by omega) := ⟨_, rfl⟩
    obtain ⟨x5, hx5⟩ : ∃ x, x = cur[500]'(by omega) := ⟨_, rfl⟩
    rw [← hx0] at k0
    rw [← hx5] at k5
    have HC := hid (((Ch.refl (fun _ => False) w).alloc _).trans hc)
    have H3 := hid h3b
    have H4 := hid h4
    have H5 := hid h5
    clear hc hx0 hx5 h3 h3b h4 h5
    go_wp2
    go_ret
    refine ⟨w.heap.size + 1, 512, by rw [HL.out]; rfl, ?_, (HC.out.setCell (fun h => absurd h (by show ¬ w.heap.size + 1 < w.heap.size; omega)) _).setCell (fun h => absurd h (by show ¬ w.heap.size + 1 < w.heap.size; omega)) _, by omega, by simpa [World.setCell] using hz⟩
    rw [HL.out, HE.out]
    have e1 : SecIn (w1.setCell ⟨w.heap.size + 1, 0, none⟩ (.int .u8 (u.toNat : Int))) (w.heap.size + 1, 512) ((ofB c).set 0 u) := SecIn.set (ofB_length c) (Nat.le_refl _) H4.out H5.out 0 u (heap_set H3.out 0 _)
    obtain ⟨q1, q2, cur2, q3, q4, q5⟩ := e1
    exact (SecIn.set q1 q2 q4 q5 500 u (heap_set q3 500 _) : SecIn _ (w.heap.size + 1, 512) _).bts

end Go.Proofs.Ytadhibemadgcoaa
