/- The pager laws' calls: how a list of them lies in memory; few. Conditions: as each theorem says. -/
import Derived.Test.YtadhibemadgcoaaDiskO
import Derived.Test.YtadhibemadgcoaaPgOne
namespace Go.Proofs.Ytadhibemadgcoaa
open Go.RowKit

/-- A call of a pager's, as its argument tells it. -/
structure AcP where
  kind : Int
  n : Int
  m : Int
  s : ByteArray
  kv : Value
  kept : List (Int × Int)
/-- v is a slice of calls that reads as l. -/
def Aps (w : World) (v : Value) (l : List AcP) : Prop :=
  (∃ a cap, v = .slice a 0 cap ∧ l = []) ∨ ∃ b off cap cs e fz, v = .slice (some ⟨b, off, none⟩) l.length cap ∧ w.heap[b]? = some (.cells cs e fz) ∧
    ∀ (j : Nat) (x : AcP), l[j]? = some x → cs[off + j * 5]? = some (.int .i64 x.kind) ∧ cs[off + j * 5 + 1]? = some (.int .i64 x.n) ∧ cs[off + j * 5 + 2]? = some (.int .i64 x.m) ∧ cs[off + j * 5 + 3]? = some (.string x.s) ∧
      cs[off + j * 5 + 4]? = some x.kv ∧ Kps w x.kv x.kept ∧ (Lit.int .i64 x.n).wf = true ∧ (Lit.int .i64 x.m).wf = true
theorem Aps.ch {S : Nat → Prop} {w w' : World} {v : Value} {l : List AcP} (h : Aps w v l) (hc : Ch S w w') (hn : ∀ k, k < w.heap.size → ¬ S k) : Aps w' v l := by
  rcases h with h | ⟨b, off, cap, cs, e, fz, rfl, hb, hcs⟩
  · exact .inl h
  · refine .inr ⟨b, off, cap, cs, e, fz, rfl, hc.keep hb (hn b (blk_lt hb)), fun j x hx => ?_⟩
    obtain ⟨h1, h2, h3, h4, h5, h6, h7⟩ := hcs j x hx
    exact ⟨h1, h2, h3, h4, h5, h6.ch2 hc hn, h7⟩
/-- What a call's five cells hold. -/
structure ApAt (w : World) (b o : Nat) (x : AcP) : Prop where
  c0 : w.cell? ⟨b, o, none⟩ = some (.int .i64 x.kind)
  c1 : w.cell? ⟨b, o + 1, none⟩ = some (.int .i64 x.n)
  c2 : w.cell? ⟨b, o + 2, none⟩ = some (.int .i64 x.m)
  c3 : w.cell? ⟨b, o + 3, none⟩ = some (.string x.s)
  c4 : w.cell? ⟨b, o + 4, none⟩ = some x.kv
  kept : Kps w x.kv x.kept
  n : (Lit.int .i64 x.n).wf = true
  m : (Lit.int .i64 x.m).wf = true
  lt : b < w.heap.size
theorem Aps.get {w : World} {a : Option Addr} {n cap : Nat} {l : List AcP} (h : Aps w (.slice a n cap) l) {j : Nat} {x : AcP} (hx : l[j]? = some x) :
    ∃ b off, a = some ⟨b, off, none⟩ ∧ ApAt w b (off + j * 5) x := by
  rcases h with ⟨_, _, h, rfl⟩ | ⟨b, off, c, cs, e, fz, h, hb, hcs⟩
  · simp at hx
  · cases h
    obtain ⟨h1, h2, h3, h4, h5, h6, h7, h8⟩ := hcs j x hx
    exact ⟨b, off, rfl, by rw [cell_blk hb]; exact h1, by rw [cell_blk hb]; exact h2, by rw [cell_blk hb]; exact h3, by rw [cell_blk hb]; exact h4, by rw [cell_blk hb]; exact h5, h6, h7, h8, blk_lt hb⟩
theorem Aps.form {w : World} {v : Value} {l : List AcP} (h : Aps w v l) : ∃ a cap, v = .slice a l.length cap := by
  rcases h with ⟨a, cap, rfl, rfl⟩ | ⟨b, off, cap, cs, e, fz, rfl, _⟩
  · exact ⟨a, cap, rfl⟩
  · exact ⟨_, cap, rfl⟩

/-- few: a bool; where it says yes, the calls are 60 at the most, and their keeps 1000. -/
def FewPP (w : World) (l : List AcP) (e : Ending) (w' : World) : Prop := ∃ b : Bool, e = .returned (.bool b) ∧ Ch (fun _ => False) w w' ∧ (b = true → l.length ≤ 60 ∧ ∀ x ∈ l, x.kept.length ≤ 1000)
theorem drewN_ch0 (w : World) (n : Nat) : Ch (fun _ => False) w (w.drewN n) := ⟨rfl, rfl, rfl, Nat.le_refl _, fun _ _ _ => rfl⟩
theorem tenth (m : Int) (h0 : 0 ≤ m) (h1 : m ≤ 10000) : ∃ q : Int, IntKind.i64.wrap (m.tdiv 10) = q ∧ m.tdiv 10 = q ∧ 0 ≤ q ∧ q ≤ 1000 := by
  refine ⟨m.tdiv 10, wrap_id ?_ ?_, rfl, ?_, ?_⟩ <;> (rw [Int.tdiv_eq_ediv_of_nonneg h0]; omega)

set_option maxRecDepth 20000 in
set_option maxHeartbeats 4000000 in
theorem fewp_any (a : Option Addr) (cap : Nat) (l : List AcP) (w : World) (h : Aps w (.slice a l.length cap) l) :
    Calls Try.prog 70 #[.slice a l.length cap] w (FewPP w l) := by
  have HA := hid h
  clear h
  by_cases hbig : 60 < l.length
  · go_enter Try.func70, Try.ntmps70
    go_wp2_with fail
    go_loopw [3, 4] (fun s i wr => ∃ (j : Nat) (S : Int), i = .int .i64 (j : Int) ∧ s = .int .i64 S ∧ j ≤ 61 ∧ Hid (Ch (fun _ => False) w wr)) (fun _ i _ => 100 - (intOf i).toNat)
    case atStart => exact ⟨0, l.length, rfl, rfl, by omega, hid (Ch.refl _ _)⟩
    case round =>
      obtain ⟨j, S, rfl, rfl, hj61, HC⟩ := hrel
      by_cases hlt : j < l.length
      · by_cases h60 : j ≤ 60
        · obtain ⟨x, HX⟩ : ∃ x, Hid (l[j]? = some x) := ⟨l[j]'hlt, hid (List.getElem?_eq_getElem _)⟩
          obtain ⟨b, off, rfl, hat⟩ := (HA.out.ch HC.out (fun _ _ h => h)).get HX.out
          obtain ⟨ka, kcap, hkv⟩ := hat.kept.form
          have hc4 := hat.c4
          rw [hkv] at hc4
          have hc3 := hat.c3
          have hblt := hat.lt
          clear hat hkv
          obtain ⟨m, hm1⟩ : ∃ m : Int, (if 1000 < (x.kept.length : Int) then 1000 else (x.kept.length : Int)) = m := ⟨_, rfl⟩
          obtain ⟨u, hu1⟩ : ∃ u : Int, (if 10000 < (x.s.size : Int) then 10000 else (x.s.size : Int)) = u := ⟨_, rfl⟩
          go_wp2_with fail
          go_quiet (fail)
          go_wp2_with fail
          go_roundw
          case rel => exact ⟨j + 1, _, by go_num, rfl, by omega, hid (HC.out.trans (drewN_ch0 _ _))⟩
          case measure => simp [intOf]; omega
        · go_wp2_with fail
          go_ret
          exact ⟨false, rfl, HC.out, fun h => by cases h⟩
      · go_wp2_with fail
        go_ret
        exact ⟨false, rfl, HC.out, fun h => by cases h⟩
  have hl60 : l.length ≤ 60 := by omega
  clear hbig
  go_enter Try.func70, Try.ntmps70
  go_wp2_with fail
  go_loopw [3, 4] (fun s i wr => ∃ (j : Nat) (S : Int), i = .int .i64 (j : Int) ∧ s = .int .i64 S ∧ j ≤ l.length ∧ (l.length : Int) ≤ S ∧ S ≤ (l.length : Int) + 2000 * j ∧ Hid ((∀ x ∈ l.take j, min (x.kept.length : Int) 1000 + 1 ≤ S) ∧ Ch (fun _ => False) w wr)) (fun _ i _ => 100 - (intOf i).toNat)
  case atStart => exact ⟨0, l.length, rfl, rfl, by omega, by omega, by omega, hid ⟨by simp, Ch.refl _ _⟩⟩
  case round =>
    obtain ⟨j, S, rfl, rfl, hj, hS1, hS2, HI⟩ := hrel
    obtain ⟨hs, hc⟩ := HI.out
    have HS := hid hs
    have HC := hid hc
    clear hs hc
    by_cases hlt : j < l.length
    · obtain ⟨x, HX⟩ : ∃ x, Hid (l[j]? = some x) := ⟨l[j]'hlt, hid (List.getElem?_eq_getElem _)⟩
      obtain ⟨b, off, rfl, hat⟩ := (HA.out.ch HC.out (fun _ _ h => h)).get HX.out
      obtain ⟨ka, kcap, hkv⟩ := hat.kept.form
      have hc4 := hat.c4
      rw [hkv] at hc4
      have hc3 := hat.c3
      have hblt := hat.lt
      have HN : Hid (l.take (j + 1) = l.take j ++ [x]) := hid (by rw [List.take_add_one, HX.out]; rfl)
      clear hat hkv
      obtain ⟨kl, hkl⟩ : ∃ kl : Nat, x.kept.length = kl := ⟨_, rfl⟩
      obtain ⟨sl, hsl⟩ : ∃ sl : Nat, x.s.size = sl := ⟨_, rfl⟩
      obtain ⟨m, hm1, hm2, hm3, hm4⟩ : ∃ m : Int, (if 1000 < (kl : Int) then 1000 else (kl : Int)) = m ∧ 0 ≤ m ∧ m ≤ 1000 ∧ Hid (m = min (kl : Int) 1000) := ⟨_, rfl, by split <;> omega, by split <;> omega, hid (by split <;> omega)⟩
      obtain ⟨u, hu1, hu2, hu3⟩ : ∃ u : Int, (if 10000 < (sl : Int) then 10000 else (sl : Int)) = u ∧ 0 ≤ u ∧ u ≤ 10000 := ⟨_, rfl, by split <;> omega, by split <;> omega⟩
      obtain ⟨q, hq1, hq2, hq3, hq4⟩ := tenth u hu2 hu3
      have hw1 : IntKind.i64.wrap (S + m) = S + m := wrap_id (by omega) (by omega)
      have hw2 : IntKind.i64.wrap (S + m + q) = S + m + q := wrap_id (by omega) (by omega)
      rw [hkl] at hc4
      have HM5 : Hid (min (x.kept.length : Int) 1000 + 1 ≤ S + m + q) := hid (by rw [hkl]; have := hm4.out; omega)
      clear hkl
      go_wp2_with fail
      go_quiet (fail)
      go_wp2_with fail
      go_roundw
      case rel =>
        refine ⟨j + 1, S + m + q, by go_num, ?_, by omega, by omega, by omega, hid ⟨fun y hy => ?_, HC.out.trans (drewN_ch0 _ _)⟩⟩
        · rfl
        rw [HN.out] at hy
        rcases List.mem_append.1 hy with hy | hy
        · have := HS.out y hy; omega
        · simp at hy; subst hy; exact HM5.out
      case measure => simp [intOf]; omega
    · obtain rfl : j = l.length := by omega
      by_cases h400 : S ≤ 1000
      · go_wp2_with fail
        go_ret
        refine ⟨true, rfl, HC.out, fun _ => ⟨hl60, fun x hx => ?_⟩⟩
        have := HS.out x (by rw [List.take_length]; exact hx)
        omega
      · go_wp2_with fail
        go_ret
        exact ⟨false, rfl, HC.out, fun h => by cases h⟩

end Go.Proofs.Ytadhibemadgcoaa
