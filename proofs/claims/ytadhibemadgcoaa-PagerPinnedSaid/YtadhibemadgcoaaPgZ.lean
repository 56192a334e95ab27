/- The law's without: pages but one. Conditions: at most 60 pages. -/
import Derived.Test.YtadhibemadgcoaaPgY
namespace Go.Proofs.Ytadhibemadgcoaa
open Go.RowKit

/-- Pages but one. -/
def wo (l : List (Nat × ByteArray)) (n : Int) : List (Nat × ByteArray) := l.filter fun x => !((x.1 : Int) == n)
theorem wo_all {l : List (Nat × ByteArray)} {n : Int} (h : ∀ x ∈ l, (x.1 : Int) ≠ n) : wo l n = l := by
  unfold wo; rw [List.filter_eq_self]; intro x hx; simp [h x hx]
theorem wo_le (l : List (Nat × ByteArray)) (n : Int) : (wo l n).length ≤ l.length := List.length_filter_le _ _
theorem wo_yes {l : List (Nat × ByteArray)} {n : Int} {j : Nat} {x : Nat × ByteArray} (hx : l[j]? = some x) (h : (x.1 : Int) ≠ n) : wo (l.take (j + 1)) n = wo (l.take j) n ++ [x] := by
  unfold wo; rw [List.take_add_one, hx, Option.toList_some, List.filter_append]; simp [h]
theorem wo_no {l : List (Nat × ByteArray)} {n : Int} {j : Nat} {x : Nat × ByteArray} (hx : l[j]? = some x) (h : (x.1 : Int) = n) : wo (l.take (j + 1)) n = wo (l.take j) n := by
  unfold wo; rw [List.take_add_one, hx, Option.toList_some, List.filter_append]; simp [h]
/-- A slice of pages, seen from elsewhere. -/
theorem HasAt.base {w : World} {b b' n : Nat} {Q Q' : Nat → Prop} {v : Value} {l : List (Nat × ByteArray)} (h : HasAt w b Q v n l) (hb : b' ≤ b) (hq : ∀ k, Q' k → k < b) : HasAt w b' Q' v n l := by
  obtain ⟨h1, h2, h3⟩ := h
  refine ⟨⟨h1.1, ?_⟩, h2, fun k hk hQ => ?_⟩
  · rcases h1.2 with ⟨e, h0⟩ | ⟨g, c, cur, e, hg, r⟩
    · exact .inl ⟨e, h0⟩
    · exact .inr ⟨g, c, cur, e, Nat.le_trans hb hg, r⟩
  · have := (h1.lt k hk).1
    have := hq k hQ
    omega

set_option maxRecDepth 20000 in
set_option maxHeartbeats 2000000 in
theorem without_any {base : Nat} {Q : Nat → Prop} (a : Option Addr) (cap m : Nat) (l : List (Nat × ByteArray)) (n : Int) (w : World) (h : HasAt w base Q (.slice a m cap) m l) (hl : m ≤ 60) :
    Calls Try.prog 66 #[.slice a m cap, .int .i64 n] w fun e w' => ∃ a' cap', e = .returned (.slice a' (wo l n).length cap') ∧ HasAt w' w.heap.size (fun _ => False) (.slice a' (wo l n).length cap') (wo l n).length (wo l n) ∧ Ch (fun _ => False) w w' := by
  have HH := hid h
  have hlm := h.2.1
  have HLm := hid hlm
  clear h hlm
  go_enter Try.func66, Try.ntmps66
  go_wp2_with fail
  go_loopw [5, 10] (fun hv i wr => ∃ j k a c, i = .int .i64 ((j : Nat) : Int) ∧ j ≤ m ∧ hv = .slice a k c ∧ k ≤ j ∧ Hid (HasAt wr w.heap.size (fun _ => False) (.slice a k c) k (wo (l.take j) n) ∧ Ch (fun _ => False) w wr)) (fun _ i _ => 100 - (intOf i).toNat)
  case atStart => exact ⟨0, 0, none, 0, rfl, Nat.zero_le _, rfl, Nat.le_refl _, hid ⟨HasAt.start _ _ _, Ch.refl _ _⟩⟩
  case round =>
    obtain ⟨j, k, ra, rc, rfl, hj, rfl, hk, HI⟩ := hrel
    obtain ⟨hr, hc⟩ := HI.out
    have HR := hid hr
    have HC := hid hc
    clear hr hc
    by_cases hlt : j < m
    · obtain ⟨x, HX⟩ : ∃ x, Hid (l[j]? = some x) := ⟨l[j]'(by rw [HLm.out]; exact hlt), hid (List.getElem?_eq_getElem _)⟩
      obtain ⟨b, rfl, hc0, hc1, hblt⟩ := (HH.out.ch HC.out (fun _ h _ => h.elim) (Fresh.refl _ _)).get HX.out
      obtain ⟨xn, xs⟩ := x
      dsimp only at hc0 hc1
      have hw1 := (Ch.refl (fun _ => False) wr).alloc (.cells #[.int .i64 (xn : Int), .string xs] 96)
      have hsz : (wr.alloc (.cells #[.int .i64 (xn : Int), .string xs] 96)).heap.size = wr.heap.size + 1 := World.size_alloc _ _
      by_cases hne : (xn : Int) = n
      · have hb : ((xn : Int) != n) = false := by rw [hne]; simp
        have hr' := HR.out.ch hw1 (fun _ h _ => h.elim) (Fresh.refl _ (fun _ => False))
        rw [← wo_no HX.out hne] at hr'
        have HR1 := hid hr'
        have HC1 := hid (HC.out.trans hw1)
        clear hw1 hsz hr' hne
        go_wp2_with fail
        go_roundw
        case rel => exact ⟨j + 1, k, ra, rc, by go_num, by omega, rfl, by omega, hid ⟨HR1.out, HC1.out⟩⟩
        case measure => simp [intOf]; omega
      · have hb : ((xn : Int) != n) = true := by simp [hne]
        have hg := heap_new2 (wr.alloc (.cells #[.int .i64 (xn : Int), .string xs] 96)) (.int .i64 (xn : Int)) (.string xs) 96
        rw [hsz] at hg
        have hw2 := hw1.alloc (.cells #[.int .i64 (xn : Int), .string xs] 96)
        have hr2 := HR.out.ch hw2 (fun _ h _ => h.elim) (Fresh.refl _ (fun _ => False))
        obtain ⟨v', w8, hrun, hr8, hc8⟩ := hr2.snoc (fun k hk => hk.elim) (by omega) (by have := HC.out.size; have := hw2.size; omega) (xn, xs) (wr.heap.size + 1) hg.1 hg.2 91 1
        have hnb : ∀ q, (Value.slice ra k rc).ownBlock = some q → ¬ q < w.heap.size := fun q hq => by have := (hr2.1.lt q hq).1; omega
        have hc8' := (HC.out.trans hw2).then hc8 (fun i hi hk => hnb i hk hi)
        rw [← wo_yes HX.out hne] at hr8
        obtain ⟨g, gcap, rfl⟩ := hr8.form
        have HRun := hid hrun
        have HR8 := hid hr8
        have HC8 := hid hc8'
        clear hw1 hsz hg hw2 hr2 hrun hr8 hc8 hc8' hnb hne
        go_wp2_with (at_builtin; refine wpList_append_run rfl (.tmp 18) (.tmp 20) 91 91 rfl _ _ HRun.out ?_)
        go_roundw
        case rel => exact ⟨j + 1, k + 1, g, gcap, by go_num, by omega, by go_num, by omega, hid ⟨HR8.out, HC8.out⟩⟩
        case measure => simp [intOf]; omega
    · obtain rfl : j = m := by omega
      have ht : l.take j = l := by rw [← HLm.out]; exact List.take_length
      have hr := HR.out
      rw [ht] at hr
      have hkl := hr.2.1
      have HR1 := hid hr
      have HKl := hid hkl
      clear ht hr hkl
      go_wp2_with fail
      go_ret
      rw [HKl.out]
      exact ⟨ra, rc, rfl, HR1.out, HC.out⟩

end Go.Proofs.Ytadhibemadgcoaa
