/- Package pager: Abort, Free, Drop. Conditions: as each theorem says. -/
import Derived.Test.YtadhibemadgcoaaPgC
namespace Go.Proofs.Ytadhibemadgcoaa
open Go.RowKit Go.MapKept Go.Maps

def abF (x : Nat × Nat) : Nat × Nat := if x.1 = 2 then (0, 0) else if x.1 = 3 then (1, x.2) else x
def abortP (p : Pg) : Pg := { p with pages := p.pages.map abF }

theorem abort_none (w : World) : Calls Try.prog 61 #[.pointer none] w fun e w' => e = .returned (.tuple #[]) ∧ w = w' := by
  go_enter Try.func61, Try.ntmps61
  go_wp2
  exact bodyPost_ret (v := .tuple #[]) (by simp [results, Try.results61, go_sem]) rfl ⟨rfl, rfl⟩

set_option maxRecDepth 20000 in
set_option maxHeartbeats 2000000 in
theorem abort_any {pp dp gb mb : Nat} {p : Pg} {M F O : Nat → Prop} (w : World) (h : PgX w pp dp gb mb p M F O) :
    Calls Try.prog 61 #[.pointer (some ⟨pp, 0, none⟩)] w fun e w' => e = .returned (.tuple #[]) ∧ PgX w' pp dp gb mb (abortP p) M F O ∧ Ch O w w' := by
  have HX := hid h
  have n2 := h.1.n2
  have c3 := cell_blk h.1.hp 3
  simp at c3
  obtain ⟨n, HN⟩ : ∃ n, Hid (p.pages.length = n) := ⟨_, hid rfl⟩
  rw [HN.out] at c3 n2
  clear h
  go_enter Try.func61, Try.ntmps61
  go_wp2_with fail
  clear c3
  go_loopw [11] (fun i wr => ∃ j : Nat, i = .int .i64 (j : Int) ∧ j ≤ n ∧ Hid (PgX wr pp dp gb mb { p with pages := till abF p.pages j } M F O) ∧ Hid (Ch O w wr)) (fun i _ => n - (intOf i).toNat)
  case atStart => exact ⟨0, rfl, Nat.zero_le _, hid (by rw [till_zero]; exact HX.out), hid (Ch.refl _ _)⟩
  case round =>
    obtain ⟨j, rfl, hj, HI, HC⟩ := hrel
    have c3 := cell_blk HI.out.1.hp 3
    simp only [till_length] at c3
    simp at c3
    rw [HN.out] at c3
    by_cases hlt : j < n
    · obtain ⟨x, HXx⟩ : ∃ x, Hid (p.pages[j]? = some x) := ⟨p.pages[j]'(by rw [HN.out]; exact hlt), hid (List.getElem?_eq_getElem _)⟩
      have hxx : ({ p with pages := till abF p.pages j } : Pg).pages[j]? = some x := by
        show (till abF p.pages j)[j]? = some x
        rw [till_get _ _ _ (by rw [HN.out]; exact hj)]; exact HXx.out
      obtain ⟨q1, q2, q3, q4, q5⟩ := HI.out.cells hxx
      have HXX := hid hxx
      have hppz := blk_lt HI.out.1.hp
      have hnp : ¬ pp = wr.heap.size := by omega
      have hng : ¬ gb = wr.heap.size := by omega
      clear hxx
      by_cases h2 : x.1 = 2
      · have HF : Hid (abF x = (0, 0)) := hid (by unfold abF; rw [if_pos h2])
        obtain ⟨g1, g2⟩ := HI.out.page2 j (0, 0) (by simp)
        have HNext : Hid (∀ (v : Value) (W : World), W = ((wr.setCell ⟨gb, j * 2, none⟩ (.int .i64 0)).setCell ⟨gb, j * 2 + 1, none⟩ (.int .i64 0)).alloc (.cells #[v, .int .i64 (x.2 : Int)] 155) → PgX W pp dp gb mb { p with pages := till abF p.pages (j + 1) } M F O ∧ Ch O w W) := hid (by
          rintro v W rfl
          rw [← till_succ _ _ _ _ HXx.out, HF.out]
          have g3 := (Ch.refl (fun _ => False) ((wr.setCell ⟨gb, j * 2, none⟩ (.int .i64 0)).setCell ⟨gb, j * 2 + 1, none⟩ (.int .i64 0))).alloc (.cells #[v, .int .i64 (x.2 : Int)] 155)
          exact ⟨g1.ch g3 (fun _ _ h => h) (fun _ _ h => h), (HC.out.then g2 (fun _ _ h => h)).alloc _⟩)
        have h2i : (x.1 : Int) = 2 := by omega
        rw [h2i] at q1
        clear g1 g2 h2 h2i
        go_wp2
        go_roundw
        case rel => exact ⟨j + 1, by go_num, by omega, hid (HNext.out _ _ rfl).1, hid (HNext.out _ _ rfl).2⟩
        case measure => simp [intOf]; omega
      · by_cases h3 : x.1 = 3
        · have HF : Hid (abF x = (1, x.2)) := hid (by unfold abF; rw [if_neg h2, if_pos h3])
          obtain ⟨g1, g2⟩ := HI.out.page1 j 1 x HXX.out
          have HNext : Hid (∀ (v : Value) (W : World), W = (wr.setCell ⟨gb, j * 2, none⟩ (.int .i64 1)).alloc (.cells #[v, .int .i64 (x.2 : Int)] 155) → PgX W pp dp gb mb { p with pages := till abF p.pages (j + 1) } M F O ∧ Ch O w W) := hid (by
            rintro v W rfl
            rw [← till_succ _ _ _ _ HXx.out, HF.out]
            have g3 := (Ch.refl (fun _ => False) (wr.setCell ⟨gb, j * 2, none⟩ (.int .i64 1))).alloc (.cells #[v, .int .i64 (x.2 : Int)] 155)
            exact ⟨PgX.ch g1 g3 (fun _ _ h => h) (fun _ _ h => h), (HC.out.then g2 (fun _ _ h => h)).alloc _⟩)
          have h3i : (x.1 : Int) = 3 := by omega
          rw [h3i] at q1
          clear g1 g2 h2 h3 h3i
          go_wp2
          go_roundw
          case rel => exact ⟨j + 1, by go_num, by omega, hid (HNext.out _ _ rfl).1, hid (HNext.out _ _ rfl).2⟩
          case measure => simp [intOf]; omega
        · have HF : Hid (abF x = x) := hid (by unfold abF; rw [if_neg h2, if_neg h3])
          have ca := (Ch.refl (fun _ => False) wr).alloc (.cells #[.int .i64 (x.1 : Int), .int .i64 (x.2 : Int)] 155)
          have HNext : Hid (PgX (wr.alloc (.cells #[.int .i64 (x.1 : Int), .int .i64 (x.2 : Int)] 155)) pp dp gb mb { p with pages := till abF p.pages (j + 1) } M F O) := hid (by
            rw [till_same _ _ _ _ HXx.out HF.out]; exact HI.out.ch ca (fun _ _ h => h) (fun _ _ h => h))
          have h2b : ((x.1 : Int) == 2) = false := by rw [beq_eq_false_iff_ne]; omega
          have h3b : ((x.1 : Int) == 3) = false := by rw [beq_eq_false_iff_ne]; omega
          clear h2 h3 ca
          go_wp2
          go_roundw
          case rel => exact ⟨j + 1, by go_num, by omega, HNext, hid (HC.out.alloc _)⟩
          case measure => simp [intOf]; omega
    · obtain rfl : j = n := by omega
      have fin : Hid (PgX wr pp dp gb mb (abortP p) M F O) := hid (by
        have := HI.out
        rw [← HN.out, till_all] at this
        exact this)
      go_wp2
      go_end0
      exact ⟨rfl, fin.out, HC.out⟩

/-- How many pages are free. -/
def freeL (l : List (Nat × Nat)) : Nat := ((l.drop 2).filter fun x => x.1 == 0).length
def frT (l : List (Nat × Nat)) (j : Nat) : Nat := freeL (l.take j)
theorem frT_succ {l : List (Nat × Nat)} {j : Nat} {x : Nat × Nat} (h : l[j]? = some x) : frT l (j + 1) = frT l j + if 2 ≤ j ∧ x.1 = 0 then 1 else 0 := by
  unfold frT freeL
  have hj := (List.getElem?_eq_some_iff.1 h).1
  rw [List.take_add_one, h, Option.toList_some]
  by_cases h2 : 2 ≤ j
  · rw [List.drop_append_of_le_length (by rw [List.length_take]; omega), List.filter_append, List.length_append]
    by_cases h0 : x.1 = 0
    · rw [if_pos ⟨h2, h0⟩]; simp [h0]
    · rw [if_neg (fun h => h0 h.2)]; simp [h0]
  · rw [if_neg (fun h => h2 h.1)]
    have e1 : (l.take j ++ [x]).drop 2 = [] := List.drop_of_length_le (by simp; omega)
    have e2 : (l.take j).drop 2 = [] := List.drop_of_length_le (by rw [List.length_take]; omega)
    rw [e1, e2]; rfl
theorem frT_le (l : List (Nat × Nat)) (j : Nat) : frT l j ≤ j := by
  unfold frT freeL
  refine Nat.le_trans (List.length_filter_le _ _) ?_
  rw [List.length_drop, List.length_take]; omega

theorem free_none (w : World) : Calls Try.prog 56 #[.pointer none] w fun e w' => e = .returned (.int .i64 0) ∧ w = w' := by
  go_enter Try.func56, Try.ntmps56
  go_wp2
  go_ret
  exact ⟨rfl, rfl⟩
set_option maxRecDepth 20000 in
set_option maxHeartbeats 2000000 in
theorem free_any {pp dp gb mb : Nat} {p : Pg} {M F O : Nat → Prop} (w : World) (h : PgX w pp dp gb mb p M F O) :
    Calls Try.prog 56 #[.pointer (some ⟨pp, 0, none⟩)] w fun e w' => e = .returned (.int .i64 (freeL p.pages : Int)) ∧ Ch (fun _ => False) w w' := by
  have HX := hid h
  have n2 := h.1.n2
  have c3 := cell_blk h.1.hp 3
  simp at c3
  obtain ⟨n, HN⟩ : ∃ n, Hid (p.pages.length = n) := ⟨_, hid rfl⟩
  rw [HN.out] at c3 n2
  clear h
  go_enter Try.func56, Try.ntmps56
  go_wp2_with fail
  clear c3
  go_loopw [3, 13] (fun s i wr => ∃ (j f : Nat), i = .int .i64 (j : Int) ∧ j ≤ n ∧ s = .int .i64 (f : Int) ∧ f ≤ j ∧ Hid (frT p.pages j = f) ∧ Hid (Ch (fun _ => False) w wr)) (fun _ i _ => n - (intOf i).toNat)
  case atStart => exact ⟨0, 0, rfl, Nat.zero_le _, rfl, Nat.le_refl _, hid (by simp [frT, freeL]), hid (Ch.refl _ _)⟩
  case round =>
    obtain ⟨j, f, rfl, hj, rfl, hfj, HFj, HC⟩ := hrel
    by_cases hlt : j < n
    · obtain ⟨x, HXx⟩ : ∃ x, Hid (p.pages[j]? = some x) := ⟨p.pages[j]'(by rw [HN.out]; exact hlt), hid (List.getElem?_eq_getElem _)⟩
      have HXw := hid (HX.out.ch HC.out (fun _ _ h => h) (fun _ _ h => h))
      obtain ⟨q1, q2, q3, q4, q5⟩ := HXw.out.cells HXx.out
      have hng : ¬ gb = wr.heap.size := by omega
      have HS := hid (frT_succ HXx.out)
      have HC2 := hid (HC.out.alloc (.cells #[.int .i64 (x.1 : Int), .int .i64 (x.2 : Int)] 155))
      by_cases h2 : 2 ≤ (j : Int)
      · by_cases h0 : x.1 = 0
        · have HE : Hid (frT p.pages (j + 1) = f + 1) := hid (by rw [HS.out, if_pos ⟨by omega, h0⟩, HFj.out])
          have h0i : (x.1 : Int) = 0 := by omega
          rw [h0i] at q1 HC2
          clear h0 h0i
          go_wp2
          go_roundw
          case rel => exact ⟨j + 1, f + 1, by go_num, by omega, by go_num, by omega, HE, HC2⟩
          case measure => simp [intOf]; omega
        · have HE : Hid (frT p.pages (j + 1) = f) := hid (by rw [HS.out, if_neg (fun h => h0 h.2), HFj.out, Nat.add_zero])
          have h0b : ((x.1 : Int) == 0) = false := by rw [beq_eq_false_iff_ne]; omega
          clear h0
          go_wp2
          go_roundw
          case rel => exact ⟨j + 1, f, by go_num, by omega, rfl, by omega, HE, HC2⟩
          case measure => simp [intOf]; omega
      · have HE : Hid (frT p.pages (j + 1) = f) := hid (by rw [HS.out, if_neg (fun h => h2 (by omega)), HFj.out, Nat.add_zero])
        go_wp2
        go_roundw
        case rel => exact ⟨j + 1, f, by go_num, by omega, rfl, by omega, HE, HC2⟩
        case measure => simp [intOf]; omega
    · obtain rfl : j = n := by omega
      have fin : Hid (freeL p.pages = f) := hid (by rw [← HFj.out, frT, List.take_of_length_le (by rw [HN.out]; exact Nat.le_refl _)])
      go_wp2
      go_ret
      exact ⟨by rw [fin.out]; rfl, HC.out⟩

/-- Drop. -/
def dropP (p : Pg) (n : Int) : Nat × Pg :=
  if p.dead = true then (9, p)
  else match (if hasP p n = true then p.pages[n.toNat]? else none) with
    | some x => if x.1 = 2 then (0, { p with pages := p.pages.set n.toNat (0, 0) }) else if x.1 = 1 then (0, { p with pages := p.pages.set n.toNat (3, x.2) }) else (3, p)
    | none => (3, p)
theorem drop_none (n : Int) (w : World) : Calls Try.prog 59 #[.pointer none, .int .i64 n] w fun e w' => e = .returned (.int .i64 1) ∧ w = w' := by
  go_enter Try.func59, Try.ntmps59
  go_wp2_with (go_at_call 98; refine (ready_none _).mono ?_; rintro e w' ⟨rfl, rfl⟩)
  go_ret
  exact ⟨rfl, rfl⟩
set_option maxRecDepth 20000 in
set_option maxHeartbeats 2000000 in
theorem drop_any {pp dp gb mb : Nat} {p : Pg} {M F O : Nat → Prop} (n : Int) (w : World) (h : PgX w pp dp gb mb p M F O) :
    Calls Try.prog 59 #[.pointer (some ⟨pp, 0, none⟩), .int .i64 n] w fun e w' => e = .returned (.int .i64 ((dropP p n).1 : Nat)) ∧ PgX w' pp dp gb mb (dropP p n).2 M F O ∧ Ch O w w' := by
  have HX := hid h
  have hR := ready_any w ⟨gb, mb, h⟩
  have hH := has_any n w ⟨gb, mb, h⟩
  have n2 := h.1.n2
  have c3 := cell_blk h.1.hp 3
  simp at c3
  clear h
  by_cases hd : p.dead = true
  · have e : dropP p n = (9, p) := by unfold dropP; rw [if_pos hd]
    rw [e]
    rw [hd] at hR
    have HR := hid hR
    clear hR hH c3 e hd
    go_enter Try.func59, Try.ntmps59
    go_wp2_with (go_at_call 98; refine HR.out.mono ?_; rintro e w' ⟨rfl, rfl⟩)
    go_ret
    exact ⟨rfl, HX.out, Ch.refl _ _⟩
  have hdf : p.dead = false := by simpa using hd
  rw [hdf] at hR
  have HR := hid hR
  have HD := hid hd
  clear hR hd hdf
  cases hh : hasP p n with
  | false =>
    have e : dropP p n = (3, p) := by unfold dropP; rw [if_neg HD.out, hh]; rfl
    rw [e]
    rw [hh] at hH
    have HH := hid hH
    clear hH e hh
    go_enter Try.func59, Try.ntmps59
    go_wp2_with (first | (go_at_call 98; refine HR.out.mono ?_; rintro e w' ⟨rfl, rfl⟩) | (go_at_call 101; refine HH.out.mono ?_; rintro e w' ⟨rfl, rfl⟩))
    go_ret
    exact ⟨rfl, HX.out, Ch.refl _ _⟩
  | true =>
    rw [hh] at hH
    have HH := hid hH
    have hb : 2 ≤ n ∧ n < p.pages.length := by simpa [hasP] using hh
    obtain ⟨m, rfl⟩ := Int.eq_ofNat_of_zero_le (show 0 ≤ n by omega)
    obtain ⟨x, HXx⟩ : ∃ x, Hid (p.pages[m]? = some x) := ⟨p.pages[m]'(by omega), hid (List.getElem?_eq_getElem _)⟩
    obtain ⟨q1, q2, q3, q4, q5⟩ := HX.out.cells HXx.out
    have hm1 : (m : Int) < (p.pages.length : Int) := hb.2
    have hm0 : (0 : Int) ≤ (m : Int) := Int.natCast_nonneg _
    have HE : Hid (dropP p (m : Int) = if x.1 = 2 then (0, { p with pages := p.pages.set m (0, 0) }) else if x.1 = 1 then (0, { p with pages := p.pages.set m (3, x.2) }) else (3, p)) := hid (by
      unfold dropP
      rw [if_neg HD.out, hh, if_pos rfl, Int.toNat_natCast, HXx.out])
    rw [HE.out]
    obtain ⟨nn, HN⟩ : ∃ nn, Hid (p.pages.length = nn) := ⟨_, hid rfl⟩
    rw [HN.out] at c3 n2 hm1
    clear hH hh hb
    by_cases h2 : x.1 = 2
    · rw [if_pos h2]
      have g := hid (HX.out.page2 m (0, 0) (by simp))
      have h2i : (x.1 : Int) = 2 := by omega
      rw [h2i] at q1
      clear h2 h2i
      go_enter Try.func59, Try.ntmps59
      go_wp2_with (first | (go_at_call 98; refine HR.out.mono ?_; rintro e w' ⟨rfl, rfl⟩) | (go_at_call 101; refine HH.out.mono ?_; rintro e w' ⟨rfl, rfl⟩))
      go_ret
      exact ⟨rfl, g.out.1, g.out.2⟩
    · rw [if_neg h2]
      by_cases h1 : x.1 = 1
      · rw [if_pos h1]
        have g := hid (HX.out.page1 m 3 x HXx.out)
        have h1i : (x.1 : Int) = 1 := by omega
        rw [h1i] at q1
        clear h2 h1 h1i
        go_enter Try.func59, Try.ntmps59
        go_wp2_with (first | (go_at_call 98; refine HR.out.mono ?_; rintro e w' ⟨rfl, rfl⟩) | (go_at_call 101; refine HH.out.mono ?_; rintro e w' ⟨rfl, rfl⟩))
        go_ret
        exact ⟨rfl, g.out.1, g.out.2⟩
      · rw [if_neg h1]
        have h2b : ((x.1 : Int) == 2) = false := by rw [beq_eq_false_iff_ne]; omega
        have h1b : ((x.1 : Int) == 1) = false := by rw [beq_eq_false_iff_ne]; omega
        clear h2 h1
        go_enter Try.func59, Try.ntmps59
        go_wp2_with (first | (go_at_call 98; refine HR.out.mono ?_; rintro e w' ⟨rfl, rfl⟩) | (go_at_call 101; refine HH.out.mono ?_; rintro e w' ⟨rfl, rfl⟩))
        go_ret
        exact ⟨rfl, HX.out, Ch.refl _ _⟩

end Go.Proofs.Ytadhibemadgcoaa
