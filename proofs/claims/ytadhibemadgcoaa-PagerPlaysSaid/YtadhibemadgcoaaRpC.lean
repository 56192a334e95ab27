/- The reference's pager: Abort, Drop, Put's small parts. Conditions: as each theorem says. -/
import Derived.Test.YtadhibemadgcoaaRpB
namespace Go.Proofs.Ytadhibemadgcoaa
open Go.RowKit

section
variable {w0 : World} {rp rq : Nat} {p : Pg} {Q : Nat → Prop}
set_option maxRecDepth 20000 in
set_option maxHeartbeats 4000000 in
theorem rabort_any (w : World) (h : RZ w0 w rp rq p Q) : Calls Try.prog 108 #[.pointer (some ⟨rp, 0, none⟩)] w fun e w' => e = .returned (.tuple #[]) ∧ RPost w0 w rp rq (abortP p) Q w' := by
  obtain ⟨ib, fb, Pv, F, M, h1⟩ := h
  have n1 := h1.inn.n1
  have n2 := h1.inn.n2
  have HPg := hid h1.inn.pg
  have HZ0 := hid h1.inn.z0
  obtain ⟨n, HN⟩ : ∃ n, Hid (p.pages.length = n) := ⟨_, hid rfl⟩
  rw [HN.out] at n1 n2
  have H1 := hid h1
  clear h1
  go_enter Try.func108, Try.ntmps108
  go_wp2_with fail
  go_loopw [2] (fun i wr => ∃ j : Nat, i = .int .i64 (j : Int) ∧ j ≤ n ∧ Hid (RzI w0 wr rp rq ib fb Pv { p with pages := till abF p.pages j } F M Q ∧ Ch Q w wr)) (fun i _ => n - (intOf i).toNat)
  case atStart => exact ⟨0, rfl, by omega, hid ⟨by rw [till_zero]; exact H1.out, Ch.refl _ _⟩⟩
  case round =>
    obtain ⟨j, rfl, hj, HI⟩ := hrel
    obtain ⟨hr, hc⟩ := HI.out
    have HR := hid hr
    have HC := hid hc
    have c3 := cell_blk hr.inn.hp 3
    simp only [till_length] at c3
    simp at c3
    rw [HN.out] at c3
    clear hr hc
    by_cases hlt : j < n
    · obtain ⟨x, HXx⟩ : ∃ x, Hid (p.pages[j]? = some x) := ⟨p.pages[j]'(by rw [HN.out]; exact hlt), hid (List.getElem?_eq_getElem _)⟩
      have hxx : ({ p with pages := till abF p.pages j } : Pg).pages[j]? = some x := by
        show (till abF p.pages j)[j]? = some x
        rw [till_get _ _ _ (by rw [HN.out]; exact hj)]; exact HXx.out
      obtain ⟨q1, q2, q3⟩ := HR.out.cell hxx
      have hrp : rp ≠ ib := HR.out.inn.ne.1
      have hsuc := till_succ abF p.pages j x HXx.out
      clear hxx
      by_cases h2 : x.1 = 2
      · have HF : abF x = (0, 0) := by unfold abF; rw [if_pos h2]
        obtain ⟨g1, g2⟩ := HR.out.is1 j (0, 0) (by simp) (by simp) (.inr rfl)
        rw [HF] at hsuc
        simp only [hsuc] at g1
        have G1 := hid g1
        have G2 := hid (HC.out.trans g2)
        have h2i : (x.1 : Int) = 2 := by omega
        rw [h2i] at q1
        clear g1 g2 h2 h2i hsuc HF
        go_wp2_with fail
        go_roundw
        case rel => exact ⟨j + 1, by go_num, by omega, hid ⟨G1.out, G2.out⟩⟩
        case measure => simp [intOf]; omega
      · have h2b : ((x.1 : Int) == 2) = false := by rw [beq_eq_false_iff_ne]; omega
        by_cases h3 : x.1 = 3
        · have HF : abF x = (1, x.2) := by unfold abF; rw [if_neg h2, if_pos h3]
          have hj2 : 2 ≤ j := Nat.le_of_not_lt fun hlt2 => by have := HZ0.out j x hlt2 HXx.out; omega
          obtain ⟨g1, g2⟩ := HR.out.is1 j (1, x.2) (by simp) (HPg.out x (List.mem_of_getElem? HXx.out)) (.inl hj2)
          rw [HF] at hsuc
          simp only [hsuc] at g1
          have G1 := hid g1
          have G2 := hid (HC.out.trans g2)
          have h3i : (x.1 : Int) = 3 := by omega
          rw [h3i] at q1
          clear g1 g2 h2 h2b h3 h3i hsuc HF hj2
          go_wp2_with fail
          go_roundw
          case rel => exact ⟨j + 1, by go_num, by omega, hid ⟨G1.out, G2.out⟩⟩
          case measure => simp [intOf]; omega
        · have h3b : ((x.1 : Int) == 3) = false := by rw [beq_eq_false_iff_ne]; omega
          have HF : abF x = x := by unfold abF; rw [if_neg h2, if_neg h3]
          have HNext := HR.out
          rw [← till_same _ _ _ _ HXx.out HF] at HNext
          have HNx := hid HNext
          clear h2 h3 HNext HF hsuc
          go_wp2_with fail
          go_roundw
          case rel => exact ⟨j + 1, by go_num, by omega, hid ⟨HNx.out, HC.out⟩⟩
          case measure => simp [intOf]; omega
    · obtain rfl : j = n := by omega
      have hr := HR.out
      rw [show till abF p.pages j = p.pages.map abF by rw [← HN.out]; exact till_all _ _] at hr
      have HR3 := hid hr
      clear hr
      go_wp2_with fail
      go_end0
      exact ⟨rfl, Q, ⟨ib, fb, _, F, M, HR3.out⟩, Fresh.refl _ _, HC.out⟩

set_option maxRecDepth 20000 in
set_option maxHeartbeats 2000000 in
theorem rdrop_any (n : Int) (w : World) (h : RZ w0 w rp rq p Q) : Calls Try.prog 106 #[.pointer (some ⟨rp, 0, none⟩), .int .i64 n] w fun e w' => e = .returned (.int .i64 ((dropP p n).1 : Nat)) ∧ RPost w0 w rp rq (dropP p n).2 Q w' := by
  have hH := rpage_any n w h
  obtain ⟨ib, fb, Pv, F, M, h1⟩ := h
  have HX := hid h1
  have n2 := h1.inn.n2
  have c3 := cell_blk h1.inn.hp 3
  have c6 := cell_blk h1.inn.hp 6
  simp at c3 c6
  have hrp : rp ≠ ib := h1.inn.ne.1
  clear h1
  have same : Hid (RPost w0 w rp rq p Q w) := hid ⟨Q, ⟨ib, fb, Pv, F, M, HX.out⟩, Fresh.refl _ _, Ch.refl _ _⟩
  by_cases hd : p.dead = true
  · have e : dropP p n = (9, p) := by unfold dropP; rw [if_pos hd]
    rw [e]
    rw [hd] at c6
    clear hH c3 e hd
    go_enter Try.func106, Try.ntmps106
    go_wp2_with fail
    go_ret
    exact ⟨rfl, same.out⟩
  have hdf : p.dead = false := by simpa using hd
  rw [hdf] at c6
  have HD := hid hd
  clear hd hdf
  cases hh : hasP p n with
  | false =>
    have e : dropP p n = (3, p) := by unfold dropP; rw [if_neg HD.out, hh]; rfl
    rw [e]
    rw [hh] at hH
    have HH := hid hH
    clear hH e hh
    go_enter Try.func106, Try.ntmps106
    go_wp2_with (go_at_call 114; refine HH.out.mono ?_; rintro e w' ⟨rfl, rfl⟩)
    go_ret
    exact ⟨rfl, same.out⟩
  | true =>
    rw [hh] at hH
    have HH := hid hH
    have hb : 2 ≤ n ∧ n < p.pages.length := by simpa [hasP] using hh
    obtain ⟨m, rfl⟩ := Int.eq_ofNat_of_zero_le (show 0 ≤ n by omega)
    obtain ⟨x, HXx⟩ : ∃ x, Hid (p.pages[m]? = some x) := ⟨p.pages[m]'(by omega), hid (List.getElem?_eq_getElem _)⟩
    obtain ⟨q1, q2, q3⟩ := HX.out.cell HXx.out
    have hm2 : 2 ≤ m := by omega
    have hm1 : (m : Int) < (p.pages.length : Int) := hb.2
    have hm0 : (0 : Int) ≤ (m : Int) := Int.natCast_nonneg _
    have HE : Hid (dropP p (m : Int) = if x.1 = 2 then (0, { p with pages := p.pages.set m (0, 0) }) else if x.1 = 1 then (0, { p with pages := p.pages.set m (3, x.2) }) else (3, p)) := hid (by
      unfold dropP
      rw [if_neg HD.out, hh, if_pos rfl, Int.toNat_natCast, HXx.out])
    rw [HE.out]
    have HPg := hid (HX.out.inn.pg x (List.mem_of_getElem? HXx.out))
    obtain ⟨nn, HN⟩ : ∃ nn, Hid (p.pages.length = nn) := ⟨_, hid rfl⟩
    rw [HN.out] at c3 n2 hm1
    clear hH hh hb
    by_cases h2 : x.1 = 2
    · rw [if_pos h2]
      have g := hid (HX.out.is1 m (0, 0) (by simp) (by simp) (.inr rfl))
      have h2i : (x.1 : Int) = 2 := by omega
      rw [h2i] at q1
      clear h2 h2i
      go_enter Try.func106, Try.ntmps106
      go_wp2_with (go_at_call 114; refine HH.out.mono ?_; rintro e w' ⟨rfl, rfl⟩)
      go_ret
      exact ⟨rfl, Q, ⟨ib, fb, Pv, F, M, g.out.1⟩, Fresh.refl _ _, g.out.2⟩
    · rw [if_neg h2]
      by_cases h1 : x.1 = 1
      · rw [if_pos h1]
        have g := hid (HX.out.is1 m (3, x.2) (by simp) HPg.out (.inl hm2))
        have h1i : (x.1 : Int) = 1 := by omega
        rw [h1i] at q1
        clear h2 h1 h1i
        go_enter Try.func106, Try.ntmps106
        go_wp2_with (go_at_call 114; refine HH.out.mono ?_; rintro e w' ⟨rfl, rfl⟩)
        go_ret
        exact ⟨rfl, Q, ⟨ib, fb, Pv, F, M, g.out.1⟩, Fresh.refl _ _, g.out.2⟩
      · rw [if_neg h1]
        have h2b : ((x.1 : Int) != 2) = true := by rw [bne_iff_ne]; omega
        have h1b : ((x.1 : Int) != 1) = true := by rw [bne_iff_ne]; omega
        clear h2 h1
        go_enter Try.func106, Try.ntmps106
        go_wp2_with (go_at_call 114; refine HH.out.mono ?_; rintro e w' ⟨rfl, rfl⟩)
        go_ret
        exact ⟨rfl, same.out⟩
end

end Go.Proofs.Ytadhibemadgcoaa
