/- The reference's pager: settle, Abort, Drop. Conditions: as each theorem says. -/
import Derived.Test.YtadhibemadgcoaaRpA
import Derived.BigQuiet
namespace Go.Proofs.Ytadhibemadgcoaa
open Go.RowKit

theorem RzI.pin {w0 w : World} {rp rq ib fb n pc : Nat} {pa : Option Addr} {p : Pg} {F : List Int} {M Q : Nat → Prop} (h : RzI w0 w rp rq ib fb (.slice pa n pc) p F M Q) {m g : Nat} (hm : p.pins[m]? = some g) :
    ∃ b, pa = some ⟨b, 0, none⟩ ∧ w.cell? ⟨b, m, none⟩ = some (.int .i64 (g : Int)) ∧ b < w.heap.size := by
  have hl := (List.getElem?_eq_some_iff.1 hm).1
  rcases h.inn.hP.2 with ⟨e, h0⟩ | ⟨b, c, cur, e, _, hg, hc, _, hs, ht⟩
  · omega
  · cases e
    refine ⟨b, rfl, ?_, blk_lt hg⟩
    have hp : (pinV p.pins)[m]? = some (.int .i64 (g : Int)) := by simp [pinV, hm]
    rw [← ht, List.getElem?_take, if_pos (by omega)] at hp
    rw [cell_blk hg]
    simpa using hp
theorem till_two {α : Type} (f : α → α) (l : List α) (h : ∀ i x, i < 2 → l[i]? = some x → f x = x) (h2 : 2 ≤ l.length) : till f l 2 = l := by
  have e0 := List.getElem?_eq_getElem (l := l) (i := 0) (by omega)
  have e1 := List.getElem?_eq_getElem (l := l) (i := 1) (by omega)
  rw [till_same f l 1 _ e1 (h 1 _ (by omega) e1), till_same f l 0 _ e0 (h 0 _ (by omega) e0), till_zero]
/-- Is any of the first m pins below v? -/
def anyB (pins : List Nat) (m : Nat) (v : Int) : Bool := (pins.take m).any fun (g : Nat) => decide ((g : Int) < v)
theorem anyB_succ {pins : List Nat} {m g : Nat} (v : Int) (h : pins[m]? = some g) : anyB pins (m + 1) v = (anyB pins m v || decide ((g : Int) < v)) := by
  unfold anyB
  rw [List.take_add_one, h, Option.toList_some, List.any_append]
  simp

section
variable {w0 : World} {rp rq : Nat} {p : Pg} {Q : Nat → Prop}
set_option maxRecDepth 20000 in
set_option maxHeartbeats 4000000 in
theorem rsettle_any (w : World) (h : RZ w0 w rp rq p Q) : Calls Try.prog 115 #[.pointer (some ⟨rp, 0, none⟩)] w fun e w' => e = .returned (.tuple #[]) ∧ RPost w0 w rp rq (settleP p) Q w' := by
  obtain ⟨ib, fb, Pv, F, M, h1⟩ := h
  obtain ⟨pa, pc, rfl⟩ := owns_form h1.inn.hP
  have n1 := h1.inn.n1
  have n2 := h1.inn.n2
  have HPg := hid h1.inn.pg
  have HFk := hid h1.inn.fk
  have HFl := hid h1.inn.fl
  have HZ0 := hid h1.inn.z0
  obtain ⟨n, HN⟩ : ∃ n, Hid (p.pages.length = n) := ⟨_, hid rfl⟩
  obtain ⟨pn, HPn⟩ : ∃ n, Hid (p.pins.length = n) := ⟨_, hid rfl⟩
  have hpnm : pn ≤ 9223372036854775807 := by
    rcases h1.inn.hP.2 with ⟨e, h0⟩ | ⟨b, c, cur, e, _, hg, hc, hm, hs, ht⟩
    · have := HPn.out; omega
    · have := HPn.out; unfold maxLen at hm; omega
  rw [HN.out] at n1 n2
  have HT2 : Hid (till (setl p.pins) p.pages 2 = p.pages) := hid (till_two _ _ (fun i x hi hx => by
    have := HZ0.out i x hi hx
    unfold setl; rw [if_neg (by omega)]) (by rw [HN.out]; omega))
  have H1 := hid h1
  clear h1
  rw [HPn.out] at H1
  go_enter Try.func115, Try.ntmps115
  go_wp2_with fail
  go_loopw [2] (fun i wr => ∃ j : Nat, i = .int .i64 (j : Int) ∧ 2 ≤ j ∧ j ≤ n ∧ Hid (RzI w0 wr rp rq ib fb (.slice pa pn pc) { p with pages := till (setl p.pins) p.pages j } F M Q ∧ Ch Q w wr)) (fun i _ => n - (intOf i).toNat)
  case atStart => exact ⟨2, rfl, by omega, by omega, hid ⟨by rw [HT2.out]; exact H1.out, Ch.refl _ _⟩⟩
  case round =>
    obtain ⟨j, rfl, hj2, hj, HI⟩ := hrel
    obtain ⟨hr, hc⟩ := HI.out
    have HR := hid hr
    have HC := hid hc
    have c3 := cell_blk hr.inn.hp 3
    simp only [till_length] at c3
    simp at c3
    rw [HN.out] at c3
    have c5 := cell_blk hr.inn.hp 5
    simp at c5
    clear hr hc
    by_cases hlt : j < n
    · obtain ⟨x, HXx⟩ : ∃ x, Hid (p.pages[j]? = some x) := ⟨p.pages[j]'(by rw [HN.out]; exact hlt), hid (List.getElem?_eq_getElem _)⟩
      have hxx : ({ p with pages := till (setl p.pins) p.pages j } : Pg).pages[j]? = some x := by
        show (till (setl p.pins) p.pages j)[j]? = some x
        rw [till_get _ _ _ (by rw [HN.out]; exact hj)]; exact HXx.out
      obtain ⟨v, HV⟩ : ∃ v, Hid (F[j]? = some v) := ⟨F[j]'(by rw [HFl.out, HN.out]; exact hlt), hid (List.getElem?_eq_getElem _)⟩
      have HXX := hid hxx
      clear hxx
      go_wp2_with fail
      go_loopw [3, 4] (fun hv k wr2 => ∃ m : Nat, k = .int .i64 (m : Int) ∧ m ≤ pn ∧ hv = .bool (anyB p.pins m v) ∧ Hid (Ch (fun _ => False) wr wr2)) (fun _ k _ => pn - (intOf k).toNat)
      case atStart => exact ⟨0, rfl, Nat.zero_le _, rfl, hid (Ch.refl _ _)⟩
      case round =>
        obtain ⟨m, rfl, hm, rfl, HC2⟩ := hrel
        have hr2 := HR.out.ch HC2.out (fun _ _ h => h) (fun _ _ h => h)
        have d3 := cell_blk hr2.inn.hp 3
        have d4 := cell_blk hr2.inn.hp 4
        have d5 := cell_blk hr2.inn.hp 5
        simp only [till_length] at d3 d4
        simp at d3 d4 d5
        rw [HN.out] at d3 d4
        obtain ⟨q1, q2, q3⟩ := hr2.cell HXX.out
        obtain ⟨r1, r2, r3⟩ := hr2.fcell HV.out
        have HR2 := hid hr2
        clear hr2
        by_cases hmn : m < pn
        · obtain ⟨g, HG⟩ : ∃ g, Hid (p.pins[m]? = some g) := ⟨p.pins[m]'(by rw [HPn.out]; exact hmn), hid (List.getElem?_eq_getElem _)⟩
          obtain ⟨b, rfl, s1, s2⟩ := HR2.out.pin HG.out
          have hsuc := anyB_succ v HG.out
          cases hab : anyB p.pins m v with
          | true =>
            rw [hab, Bool.true_or] at hsuc
            have HS := hid hsuc
            clear hsuc hab
            go_wp2_with fail
            go_quiet (fail)
            go_wp2_with fail
            go_roundw
            case rel => exact ⟨m + 1, by go_num, by omega, by rw [HS.out], hid (HC2.out.trans (drewN_ch _ _))⟩
            case measure => simp [intOf]; omega
          | false =>
            rw [hab, Bool.false_or] at hsuc
            have HS := hid hsuc
            clear hsuc hab
            go_wp2_with fail
            go_quiet (fail)
            go_wp2_with fail
            go_roundw
            case rel => exact ⟨m + 1, by go_num, by omega, by rw [HS.out], hid (HC2.out.trans (drewN_ch _ _))⟩
            case measure => simp [intOf]; omega
        · obtain rfl : m = pn := by omega
          have HAll : Hid (anyB p.pins m v = p.pins.any fun (g : Nat) => decide ((g : Int) < v)) := hid (by unfold anyB; rw [← HPn.out, List.take_length])
          have HC3 := hid (HC.out.trans (HC2.out.mono (T := Q) (fun _ _ h => h.elim)))
          by_cases h4 : x.1 = 4
          · have hv : v = (x.2 : Int) := by
              have := (HFk.out j x HXx.out h4).symm.trans HV.out
              simpa using this.symm
            by_cases hall : ∀ g ∈ p.pins, x.2 ≤ g
            · have hab : anyB p.pins m v = false := by
                rw [HAll.out, List.any_eq_false]
                intro g hg
                have := hall g hg
                simp; omega
              have HF : Hid (setl p.pins x = (0, 0)) := hid (by unfold setl; rw [if_pos ⟨h4, hall⟩])
              obtain ⟨g1, g2⟩ := HR2.out.is1 j (0, 0) (by simp) (by simp) (.inl hj2)
              have e1 : ({ ({ p with pages := till (setl p.pins) p.pages j } : Pg) with pages := (till (setl p.pins) p.pages j).set j (0, 0) } : Pg) = { p with pages := till (setl p.pins) p.pages (j + 1) } := by
                rw [← till_succ _ _ _ _ HXx.out, HF.out]
              rw [e1] at g1
              have G1 := hid g1
              have G2 := hid (HC3.out.trans g2)
              have h4i : (x.1 : Int) = 4 := by omega
              rw [h4i] at q1
              rw [hab]
              clear g1 g2 e1 h4 hall h4i hab hv
              go_wp2_with fail
              go_roundw
              case rel => exact ⟨j + 1, by go_num, by omega, by omega, hid ⟨G1.out, G2.out⟩⟩
              case measure => simp [intOf]; omega
            · have hab : anyB p.pins m v = true := by
                rw [HAll.out, List.any_eq_true]
                obtain ⟨g, hg, hlt2⟩ : ∃ g, g ∈ p.pins ∧ ¬ x.2 ≤ g := Classical.byContradiction fun hn => hall (fun g hg => Classical.byContradiction fun h => hn ⟨g, hg, h⟩)
                exact ⟨g, hg, by simp; omega⟩
              have HF : Hid (setl p.pins x = x) := hid (by unfold setl; rw [if_neg (fun h => hall h.2)])
              have HNext := HR2.out
              rw [← till_same _ _ _ _ HXx.out HF.out] at HNext
              have HNx := hid HNext
              have h4i : (x.1 : Int) = 4 := by omega
              rw [h4i] at q1
              rw [hab]
              clear h4 hall h4i hab hv HNext
              go_wp2_with fail
              go_roundw
              case rel => exact ⟨j + 1, by go_num, by omega, by omega, hid ⟨HNx.out, HC3.out⟩⟩
              case measure => simp [intOf]; omega
          · have HF : Hid (setl p.pins x = x) := hid (by unfold setl; rw [if_neg (fun h => h4 h.1)])
            have HNext := HR2.out
            rw [← till_same _ _ _ _ HXx.out HF.out] at HNext
            have HNx := hid HNext
            have h4b : ((x.1 : Int) == 4) = false := by rw [beq_eq_false_iff_ne]; omega
            generalize anyB p.pins m v = ab
            clear h4 HNext HAll
            go_wp2_with fail
            go_roundw
            case rel => exact ⟨j + 1, by go_num, by omega, by omega, hid ⟨HNx.out, HC3.out⟩⟩
            case measure => simp [intOf]; omega
    · obtain rfl : j = n := by omega
      have hr := HR.out
      rw [show till (setl p.pins) p.pages j = p.pages.map (setl p.pins) by rw [← HN.out]; exact till_all _ _] at hr
      have HR3 := hid hr
      clear hr
      go_wp2_with fail
      go_end0
      exact ⟨rfl, Q, ⟨ib, fb, _, F, M, HR3.out⟩, Fresh.refl _ _, HC.out⟩
end

end Go.Proofs.Ytadhibemadgcoaa
