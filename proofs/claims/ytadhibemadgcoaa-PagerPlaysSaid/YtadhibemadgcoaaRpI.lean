/- The reference's pager: Use. Conditions: at most 1000 numbers, which lie in none of its blocks. -/
import Derived.Test.YtadhibemadgcoaaRpH
namespace Go.Proofs.Ytadhibemadgcoaa
open Go.RowKit

/-- Is any of the first m numbers x? -/
def memB (l : List Int) (m : Nat) (x : Int) : Bool := (l.take m).any fun y => y == x
theorem memB_succ {l : List Int} {m : Nat} {y : Int} (x : Int) (h : l[m]? = some y) : memB l (m + 1) x = (memB l m x || (y == x)) := by
  unfold memB
  rw [List.take_add_one, h, Option.toList_some, List.any_append]
  simp
theorem memB_iff (l : List Int) (m : Nat) (x : Int) : memB l m x = true ↔ x ∈ l.take m := by
  unfold memB
  rw [List.any_eq_true]
  constructor
  · rintro ⟨y, h1, h2⟩
    have : y = x := by simpa using h2
    exact this ▸ h1
  · intro h; exact ⟨x, h, by simp⟩

section
variable {w0 : World} {rp rq : Nat} {p : Pg} {Q : Nat → Prop}
def RUsePost (w0 w : World) (rp rq : Nat) (p : Pg) (Q : Nat → Prop) (l : List Int) (e : Ending) (w' : World) : Prop :=
  e = .returned (.int .i64 ((useP p l).1 : Nat)) ∧ RPost w0 w rp rq (useP p l).2 Q w'
set_option maxRecDepth 20000 in
set_option maxHeartbeats 4000000 in
theorem ruse_any (a : Option Addr) (cap : Nat) (l : List Int) (w : World) (h : RZ w0 w rp rq p Q) (hi : Ints w (.slice a l.length cap) l) (hl : l.length ≤ 1000)
    (hO : ∀ k, (Value.slice a l.length cap).ownBlock = some k → ¬ Q k) :
    Calls Try.prog 111 #[.pointer (some ⟨rp, 0, none⟩), .slice a l.length cap] w (RUsePost w0 w rp rq p Q l) := by
  have HR0 := hid h
  have HI := hid hi
  have HO := hid hO
  obtain ⟨ib, fb, Pv, F, M, h1⟩ := h
  have HX := hid h1
  have n2 := h1.inn.n2
  have c6 := cell_blk h1.inn.hp 6
  simp at c6
  clear h1 hi hO
  by_cases hd : p.dead = true
  · have e : useP p l = (9, p) := by unfold useP; rw [if_pos hd]
    have fin : Hid (RUsePost w0 w rp rq p Q l (.returned (.int .i64 9)) w) := hid (by
      unfold RUsePost; rw [e]; exact ⟨rfl, HR0.out.post (Ch.refl _ _)⟩)
    rw [hd] at c6
    clear e hd
    go_enter Try.func111, Try.ntmps111
    go_wp2_with fail
    go_ret
    exact fin.out
  have hdf : p.dead = false := by simpa using hd
  rw [hdf] at c6
  have HD := hid hd
  have HBad : Hid (useS p [] l ≠ 0 → ∀ w', Ch (fun _ => False) w w' → RUsePost w0 w rp rq p Q l (.returned (.int .i64 (useS p [] l : Nat))) w') := hid (fun hn w' hc => by
    unfold RUsePost useP; rw [if_neg HD.out, if_pos hn]; exact ⟨rfl, HR0.out.post hc⟩)
  have HGood : Hid (useS p [] l = 0 → useP p l = (0, { p with pages := l.foldl use1 p.pages })) := hid (fun hn => by unfold useP; rw [if_neg HD.out, if_neg (by rw [hn]; simp)])
  clear hd hdf
  obtain ⟨nn, HN⟩ : ∃ nn, Hid (p.pages.length = nn) := ⟨_, hid rfl⟩
  rw [HN.out] at n2
  go_enter Try.func111, Try.ntmps111
  go_wp2_with fail
  clear c6
  go_loopw [5] (fun i wr => ∃ j : Nat, i = .int .i64 (j : Int) ∧ j ≤ l.length ∧ Hid (useS p (l.take j) (l.drop j) = useS p [] l ∧ Ch (fun _ => False) w wr)) (fun i _ => 2000 - (intOf i).toNat)
  case atStart => exact ⟨0, rfl, Nat.zero_le _, hid ⟨rfl, Ch.refl _ _⟩⟩
  case round =>
    obtain ⟨j, rfl, hj, HI2⟩ := hrel
    obtain ⟨hs, hc⟩ := HI2.out
    have HS := hid hs
    have HC := hid hc
    have hX := HX.out.ch hc (fun _ _ h => h) (fun _ _ h => h)
    have HX2 := hid hX
    have HR2 := hid (HR0.out.ch hc (fun _ _ h => h) (fun _ _ h => h))
    have c3 := cell_blk hX.inn.hp 3
    simp at c3
    rw [HN.out] at c3
    clear HI2 hs hc hX
    by_cases hlt : j < l.length
    · obtain ⟨x, HXx⟩ : ∃ x, Hid (l[j]? = some x) := ⟨l[j]'hlt, hid (List.getElem?_eq_getElem _)⟩
      obtain ⟨b, off, rfl, hcell, hblt⟩ := (HI.out.ch HC.out (fun _ _ h => h)).get HXx.out
      have hH := rpage_any x wr HR2.out
      have hst := useS_step (p := p) HXx.out
      rw [HS.out] at hst
      cases hh : hasP p x with
      | false =>
        rw [hh] at hH
        rw [hh, if_pos rfl] at hst
        have hfin := HBad.out (by rw [hst]; simp) wr HC.out
        rw [hst] at hfin
        have Fin := hid hfin
        have HH := hid hH
        clear hH hh hst hfin
        go_wp2_with (go_at_call 114; refine HH.out.mono ?_; rintro e w' ⟨rfl, rfl⟩)
        go_ret
        exact Fin.out
      | true =>
        rw [hh] at hH
        rw [hh, if_neg (by simp)] at hst
        have HH := hid hH
        have hb : 2 ≤ x ∧ x < p.pages.length := by simpa [hasP] using hh
        obtain ⟨m, rfl⟩ := Int.eq_ofNat_of_zero_le (show 0 ≤ x by omega)
        obtain ⟨y, HY⟩ : ∃ y, Hid (p.pages[m]? = some y) := ⟨p.pages[m]'(by omega), hid (List.getElem?_eq_getElem _)⟩
        obtain ⟨q1, q2, q3⟩ := HX2.out.cell HY.out
        have hm1 : (m : Int) < (nn : Int) := by have := HN.out; omega
        have hm0 : (0 : Int) ≤ (m : Int) := Int.natCast_nonneg _
        rw [Int.toNat_natCast, List.getD, HY.out] at hst
        simp only [Option.getD_some] at hst
        have HSt := hid hst
        obtain ⟨t0, HT0⟩ : ∃ t0 : Bool, Hid (((y.1 : Int) != 0) = t0) := ⟨_, hid rfl⟩
        have ht0 := HT0.out
        clear hH hh hb hst
        go_wp2_with (go_at_call 114; refine HH.out.mono ?_; rintro e w' ⟨rfl, rfl⟩)
        go_quiet (fail)
        go_wp2_with fail
        clear hcell q1 q2 c3 ht0
        go_loopw [6, 7] (fun tv k wr2 => ∃ i : Nat, k = .int .i64 (i : Int) ∧ i ≤ j ∧ tv = .bool (t0 || memB l i (m : Int)) ∧ Hid (Ch (fun _ => False) wr wr2)) (fun _ k _ => 2000 - (intOf k).toNat)
        case atStart => exact ⟨0, rfl, Nat.zero_le _, by simp [memB], hid (drewN_ch _ _)⟩
        case round =>
          obtain ⟨i, rfl, hij, rfl, HC2⟩ := hrel
          have HC3 := hid (HC.out.trans HC2.out)
          by_cases hil : i < j
          · obtain ⟨z, HZz⟩ : ∃ z, Hid (l[i]? = some z) := ⟨l[i]'(by omega), hid (List.getElem?_eq_getElem _)⟩
            obtain ⟨b1, off1, e1, hcell1, hblt1⟩ := (HI.out.ch HC3.out (fun _ _ h => h)).get HZz.out
            obtain ⟨b2, off2, e2, hcell2, hblt2⟩ := (HI.out.ch HC3.out (fun _ _ h => h)).get HXx.out
            cases e1
            cases e2
            have hsuc := memB_succ (m : Int) HZz.out
            have hmx : i < l.length := by omega
            cases hab : (t0 || memB l i (m : Int)) with
            | true =>
              have hsx : (t0 || memB l (i + 1) (m : Int)) = true := by rw [hsuc, ← Bool.or_assoc, hab, Bool.true_or]
              have HSx := hid hsx
              clear hsuc hab hsx
              go_wp2_with fail
              go_quiet (fail)
              go_wp2_with fail
              go_roundw
              case rel => exact ⟨i + 1, by go_num, by omega, by rw [HSx.out], hid (HC2.out.trans (drewN_ch _ _))⟩
              case measure => simp [intOf]; omega
            | false =>
              have hsx : (t0 || memB l (i + 1) (m : Int)) = (z == (m : Int)) := by rw [hsuc, ← Bool.or_assoc, hab, Bool.false_or]
              have HSx := hid hsx
              clear hsuc hab hsx
              go_wp2_with fail
              go_quiet (fail)
              go_wp2_with fail
              go_roundw
              case rel => exact ⟨i + 1, by go_num, by omega, by rw [HSx.out], hid (HC2.out.trans (drewN_ch _ _))⟩
              case measure => simp [intOf]; omega
          · obtain rfl : i = j := by omega
            cases hab : (t0 || memB l i (m : Int)) with
            | true =>
              have hst := HSt.out
              have h8 : useS p [] l = 8 := by
                rw [hst]
                by_cases h0 : y.1 ≠ 0
                · rw [if_pos h0]
                · rw [if_neg h0]
                  have ht : t0 = false := by rw [← HT0.out]; simp; omega
                  rw [ht, Bool.false_or, memB_iff] at hab
                  rw [if_pos hab]
              have hfin := HBad.out (by rw [h8]; simp) _ HC3.out
              rw [h8] at hfin
              have Fin := hid hfin
              clear hst h8 hfin hab
              go_wp2_with fail
              go_ret
              exact Fin.out
            | false =>
              have hst := HSt.out
              have ht : t0 = false ∧ memB l i (m : Int) = false := by simpa using hab
              have h0 : ¬ y.1 ≠ 0 := by
                have := HT0.out
                rw [ht.1] at this
                simp at this; omega
              rw [if_neg h0, if_neg (fun h => by have := (memB_iff l i (m : Int)).2 h; rw [ht.2] at this; cases this)] at hst
              have HS2 := hid hst.symm
              clear hst ht h0 hab
              go_wp2_with fail
              go_roundw
              case rel => exact ⟨i + 1, by go_num, by omega, hid ⟨HS2.out, HC3.out⟩⟩
              case measure => simp [intOf]; omega
    · obtain rfl : j = l.length := by omega
      have hs0 := HS.out
      rw [List.drop_length] at hs0
      have h0 : useS p [] l = 0 := hs0.symm
      have HE := hid (HGood.out h0)
      have HHas := hid (useS_has _ _ h0)
      have HC1 := hid (HC.out.mono (T := Q) (fun _ _ h => h.elim))
      clear hs0 h0 c3
      go_wp2_with fail
      go_loopw [8] (fun i wr => ∃ j : Nat, i = .int .i64 (j : Int) ∧ j ≤ l.length ∧ Hid (RzI w0 wr rp rq ib fb Pv { p with pages := (l.take j).foldl use1 p.pages } F M Q ∧ Ch Q w wr)) (fun i _ => 2000 - (intOf i).toNat)
      case atStart => exact ⟨0, rfl, Nat.zero_le _, hid ⟨HX2.out, HC1.out⟩⟩
      case round =>
        clear HX2 HC1 HS HC HR2
        obtain ⟨j, rfl, hj, HI2⟩ := hrel
        obtain ⟨hX, hc⟩ := HI2.out
        have hln : ((l.take j).foldl use1 p.pages).length = nn := by rw [useL_len, HN.out]
        have c3 := cell_blk hX.inn.hp 3
        simp at c3
        rw [hln] at c3
        have HX2 := hid hX
        have HC := hid hc
        have HLn := hid hln
        clear HI2 hc hX hln
        by_cases hlt : j < l.length
        · obtain ⟨x, HXx⟩ : ∃ x, Hid (l[j]? = some x) := ⟨l[j]'hlt, hid (List.getElem?_eq_getElem _)⟩
          have hh := HHas.out x (List.mem_of_getElem? HXx.out)
          have hb : 2 ≤ x ∧ x < p.pages.length := by simpa [hasP] using hh
          obtain ⟨m, rfl⟩ := Int.eq_ofNat_of_zero_le (show 0 ≤ x by omega)
          have hm1 : (m : Int) < (nn : Int) := by have := HN.out; omega
          have hm0 : (0 : Int) ≤ (m : Int) := Int.natCast_nonneg _
          obtain ⟨y, HY⟩ : ∃ y, Hid (((l.take j).foldl use1 p.pages)[m]? = some y) := ⟨((l.take j).foldl use1 p.pages)[m]'(by rw [HLn.out]; omega), hid (List.getElem?_eq_getElem _)⟩
          obtain ⟨q1, q2, q3⟩ := HX2.out.cell HY.out
          have e1 : (l.take (j + 1)).foldl use1 p.pages = ((l.take j).foldl use1 p.pages).set m (1, y.2) := by
            rw [useL_step HXx.out]
            show (List.foldl use1 p.pages (List.take j l)).set (m : Int).toNat (1, ((List.foldl use1 p.pages (List.take j l)).getD (m : Int).toNat (0, 0)).2) = _
            rw [Int.toNat_natCast, List.getD, HY.out]
            rfl
          have g := HX2.out.is1 m (1, y.2) (by simp) (HX2.out.inn.pg y (List.mem_of_getElem? HY.out)) (.inl (by omega))
          obtain ⟨b, off, ha, hcell, hblt⟩ := (HI.out.get HXx.out)
          subst ha
          have hcell2 := cell_ch2 hcell HC.out (HO.out b rfl)
          have hblt2 : b < wr.heap.size := Nat.lt_of_lt_of_le hblt HC.out.size
          have cd := (Ch.refl (fun _ => False) (wr.setCell ⟨ib, m, none⟩ (.int .i64 1))).drew
          have G1 := hid (g.1.ch cd (fun _ _ h => h) (fun _ _ h => h))
          have G2 := hid ((HC.out.trans g.2).trans (cd.mono (fun _ _ h => h.elim)))
          have E1 := hid e1
          clear g e1 hh hb hcell hblt cd
          go_wp2_with fail
          refine region_tail 9 (by kernel_rfl) (by kernel_rfl) ?_
          simp only [List.take_succ_cons, List.take_zero, List.drop_succ_cons, List.drop_zero]
          repeat still_step
          refine wpStill_nil ?_
          go_wp2_with fail
          go_roundw
          case rel => exact ⟨j + 1, by go_num, by omega, hid ⟨by rw [E1.out]; exact G1.out, G2.out⟩⟩
          case measure => simp [intOf]; omega
        · obtain rfl : j = l.length := by omega
          have hX := HX2.out
          rw [List.take_length] at hX
          have HX3 := hid hX
          clear hX c3
          have fin : Hid (RUsePost w0 w rp rq p Q l (.returned (.int .i64 0)) wr) := hid (by
            unfold RUsePost
            rw [HE.out]
            exact ⟨rfl, Q, ⟨ib, fb, Pv, F, M, HX3.out⟩, Fresh.refl _ _, HC.out⟩)
          go_wp2_with fail
          go_ret
          exact fin.out
end

end Go.Proofs.Ytadhibemadgcoaa
