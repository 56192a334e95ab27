/- The reference's pager: Read. Conditions: as each theorem says. -/
import Derived.Test.YtadhibemadgcoaaRpD
namespace Go.Proofs.Ytadhibemadgcoaa
open Go.RowKit

theorem read_size {w : World} {q : Nat} {d : Dk} {M : Nat → Prop} (h : RAt w q d M) (a : Int) : (readD d a).2.length ≤ 140737488355328 := by
  obtain ⟨Lv, Wv, h1, _⟩ := h
  have hs : ∀ l ∈ (applyW d.wait d.L), l.length = 512 := applyW_secs _ (fun x hx => (h1.wait x hx).1) _ h1.secs
  unfold readD
  split
  · simp
  · split
    · simp
    · rename_i hr hg
      have hl : a.toNat < d.L.length := by omega
      show (readW d.wait a.toNat (d.L.getD a.toNat [])).length ≤ _
      rw [readW_apply _ _ _ hl, List.getD, List.getElem?_eq_getElem (by rw [applyW_length]; exact hl), Option.getD_some, hs _ (List.getElem_mem _)]
      omega

section
variable {w0 : World} {rp rq : Nat} {p : Pg} {Q : Nat → Prop}
def RReadPost (w0 w : World) (rp rq : Nat) (p : Pg) (Q : Nat → Prop) (n : Int) (e : Ending) (w' : World) : Prop :=
  e = .returned (.tuple #[.int .i64 ((readP p n).1.1 : Nat), .string ⟨(readP p n).1.2.1.toArray⟩, .int .i64 ((readP p n).1.2.2 : Nat)]) ∧ RPost w0 w rp rq (readP p n).2 Q w'

set_option maxRecDepth 20000 in
set_option maxHeartbeats 4000000 in
theorem rpread_any (n : Int) (w : World) (h : RZ w0 w rp rq p Q) (hwt : p.d.wait.length ≤ 1000000) :
    Calls Try.prog 105 #[.pointer (some ⟨rp, 0, none⟩), .int .i64 n] w (RReadPost w0 w rp rq p Q n) := by
  have HR0 := hid h
  have hH := rpage_any n w h
  have hrd0 := fun a => rread_r a w h hwt
  obtain ⟨ib, fb, Pv, F, M, h1⟩ := h
  have HX := hid h1
  have n2 := h1.inn.n2
  have c3 := cell_blk h1.inn.hp 3
  have c0 := cell_blk h1.inn.hp 0
  have c6 := cell_blk h1.inn.hp 6
  simp at c3 c0 c6
  clear h1
  by_cases hd : p.dead = true
  · have fin : Hid (RReadPost w0 w rp rq p Q n (.returned (.tuple #[.int .i64 0, .string ⟨#[]⟩, .int .i64 9])) w) := hid (by
      unfold RReadPost readP; rw [if_pos hd]; exact ⟨rfl, HR0.out.post (Ch.refl _ _)⟩)
    rw [hd] at c6
    clear hH c3 c0 hd hrd0
    go_enter Try.func105, Try.ntmps105
    go_wp2_with fail
    go_ret3
    exact fin.out
  have hdf : p.dead = false := by simpa using hd
  rw [hdf] at c6
  have HD := hid hd
  clear hd hdf
  have HBad : Hid (liveP p n = false → RReadPost w0 w rp rq p Q n (.returned (.tuple #[.int .i64 0, .string ⟨#[]⟩, .int .i64 3])) w) := hid (fun hl => by
    unfold RReadPost readP; rw [if_neg HD.out, if_pos hl]; exact ⟨rfl, HR0.out.post (Ch.refl _ _)⟩)
  cases hh : hasP p n with
  | false =>
    have fin := hid (HBad.out (by unfold liveP; rw [hh]; rfl))
    rw [hh] at hH
    have HH := hid hH
    clear hH hh hrd0
    go_enter Try.func105, Try.ntmps105
    go_wp2_with (go_at_call 114; refine HH.out.mono ?_; rintro e w' ⟨rfl, rfl⟩)
    go_ret3
    exact fin.out
  | true =>
    rw [hh] at hH
    have HH := hid hH
    have hb : 2 ≤ n ∧ n < p.pages.length := by simpa [hasP] using hh
    obtain ⟨m, rfl⟩ := Int.eq_ofNat_of_zero_le (show 0 ≤ n by omega)
    obtain ⟨x, HXx⟩ : ∃ x, Hid (p.pages[m]? = some x) := ⟨p.pages[m]'(by omega), hid (List.getElem?_eq_getElem _)⟩
    obtain ⟨q1, q2, q3⟩ := HX.out.cell HXx.out
    have hm1 : (m : Int) < (p.pages.length : Int) := hb.2
    have hm0 : (0 : Int) ≤ (m : Int) := Int.natCast_nonneg _
    have HLv : Hid (liveP p (m : Int) = !(x.1 == 0)) := hid (by unfold liveP; rw [hh, Int.toNat_natCast, List.getD, HXx.out]; rfl)
    obtain ⟨nn, HN⟩ : ∃ nn, Hid (p.pages.length = nn) := ⟨_, hid rfl⟩
    rw [HN.out] at c3 n2 hm1
    clear hH hh hb
    by_cases h0 : x.1 = 0
    · have fin := hid (HBad.out (by rw [HLv.out, h0]; rfl))
      have h0i : (x.1 : Int) = 0 := by omega
      rw [h0i] at q1
      clear h0 h0i hrd0
      go_enter Try.func105, Try.ntmps105
      go_wp2_with (go_at_call 114; refine HH.out.mono ?_; rintro e w' ⟨rfl, rfl⟩)
      go_ret3
      exact fin.out
    · have hlv : liveP p (m : Int) = true := by rw [HLv.out]; simpa using h0
      have h0b : ((x.1 : Int) == 0) = false := by rw [beq_eq_false_iff_ne]; omega
      have hrd := hrd0 (m : Int)
      obtain ⟨E, HEE⟩ : ∃ E, Hid ((readD p.d (m : Int)).1 = E) := ⟨_, hid rfl⟩
      obtain ⟨B, HB⟩ : ∃ B, Hid ((readD p.d (m : Int)).2 = B) := ⟨_, hid rfl⟩
      have hP : readP p (m : Int) = if E ≠ 0 then ((0, [], E), toldP p E) else match openL B with
          | none => ((0, [], 10), p)
          | some (k, _, s) => ((k, s, 0), p) := by
        unfold readP
        rw [if_neg HD.out, if_neg (by rw [hlv]; simp), HEE.out, HB.out]
        rfl
      have HP := hid hP
      have HBl : Hid (B.length ≤ 140737488355328) := hid (by rw [← HB.out]; exact read_size HX.out.disk _)
      rw [HEE.out, HB.out] at hrd
      unfold strV at hrd
      have HRd := hid hrd
      have HOp := hid (ropen_any ⟨B.toArray⟩ w (by rw [← size_toList]; exact HBl.out))
      obtain ⟨S, HS⟩ : ∃ S, Hid ((⟨B.toArray⟩ : ByteArray) = S) := ⟨_, hid rfl⟩
      rw [HS.out] at HRd HOp
      have HSB : Hid (S.data.toList = B) := hid (by rw [← HS.out])
      clear hrd hlv h0 hP HBad hrd0
      by_cases hE : E = 0
      · subst hE
        rw [HSB.out] at HOp
        go_enter Try.func105, Try.ntmps105
        go_wp2_with (first | (go_at_call 114; refine HH.out.mono ?_; rintro e w' ⟨rfl, rfl⟩) | (go_at_call 92; refine HRd.out.mono ?_; rintro e w' ⟨rfl, rfl⟩))
        refine HOp.out.mono ?_
        rintro e w2 ⟨rfl, c2⟩
        have HC2 := hid c2
        clear c2
        cases ho : openL B with
        | none =>
          have fin : Hid (RReadPost w0 w rp rq p Q (m : Int) (.returned (.tuple #[.int .i64 0, .string ⟨#[]⟩, .int .i64 10])) w2) := hid (by
            unfold RReadPost; rw [HP.out, if_neg (by simp), ho]; exact ⟨rfl, HR0.out.post HC2.out⟩)
          unfold openV
          clear ho
          go_wp2_with fail
          go_ret3
          exact fin.out
        | some y =>
          obtain ⟨k, g, s⟩ := y
          have fin : Hid (RReadPost w0 w rp rq p Q (m : Int) (.returned (.tuple #[.int .i64 (k : Int), .string ⟨s.toArray⟩, .int .i64 0])) w2) := hid (by
            unfold RReadPost; rw [HP.out, if_neg (by simp), ho]; exact ⟨rfl, HR0.out.post HC2.out⟩)
          unfold openV
          clear ho
          go_wp2_with fail
          go_ret3
          exact fin.out
      · have hEb : ((E : Int) != 0) = true := by rw [bne_iff_ne]; omega
        have HE := hid hE
        clear hE
        go_enter Try.func105, Try.ntmps105
        go_wp2_with (first | (go_at_call 114; refine HH.out.mono ?_; rintro e w' ⟨rfl, rfl⟩) | (go_at_call 92; refine HRd.out.mono ?_; rintro e w' ⟨rfl, rfl⟩))
        refine (rtold_any E _ HR0.out).mono ?_
        rintro e w2 ⟨rfl, hX2⟩
        have fin : Hid (RReadPost w0 w rp rq p Q (m : Int) (.returned (.tuple #[.int .i64 0, .string ⟨#[]⟩, .int .i64 (E : Int)])) w2) := hid (by
          unfold RReadPost; rw [HP.out, if_pos HE.out]; exact ⟨rfl, hX2⟩)
        clear hX2
        go_wp2_with fail
        go_ret3
        exact fin.out
end

end Go.Proofs.Ytadhibemadgcoaa
