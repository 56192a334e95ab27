/- Package pager: Read. Conditions: not more than a million writes that wait. -/
import Derived.Test.YtadhibemadgcoaaPgE
namespace Go.Proofs.Ytadhibemadgcoaa
open Go.RowKit Go.MapKept Go.Maps

/-- Is there a page that is not free? -/
def liveP (p : Pg) (n : Int) : Bool := hasP p n && !((p.pages.getD n.toNat (0, 0)).1 == 0)
/-- Read: kind, content, error, and the pager. -/
def readP (p : Pg) (n : Int) : (Nat × List UInt8 × Nat) × Pg :=
  if p.dead = true then ((0, [], 9), p)
  else if liveP p n = false then ((0, [], 3), p)
  else if (readD p.d n).1 ≠ 0 then ((0, [], (readD p.d n).1), toldP p (readD p.d n).1)
  else match openL (readD p.d n).2 with
    | none => ((0, [], 10), p)
    | some (k, _, s) => ((k, s, 0), p)
theorem pread_none (n : Int) (w : World) : Calls Try.prog 64 #[.pointer none, .int .i64 n] w fun e w' => e = .returned (.tuple #[.int .i64 0, .string ⟨#[]⟩, .int .i64 1]) ∧ w = w' := by
  go_enter Try.func64, Try.ntmps64
  go_wp2_with (go_at_call 98; refine (ready_none _).mono ?_; rintro e w' ⟨rfl, rfl⟩)
  go_ret3
  exact ⟨rfl, rfl⟩

def PReadPost (w : World) (pp dp gb mb : Nat) (p : Pg) (M F O : Nat → Prop) (n : Int) (e : Ending) (w' : World) : Prop :=
  e = .returned (.tuple #[.int .i64 ((readP p n).1.1 : Nat), .string ⟨(readP p n).1.2.1.toArray⟩, .int .i64 ((readP p n).1.2.2 : Nat)]) ∧ PgX w' pp dp gb mb (readP p n).2 M F O ∧ Ch O w w'

set_option maxRecDepth 20000 in
set_option maxHeartbeats 2000000 in
theorem pread_any {pp dp gb mb : Nat} {p : Pg} {M F O : Nat → Prop} (n : Int) (w : World) (h : PgX w pp dp gb mb p M F O) (hwt : p.d.wait.length ≤ 1000000) :
    Calls Try.prog 64 #[.pointer (some ⟨pp, 0, none⟩), .int .i64 n] w (PReadPost w pp dp gb mb p M F O n) := by
  have HX := hid h
  have hR := ready_any w h.at_
  have hH := has_any n w h.at_
  have n2 := h.1.n2
  have c3 := cell_blk h.1.hp 3
  have c0 := cell_blk h.1.hp 0
  simp at c3 c0
  clear h
  by_cases hd : p.dead = true
  · have fin : Hid (PReadPost w pp dp gb mb p M F O n (.returned (.tuple #[.int .i64 0, .string ⟨#[]⟩, .int .i64 9])) w) := hid (by
      unfold PReadPost readP; rw [if_pos hd]; exact ⟨rfl, HX.out, Ch.refl _ _⟩)
    rw [hd] at hR
    have HR := hid hR
    clear hR hH c3 c0 hd
    go_enter Try.func64, Try.ntmps64
    go_wp2_with (go_at_call 98; refine HR.out.mono ?_; rintro e w' ⟨rfl, rfl⟩)
    go_ret3
    exact fin.out
  have hdf : p.dead = false := by simpa using hd
  rw [hdf] at hR
  have HR := hid hR
  have HD := hid hd
  clear hR hd hdf
  have HBad : Hid (liveP p n = false → PReadPost w pp dp gb mb p M F O n (.returned (.tuple #[.int .i64 0, .string ⟨#[]⟩, .int .i64 3])) w) := hid (fun hl => by
    unfold PReadPost readP; rw [if_neg HD.out, if_pos hl]; exact ⟨rfl, HX.out, Ch.refl _ _⟩)
  cases hh : hasP p n with
  | false =>
    have fin := hid (HBad.out (by unfold liveP; rw [hh]; rfl))
    rw [hh] at hH
    have HH := hid hH
    clear hH hh
    go_enter Try.func64, Try.ntmps64
    go_wp2_with (first | (go_at_call 98; refine HR.out.mono ?_; rintro e w' ⟨rfl, rfl⟩) | (go_at_call 101; refine HH.out.mono ?_; rintro e w' ⟨rfl, rfl⟩))
    go_ret3
    exact fin.out
  | true =>
    rw [hh] at hH
    have HH := hid hH
    have hb : 2 ≤ n ∧ n < p.pages.length := by simpa [hasP] using hh
    obtain ⟨m, rfl⟩ := Int.eq_ofNat_of_zero_le (show 0 ≤ n by omega)
    obtain ⟨x, HXx⟩ : ∃ x, Hid (p.pages[m]? = some x) := ⟨p.pages[m]'(by omega), hid (List.getElem?_eq_getElem _)⟩
    obtain ⟨q1, q2, q3, q4, q5⟩ := HX.out.cells HXx.out
    have hm1 : (m : Int) < (p.pages.length : Int) := hb.2
    have hm0 : (0 : Int) ≤ (m : Int) := Int.natCast_nonneg _
    have HLv : Hid (liveP p (m : Int) = !(x.1 == 0)) := hid (by unfold liveP; rw [hh, Int.toNat_natCast, List.getD, HXx.out]; rfl)
    obtain ⟨nn, HN⟩ : ∃ nn, Hid (p.pages.length = nn) := ⟨_, hid rfl⟩
    rw [HN.out] at c3 n2 hm1
    clear hH hh hb
    by_cases h0 : x.1 = 0
    · have fin := hid (HBad.out (by rw [HLv.out, h0]; rfl))
      have h0i : (x.1 : Int) = 0 := by omega
      rw [h0i] at q1
      clear h0 h0i
      go_enter Try.func64, Try.ntmps64
      go_wp2_with (first | (go_at_call 98; refine HR.out.mono ?_; rintro e w' ⟨rfl, rfl⟩) | (go_at_call 101; refine HH.out.mono ?_; rintro e w' ⟨rfl, rfl⟩))
      go_ret3
      exact fin.out
    · have hlv : liveP p (m : Int) = true := by rw [HLv.out]; simpa using h0
      have h0b : ((x.1 : Int) == 0) = false := by rw [beq_eq_false_iff_ne]; omega
      have hrd := read_any (m : Int) w HX.out.2.1 hwt
      obtain ⟨E, HEE⟩ : ∃ E, Hid ((readD p.d (m : Int)).1 = E) := ⟨_, hid rfl⟩
      obtain ⟨B, HB⟩ : ∃ B, Hid ((readD p.d (m : Int)).2 = B) := ⟨_, hid rfl⟩
      have hP : readP p (m : Int) = if E ≠ 0 then ((0, [], E), toldP p E) else match openL B with
          | none => ((0, [], 10), p)
          | some (k, _, s) => ((k, s, 0), p) := by
        unfold readP
        rw [if_neg HD.out, if_neg (by rw [hlv]; simp), HEE.out, HB.out]
      have HP := hid hP
      rw [HEE.out, HB.out] at hrd
      have HRd := hid hrd
      clear hrd hlv h0 hP HBad
      by_cases hE : E = 0
      · subst hE
        go_enter Try.func64, Try.ntmps64
        go_wp2_with (first | (go_at_call 98; refine HR.out.mono ?_; rintro e w' ⟨rfl, rfl⟩) | (go_at_call 101; refine HH.out.mono ?_; rintro e w' ⟨rfl, rfl⟩))
        refine HRd.out.mono ?_
        rintro e w1 ⟨v, rfl, hb, c, -, ⟨xa, xc, rfl⟩⟩
        have HBt := hid hb
        have HC := hid c
        have HBl : Hid (B.length ≤ 140737488355328) := hid (by
          have hs := HX.out.2.1.sane
          have : ∀ l ∈ (applyW p.d.wait p.d.L), l.length = 512 := applyW_secs _ (fun x hx => (hs.wait x hx).1) _ hs.secs
          rw [← HB.out]
          unfold readD
          split
          · simp
          · split
            · simp
            · rename_i hr hg
              have hl : (m : Int).toNat < p.d.L.length := by omega
              show (readW p.d.wait (m : Int).toNat (p.d.L.getD (m : Int).toNat [])).length ≤ _
              rw [readW_apply _ _ _ hl, List.getD, List.getElem?_eq_getElem (by rw [applyW_length]; exact hl), Option.getD_some, this _ (List.getElem_mem _)]
              omega)
        clear hb c
        go_wp2_with fail
        refine (open_any _ B _ HBl.out HBt.out).mono ?_
        rintro e w2 ⟨rfl, c2⟩
        have HC2 := hid (HC.out.trans c2)
        clear c2
        cases ho : openL B with
        | none =>
          have fin : Hid (PReadPost w pp dp gb mb p M F O (m : Int) (.returned (.tuple #[.int .i64 0, .string ⟨#[]⟩, .int .i64 10])) w2) := hid (by
            unfold PReadPost; rw [HP.out, if_neg (by simp), ho]; exact ⟨rfl, HX.out.ch HC2.out (fun _ _ h => h) (fun _ _ h => h), HC2.out.mono (fun _ _ h => h.elim)⟩)
          unfold openV
          clear ho
          go_wp2_with fail
          go_ret3
          exact fin.out
        | some y =>
          obtain ⟨k, g, s⟩ := y
          have fin : Hid (PReadPost w pp dp gb mb p M F O (m : Int) (.returned (.tuple #[.int .i64 (k : Int), .string ⟨s.toArray⟩, .int .i64 0])) w2) := hid (by
            unfold PReadPost; rw [HP.out, if_neg (by simp), ho]; exact ⟨rfl, HX.out.ch HC2.out (fun _ _ h => h) (fun _ _ h => h), HC2.out.mono (fun _ _ h => h.elim)⟩)
          unfold openV
          clear ho
          go_wp2_with fail
          go_ret3
          exact fin.out
      · have hEb : ((E : Int) == 0) = false := by simpa using hE
        have HE := hid hE
        clear hE
        go_enter Try.func64, Try.ntmps64
        go_wp2_with (first | (go_at_call 98; refine HR.out.mono ?_; rintro e w' ⟨rfl, rfl⟩) | (go_at_call 101; refine HH.out.mono ?_; rintro e w' ⟨rfl, rfl⟩))
        refine HRd.out.mono ?_
        rintro e w1 ⟨v, rfl, -, c, -, ⟨xa, xc, rfl⟩⟩
        have HC := hid c
        clear c
        go_wp2_with fail
        refine (told_any E _ (HX.out.ch HC.out (fun _ _ h => h) (fun _ _ h => h))).mono ?_
        rintro e w2 ⟨rfl, hX2, c2⟩
        have fin : Hid (PReadPost w pp dp gb mb p M F O (m : Int) (.returned (.tuple #[.int .i64 0, .string ⟨#[]⟩, .int .i64 (E : Int)])) w2) := hid (by
          unfold PReadPost; rw [HP.out, if_pos HE.out]; exact ⟨rfl, hX2, (HC.out.mono (T := O) (fun _ _ h => h.elim)).then c2 (fun _ _ h => h)⟩)
        clear hX2 c2
        go_wp2_with fail
        go_ret3
        exact fin.out

end Go.Proofs.Ytadhibemadgcoaa
