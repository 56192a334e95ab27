/- PageBack answers true: its walk, by its sixteen ways (written by genback.py). Conditions: none on the bytes. -/
import Derived.Test.YtadhibemadgcoaaLawOpens
namespace Go.Proofs.Ytadhibemadgcoaa
open Go.RowKit

theorem bts_full {w : World} {b : Nat} {l : List UInt8} (h : w.heap[b]? = some (.cells (bcells l).toArray 5 (0, 0))) (hl : l.length = 512) : Bts w (.slice (some ⟨b, 0, none⟩) 512 512) l := by
  have := bts_cells (cs := []) (by simpa using h) 512 (by omega)
  rwa [hl] at this

set_option maxRecDepth 100000 in
set_option maxHeartbeats 4000000 in
theorem back_yes (kind gen : Int) (s : ByteArray) (a : Option Addr) (len cap : Nat) (l : List UInt8) (w : World) (hs : s.size ≤ 5000) (hlen : len ≤ 5000) (hl : l.length = len) (hv : Bts w (.slice a len cap) l) (hE : (0 ≤ kind ∧ kind ≤ 255 ∧ 0 ≤ gen ∧ gen ≤ 281474976710655 ∧ s.size ≤ 492)) :
    Calls Try.prog 7 #[.int .i64 kind, .int .i64 gen, .string s, .slice a len cap] w fun e w' => e = .returned (.bool true) ∧ Ch (fun _ => False) w w' := by
  have HV := hid hv
  clear hv
  have hl2 : l.length ≤ 5000 := by omega
  clear hl
  obtain ⟨e1, e2, e3, e4, e5⟩ := hE
  obtain ⟨k, rfl⟩ := Int.eq_ofNat_of_zero_le e1
  obtain ⟨g, rfl⟩ := Int.eq_ofNat_of_zero_le e3
  go_enter Try.func7, Try.ntmps7
  go_wp2_with fail
  refine (seal_ok k g s _ (by omega) (by omega) e5).mono ?_
  rintro e w1 ⟨b1, rfl, hb1, c1, o1⟩
  have HB1 := hid (bts_full hb1 (sealB_length _ _ _))
  clear hb1
  go_wp2_with (go_at_call 35; refine (no2_any _ _).mono ?_; rintro e w' ⟨rfl, rfl⟩)
  refine (open_any _ _ w1 (by rw [sealB_length]; omega) HB1.out).mono ?_
  rintro x w2 ⟨he, c2⟩
  rw [open_seal k g _ (by omega) (by omega) (by rw [size_toList]; omega)] at he
  simp only [openV] at he
  rw [← str_eq (t := s) rfl] at he
  subst he
  go_wp2_with (go_at_call 35; refine (no2_any _ _).mono ?_; rintro e w' ⟨rfl, rfl⟩)
  by_cases hR : 1 ≤ (g : Int) ∧ (g : Int) ≤ 4611686018427387904 ∧ s.size ≤ 490
  · obtain ⟨r1, r2, r3⟩ := hR
    refine (root_ok g s _ (by omega) (by omega) r3).mono ?_
    rintro e w3 ⟨b3, rfl, hb3, c3, o3⟩
    have HB3 := hid (bts_full hb3 (rootB_length _ _))
    clear hb3
    go_wp2_with (go_at_call 35; refine (no2_any _ _).mono ?_; rintro e w' ⟨rfl, rfl⟩)
    refine (rootopen_any _ _ w3 (by rw [rootB_length]; omega) HB3.out).mono ?_
    rintro x w4 ⟨he, c4⟩
    rw [root_seal g _ (by omega) (by omega) (by rw [size_toList]; omega)] at he
    simp only [rootV] at he
    rw [← str_eq (t := s) rfl] at he
    subst he
    go_wp2_with (go_at_call 35; refine (no2_any _ _).mono ?_; rintro e w' ⟨rfl, rfl⟩)
    rcases ho : openL l with _ | ⟨k3, g3, s3⟩
    · refine (open_any _ l w4 (by omega) (HV.out.ch (((c1.trans c2).trans c3).trans c4) (fun _ _ h => h))).mono ?_
      rintro x wo ⟨he, co⟩
      rw [ho] at he
      simp only [openV] at he
      subst he
      go_wp2_with (go_at_call 35; refine (no2_any _ _).mono ?_; rintro e w' ⟨rfl, rfl⟩)
      rcases ho2 : rootL l with _ | ⟨g4, s4⟩
      · refine (rootopen_any _ l wo (by omega) (HV.out.ch ((((c1.trans c2).trans c3).trans c4).trans co) (fun _ _ h => h))).mono ?_
        rintro x wq ⟨he, cq⟩
        rw [ho2] at he
        simp only [rootV] at he
        subst he
        have HC := hid (((((c1.trans c2).trans c3).trans c4).trans co).trans cq)
        go_wp2_with (first | (go_at_call 35; refine (no2_any _ _).mono ?_; rintro e w' ⟨rfl, rfl⟩) | (go_at_call 28; refine (alive2 _).mono ?_; rintro e wz ⟨rfl, hch⟩))
        go_ret
        exact ⟨rfl, HC.out.trans hch⟩
      · obtain ⟨q1, q2, q3, q4, q5⟩ := root_some ho2
        refine (rootopen_any _ l wo (by omega) (HV.out.ch ((((c1.trans c2).trans c3).trans c4).trans co) (fun _ _ h => h))).mono ?_
        rintro x wq ⟨he, cq⟩
        rw [ho2] at he
        simp only [rootV] at he
        subst he
        go_wp2_with (go_at_call 35; refine (no2_any _ _).mono ?_; rintro e w' ⟨rfl, rfl⟩)
        refine (root_ok g4 ⟨s4.toArray⟩ wq q2 q3 (by simpa [ByteArray.size] using q4)).mono ?_
        rintro e wr ⟨br, rfl, hbr, cr, orr⟩
        have hcr := str_of (bts_full hbr (rootB_length _ _))
        rw [show rootB g4 (⟨s4.toArray⟩ : ByteArray).data.toList = l from q5] at hcr
        have hcl := str_of (HV.out.ch ((((((c1.trans c2).trans c3).trans c4).trans co).trans cq).trans cr) (fun _ _ h => h))
        obtain ⟨L, HLL⟩ : ∃ L, Hid ((⟨l.toArray⟩ : ByteArray) = L) := ⟨_, hid rfl⟩
        rw [HLL.out] at hcr hcl
        have HC := hid ((((((c1.trans c2).trans c3).trans c4).trans co).trans cq).trans cr)
        clear hbr
        go_wp2_with (first | (go_at_call 35; refine (no2_any _ _).mono ?_; rintro e w' ⟨rfl, rfl⟩) | (go_at_call 28; refine (alive2 _).mono ?_; rintro e wz ⟨rfl, hch⟩))
        go_ret
        exact ⟨rfl, HC.out.trans hch⟩
    · obtain ⟨p1, p2, p3, p4, p5⟩ := open_some ho
      refine (open_any _ l w4 (by omega) (HV.out.ch (((c1.trans c2).trans c3).trans c4) (fun _ _ h => h))).mono ?_
      rintro x wo ⟨he, co⟩
      rw [ho] at he
      simp only [openV] at he
      subst he
      go_wp2_with (go_at_call 35; refine (no2_any _ _).mono ?_; rintro e w' ⟨rfl, rfl⟩)
      refine (seal_ok k3 g3 ⟨s3.toArray⟩ wo p2 p3 (by simpa [ByteArray.size] using p4)).mono ?_
      rintro e wp ⟨bp, rfl, hbp, cp, op⟩
      have hcp := str_of (bts_full hbp (sealB_length _ _ _))
      rw [show sealB k3 g3 (⟨s3.toArray⟩ : ByteArray).data.toList = l from p5] at hcp
      have hcl := str_of (HV.out.ch (((((c1.trans c2).trans c3).trans c4).trans co).trans cp) (fun _ _ h => h))
      obtain ⟨L0, HL0⟩ : ∃ L, Hid ((⟨l.toArray⟩ : ByteArray) = L) := ⟨_, hid rfl⟩
      rw [HL0.out] at hcp hcl
      clear hbp
      go_wp2_with (go_at_call 35; refine (no2_any _ _).mono ?_; rintro e w' ⟨rfl, rfl⟩)
      clear hcp hcl
      rcases ho2 : rootL l with _ | ⟨g4, s4⟩
      · refine (rootopen_any _ l wp (by omega) (HV.out.ch (((((c1.trans c2).trans c3).trans c4).trans co).trans cp) (fun _ _ h => h))).mono ?_
        rintro x wq ⟨he, cq⟩
        rw [ho2] at he
        simp only [rootV] at he
        subst he
        have HC := hid ((((((c1.trans c2).trans c3).trans c4).trans co).trans cp).trans cq)
        go_wp2_with (first | (go_at_call 35; refine (no2_any _ _).mono ?_; rintro e w' ⟨rfl, rfl⟩) | (go_at_call 28; refine (alive2 _).mono ?_; rintro e wz ⟨rfl, hch⟩))
        go_ret
        exact ⟨rfl, HC.out.trans hch⟩
      · obtain ⟨q1, q2, q3, q4, q5⟩ := root_some ho2
        refine (rootopen_any _ l wp (by omega) (HV.out.ch (((((c1.trans c2).trans c3).trans c4).trans co).trans cp) (fun _ _ h => h))).mono ?_
        rintro x wq ⟨he, cq⟩
        rw [ho2] at he
        simp only [rootV] at he
        subst he
        go_wp2_with (go_at_call 35; refine (no2_any _ _).mono ?_; rintro e w' ⟨rfl, rfl⟩)
        refine (root_ok g4 ⟨s4.toArray⟩ wq q2 q3 (by simpa [ByteArray.size] using q4)).mono ?_
        rintro e wr ⟨br, rfl, hbr, cr, orr⟩
        have hcr := str_of (bts_full hbr (rootB_length _ _))
        rw [show rootB g4 (⟨s4.toArray⟩ : ByteArray).data.toList = l from q5] at hcr
        have hcl := str_of (HV.out.ch (((((((c1.trans c2).trans c3).trans c4).trans co).trans cp).trans cq).trans cr) (fun _ _ h => h))
        obtain ⟨L, HLL⟩ : ∃ L, Hid ((⟨l.toArray⟩ : ByteArray) = L) := ⟨_, hid rfl⟩
        rw [HLL.out] at hcr hcl
        have HC := hid (((((((c1.trans c2).trans c3).trans c4).trans co).trans cp).trans cq).trans cr)
        clear hbr
        go_wp2_with (first | (go_at_call 35; refine (no2_any _ _).mono ?_; rintro e w' ⟨rfl, rfl⟩) | (go_at_call 28; refine (alive2 _).mono ?_; rintro e wz ⟨rfl, hch⟩))
        go_ret
        exact ⟨rfl, HC.out.trans hch⟩
  · refine (sroot_any (g : Int) s _).mono ?_
    rintro e w3 ⟨v3, rfl, _, c3, _⟩
    have hz : (((srootE (g : Int) s.size : Nat) : Int) == 0) = false := by
      rw [beq_eq_false_iff_ne]
      rcases srootE_cases (g : Int) s.size with ⟨h, h1⟩ | ⟨h, h1, h2, h3⟩ | ⟨h, h1, h2, h3⟩ <;> omega
    clear hR
    obtain ⟨E3, HE3⟩ : ∃ E : Int, Hid (((srootE (g : Int) s.size : Nat) : Int) = E) := ⟨_, hid rfl⟩
    rw [HE3.out] at hz ⊢
    go_wp2_with (go_at_call 35; refine (no2_any _ _).mono ?_; rintro e w' ⟨rfl, rfl⟩)
    clear hz
    rcases ho : openL l with _ | ⟨k3, g3, s3⟩
    · refine (open_any _ l w3 (by omega) (HV.out.ch ((c1.trans c2).trans c3) (fun _ _ h => h))).mono ?_
      rintro x wo ⟨he, co⟩
      rw [ho] at he
      simp only [openV] at he
      subst he
      go_wp2_with (go_at_call 35; refine (no2_any _ _).mono ?_; rintro e w' ⟨rfl, rfl⟩)
      rcases ho2 : rootL l with _ | ⟨g4, s4⟩
      · refine (rootopen_any _ l wo (by omega) (HV.out.ch (((c1.trans c2).trans c3).trans co) (fun _ _ h => h))).mono ?_
        rintro x wq ⟨he, cq⟩
        rw [ho2] at he
        simp only [rootV] at he
        subst he
        have HC := hid ((((c1.trans c2).trans c3).trans co).trans cq)
        go_wp2_with (first | (go_at_call 35; refine (no2_any _ _).mono ?_; rintro e w' ⟨rfl, rfl⟩) | (go_at_call 28; refine (alive2 _).mono ?_; rintro e wz ⟨rfl, hch⟩))
        go_ret
        exact ⟨rfl, HC.out.trans hch⟩
      · obtain ⟨q1, q2, q3, q4, q5⟩ := root_some ho2
        refine (rootopen_any _ l wo (by omega) (HV.out.ch (((c1.trans c2).trans c3).trans co) (fun _ _ h => h))).mono ?_
        rintro x wq ⟨he, cq⟩
        rw [ho2] at he
        simp only [rootV] at he
        subst he
        go_wp2_with (go_at_call 35; refine (no2_any _ _).mono ?_; rintro e w' ⟨rfl, rfl⟩)
        refine (root_ok g4 ⟨s4.toArray⟩ wq q2 q3 (by simpa [ByteArray.size] using q4)).mono ?_
        rintro e wr ⟨br, rfl, hbr, cr, orr⟩
        have hcr := str_of (bts_full hbr (rootB_length _ _))
        rw [show rootB g4 (⟨s4.toArray⟩ : ByteArray).data.toList = l from q5] at hcr
        have hcl := str_of (HV.out.ch (((((c1.trans c2).trans c3).trans co).trans cq).trans cr) (fun _ _ h => h))
        obtain ⟨L, HLL⟩ : ∃ L, Hid ((⟨l.toArray⟩ : ByteArray) = L) := ⟨_, hid rfl⟩
        rw [HLL.out] at hcr hcl
        have HC := hid (((((c1.trans c2).trans c3).trans co).trans cq).trans cr)
        clear hbr
        go_wp2_with (first | (go_at_call 35; refine (no2_any _ _).mono ?_; rintro e w' ⟨rfl, rfl⟩) | (go_at_call 28; refine (alive2 _).mono ?_; rintro e wz ⟨rfl, hch⟩))
        go_ret
        exact ⟨rfl, HC.out.trans hch⟩
    · obtain ⟨p1, p2, p3, p4, p5⟩ := open_some ho
      refine (open_any _ l w3 (by omega) (HV.out.ch ((c1.trans c2).trans c3) (fun _ _ h => h))).mono ?_
      rintro x wo ⟨he, co⟩
      rw [ho] at he
      simp only [openV] at he
      subst he
      go_wp2_with (go_at_call 35; refine (no2_any _ _).mono ?_; rintro e w' ⟨rfl, rfl⟩)
      refine (seal_ok k3 g3 ⟨s3.toArray⟩ wo p2 p3 (by simpa [ByteArray.size] using p4)).mono ?_
      rintro e wp ⟨bp, rfl, hbp, cp, op⟩
      have hcp := str_of (bts_full hbp (sealB_length _ _ _))
      rw [show sealB k3 g3 (⟨s3.toArray⟩ : ByteArray).data.toList = l from p5] at hcp
      have hcl := str_of (HV.out.ch ((((c1.trans c2).trans c3).trans co).trans cp) (fun _ _ h => h))
      obtain ⟨L0, HL0⟩ : ∃ L, Hid ((⟨l.toArray⟩ : ByteArray) = L) := ⟨_, hid rfl⟩
      rw [HL0.out] at hcp hcl
      clear hbp
      go_wp2_with (go_at_call 35; refine (no2_any _ _).mono ?_; rintro e w' ⟨rfl, rfl⟩)
      clear hcp hcl
      rcases ho2 : rootL l with _ | ⟨g4, s4⟩
      · refine (rootopen_any _ l wp (by omega) (HV.out.ch ((((c1.trans c2).trans c3).trans co).trans cp) (fun _ _ h => h))).mono ?_
        rintro x wq ⟨he, cq⟩
        rw [ho2] at he
        simp only [rootV] at he
        subst he
        have HC := hid (((((c1.trans c2).trans c3).trans co).trans cp).trans cq)
        go_wp2_with (first | (go_at_call 35; refine (no2_any _ _).mono ?_; rintro e w' ⟨rfl, rfl⟩) | (go_at_call 28; refine (alive2 _).mono ?_; rintro e wz ⟨rfl, hch⟩))
        go_ret
        exact ⟨rfl, HC.out.trans hch⟩
      · obtain ⟨q1, q2, q3, q4, q5⟩ := root_some ho2
        refine (rootopen_any _ l wp (by omega) (HV.out.ch ((((c1.trans c2).trans c3).trans co).trans cp) (fun _ _ h => h))).mono ?_
        rintro x wq ⟨he, cq⟩
        rw [ho2] at he
        simp only [rootV] at he
        subst he
        go_wp2_with (go_at_call 35; refine (no2_any _ _).mono ?_; rintro e w' ⟨rfl, rfl⟩)
        refine (root_ok g4 ⟨s4.toArray⟩ wq q2 q3 (by simpa [ByteArray.size] using q4)).mono ?_
        rintro e wr ⟨br, rfl, hbr, cr, orr⟩
        have hcr := str_of (bts_full hbr (rootB_length _ _))
        rw [show rootB g4 (⟨s4.toArray⟩ : ByteArray).data.toList = l from q5] at hcr
        have hcl := str_of (HV.out.ch ((((((c1.trans c2).trans c3).trans co).trans cp).trans cq).trans cr) (fun _ _ h => h))
        obtain ⟨L, HLL⟩ : ∃ L, Hid ((⟨l.toArray⟩ : ByteArray) = L) := ⟨_, hid rfl⟩
        rw [HLL.out] at hcr hcl
        have HC := hid ((((((c1.trans c2).trans c3).trans co).trans cp).trans cq).trans cr)
        clear hbr
        go_wp2_with (first | (go_at_call 35; refine (no2_any _ _).mono ?_; rintro e w' ⟨rfl, rfl⟩) | (go_at_call 28; refine (alive2 _).mono ?_; rintro e wz ⟨rfl, hch⟩))
        go_ret
        exact ⟨rfl, HC.out.trans hch⟩

set_option maxRecDepth 100000 in
set_option maxHeartbeats 4000000 in
theorem back_no (kind gen : Int) (s : ByteArray) (a : Option Addr) (len cap : Nat) (l : List UInt8) (w : World) (hs : s.size ≤ 5000) (hlen : len ≤ 5000) (hl : l.length = len) (hv : Bts w (.slice a len cap) l) (hE : ¬ (0 ≤ kind ∧ kind ≤ 255 ∧ 0 ≤ gen ∧ gen ≤ 281474976710655 ∧ s.size ≤ 492)) :
    Calls Try.prog 7 #[.int .i64 kind, .int .i64 gen, .string s, .slice a len cap] w fun e w' => e = .returned (.bool true) ∧ Ch (fun _ => False) w w' := by
  have HV := hid hv
  clear hv
  have hl2 : l.length ≤ 5000 := by omega
  clear hl
  go_enter Try.func7, Try.ntmps7
  go_wp2_with fail
  refine (seal_any kind gen s _).mono ?_
  rintro e w1 ⟨v1, rfl, _, c1, _⟩
  have hz : (((sealE kind gen s.size : Nat) : Int) == 0) = false := by
    rw [beq_eq_false_iff_ne]
    rcases sealE_cases kind gen s.size with ⟨h, h1⟩ | ⟨h, h1, h2, h3, h4, h5⟩ | ⟨h, h1, h2, h3, h4, h5⟩ <;> omega
  clear hE
  obtain ⟨E1, HE1⟩ : ∃ E : Int, Hid (((sealE kind gen s.size : Nat) : Int) = E) := ⟨_, hid rfl⟩
  rw [HE1.out] at hz ⊢
  go_wp2_with (go_at_call 35; refine (no2_any _ _).mono ?_; rintro e w' ⟨rfl, rfl⟩)
  clear hz
  by_cases hR : 1 ≤ gen ∧ gen ≤ 4611686018427387904 ∧ s.size ≤ 490
  · obtain ⟨r1, r2, r3⟩ := hR
    obtain ⟨g, rfl⟩ := Int.eq_ofNat_of_zero_le (show 0 ≤ gen by omega)
    refine (root_ok g s _ (by omega) (by omega) r3).mono ?_
    rintro e w3 ⟨b3, rfl, hb3, c3, o3⟩
    have HB3 := hid (bts_full hb3 (rootB_length _ _))
    clear hb3
    go_wp2_with (go_at_call 35; refine (no2_any _ _).mono ?_; rintro e w' ⟨rfl, rfl⟩)
    refine (rootopen_any _ _ w3 (by rw [rootB_length]; omega) HB3.out).mono ?_
    rintro x w4 ⟨he, c4⟩
    rw [root_seal g _ (by omega) (by omega) (by rw [size_toList]; omega)] at he
    simp only [rootV] at he
    rw [← str_eq (t := s) rfl] at he
    subst he
    go_wp2_with (go_at_call 35; refine (no2_any _ _).mono ?_; rintro e w' ⟨rfl, rfl⟩)
    rcases ho : openL l with _ | ⟨k3, g3, s3⟩
    · refine (open_any _ l w4 (by omega) (HV.out.ch ((c1.trans c3).trans c4) (fun _ _ h => h))).mono ?_
      rintro x wo ⟨he, co⟩
      rw [ho] at he
      simp only [openV] at he
      subst he
      go_wp2_with (go_at_call 35; refine (no2_any _ _).mono ?_; rintro e w' ⟨rfl, rfl⟩)
      rcases ho2 : rootL l with _ | ⟨g4, s4⟩
      · refine (rootopen_any _ l wo (by omega) (HV.out.ch (((c1.trans c3).trans c4).trans co) (fun _ _ h => h))).mono ?_
        rintro x wq ⟨he, cq⟩
        rw [ho2] at he
        simp only [rootV] at he
        subst he
        have HC := hid ((((c1.trans c3).trans c4).trans co).trans cq)
        go_wp2_with (first | (go_at_call 35; refine (no2_any _ _).mono ?_; rintro e w' ⟨rfl, rfl⟩) | (go_at_call 28; refine (alive2 _).mono ?_; rintro e wz ⟨rfl, hch⟩))
        go_ret
        exact ⟨rfl, HC.out.trans hch⟩
      · obtain ⟨q1, q2, q3, q4, q5⟩ := root_some ho2
        refine (rootopen_any _ l wo (by omega) (HV.out.ch (((c1.trans c3).trans c4).trans co) (fun _ _ h => h))).mono ?_
        rintro x wq ⟨he, cq⟩
        rw [ho2] at he
        simp only [rootV] at he
        subst he
        go_wp2_with (go_at_call 35; refine (no2_any _ _).mono ?_; rintro e w' ⟨rfl, rfl⟩)
        refine (root_ok g4 ⟨s4.toArray⟩ wq q2 q3 (by simpa [ByteArray.size] using q4)).mono ?_
        rintro e wr ⟨br, rfl, hbr, cr, orr⟩
        have hcr := str_of (bts_full hbr (rootB_length _ _))
        rw [show rootB g4 (⟨s4.toArray⟩ : ByteArray).data.toList = l from q5] at hcr
        have hcl := str_of (HV.out.ch (((((c1.trans c3).trans c4).trans co).trans cq).trans cr) (fun _ _ h => h))
        obtain ⟨L, HLL⟩ : ∃ L, Hid ((⟨l.toArray⟩ : ByteArray) = L) := ⟨_, hid rfl⟩
        rw [HLL.out] at hcr hcl
        have HC := hid (((((c1.trans c3).trans c4).trans co).trans cq).trans cr)
        clear hbr
        go_wp2_with (first | (go_at_call 35; refine (no2_any _ _).mono ?_; rintro e w' ⟨rfl, rfl⟩) | (go_at_call 28; refine (alive2 _).mono ?_; rintro e wz ⟨rfl, hch⟩))
        go_ret
        exact ⟨rfl, HC.out.trans hch⟩
    · obtain ⟨p1, p2, p3, p4, p5⟩ := open_some ho
      refine (open_any _ l w4 (by omega) (HV.out.ch ((c1.trans c3).trans c4) (fun _ _ h => h))).mono ?_
      rintro x wo ⟨he, co⟩
      rw [ho] at he
      simp only [openV] at he
      subst he
      go_wp2_with (go_at_call 35; refine (no2_any _ _).mono ?_; rintro e w' ⟨rfl, rfl⟩)
      refine (seal_ok k3 g3 ⟨s3.toArray⟩ wo p2 p3 (by simpa [ByteArray.size] using p4)).mono ?_
      rintro e wp ⟨bp, rfl, hbp, cp, op⟩
      have hcp := str_of (bts_full hbp (sealB_length _ _ _))
      rw [show sealB k3 g3 (⟨s3.toArray⟩ : ByteArray).data.toList = l from p5] at hcp
      have hcl := str_of (HV.out.ch ((((c1.trans c3).trans c4).trans co).trans cp) (fun _ _ h => h))
      obtain ⟨L0, HL0⟩ : ∃ L, Hid ((⟨l.toArray⟩ : ByteArray) = L) := ⟨_, hid rfl⟩
      rw [HL0.out] at hcp hcl
      clear hbp
      go_wp2_with (go_at_call 35; refine (no2_any _ _).mono ?_; rintro e w' ⟨rfl, rfl⟩)
      clear hcp hcl
      rcases ho2 : rootL l with _ | ⟨g4, s4⟩
      · refine (rootopen_any _ l wp (by omega) (HV.out.ch ((((c1.trans c3).trans c4).trans co).trans cp) (fun _ _ h => h))).mono ?_
        rintro x wq ⟨he, cq⟩
        rw [ho2] at he
        simp only [rootV] at he
        subst he
        have HC := hid (((((c1.trans c3).trans c4).trans co).trans cp).trans cq)
        go_wp2_with (first | (go_at_call 35; refine (no2_any _ _).mono ?_; rintro e w' ⟨rfl, rfl⟩) | (go_at_call 28; refine (alive2 _).mono ?_; rintro e wz ⟨rfl, hch⟩))
        go_ret
        exact ⟨rfl, HC.out.trans hch⟩
      · obtain ⟨q1, q2, q3, q4, q5⟩ := root_some ho2
        refine (rootopen_any _ l wp (by omega) (HV.out.ch ((((c1.trans c3).trans c4).trans co).trans cp) (fun _ _ h => h))).mono ?_
        rintro x wq ⟨he, cq⟩
        rw [ho2] at he
        simp only [rootV] at he
        subst he
        go_wp2_with (go_at_call 35; refine (no2_any _ _).mono ?_; rintro e w' ⟨rfl, rfl⟩)
        refine (root_ok g4 ⟨s4.toArray⟩ wq q2 q3 (by simpa [ByteArray.size] using q4)).mono ?_
        rintro e wr ⟨br, rfl, hbr, cr, orr⟩
        have hcr := str_of (bts_full hbr (rootB_length _ _))
        rw [show rootB g4 (⟨s4.toArray⟩ : ByteArray).data.toList = l from q5] at hcr
        have hcl := str_of (HV.out.ch ((((((c1.trans c3).trans c4).trans co).trans cp).trans cq).trans cr) (fun _ _ h => h))
        obtain ⟨L, HLL⟩ : ∃ L, Hid ((⟨l.toArray⟩ : ByteArray) = L) := ⟨_, hid rfl⟩
        rw [HLL.out] at hcr hcl
        have HC := hid ((((((c1.trans c3).trans c4).trans co).trans cp).trans cq).trans cr)
        clear hbr
        go_wp2_with (first | (go_at_call 35; refine (no2_any _ _).mono ?_; rintro e w' ⟨rfl, rfl⟩) | (go_at_call 28; refine (alive2 _).mono ?_; rintro e wz ⟨rfl, hch⟩))
        go_ret
        exact ⟨rfl, HC.out.trans hch⟩
  · refine (sroot_any gen s _).mono ?_
    rintro e w3 ⟨v3, rfl, _, c3, _⟩
    have hz : (((srootE gen s.size : Nat) : Int) == 0) = false := by
      rw [beq_eq_false_iff_ne]
      rcases srootE_cases gen s.size with ⟨h, h1⟩ | ⟨h, h1, h2, h3⟩ | ⟨h, h1, h2, h3⟩ <;> omega
    clear hR
    obtain ⟨E3, HE3⟩ : ∃ E : Int, Hid (((srootE gen s.size : Nat) : Int) = E) := ⟨_, hid rfl⟩
    rw [HE3.out] at hz ⊢
    go_wp2_with (go_at_call 35; refine (no2_any _ _).mono ?_; rintro e w' ⟨rfl, rfl⟩)
    clear hz
    rcases ho : openL l with _ | ⟨k3, g3, s3⟩
    · refine (open_any _ l w3 (by omega) (HV.out.ch (c1.trans c3) (fun _ _ h => h))).mono ?_
      rintro x wo ⟨he, co⟩
      rw [ho] at he
      simp only [openV] at he
      subst he
      go_wp2_with (go_at_call 35; refine (no2_any _ _).mono ?_; rintro e w' ⟨rfl, rfl⟩)
      rcases ho2 : rootL l with _ | ⟨g4, s4⟩
      · refine (rootopen_any _ l wo (by omega) (HV.out.ch ((c1.trans c3).trans co) (fun _ _ h => h))).mono ?_
        rintro x wq ⟨he, cq⟩
        rw [ho2] at he
        simp only [rootV] at he
        subst he
        have HC := hid (((c1.trans c3).trans co).trans cq)
        go_wp2_with (first | (go_at_call 35; refine (no2_any _ _).mono ?_; rintro e w' ⟨rfl, rfl⟩) | (go_at_call 28; refine (alive2 _).mono ?_; rintro e wz ⟨rfl, hch⟩))
        go_ret
        exact ⟨rfl, HC.out.trans hch⟩
      · obtain ⟨q1, q2, q3, q4, q5⟩ := root_some ho2
        refine (rootopen_any _ l wo (by omega) (HV.out.ch ((c1.trans c3).trans co) (fun _ _ h => h))).mono ?_
        rintro x wq ⟨he, cq⟩
        rw [ho2] at he
        simp only [rootV] at he
        subst he
        go_wp2_with (go_at_call 35; refine (no2_any _ _).mono ?_; rintro e w' ⟨rfl, rfl⟩)
        refine (root_ok g4 ⟨s4.toArray⟩ wq q2 q3 (by simpa [ByteArray.size] using q4)).mono ?_
        rintro e wr ⟨br, rfl, hbr, cr, orr⟩
        have hcr := str_of (bts_full hbr (rootB_length _ _))
        rw [show rootB g4 (⟨s4.toArray⟩ : ByteArray).data.toList = l from q5] at hcr
        have hcl := str_of (HV.out.ch ((((c1.trans c3).trans co).trans cq).trans cr) (fun _ _ h => h))
        obtain ⟨L, HLL⟩ : ∃ L, Hid ((⟨l.toArray⟩ : ByteArray) = L) := ⟨_, hid rfl⟩
        rw [HLL.out] at hcr hcl
        have HC := hid ((((c1.trans c3).trans co).trans cq).trans cr)
        clear hbr
        go_wp2_with (first | (go_at_call 35; refine (no2_any _ _).mono ?_; rintro e w' ⟨rfl, rfl⟩) | (go_at_call 28; refine (alive2 _).mono ?_; rintro e wz ⟨rfl, hch⟩))
        go_ret
        exact ⟨rfl, HC.out.trans hch⟩
    · obtain ⟨p1, p2, p3, p4, p5⟩ := open_some ho
      refine (open_any _ l w3 (by omega) (HV.out.ch (c1.trans c3) (fun _ _ h => h))).mono ?_
      rintro x wo ⟨he, co⟩
      rw [ho] at he
      simp only [openV] at he
      subst he
      go_wp2_with (go_at_call 35; refine (no2_any _ _).mono ?_; rintro e w' ⟨rfl, rfl⟩)
      refine (seal_ok k3 g3 ⟨s3.toArray⟩ wo p2 p3 (by simpa [ByteArray.size] using p4)).mono ?_
      rintro e wp ⟨bp, rfl, hbp, cp, op⟩
      have hcp := str_of (bts_full hbp (sealB_length _ _ _))
      rw [show sealB k3 g3 (⟨s3.toArray⟩ : ByteArray).data.toList = l from p5] at hcp
      have hcl := str_of (HV.out.ch (((c1.trans c3).trans co).trans cp) (fun _ _ h => h))
      obtain ⟨L0, HL0⟩ : ∃ L, Hid ((⟨l.toArray⟩ : ByteArray) = L) := ⟨_, hid rfl⟩
      rw [HL0.out] at hcp hcl
      clear hbp
      go_wp2_with (go_at_call 35; refine (no2_any _ _).mono ?_; rintro e w' ⟨rfl, rfl⟩)
      clear hcp hcl
      rcases ho2 : rootL l with _ | ⟨g4, s4⟩
      · refine (rootopen_any _ l wp (by omega) (HV.out.ch (((c1.trans c3).trans co).trans cp) (fun _ _ h => h))).mono ?_
        rintro x wq ⟨he, cq⟩
        rw [ho2] at he
        simp only [rootV] at he
        subst he
        have HC := hid ((((c1.trans c3).trans co).trans cp).trans cq)
        go_wp2_with (first | (go_at_call 35; refine (no2_any _ _).mono ?_; rintro e w' ⟨rfl, rfl⟩) | (go_at_call 28; refine (alive2 _).mono ?_; rintro e wz ⟨rfl, hch⟩))
        go_ret
        exact ⟨rfl, HC.out.trans hch⟩
      · obtain ⟨q1, q2, q3, q4, q5⟩ := root_some ho2
        refine (rootopen_any _ l wp (by omega) (HV.out.ch (((c1.trans c3).trans co).trans cp) (fun _ _ h => h))).mono ?_
        rintro x wq ⟨he, cq⟩
        rw [ho2] at he
        simp only [rootV] at he
        subst he
        go_wp2_with (go_at_call 35; refine (no2_any _ _).mono ?_; rintro e w' ⟨rfl, rfl⟩)
        refine (root_ok g4 ⟨s4.toArray⟩ wq q2 q3 (by simpa [ByteArray.size] using q4)).mono ?_
        rintro e wr ⟨br, rfl, hbr, cr, orr⟩
        have hcr := str_of (bts_full hbr (rootB_length _ _))
        rw [show rootB g4 (⟨s4.toArray⟩ : ByteArray).data.toList = l from q5] at hcr
        have hcl := str_of (HV.out.ch (((((c1.trans c3).trans co).trans cp).trans cq).trans cr) (fun _ _ h => h))
        obtain ⟨L, HLL⟩ : ∃ L, Hid ((⟨l.toArray⟩ : ByteArray) = L) := ⟨_, hid rfl⟩
        rw [HLL.out] at hcr hcl
        have HC := hid (((((c1.trans c3).trans co).trans cp).trans cq).trans cr)
        clear hbr
        go_wp2_with (first | (go_at_call 35; refine (no2_any _ _).mono ?_; rintro e w' ⟨rfl, rfl⟩) | (go_at_call 28; refine (alive2 _).mono ?_; rintro e wz ⟨rfl, hch⟩))
        go_ret
        exact ⟨rfl, HC.out.trans hch⟩

set_option maxRecDepth 100000 in
set_option maxHeartbeats 1000000 in
theorem back_walk (kind gen : Int) (s : ByteArray) (a : Option Addr) (len cap : Nat) (l : List UInt8) (w : World) (hs : s.size ≤ maxLen) (hl : l.length = len) (hv : Bts w (.slice a len cap) l) :
    Calls Try.prog 7 #[.int .i64 kind, .int .i64 gen, .string s, .slice a len cap] w fun e w' => e = .returned (.bool true) ∧ Ch (fun _ => False) w w' := by
  unfold maxLen at hs
  by_cases h : 5000 < s.size
  · clear hv hl
    go_enter Try.func7, Try.ntmps7
    go_wp2_with (go_at_call 28; refine (alive2 _).mono ?_; rintro e w' ⟨rfl, hch⟩)
    go_ret
    exact ⟨rfl, hch⟩
  · by_cases h5 : 5000 < len
    · clear hv hl
      go_enter Try.func7, Try.ntmps7
      go_wp2_with (go_at_call 28; refine (alive2 _).mono ?_; rintro e w' ⟨rfl, hch⟩)
      go_ret
      exact ⟨rfl, hch⟩
    · by_cases hE : (0 ≤ kind ∧ kind ≤ 255 ∧ 0 ≤ gen ∧ gen ≤ 281474976710655 ∧ s.size ≤ 492)
      · exact back_yes kind gen s a len cap l w (by omega) (by omega) hl hv hE
      · exact back_no kind gen s a len cap l w (by omega) (by omega) hl hv hE

end Go.Proofs.Ytadhibemadgcoaa
