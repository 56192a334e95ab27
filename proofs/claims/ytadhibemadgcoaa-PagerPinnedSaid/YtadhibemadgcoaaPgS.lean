/- The pager's example. Conditions: none. -/
import Derived.Test.YtadhibemadgcoaaPgR
namespace Go.Proofs.Ytadhibemadgcoaa
open Go.RowKit

theorem use_none (x : Option Addr) (n c : Nat) (w : World) : Calls Try.prog 69 #[.pointer none, .slice x n c] w fun e w' => e = .returned (.int .i64 1) ∧ w = w' := by
  go_enter Try.func69, Try.ntmps69
  go_wp2_with (go_at_call 98; refine (ready_none _).mono ?_; rintro e w' ⟨rfl, rfl⟩)
  go_ret
  exact ⟨rfl, rfl⟩
/-- New's disk. -/
theorem new_z {w0 : World} (n : Nat) (w : World) (hw : Ch (fun _ => False) w0 w) (h1 : 1 ≤ n) (h2 : n ≤ 4096) :
    Calls Try.prog 41 #[.int .i64 n] w fun e w' => ∃ dp, e = .returned (.tuple #[.pointer (some ⟨dp, 0, none⟩), .int .i64 0]) ∧ DZ w0 w' dp { L := List.replicate n (zeros 512), wait := [], steps := 0, fuse := -1, gone := false } := by
  refine (new_ok n w h1 h2).mono ?_
  rintro e w' ⟨dp, M, rfl, k1, k2, k3⟩
  refine ⟨dp, rfl, M, M, k1, fun k hk => ?_, hw.trans k2⟩
  have := k3 k hk; have := hw.size; omega

set_option maxRecDepth 20000 in
set_option maxHeartbeats 4000000 in
theorem alive3 (w : World) : Calls Try.prog 52 #[] w fun e w' => e = .returned (.bool true) ∧ Ch (fun _ => False) w w' := by
  obtain ⟨d1, p1, p2, p3, p4, a1, a2, a3, a4, b1, b2, b3, c1, c2, e1, e2, e3, f1, f2, f3, f4, f5⟩ := alive_pure
  have hnew := new_z 6 w (Ch.refl _ w) (by omega) (by omega)
  obtain ⟨D0, HD0⟩ : ∃ d, Hid (({ L := List.replicate 6 (zeros 512), wait := [], steps := 0, fuse := -1, gone := false } : Dk) = d) := ⟨_, hid rfl⟩
  have hl0 := Hl.new 6 (by omega) (by omega)
  rw [HD0.out] at hnew hl0 a1
  obtain ⟨P0, HP0⟩ : ∃ p, Hid (openP d1 = p) := ⟨_, hid rfl⟩
  rw [HP0.out] at a3 a4 b1
  have HL0 := hid hl0
  have A1 := hid a1
  have A2 := hid a2
  have A3 := hid a3
  have A4 := hid a4
  have B1 := hid b1
  have B2 := hid b2
  have B3 := hid b3
  have C1 := hid c1
  have C2 := hid c2
  have E1 := hid e1
  have E2 := hid e2
  have E3 := hid e3
  have F1 := hid f1
  have F3 := hid f3
  have F4 := hid f4
  have F5 := hid f5
  have HN := hid hnew
  have HLd : Hid (Hl d1 6 100) := hid (by have := a4.hl; rw [← HP0.out] at this; exact this)
  clear a1 a2 a3 a4 b1 b2 b3 c1 c2 e1 e2 e3 f1 f2 f3 f4 f5 hnew hl0
  go_enter Try.func52, Try.ntmps52
  go_wp2_with fail
  refine HN.out.mono ?_
  rintro e w1 ⟨dp, rfl, hz⟩
  have hfm := format_z w1 hz HL0.out (by omega) (by omega)
  rw [A1.out] at hfm
  have HFM := hid hfm
  clear hz hfm
  go_wp2_with (go_at_call 55; refine (no3_any _ _).mono ?_; rintro e w' ⟨rfl, rfl⟩)
  refine HFM.out.mono ?_
  rintro e w2 ⟨rfl, hz⟩
  have hop := open_z w2 hz HLd.out (by omega) A2.out
  rw [HP0.out] at hop
  have HOP := hid hop
  clear hz hop
  go_wp2_with (go_at_call 55; refine (no3_any _ _).mono ?_; rintro e w' ⟨rfl, rfl⟩)
  refine HOP.out.mono ?_
  rintro e w3 ⟨pp, Q, rfl, hz⟩
  have HG := hid (gen_z w3 hz)
  have hpt := put_z 7 ⟨#[97]⟩ w3 hz A4.out (by omega)
  rw [show (⟨#[97]⟩ : ByteArray).data.toList = [97] from rfl, B1.out] at hpt
  have HPT := hid hpt
  clear hz hpt
  rw [A3.out] at HG
  go_wp2_with (first | (go_at_call 55; refine (no3_any _ _).mono ?_; rintro e w' ⟨rfl, rfl⟩) | (go_at_call 62; refine HG.out.mono ?_; rintro e w' ⟨rfl, rfl⟩))
  refine HPT.out.mono ?_
  rintro e w4 ⟨rfl, Q4, hz, -, -⟩
  have HFR := hid (free_z w4 hz)
  rw [B3.out] at HFR
  clear hz
  go_wp2_with fail
  refine HFR.out.mono ?_
  rintro e w5 ⟨rfl, Q5, hz, -, -⟩
  have hcm := commit_z ⟨#[114]⟩ w5 hz B2.out (by omega)
  rw [show (⟨#[114]⟩ : ByteArray).data.toList = [114] from rfl, C1.out] at hcm
  have HCM := hid hcm
  clear hz hcm
  go_wp2_with fail
  refine HCM.out.mono ?_
  rintro e w6 ⟨rfl, Q6, hz, -, -⟩
  have hdr := drop_z 2 w6 hz
  rw [E1.out] at hdr
  have HDR := hid hdr
  clear hz hdr
  go_wp2_with fail
  refine HDR.out.mono ?_
  rintro e w7 ⟨rfl, Q7, hz, -, -⟩
  have HFR2 := hid (free_z w7 hz)
  rw [E3.out] at HFR2
  clear hz
  go_wp2_with fail
  refine HFR2.out.mono ?_
  rintro e w8 ⟨rfl, Q8, hz, -, -⟩
  have hcm := commit_z ⟨#[115]⟩ w8 hz E2.out (by omega)
  rw [show (⟨#[115]⟩ : ByteArray).data.toList = [115] from rfl, F1.out] at hcm
  have HCM := hid hcm
  clear hz hcm
  go_wp2_with fail
  refine HCM.out.mono ?_
  rintro e w9 ⟨rfl, Q9, hz, -, -⟩
  have HFR3 := hid (free_z w9 hz)
  rw [F3.out] at HFR3
  clear hz
  go_wp2_with (go_at_call 55; refine (no3_any _ _).mono ?_; rintro e w' ⟨rfl, rfl⟩)
  refine HFR3.out.mono ?_
  rintro e w10 ⟨rfl, Q10, hz, -, -⟩
  have HG := hid (gen_z w10 hz)
  have HR := hid (root_z w10 hz)
  rw [F4.out] at HG
  rw [F5.out] at HR
  have HB := hid hz.base
  clear hz
  go_wp2_with (first | (go_at_call 62; refine HG.out.mono ?_; rintro e w' ⟨rfl, rfl⟩) | (go_at_call 63; refine HR.out.mono ?_; rintro e w' ⟨rfl, rfl⟩))
  go_ret
  exact ⟨rfl, HB.out⟩

end Go.Proofs.Ytadhibemadgcoaa
