/- PageOpens answers true: its walk. Conditions: none on the bytes. -/
import Derived.Test.YtadhibemadgcoaaLawSeals
namespace Go.Proofs.Ytadhibemadgcoaa
open Go.RowKit

theorem openV_tuple (o : Option (Nat × Nat × List UInt8)) : ∃ (k g : Int) (t : ByteArray) (e : Int), openV o = .tuple #[.int .i64 k, .int .i64 g, .string t, .int .i64 e] := by
  rcases o with _ | ⟨k, g, s⟩ <;> exact ⟨_, _, _, _, rfl⟩
theorem rootV_tuple (o : Option (Nat × List UInt8)) : ∃ (g : Int) (t : ByteArray) (e : Int), rootV o = .tuple #[.int .i64 g, .string t, .int .i64 e] := by
  rcases o with _ | ⟨g, s⟩ <;> exact ⟨_, _, _, rfl⟩

set_option maxRecDepth 100000 in
set_option maxHeartbeats 1000000 in
theorem opens_walk (a : Option Addr) (len cap : Nat) (l : List UInt8) (w : World) (hl : l.length = len) (hv : Bts w (.slice a len cap) l) :
    Calls Try.prog 6 #[.slice a len cap] w fun e w' => e = .returned (.bool true) ∧ Ch (fun _ => False) w w' := by
  by_cases h : 5000 < len
  · clear hv hl
    go_enter Try.func6, Try.ntmps6
    go_wp2_with (go_at_call 28; refine (alive2 _).mono ?_; rintro e w' ⟨rfl, hch⟩)
    go_ret
    exact ⟨rfl, hch⟩
  · obtain ⟨v1, w1, hrun, hown, c1⟩ := run_clone_bts (P := Try.prog) w 35 35 5 Try.underlying35 Try.info5 _ l hv (by omega)
    have HB1 := hid (bts_of_owns hown)
    have HV := hid (hv.ch c1 (fun _ _ h => h))
    have HR := hid hrun
    have HL := hid hl
    clear hown hrun hv hl
    obtain ⟨S, hcv, hS⟩ := str_named HV.out
    have HS := hid hS
    have hsz : S.size ≤ 5000 := by rw [← size_toList, hS, HL.out]; omega
    have hq := beq_self_eq_true S.toList
    obtain ⟨S1, hcv1, hS1⟩ := str_named HB1.out
    have hq1 := beq_str_eq (hS1.trans hS.symm)
    have HS1 := hid hS1
    clear hS hS1 hq
    have HCV := hid hcv
    have HCV1 := hid hcv1
    obtain ⟨k, g, t, e, HO⟩ : ∃ (k g : Int) (t : ByteArray) (e : Int), Hid (openV (openL l) = .tuple #[.int .i64 k, .int .i64 g, .string t, .int .i64 e]) := openV_tuple _
    obtain ⟨g2, t2, e2, HO2⟩ : ∃ (g : Int) (t : ByteArray) (e : Int), Hid (rootV (rootL l) = .tuple #[.int .i64 g, .string t, .int .i64 e]) := rootV_tuple _
    go_enter Try.func6, Try.ntmps6
    go_wp2_with (at_builtin; refine wpList_append_run rfl _ _ _ _ rfl _ _ HR.out ?_)
    refine (open_any v1 l w1 (by rw [HL.out]; omega) HB1.out).mono ?_
    rintro x w2 ⟨he, c2⟩
    rw [HO.out] at he
    subst he
    have hcv2 := (str_of (HV.out.ch c2 (fun _ _ h => h)))
    rw [← str_eq HS.out] at hcv2
    go_wp2_with fail
    refine (ropen_any S w2 (by omega)).mono ?_
    rintro x w3 ⟨he, c3⟩
    rw [HS.out, HO.out] at he
    subst he
    have HB3 := hid (HB1.out.ch (c2.trans c3) (fun _ _ h => h))
    have HV3 := hid (HV.out.ch (c2.trans c3) (fun _ _ h => h))
    clear hcv2
    go_wp2_with fail
    refine (rootopen_any v1 l w3 (by rw [HL.out]; omega) HB3.out).mono ?_
    rintro x w4 ⟨he, c4⟩
    rw [HO2.out] at he
    subst he
    have hcv4 := (str_of (HV3.out.ch c4 (fun _ _ h => h)))
    rw [← str_eq HS.out] at hcv4
    go_wp2_with fail
    refine (rrootopen_any S w4 (by omega)).mono ?_
    rintro x w5 ⟨he, c5⟩
    rw [HS.out, HO2.out] at he
    subst he
    have hcv5 := (str_of (HV3.out.ch (c4.trans c5) (fun _ _ h => h)))
    rw [← str_eq HS.out] at hcv5
    have hcv6 := (str_of (HB3.out.ch (c4.trans c5) (fun _ _ h => h)))
    rw [← str_eq HS1.out] at hcv6
    have HC := hid ((((c1.trans c2).trans c3).trans c4).trans c5)
    clear c1 c2 c3 c4 c5 hcv4
    clear hcv hcv1
    go_wp2_with (first | (go_at_call 35; refine (no2_any _ _).mono ?_; rintro e w' ⟨rfl, rfl⟩) | (go_at_call 28; refine (alive2 _).mono ?_; rintro e w6 ⟨rfl, hch⟩))
    go_ret
    exact ⟨rfl, HC.out.trans hch⟩

end Go.Proofs.Ytadhibemadgcoaa
