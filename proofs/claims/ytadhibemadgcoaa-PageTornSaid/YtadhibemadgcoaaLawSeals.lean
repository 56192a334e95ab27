/- PageSeals answers true: its walk. Conditions: none. -/
import Derived.Test.YtadhibemadgcoaaLawA
namespace Go.Proofs.Ytadhibemadgcoaa
open Go.RowKit

/-- 'string(b)', the string under a name of its own. -/
theorem str_named {w : World} {v : Value} {l : List UInt8} (h : Bts w v l) : ∃ S : ByteArray, (convert 35 9 v).run Try.prog w = .ok (.string S) w ∧ S.data.toList = l := ⟨_, str_of h, rfl⟩

set_option maxRecDepth 100000 in
set_option maxHeartbeats 1000000 in
theorem seals_walk (kind gen : Int) (s : ByteArray) (w : World) (hs : s.size ≤ maxLen) :
    Calls Try.prog 5 #[.int .i64 kind, .int .i64 gen, .string s] w fun e w' => e = .returned (.bool true) ∧ Ch (fun _ => False) w w' := by
  unfold maxLen at hs
  by_cases h : 5000 < s.size
  · go_enter Try.func5, Try.ntmps5
    go_wp2_with (go_at_call 28; refine (alive2 _).mono ?_; rintro e w' ⟨rfl, hch⟩)
    go_ret
    exact ⟨rfl, hch⟩
  · go_enter Try.func5, Try.ntmps5
    go_wp2_with fail
    refine (seal_any kind gen s _).mono ?_
    rintro e w1 ⟨v1, rfl, hb1, c1, o1⟩
    have HB1 := hid hb1
    have HO1 := hid o1
    clear hb1 o1
    go_wp2_with fail
    refine (rseal_any kind gen s _).mono ?_
    rintro e w2 ⟨t2, rfl, ht2, c2⟩
    have HT2 := hid ht2
    clear ht2
    go_wp2_with fail
    refine (sroot_any gen s _).mono ?_
    rintro e w3 ⟨v3, rfl, hb3, c3, o3⟩
    have HB3 := hid hb3
    clear hb3 o3
    go_wp2_with fail
    refine (rroot_any gen s _).mono ?_
    rintro e w4 ⟨t4, rfl, ht4, c4⟩
    have HT4 := hid ht4
    clear ht4
    obtain ⟨S1, hcv1, hS1⟩ := str_named (HB1.out.ch ((c2.trans c3).trans c4) (fun _ _ h => h))
    obtain ⟨S3, hcv3, hS3⟩ := str_named (HB3.out.ch c4 (fun _ _ h => h))
    have hq1 := beq_str_eq (hS1.trans HT2.out.symm)
    have hq3 := beq_str_eq (hS3.trans HT4.out.symm)
    have HC := hid (((c1.trans c2).trans c3).trans c4)
    clear hS1 hS3 c1 c2 c3 c4
    go_wp2_with (first | (go_at_call 35; refine (no2_any _ _).mono ?_; rintro e w' ⟨rfl, rfl⟩) | (go_at_call 28; refine (alive2 _).mono ?_; rintro e w5 ⟨rfl, hch⟩))
    go_ret
    exact ⟨rfl, HC.out.trans hch⟩

end Go.Proofs.Ytadhibemadgcoaa
