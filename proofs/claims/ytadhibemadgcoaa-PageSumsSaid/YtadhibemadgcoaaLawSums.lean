/- PageSums answers true: its walk. Conditions: none on the bytes. -/
import Derived.Test.YtadhibemadgcoaaLawA
namespace Go.Proofs.Ytadhibemadgcoaa
open Go.RowKit

set_option maxRecDepth 100000 in
set_option maxHeartbeats 1000000 in
theorem sums_walk (a : Option Addr) (len cap : Nat) (l : List UInt8) (w : World) (hl : l.length = len) (hv : Bts w (.slice a len cap) l) :
    Calls Try.prog 4 #[.slice a len cap] w fun e w' => e = .returned (.bool true) ∧ Ch (fun _ => False) w w' := by
  by_cases h : 5000 < len
  · clear hv hl
    go_enter Try.func4, Try.ntmps4
    go_wp2_with (go_at_call 28; refine (alive2 _).mono ?_; rintro e w' ⟨rfl, hch⟩)
    go_ret
    exact ⟨rfl, hch⟩
  · have hcv := str_of (hv.frame (w' := w.drew) (fun _ _ => rfl))
    have HS := hid (sum_any _ l w.drew (by omega) (hv.frame (w' := w.drew) (fun _ _ => rfl)))
    have HR := hid (rsum_any ⟨l.toArray⟩ w.drew (by simp [ByteArray.size]; omega))
    obtain ⟨S, hS⟩ : ∃ S, sumB l = S := ⟨_, rfl⟩
    rw [hS] at HS
    rw [lit_toList, hS] at HR
    clear hv hS hl
    go_enter Try.func4, Try.ntmps4
    go_wp2_with fail
    go_region_with (first | (go_at_call 29; refine HS.out.mono ?_; rintro e w' ⟨rfl, rfl⟩) | (go_at_call 30; refine HR.out.mono ?_; rintro e w' ⟨rfl, rfl⟩) | (go_at_call 28; refine (alive2 _).mono ?_; rintro e w' ⟨rfl, hch⟩))
    all_goals go_wp2
    all_goals go_ret
    all_goals exact ⟨rfl, hch.undrew⟩

end Go.Proofs.Ytadhibemadgcoaa
