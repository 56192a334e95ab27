/- DiskNil answers true. Conditions: none. -/
import Derived.Test.YtadhibemadgcoaaDiskK
namespace Go.Proofs.Ytadhibemadgcoaa
open Go.RowKit

theorem copy_none (w : World) : Calls Try.prog 48 #[.pointer none] w fun e w' => e = .returned (.pointer none) ∧ w = w' := by
  go_enter Try.func48, Try.ntmps48
  go_wp2_with (go_at_call 78; refine (made_none _).mono ?_; rintro e w' ⟨rfl, rfl⟩)
  go_ret
  exact ⟨rfl, rfl⟩

set_option maxRecDepth 20000 in
set_option maxHeartbeats 2000000 in
theorem nil_any (n : Int) (x : Option Addr) (len cap : Nat) (y : Option Addr) (len2 cap2 : Nat) (w : World) :
    Calls Try.prog 13 #[.int .i64 n, .slice x len cap, .slice y len2 cap2] w fun e w' => e = .returned (.bool true) ∧ Ch (fun _ => False) w w' := by
  go_enter Try.func13, Try.ntmps13
  go_wp2_with (first
    | (go_at_call 42; refine (fuse_none _ _).mono ?_; rintro e w' ⟨rfl, rfl⟩)
    | (go_at_call 27; refine (read_none _ _).mono ?_; rintro e w' ⟨rfl, rfl⟩)
    | (go_at_call 25; refine (write_none _ _ _ _ _).mono ?_; rintro e w' ⟨rfl, rfl⟩)
    | (go_at_call 22; refine (no1_any _ _).mono ?_; rintro e w' ⟨rfl, rfl⟩)
    | (go_at_call 23; refine (flush_none _).mono ?_; rintro e w' ⟨rfl, rfl⟩)
    | (go_at_call 24; refine (crash_none _ _ _ _).mono ?_; rintro e w' ⟨rfl, rfl⟩)
    | (go_at_call 48; refine (copy_none _).mono ?_; rintro e w' ⟨rfl, rfl⟩)
    | (go_at_call 44; refine (size_none _).mono ?_; rintro e w' ⟨rfl, rfl⟩)
    | (go_at_call 40; refine (waiting_none _).mono ?_; rintro e w' ⟨rfl, rfl⟩)
    | (go_at_call 43; refine (steps_none _).mono ?_; rintro e w' ⟨rfl, rfl⟩))
  refine (alive1 _).mono ?_
  rintro e w4 ⟨rfl, c4⟩
  have HC4 := hid c4
  clear c4
  go_wp2_with fail
  go_ret
  exact ⟨rfl, HC4.out⟩

end Go.Proofs.Ytadhibemadgcoaa
