/- PagerNil answers true. Conditions: none. -/
import Derived.Test.YtadhibemadgcoaaPgS
namespace Go.Proofs.Ytadhibemadgcoaa
open Go.RowKit

set_option maxRecDepth 20000 in
set_option maxHeartbeats 4000000 in
theorem pnone_any (n : Int) (s : ByteArray) (w : World) : Calls Try.prog 18 #[.int .i64 n, .string s] w fun e w' => e = .returned (.bool true) ∧ Ch (fun _ => False) w w' := by
  go_enter Try.func18, Try.ntmps18
  go_wp2_with (first
    | (go_at_call 61; refine (abort_none _).mono ?_; rintro e w' ⟨rfl, rfl⟩)
    | (go_at_call 57; refine (put_none _ _ _).mono ?_; rintro e w' ⟨rfl, rfl⟩)
    | (go_at_call 64; refine (pread_none _ _).mono ?_; rintro e w' ⟨rfl, rfl⟩)
    | (go_at_call 54; refine (open_nil _).mono ?_; rintro e w' ⟨rfl, rfl⟩)
    | (go_at_call 55; refine (no3_any _ _).mono ?_; rintro e w' ⟨rfl, rfl⟩)
    | (go_at_call 59; refine (drop_none _ _).mono ?_; rintro e w' ⟨rfl, rfl⟩)
    | (go_at_call 58; refine (commit_none _ _).mono ?_; rintro e w' ⟨rfl, rfl⟩)
    | (go_at_call 67; refine (unpin_none _ _).mono ?_; rintro e w' ⟨rfl, rfl⟩)
    | (go_at_call 65; refine (pin_none _).mono ?_; rintro e w' ⟨rfl, rfl⟩)
    | (go_at_call 62; refine (gen_none _).mono ?_; rintro e w' ⟨rfl, rfl⟩)
    | (go_at_call 56; refine (free_none _).mono ?_; rintro e w' ⟨rfl, rfl⟩)
    | (go_at_call 63; refine (root_none _).mono ?_; rintro e w' ⟨rfl, rfl⟩)
    | (go_at_call 69; refine (use_none _ _ _ _).mono ?_; rintro e w' ⟨rfl, rfl⟩))
  refine (format_none _).mono ?_
  rintro e w1 ⟨rfl, c1⟩
  have HC1 := hid c1
  clear c1
  go_wp2_with (first
    | (go_at_call 61; refine (abort_none _).mono ?_; rintro e w' ⟨rfl, rfl⟩)
    | (go_at_call 57; refine (put_none _ _ _).mono ?_; rintro e w' ⟨rfl, rfl⟩)
    | (go_at_call 64; refine (pread_none _ _).mono ?_; rintro e w' ⟨rfl, rfl⟩)
    | (go_at_call 54; refine (open_nil _).mono ?_; rintro e w' ⟨rfl, rfl⟩)
    | (go_at_call 55; refine (no3_any _ _).mono ?_; rintro e w' ⟨rfl, rfl⟩)
    | (go_at_call 59; refine (drop_none _ _).mono ?_; rintro e w' ⟨rfl, rfl⟩)
    | (go_at_call 58; refine (commit_none _ _).mono ?_; rintro e w' ⟨rfl, rfl⟩)
    | (go_at_call 67; refine (unpin_none _ _).mono ?_; rintro e w' ⟨rfl, rfl⟩)
    | (go_at_call 65; refine (pin_none _).mono ?_; rintro e w' ⟨rfl, rfl⟩)
    | (go_at_call 62; refine (gen_none _).mono ?_; rintro e w' ⟨rfl, rfl⟩)
    | (go_at_call 56; refine (free_none _).mono ?_; rintro e w' ⟨rfl, rfl⟩)
    | (go_at_call 63; refine (root_none _).mono ?_; rintro e w' ⟨rfl, rfl⟩)
    | (go_at_call 69; refine (use_none _ _ _ _).mono ?_; rintro e w' ⟨rfl, rfl⟩))
  refine (alive3 _).mono ?_
  rintro e w2 ⟨rfl, c2⟩
  have HC2 := hid (((HC1.out).alloc _).trans c2)
  clear c2
  go_wp2_with fail
  go_ret
  exact ⟨rfl, HC2.out⟩

end Go.Proofs.Ytadhibemadgcoaa
