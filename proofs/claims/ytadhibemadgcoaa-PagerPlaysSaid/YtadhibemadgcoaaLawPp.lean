/- PagerPlays answers true, whichever way the disk is made. Conditions: the third argument is a slice of calls. -/
import Derived.Test.YtadhibemadgcoaaLawPpf
import Derived.Test.YtadhibemadgcoaaLawPpt
namespace Go.Proofs.Ytadhibemadgcoaa
open Go.RowKit

theorem playsp_any (n : Int) (fm : Bool) (a : Option Addr) (cap : Nat) (l : List AcP) (w : World) (h : Aps w (.slice a l.length cap) l) :
    Calls Try.prog 19 #[.int .i64 n, .bool fm, .slice a l.length cap] w fun e w' => e = .returned (.bool true) ∧ Ch (fun _ => False) w w' := by
  cases fm
  · exact playsp_f n false (hid rfl) a cap l w h
  · exact playsp_t n true (hid rfl) a cap l w h

end Go.Proofs.Ytadhibemadgcoaa
