/- Package disk: put, same, New: what they do to memory. Conditions: as each theorem says. -/
import Derived.Test.YtadhibemadgcoaaDiskA
import Derived.Test.YtadhibemadgcoaaPageB
namespace Go.Proofs.Ytadhibemadgcoaa
open Go.RowKit

theorem Try.size5 : (Try.prog.info? 5).map (·.size) = some 1 := by kernel_rfl
theorem Try.info35 : (Try.prog.info? 35).map (fun i => (i.zero, i.size, i.bytes)) = some (some (.slice none 0 0), 1, 24) := by kernel_rfl

theorem SecIn.put {w' : World} {x : Nat × Nat} {l m : List UInt8} {cur : Array Value} (h1 : l.length = 512) (h2 : 512 ≤ x.2) (hc : 512 ≤ cur.size) (ht : cur.toList.take 512 = bcells l) (hm : m.length ≤ 512)
    (h : w'.heap[x.1]? = some (.cells (bcells m ++ cur.toList.drop m.length).toArray 5 (0, 0))) : SecIn w' x (m ++ l.drop m.length) := by
  refine ⟨by simp; omega, h2, _, h, by simp [bcells_length]; omega, ?_⟩
  have e : (cur.toList.drop m.length).take (512 - m.length) = bcells (l.drop m.length) := by
    rw [← List.drop_take, ht, bcells, bcells, List.map_drop]
  show (bcells m ++ cur.toList.drop m.length).take 512 = _
  rw [List.take_append, bcells_length, e, List.take_of_length_le (by rw [bcells_length]; exact hm), bcells_append]

set_option maxHeartbeats 400000 in
/-- put: the first bytes of a sector are others. -/
theorem put_any {sb rb n i : Nat} {bs : List (Nat × Nat)} {x : Nat × Nat} {l m : List UInt8} {v : Value} (at_ : Int) (w : World)
    (hs : w.heap[sb]? = some (.cells #[.slice (some ⟨rb, 0, none⟩) n n] 129 (0, 0))) (hr : w.heap[rb]? = some (.cells (bs.map secV).toArray 35 (0, 0)))
    (hat : at_ = (i : Int)) (hin : i < n) (hx : bs[i]? = some x) (hl : SecIn w x l) (hm : m.length ≤ 512) (hv : Bts w v m) (_hn : n ≤ 4096) :
    Calls Try.prog 80 #[.pointer (some ⟨sb, 0, none⟩), .int .i64 at_, v] w fun e w' => e = .returned (.tuple #[]) ∧ SecIn w' x (m ++ l.drop m.length) ∧ Ch (fun k => k = x.1) w w' := by
  subst hat
  obtain ⟨h1, h2, cur, h3, h4, h5⟩ := hl
  have hc0 := cell_blk hs 0
  simp at hc0
  have hci := cell_blk hr i
  simp [hx, secV] at hci
  obtain ⟨r, w', hrun, hw', hch⟩ := run_copy_bts (P := Try.prog) w 35 3 5 Try.underlying35 Try.size5 x.1 512 x.2 v m cur 5 h3 hv hm (by omega)
  have HR := hid hrun
  have HS := hid (SecIn.put h1 h2 h4 h5 hm hw')
  have hi0 : (i : Int) < (n : Int) := by omega
  clear hrun hw' h3 h4 h5 hs hr hv hx
  go_enter Try.func80, Try.ntmps80
  go_wp2_with ((with_reducible refine wpList_copy_run rfl (.tmp 11) (.tmp 12) 35 35 rfl r w' ?_ ?_); exact HR.out)
  go_end0
  exact ⟨rfl, HS.out, hch⟩

end Go.Proofs.Ytadhibemadgcoaa
