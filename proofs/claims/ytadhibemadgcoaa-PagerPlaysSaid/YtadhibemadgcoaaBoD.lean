/- The pager laws' do: Abort, the other kinds; all of it. Conditions: as each theorem says. -/
import Derived.Test.YtadhibemadgcoaaBoC
namespace Go.Proofs.Ytadhibemadgcoaa
open Go.RowKit

set_option maxRecDepth 20000 in
set_option maxHeartbeats 4000000 in
theorem bdo4_any {w0 : World} {pp dp rp rq xb b : Nat} {p : Pg} {Q Qr : Nat → Prop} (n m : Int) (s : ByteArray) (ka : Option Addr) (kl kcap : Nat) (w : World) (h : Two w0 w pp dp rp rq p Q Qr) (hb : PB p b)
    (hx1 : w.cell? ⟨xb, 1, none⟩ = some (.pointer (some ⟨pp, 0, none⟩))) (hx3 : w.cell? ⟨xb, 3, none⟩ = some (.pointer (some ⟨rp, 0, none⟩))) (hxq : ¬ Q xb ∧ ¬ Qr xb) :
    Calls Try.prog 75 #[.pointer (some ⟨xb, 0, none⟩), .agg #[.int .i64 4, .int .i64 n, .int .i64 m, .string s, .slice ka kl kcap]] w (BDo w0 w pp dp rp rq Q Qr b) := by
  obtain ⟨W0, hW0⟩ : ∃ W0, W0 = w.alloc (.cells #[.int .i64 4, .int .i64 n, .int .i64 m, .string s, .slice ka kl kcap] 112) := ⟨_, rfl⟩
  have hq0 : Ch (fun _ => False) w W0 := by rw [hW0]; exact (Ch.refl _ w).alloc _
  have HQ0 := hid hq0
  have hT := h.quiet hq0
  have HXq := hid hxq
  have y1 := cell_ch2 hx1 hq0 (fun h => h)
  have y3 := cell_ch2 hx3 hq0 (fun h => h)
  have hbox : W0.heap[w.heap.size]? = some (.cells #[.int .i64 4, .int .i64 n, .int .i64 m, .string s, .slice ka kl kcap] 112 (0, 0)) := by rw [hW0]; exact heap_new _
  have hbz : w.heap.size < W0.heap.size := blk_lt hbox
  have z0 := cell_blk hbox 0
  simp at z0
  have hz0 := (abort_z W0 hT.z)
  have HAb := hid hz0
  have HT := hid hT
  have HPB := hid hb.abort
  rw [hW0] at y1 y3 z0
  rw [hW0] at HAb
  have HW0 := hid hW0
  clear h hb hx1 hx3 hxq hq0 hT hbox hz0 hW0
  go_enter Try.func75, Try.ntmps75
  go_wp2_with fail
  refine HAb.out.mono ?_
  rintro e w1 ⟨rfl, hz1⟩
  rw [← HW0.out] at hz1
  have y3' := cell_ch2 y3 (by rw [← HW0.out]; exact zch hz1) HXq.out.1
  obtain ⟨Q1, z1, r1, d1, f1, c1⟩ := HT.out.mid hz1
  have HZz := hid (And.intro z1 (And.intro d1 (And.intro f1 c1)))
  have HRab := hid (rabort_any w1 r1)
  clear hz1 z1 r1 d1 f1 c1
  go_wp2_with fail
  refine HRab.out.mono ?_
  rintro e w3 ⟨rfl, hr3⟩
  have HFin := hid (Two.fin HZz.out.1 HZz.out.2.1 HZz.out.2.2.1 HZz.out.2.2.2 HT.out.r.lt (Ch.refl _ _) hr3)
  clear hr3
  go_wp2_with fail
  go_ret
  exact ⟨rfl, _, TPost.from_ HQ0.out HFin.out, HPB.out⟩

set_option maxRecDepth 20000 in
set_option maxHeartbeats 4000000 in
theorem bdox_any {w0 : World} {pp dp rp rq xb b : Nat} {p : Pg} {Q Qr : Nat → Prop} (k n m : Int) (s : ByteArray) (ka : Option Addr) (kl kcap : Nat) (w : World) (h : Two w0 w pp dp rp rq p Q Qr) (hb : PB p b) (hk : ¬ (0 ≤ k ∧ k ≤ 7)) :
    Calls Try.prog 75 #[.pointer (some ⟨xb, 0, none⟩), .agg #[.int .i64 k, .int .i64 n, .int .i64 m, .string s, .slice ka kl kcap]] w (BDo w0 w pp dp rp rq Q Qr b) := by
  have fin : Hid (∀ w', Ch (fun _ => False) w w' → BDo w0 w pp dp rp rq Q Qr b (.returned (.bool true)) w') := hid (fun w' hc =>
    ⟨rfl, p, ⟨Q, Qr, h.quiet hc, Fresh.refl _ _, Fresh.refl _ _, hc.mono (fun _ _ h => h.elim)⟩, hb.up (by omega)⟩)
  have e0 : (k == 0) = false := by rw [beq_eq_false_iff_ne]; omega
  have e1 : (k == 1) = false := by rw [beq_eq_false_iff_ne]; omega
  have e2 : (k == 2) = false := by rw [beq_eq_false_iff_ne]; omega
  have e3 : (k == 3) = false := by rw [beq_eq_false_iff_ne]; omega
  have e4 : (k == 4) = false := by rw [beq_eq_false_iff_ne]; omega
  have e5 : (k == 5) = false := by rw [beq_eq_false_iff_ne]; omega
  have e6 : (k == 6) = false := by rw [beq_eq_false_iff_ne]; omega
  have e7 : (k == 7) = false := by rw [beq_eq_false_iff_ne]; omega
  have HC := hid ((Ch.refl (fun _ => False) w).alloc (.cells #[.int .i64 k, .int .i64 n, .int .i64 m, .string s, .slice ka kl kcap] 112))
  clear h hb hk
  go_enter Try.func75, Try.ntmps75
  go_wp2_with fail
  go_ret
  exact fin.out _ HC.out

theorem bdo_any {w0 : World} {pp dp rp rq xb b : Nat} {p : Pg} {Q Qr : Nat → Prop} (k n m : Int) (s : ByteArray) (ka : Option Addr) (kl kcap : Nat) (w : World) (h : Two w0 w pp dp rp rq p Q Qr) (hb : PB p b) (hb8 : b ≤ 800000)
    (hx1 : w.cell? ⟨xb, 1, none⟩ = some (.pointer (some ⟨pp, 0, none⟩))) (hx3 : w.cell? ⟨xb, 3, none⟩ = some (.pointer (some ⟨rp, 0, none⟩))) (hxq : ¬ Q xb ∧ ¬ Qr xb) (hwn : (Lit.int .i64 n).wf = true) (hwm : (Lit.int .i64 m).wf = true) :
    Calls Try.prog 75 #[.pointer (some ⟨xb, 0, none⟩), .agg #[.int .i64 k, .int .i64 n, .int .i64 m, .string s, .slice ka kl kcap]] w (BDo w0 w pp dp rp rq Q Qr b) := by
  by_cases hk : 0 ≤ k ∧ k ≤ 7
  · obtain ⟨j, rfl⟩ := Int.eq_ofNat_of_zero_le hk.1
    rcases (by omega : j = 0 ∨ j = 1 ∨ j = 2 ∨ j = 3 ∨ j = 4 ∨ j = 5 ∨ j = 6 ∨ j = 7) with rfl | rfl | rfl | rfl | rfl | rfl | rfl | rfl
    · exact bdo0_any n m s ka kl kcap w h hb hb8 hx1 hx3 hxq
    · exact bdo1_any n m s ka kl kcap w h hb hb8 hx1 hx3 hxq
    · exact bdo2_any n m s ka kl kcap w h hb hb8 hx1 hx3 hxq
    · exact bdo3_any n m s ka kl kcap w h hb hb8 hx1 hx3 hxq
    · exact bdo4_any n m s ka kl kcap w h hb hx1 hx3 hxq
    · exact bdo5_any n m s ka kl kcap w h hb hb8 hx1 hx3 hxq
    · exact bdo6_any n m s ka kl kcap w h hb hb8 hx1 hx3 hxq hwn
    · exact bdo7_any n m s ka kl kcap w h hb hx1 hx3 hxq hwn hwm
  · exact bdox_any k n m s ka kl kcap w h hb hk

end Go.Proofs.Ytadhibemadgcoaa
