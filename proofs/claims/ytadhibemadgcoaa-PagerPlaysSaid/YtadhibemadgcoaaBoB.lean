/- The pager laws' do: a call of the pager and of the reference's: both tell the same. Conditions: as each theorem says. -/
import Derived.Test.YtadhibemadgcoaaBoA
namespace Go.Proofs.Ytadhibemadgcoaa
open Go.RowKit

theorem keep6 {S : Nat → Prop} {w w' : World} {b c : Nat} {v0 v1 v2 v3 v4 v5 : Value}
    (h : w.cell? ⟨b, 1, none⟩ = some v0 ∧ w.cell? ⟨b, 3, none⟩ = some v1 ∧ w.cell? ⟨c, 0, none⟩ = some v2 ∧ w.cell? ⟨c, 1, none⟩ = some v3 ∧ w.cell? ⟨c, 2, none⟩ = some v4 ∧ w.cell? ⟨c, 3, none⟩ = some v5) (hc : Ch S w w') (hn : ∀ q, q = b → ¬ S q) (hm : ∀ q, q = c → ¬ S q) :
    w'.cell? ⟨b, 1, none⟩ = some v0 ∧ w'.cell? ⟨b, 3, none⟩ = some v1 ∧ w'.cell? ⟨c, 0, none⟩ = some v2 ∧ w'.cell? ⟨c, 1, none⟩ = some v3 ∧ w'.cell? ⟨c, 2, none⟩ = some v4 ∧ w'.cell? ⟨c, 3, none⟩ = some v5 :=
  ⟨cell_ch2 h.1 hc (hn _ rfl), cell_ch2 h.2.1 hc (hn _ rfl), cell_ch2 h.2.2.1 hc (hm _ rfl), cell_ch2 h.2.2.2.1 hc (hm _ rfl), cell_ch2 h.2.2.2.2.1 hc (hm _ rfl), cell_ch2 h.2.2.2.2.2 hc (hm _ rfl)⟩
theorem zch {w0 w w' : World} {pp dp : Nat} {p : Pg} {Q : Nat → Prop} (h : ZPost w0 w pp dp p Q w') : Ch Q w w' := by obtain ⟨_, _, _, h⟩ := h; exact h
theorem rch {w0 w w' : World} {rp rq : Nat} {p : Pg} {Q : Nat → Prop} (h : RPost w0 w rp rq p Q w') : Ch Q w w' := by obtain ⟨_, _, _, h⟩ := h; exact h
theorem TPost.from_ {w0 w W w' : World} {pp dp rp rq : Nat} {p : Pg} {Q Qr : Nat → Prop} (hc : Ch (fun _ => False) w W) (h : TPost w0 W pp dp rp rq p Q Qr w') : TPost w0 w pp dp rp rq p Q Qr w' := by
  obtain ⟨Q1, Qr1, h1, h2, h3, h4⟩ := h
  have z := hc.size
  exact ⟨Q1, Qr1, h1, fun k hk => (h2 k hk).imp id (fun h => by omega), fun k hk => (h3 k hk).imp id (fun h => by omega), (hc.mono (fun _ _ h => h.elim)).trans h4⟩
/-- What do answers. -/
def BDo (w0 w : World) (pp dp rp rq : Nat) (Q Qr : Nat → Prop) (b : Nat) (e : Ending) (w' : World) : Prop :=
  e = .returned (.bool true) ∧ ∃ p', TPost w0 w pp dp rp rq p' Q Qr w' ∧ PB p' (b + 3)

set_option maxRecDepth 100000 in
set_option maxHeartbeats 4000000 in
theorem bdo0_any {w0 : World} {pp dp rp rq xb b : Nat} {p : Pg} {Q Qr : Nat → Prop} (n m : Int) (s : ByteArray) (ka : Option Addr) (kl kcap : Nat) (w : World) (h : Two w0 w pp dp rp rq p Q Qr) (hb : PB p b) (hb8 : b ≤ 800000)
    (hx1 : w.cell? ⟨xb, 1, none⟩ = some (.pointer (some ⟨pp, 0, none⟩))) (hx3 : w.cell? ⟨xb, 3, none⟩ = some (.pointer (some ⟨rp, 0, none⟩))) (hxq : ¬ Q xb ∧ ¬ Qr xb) :
    Calls Try.prog 75 #[.pointer (some ⟨xb, 0, none⟩), .agg #[.int .i64 0, .int .i64 n, .int .i64 m, .string s, .slice ka kl kcap]] w (BDo w0 w pp dp rp rq Q Qr b) := by
  have hq0 : Ch (fun _ => False) w (w.alloc (.cells #[.int .i64 0, .int .i64 n, .int .i64 m, .string s, .slice ka kl kcap] 112)).drew := ((Ch.refl _ w).alloc _).drew
  have HQ0 := hid hq0
  have HT := hid (h.quiet hq0)
  have HXq := hid hxq
  have HAb : Hid (¬ Q w.heap.size ∧ ¬ Qr w.heap.size) := hid ⟨fun hQ => by have := (h.z.lt _ hQ).2; omega, fun hQ => by have := (h.r.lt _ hQ).2; omega⟩
  have HRl := hid HT.out.r.lt
  have hbox : (w.alloc (.cells #[.int .i64 0, .int .i64 n, .int .i64 m, .string s, .slice ka kl kcap] 112)).drew.heap[w.heap.size]? = some (.cells #[.int .i64 0, .int .i64 n, .int .i64 m, .string s, .slice ka kl kcap] 112 (0, 0)) := heap_drew (heap_new _)
  have HS0 := hid (show (w.alloc (.cells #[.int .i64 0, .int .i64 n, .int .i64 m, .string s, .slice ka kl kcap] 112)).drew.cell? ⟨xb, 1, none⟩ = some (.pointer (some ⟨pp, 0, none⟩)) ∧ (w.alloc (.cells #[.int .i64 0, .int .i64 n, .int .i64 m, .string s, .slice ka kl kcap] 112)).drew.cell? ⟨xb, 3, none⟩ = some (.pointer (some ⟨rp, 0, none⟩)) ∧ (w.alloc (.cells #[.int .i64 0, .int .i64 n, .int .i64 m, .string s, .slice ka kl kcap] 112)).drew.cell? ⟨w.heap.size, 0, none⟩ = some (.int .i64 0) ∧ (w.alloc (.cells #[.int .i64 0, .int .i64 n, .int .i64 m, .string s, .slice ka kl kcap] 112)).drew.cell? ⟨w.heap.size, 1, none⟩ = some (.int .i64 n) ∧ (w.alloc (.cells #[.int .i64 0, .int .i64 n, .int .i64 m, .string s, .slice ka kl kcap] 112)).drew.cell? ⟨w.heap.size, 2, none⟩ = some (.int .i64 m) ∧ (w.alloc (.cells #[.int .i64 0, .int .i64 n, .int .i64 m, .string s, .slice ka kl kcap] 112)).drew.cell? ⟨w.heap.size, 3, none⟩ = some (.string s) from
    ⟨cell_ch2 hx1 hq0 (fun h => h), cell_ch2 hx3 hq0 (fun h => h), by rw [cell_blk hbox]; rfl, by rw [cell_blk hbox]; rfl, by rw [cell_blk hbox]; rfl, by rw [cell_blk hbox]; rfl⟩)
  obtain ⟨hst, hwt⟩ : p.d.steps ≤ 800000 ∧ p.d.wait.length ≤ 800000 := ⟨by have := hb.pl.steps; omega, by have := hb.pl.wait; omega⟩
  obtain ⟨hpn, hop⟩ : p.pins.length ≤ 800000 ∧ p.ops ≤ 800000 := ⟨by have := hb.pins; omega, by have := hb.ops; omega⟩
  obtain ⟨p', HP'⟩ : ∃ p', Hid ((putP p n s.data.toList).2.2 = p') := ⟨_, hid rfl⟩
  have HPB := hid (hb.put n s.data.toList)
  rw [HP'.out] at HPB
  obtain ⟨a0, HA0⟩ : ∃ a, Hid ((putP p n s.data.toList).1 = a) := ⟨_, hid rfl⟩
  obtain ⟨a1, HA1⟩ : ∃ a, Hid ((putP p n s.data.toList).2.1 = a) := ⟨_, hid rfl⟩
  have hc1 := put_y n s _ HT.out.z (by omega) (by omega)
  have hc2 := fun W (hr : RZ w0 W rp rq p Qr) => rput_any n s W hr (by omega) (by omega)
  unfold RPutPost at hc2
  rw [HP'.out, HA0.out, HA1.out] at hc1
  simp only [HP'.out, HA0.out, HA1.out] at hc2
  have HC1 := hid hc1
  have HC2 := hid hc2
  have hbq0 : ((a0 : Int) == (a0 : Int)) = true := by simp
  have hbq1 : ((a1 : Int) == (a1 : Int)) = true := by simp
  clear h hb hb8 hx1 hx3 hxq hq0 hbox hst hwt hpn hop hc1 hc2
  go_enter Try.func75, Try.ntmps75
  go_wp2_with fail
  refine wp_region_noPanic ?_
  refine wp_region_held_drew (S := (fun W => W.cell? ⟨xb, 1, none⟩ = some (.pointer (some ⟨pp, 0, none⟩)) ∧ W.cell? ⟨xb, 3, none⟩ = some (.pointer (some ⟨rp, 0, none⟩)) ∧ W.cell? ⟨w.heap.size, 0, none⟩ = some (.int .i64 0) ∧ W.cell? ⟨w.heap.size, 1, none⟩ = some (.int .i64 n) ∧ W.cell? ⟨w.heap.size, 2, none⟩ = some (.int .i64 m) ∧ W.cell? ⟨w.heap.size, 3, none⟩ = some (.string s))) (by kernel_rfl) HS0.out (fun hHeld => ?_)
  refine wpAnyH_take (i := 0) (v := ?_) rfl (by kernel_rfl) (by kernel_rfl) (by kernel_rfl) (fun _ _ _ h => h) (Or.inl ⟨by rfl, ?_⟩) (by assumption) ?_
  rotate_left
  · intro w hSw
    try dsimp only at hSw
    go_simp
    all_goals with_reducible rfl
  try simp only [lay_all]
  refine wpAnyH_take (i := 1) (v := ?_) rfl (by kernel_rfl) (by kernel_rfl) (by kernel_rfl) (fun _ _ _ h => h) (Or.inl ⟨by rfl, ?_⟩) (by assumption) ?_
  rotate_left
  · intro w hSw
    try dsimp only at hSw
    go_simp
    all_goals with_reducible rfl
  try simp only [lay_all]
  refine wpAnyH_take (i := 2) (v := ?_) rfl (by kernel_rfl) (by kernel_rfl) (by kernel_rfl) (fun _ _ _ h => h) (Or.inl ⟨by rfl, ?_⟩) (by assumption) ?_
  rotate_left
  · intro w hSw
    try dsimp only at hSw
    go_simp
    all_goals with_reducible rfl
  try simp only [lay_all]
  refine wpAnyH_take (i := 3) (v := ?_) rfl (by kernel_rfl) (by kernel_rfl) (by kernel_rfl) (fun _ _ _ h => h) (Or.inl ⟨by rfl, ?_⟩) (by assumption) ?_
  rotate_left
  · intro w hSw
    try dsimp only at hSw
    go_simp
    all_goals with_reducible rfl
  try simp only [lay_all]
  refine wpAnyH_take (i := 4) (v := ?_) rfl (by kernel_rfl) (by kernel_rfl) (by kernel_rfl) (fun _ _ _ h => h) (Or.inl ⟨by rfl, ?_⟩) (by assumption) ?_
  rotate_left
  · intro w hSw
    try dsimp only at hSw
    go_simp
    all_goals with_reducible rfl
  try simp only [lay_all]
  refine wpAnyH_take (i := 5) (v := ?_) rfl (by kernel_rfl) (by kernel_rfl) (by kernel_rfl) (fun _ _ _ h => h) (Or.inl ⟨by rfl, ?_⟩) (by assumption) ?_
  rotate_left
  · intro w hSw
    try dsimp only at hSw
    go_simp
    all_goals with_reducible rfl
  try simp only [lay_all]
  refine wpAnyH_take (i := 6) (v := ?_) rfl (by kernel_rfl) (by kernel_rfl) (by kernel_rfl) (fun _ _ _ h => h) (Or.inl ⟨by rfl, ?_⟩) (by assumption) ?_
  rotate_left
  · intro w hSw
    try dsimp only at hSw
    go_simp
    all_goals with_reducible rfl
  try simp only [lay_all]
  refine wpAnyH_take (i := 7) (v := ?_) rfl (by kernel_rfl) (by kernel_rfl) (by kernel_rfl) (fun _ _ _ h => h) (Or.inl ⟨by rfl, ?_⟩) (by assumption) ?_
  rotate_left
  · intro w hSw
    try dsimp only at hSw
    go_simp
    all_goals with_reducible rfl
  try simp only [lay_all]
  refine wpAnyH_ready (rs := [8]) (by kernel_rfl) (by simp) ?_
  refine AllReadyH.cons rfl (fun K hK => ?_) AllReadyH.nil
  go_simp
  refine HC1.out.mono ?_
  rintro e w1 ⟨rfl, hz1⟩
  have HS2 := hid (keep6 HS0.out (zch hz1) (fun q hq => by subst hq; exact HXq.out.1) (fun q hq hQ => by subst hq; have := (HT.out.z.lt _ hQ).2; exact HAb.out.1 hQ))
  have HMid := hid (HT.out.mid hz1)
  clear hz1
  go_wp2_with fail
  refine hK.out _ _ ?_ (fun hHeld => ?_)
  · first | exact HS2.out | assumption
  clear hK K
  try simp only [lay_all]
  refine wpAnyH_take (i := 9) (v := ?_) rfl (by kernel_rfl) (by kernel_rfl) (by kernel_rfl) (fun _ _ _ h => h) (Or.inl ⟨by rfl, ?_⟩) (by assumption) ?_
  rotate_left
  · intro w hSw
    try dsimp only at hSw
    go_simp
    all_goals with_reducible rfl
  try simp only [lay_all]
  refine wpAnyH_take (i := 10) (v := ?_) rfl (by kernel_rfl) (by kernel_rfl) (by kernel_rfl) (fun _ _ _ h => h) (Or.inl ⟨by rfl, ?_⟩) (by assumption) ?_
  rotate_left
  · intro w hSw
    try dsimp only at hSw
    go_simp
    all_goals with_reducible rfl
  try simp only [lay_all]
  refine wpAnyH_take (i := 11) (v := ?_) rfl (by kernel_rfl) (by kernel_rfl) (by kernel_rfl) (fun _ _ _ h => h) (Or.inl ⟨by rfl, ?_⟩) (by assumption) ?_
  rotate_left
  · intro w hSw
    try dsimp only at hSw
    go_simp
    all_goals with_reducible rfl
  try simp only [lay_all]
  refine wpAnyH_take (i := 12) (v := ?_) rfl (by kernel_rfl) (by kernel_rfl) (by kernel_rfl) (fun _ _ _ h => h) (Or.inl ⟨by rfl, ?_⟩) (by assumption) ?_
  rotate_left
  · intro w hSw
    try dsimp only at hSw
    go_simp
    all_goals with_reducible rfl
  try simp only [lay_all]
  refine wpAnyH_take (i := 13) (v := ?_) rfl (by kernel_rfl) (by kernel_rfl) (by kernel_rfl) (fun _ _ _ h => h) (Or.inl ⟨by rfl, ?_⟩) (by assumption) ?_
  rotate_left
  · intro w hSw
    try dsimp only at hSw
    go_simp
    all_goals with_reducible rfl
  try simp only [lay_all]
  refine wpAnyH_done (by kernel_rfl) ?_ _
  refine NoPanic.normal ?_
  go_wp2_with fail
  have HS1 := hid (keep6 HS2.out ((Ch.refl (fun _ => False) w1).drew) (fun _ _ h => h) (fun _ _ h => h))
  clear HS2
  refine wp_region_noPanic ?_
  refine wp_region_held_drew (S := (fun W => W.cell? ⟨xb, 1, none⟩ = some (.pointer (some ⟨pp, 0, none⟩)) ∧ W.cell? ⟨xb, 3, none⟩ = some (.pointer (some ⟨rp, 0, none⟩)) ∧ W.cell? ⟨w.heap.size, 0, none⟩ = some (.int .i64 0) ∧ W.cell? ⟨w.heap.size, 1, none⟩ = some (.int .i64 n) ∧ W.cell? ⟨w.heap.size, 2, none⟩ = some (.int .i64 m) ∧ W.cell? ⟨w.heap.size, 3, none⟩ = some (.string s))) (by kernel_rfl) HS1.out (fun hHeld => ?_)
  refine wpAnyH_take (i := 0) (v := ?_) rfl (by kernel_rfl) (by kernel_rfl) (by kernel_rfl) (fun _ _ _ h => h) (Or.inl ⟨by rfl, ?_⟩) (by assumption) ?_
  rotate_left
  · intro w hSw
    try dsimp only at hSw
    go_simp
    all_goals with_reducible rfl
  try simp only [lay_all]
  refine wpAnyH_take (i := 1) (v := ?_) rfl (by kernel_rfl) (by kernel_rfl) (by kernel_rfl) (fun _ _ _ h => h) (Or.inl ⟨by rfl, ?_⟩) (by assumption) ?_
  rotate_left
  · intro w hSw
    try dsimp only at hSw
    go_simp
    all_goals with_reducible rfl
  try simp only [lay_all]
  refine wpAnyH_take (i := 2) (v := ?_) rfl (by kernel_rfl) (by kernel_rfl) (by kernel_rfl) (fun _ _ _ h => h) (Or.inl ⟨by rfl, ?_⟩) (by assumption) ?_
  rotate_left
  · intro w hSw
    try dsimp only at hSw
    go_simp
    all_goals with_reducible rfl
  try simp only [lay_all]
  refine wpAnyH_take (i := 3) (v := ?_) rfl (by kernel_rfl) (by kernel_rfl) (by kernel_rfl) (fun _ _ _ h => h) (Or.inl ⟨by rfl, ?_⟩) (by assumption) ?_
  rotate_left
  · intro w hSw
    try dsimp only at hSw
    go_simp
    all_goals with_reducible rfl
  try simp only [lay_all]
  refine wpAnyH_take (i := 4) (v := ?_) rfl (by kernel_rfl) (by kernel_rfl) (by kernel_rfl) (fun _ _ _ h => h) (Or.inl ⟨by rfl, ?_⟩) (by assumption) ?_
  rotate_left
  · intro w hSw
    try dsimp only at hSw
    go_simp
    all_goals with_reducible rfl
  try simp only [lay_all]
  refine wpAnyH_take (i := 5) (v := ?_) rfl (by kernel_rfl) (by kernel_rfl) (by kernel_rfl) (fun _ _ _ h => h) (Or.inl ⟨by rfl, ?_⟩) (by assumption) ?_
  rotate_left
  · intro w hSw
    try dsimp only at hSw
    go_simp
    all_goals with_reducible rfl
  try simp only [lay_all]
  refine wpAnyH_take (i := 6) (v := ?_) rfl (by kernel_rfl) (by kernel_rfl) (by kernel_rfl) (fun _ _ _ h => h) (Or.inl ⟨by rfl, ?_⟩) (by assumption) ?_
  rotate_left
  · intro w hSw
    try dsimp only at hSw
    go_simp
    all_goals with_reducible rfl
  try simp only [lay_all]
  refine wpAnyH_take (i := 7) (v := ?_) rfl (by kernel_rfl) (by kernel_rfl) (by kernel_rfl) (fun _ _ _ h => h) (Or.inl ⟨by rfl, ?_⟩) (by assumption) ?_
  rotate_left
  · intro w hSw
    try dsimp only at hSw
    go_simp
    all_goals with_reducible rfl
  try simp only [lay_all]
  refine wpAnyH_ready (rs := [8]) (by kernel_rfl) (by simp) ?_
  refine AllReadyH.cons rfl (fun K hK => ?_) AllReadyH.nil
  go_simp
  obtain ⟨Q1, z1, r1, d1, f1, c1⟩ := HMid.out
  have hq : Ch (fun _ => False) w1 w1.drew := (Ch.refl _ _).drew
  have HRr := hid (r1.ch hq (fun _ _ h => h) (fun _ _ h => h))
  have HZz := hid (And.intro z1 (And.intro d1 (And.intro f1 c1)))
  have HQq := hid hq
  clear z1 r1 d1 f1 c1 hq
  refine (HC2.out _ HRr.out).mono ?_
  rintro e w3 ⟨rfl, hr3⟩
  have HS2 := hid (keep6 HS1.out (rch hr3) (fun q hq => by subst hq; exact HXq.out.2) (fun q hq hQ => by subst hq; exact HAb.out.2 hQ))
  have HFin := hid (Two.fin HZz.out.1 HZz.out.2.1 HZz.out.2.2.1 HZz.out.2.2.2 HRl.out HQq.out hr3)
  clear hr3
  go_wp2_with fail
  refine hK.out _ _ ?_ (fun hHeld => ?_)
  · first | exact HS2.out | assumption
  clear hK K
  try simp only [lay_all]
  refine wpAnyH_take (i := 9) (v := ?_) rfl (by kernel_rfl) (by kernel_rfl) (by kernel_rfl) (fun _ _ _ h => h) (Or.inl ⟨by rfl, ?_⟩) (by assumption) ?_
  rotate_left
  · intro w hSw
    try dsimp only at hSw
    go_simp
    all_goals with_reducible rfl
  try simp only [lay_all]
  refine wpAnyH_take (i := 10) (v := ?_) rfl (by kernel_rfl) (by kernel_rfl) (by kernel_rfl) (fun _ _ _ h => h) (Or.inl ⟨by rfl, ?_⟩) (by assumption) ?_
  rotate_left
  · intro w hSw
    try dsimp only at hSw
    go_simp
    all_goals with_reducible rfl
  try simp only [lay_all]
  refine wpAnyH_take (i := 11) (v := ?_) rfl (by kernel_rfl) (by kernel_rfl) (by kernel_rfl) (fun _ _ _ h => h) (Or.inl ⟨by rfl, ?_⟩) (by assumption) ?_
  rotate_left
  · intro w hSw
    try dsimp only at hSw
    go_simp
    all_goals with_reducible rfl
  try simp only [lay_all]
  refine wpAnyH_take (i := 12) (v := ?_) rfl (by kernel_rfl) (by kernel_rfl) (by kernel_rfl) (fun _ _ _ h => h) (Or.inl ⟨by rfl, ?_⟩) (by assumption) ?_
  rotate_left
  · intro w hSw
    try dsimp only at hSw
    go_simp
    all_goals with_reducible rfl
  try simp only [lay_all]
  refine wpAnyH_take (i := 13) (v := ?_) rfl (by kernel_rfl) (by kernel_rfl) (by kernel_rfl) (fun _ _ _ h => h) (Or.inl ⟨by rfl, ?_⟩) (by assumption) ?_
  rotate_left
  · intro w hSw
    try dsimp only at hSw
    go_simp
    all_goals with_reducible rfl
  try simp only [lay_all]
  refine wpAnyH_done (by kernel_rfl) ?_ _
  refine NoPanic.normal ?_
  go_wp2_with (go_at_call 55; refine (no3_any _ _).mono ?_; rintro e w' ⟨rfl, rfl⟩)
  go_ret
  exact ⟨rfl, p', TPost.from_ HQ0.out HFin.out, HPB.out⟩

set_option maxRecDepth 100000 in
set_option maxHeartbeats 4000000 in
theorem bdo1_any {w0 : World} {pp dp rp rq xb b : Nat} {p : Pg} {Q Qr : Nat → Prop} (n m : Int) (s : ByteArray) (ka : Option Addr) (kl kcap : Nat) (w : World) (h : Two w0 w pp dp rp rq p Q Qr) (hb : PB p b) (hb8 : b ≤ 800000)
    (hx1 : w.cell? ⟨xb, 1, none⟩ = some (.pointer (some ⟨pp, 0, none⟩))) (hx3 : w.cell? ⟨xb, 3, none⟩ = some (.pointer (some ⟨rp, 0, none⟩))) (hxq : ¬ Q xb ∧ ¬ Qr xb) :
    Calls Try.prog 75 #[.pointer (some ⟨xb, 0, none⟩), .agg #[.int .i64 1, .int .i64 n, .int .i64 m, .string s, .slice ka kl kcap]] w (BDo w0 w pp dp rp rq Q Qr b) := by
  have hq0 : Ch (fun _ => False) w (w.alloc (.cells #[.int .i64 1, .int .i64 n, .int .i64 m, .string s, .slice ka kl kcap] 112)).drew := ((Ch.refl _ w).alloc _).drew
  have HQ0 := hid hq0
  have HT := hid (h.quiet hq0)
  have HXq := hid hxq
  have HAb : Hid (¬ Q w.heap.size ∧ ¬ Qr w.heap.size) := hid ⟨fun hQ => by have := (h.z.lt _ hQ).2; omega, fun hQ => by have := (h.r.lt _ hQ).2; omega⟩
  have HRl := hid HT.out.r.lt
  have hbox : (w.alloc (.cells #[.int .i64 1, .int .i64 n, .int .i64 m, .string s, .slice ka kl kcap] 112)).drew.heap[w.heap.size]? = some (.cells #[.int .i64 1, .int .i64 n, .int .i64 m, .string s, .slice ka kl kcap] 112 (0, 0)) := heap_drew (heap_new _)
  have HS0 := hid (show (w.alloc (.cells #[.int .i64 1, .int .i64 n, .int .i64 m, .string s, .slice ka kl kcap] 112)).drew.cell? ⟨xb, 1, none⟩ = some (.pointer (some ⟨pp, 0, none⟩)) ∧ (w.alloc (.cells #[.int .i64 1, .int .i64 n, .int .i64 m, .string s, .slice ka kl kcap] 112)).drew.cell? ⟨xb, 3, none⟩ = some (.pointer (some ⟨rp, 0, none⟩)) ∧ (w.alloc (.cells #[.int .i64 1, .int .i64 n, .int .i64 m, .string s, .slice ka kl kcap] 112)).drew.cell? ⟨w.heap.size, 0, none⟩ = some (.int .i64 1) ∧ (w.alloc (.cells #[.int .i64 1, .int .i64 n, .int .i64 m, .string s, .slice ka kl kcap] 112)).drew.cell? ⟨w.heap.size, 1, none⟩ = some (.int .i64 n) ∧ (w.alloc (.cells #[.int .i64 1, .int .i64 n, .int .i64 m, .string s, .slice ka kl kcap] 112)).drew.cell? ⟨w.heap.size, 2, none⟩ = some (.int .i64 m) ∧ (w.alloc (.cells #[.int .i64 1, .int .i64 n, .int .i64 m, .string s, .slice ka kl kcap] 112)).drew.cell? ⟨w.heap.size, 3, none⟩ = some (.string s) from
    ⟨cell_ch2 hx1 hq0 (fun h => h), cell_ch2 hx3 hq0 (fun h => h), by rw [cell_blk hbox]; rfl, by rw [cell_blk hbox]; rfl, by rw [cell_blk hbox]; rfl, by rw [cell_blk hbox]; rfl⟩)
  obtain ⟨hst, hwt⟩ : p.d.steps ≤ 800000 ∧ p.d.wait.length ≤ 800000 := ⟨by have := hb.pl.steps; omega, by have := hb.pl.wait; omega⟩
  obtain ⟨hpn, hop⟩ : p.pins.length ≤ 800000 ∧ p.ops ≤ 800000 := ⟨by have := hb.pins; omega, by have := hb.ops; omega⟩
  obtain ⟨p', HP'⟩ : ∃ p', Hid ((readP p n).2 = p') := ⟨_, hid rfl⟩
  have HPB := hid (hb.read n)
  rw [HP'.out] at HPB
  obtain ⟨a0, HA0⟩ : ∃ a, Hid ((readP p n).1.1 = a) := ⟨_, hid rfl⟩
  obtain ⟨a1, HA1⟩ : ∃ a, Hid ((⟨(readP p n).1.2.1.toArray⟩ : ByteArray) = a) := ⟨_, hid rfl⟩
  obtain ⟨a2, HA2⟩ : ∃ a, Hid ((readP p n).1.2.2 = a) := ⟨_, hid rfl⟩
  have hc1 := read_y n HT.out.z (by omega)
  have hc2 := fun W (hr : RZ w0 W rp rq p Qr) => rpread_any n W hr (by omega)
  unfold RReadPost at hc2
  rw [HP'.out, HA0.out, HA1.out, HA2.out] at hc1
  simp only [HP'.out, HA0.out, HA1.out, HA2.out] at hc2
  have HC1 := hid hc1
  have HC2 := hid hc2
  have hbq0 : ((a0 : Int) == (a0 : Int)) = true := by simp
  have hbq1 : (a1.toList == a1.toList) = true := beq_str_eq rfl
  have hbq2 : ((a2 : Int) == (a2 : Int)) = true := by simp
  clear h hb hb8 hx1 hx3 hxq hq0 hbox hst hwt hpn hop hc1 hc2
  go_enter Try.func75, Try.ntmps75
  go_wp2_with fail
  refine wp_region_noPanic ?_
  refine wp_region_held_drew (S := (fun W => W.cell? ⟨xb, 1, none⟩ = some (.pointer (some ⟨pp, 0, none⟩)) ∧ W.cell? ⟨xb, 3, none⟩ = some (.pointer (some ⟨rp, 0, none⟩)) ∧ W.cell? ⟨w.heap.size, 0, none⟩ = some (.int .i64 1) ∧ W.cell? ⟨w.heap.size, 1, none⟩ = some (.int .i64 n) ∧ W.cell? ⟨w.heap.size, 2, none⟩ = some (.int .i64 m) ∧ W.cell? ⟨w.heap.size, 3, none⟩ = some (.string s))) (by kernel_rfl) HS0.out (fun hHeld => ?_)
  refine wpAnyH_take (i := 0) (v := ?_) rfl (by kernel_rfl) (by kernel_rfl) (by kernel_rfl) (fun _ _ _ h => h) (Or.inl ⟨by rfl, ?_⟩) (by assumption) ?_
  rotate_left
  · intro w hSw
    try dsimp only at hSw
    go_simp
    all_goals with_reducible rfl
  try simp only [lay_all]
  refine wpAnyH_take (i := 1) (v := ?_) rfl (by kernel_rfl) (by kernel_rfl) (by kernel_rfl) (fun _ _ _ h => h) (Or.inl ⟨by rfl, ?_⟩) (by assumption) ?_
  rotate_left
  · intro w hSw
    try dsimp only at hSw
    go_simp
    all_goals with_reducible rfl
  try simp only [lay_all]
  refine wpAnyH_take (i := 2) (v := ?_) rfl (by kernel_rfl) (by kernel_rfl) (by kernel_rfl) (fun _ _ _ h => h) (Or.inl ⟨by rfl, ?_⟩) (by assumption) ?_
  rotate_left
  · intro w hSw
    try dsimp only at hSw
    go_simp
    all_goals with_reducible rfl
  try simp only [lay_all]
  refine wpAnyH_take (i := 3) (v := ?_) rfl (by kernel_rfl) (by kernel_rfl) (by kernel_rfl) (fun _ _ _ h => h) (Or.inl ⟨by rfl, ?_⟩) (by assumption) ?_
  rotate_left
  · intro w hSw
    try dsimp only at hSw
    go_simp
    all_goals with_reducible rfl
  try simp only [lay_all]
  refine wpAnyH_take (i := 4) (v := ?_) rfl (by kernel_rfl) (by kernel_rfl) (by kernel_rfl) (fun _ _ _ h => h) (Or.inl ⟨by rfl, ?_⟩) (by assumption) ?_
  rotate_left
  · intro w hSw
    try dsimp only at hSw
    go_simp
    all_goals with_reducible rfl
  try simp only [lay_all]
  refine wpAnyH_take (i := 5) (v := ?_) rfl (by kernel_rfl) (by kernel_rfl) (by kernel_rfl) (fun _ _ _ h => h) (Or.inl ⟨by rfl, ?_⟩) (by assumption) ?_
  rotate_left
  · intro w hSw
    try dsimp only at hSw
    go_simp
    all_goals with_reducible rfl
  try simp only [lay_all]
  refine wpAnyH_ready (rs := [6]) (by kernel_rfl) (by simp) ?_
  refine AllReadyH.cons rfl (fun K hK => ?_) AllReadyH.nil
  go_simp
  refine HC1.out.mono ?_
  rintro e w1 ⟨rfl, hz1⟩
  have HS2 := hid (keep6 HS0.out (zch hz1) (fun q hq => by subst hq; exact HXq.out.1) (fun q hq hQ => by subst hq; have := (HT.out.z.lt _ hQ).2; exact HAb.out.1 hQ))
  have HMid := hid (HT.out.mid hz1)
  clear hz1
  go_wp2_with fail
  refine hK.out _ _ ?_ (fun hHeld => ?_)
  · first | exact HS2.out | assumption
  clear hK K
  try simp only [lay_all]
  refine wpAnyH_take (i := 7) (v := ?_) rfl (by kernel_rfl) (by kernel_rfl) (by kernel_rfl) (fun _ _ _ h => h) (Or.inl ⟨by rfl, ?_⟩) (by assumption) ?_
  rotate_left
  · intro w hSw
    try dsimp only at hSw
    go_simp
    all_goals with_reducible rfl
  try simp only [lay_all]
  refine wpAnyH_take (i := 8) (v := ?_) rfl (by kernel_rfl) (by kernel_rfl) (by kernel_rfl) (fun _ _ _ h => h) (Or.inl ⟨by rfl, ?_⟩) (by assumption) ?_
  rotate_left
  · intro w hSw
    try dsimp only at hSw
    go_simp
    all_goals with_reducible rfl
  try simp only [lay_all]
  refine wpAnyH_take (i := 9) (v := ?_) rfl (by kernel_rfl) (by kernel_rfl) (by kernel_rfl) (fun _ _ _ h => h) (Or.inl ⟨by rfl, ?_⟩) (by assumption) ?_
  rotate_left
  · intro w hSw
    try dsimp only at hSw
    go_simp
    all_goals with_reducible rfl
  try simp only [lay_all]
  refine wpAnyH_take (i := 10) (v := ?_) rfl (by kernel_rfl) (by kernel_rfl) (by kernel_rfl) (fun _ _ _ h => h) (Or.inl ⟨by rfl, ?_⟩) (by assumption) ?_
  rotate_left
  · intro w hSw
    try dsimp only at hSw
    go_simp
    all_goals with_reducible rfl
  try simp only [lay_all]
  refine wpAnyH_take (i := 11) (v := ?_) rfl (by kernel_rfl) (by kernel_rfl) (by kernel_rfl) (fun _ _ _ h => h) (Or.inl ⟨by rfl, ?_⟩) (by assumption) ?_
  rotate_left
  · intro w hSw
    try dsimp only at hSw
    go_simp
    all_goals with_reducible rfl
  try simp only [lay_all]
  refine wpAnyH_take (i := 12) (v := ?_) rfl (by kernel_rfl) (by kernel_rfl) (by kernel_rfl) (fun _ _ _ h => h) (Or.inl ⟨by rfl, ?_⟩) (by assumption) ?_
  rotate_left
  · intro w hSw
    try dsimp only at hSw
    go_simp
    all_goals with_reducible rfl
  try simp only [lay_all]
  refine wpAnyH_take (i := 13) (v := ?_) rfl (by kernel_rfl) (by kernel_rfl) (by kernel_rfl) (fun _ _ _ h => h) (Or.inl ⟨by rfl, ?_⟩) (by assumption) ?_
  rotate_left
  · intro w hSw
    try dsimp only at hSw
    go_simp
    all_goals with_reducible rfl
  try simp only [lay_all]
  refine wpAnyH_done (by kernel_rfl) ?_ _
  refine NoPanic.normal ?_
  go_wp2_with fail
  have HS1 := hid (keep6 HS2.out ((Ch.refl (fun _ => False) w1).drew) (fun _ _ h => h) (fun _ _ h => h))
  clear HS2
  refine wp_region_noPanic ?_
  refine wp_region_held_drew (S := (fun W => W.cell? ⟨xb, 1, none⟩ = some (.pointer (some ⟨pp, 0, none⟩)) ∧ W.cell? ⟨xb, 3, none⟩ = some (.pointer (some ⟨rp, 0, none⟩)) ∧ W.cell? ⟨w.heap.size, 0, none⟩ = some (.int .i64 1) ∧ W.cell? ⟨w.heap.size, 1, none⟩ = some (.int .i64 n) ∧ W.cell? ⟨w.heap.size, 2, none⟩ = some (.int .i64 m) ∧ W.cell? ⟨w.heap.size, 3, none⟩ = some (.string s))) (by kernel_rfl) HS1.out (fun hHeld => ?_)
  refine wpAnyH_take (i := 0) (v := ?_) rfl (by kernel_rfl) (by kernel_rfl) (by kernel_rfl) (fun _ _ _ h => h) (Or.inl ⟨by rfl, ?_⟩) (by assumption) ?_
  rotate_left
  · intro w hSw
    try dsimp only at hSw
    go_simp
    all_goals with_reducible rfl
  try simp only [lay_all]
  refine wpAnyH_take (i := 1) (v := ?_) rfl (by kernel_rfl) (by kernel_rfl) (by kernel_rfl) (fun _ _ _ h => h) (Or.inl ⟨by rfl, ?_⟩) (by assumption) ?_
  rotate_left
  · intro w hSw
    try dsimp only at hSw
    go_simp
    all_goals with_reducible rfl
  try simp only [lay_all]
  refine wpAnyH_take (i := 2) (v := ?_) rfl (by kernel_rfl) (by kernel_rfl) (by kernel_rfl) (fun _ _ _ h => h) (Or.inl ⟨by rfl, ?_⟩) (by assumption) ?_
  rotate_left
  · intro w hSw
    try dsimp only at hSw
    go_simp
    all_goals with_reducible rfl
  try simp only [lay_all]
  refine wpAnyH_take (i := 3) (v := ?_) rfl (by kernel_rfl) (by kernel_rfl) (by kernel_rfl) (fun _ _ _ h => h) (Or.inl ⟨by rfl, ?_⟩) (by assumption) ?_
  rotate_left
  · intro w hSw
    try dsimp only at hSw
    go_simp
    all_goals with_reducible rfl
  try simp only [lay_all]
  refine wpAnyH_take (i := 4) (v := ?_) rfl (by kernel_rfl) (by kernel_rfl) (by kernel_rfl) (fun _ _ _ h => h) (Or.inl ⟨by rfl, ?_⟩) (by assumption) ?_
  rotate_left
  · intro w hSw
    try dsimp only at hSw
    go_simp
    all_goals with_reducible rfl
  try simp only [lay_all]
  refine wpAnyH_take (i := 5) (v := ?_) rfl (by kernel_rfl) (by kernel_rfl) (by kernel_rfl) (fun _ _ _ h => h) (Or.inl ⟨by rfl, ?_⟩) (by assumption) ?_
  rotate_left
  · intro w hSw
    try dsimp only at hSw
    go_simp
    all_goals with_reducible rfl
  try simp only [lay_all]
  refine wpAnyH_ready (rs := [6]) (by kernel_rfl) (by simp) ?_
  refine AllReadyH.cons rfl (fun K hK => ?_) AllReadyH.nil
  go_simp
  obtain ⟨Q1, z1, r1, d1, f1, c1⟩ := HMid.out
  have hq : Ch (fun _ => False) w1 w1.drew := (Ch.refl _ _).drew
  have HRr := hid (r1.ch hq (fun _ _ h => h) (fun _ _ h => h))
  have HZz := hid (And.intro z1 (And.intro d1 (And.intro f1 c1)))
  have HQq := hid hq
  clear z1 r1 d1 f1 c1 hq
  refine (HC2.out _ HRr.out).mono ?_
  rintro e w3 ⟨rfl, hr3⟩
  have HS2 := hid (keep6 HS1.out (rch hr3) (fun q hq => by subst hq; exact HXq.out.2) (fun q hq hQ => by subst hq; exact HAb.out.2 hQ))
  have HFin := hid (Two.fin HZz.out.1 HZz.out.2.1 HZz.out.2.2.1 HZz.out.2.2.2 HRl.out HQq.out hr3)
  clear hr3
  go_wp2_with fail
  refine hK.out _ _ ?_ (fun hHeld => ?_)
  · first | exact HS2.out | assumption
  clear hK K
  try simp only [lay_all]
  refine wpAnyH_take (i := 7) (v := ?_) rfl (by kernel_rfl) (by kernel_rfl) (by kernel_rfl) (fun _ _ _ h => h) (Or.inl ⟨by rfl, ?_⟩) (by assumption) ?_
  rotate_left
  · intro w hSw
    try dsimp only at hSw
    go_simp
    all_goals with_reducible rfl
  try simp only [lay_all]
  refine wpAnyH_take (i := 8) (v := ?_) rfl (by kernel_rfl) (by kernel_rfl) (by kernel_rfl) (fun _ _ _ h => h) (Or.inl ⟨by rfl, ?_⟩) (by assumption) ?_
  rotate_left
  · intro w hSw
    try dsimp only at hSw
    go_simp
    all_goals with_reducible rfl
  try simp only [lay_all]
  refine wpAnyH_take (i := 9) (v := ?_) rfl (by kernel_rfl) (by kernel_rfl) (by kernel_rfl) (fun _ _ _ h => h) (Or.inl ⟨by rfl, ?_⟩) (by assumption) ?_
  rotate_left
  · intro w hSw
    try dsimp only at hSw
    go_simp
    all_goals with_reducible rfl
  try simp only [lay_all]
  refine wpAnyH_take (i := 10) (v := ?_) rfl (by kernel_rfl) (by kernel_rfl) (by kernel_rfl) (fun _ _ _ h => h) (Or.inl ⟨by rfl, ?_⟩) (by assumption) ?_
  rotate_left
  · intro w hSw
    try dsimp only at hSw
    go_simp
    all_goals with_reducible rfl
  try simp only [lay_all]
  refine wpAnyH_take (i := 11) (v := ?_) rfl (by kernel_rfl) (by kernel_rfl) (by kernel_rfl) (fun _ _ _ h => h) (Or.inl ⟨by rfl, ?_⟩) (by assumption) ?_
  rotate_left
  · intro w hSw
    try dsimp only at hSw
    go_simp
    all_goals with_reducible rfl
  try simp only [lay_all]
  refine wpAnyH_take (i := 12) (v := ?_) rfl (by kernel_rfl) (by kernel_rfl) (by kernel_rfl) (fun _ _ _ h => h) (Or.inl ⟨by rfl, ?_⟩) (by assumption) ?_
  rotate_left
  · intro w hSw
    try dsimp only at hSw
    go_simp
    all_goals with_reducible rfl
  try simp only [lay_all]
  refine wpAnyH_take (i := 13) (v := ?_) rfl (by kernel_rfl) (by kernel_rfl) (by kernel_rfl) (fun _ _ _ h => h) (Or.inl ⟨by rfl, ?_⟩) (by assumption) ?_
  rotate_left
  · intro w hSw
    try dsimp only at hSw
    go_simp
    all_goals with_reducible rfl
  try simp only [lay_all]
  refine wpAnyH_done (by kernel_rfl) ?_ _
  refine NoPanic.normal ?_
  go_wp2_with (go_at_call 55; refine (no3_any _ _).mono ?_; rintro e w' ⟨rfl, rfl⟩)
  go_ret
  exact ⟨rfl, p', TPost.from_ HQ0.out HFin.out, HPB.out⟩

set_option maxRecDepth 100000 in
set_option maxHeartbeats 4000000 in
theorem bdo2_any {w0 : World} {pp dp rp rq xb b : Nat} {p : Pg} {Q Qr : Nat → Prop} (n m : Int) (s : ByteArray) (ka : Option Addr) (kl kcap : Nat) (w : World) (h : Two w0 w pp dp rp rq p Q Qr) (hb : PB p b) (hb8 : b ≤ 800000)
    (hx1 : w.cell? ⟨xb, 1, none⟩ = some (.pointer (some ⟨pp, 0, none⟩))) (hx3 : w.cell? ⟨xb, 3, none⟩ = some (.pointer (some ⟨rp, 0, none⟩))) (hxq : ¬ Q xb ∧ ¬ Qr xb) :
    Calls Try.prog 75 #[.pointer (some ⟨xb, 0, none⟩), .agg #[.int .i64 2, .int .i64 n, .int .i64 m, .string s, .slice ka kl kcap]] w (BDo w0 w pp dp rp rq Q Qr b) := by
  have hq0 : Ch (fun _ => False) w (w.alloc (.cells #[.int .i64 2, .int .i64 n, .int .i64 m, .string s, .slice ka kl kcap] 112)).drew := ((Ch.refl _ w).alloc _).drew
  have HQ0 := hid hq0
  have HT := hid (h.quiet hq0)
  have HXq := hid hxq
  have HAb : Hid (¬ Q w.heap.size ∧ ¬ Qr w.heap.size) := hid ⟨fun hQ => by have := (h.z.lt _ hQ).2; omega, fun hQ => by have := (h.r.lt _ hQ).2; omega⟩
  have HRl := hid HT.out.r.lt
  have hbox : (w.alloc (.cells #[.int .i64 2, .int .i64 n, .int .i64 m, .string s, .slice ka kl kcap] 112)).drew.heap[w.heap.size]? = some (.cells #[.int .i64 2, .int .i64 n, .int .i64 m, .string s, .slice ka kl kcap] 112 (0, 0)) := heap_drew (heap_new _)
  have HS0 := hid (show (w.alloc (.cells #[.int .i64 2, .int .i64 n, .int .i64 m, .string s, .slice ka kl kcap] 112)).drew.cell? ⟨xb, 1, none⟩ = some (.pointer (some ⟨pp, 0, none⟩)) ∧ (w.alloc (.cells #[.int .i64 2, .int .i64 n, .int .i64 m, .string s, .slice ka kl kcap] 112)).drew.cell? ⟨xb, 3, none⟩ = some (.pointer (some ⟨rp, 0, none⟩)) ∧ (w.alloc (.cells #[.int .i64 2, .int .i64 n, .int .i64 m, .string s, .slice ka kl kcap] 112)).drew.cell? ⟨w.heap.size, 0, none⟩ = some (.int .i64 2) ∧ (w.alloc (.cells #[.int .i64 2, .int .i64 n, .int .i64 m, .string s, .slice ka kl kcap] 112)).drew.cell? ⟨w.heap.size, 1, none⟩ = some (.int .i64 n) ∧ (w.alloc (.cells #[.int .i64 2, .int .i64 n, .int .i64 m, .string s, .slice ka kl kcap] 112)).drew.cell? ⟨w.heap.size, 2, none⟩ = some (.int .i64 m) ∧ (w.alloc (.cells #[.int .i64 2, .int .i64 n, .int .i64 m, .string s, .slice ka kl kcap] 112)).drew.cell? ⟨w.heap.size, 3, none⟩ = some (.string s) from
    ⟨cell_ch2 hx1 hq0 (fun h => h), cell_ch2 hx3 hq0 (fun h => h), by rw [cell_blk hbox]; rfl, by rw [cell_blk hbox]; rfl, by rw [cell_blk hbox]; rfl, by rw [cell_blk hbox]; rfl⟩)
  obtain ⟨hst, hwt⟩ : p.d.steps ≤ 800000 ∧ p.d.wait.length ≤ 800000 := ⟨by have := hb.pl.steps; omega, by have := hb.pl.wait; omega⟩
  obtain ⟨hpn, hop⟩ : p.pins.length ≤ 800000 ∧ p.ops ≤ 800000 := ⟨by have := hb.pins; omega, by have := hb.ops; omega⟩
  obtain ⟨p', HP'⟩ : ∃ p', Hid ((dropP p n).2 = p') := ⟨_, hid rfl⟩
  have HPB := hid (hb.drop n)
  rw [HP'.out] at HPB
  obtain ⟨a0, HA0⟩ : ∃ a, Hid ((dropP p n).1 = a) := ⟨_, hid rfl⟩
  have hc1 := drop_z n _ HT.out.z
  have hc2 := fun W (hr : RZ w0 W rp rq p Qr) => rdrop_any n W hr
  rw [HP'.out, HA0.out] at hc1
  simp only [HP'.out, HA0.out] at hc2
  have HC1 := hid hc1
  have HC2 := hid hc2
  have hbq0 : ((a0 : Int) == (a0 : Int)) = true := by simp
  clear h hb hb8 hx1 hx3 hxq hq0 hbox hst hwt hpn hop hc1 hc2
  go_enter Try.func75, Try.ntmps75
  go_wp2_with fail
  refine wp_region_noPanic ?_
  refine wp_region_held_drew (S := (fun W => W.cell? ⟨xb, 1, none⟩ = some (.pointer (some ⟨pp, 0, none⟩)) ∧ W.cell? ⟨xb, 3, none⟩ = some (.pointer (some ⟨rp, 0, none⟩)) ∧ W.cell? ⟨w.heap.size, 0, none⟩ = some (.int .i64 2) ∧ W.cell? ⟨w.heap.size, 1, none⟩ = some (.int .i64 n) ∧ W.cell? ⟨w.heap.size, 2, none⟩ = some (.int .i64 m) ∧ W.cell? ⟨w.heap.size, 3, none⟩ = some (.string s))) (by kernel_rfl) HS0.out (fun hHeld => ?_)
  refine wpAnyH_take (i := 0) (v := ?_) rfl (by kernel_rfl) (by kernel_rfl) (by kernel_rfl) (fun _ _ _ h => h) (Or.inl ⟨by rfl, ?_⟩) (by assumption) ?_
  rotate_left
  · intro w hSw
    try dsimp only at hSw
    go_simp
    all_goals with_reducible rfl
  try simp only [lay_all]
  refine wpAnyH_take (i := 1) (v := ?_) rfl (by kernel_rfl) (by kernel_rfl) (by kernel_rfl) (fun _ _ _ h => h) (Or.inl ⟨by rfl, ?_⟩) (by assumption) ?_
  rotate_left
  · intro w hSw
    try dsimp only at hSw
    go_simp
    all_goals with_reducible rfl
  try simp only [lay_all]
  refine wpAnyH_take (i := 2) (v := ?_) rfl (by kernel_rfl) (by kernel_rfl) (by kernel_rfl) (fun _ _ _ h => h) (Or.inl ⟨by rfl, ?_⟩) (by assumption) ?_
  rotate_left
  · intro w hSw
    try dsimp only at hSw
    go_simp
    all_goals with_reducible rfl
  try simp only [lay_all]
  refine wpAnyH_take (i := 3) (v := ?_) rfl (by kernel_rfl) (by kernel_rfl) (by kernel_rfl) (fun _ _ _ h => h) (Or.inl ⟨by rfl, ?_⟩) (by assumption) ?_
  rotate_left
  · intro w hSw
    try dsimp only at hSw
    go_simp
    all_goals with_reducible rfl
  try simp only [lay_all]
  refine wpAnyH_take (i := 4) (v := ?_) rfl (by kernel_rfl) (by kernel_rfl) (by kernel_rfl) (fun _ _ _ h => h) (Or.inl ⟨by rfl, ?_⟩) (by assumption) ?_
  rotate_left
  · intro w hSw
    try dsimp only at hSw
    go_simp
    all_goals with_reducible rfl
  try simp only [lay_all]
  refine wpAnyH_take (i := 5) (v := ?_) rfl (by kernel_rfl) (by kernel_rfl) (by kernel_rfl) (fun _ _ _ h => h) (Or.inl ⟨by rfl, ?_⟩) (by assumption) ?_
  rotate_left
  · intro w hSw
    try dsimp only at hSw
    go_simp
    all_goals with_reducible rfl
  try simp only [lay_all]
  refine wpAnyH_take (i := 8) (v := ?_) rfl (by kernel_rfl) (by kernel_rfl) (by kernel_rfl) (fun _ _ _ h => h) (Or.inl ⟨by rfl, ?_⟩) (by assumption) ?_
  rotate_left
  · intro w hSw
    try dsimp only at hSw
    go_simp
    all_goals with_reducible rfl
  try simp only [lay_all]
  refine wpAnyH_take (i := 9) (v := ?_) rfl (by kernel_rfl) (by kernel_rfl) (by kernel_rfl) (fun _ _ _ h => h) (Or.inl ⟨by rfl, ?_⟩) (by assumption) ?_
  rotate_left
  · intro w hSw
    try dsimp only at hSw
    go_simp
    all_goals with_reducible rfl
  try simp only [lay_all]
  refine wpAnyH_take (i := 10) (v := ?_) rfl (by kernel_rfl) (by kernel_rfl) (by kernel_rfl) (fun _ _ _ h => h) (Or.inl ⟨by rfl, ?_⟩) (by assumption) ?_
  rotate_left
  · intro w hSw
    try dsimp only at hSw
    go_simp
    all_goals with_reducible rfl
  try simp only [lay_all]
  refine wpAnyH_take (i := 11) (v := ?_) rfl (by kernel_rfl) (by kernel_rfl) (by kernel_rfl) (fun _ _ _ h => h) (Or.inl ⟨by rfl, ?_⟩) (by assumption) ?_
  rotate_left
  · intro w hSw
    try dsimp only at hSw
    go_simp
    all_goals with_reducible rfl
  try simp only [lay_all]
  refine wpAnyH_take (i := 12) (v := ?_) rfl (by kernel_rfl) (by kernel_rfl) (by kernel_rfl) (fun _ _ _ h => h) (Or.inl ⟨by rfl, ?_⟩) (by assumption) ?_
  rotate_left
  · intro w hSw
    try dsimp only at hSw
    go_simp
    all_goals with_reducible rfl
  try simp only [lay_all]
  refine wpAnyH_take (i := 13) (v := ?_) rfl (by kernel_rfl) (by kernel_rfl) (by kernel_rfl) (fun _ _ _ h => h) (Or.inl ⟨by rfl, ?_⟩) (by assumption) ?_
  rotate_left
  · intro w hSw
    try dsimp only at hSw
    go_simp
    all_goals with_reducible rfl
  try simp only [lay_all]
  refine wpAnyH_ready (rs := [6]) (by kernel_rfl) (by simp) ?_
  refine AllReadyH.cons rfl (fun K hK => ?_) AllReadyH.nil
  go_simp
  refine HC1.out.mono ?_
  rintro e w1 ⟨rfl, hz1⟩
  have HS2 := hid (keep6 HS0.out (zch hz1) (fun q hq => by subst hq; exact HXq.out.1) (fun q hq hQ => by subst hq; have := (HT.out.z.lt _ hQ).2; exact HAb.out.1 hQ))
  have HMid := hid (HT.out.mid hz1)
  clear hz1
  go_wp2_with fail
  refine hK.out _ _ ?_ (fun hHeld => ?_)
  · first | exact HS2.out | assumption
  clear hK K
  try simp only [lay_all]
  refine wpAnyH_ready (rs := [7]) (by kernel_rfl) (by simp) ?_
  refine AllReadyH.cons rfl (fun K hK => ?_) AllReadyH.nil
  go_simp
  refine (no3_any _ _).mono ?_
  rintro e w' ⟨rfl, rfl⟩
  go_wp2_with fail
  refine hK.out _ _ ?_ (fun hHeld => ?_)
  · first | exact HS2.out | assumption
  clear hK K
  try simp only [lay_all]
  refine wpAnyH_ready (rs := [14]) (by kernel_rfl) (by simp) ?_
  refine AllReadyH.cons rfl (fun K hK => ?_) AllReadyH.nil
  go_simp
  obtain ⟨Q1, z1, r1, d1, f1, c1⟩ := HMid.out
  have hq : Ch (fun _ => False) w1 w1 := Ch.refl _ _
  have HRr := hid (r1.ch hq (fun _ _ h => h) (fun _ _ h => h))
  have HZz := hid (And.intro z1 (And.intro d1 (And.intro f1 c1)))
  have HQq := hid hq
  clear z1 r1 d1 f1 c1 hq
  refine (HC2.out _ HRr.out).mono ?_
  rintro e w3 ⟨rfl, hr3⟩
  have HS2 := hid (keep6 HS2.out (rch hr3) (fun q hq => by subst hq; exact HXq.out.2) (fun q hq hQ => by subst hq; exact HAb.out.2 hQ))
  have HFin := hid (Two.fin HZz.out.1 HZz.out.2.1 HZz.out.2.2.1 HZz.out.2.2.2 HRl.out HQq.out hr3)
  clear hr3
  go_wp2_with fail
  refine hK.out _ _ ?_ (fun hHeld => ?_)
  · first | exact HS2.out | assumption
  clear hK K
  try simp only [lay_all]
  refine wpAnyH_take (i := 15) (v := ?_) rfl (by kernel_rfl) (by kernel_rfl) (by kernel_rfl) (fun _ _ _ h => h) (Or.inl ⟨by rfl, ?_⟩) (by assumption) ?_
  rotate_left
  · intro w hSw
    try dsimp only at hSw
    go_simp
    all_goals with_reducible rfl
  try simp only [lay_all]
  refine wpAnyH_take (i := 16) (v := ?_) rfl (by kernel_rfl) (by kernel_rfl) (by kernel_rfl) (fun _ _ _ h => h) (Or.inl ⟨by rfl, ?_⟩) (by assumption) ?_
  rotate_left
  · intro w hSw
    try dsimp only at hSw
    go_simp
    all_goals with_reducible rfl
  try simp only [lay_all]
  refine wpAnyH_done (by kernel_rfl) ?_ _
  refine NoPanic.normal ?_
  go_wp2_with fail
  go_ret
  exact ⟨rfl, p', TPost.from_ HQ0.out HFin.out, HPB.out⟩

set_option maxRecDepth 100000 in
set_option maxHeartbeats 4000000 in
theorem bdo3_any {w0 : World} {pp dp rp rq xb b : Nat} {p : Pg} {Q Qr : Nat → Prop} (n m : Int) (s : ByteArray) (ka : Option Addr) (kl kcap : Nat) (w : World) (h : Two w0 w pp dp rp rq p Q Qr) (hb : PB p b) (hb8 : b ≤ 800000)
    (hx1 : w.cell? ⟨xb, 1, none⟩ = some (.pointer (some ⟨pp, 0, none⟩))) (hx3 : w.cell? ⟨xb, 3, none⟩ = some (.pointer (some ⟨rp, 0, none⟩))) (hxq : ¬ Q xb ∧ ¬ Qr xb) :
    Calls Try.prog 75 #[.pointer (some ⟨xb, 0, none⟩), .agg #[.int .i64 3, .int .i64 n, .int .i64 m, .string s, .slice ka kl kcap]] w (BDo w0 w pp dp rp rq Q Qr b) := by
  have hq0 : Ch (fun _ => False) w (w.alloc (.cells #[.int .i64 3, .int .i64 n, .int .i64 m, .string s, .slice ka kl kcap] 112)).drew := ((Ch.refl _ w).alloc _).drew
  have HQ0 := hid hq0
  have HT := hid (h.quiet hq0)
  have HXq := hid hxq
  have HAb : Hid (¬ Q w.heap.size ∧ ¬ Qr w.heap.size) := hid ⟨fun hQ => by have := (h.z.lt _ hQ).2; omega, fun hQ => by have := (h.r.lt _ hQ).2; omega⟩
  have HRl := hid HT.out.r.lt
  have hbox : (w.alloc (.cells #[.int .i64 3, .int .i64 n, .int .i64 m, .string s, .slice ka kl kcap] 112)).drew.heap[w.heap.size]? = some (.cells #[.int .i64 3, .int .i64 n, .int .i64 m, .string s, .slice ka kl kcap] 112 (0, 0)) := heap_drew (heap_new _)
  have HS0 := hid (show (w.alloc (.cells #[.int .i64 3, .int .i64 n, .int .i64 m, .string s, .slice ka kl kcap] 112)).drew.cell? ⟨xb, 1, none⟩ = some (.pointer (some ⟨pp, 0, none⟩)) ∧ (w.alloc (.cells #[.int .i64 3, .int .i64 n, .int .i64 m, .string s, .slice ka kl kcap] 112)).drew.cell? ⟨xb, 3, none⟩ = some (.pointer (some ⟨rp, 0, none⟩)) ∧ (w.alloc (.cells #[.int .i64 3, .int .i64 n, .int .i64 m, .string s, .slice ka kl kcap] 112)).drew.cell? ⟨w.heap.size, 0, none⟩ = some (.int .i64 3) ∧ (w.alloc (.cells #[.int .i64 3, .int .i64 n, .int .i64 m, .string s, .slice ka kl kcap] 112)).drew.cell? ⟨w.heap.size, 1, none⟩ = some (.int .i64 n) ∧ (w.alloc (.cells #[.int .i64 3, .int .i64 n, .int .i64 m, .string s, .slice ka kl kcap] 112)).drew.cell? ⟨w.heap.size, 2, none⟩ = some (.int .i64 m) ∧ (w.alloc (.cells #[.int .i64 3, .int .i64 n, .int .i64 m, .string s, .slice ka kl kcap] 112)).drew.cell? ⟨w.heap.size, 3, none⟩ = some (.string s) from
    ⟨cell_ch2 hx1 hq0 (fun h => h), cell_ch2 hx3 hq0 (fun h => h), by rw [cell_blk hbox]; rfl, by rw [cell_blk hbox]; rfl, by rw [cell_blk hbox]; rfl, by rw [cell_blk hbox]; rfl⟩)
  obtain ⟨hst, hwt⟩ : p.d.steps ≤ 800000 ∧ p.d.wait.length ≤ 800000 := ⟨by have := hb.pl.steps; omega, by have := hb.pl.wait; omega⟩
  obtain ⟨hpn, hop⟩ : p.pins.length ≤ 800000 ∧ p.ops ≤ 800000 := ⟨by have := hb.pins; omega, by have := hb.ops; omega⟩
  obtain ⟨p', HP'⟩ : ∃ p', Hid ((commitP p s.data.toList).2 = p') := ⟨_, hid rfl⟩
  have HPB := hid (hb.commit s.data.toList)
  rw [HP'.out] at HPB
  obtain ⟨a0, HA0⟩ : ∃ a, Hid ((commitP p s.data.toList).1 = a) := ⟨_, hid rfl⟩
  have hc1 := commit_y s _ HT.out.z (by omega) (by omega)
  have hc2 := fun W (hr : RZ w0 W rp rq p Qr) => rcommit_any s W hr (by omega) (by omega)
  unfold RComPost at hc2
  rw [HP'.out, HA0.out] at hc1
  simp only [HP'.out, HA0.out] at hc2
  have HC1 := hid hc1
  have HC2 := hid hc2
  have hbq0 : ((a0 : Int) == (a0 : Int)) = true := by simp
  clear h hb hb8 hx1 hx3 hxq hq0 hbox hst hwt hpn hop hc1 hc2
  go_enter Try.func75, Try.ntmps75
  go_wp2_with fail
  refine wp_region_noPanic ?_
  refine wp_region_held_drew (S := (fun W => W.cell? ⟨xb, 1, none⟩ = some (.pointer (some ⟨pp, 0, none⟩)) ∧ W.cell? ⟨xb, 3, none⟩ = some (.pointer (some ⟨rp, 0, none⟩)) ∧ W.cell? ⟨w.heap.size, 0, none⟩ = some (.int .i64 3) ∧ W.cell? ⟨w.heap.size, 1, none⟩ = some (.int .i64 n) ∧ W.cell? ⟨w.heap.size, 2, none⟩ = some (.int .i64 m) ∧ W.cell? ⟨w.heap.size, 3, none⟩ = some (.string s))) (by kernel_rfl) HS0.out (fun hHeld => ?_)
  refine wpAnyH_take (i := 0) (v := ?_) rfl (by kernel_rfl) (by kernel_rfl) (by kernel_rfl) (fun _ _ _ h => h) (Or.inl ⟨by rfl, ?_⟩) (by assumption) ?_
  rotate_left
  · intro w hSw
    try dsimp only at hSw
    go_simp
    all_goals with_reducible rfl
  try simp only [lay_all]
  refine wpAnyH_take (i := 1) (v := ?_) rfl (by kernel_rfl) (by kernel_rfl) (by kernel_rfl) (fun _ _ _ h => h) (Or.inl ⟨by rfl, ?_⟩) (by assumption) ?_
  rotate_left
  · intro w hSw
    try dsimp only at hSw
    go_simp
    all_goals with_reducible rfl
  try simp only [lay_all]
  refine wpAnyH_take (i := 2) (v := ?_) rfl (by kernel_rfl) (by kernel_rfl) (by kernel_rfl) (fun _ _ _ h => h) (Or.inl ⟨by rfl, ?_⟩) (by assumption) ?_
  rotate_left
  · intro w hSw
    try dsimp only at hSw
    go_simp
    all_goals with_reducible rfl
  try simp only [lay_all]
  refine wpAnyH_take (i := 3) (v := ?_) rfl (by kernel_rfl) (by kernel_rfl) (by kernel_rfl) (fun _ _ _ h => h) (Or.inl ⟨by rfl, ?_⟩) (by assumption) ?_
  rotate_left
  · intro w hSw
    try dsimp only at hSw
    go_simp
    all_goals with_reducible rfl
  try simp only [lay_all]
  refine wpAnyH_take (i := 4) (v := ?_) rfl (by kernel_rfl) (by kernel_rfl) (by kernel_rfl) (fun _ _ _ h => h) (Or.inl ⟨by rfl, ?_⟩) (by assumption) ?_
  rotate_left
  · intro w hSw
    try dsimp only at hSw
    go_simp
    all_goals with_reducible rfl
  try simp only [lay_all]
  refine wpAnyH_take (i := 5) (v := ?_) rfl (by kernel_rfl) (by kernel_rfl) (by kernel_rfl) (fun _ _ _ h => h) (Or.inl ⟨by rfl, ?_⟩) (by assumption) ?_
  rotate_left
  · intro w hSw
    try dsimp only at hSw
    go_simp
    all_goals with_reducible rfl
  try simp only [lay_all]
  refine wpAnyH_take (i := 8) (v := ?_) rfl (by kernel_rfl) (by kernel_rfl) (by kernel_rfl) (fun _ _ _ h => h) (Or.inl ⟨by rfl, ?_⟩) (by assumption) ?_
  rotate_left
  · intro w hSw
    try dsimp only at hSw
    go_simp
    all_goals with_reducible rfl
  try simp only [lay_all]
  refine wpAnyH_take (i := 9) (v := ?_) rfl (by kernel_rfl) (by kernel_rfl) (by kernel_rfl) (fun _ _ _ h => h) (Or.inl ⟨by rfl, ?_⟩) (by assumption) ?_
  rotate_left
  · intro w hSw
    try dsimp only at hSw
    go_simp
    all_goals with_reducible rfl
  try simp only [lay_all]
  refine wpAnyH_take (i := 10) (v := ?_) rfl (by kernel_rfl) (by kernel_rfl) (by kernel_rfl) (fun _ _ _ h => h) (Or.inl ⟨by rfl, ?_⟩) (by assumption) ?_
  rotate_left
  · intro w hSw
    try dsimp only at hSw
    go_simp
    all_goals with_reducible rfl
  try simp only [lay_all]
  refine wpAnyH_take (i := 11) (v := ?_) rfl (by kernel_rfl) (by kernel_rfl) (by kernel_rfl) (fun _ _ _ h => h) (Or.inl ⟨by rfl, ?_⟩) (by assumption) ?_
  rotate_left
  · intro w hSw
    try dsimp only at hSw
    go_simp
    all_goals with_reducible rfl
  try simp only [lay_all]
  refine wpAnyH_take (i := 12) (v := ?_) rfl (by kernel_rfl) (by kernel_rfl) (by kernel_rfl) (fun _ _ _ h => h) (Or.inl ⟨by rfl, ?_⟩) (by assumption) ?_
  rotate_left
  · intro w hSw
    try dsimp only at hSw
    go_simp
    all_goals with_reducible rfl
  try simp only [lay_all]
  refine wpAnyH_take (i := 13) (v := ?_) rfl (by kernel_rfl) (by kernel_rfl) (by kernel_rfl) (fun _ _ _ h => h) (Or.inl ⟨by rfl, ?_⟩) (by assumption) ?_
  rotate_left
  · intro w hSw
    try dsimp only at hSw
    go_simp
    all_goals with_reducible rfl
  try simp only [lay_all]
  refine wpAnyH_ready (rs := [6]) (by kernel_rfl) (by simp) ?_
  refine AllReadyH.cons rfl (fun K hK => ?_) AllReadyH.nil
  go_simp
  refine HC1.out.mono ?_
  rintro e w1 ⟨rfl, hz1⟩
  have HS2 := hid (keep6 HS0.out (zch hz1) (fun q hq => by subst hq; exact HXq.out.1) (fun q hq hQ => by subst hq; have := (HT.out.z.lt _ hQ).2; exact HAb.out.1 hQ))
  have HMid := hid (HT.out.mid hz1)
  clear hz1
  go_wp2_with fail
  refine hK.out _ _ ?_ (fun hHeld => ?_)
  · first | exact HS2.out | assumption
  clear hK K
  try simp only [lay_all]
  refine wpAnyH_ready (rs := [7]) (by kernel_rfl) (by simp) ?_
  refine AllReadyH.cons rfl (fun K hK => ?_) AllReadyH.nil
  go_simp
  refine (no3_any _ _).mono ?_
  rintro e w' ⟨rfl, rfl⟩
  go_wp2_with fail
  refine hK.out _ _ ?_ (fun hHeld => ?_)
  · first | exact HS2.out | assumption
  clear hK K
  try simp only [lay_all]
  refine wpAnyH_ready (rs := [14]) (by kernel_rfl) (by simp) ?_
  refine AllReadyH.cons rfl (fun K hK => ?_) AllReadyH.nil
  go_simp
  obtain ⟨Q1, z1, r1, d1, f1, c1⟩ := HMid.out
  have hq : Ch (fun _ => False) w1 w1 := Ch.refl _ _
  have HRr := hid (r1.ch hq (fun _ _ h => h) (fun _ _ h => h))
  have HZz := hid (And.intro z1 (And.intro d1 (And.intro f1 c1)))
  have HQq := hid hq
  clear z1 r1 d1 f1 c1 hq
  refine (HC2.out _ HRr.out).mono ?_
  rintro e w3 ⟨rfl, hr3⟩
  have HS2 := hid (keep6 HS2.out (rch hr3) (fun q hq => by subst hq; exact HXq.out.2) (fun q hq hQ => by subst hq; exact HAb.out.2 hQ))
  have HFin := hid (Two.fin HZz.out.1 HZz.out.2.1 HZz.out.2.2.1 HZz.out.2.2.2 HRl.out HQq.out hr3)
  clear hr3
  go_wp2_with fail
  refine hK.out _ _ ?_ (fun hHeld => ?_)
  · first | exact HS2.out | assumption
  clear hK K
  try simp only [lay_all]
  refine wpAnyH_take (i := 15) (v := ?_) rfl (by kernel_rfl) (by kernel_rfl) (by kernel_rfl) (fun _ _ _ h => h) (Or.inl ⟨by rfl, ?_⟩) (by assumption) ?_
  rotate_left
  · intro w hSw
    try dsimp only at hSw
    go_simp
    all_goals with_reducible rfl
  try simp only [lay_all]
  refine wpAnyH_take (i := 16) (v := ?_) rfl (by kernel_rfl) (by kernel_rfl) (by kernel_rfl) (fun _ _ _ h => h) (Or.inl ⟨by rfl, ?_⟩) (by assumption) ?_
  rotate_left
  · intro w hSw
    try dsimp only at hSw
    go_simp
    all_goals with_reducible rfl
  try simp only [lay_all]
  refine wpAnyH_done (by kernel_rfl) ?_ _
  refine NoPanic.normal ?_
  go_wp2_with fail
  go_ret
  exact ⟨rfl, p', TPost.from_ HQ0.out HFin.out, HPB.out⟩

set_option maxRecDepth 100000 in
set_option maxHeartbeats 4000000 in
theorem bdo6_any {w0 : World} {pp dp rp rq xb b : Nat} {p : Pg} {Q Qr : Nat → Prop} (n m : Int) (s : ByteArray) (ka : Option Addr) (kl kcap : Nat) (w : World) (h : Two w0 w pp dp rp rq p Q Qr) (hb : PB p b) (hb8 : b ≤ 800000)
    (hx1 : w.cell? ⟨xb, 1, none⟩ = some (.pointer (some ⟨pp, 0, none⟩))) (hx3 : w.cell? ⟨xb, 3, none⟩ = some (.pointer (some ⟨rp, 0, none⟩))) (hxq : ¬ Q xb ∧ ¬ Qr xb) (hwf : (Lit.int .i64 n).wf = true) :
    Calls Try.prog 75 #[.pointer (some ⟨xb, 0, none⟩), .agg #[.int .i64 6, .int .i64 n, .int .i64 m, .string s, .slice ka kl kcap]] w (BDo w0 w pp dp rp rq Q Qr b) := by
  have hq0 : Ch (fun _ => False) w (w.alloc (.cells #[.int .i64 6, .int .i64 n, .int .i64 m, .string s, .slice ka kl kcap] 112)).drew := ((Ch.refl _ w).alloc _).drew
  have HQ0 := hid hq0
  have HT := hid (h.quiet hq0)
  have HXq := hid hxq
  have HAb : Hid (¬ Q w.heap.size ∧ ¬ Qr w.heap.size) := hid ⟨fun hQ => by have := (h.z.lt _ hQ).2; omega, fun hQ => by have := (h.r.lt _ hQ).2; omega⟩
  have HRl := hid HT.out.r.lt
  have hbox : (w.alloc (.cells #[.int .i64 6, .int .i64 n, .int .i64 m, .string s, .slice ka kl kcap] 112)).drew.heap[w.heap.size]? = some (.cells #[.int .i64 6, .int .i64 n, .int .i64 m, .string s, .slice ka kl kcap] 112 (0, 0)) := heap_drew (heap_new _)
  have HS0 := hid (show (w.alloc (.cells #[.int .i64 6, .int .i64 n, .int .i64 m, .string s, .slice ka kl kcap] 112)).drew.cell? ⟨xb, 1, none⟩ = some (.pointer (some ⟨pp, 0, none⟩)) ∧ (w.alloc (.cells #[.int .i64 6, .int .i64 n, .int .i64 m, .string s, .slice ka kl kcap] 112)).drew.cell? ⟨xb, 3, none⟩ = some (.pointer (some ⟨rp, 0, none⟩)) ∧ (w.alloc (.cells #[.int .i64 6, .int .i64 n, .int .i64 m, .string s, .slice ka kl kcap] 112)).drew.cell? ⟨w.heap.size, 0, none⟩ = some (.int .i64 6) ∧ (w.alloc (.cells #[.int .i64 6, .int .i64 n, .int .i64 m, .string s, .slice ka kl kcap] 112)).drew.cell? ⟨w.heap.size, 1, none⟩ = some (.int .i64 n) ∧ (w.alloc (.cells #[.int .i64 6, .int .i64 n, .int .i64 m, .string s, .slice ka kl kcap] 112)).drew.cell? ⟨w.heap.size, 2, none⟩ = some (.int .i64 m) ∧ (w.alloc (.cells #[.int .i64 6, .int .i64 n, .int .i64 m, .string s, .slice ka kl kcap] 112)).drew.cell? ⟨w.heap.size, 3, none⟩ = some (.string s) from
    ⟨cell_ch2 hx1 hq0 (fun h => h), cell_ch2 hx3 hq0 (fun h => h), by rw [cell_blk hbox]; rfl, by rw [cell_blk hbox]; rfl, by rw [cell_blk hbox]; rfl, by rw [cell_blk hbox]; rfl⟩)
  obtain ⟨hst, hwt⟩ : p.d.steps ≤ 800000 ∧ p.d.wait.length ≤ 800000 := ⟨by have := hb.pl.steps; omega, by have := hb.pl.wait; omega⟩
  obtain ⟨hpn, hop⟩ : p.pins.length ≤ 800000 ∧ p.ops ≤ 800000 := ⟨by have := hb.pins; omega, by have := hb.ops; omega⟩
  obtain ⟨p', HP'⟩ : ∃ p', Hid ((unpinP p n).2 = p') := ⟨_, hid rfl⟩
  have HPB := hid (hb.unpin n)
  rw [HP'.out] at HPB
  obtain ⟨a0, HA0⟩ : ∃ a, Hid ((unpinP p n).1 = a) := ⟨_, hid rfl⟩
  have hc1 := unpin_z n _ HT.out.z (by omega) hwf
  have hc2 := fun W (hr : RZ w0 W rp rq p Qr) => runpin_any n W hr (by omega)
  unfold RUnPost at hc2
  rw [HP'.out, HA0.out] at hc1
  simp only [HP'.out, HA0.out] at hc2
  have HC1 := hid hc1
  have HC2 := hid hc2
  have hbq0 : ((a0 : Int) == (a0 : Int)) = true := by simp
  clear h hb hb8 hx1 hx3 hxq hq0 hbox hst hwt hpn hop hc1 hc2 hwf
  go_enter Try.func75, Try.ntmps75
  go_wp2_with fail
  refine wp_region_noPanic ?_
  refine wp_region_held_drew (S := (fun W => W.cell? ⟨xb, 1, none⟩ = some (.pointer (some ⟨pp, 0, none⟩)) ∧ W.cell? ⟨xb, 3, none⟩ = some (.pointer (some ⟨rp, 0, none⟩)) ∧ W.cell? ⟨w.heap.size, 0, none⟩ = some (.int .i64 6) ∧ W.cell? ⟨w.heap.size, 1, none⟩ = some (.int .i64 n) ∧ W.cell? ⟨w.heap.size, 2, none⟩ = some (.int .i64 m) ∧ W.cell? ⟨w.heap.size, 3, none⟩ = some (.string s))) (by kernel_rfl) HS0.out (fun hHeld => ?_)
  refine wpAnyH_take (i := 0) (v := ?_) rfl (by kernel_rfl) (by kernel_rfl) (by kernel_rfl) (fun _ _ _ h => h) (Or.inl ⟨by rfl, ?_⟩) (by assumption) ?_
  rotate_left
  · intro w hSw
    try dsimp only at hSw
    go_simp
    all_goals with_reducible rfl
  try simp only [lay_all]
  refine wpAnyH_take (i := 1) (v := ?_) rfl (by kernel_rfl) (by kernel_rfl) (by kernel_rfl) (fun _ _ _ h => h) (Or.inl ⟨by rfl, ?_⟩) (by assumption) ?_
  rotate_left
  · intro w hSw
    try dsimp only at hSw
    go_simp
    all_goals with_reducible rfl
  try simp only [lay_all]
  refine wpAnyH_take (i := 2) (v := ?_) rfl (by kernel_rfl) (by kernel_rfl) (by kernel_rfl) (fun _ _ _ h => h) (Or.inl ⟨by rfl, ?_⟩) (by assumption) ?_
  rotate_left
  · intro w hSw
    try dsimp only at hSw
    go_simp
    all_goals with_reducible rfl
  try simp only [lay_all]
  refine wpAnyH_take (i := 3) (v := ?_) rfl (by kernel_rfl) (by kernel_rfl) (by kernel_rfl) (fun _ _ _ h => h) (Or.inl ⟨by rfl, ?_⟩) (by assumption) ?_
  rotate_left
  · intro w hSw
    try dsimp only at hSw
    go_simp
    all_goals with_reducible rfl
  try simp only [lay_all]
  refine wpAnyH_take (i := 4) (v := ?_) rfl (by kernel_rfl) (by kernel_rfl) (by kernel_rfl) (fun _ _ _ h => h) (Or.inl ⟨by rfl, ?_⟩) (by assumption) ?_
  rotate_left
  · intro w hSw
    try dsimp only at hSw
    go_simp
    all_goals with_reducible rfl
  try simp only [lay_all]
  refine wpAnyH_take (i := 5) (v := ?_) rfl (by kernel_rfl) (by kernel_rfl) (by kernel_rfl) (fun _ _ _ h => h) (Or.inl ⟨by rfl, ?_⟩) (by assumption) ?_
  rotate_left
  · intro w hSw
    try dsimp only at hSw
    go_simp
    all_goals with_reducible rfl
  try simp only [lay_all]
  refine wpAnyH_take (i := 8) (v := ?_) rfl (by kernel_rfl) (by kernel_rfl) (by kernel_rfl) (fun _ _ _ h => h) (Or.inl ⟨by rfl, ?_⟩) (by assumption) ?_
  rotate_left
  · intro w hSw
    try dsimp only at hSw
    go_simp
    all_goals with_reducible rfl
  try simp only [lay_all]
  refine wpAnyH_take (i := 9) (v := ?_) rfl (by kernel_rfl) (by kernel_rfl) (by kernel_rfl) (fun _ _ _ h => h) (Or.inl ⟨by rfl, ?_⟩) (by assumption) ?_
  rotate_left
  · intro w hSw
    try dsimp only at hSw
    go_simp
    all_goals with_reducible rfl
  try simp only [lay_all]
  refine wpAnyH_take (i := 10) (v := ?_) rfl (by kernel_rfl) (by kernel_rfl) (by kernel_rfl) (fun _ _ _ h => h) (Or.inl ⟨by rfl, ?_⟩) (by assumption) ?_
  rotate_left
  · intro w hSw
    try dsimp only at hSw
    go_simp
    all_goals with_reducible rfl
  try simp only [lay_all]
  refine wpAnyH_take (i := 11) (v := ?_) rfl (by kernel_rfl) (by kernel_rfl) (by kernel_rfl) (fun _ _ _ h => h) (Or.inl ⟨by rfl, ?_⟩) (by assumption) ?_
  rotate_left
  · intro w hSw
    try dsimp only at hSw
    go_simp
    all_goals with_reducible rfl
  try simp only [lay_all]
  refine wpAnyH_take (i := 12) (v := ?_) rfl (by kernel_rfl) (by kernel_rfl) (by kernel_rfl) (fun _ _ _ h => h) (Or.inl ⟨by rfl, ?_⟩) (by assumption) ?_
  rotate_left
  · intro w hSw
    try dsimp only at hSw
    go_simp
    all_goals with_reducible rfl
  try simp only [lay_all]
  refine wpAnyH_take (i := 13) (v := ?_) rfl (by kernel_rfl) (by kernel_rfl) (by kernel_rfl) (fun _ _ _ h => h) (Or.inl ⟨by rfl, ?_⟩) (by assumption) ?_
  rotate_left
  · intro w hSw
    try dsimp only at hSw
    go_simp
    all_goals with_reducible rfl
  try simp only [lay_all]
  refine wpAnyH_ready (rs := [6]) (by kernel_rfl) (by simp) ?_
  refine AllReadyH.cons rfl (fun K hK => ?_) AllReadyH.nil
  go_simp
  refine HC1.out.mono ?_
  rintro e w1 ⟨rfl, hz1⟩
  have HS2 := hid (keep6 HS0.out (zch hz1) (fun q hq => by subst hq; exact HXq.out.1) (fun q hq hQ => by subst hq; have := (HT.out.z.lt _ hQ).2; exact HAb.out.1 hQ))
  have HMid := hid (HT.out.mid hz1)
  clear hz1
  go_wp2_with fail
  refine hK.out _ _ ?_ (fun hHeld => ?_)
  · first | exact HS2.out | assumption
  clear hK K
  try simp only [lay_all]
  refine wpAnyH_ready (rs := [7]) (by kernel_rfl) (by simp) ?_
  refine AllReadyH.cons rfl (fun K hK => ?_) AllReadyH.nil
  go_simp
  refine (no3_any _ _).mono ?_
  rintro e w' ⟨rfl, rfl⟩
  go_wp2_with fail
  refine hK.out _ _ ?_ (fun hHeld => ?_)
  · first | exact HS2.out | assumption
  clear hK K
  try simp only [lay_all]
  refine wpAnyH_ready (rs := [14]) (by kernel_rfl) (by simp) ?_
  refine AllReadyH.cons rfl (fun K hK => ?_) AllReadyH.nil
  go_simp
  obtain ⟨Q1, z1, r1, d1, f1, c1⟩ := HMid.out
  have hq : Ch (fun _ => False) w1 w1 := Ch.refl _ _
  have HRr := hid (r1.ch hq (fun _ _ h => h) (fun _ _ h => h))
  have HZz := hid (And.intro z1 (And.intro d1 (And.intro f1 c1)))
  have HQq := hid hq
  clear z1 r1 d1 f1 c1 hq
  refine (HC2.out _ HRr.out).mono ?_
  rintro e w3 ⟨rfl, hr3⟩
  have HS2 := hid (keep6 HS2.out (rch hr3) (fun q hq => by subst hq; exact HXq.out.2) (fun q hq hQ => by subst hq; exact HAb.out.2 hQ))
  have HFin := hid (Two.fin HZz.out.1 HZz.out.2.1 HZz.out.2.2.1 HZz.out.2.2.2 HRl.out HQq.out hr3)
  clear hr3
  go_wp2_with fail
  refine hK.out _ _ ?_ (fun hHeld => ?_)
  · first | exact HS2.out | assumption
  clear hK K
  try simp only [lay_all]
  refine wpAnyH_take (i := 15) (v := ?_) rfl (by kernel_rfl) (by kernel_rfl) (by kernel_rfl) (fun _ _ _ h => h) (Or.inl ⟨by rfl, ?_⟩) (by assumption) ?_
  rotate_left
  · intro w hSw
    try dsimp only at hSw
    go_simp
    all_goals with_reducible rfl
  try simp only [lay_all]
  refine wpAnyH_take (i := 16) (v := ?_) rfl (by kernel_rfl) (by kernel_rfl) (by kernel_rfl) (fun _ _ _ h => h) (Or.inl ⟨by rfl, ?_⟩) (by assumption) ?_
  rotate_left
  · intro w hSw
    try dsimp only at hSw
    go_simp
    all_goals with_reducible rfl
  try simp only [lay_all]
  refine wpAnyH_done (by kernel_rfl) ?_ _
  refine NoPanic.normal ?_
  go_wp2_with fail
  go_ret
  exact ⟨rfl, p', TPost.from_ HQ0.out HFin.out, HPB.out⟩

set_option maxRecDepth 100000 in
set_option maxHeartbeats 4000000 in
theorem bdo5_any {w0 : World} {pp dp rp rq xb b : Nat} {p : Pg} {Q Qr : Nat → Prop} (n m : Int) (s : ByteArray) (ka : Option Addr) (kl kcap : Nat) (w : World) (h : Two w0 w pp dp rp rq p Q Qr) (hb : PB p b) (hb8 : b ≤ 800000)
    (hx1 : w.cell? ⟨xb, 1, none⟩ = some (.pointer (some ⟨pp, 0, none⟩))) (hx3 : w.cell? ⟨xb, 3, none⟩ = some (.pointer (some ⟨rp, 0, none⟩))) (hxq : ¬ Q xb ∧ ¬ Qr xb) :
    Calls Try.prog 75 #[.pointer (some ⟨xb, 0, none⟩), .agg #[.int .i64 5, .int .i64 n, .int .i64 m, .string s, .slice ka kl kcap]] w (BDo w0 w pp dp rp rq Q Qr b) := by
  have hq0 : Ch (fun _ => False) w (w.alloc (.cells #[.int .i64 5, .int .i64 n, .int .i64 m, .string s, .slice ka kl kcap] 112)).drew := ((Ch.refl _ w).alloc _).drew
  have HQ0 := hid hq0
  have HT := hid (h.quiet hq0)
  have HXq := hid hxq
  have HAb : Hid (¬ Q w.heap.size ∧ ¬ Qr w.heap.size) := hid ⟨fun hQ => by have := (h.z.lt _ hQ).2; omega, fun hQ => by have := (h.r.lt _ hQ).2; omega⟩
  have HRl := hid HT.out.r.lt
  have hbox : (w.alloc (.cells #[.int .i64 5, .int .i64 n, .int .i64 m, .string s, .slice ka kl kcap] 112)).drew.heap[w.heap.size]? = some (.cells #[.int .i64 5, .int .i64 n, .int .i64 m, .string s, .slice ka kl kcap] 112 (0, 0)) := heap_drew (heap_new _)
  have HS0 := hid (show (w.alloc (.cells #[.int .i64 5, .int .i64 n, .int .i64 m, .string s, .slice ka kl kcap] 112)).drew.cell? ⟨xb, 1, none⟩ = some (.pointer (some ⟨pp, 0, none⟩)) ∧ (w.alloc (.cells #[.int .i64 5, .int .i64 n, .int .i64 m, .string s, .slice ka kl kcap] 112)).drew.cell? ⟨xb, 3, none⟩ = some (.pointer (some ⟨rp, 0, none⟩)) ∧ (w.alloc (.cells #[.int .i64 5, .int .i64 n, .int .i64 m, .string s, .slice ka kl kcap] 112)).drew.cell? ⟨w.heap.size, 0, none⟩ = some (.int .i64 5) ∧ (w.alloc (.cells #[.int .i64 5, .int .i64 n, .int .i64 m, .string s, .slice ka kl kcap] 112)).drew.cell? ⟨w.heap.size, 1, none⟩ = some (.int .i64 n) ∧ (w.alloc (.cells #[.int .i64 5, .int .i64 n, .int .i64 m, .string s, .slice ka kl kcap] 112)).drew.cell? ⟨w.heap.size, 2, none⟩ = some (.int .i64 m) ∧ (w.alloc (.cells #[.int .i64 5, .int .i64 n, .int .i64 m, .string s, .slice ka kl kcap] 112)).drew.cell? ⟨w.heap.size, 3, none⟩ = some (.string s) from
    ⟨cell_ch2 hx1 hq0 (fun h => h), cell_ch2 hx3 hq0 (fun h => h), by rw [cell_blk hbox]; rfl, by rw [cell_blk hbox]; rfl, by rw [cell_blk hbox]; rfl, by rw [cell_blk hbox]; rfl⟩)
  obtain ⟨hst, hwt⟩ : p.d.steps ≤ 800000 ∧ p.d.wait.length ≤ 800000 := ⟨by have := hb.pl.steps; omega, by have := hb.pl.wait; omega⟩
  obtain ⟨hpn, hop⟩ : p.pins.length ≤ 800000 ∧ p.ops ≤ 800000 := ⟨by have := hb.pins; omega, by have := hb.ops; omega⟩
  obtain ⟨p', HP'⟩ : ∃ p', Hid (pinP p = p') := ⟨_, hid rfl⟩
  have HPB := hid (hb.pin)
  rw [HP'.out] at HPB
  obtain ⟨a0, HA0⟩ : ∃ a, Hid (p.gen = a) := ⟨_, hid rfl⟩
  have hc1 := pin_z _ HT.out.z (by omega)
  have hc2 := fun W (hr : RZ w0 W rp rq p Qr) => rpin_any W hr (by omega)
  rw [HP'.out, HA0.out] at hc1
  simp only [HP'.out, HA0.out] at hc2
  have HC1 := hid hc1
  have HC2 := hid hc2
  have hbq0 : ((a0 : Int) == (a0 : Int)) = true := by simp
  clear h hb hb8 hx1 hx3 hxq hq0 hbox hst hwt hpn hop hc1 hc2
  go_enter Try.func75, Try.ntmps75
  go_wp2_with fail
  refine wp_region_noPanic ?_
  refine wp_region_held_drew (S := (fun W => W.cell? ⟨xb, 1, none⟩ = some (.pointer (some ⟨pp, 0, none⟩)) ∧ W.cell? ⟨xb, 3, none⟩ = some (.pointer (some ⟨rp, 0, none⟩)) ∧ W.cell? ⟨w.heap.size, 0, none⟩ = some (.int .i64 5) ∧ W.cell? ⟨w.heap.size, 1, none⟩ = some (.int .i64 n) ∧ W.cell? ⟨w.heap.size, 2, none⟩ = some (.int .i64 m) ∧ W.cell? ⟨w.heap.size, 3, none⟩ = some (.string s))) (by kernel_rfl) HS0.out (fun hHeld => ?_)
  refine wpAnyH_take (i := 0) (v := ?_) rfl (by kernel_rfl) (by kernel_rfl) (by kernel_rfl) (fun _ _ _ h => h) (Or.inl ⟨by rfl, ?_⟩) (by assumption) ?_
  rotate_left
  · intro w hSw
    try dsimp only at hSw
    go_simp
    all_goals with_reducible rfl
  try simp only [lay_all]
  refine wpAnyH_take (i := 1) (v := ?_) rfl (by kernel_rfl) (by kernel_rfl) (by kernel_rfl) (fun _ _ _ h => h) (Or.inl ⟨by rfl, ?_⟩) (by assumption) ?_
  rotate_left
  · intro w hSw
    try dsimp only at hSw
    go_simp
    all_goals with_reducible rfl
  try simp only [lay_all]
  refine wpAnyH_take (i := 2) (v := ?_) rfl (by kernel_rfl) (by kernel_rfl) (by kernel_rfl) (fun _ _ _ h => h) (Or.inl ⟨by rfl, ?_⟩) (by assumption) ?_
  rotate_left
  · intro w hSw
    try dsimp only at hSw
    go_simp
    all_goals with_reducible rfl
  try simp only [lay_all]
  refine wpAnyH_take (i := 3) (v := ?_) rfl (by kernel_rfl) (by kernel_rfl) (by kernel_rfl) (fun _ _ _ h => h) (Or.inl ⟨by rfl, ?_⟩) (by assumption) ?_
  rotate_left
  · intro w hSw
    try dsimp only at hSw
    go_simp
    all_goals with_reducible rfl
  try simp only [lay_all]
  refine wpAnyH_take (i := 5) (v := ?_) rfl (by kernel_rfl) (by kernel_rfl) (by kernel_rfl) (fun _ _ _ h => h) (Or.inl ⟨by rfl, ?_⟩) (by assumption) ?_
  rotate_left
  · intro w hSw
    try dsimp only at hSw
    go_simp
    all_goals with_reducible rfl
  try simp only [lay_all]
  refine wpAnyH_take (i := 6) (v := ?_) rfl (by kernel_rfl) (by kernel_rfl) (by kernel_rfl) (fun _ _ _ h => h) (Or.inl ⟨by rfl, ?_⟩) (by assumption) ?_
  rotate_left
  · intro w hSw
    try dsimp only at hSw
    go_simp
    all_goals with_reducible rfl
  try simp only [lay_all]
  refine wpAnyH_take (i := 7) (v := ?_) rfl (by kernel_rfl) (by kernel_rfl) (by kernel_rfl) (fun _ _ _ h => h) (Or.inl ⟨by rfl, ?_⟩) (by assumption) ?_
  rotate_left
  · intro w hSw
    try dsimp only at hSw
    go_simp
    all_goals with_reducible rfl
  try simp only [lay_all]
  refine wpAnyH_take (i := 8) (v := ?_) rfl (by kernel_rfl) (by kernel_rfl) (by kernel_rfl) (fun _ _ _ h => h) (Or.inl ⟨by rfl, ?_⟩) (by assumption) ?_
  rotate_left
  · intro w hSw
    try dsimp only at hSw
    go_simp
    all_goals with_reducible rfl
  try simp only [lay_all]
  refine wpAnyH_ready (rs := [4]) (by kernel_rfl) (by simp) ?_
  refine AllReadyH.cons rfl (fun K hK => ?_) AllReadyH.nil
  go_simp
  refine HC1.out.mono ?_
  rintro e w1 ⟨rfl, hz1⟩
  have HS2 := hid (keep6 HS0.out (zch hz1) (fun q hq => by subst hq; exact HXq.out.1) (fun q hq hQ => by subst hq; have := (HT.out.z.lt _ hQ).2; exact HAb.out.1 hQ))
  have HMid := hid (HT.out.mid hz1)
  clear hz1
  go_wp2_with fail
  refine hK.out _ _ ?_ (fun hHeld => ?_)
  · first | exact HS2.out | assumption
  clear hK K
  try simp only [lay_all]
  refine wpAnyH_ready (rs := [9]) (by kernel_rfl) (by simp) ?_
  refine AllReadyH.cons rfl (fun K hK => ?_) AllReadyH.nil
  go_simp
  obtain ⟨Q1, z1, r1, d1, f1, c1⟩ := HMid.out
  have hq : Ch (fun _ => False) w1 w1 := Ch.refl _ _
  have HRr := hid (r1.ch hq (fun _ _ h => h) (fun _ _ h => h))
  have HZz := hid (And.intro z1 (And.intro d1 (And.intro f1 c1)))
  have HQq := hid hq
  clear z1 r1 d1 f1 c1 hq
  refine (HC2.out _ HRr.out).mono ?_
  rintro e w3 ⟨rfl, hr3⟩
  have HS2 := hid (keep6 HS2.out (rch hr3) (fun q hq => by subst hq; exact HXq.out.2) (fun q hq hQ => by subst hq; exact HAb.out.2 hQ))
  have HFin := hid (Two.fin HZz.out.1 HZz.out.2.1 HZz.out.2.2.1 HZz.out.2.2.2 HRl.out HQq.out hr3)
  clear hr3
  go_wp2_with fail
  refine hK.out _ _ ?_ (fun hHeld => ?_)
  · first | exact HS2.out | assumption
  clear hK K
  try simp only [lay_all]
  refine wpAnyH_take (i := 10) (v := ?_) rfl (by kernel_rfl) (by kernel_rfl) (by kernel_rfl) (fun _ _ _ h => h) (Or.inl ⟨by rfl, ?_⟩) (by assumption) ?_
  rotate_left
  · intro w hSw
    try dsimp only at hSw
    go_simp
    all_goals with_reducible rfl
  try simp only [lay_all]
  refine wpAnyH_take (i := 11) (v := ?_) rfl (by kernel_rfl) (by kernel_rfl) (by kernel_rfl) (fun _ _ _ h => h) (Or.inl ⟨by rfl, ?_⟩) (by assumption) ?_
  rotate_left
  · intro w hSw
    try dsimp only at hSw
    go_simp
    all_goals with_reducible rfl
  try simp only [lay_all]
  refine wpAnyH_done (by kernel_rfl) ?_ _
  refine NoPanic.normal ?_
  go_wp2_with fail
  go_ret
  exact ⟨rfl, p', TPost.from_ HQ0.out HFin.out, HPB.out⟩

end Go.Proofs.Ytadhibemadgcoaa
